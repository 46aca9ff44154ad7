/-
  slices.SortFunc, slices.CompactFunc, slices.Reverse of the seat's program, as functions of the library.
  Conditions: none.
-/
import Derived.Test.YtlgkjckddpnfnaaGreatDoorLyt
import Derived.Test.YtlgkjckddpnfnaaGreatDoorXvzk
import Derived.Test.YtlgkjckddpnfnaaGreatDoorCmf
import Derived.Test.YtlgkjckddpnfnaaGreatDoorPSrt
namespace Go.Proofs
open Go.Shelf Go.Vt
set_option maxRecDepth 100000
theorem Tryz.cmpGives (x y : List Int) (hx : x.length ≤ 9223372036854775807) (hy : y.length ≤ 9223372036854775807) : GivesO Tryz.prog g1 65 Pc.slices_Compare_int_fi (x, y) (cmpI x y) := by
  obtain ⟨k, hk⟩ := Qc.cmpI_ev x y hx hy
  exact (gives (P := Tryz.prog) (gw := Pc.gw) Tryz.checked.mixed Pc.hE Pc.hF (f := 65) (ids := []) (by kernel_rfl) hk).o rfl
theorem Tryz.eqGives (x y : List Int) (hx : x.length ≤ 9223372036854775807) (hy : y.length ≤ 9223372036854775807) : GivesO Tryz.prog g1 21 Pc.slices_Equal_int_fi (x, y) (decide (x = y)) := by
  obtain ⟨k, hk⟩ := Qc.eqI_ev x y hx hy
  exact (gives (P := Tryz.prog) (gw := Pc.gw) Tryz.checked.mixed Pc.hE Pc.hF (f := 21) (ids := []) (by kernel_rfl) hk).o rfl
theorem Tryz.sortOne {gw : Gw} : OneF Tryz.prog gw 64 (sortFi 65) :=
  sort_ok (ρ := Tryz.laysSort_ren) Tryz.laysSort (fn := Tryz.f64) Tryz.func64 (by kernel_rfl) (by kernel_rfl) (enters_of Tryz.func65 (by kernel_rfl) rfl) Tryz.cmpGives
theorem Tryz.compactOne {gw : Gw} : OneF Tryz.prog gw 66 compactFi := compact_ok Tryz.eqGives
theorem Tryz.revOne {gw : Gw} : OneF Tryz.prog gw 61 reverseFi := reverse_ok (ρ := Tryz.laysRev_ren) Tryz.laysRev (fn := Tryz.f61) Tryz.func61 (by kernel_rfl) (by kernel_rfl)
theorem Tryz.growOne {gw : Gw} : OneF Tryz.prog gw 60 growFi :=
  grow_ok (ρ := Tryz.laysGrow_ren) Tryz.laysGrow _ (.int .i64 0) rfl rfl rfl rfl (fun n => by simp [Builtin.zeroCells, Value.cells]) (fn := Tryz.f60) Tryz.func60 (by kernel_rfl) (by kernel_rfl)
#print axioms Tryz.growOne
#print axioms Tryz.sortOne
#print axioms Tryz.compactOne
#print axioms Tryz.revOne
end Go.Proofs
