/-
  slices.SortFunc, slices.CompactFunc, slices.Reverse of the seat's program, as functions of the library.
  Conditions: none.
-/
import Derived.Test.YtcchipplglbfmaaGreatDoorLyt
import Derived.Test.YtcchipplglbfmaaGreatDoorXvzk
import Derived.Test.YtcchipplglbfmaaGreatDoorCmf
import Derived.Test.YtcchipplglbfmaaGreatDoorPSrt
namespace Go.Proofs
open Go.Shelf Go.Vt
set_option maxRecDepth 100000
theorem Tryz.cmpGives (x y : List Int) (hx : x.length ≤ 9223372036854775807) (hy : y.length ≤ 9223372036854775807) : GivesO Tryz.prog g1 162 Pc.slices_Compare_int_fi (x, y) (cmpI x y) := by
  obtain ⟨k, hk⟩ := Qc.cmpI_ev x y hx hy
  exact (gives (P := Tryz.prog) (gw := Pc.gw) Tryz.checked.mixed Pc.hE Pc.hF (f := 162) (ids := []) (by kernel_rfl) hk).o rfl
theorem Tryz.eqGives (x y : List Int) (hx : x.length ≤ 9223372036854775807) (hy : y.length ≤ 9223372036854775807) : GivesO Tryz.prog g1 105 Pc.slices_Equal_int_fi (x, y) (decide (x = y)) := by
  obtain ⟨k, hk⟩ := Qc.eqI_ev x y hx hy
  exact (gives (P := Tryz.prog) (gw := Pc.gw) Tryz.checked.mixed Pc.hE Pc.hF (f := 105) (ids := []) (by kernel_rfl) hk).o rfl
theorem Tryz.sortOne {gw : Gw} : OneF Tryz.prog gw 161 (sortFi 162) :=
  sort_ok (ρ := Tryz.laysSort_ren) Tryz.laysSort (fn := Tryz.f161) Tryz.func161 (by kernel_rfl) (by kernel_rfl) (enters_of Tryz.func162 (by kernel_rfl) rfl) Tryz.cmpGives
theorem Tryz.compactOne {gw : Gw} : OneF Tryz.prog gw 163 compactFi := compact_ok Tryz.eqGives
theorem Tryz.revOne {gw : Gw} : OneF Tryz.prog gw 158 reverseFi := reverse_ok (ρ := Tryz.laysRev_ren) Tryz.laysRev (fn := Tryz.f158) Tryz.func158 (by kernel_rfl) (by kernel_rfl)
theorem Tryz.growOne {gw : Gw} : OneF Tryz.prog gw 157 growFi :=
  grow_ok (ρ := Tryz.laysGrow_ren) Tryz.laysGrow _ (.int .i64 0) rfl rfl rfl rfl (fun n => by simp [Builtin.zeroCells, Value.cells]) (fn := Tryz.f157) Tryz.func157 (by kernel_rfl) (by kernel_rfl)
#print axioms Tryz.growOne
#print axioms Tryz.sortOne
#print axioms Tryz.compactOne
#print axioms Tryz.revOne
end Go.Proofs
