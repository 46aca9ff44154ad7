/-
  slices.SortFunc, slices.CompactFunc, slices.Reverse of the seat's program, as functions of the library.
  Conditions: none.
-/
import Derived.Test.YtcpfklamgkilnaaGreatDoorLyt
import Derived.Test.YtcpfklamgkilnaaGreatDoorVd
import Derived.Test.YtcpfklamgkilnaaGreatDoorCmf
import Derived.Test.YtcpfklamgkilnaaGreatDoorPSrt
namespace Go.Proofs
open Go.Shelf Go.Vt
set_option maxRecDepth 100000
theorem Tryz.cmpGives (x y : List Int) (hx : x.length ≤ 9223372036854775807) (hy : y.length ≤ 9223372036854775807) : GivesO Tryz.prog g1 160 Pc.slices_Compare_int_fi (x, y) (cmpI x y) := by
 obtain ⟨k, hk⟩ := Qc.EG x y hx hy
 exact (gives (P := Tryz.prog) (gw := Pc.gw) Tryz.checked.mixed Pc.hE Pc.hF (f := 160) (ids := []) (by kernel_rfl) hk).o rfl
theorem Tryz.eqGives (x y : List Int) (hx : x.length ≤ 9223372036854775807) (hy : y.length ≤ 9223372036854775807) : GivesO Tryz.prog g1 153 Pc.slices_Equal_int_fi (x, y) (decide (x = y)) := by
 obtain ⟨k, hk⟩ := Qc.E9 x y hx hy
 exact (gives (P := Tryz.prog) (gw := Pc.gw) Tryz.checked.mixed Pc.hE Pc.hF (f := 153) (ids := []) (by kernel_rfl) hk).o rfl
theorem Tryz.sortOne {gw : Gw} : OneF Tryz.prog gw 159 (sortFi 160) :=
 F4 (ρ := Tryz.laysSort_ren) Tryz.laysSort (fn := Tryz.f159) Tryz.func159 (by kernel_rfl) (by kernel_rfl) (enters_of Tryz.func160 (by kernel_rfl) rfl) Tryz.cmpGives
theorem Tryz.compactOne {gw : Gw} : OneF Tryz.prog gw 161 compactFi := Jm Tryz.eqGives
theorem Tryz.revOne {gw : Gw} : OneF Tryz.prog gw 143 reverseFi := KS (ρ := Tryz.laysRev_ren) Tryz.laysRev (fn := Tryz.f143) Tryz.func143 (by kernel_rfl) (by kernel_rfl)
theorem Tryz.growOne {gw : Gw} : OneF Tryz.prog gw 142 growFi :=
 Ep (ρ := Tryz.laysGrow_ren) Tryz.laysGrow _ (.int .i64 0) rfl rfl rfl rfl (fun n => by simp [Builtin.zeroCells, Value.cells]) (fn := Tryz.f142) Tryz.func142 (by kernel_rfl) (by kernel_rfl)
#print axioms Tryz.growOne
#print axioms Tryz.sortOne
#print axioms Tryz.compactOne
#print axioms Tryz.revOne
end Go.Proofs
