/-
  slices.SortFunc, slices.CompactFunc, slices.Reverse of the seat's program, as functions of the library.
  Conditions: none.
-/
import Derived.Test.YtgbbdagfjenmeaaGreatDoorLyt
import Derived.Test.YtgbbdagfjenmeaaGreatDoorVd
import Derived.Test.YtgbbdagfjenmeaaGreatDoorCmf
import Derived.Test.YtgbbdagfjenmeaaGreatDoorPSrt
namespace Go.Proofs
open Go.Shelf Go.Vt
set_option maxRecDepth 100000
theorem Tryz.cmpGives (x y : List Int) (hx : x.length ≤ 9223372036854775807) (hy : y.length ≤ 9223372036854775807) : GivesO Tryz.prog g1 209 Pc.slices_Compare_int_fi (x, y) (cmpI x y) := by
 obtain ⟨k, hk⟩ := Qc.M5 x y hx hy
 exact (gives (P := Tryz.prog) (gw := Pc.gw) Tryz.checked.mixed Pc.hE Pc.hF (f := 209) (ids := []) (by kernel_rfl) hk).o rfl
theorem Tryz.eqGives (x y : List Int) (hx : x.length ≤ 9223372036854775807) (hy : y.length ≤ 9223372036854775807) : GivesO Tryz.prog g1 65 Pc.slices_Equal_int_fi (x, y) (decide (x = y)) := by
 obtain ⟨k, hk⟩ := Qc.Lt x y hx hy
 exact (gives (P := Tryz.prog) (gw := Pc.gw) Tryz.checked.mixed Pc.hE Pc.hF (f := 65) (ids := []) (by kernel_rfl) hk).o rfl
theorem Tryz.sortOne {gw : Gw} : OneF Tryz.prog gw 208 (sortFi 209) :=
 MC (ρ := Tryz.laysSort_ren) Tryz.laysSort (fn := Tryz.f208) Tryz.func208 (by kernel_rfl) (by kernel_rfl) (enters_of Tryz.func209 (by kernel_rfl) rfl) Tryz.cmpGives
theorem Tryz.compactOne {gw : Gw} : OneF Tryz.prog gw 210 compactFi := QF Tryz.eqGives
theorem Tryz.revOne {gw : Gw} : OneF Tryz.prog gw 205 reverseFi := R9 (ρ := Tryz.laysRev_ren) Tryz.laysRev (fn := Tryz.f205) Tryz.func205 (by kernel_rfl) (by kernel_rfl)
theorem Tryz.growOne {gw : Gw} : OneF Tryz.prog gw 204 growFi :=
 MT (ρ := Tryz.laysGrow_ren) Tryz.laysGrow _ (.int .i64 0) rfl rfl rfl rfl (fun n => by simp [Builtin.zeroCells, Value.cells]) (fn := Tryz.f204) Tryz.func204 (by kernel_rfl) (by kernel_rfl)
#print axioms Tryz.growOne
#print axioms Tryz.sortOne
#print axioms Tryz.compactOne
#print axioms Tryz.revOne
end Go.Proofs
