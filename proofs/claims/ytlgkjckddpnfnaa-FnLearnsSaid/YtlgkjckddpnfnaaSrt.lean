/-
  slices.SortFunc, slices.CompactFunc, slices.Reverse of the seat's program, as functions of the library.
  Conditions: none.
-/
import Derived.Test.YtlgkjckddpnfnaaLyt
import Derived.Test.YtlgkjckddpnfnaaXvzk
import Derived.Test.YtlgkjckddpnfnaaCmf
import Derived.Test.YtlgkjckddpnfnaaPSrt
namespace Go.Proofs
open Go.Shelf Go.Vt
set_option maxRecDepth 100000
theorem Try.cmpGives (x y : List Int) (hx : x.length ≤ 9223372036854775807) (hy : y.length ≤ 9223372036854775807) : GivesO Try.prog g1 92 Pc.slices_Compare_int_fi (x, y) (cmpI x y) := by
  obtain ⟨k, hk⟩ := Qc.cmpI_ev x y hx hy
  exact (gives (P := Try.prog) (gw := Pc.gw) Try.checked.mixed Pc.hE Pc.hF (f := 92) (ids := []) (by kernel_rfl) hk).o rfl
theorem Try.eqGives (x y : List Int) (hx : x.length ≤ 9223372036854775807) (hy : y.length ≤ 9223372036854775807) : GivesO Try.prog g1 119 Pc.slices_Equal_int_fi (x, y) (decide (x = y)) := by
  obtain ⟨k, hk⟩ := Qc.eqI_ev x y hx hy
  exact (gives (P := Try.prog) (gw := Pc.gw) Try.checked.mixed Pc.hE Pc.hF (f := 119) (ids := []) (by kernel_rfl) hk).o rfl
theorem Try.sortOne {gw : Gw} : OneF Try.prog gw 117 (sortFi 92) :=
  sort_ok (ρ := Try.laysSort_ren) Try.laysSort (fn := Try.f117) Try.func117 (by kernel_rfl) (by kernel_rfl) (enters_of Try.func92 (by kernel_rfl) rfl) Try.cmpGives
theorem Try.compactOne {gw : Gw} : OneF Try.prog gw 118 compactFi := compact_ok Try.eqGives
theorem Try.revOne {gw : Gw} : OneF Try.prog gw 139 reverseFi := reverse_ok (ρ := Try.laysRev_ren) Try.laysRev (fn := Try.f139) Try.func139 (by kernel_rfl) (by kernel_rfl)
theorem Try.growOne {gw : Gw} : OneF Try.prog gw 138 growFi :=
  grow_ok (ρ := Try.laysGrow_ren) Try.laysGrow _ (.int .i64 0) rfl rfl rfl rfl (fun n => by simp [Builtin.zeroCells, Value.cells]) (fn := Try.f138) Try.func138 (by kernel_rfl) (by kernel_rfl)
#print axioms Try.growOne
#print axioms Try.sortOne
#print axioms Try.compactOne
#print axioms Try.revOne
end Go.Proofs
