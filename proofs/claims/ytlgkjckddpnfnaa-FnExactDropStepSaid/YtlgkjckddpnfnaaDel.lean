/-
  slices.Delete[Step] of the seat's program, as a function to which a row is given.
  Conditions: none.
-/
import Derived.Test.YtlgkjckddpnfnaaLyt
import Derived.Test.YtlgkjckddpnfnaaProg
import Derived.Test.YtlgkjckddpnfnaaXvzh
namespace Go.Proofs
open Go.Shelf Go.Vt
def Try.stepTy : Ty := .pair (.int .i64) (.pair (.pair (.int .i64) (.int .i64)) (.int .i64))
def Try.stepZ : Value := .agg #[.int .i64 0, .int .i64 0, .int .i64 0, .int .i64 0]
theorem Try.stepZ_cells (n : Nat) : (Builtin.zeroCells Try.stepZ.cells n).toList = List.replicate (n * 4) (Value.int .i64 0) := by
  apply List.ext_getElem
  · simp [Builtin.zeroCells, Try.stepZ, Value.cells]
  · intro i h1 h2
    rw [List.getElem_replicate]
    have h4 : i % 4 < 4 := Nat.mod_lt _ (by omega)
    simp only [Builtin.zeroCells, Try.stepZ, Value.cells, Array.getElem_toList]
    have : i % 4 = 0 ∨ i % 4 = 1 ∨ i % 4 = 2 ∨ i % 4 = 3 := by omega
    rcases this with h | h | h | h <;> simp [h]
set_option maxRecDepth 100000 in
theorem Try.delOne {gw : World → Prop} : OneF Try.prog gw 60 (deleteFi Try.stepTy) :=
  delete_ok (ρ := Try.laysDel_ren) (t := Try.stepTy) rfl (by decide) Try.laysDel Try.isAgg61 Try.sizeOf61 Try.stepZ Try.zeroValue61 _ rfl rfl
    (fun n => by rw [Try.stepZ_cells, List.length_replicate]; rfl)
    (fun n v hv => by rw [Try.stepZ_cells] at hv; rw [List.eq_of_mem_replicate hv]; rfl) (fn := Try.f60) Try.func60 (by kernel_rfl) (by kernel_rfl)
#print axioms Try.delOne
end Go.Proofs
