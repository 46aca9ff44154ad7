/-
  The law FnExactIsNeeded holds of every input: the row of the statement, from what the law's function comes to.
  Conditions: those of the given statement alone.
-/
import Derived.Test.YtgbbdagfjenmeaaGreatDoorRwaIsNeeded
import Derived.Test.YtgbbdagfjenmeaaGreatDoorRwdIsNeeded
namespace Go.Proofs.YtgbbdagfjenmeaaGreatDoor.fnExactIsNeeded
open Go.ChangeShapes Go.WideShapes Go.ChangeAt Go.RowKit Go.Vt
set_option linter.unusedVariables false
theorem over : Rows.fnExactIsNeededRow.holds Tryz.pinned (OpenSpec.ofChange Rows.fnExactIsNeededSpec) :=
 OpenClaim.holds_of_wide 5 Tryz.f5 rfl rfl rfl rfl rfl rfl rfl ⟨rfl, rfl, rfl, rfl, rfl⟩ rfl rfl rfl rfl rfl (by kernel_rfl) Tryz.func5 closed
  (of_decide_eq_true (by kernel_rfl)) (by unfold Func.isWrapper; first | (rw [if_pos (by decide +kernel)]; kernel_rfl) | (rw [if_neg (by decide +kernel)]; exact ⟨rfl, rfl⟩))
  (fun os started H enc _ => Zs os started H enc)
end Go.Proofs.YtgbbdagfjenmeaaGreatDoor.fnExactIsNeeded
