/-
  The law FnExactVerdictLine holds of every input: the row of the statement, from what the law's function comes to.
  Conditions: those of the given statement alone.
-/
import Derived.Test.YtgbbdagfjenmeaaGreatDoorRwaVerdictLine
import Derived.Test.YtgbbdagfjenmeaaGreatDoorRwdVerdictLine
namespace Go.Proofs.YtgbbdagfjenmeaaGreatDoor.fnExactVerdictLine
open Go.ChangeShapes Go.WideShapes Go.ChangeAt Go.RowKit Go.Vt
set_option linter.unusedVariables false
theorem over : Rows.fnExactVerdictLineRow.holds Tryz.pinned (OpenSpec.ofChange Rows.fnExactVerdictLineSpec) :=
 OpenClaim.holds_of_wide 8 Tryz.f8 rfl rfl rfl rfl rfl rfl rfl ⟨rfl, rfl, rfl, rfl, rfl⟩ rfl rfl rfl rfl rfl (by kernel_rfl) Tryz.func8 closed
  (of_decide_eq_true (by kernel_rfl)) (by unfold Func.isWrapper; first | (rw [if_pos (by decide +kernel)]; kernel_rfl) | (rw [if_neg (by decide +kernel)]; exact ⟨rfl, rfl⟩))
  (fun os started H enc _ => Zs os started H enc)
end Go.Proofs.YtgbbdagfjenmeaaGreatDoor.fnExactVerdictLine
