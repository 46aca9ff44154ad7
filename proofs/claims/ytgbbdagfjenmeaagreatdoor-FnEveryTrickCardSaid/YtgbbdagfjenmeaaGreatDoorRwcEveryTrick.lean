/-
  The law FnEveryTrick holds of every input: the row of the statement, from what the law's function comes to.
  Conditions: those of the given statement alone.
-/
import Derived.Test.YtgbbdagfjenmeaaGreatDoorRwaEveryTrick
import Derived.Test.YtgbbdagfjenmeaaGreatDoorRwdEveryTrick
namespace Go.Proofs.YtgbbdagfjenmeaaGreatDoor.fnEveryTrick
open Go.ChangeShapes Go.WideShapes Go.ChangeAt Go.RowKit Go.Vt
set_option linter.unusedVariables false
theorem over : Rows.fnEveryTrickRow.holds Tryz.pinned (OpenSpec.ofChange Rows.fnEveryTrickSpec) :=
 OpenClaim.holds_of_wide 11 Tryz.f11 rfl rfl rfl rfl rfl rfl rfl ⟨rfl, rfl, rfl, rfl, rfl⟩ rfl rfl rfl rfl rfl (by kernel_rfl) Tryz.func11 closed
  (of_decide_eq_true (by kernel_rfl)) (by unfold Func.isWrapper; first | (rw [if_pos (by decide +kernel)]; kernel_rfl) | (rw [if_neg (by decide +kernel)]; exact ⟨rfl, rfl⟩))
  (fun os started H enc _ => Zs os started H enc)
end Go.Proofs.YtgbbdagfjenmeaaGreatDoor.fnEveryTrick
