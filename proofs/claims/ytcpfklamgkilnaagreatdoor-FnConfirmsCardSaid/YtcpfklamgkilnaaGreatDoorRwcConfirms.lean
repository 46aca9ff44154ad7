/-
  The law FnConfirms holds of every input: the row of the statement, from what the law's function comes to.
  Conditions: those of the given statement alone.
-/
import Derived.Test.YtcpfklamgkilnaaGreatDoorRwaConfirms
import Derived.Test.YtcpfklamgkilnaaGreatDoorRwdConfirms
namespace Go.Proofs.YtcpfklamgkilnaaGreatDoor.fnConfirms
open Go.ChangeShapes Go.WideShapes Go.ChangeAt Go.RowKit Go.Vt
set_option linter.unusedVariables false
theorem over : Rows.fnConfirmsRow.holds Tryz.pinned (OpenSpec.ofChange Rows.fnConfirmsSpec) :=
 OpenClaim.holds_of_wide 3 Tryz.f3 rfl rfl rfl rfl rfl rfl rfl ⟨rfl, rfl, rfl, rfl, rfl⟩ rfl rfl rfl rfl rfl (by kernel_rfl) Tryz.func3 closed
  (of_decide_eq_true (by kernel_rfl)) (by unfold Func.isWrapper; first | (rw [if_pos (by decide +kernel)]; kernel_rfl) | (rw [if_neg (by decide +kernel)]; exact ⟨rfl, rfl⟩))
  (fun os started H enc _ => lifted os started H enc)
end Go.Proofs.YtcpfklamgkilnaaGreatDoor.fnConfirms
