/-
  The law FnConfirms holds of every input: the row of the statement, from what the law's function comes to.
  Conditions: those of the given statement alone.
-/
import Derived.Test.YtcpfklamgkilnaaGreatDoorRwbConfirms
namespace Go.Proofs.YtcpfklamgkilnaaGreatDoor.fnConfirms
open Go.ChangeShapes Go.WideShapes Go.ChangeAt Go.RowKit
set_option linter.unusedVariables false
theorem closed : joinedFacts Tryz.prog 3 Tryz.f3 Rows.fnConfirmsSpec Rows.fnConfirmsRow = true := by
 unfold joinedFacts
 rw [q0, q1, q2, q3]
 kernel_rfl
end Go.Proofs.YtcpfklamgkilnaaGreatDoor.fnConfirms
