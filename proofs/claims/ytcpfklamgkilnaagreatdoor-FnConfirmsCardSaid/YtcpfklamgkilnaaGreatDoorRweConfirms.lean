/-
  The law FnConfirms holds of every input: the row of the statement, from what the law's function comes to.
  Conditions: those of the given statement alone.
-/
import Derived.Test.YtcpfklamgkilnaaGreatDoorRwbConfirms
namespace Go.Proofs.YtcpfklamgkilnaaGreatDoor.fnConfirms
open Go.ChangeShapes Go.WideShapes Go.ChangeAt Go.RowKit
set_option linter.unusedVariables false
theorem w1 : Rows.fnConfirmsRow.wfByText (OpenSpec.ofChange Rows.fnConfirmsSpec) = true := by kernel_rfl
theorem w2 : Tryz.prog.mainIs = some (true, ("8cf5e5381a4ddd64792d58b45cc63fba25a5d57bf50f5767ca4c5fe67ef0939d" : String).toList) := by kernel_rfl
theorem w3 : true = Tryz.prog.looks [] := by kernel_rfl
theorem w4 : false = Rows.fnConfirmsRow.goesBy Tryz.prog := by kernel_rfl
end Go.Proofs.YtcpfklamgkilnaaGreatDoor.fnConfirms
