/-
  The law FnConfirms holds of every input: the row of the statement, from what the law's function comes to.
  Conditions: those of the given statement alone.
-/
import Derived.Test.YtcpfklamgkilnaaGreatDoorRows
import Derived.Test.YtcpfklamgkilnaaGreatDoorQlConfirms
import Derived.WalkKit
import Derived.ProofKit
import Derived.OpenShut
import Derived.ShutString
import Derived.ChangeOld
import Derived.Below
import Derived.SizedLaws
import Derived.JoinedOf
import Derived.LaidLaws
import Derived.LaidSub
import Derived.Lay
import Derived.Lib.LaidTab
import Derived.Test.YtcpfklamgkilnaaGreatDoorCards
import Derived.Test.YtcpfklamgkilnaaGreatDoorTie
import Derived.SevenTiedAt
import Derived.Stop.LaidErr
namespace Go.Proofs.YtcpfklamgkilnaaGreatDoor.fnConfirms
open Go.ChangeShapes Go.WideShapes Go.ChangeAt Go.RowKit
set_option linter.unusedVariables false
theorem q0 : (Rows.fnConfirmsRow.inPlace == Tryz.prog.inPlace 3) = true := by kernel_rfl
theorem q1 : (Rows.fnConfirmsRow.unfollowed == Tryz.prog.unfollowed 3) = true := by kernel_rfl
theorem q2 : (Rows.fnConfirmsRow.recurses == Tryz.prog.recurses 3) = true := by kernel_rfl
theorem q3 : (Rows.fnConfirmsRow.named == Tryz.prog.varsNamed 3) = true := by kernel_rfl
end Go.Proofs.YtcpfklamgkilnaaGreatDoor.fnConfirms
