/-
  The law FnExactVerdictLine holds of every input: the row of the statement, from what the law's function comes to.
  Conditions: those of the given statement alone.
-/
import Derived.Test.YtgbbdagfjenmeaaGreatDoorRows
import Derived.Test.YtgbbdagfjenmeaaGreatDoorQlVerdictLine
import Derived.WalkKit
import Derived.ProofKit
import Derived.OpenShut
import Derived.ShutString
import Derived.ChangeOld
import Derived.Below
import Derived.SizedLaws
import Derived.JoinedOf
import Derived.LaidLaws
import Derived.LaidSub
import Derived.Lay
import Derived.Lib.LaidTab
import Derived.Test.YtgbbdagfjenmeaaGreatDoorCards
import Derived.Test.YtgbbdagfjenmeaaGreatDoorTie
import Derived.SevenTiedAt
namespace Go.Proofs.YtgbbdagfjenmeaaGreatDoor.fnExactVerdictLine
open Go.ChangeShapes Go.WideShapes Go.ChangeAt Go.RowKit
set_option linter.unusedVariables false
theorem q0 : (Rows.fnExactVerdictLineRow.inPlace == Tryz.prog.inPlace 8) = true := by kernel_rfl
theorem q1 : (Rows.fnExactVerdictLineRow.unfollowed == Tryz.prog.unfollowed 8) = true := by kernel_rfl
theorem q2 : (Rows.fnExactVerdictLineRow.recurses == Tryz.prog.recurses 8) = true := by kernel_rfl
theorem q3 : (Rows.fnExactVerdictLineRow.named == Tryz.prog.varsNamed 8) = true := by kernel_rfl
end Go.Proofs.YtgbbdagfjenmeaaGreatDoor.fnExactVerdictLine
