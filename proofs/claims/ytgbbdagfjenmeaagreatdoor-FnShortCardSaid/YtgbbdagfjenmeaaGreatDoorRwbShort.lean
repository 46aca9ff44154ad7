/-
  The law FnShort holds of every input: the row of the statement, from what the law's function comes to.
  Conditions: those of the given statement alone.
-/
import Derived.Test.YtgbbdagfjenmeaaGreatDoorRows
import Derived.Test.YtgbbdagfjenmeaaGreatDoorQlShort
import Derived.WalkKit
import Derived.ProofKit
import Derived.OpenShut
import Derived.ShutString
import Derived.ChangeOld
import Derived.Below
import Derived.SizedLaws
import Derived.JoinedOf
import Derived.LaidLaws
import Derived.LaidSub
import Derived.Lay
import Derived.Lib.LaidTab
import Derived.Test.YtgbbdagfjenmeaaGreatDoorCards
import Derived.Test.YtgbbdagfjenmeaaGreatDoorTie
import Derived.SevenTiedAt
namespace Go.Proofs.YtgbbdagfjenmeaaGreatDoor.fnShort
open Go.ChangeShapes Go.WideShapes Go.ChangeAt Go.RowKit
set_option linter.unusedVariables false
theorem q0 : (Rows.fnShortRow.inPlace == Tryz.prog.inPlace 10) = true := by kernel_rfl
theorem q1 : (Rows.fnShortRow.unfollowed == Tryz.prog.unfollowed 10) = true := by kernel_rfl
theorem q2 : (Rows.fnShortRow.recurses == Tryz.prog.recurses 10) = true := by kernel_rfl
theorem q3 : (Rows.fnShortRow.named == Tryz.prog.varsNamed 10) = true := by kernel_rfl
end Go.Proofs.YtgbbdagfjenmeaaGreatDoor.fnShort
