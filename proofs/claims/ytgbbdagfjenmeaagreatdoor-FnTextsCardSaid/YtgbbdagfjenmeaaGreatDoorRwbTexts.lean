/-
  The law FnTexts holds of every input: the row of the statement, from what the law's function comes to.
  Conditions: those of the given statement alone.
-/
import Derived.Test.YtgbbdagfjenmeaaGreatDoorRows
import Derived.Test.YtgbbdagfjenmeaaGreatDoorQlTexts
import Derived.WalkKit
import Derived.ProofKit
import Derived.OpenShut
import Derived.ShutString
import Derived.ChangeOld
import Derived.Below
import Derived.SizedLaws
import Derived.JoinedOf
import Derived.LaidLaws
import Derived.LaidSub
import Derived.Lay
import Derived.Lib.LaidTab
import Derived.Test.YtgbbdagfjenmeaaGreatDoorCards
import Derived.Test.YtgbbdagfjenmeaaGreatDoorTie
import Derived.SevenTiedAt
import Derived.Stop.LaidErr
namespace Go.Proofs.YtgbbdagfjenmeaaGreatDoor.fnTexts
open Go.ChangeShapes Go.WideShapes Go.ChangeAt Go.RowKit
set_option linter.unusedVariables false
theorem q0 : (Rows.fnTextsRow.inPlace == Tryz.prog.inPlace 12) = true := by kernel_rfl
theorem q1 : (Rows.fnTextsRow.unfollowed == Tryz.prog.unfollowed 12) = true := by kernel_rfl
theorem q2 : (Rows.fnTextsRow.recurses == Tryz.prog.recurses 12) = true := by kernel_rfl
theorem q3 : (Rows.fnTextsRow.named == Tryz.prog.varsNamed 12) = true := by kernel_rfl
end Go.Proofs.YtgbbdagfjenmeaaGreatDoor.fnTexts
