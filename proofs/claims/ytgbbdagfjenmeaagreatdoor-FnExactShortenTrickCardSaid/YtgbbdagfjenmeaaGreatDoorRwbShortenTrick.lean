/-
  The law FnExactShortenTrick holds of every input: the row of the statement, from what the law's function comes to.
  Conditions: those of the given statement alone.
-/
import Derived.Test.YtgbbdagfjenmeaaGreatDoorRows
import Derived.Test.YtgbbdagfjenmeaaGreatDoorQlShortenTrick
import Derived.WalkKit
import Derived.ProofKit
import Derived.OpenShut
import Derived.ShutString
import Derived.ChangeOld
import Derived.Below
import Derived.SizedLaws
import Derived.JoinedOf
import Derived.LaidLaws
import Derived.LaidSub
import Derived.Lay
import Derived.Lib.LaidTab
import Derived.Test.YtgbbdagfjenmeaaGreatDoorCards
import Derived.Test.YtgbbdagfjenmeaaGreatDoorTie
import Derived.SevenTiedAt
namespace Go.Proofs.YtgbbdagfjenmeaaGreatDoor.fnExactShortenTrick
open Go.ChangeShapes Go.WideShapes Go.ChangeAt Go.RowKit
set_option linter.unusedVariables false
theorem q0 : (Rows.fnExactShortenTrickRow.inPlace == Tryz.prog.inPlace 7) = true := by kernel_rfl
theorem q1 : (Rows.fnExactShortenTrickRow.unfollowed == Tryz.prog.unfollowed 7) = true := by kernel_rfl
theorem q2 : (Rows.fnExactShortenTrickRow.recurses == Tryz.prog.recurses 7) = true := by kernel_rfl
theorem q3 : (Rows.fnExactShortenTrickRow.named == Tryz.prog.varsNamed 7) = true := by kernel_rfl
end Go.Proofs.YtgbbdagfjenmeaaGreatDoor.fnExactShortenTrick
