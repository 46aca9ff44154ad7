/-
  The law FnExactIsProved holds of every input: the row of the statement, from what the law's function comes to.
  Conditions: those of the given statement alone.
-/
import Derived.Test.YtgbbdagfjenmeaaGreatDoorRwbIsProved
namespace Go.Proofs.YtgbbdagfjenmeaaGreatDoor.fnExactIsProved
open Go.ChangeShapes Go.WideShapes Go.ChangeAt Go.RowKit
set_option linter.unusedVariables false
theorem closed : joinedFacts Tryz.prog 6 Tryz.f6 Rows.fnExactIsProvedSpec Rows.fnExactIsProvedRow = true := by
 unfold joinedFacts
 rw [q0, q1, q2, q3]
 kernel_rfl
end Go.Proofs.YtgbbdagfjenmeaaGreatDoor.fnExactIsProved
