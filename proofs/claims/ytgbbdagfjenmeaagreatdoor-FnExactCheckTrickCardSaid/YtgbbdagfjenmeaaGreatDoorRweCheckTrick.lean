/-
  The law FnExactCheckTrick holds of every input: the row of the statement, from what the law's function comes to.
  Conditions: those of the given statement alone.
-/
import Derived.Test.YtgbbdagfjenmeaaGreatDoorRwbCheckTrick
namespace Go.Proofs.YtgbbdagfjenmeaaGreatDoor.fnExactCheckTrick
open Go.ChangeShapes Go.WideShapes Go.ChangeAt Go.RowKit
set_option linter.unusedVariables false
theorem w1 : Rows.fnExactCheckTrickRow.wfByText (OpenSpec.ofChange Rows.fnExactCheckTrickSpec) = true := by kernel_rfl
theorem w2 : Tryz.prog.mainIs = some (true, ("b15144b68d637da1591f3e0c3b537deb3124debe3119e619eb2c24b2842307ec" : String).toList) := by kernel_rfl
theorem w3 : true = Tryz.prog.looks [] := by kernel_rfl
theorem w4 : false = Rows.fnExactCheckTrickRow.goesBy Tryz.prog := by kernel_rfl
end Go.Proofs.YtgbbdagfjenmeaaGreatDoor.fnExactCheckTrick
