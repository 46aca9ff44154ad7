/-
  The law FnTexts holds of every input: the row of the statement, from what the law's function comes to.
  Conditions: those of the given statement alone.
-/
import Derived.Test.YtgbbdagfjenmeaaGreatDoorRwbTexts
namespace Go.Proofs.YtgbbdagfjenmeaaGreatDoor.fnTexts
open Go.ChangeShapes Go.WideShapes Go.ChangeAt Go.RowKit
set_option linter.unusedVariables false
theorem w1 : Rows.fnTextsRow.wfByText (OpenSpec.ofChange Rows.fnTextsSpec) = true := by kernel_rfl
theorem w2 : Tryz.prog.mainIs = some (true, ("b15144b68d637da1591f3e0c3b537deb3124debe3119e619eb2c24b2842307ec" : String).toList) := by kernel_rfl
theorem w3 : true = Tryz.prog.looks [] := by kernel_rfl
theorem w4 : false = Rows.fnTextsRow.goesBy Tryz.prog := by kernel_rfl
end Go.Proofs.YtgbbdagfjenmeaaGreatDoor.fnTexts
