/-
  The law FnShort holds of every input: the row of the statement, from what the law's function comes to.
  Conditions: those of the given statement alone.
-/
import Derived.Test.YtgbbdagfjenmeaaGreatDoorRwbShort
namespace Go.Proofs.YtgbbdagfjenmeaaGreatDoor.fnShort
open Go.ChangeShapes Go.WideShapes Go.ChangeAt Go.RowKit
set_option linter.unusedVariables false
theorem w1 : Rows.fnShortRow.wfByText (OpenSpec.ofChange Rows.fnShortSpec) = true := by kernel_rfl
theorem w2 : Tryz.prog.mainIs = some (true, ("b15144b68d637da1591f3e0c3b537deb3124debe3119e619eb2c24b2842307ec" : String).toList) := by kernel_rfl
theorem w3 : true = Tryz.prog.looks [] := by kernel_rfl
theorem w4 : false = Rows.fnShortRow.goesBy Tryz.prog := by kernel_rfl
end Go.Proofs.YtgbbdagfjenmeaaGreatDoor.fnShort
