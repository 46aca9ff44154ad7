/-
  The law FnExactRunSession holds of every input: the row of the statement, from what the law's function comes to.
  Conditions: those of the given statement alone.
-/
import Derived.Test.YtdcnefakiajgdaaGreatDoorRwbRunSession
set_option linter.unusedVariables false
namespace Go.Proofs.YtdcnefakiajgdaaGreatDoor.fnExactRunSession
open Go.ChangeShapes Go.WideShapes Go.ChangeAt Go.RowKit
theorem closed:joinedFacts Tryz.prog 3 Tryz.f3 Rows.fnExactRunSessionSpec Rows.fnExactRunSessionRow=true:=by
 unfold joinedFacts
 rw[q0,q1,q2,q3]
 kernel_rfl
end Go.Proofs.YtdcnefakiajgdaaGreatDoor.fnExactRunSession
