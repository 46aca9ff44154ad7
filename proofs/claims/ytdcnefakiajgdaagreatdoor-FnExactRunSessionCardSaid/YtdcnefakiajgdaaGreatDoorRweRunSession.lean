/-
  The law FnExactRunSession holds of every input: the row of the statement, from what the law's function comes to.
  Conditions: those of the given statement alone.
-/
import Derived.Test.YtdcnefakiajgdaaGreatDoorRwbRunSession
set_option linter.unusedVariables false
namespace Go.Proofs.YtdcnefakiajgdaaGreatDoor.fnExactRunSession
open Go.ChangeShapes Go.WideShapes Go.ChangeAt Go.RowKit
theorem w1:Rows.fnExactRunSessionRow.wfByText (OpenSpec.ofChange Rows.fnExactRunSessionSpec)=true:=by kernel_rfl
theorem w2:Tryz.prog.mainIs=some (true,("9ea426056d0bdf3df83e8647159d1fffb54cdab78958285beb273b88b77de873" :String).toList):=by kernel_rfl
theorem w3:true=Tryz.prog.looks []:=by kernel_rfl
theorem w4:false=Rows.fnExactRunSessionRow.goesBy Tryz.prog:=by kernel_rfl
end Go.Proofs.YtdcnefakiajgdaaGreatDoor.fnExactRunSession
