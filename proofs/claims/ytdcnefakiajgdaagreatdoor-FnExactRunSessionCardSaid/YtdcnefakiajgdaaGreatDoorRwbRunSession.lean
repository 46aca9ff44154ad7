/-
  The law FnExactRunSession holds of every input: the row of the statement, from what the law's function comes to.
  Conditions: those of the given statement alone.
-/
import Derived.Test.YtdcnefakiajgdaaGreatDoorRows
import Derived.Test.YtdcnefakiajgdaaGreatDoorQlRunSession
import Derived.WalkKit
import Derived.ProofKit
import Derived.OpenShut
import Derived.ShutString
import Derived.ChangeOld
import Derived.Below
import Derived.SizedLaws
import Derived.JoinedOf
import Derived.LaidLaws
import Derived.LaidSub
import Derived.Lay
import Derived.Lib.LaidTab
import Derived.Test.YtdcnefakiajgdaaGreatDoorCards
import Derived.Test.YtdcnefakiajgdaaGreatDoorTie
import Derived.SevenTiedAt
import Derived.Stop.LaidErr
set_option linter.unusedVariables false
namespace Go.Proofs.YtdcnefakiajgdaaGreatDoor.fnExactRunSession
open Go.ChangeShapes Go.WideShapes Go.ChangeAt Go.RowKit
theorem q0:(Rows.fnExactRunSessionRow.inPlace==Tryz.prog.inPlace 3)=true:=by kernel_rfl
theorem q1:(Rows.fnExactRunSessionRow.unfollowed==Tryz.prog.unfollowed 3)=true:=by kernel_rfl
theorem q2:(Rows.fnExactRunSessionRow.recurses==Tryz.prog.recurses 3)=true:=by kernel_rfl
theorem q3:(Rows.fnExactRunSessionRow.named==Tryz.prog.varsNamed 3)=true:=by kernel_rfl
end Go.Proofs.YtdcnefakiajgdaaGreatDoor.fnExactRunSession
