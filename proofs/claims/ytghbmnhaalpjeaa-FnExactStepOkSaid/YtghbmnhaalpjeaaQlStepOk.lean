/-
  The law FnExactStepOk comes to true.
  Conditions: none.
-/
import Derived.Test.YtghbmnhaalpjeaaQc
namespace Qq
open Go Go.Vt Pt
set_option linter.unusedVariables false
theorem FnExactStepOk_ev (x0 : Int) (x1 : Int × (Int × Int) × Int) (f0 : Fits (.int .i64) x0) (f1 : Fits (.pair (.int .i64) (.pair (.pair (.int .i64) (.int .i64)) (.int .i64))) x1) : Ev (fun k => w_FnExactStepOk k (x0, x1)) true :=
  Ev.step (fun k => w_FnExactStepOk_eq k x0 x1) (Ev.bind (toStep_ev x1) (Ev.bind (s_StepOk_ev _ _) (Ev.bind (toStep_ev x1) (Ev.bind (i_StepOk_ev _ _) (Ev.no (by simp) (Ev.pure _))))))
end Qq
