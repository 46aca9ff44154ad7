/-
  The law FnExactBestGuess comes to true.
  Conditions: numbers and lengths are such as a machine bears.
-/
import Derived.Test.YtghbmnhaalpjeaaQn
namespace Qq
open Go Go.Vt Pt
set_option linter.unusedVariables false
theorem FnExactBestGuess_ev (n : Int) (p : List Int) (f0 : Fits (.int .i64) n) (f1 : Fits (.slice (.int .i64)) p) : Ev (fun k => w_FnExactBestGuess k (n, p)) true := by
  have a : p.length ≤ maxLen := f1.1
  refine Ev.step (fun k => w_FnExactBestGuess_eq k n p) (Ev.ite (fun h => Ev.pure _) (fun h => ?_))
  have hp : p.length ≤ 1048576 := by simp at h; omega
  refine Ev.bind (toIntS_ev p hp) (Ev.bind (s_BestGuess_ev n p a) (Ev.bind (toIntS_ev p hp) (Ev.bind (i_BestGuess_ev n p a) (Ev.no (by simp) ?_))))
  exact Ev.bind (toIntS_ev p hp) (Ev.bind (eqIntS_ev p p a a) (Ev.no (by simp) (Ev.pure _)))
end Qq
