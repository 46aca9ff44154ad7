/-
  The law FnExactKnownAt comes to true.
  Conditions: numbers and lengths are such as a machine bears.
-/
import Derived.Test.YtghbmnhaalpjeaaQs
import Derived.Test.YtghbmnhaalpjeaaQr
namespace Qq
open Go Go.Vt Pt
set_option linter.unusedVariables false
theorem FnExactKnownAt_ev (l : Packs) (j : Int) (f0 : Fits (.slice (.slice (.int .i64))) l) (f1 : Fits (.int .i64) j) : Ev (fun k => w_FnExactKnownAt k (l, j)) true := by
  have hf := FitS.of f0
  have hi : ∀ p ∈ l, p.length ≤ maxLen := fun p hp => (hf.2 p hp).1
  refine Ev.step (fun k => w_FnExactKnownAt_eq k l j) (Ev.bind (szIntSS_ev l 1048576 hf.1 hi (by omega) (by omega)) (Ev.ite (fun h => Ev.pure _) (fun h => ?_)))
  obtain ⟨b1, b2, _, _⟩ := szSS_fit (l := l) (n := 1048576) (by omega) (by omega) (by simpa using h)
  refine Ev.bind (toIntSS_ev l b1 b2) (Ev.bind (s_KnownAt_ev l j hf) (Ev.bind (toIntSS_ev l b1 b2) (Ev.bind (i_KnownAt_ev l j hf) (Ev.no (by simp) ?_))))
  exact Ev.bind (toIntSS_ev l b1 b2) (Ev.bind (eqIntSS_ev l l hf.1 hf.1 hi hi) (Ev.no (by simp) (Ev.pure _)))
end Qq
