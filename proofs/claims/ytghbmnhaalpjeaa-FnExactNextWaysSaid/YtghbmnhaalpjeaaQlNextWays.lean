/-
  The law FnExactNextWays comes to true.
  Conditions: numbers and lengths are such as a machine bears.
-/
import Derived.Test.YtghbmnhaalpjeaaQn
import Derived.Test.YtghbmnhaalpjeaaQy
namespace Qq
open Go Go.Vt Pt
set_option linter.unusedVariables false
set_option linter.unusedSimpArgs false
theorem FnExactNextWays_ev (n : Int) (p : List Int) (f0 : Fits (.int .i64) n) (f1 : Fits (.slice (.int .i64)) p) : Ev (fun k => w_FnExactNextWays k (n, p)) true := by
  have a : p.length ≤ maxLen := f1.1
  refine Ev.step (fun k => w_FnExactNextWays_eq k n p) (Ev.ite (fun h => Ev.pure _) (fun h => ?_))
  have hp : p.length ≤ 1048576 := by simp at h; omega
  have te := top_eq
  have hl := nextList_len n p
  have hl' : (nextList n p).length ≤ maxLen := by rw [maxLen_eq]; omega
  refine Ev.bind (toIntS_ev p hp) (Ev.bind (s_NextWays_ev n p a) (Ev.bind (toIntS_ev p hp) (Ev.bind (i_NextWays_ev n p a) (Ev.bind (eqIntS_ev _ _ hl' hl') (Ev.no (by simp) ?_)))))
  refine Ev.bind (toIntS_ev p hp) (Ev.bind (eqIntS_ev p p a a) (Ev.no (by simp) ?_))
  refine Ev.bind (markIntS_ev p 1 a (by omega) (by omega)) (Ev.no (by simp; omega) ?_)
  refine Ev.bind (eqIntS_ev _ _ hl' hl') (Ev.no (by simp) ?_)
  refine Ev.bind (markIntS_ev (nextList n p) 1 hl' (by omega) (by omega)) ?_
  have held := heldIntS_ev (nextList n p).length 1 hl' (by omega) (by omega)
  refine Ev.bind held (Ev.no (by simp; omega) (Ev.no (by simp) ?_))
  refine Ev.bind (toIntS_ev p hp) (Ev.bind (i_NextWays_ev n p a) (Ev.bind (eqIntS_ev _ _ hl' hl') (Ev.no (by simp) ?_)))
  exact Ev.bind held (Ev.no (by simp; omega) (Ev.no (by simp) (Ev.pure _)))
end Qq
