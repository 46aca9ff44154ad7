/-
  The law FnExactIsProved comes to true.
  Conditions: numbers and lengths are such as a machine bears.
-/
import Derived.Test.YtgbbdagfjenmeaaGreatDoorQvd
import Derived.Test.YtgbbdagfjenmeaaGreatDoorPJ
namespace Qq
open Go Go.Vt Pt
set_option linter.unusedVariables false
set_option linter.unusedSimpArgs false
set_option linter.unnecessarySimpa false
theorem U1 (c d : Scene) (hc : c.1.length ≤ maxLen) (hd : d.1.length ≤ maxLen) : Ev (fun k => Zr k (c, d)) (decide (c = d)) := by
 obtain ⟨p, n⟩ := c
 obtain ⟨q, m⟩ := d
 refine Ev.step (fun k => U9 k (p, n) (q, m)) (Ev.bind (uv p q hc hd) (Ev.ite (fun h => Ev.some ?_) (fun h => Ev.some ?_)))
 ·have : p = q := by simpa using h
  subst this
  rw [Bool.eq_iff_iff]; simp
 ·have : ¬ p = q := by simpa using h
  simp [this]
end Qq
