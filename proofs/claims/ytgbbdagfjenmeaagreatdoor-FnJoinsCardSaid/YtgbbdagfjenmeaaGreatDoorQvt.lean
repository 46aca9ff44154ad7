/-
  What the checker's verdict has to do with the ends.
  Conditions: the trick is one.
-/
import Derived.Test.YtgbbdagfjenmeaaGreatDoorQlIsProved
namespace Qq
open Go Go.Vt Pt
set_option linter.unusedVariables false
set_option linter.unusedSimpArgs false
set_option linter.unnecessarySimpa false
theorem Ki {t : Trick} (h : zi t = true) {c : Scene} (hc : c ∈ (ya t).1) : xI t c = wt t c := by
 unfold xI
 rw [h, YQ h c hc]; rfl
theorem WR {t : Trick} (h : zi t = true) {A : List Way} (ha : wu t = some A) : ya t = (A.map Prod.fst, true) := by
 unfold ya
 rw [if_pos h, ha]
theorem Mw {t : Trick} (h : zi t = true) : (ya t).1.countP (xI t) = (ya t).1.countP (wt t) :=
 List.countP_congr fun c hc => by rw [Ki h hc]
end Qq
