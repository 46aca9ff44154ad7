/-
  What the checker's verdict has to do with the ends.
  Conditions: the trick is one.
-/
import Derived.Test.YtgbbdagfjenmeaaGreatDoorQlIsProved
namespace Qq
open Go Go.Vt Pt
set_option linter.unusedVariables false
set_option linter.unusedSimpArgs false
set_option linter.unnecessarySimpa false
def ownV (t : Trick) : Verdict := ((zK t).1, (zK t).2.1, (zK t).2.2.1, (zK t).2.2.2.1)
theorem U5 {t : Trick} (h : zf t = true) : jM t (ownV t) = true := by
 unfold jM ownV
 rw [h, Bool.true_and]
 rcases told t with ⟨h1, e⟩ | ⟨h1, ha, e⟩ | ⟨h1, A, ha, hh, e⟩ | ⟨h1, A, ha, w, hw, hb, hr, e⟩
 ·rw [h] at h1; cases h1
 ·rw [e]; rfl
 ·rw [e]; rfl
 ·rw [e]
  dsimp only
  rw [if_pos rfl, hr]
  dsimp only
  rw [hb]
  simp
theorem LV {t : Trick} (h : zf t = true) {c : Scene} (hc : c ∈ (zA t).1) : zw t c = x5 t c := by
 unfold zw
 rw [h, Vp h c hc]; rfl
theorem Yq {t : Trick} (h : zf t = true) {A : List Way} (ha : wl t = some A) : zA t = (A.map Prod.fst, true) := by
 unfold zA
 rw [if_pos h, ha]
theorem Rd {t : Trick} (h : zf t = true) (ha : wl t = none) : zA t = ([], false) := by
 unfold zA
 rw [if_pos h, ha]
theorem PB {t : Trick} (h : zf t = true) : (zA t).1.countP (zw t) = (zA t).1.countP (x5 t) :=
 List.countP_congr fun c hc => by rw [LV h hc]
theorem Eg {α : Type} {p : α → Bool} {l : List α} {x : α} (hx : x ∈ l) (hp : p x = false) : l.countP p < l.length := by
 rcases Nat.lt_or_ge (l.countP p) l.length with h | h
 ·exact h
 ·have : l.countP p = l.length := Nat.le_antisymm List.countP_le_length h
  have := List.countP_eq_length.1 this x hx
  rw [hp] at this; cases this
end Qq
