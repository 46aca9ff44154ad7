/-
  The law FnEveryTrick comes to true.
  Conditions: numbers and lengths are such as a machine bears.
-/
import Derived.Test.YtgbbdagfjenmeaaGreatDoorQvt
import Derived.Test.YtgbbdagfjenmeaaGreatDoorPJ
namespace Qq
open Go Go.Vt Pt
set_option linter.unusedVariables false
set_option linter.unusedSimpArgs false
set_option linter.unnecessarySimpa false
theorem Nw {n : Nat} : ∀ (r : List zz) (l A : List Way), (∀ s ∈ r, zx (n : Int) s = true) → bM n l → l ≠ [] → uL r l = some A → A ≠ []
 | [], l, A, hs, ho, hne, h => by cases h; exact hne
 | s :: r, l, A, hs, ho, hne, h => by
   rw [wj] at h
   split at h
   ·refine Nw r _ A (fun q hq => hs q (by simp [hq])) (LV (hs s (by simp)) l [] ho (fun c hc => by cases hc)) ?_ h
    intro e
    cases l with
    | nil => exact hne rfl
    | cons c l' =>
      have hl1 := (Z7 (ho c (by simp)) (hs s (by simp))).1
      have ef : (goP s (c :: l') []).map Prod.fst = goU s ((c :: l').map Prod.fst) [] := by rw [SU]; rfl
      cases hx : zm c.1 s with
      | nil => rw [hx] at hl1; simp at hl1
      | cons d _ =>
        have : d ∈ (goP s (c :: l') []).map Prod.fst := by
         rw [ef, Us]
         exact .inl ⟨c.1, by simp, by rw [hx]; simp⟩
        rw [e] at this; cases this
   ·cases h
theorem Ha {t : Trick} (h : zi t = true) {A : List Way} (ha : wu t = some A) : A ≠ [] :=
 Nw t.2.1 (yj t) A (yI h).2 (eK h) (by simp [yj]) ha
theorem J5 {t : Trick} (h : zi t = true) {A : List Way} (ha : wu t = some A) : Zu t = (((A.map Prod.fst).countP (wt t) : Nat) : Int) := by
 unfold Zu
 rw [WR h ha]; rfl
theorem Hj {t : Trick} (h : zi t = true) {A : List Way} (ha : wu t = some A) : UC t = ((A.map Prod.fst).length : Int) := by
 unfold UC
 rw [WR h ha]; rfl
structure EndsAre (t : Trick) (L : List Scene) : Prop where
 all : ya t = (L, true)
 len : L.length ≤ 3000
 pos : 0 < L.length
 arr : ∀ c ∈ L, SceneOk t.1.length c
 cnt : L.countP (xI t) = L.countP (wt t)
 hold : Zu t = ((L.countP (xI t) : Nat) : Int)
 cend : UC t = (L.length : Int)
theorem K7 {t : Trick} (h : zi t = true) {A : List Way} (ha : wu t = some A) : EndsAre t (A.map Prod.fst) := by
 have hc := Mw h
 rw [WR h ha] at hc
 have hs := yI h
 have hA3 := fH _ _ A (by simp [yj]) ha
 refine ⟨WR h ha, by simpa using hA3, ?_, fun c hc => ?_, hc, by rw [J5 h ha, hc], Hj h ha⟩
 ·rw [List.length_map]
  exact List.length_pos_iff.2 (Ha h ha)
 ·obtain ⟨d, hd, rfl⟩ := List.mem_map.1 hc
  exact WM t.2.1 (yj t) A hs.2 (eK h) ha d hd
end Qq
