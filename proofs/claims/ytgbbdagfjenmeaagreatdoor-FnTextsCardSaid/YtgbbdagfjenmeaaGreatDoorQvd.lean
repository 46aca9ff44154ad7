/-
  What is told of a verdict: the picks lead to the scene that is told; when a verdict is proved.
  Conditions: numbers and lengths are such as a machine bears.
-/
import Derived.Test.YtgbbdagfjenmeaaGreatDoorPT
namespace Qq
open Go Go.Vt Pt
set_option linter.unusedVariables false
set_option linter.unusedSimpArgs false
set_option linter.unnecessarySimpa false
theorem WA (s : zP) (w : List Int) : ∀ (r : List Scene) (j : Nat) (acc : List Way) (c : Way), c ∈ addP s w j r acc → c ∈ acc ∨ ∃ i, ∃ h : i < r.length, c = (r[i], if s.1 = 2 then w ++ [((j + i : Nat) : Int)] else w)
 | [], _, acc, c, h => .inl h
 | x :: r, j, acc, c, h => by
   unfold addP at h
   split at h
   ·rcases WA s w r (j + 1) acc c h with h | ⟨i, hi, e⟩
    ·exact .inl h
    ·exact .inr ⟨i + 1, by simpa using hi, by rw [e, show j + 1 + i = j + (i + 1) by omega]; rfl⟩
   ·rcases WA s w r (j + 1) _ c h with h | ⟨i, hi, e⟩
    ·rcases List.mem_append.1 h with h | h
     ·exact .inl h
     ·exact .inr ⟨0, by simp, by simpa using h⟩
    ·exact .inr ⟨i + 1, by simpa using hi, by rw [e, show j + 1 + i = j + (i + 1) by omega]; rfl⟩
theorem Up (s : zP) : ∀ (l acc : List Way) (c : Way), c ∈ goP s l acc → c ∈ acc ∨ ∃ d ∈ l, ∃ i, ∃ h : i < (zp d.1 s).length, c = ((zp d.1 s)[i], if s.1 = 2 then d.2 ++ [(i : Int)] else d.2)
 | [], acc, c, h => .inl h
 | d :: r, acc, c, h => by
   unfold goP at h
   rcases Up s r _ c h with h | ⟨d', hd', i, hi, e⟩
   ·rcases WA s d.2 (zp d.1 s) 0 acc c h with h | ⟨i, hi, e⟩
    ·exact .inl h
    ·exact .inr ⟨d, by simp, i, hi, by rw [e, Nat.zero_add]⟩
   ·exact .inr ⟨d', by simp [hd'], i, hi, e⟩
theorem NE {n : Nat} {c : Scene} {s : zP} (hs : zI (n : Int) s = true) (h : ¬ s.1 = 2) : (zp c s).length = 1 := by
 obtain ⟨h1, h2, hk⟩ := wT hs
 unfold zp
 rcases hk with ⟨e, m⟩ | ⟨e, c0, c4, c3, c2⟩ | ⟨e, a0, an⟩
 ·rw [if_pos e]; rfl
 ·exact absurd e h
 ·rw [if_neg (by omega), if_pos e]; rfl
theorem TP {n : Nat} : ∀ (r : List zP) (l A : List Way), (∀ s ∈ r, zI (n : Int) s = true) → fL r l = some A → ∀ w ∈ A, ∃ c ∈ l, ∃ ps, w.2 = c.2 ++ ps ∧ ps.length = countK (· == 2) r ∧ runL r c.1 ps = (w.1.1, w.1.2, true)
 | [], l, A, hs, h, w, hw => by cases h; exact ⟨w, hw, [], by simp, rfl, rfl⟩
 | s :: r, l, A, hs, h, w, hw => by
   rw [wZ] at h
   split at h
   ·obtain ⟨c, hc, ps, e1, e2, e3⟩ := TP r _ A (fun q hq => hs q (by simp [hq])) h w hw
    rcases Up s l [] c hc with hc | ⟨d, hd, i, hi, e⟩
    ·cases hc
    ·have ec : c.1 = (zp d.1 s).getD i ([], 0) := by rw [e, List.getD, List.getElem?_eq_getElem hi]; rfl
     refine ⟨d, hd, ?_⟩
     by_cases h2 : s.1 = 2
     ·rw [if_pos h2] at e
      refine ⟨(i : Int) :: ps, by rw [e1, e]; simp, by rw [Wt, if_pos (by simp [h2])]; simp; omega, ?_⟩
      unfold runL
      simp only [if_pos h2, List.getD_cons_zero, List.drop_succ_cons, List.drop_zero, Int.toNat_natCast]
      rw [if_pos (by omega), ← ec]
      exact e3
     ·rw [if_neg h2] at e
      have h1 := NE (c := d.1) (hs s (by simp)) h2
      have hi0 : i = 0 := by omega
      subst hi0
      refine ⟨ps, by rw [e1, e], by rw [Wt, if_neg (by simp [h2])]; omega, ?_⟩
      unfold runL
      simp only [if_neg h2, Int.toNat_zero]
      rw [if_pos (by omega), ← ec]
      exact e3
   ·cases h
theorem NW {t : yt} (h : zv t = true) {A : List Way} (hA : uZ t = some A) {w : Way} (hw : w ∈ A) : runTrick t w.2 = (w.1.1, w.1.2, true) := by
 have hs := xd h
 obtain ⟨c, hc, ps, e1, e2, e3⟩ := TP t.2.1 (yI t) A hs.2 hA w hw
 have ec : c = ((t.1, -1), []) := by simpa [yI] using hc
 subst ec
 have e1 : w.2 = ps := by simpa using e1
 unfold runTrick
 rw [if_pos ⟨h, by unfold Yf; rw [if_pos h, e1, e2]⟩, e1]
 exact e3
inductive Told (t : yt) : Prop
 | no (h : zv t = false) (e : wa t = (0, [], [], 0, false))
 | many (h : zv t = true) (ha : uZ t = none) (e : wa t = (3, [], [], 0, true))
 | all (h : zv t = true) (A : List Way) (ha : uZ t = some A) (hh : ∀ w ∈ A, uY t w.1 = true) (e : wa t = (1, [], [], 0, true))
 | fails (h : zv t = true) (A : List Way) (ha : uZ t = some A) (w : Way) (hw : w ∈ A) (hb : uY t w.1 = false) (hr : runTrick t w.2 = (w.1.1, w.1.2, true)) (e : wa t = (2, w.2, w.1.1, w.1.2, true))
theorem told (t : yt) : Told t := by
 cases h : zv t with
 | false => exact .no h (by unfold wa; rw [h]; rfl)
 | true =>
   cases ha : uZ t with
   | none => exact .many h ha (by unfold wa; rw [h, ha]; rfl)
   | some A =>
     have ec : wa t = SF (A.find? (fun w => !uY t w.1)) := by unfold wa; rw [h, ha]; rfl
     cases hf : A.find? (fun w => !uY t w.1) with
     | none =>
       refine .all h A ha (fun w hw => ?_) (by rw [ec, hf]; rfl)
       have := List.find?_eq_none.1 hf w hw
       simpa using this
     | some w =>
       have hw := List.mem_of_find?_eq_some hf
       have hb := List.find?_some hf
       exact .fails h A ha w hw (by simpa using hb) (NW h ha hw) (by rw [ec, hf]; rfl)
end Qq
