/-
  What is told of a verdict: the picks lead to the scene that is told; when a verdict is proved.
  Conditions: numbers and lengths are such as a machine bears.
-/
import Derived.Test.YtgbbdagfjenmeaaGreatDoorPB
namespace Qq
open Go Go.Vt Pt
set_option linter.unusedVariables false
set_option linter.unusedSimpArgs false
set_option linter.unnecessarySimpa false
theorem R8 (s : zI) (w : List Int) : ∀ (r : List Scene) (j : Nat) (acc : List Way) (c : Way), c ∈ addP s w j r acc → c ∈ acc ∨ ∃ i, ∃ h : i < r.length, c = (r[i], if s.1 = 2 then w ++ [((j + i : Nat) : Int)] else w)
 | [], _, acc, c, h => .inl h
 | x :: r, j, acc, c, h => by
   unfold addP at h
   split at h
   ·rcases R8 s w r (j + 1) acc c h with h | ⟨i, hi, e⟩
    ·exact .inl h
    ·exact .inr ⟨i + 1, by simpa using hi, by rw [e, show j + 1 + i = j + (i + 1) by omega]; rfl⟩
   ·rcases R8 s w r (j + 1) _ c h with h | ⟨i, hi, e⟩
    ·rcases List.mem_append.1 h with h | h
     ·exact .inl h
     ·exact .inr ⟨0, by simp, by simpa using h⟩
    ·exact .inr ⟨i + 1, by simpa using hi, by rw [e, show j + 1 + i = j + (i + 1) by omega]; rfl⟩
theorem NE (s : zI) : ∀ (l acc : List Way) (c : Way), c ∈ goP s l acc → c ∈ acc ∨ ∃ d ∈ l, ∃ i, ∃ h : i < (zn d.1 s).length, c = ((zn d.1 s)[i], if s.1 = 2 then d.2 ++ [(i : Int)] else d.2)
 | [], acc, c, h => .inl h
 | d :: r, acc, c, h => by
   unfold goP at h
   rcases NE s r _ c h with h | ⟨d', hd', i, hi, e⟩
   ·rcases R8 s d.2 (zn d.1 s) 0 acc c h with h | ⟨i, hi, e⟩
    ·exact .inl h
    ·exact .inr ⟨d, by simp, i, hi, by rw [e, Nat.zero_add]⟩
   ·exact .inr ⟨d', by simp [hd'], i, hi, e⟩
theorem FP {n : Nat} {c : Scene} {s : zI} (hs : zP (n : Int) s = true) (h : ¬ s.1 = 2) : (zn c s).length = 1 := by
 obtain ⟨h1, h2, hk⟩ := vd hs
 unfold zn
 rcases hk with ⟨e, m⟩ | ⟨e, c0, c4, c3, c2⟩ | ⟨e, a0, an⟩
 ·rw [if_pos e]; rfl
 ·exact absurd e h
 ·rw [if_neg (by omega), if_pos e]; rfl
theorem LH {n : Nat} : ∀ (r : List zI) (l A : List Way), (∀ s ∈ r, zP (n : Int) s = true) → jQ r l = some A → ∀ w ∈ A, ∃ c ∈ l, ∃ ps, w.2 = c.2 ++ ps ∧ ps.length = countK (· == 2) r ∧ runL r c.1 ps = (w.1.1, w.1.2, true)
 | [], l, A, hs, h, w, hw => by cases h; exact ⟨w, hw, [], by simp, rfl, rfl⟩
 | s :: r, l, A, hs, h, w, hw => by
   rw [wL] at h
   split at h
   ·obtain ⟨c, hc, ps, e1, e2, e3⟩ := LH r _ A (fun q hq => hs q (by simp [hq])) h w hw
    rcases NE s l [] c hc with hc | ⟨d, hd, i, hi, e⟩
    ·cases hc
    ·have ec : c.1 = (zn d.1 s).getD i ([], 0) := by rw [e, List.getD, List.getElem?_eq_getElem hi]; rfl
     refine ⟨d, hd, ?_⟩
     by_cases h2 : s.1 = 2
     ·rw [if_pos h2] at e
      refine ⟨(i : Int) :: ps, by rw [e1, e]; simp, by rw [uq, if_pos (by simp [h2])]; simp; omega, ?_⟩
      unfold runL
      simp only [if_pos h2, List.getD_cons_zero, List.drop_succ_cons, List.drop_zero, Int.toNat_natCast]
      rw [if_pos (by omega), ← ec]
      exact e3
     ·rw [if_neg h2] at e
      have h1 := FP (c := d.1) (hs s (by simp)) h2
      have hi0 : i = 0 := by omega
      subst hi0
      refine ⟨ps, by rw [e1, e], by rw [uq, if_neg (by simp [h2])]; omega, ?_⟩
      unfold runL
      simp only [if_neg h2, Int.toNat_zero]
      rw [if_pos (by omega), ← ec]
      exact e3
   ·cases h
theorem F7 {t : Trick} (h : zf t = true) {A : List Way} (hA : wl t = some A) {w : Way} (hw : w ∈ A) : zT t w.2 = (w.1.1, w.1.2, true) := by
 have hs := yF h
 obtain ⟨c, hc, ps, e1, e2, e3⟩ := LH t.2.1 (zZ t) A hs.2 hA w hw
 have ec : c = ((t.1, -1), []) := by simpa [zZ] using hc
 subst ec
 have e1 : w.2 = ps := by simpa using e1
 unfold zT
 rw [if_pos ⟨h, by unfold yC; rw [if_pos h, e1, e2]⟩, e1]
 exact e3
inductive Told (t : Trick) : Prop
 | no (h : zf t = false) (e : zK t = (0, [], [], 0, false))
 | many (h : zf t = true) (ha : wl t = none) (e : zK t = (3, [], [], 0, true))
 | all (h : zf t = true) (A : List Way) (ha : wl t = some A) (hh : ∀ w ∈ A, x5 t w.1 = true) (e : zK t = (1, [], [], 0, true))
 | fails (h : zf t = true) (A : List Way) (ha : wl t = some A) (w : Way) (hw : w ∈ A) (hb : x5 t w.1 = false) (hr : zT t w.2 = (w.1.1, w.1.2, true)) (e : zK t = (2, w.2, w.1.1, w.1.2, true))
theorem told (t : Trick) : Told t := by
 cases h : zf t with
 | false => exact .no h (by unfold zK; rw [h]; rfl)
 | true =>
   cases ha : wl t with
   | none => exact .many h ha (by unfold zK; rw [h, ha]; rfl)
   | some A =>
     have ec : zK t = LB (A.find? (fun w => !x5 t w.1)) := by unfold zK; rw [h, ha]; rfl
     cases hf : A.find? (fun w => !x5 t w.1) with
     | none =>
       refine .all h A ha (fun w hw => ?_) (by rw [ec, hf]; rfl)
       have := List.find?_eq_none.1 hf w hw
       simpa using this
     | some w =>
       have hw := List.mem_of_find?_eq_some hf
       have hb := List.find?_some hf
       exact .fails h A ha w hw (by simpa using hb) (F7 h ha hw) (by rw [ec, hf]; rfl)
def wN (t : Trick) : Bool := (zK t).1 == 1
theorem wZ {t : Trick} (h : wN t = true) : zf t = true ∧ ∃ A, wl t = some A ∧ ∀ w ∈ A, x5 t w.1 = true := by
 unfold wN at h
 rcases told t with ⟨h1, e⟩ | ⟨h1, ha, e⟩ | ⟨h1, A, ha, hh, e⟩ | ⟨h1, A, ha, w, hw, hb, hr, e⟩
 ·rw [e] at h; cases h
 ·rw [e] at h; cases h
 ·exact ⟨h1, A, ha, hh⟩
 ·rw [e] at h; cases h
abbrev Verdict : Type := Int × List Int × List Int × Int
def jM (t : Trick) (v : Verdict) : Bool :=
 zf t && if v.1 = 2 then (zT t v.2.1).2.2 && (decide (((zT t v.2.1).1, (zT t v.2.1).2.1) = (v.2.2.1, v.2.2.2)) && !x5 t ((zT t v.2.1).1, (zT t v.2.1).2.1))
  else ((zK t).1 == v.1 && (decide (([] : List Int) = v.2.1) && decide ((([] : List Int), (0 : Int)) = (v.2.2.1, v.2.2.2))))
theorem Gp {p0 : List Int} : ∀ (r : List Step) (c : Scene) (ps : List Int), (∀ s ∈ r, zP (p0.length : Int) s = true) → SceneOk p0.length c → Pm c.1 p0 → (runL r c ps).2.2 = true → SceneOk p0.length ((runL r c ps).1, (runL r c ps).2.1) ∧ Pm (runL r c ps).1 p0
 | [], c, ps, _, hc, hp, _ => ⟨hc, hp⟩
 | s :: r, c, ps, hs, hc, hp, h => by
   unfold runL at h ⊢
   dsimp only at h ⊢
   generalize (if s.1 = 2 then ps.getD 0 0 else 0) = k at h ⊢
   generalize (if s.1 = 2 then ps.drop 1 else ps) = ps' at h ⊢
   by_cases hk : 0 ≤ k ∧ k < (zn c s).length
   ·rw [if_pos hk] at h ⊢
    have hm := Yj (d := (([], 0) : Scene)) hk.1 hk.2
    exact Gp r _ ps' (fun q hq => hs q (by simp [hq])) (gv hc (hs s (by simp)) _ hm) (Gz hc hp (hs s (by simp)) _ hm) h
   ·rw [if_neg hk] at h; cases h
theorem Ex {t : Trick} {ps : List Int} (h : (zT t ps).2.2 = true) : zf t = true ∧ SceneOk t.1.length ((zT t ps).1, (zT t ps).2.1) ∧ V2 t.1 (zT t ps).1 = true := by
 unfold zT at h ⊢
 split at h
 ·rename_i hc
  obtain ⟨s1, s2⟩ := cJ hc.1
  rw [if_pos hc]
  obtain ⟨r1, r2⟩ := Gp t.2.1 (t.1, -1) ps s2 s1 (List.Perm.refl _) h
  exact ⟨hc.1, r1, Ju (zo hc.1).2.2.2 r2⟩
 ·cases h
end Qq
