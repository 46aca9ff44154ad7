/-
  The law FnExactShortenTrick comes to true.
  Conditions: numbers and lengths are such as a machine bears.
-/
import Derived.Test.YtgbbdagfjenmeaaGreatDoorQlIsNeeded
namespace Qq
open Go Go.Vt Pt
set_option linter.unusedVariables false
set_option linter.unusedSimpArgs false
set_option linter.unnecessarySimpa false
theorem M3 {t : Trick} {i : Nat} (h : ¬ Tz t i = true) : (t.2.1.getD i stepZ).1 = 1 ∧ wN (wU t i) = true := by
 unfold Tz at h
 simpa using h
theorem V3 (z1 z2 z3 : Int) : ∀ (f : Nat) (t : Trick) (i : Nat), t.2.1.length ≤ 12 → meas t i ≤ f → wN t = true → Ev (fun k => xI k (i : Int) z1 z2 z3 t.2.2.1 t.2.2.2.1 t.2.2.2.2 t.1 t.2.1) (withB (X5 f t i) true)
 | 0, t, i, hl, hm, hh => by
   have h0 : t.2.1.length = 0 := by unfold meas at hm; omega
   exact Ev.step (fun k => jA k _ _ _ _ _ _ _ _ _) (Ev.no (decide_eq_false (by omega)) (Ev.pure _))
 | f + 1, t, i, hl, hm, hh => by
   refine Ev.step (fun k => jA k _ _ _ _ _ _ _ _ _) ?_
   unfold X5
   by_cases h : i < t.2.1.length
   ·rw [if_pos h]
    have ht := (wZ hh).1
    obtain ⟨l1, l2, l3, hp⟩ := zo ht
    refine Ev.yes (decide_eq_true (by omega)) (Ev.bind (WT t i ht h) (Ev.ite (fun hb => ?_) (fun hb => ?_)))
    ·rw [if_pos hb, show IntKind.i64.wrap ((i : Int) + 1) = ((i + 1 : Nat) : Int) by rw [zg (by omega) (by omega)]; simp]
     exact V3 z1 z2 z3 f t (i + 1) hl (by unfold meas at hm ⊢; omega) hh
    ·rw [if_neg (by rw [hb]; simp)]
     obtain ⟨hk, hd⟩ := M3 (by rw [hb]; simp)
     have e := W5 t (i : Int) (by omega) (zQ hp) (by omega) (by unfold In; omega)
     rw [XK ht h, if_pos (wZ hd).1] at e
     have hdl := ZN h
     exact Ev.bind e (V3 z1 z2 z3 f (wU t i) 0 (by omega) (by unfold meas at hm ⊢; omega) hd)
   ·rw [if_neg h]
    exact Ev.no (decide_eq_false (by omega)) (Ev.pure _)
theorem KC {t : Trick} {i : Nat} (hh : wN t = true) (h : i < t.2.1.length) : isNeeded t (i : Int) = Tz t i := by
 unfold isNeeded
 have h1 : decide ((0 : Int) ≤ (i : Int)) = true := by simp
 have h2 : decide ((i : Int) < (t.2.1.length : Int)) = true := by simp [h]
 rw [hh, h1, h2, Int.toNat_natCast]; rfl
theorem VK (z1 z2 z3 : Int) : ∀ (f : Nat) (t : Trick) (i : Nat), t.2.1.length ≤ 12 → meas t i ≤ f → wN t = true → Ev (fun k => xC k (i : Int) z1 z2 z3 t.2.2.1 t.2.2.2.1 t.2.2.2.2 t.1 t.2.1) (withB (X5 f t i) true)
 | 0, t, i, hl, hm, hh => by
   have h0 : t.2.1.length = 0 := by unfold meas at hm; omega
   exact Ev.step (fun k => jw k _ _ _ _ _ _ _ _ _) (Ev.no (decide_eq_false (by omega)) (Ev.pure _))
 | f + 1, t, i, hl, hm, hh => by
   refine Ev.step (fun k => jw k _ _ _ _ _ _ _ _ _) ?_
   unfold X5
   by_cases h : i < t.2.1.length
   ·rw [if_pos h]
    have ht := (wZ hh).1
    obtain ⟨l1, l2, l3, hp⟩ := zo ht
    have e0 := Wr t (i : Int) (by omega) (by omega) (by unfold In; omega)
    rw [KC hh h] at e0
    refine Ev.yes (decide_eq_true (by omega)) (Ev.bind e0 (Ev.ite (fun hb => ?_) (fun hb => ?_)))
    ·rw [if_pos hb, show IntKind.i64.wrap ((i : Int) + 1) = ((i + 1 : Nat) : Int) by rw [zg (by omega) (by omega)]; simp]
     exact VK z1 z2 z3 f t (i + 1) hl (by unfold meas at hm ⊢; omega) hh
    ·rw [if_neg (by rw [hb]; simp)]
     obtain ⟨hk, hd⟩ := M3 (by rw [hb]; simp)
     have hdl := ZN h
     exact Ev.bind (Pj t i (by omega) (by omega) h) (VK z1 z2 z3 f (wU t i) 0 (by omega) (by unfold meas at hm ⊢; omega) hd)
   ·rw [if_neg h]
    exact Ev.no (decide_eq_false (by omega)) (Ev.pure _)
theorem Kx {t : Trick} (h : t.2.1.length ≤ 12) : meas t 0 ≤ 200 := by unfold meas; omega
theorem V9 (t : Trick) (a1 : t.1.length ≤ 1048576) (ai : Ins t.1) (a2 : t.2.1.length ≤ 1048576) : Ev (fun k => uJ k t) (gY t) := by
 unfold gY
 refine Ev.step (fun k => Ua k t) (Ev.bind (V7 t (by rw [zc]; omega) ai (by rw [zc]; omega)) (Ev.ite (fun h => Ev.some ?_) (fun h => ?_)))
 ·rw [if_neg (by simpa using h)]; rfl
 ·have h : wN t = true := by simpa using h
  have hl := (zo (wZ h).1).1
  rw [if_pos h]
  exact Ev.bind (Ti t a1 a2) (V3 0 0 0 200 t 0 hl (Kx hl) h)
theorem VN (t : Trick) (a1 : t.1.length ≤ 1048576) (a2 : t.2.1.length ≤ 1048576) : Ev (fun k => fH k t) (gY t) := by
 unfold gY
 refine Ev.step (fun k => VO k t) (Ev.bind (cO t (by rw [zc]; omega) (by rw [zc]; omega)) (Ev.ite (fun h => Ev.some ?_) (fun h => ?_)))
 ·rw [if_neg (by simpa using h)]; rfl
 ·have h : wN t = true := by simpa using h
  have hl := (zo (wZ h).1).1
  rw [if_pos h]
  exact Ev.yes (by rw [za]; simp; omega) (Ev.yes (by rw [za]; simp; omega) (VK 0 0 0 200 t 0 hl (Kx hl) h))
theorem Mh (t : Trick) : (gY t).1.length ≤ 12 ∧ (gY t).2.1.length ≤ 12 := by
 unfold gY
 split
 ·rename_i h
  have hl := (zo (wZ h).1).1
  have hs := Sp 200 t 0 hl (Kx hl) h (fun j hj => by omega)
  have := zo (wZ hs.holds).1
  exact ⟨this.2.2.1, this.1⟩
 ·simp [noTrick]
theorem ae (t : Trick) (f0 : Fits TrickTy t) : Ev (fun k => uN k t) true := by
 obtain ⟨a1, ai, a2⟩ := ao f0
 refine Ev.step (fun k => eB k t) (Ev.bind (Z0 t 1048576 a1 a2 (by omega) (by omega)) (Ev.ite (fun h => Ev.pure _) (fun h => ?_)))
 obtain ⟨c1, c2, c3, c4⟩ := cH (t := t) (n := 1048576) (by omega) (by simpa using h)
 have hl := Mh t
 have es := VN t c1 c2
 have ei := V9 t c1 ai c2
 have et := ZZ t c1 c2
 revert hl es ei
 generalize gY t = y
 obtain ⟨p, st, c, a, b, ok⟩ := y
 intro hl es ei
 have h1 : p.length ≤ 12 := hl.1
 have h2 : st.length ≤ 12 := hl.2
 have ee := ca (p, st, c, a, b) (p, st, c, a, b) (by rw [zc]; show p.length ≤ _; omega) (by rw [zc]; show st.length ≤ _; omega) (by rw [zc]; show p.length ≤ _; omega) (by rw [zc]; show st.length ≤ _; omega)
 have hd := Lv p.length st.length 1 c a b (by omega) (by omega) (by omega) (by omega)
 refine Ev.bind et (Ev.bind es (Ev.bind et (Ev.bind ei (Ev.bind ee (Ev.no (by simp) (Ev.no (by simp) ?_))))))
 refine Ev.bind et (Ev.bind (ca t t a1 a2 a1 a2) (Ev.no (by simp) ?_))
 refine Ev.bind (UZ t 1 c1 c2 (by omega) (by omega)) (Ev.no (by simp; omega) (Ev.bind ee (Ev.no (by simp) (Ev.no (by simp) ?_))))
 refine Ev.bind (UZ (p, st, c, a, b) 1 (by show p.length ≤ _; omega) (by show st.length ≤ _; omega) (by omega) (by omega)) ?_
 refine Ev.bind hd (Ev.no (by simp; omega) (Ev.no (by simp) ?_))
 refine Ev.bind et (Ev.bind ei (Ev.bind ee (Ev.no (by simp) (Ev.no (by simp) ?_))))
 exact Ev.bind hd (Ev.no (by simp; omega) (Ev.no (by simp) (Ev.pure _)))
end Qq
