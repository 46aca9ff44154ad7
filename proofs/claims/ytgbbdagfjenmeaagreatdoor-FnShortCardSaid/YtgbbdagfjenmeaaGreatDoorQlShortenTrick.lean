/-
  The law FnExactShortenTrick comes to true.
  Conditions: numbers and lengths are such as a machine bears.
-/
import Derived.Test.YtgbbdagfjenmeaaGreatDoorQlIsNeeded
namespace Qq
open Go Go.Vt Pt
set_option linter.unusedVariables false
set_option linter.unusedSimpArgs false
set_option linter.unnecessarySimpa false
theorem Lg {t : Trick} {i : Nat} (h : ¬ Xa t i = true) : (t.2.1.getD i stepZ).1 = 1 ∧ xe (uC t i) = true := by
 unfold Xa at h
 simpa using h
theorem Xb (z1 z2 z3 : Int) : ∀ (f : Nat) (t : Trick) (i : Nat), t.2.1.length ≤ 12 → meas t i ≤ f → xe t = true → Ev (fun k => xu k (i : Int) z1 z2 z3 t.2.2.1 t.2.2.2.1 t.2.2.2.2 t.1 t.2.1) (Rm (fP f t i) true)
 | 0, t, i, hl, hm, hh => by
   have h0 : t.2.1.length = 0 := by unfold meas at hm; omega
   exact Ev.step (fun k => uE k _ _ _ _ _ _ _ _ _) (Ev.no (decide_eq_false (by omega)) (Ev.pure _))
 | f + 1, t, i, hl, hm, hh => by
   refine Ev.step (fun k => uE k _ _ _ _ _ _ _ _ _) ?_
   unfold fP
   by_cases h : i < t.2.1.length
   ·rw [if_pos h]
    have ht := (xZ hh).1
    obtain ⟨l1, l2, l3, hp⟩ := zy ht
    refine Ev.yes (decide_eq_true (by omega)) (Ev.bind (Yp t i ht h) (Ev.ite (fun hb => ?_) (fun hb => ?_)))
    ·rw [if_pos hb, show IntKind.i64.wrap ((i : Int) + 1) = ((i + 1 : Nat) : Int) by rw [zf (by omega) (by omega)]; simp]
     exact Xb z1 z2 z3 f t (i + 1) hl (by unfold meas at hm ⊢; omega) hh
    ·rw [if_neg (by rw [hb]; simp)]
     obtain ⟨hk, hd⟩ := Lg (by rw [hb]; simp)
     have e := Yz t (i : Int) (by omega) (zQ hp) (by omega) (by unfold In; omega)
     rw [Uv ht h, if_pos (xZ hd).1] at e
     have hdl := Wd h
     exact Ev.bind e (Xb z1 z2 z3 f (uC t i) 0 (by omega) (by unfold meas at hm ⊢; omega) hd)
   ·rw [if_neg h]
    exact Ev.no (decide_eq_false (by omega)) (Ev.pure _)
theorem Pw {t : Trick} {i : Nat} (hh : xe t = true) (h : i < t.2.1.length) : isNeeded t (i : Int) = Xa t i := by
 unfold isNeeded
 have h1 : decide ((0 : Int) ≤ (i : Int)) = true := by simp
 have h2 : decide ((i : Int) < (t.2.1.length : Int)) = true := by simp [h]
 rw [hh, h1, h2, Int.toNat_natCast]; rfl
theorem Lj {t : Trick} (h : t.2.1.length ≤ 12) : meas t 0 ≤ 200 := by unfold meas; omega
theorem gJ (t : Trick) (a1 : t.1.length ≤ 1048576) (ai : Ins t.1) (a2 : t.2.1.length ≤ 1048576) : Ev (fun k => vO k t) (shortenT t) := by
 unfold shortenT
 refine Ev.step (fun k => Xh k t) (Ev.bind (Xf t (by rw [zd]; omega) ai (by rw [zd]; omega)) (Ev.ite (fun h => Ev.some ?_) (fun h => ?_)))
 ·rw [if_neg (by simpa using h)]; rfl
 ·have h : xe t = true := by simpa using h
  have hl := (zy (xZ h).1).1
  rw [if_pos h]
  exact Ev.bind (bJ t a1 a2) (Xb 0 0 0 200 t 0 hl (Lj hl) h)
end Qq
