/-
  The law FnExactIsNeeded comes to true.
  Conditions: numbers and lengths are such as a machine bears.
-/
import Derived.Test.YtgbbdagfjenmeaaGreatDoorQsh
import Derived.Test.YtgbbdagfjenmeaaGreatDoorPJ
namespace Qq
open Go Go.Vt Pt
set_option linter.unusedVariables false
set_option linter.unusedSimpArgs false
set_option linter.unnecessarySimpa false
theorem Xf (t : Trick) (a1 : t.1.length ≤ maxLen) (ai : Ins t.1) (a2 : t.2.1.length ≤ maxLen) : Ev (fun k => Ua k t) (xe t) :=
 Ev.step (fun k => Mk k t) (Ev.bind (bB t a1 ai a2) (Ev.pure _))
theorem PE (t : Trick) : ((vl t).2.2.2.2 && (vl t).1 == 1) = xe t := by
 unfold xe
 rcases told t with ⟨h1, e⟩ | ⟨h1, ha, e⟩ | ⟨h1, A, ha, hh, e⟩ | ⟨h1, A, ha, w, hw, hb, hr, e⟩ <;> rw [e] <;> rfl
theorem Sb (t : Trick) (a1 : t.1.length ≤ maxLen) (a2 : t.2.1.length ≤ maxLen) : Ev (fun k => Y3 k t) (xe t) := by
 refine Ev.step (fun k => Sc k t) (Ev.bind (Vr t a1 a2) ?_)
 rw [← PE]
 exact Ev.ite (fun h => Ev.some (by rw [h]; rfl)) (fun h => Ev.some (by rw [h]; rfl))
theorem Uv {t : Trick} {i : Nat} (ht : zi t = true) (h : i < t.2.1.length) : dropStep t (i : Int) = if zi (uC t i) = true then Rm (uC t i) true else noTrick := by
 unfold dropStep
 have h1 : decide ((0 : Int) ≤ (i : Int)) = true := by simp
 have h2 : decide ((i : Int) < (t.2.1.length : Int)) = true := by simp [h]
 rw [ht, h1, h2, Int.toNat_natCast]; rfl
theorem LQ {t : Trick} (h : ¬ zi t = true) : xe t = false := by
 cases hh : xe t with
 | false => rfl
 | true => exact absurd (xZ hh).1 h
theorem Jc {t : Trick} {i : Nat} (h : zi (uC t i) = true) (ai : Ins t.1) : (uC t i).1.length ≤ maxLen ∧ Ins (uC t i).1 ∧ (uC t i).2.1.length ≤ maxLen := by
 have := zy h
 exact ⟨by rw [zd]; omega, ai, by rw [zd]; omega⟩
theorem Yp (t : Trick) (i : Nat) (ht : zi t = true) (hi : i < t.2.1.length) : Ev (fun k => b0 k (t, (i : Int))) (Xa t i) := by
 obtain ⟨l1, l2, l3, hp⟩ := zy ht
 have ai := zQ hp
 have e := Yz t (i : Int) (by omega) ai (by omega) (by unfold In; omega)
 rw [Uv ht hi] at e
 refine Ev.step (fun k => SJ k t (i : Int)) (Ev.bind e ?_)
 have g : t.2.1.getD (i : Int).toNat stepZ = t.2.1.getD i stepZ := by rw [Int.toNat_natCast]
 unfold Xa
 refine Ev.yes (by simp) (Ev.yes (by simp [hi]) ?_)
 rw [Int.toNat_natCast]
 refine Ev.ite (fun h => Ev.some ?_) (fun h => ?_)
 ·have h : ¬ (t.2.1.getD i stepZ).1 = 1 := by simpa using h
  rw [beq_eq_false_iff_ne.2 h]; rfl
 ·have h : (t.2.1.getD i stepZ).1 = 1 := by simpa using h
  rw [h]
  by_cases hd : zi (uC t i) = true
  ·obtain ⟨d1, d2, d3⟩ := Jc hd ai
   rw [if_pos hd]
   exact Ev.no rfl (Ev.bind (Xf (uC t i) d1 d2 d3) (Ev.some (by simp)))
  ·rw [if_neg hd, LQ hd]
   exact Ev.yes rfl (Ev.some rfl)
theorem SN (t : Trick) (i : Int) (a1 : t.1.length ≤ maxLen) (ai : Ins t.1) (a2 : t.2.1.length ≤ maxLen) : Ev (fun k => Xj k (t, i)) (isNeeded t i) := by
 unfold isNeeded
 refine Ev.step (fun k => SO k t i) (Ev.ite (fun h => ?_) (fun h => Ev.some ?_))
 ·have h0 : 0 ≤ i := by simpa using h
  rw [decide_eq_true h0, Bool.true_and]
  obtain ⟨n, rfl⟩ := Int.eq_ofNat_of_zero_le h0
  refine Ev.ite (fun h => ?_) (fun h => Ev.some ?_)
  ·have h1 : (n : Int) < (t.2.1.length : Int) := by simpa using h
   rw [decide_eq_true h1, Bool.true_and, Int.toNat_natCast]
   refine Ev.bind (Xf t a1 ai a2) (Ev.ite (fun h => ?_) (fun h => Ev.some ?_))
   ·rw [h, Bool.true_and]
    exact (Yp t n (xZ h).1 (by omega)).bind (Ev.pure _)
   ·rw [h]; rfl
  ·have h1 : ¬ (n : Int) < (t.2.1.length : Int) := by simpa using h
   rw [decide_eq_false h1]; simp
 ·have h0 : ¬ 0 ≤ i := by simpa using h
  rw [decide_eq_false h0]; simp
end Qq
