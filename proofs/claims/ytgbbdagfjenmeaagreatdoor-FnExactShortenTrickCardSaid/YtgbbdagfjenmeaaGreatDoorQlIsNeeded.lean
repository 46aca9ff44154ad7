/-
  The law FnExactIsNeeded comes to true.
  Conditions: numbers and lengths are such as a machine bears.
-/
import Derived.Test.YtgbbdagfjenmeaaGreatDoorQsh
import Derived.Test.YtgbbdagfjenmeaaGreatDoorPB
namespace Qq
open Go Go.Vt Pt
set_option linter.unusedVariables false
set_option linter.unusedSimpArgs false
set_option linter.unnecessarySimpa false
theorem V7 (t : Trick) (a1 : t.1.length ≤ maxLen) (ai : Ins t.1) (a2 : t.2.1.length ≤ maxLen) : Ev (fun k => RA k t) (wN t) :=
 Ev.step (fun k => Hz k t) (Ev.bind (wx t a1 ai a2) (Ev.pure _))
theorem KJ (t : Trick) : ((zK t).2.2.2.2 && (zK t).1 == 1) = wN t := by
 unfold wN
 rcases told t with ⟨h1, e⟩ | ⟨h1, ha, e⟩ | ⟨h1, A, ha, hh, e⟩ | ⟨h1, A, ha, w, hw, hb, hr, e⟩ <;> rw [e] <;> rfl
theorem cO (t : Trick) (a1 : t.1.length ≤ maxLen) (a2 : t.2.1.length ≤ maxLen) : Ev (fun k => eH k t) (wN t) := by
 refine Ev.step (fun k => PY k t) (Ev.bind (gp t a1 a2) ?_)
 rw [← KJ]
 exact Ev.ite (fun h => Ev.some (by rw [h]; rfl)) (fun h => Ev.some (by rw [h]; rfl))
theorem XK {t : Trick} {i : Nat} (ht : zf t = true) (h : i < t.2.1.length) : dropStep t (i : Int) = if zf (wU t i) = true then withB (wU t i) true else noTrick := by
 unfold dropStep
 have h1 : decide ((0 : Int) ≤ (i : Int)) = true := by simp
 have h2 : decide ((i : Int) < (t.2.1.length : Int)) = true := by simp [h]
 rw [ht, h1, h2, Int.toNat_natCast]; rfl
theorem Lu {t : Trick} (h : ¬ zf t = true) : wN t = false := by
 cases hh : wN t with
 | false => rfl
 | true => exact absurd (wZ hh).1 h
theorem Ec {t : Trick} {i : Nat} (h : zf (wU t i) = true) (ai : Ins t.1) : (wU t i).1.length ≤ maxLen ∧ Ins (wU t i).1 ∧ (wU t i).2.1.length ≤ maxLen := by
 have := zo h
 exact ⟨by rw [zc]; omega, ai, by rw [zc]; omega⟩
theorem WT (t : Trick) (i : Nat) (ht : zf t = true) (hi : i < t.2.1.length) : Ev (fun k => Yf k (t, (i : Int))) (Tz t i) := by
 obtain ⟨l1, l2, l3, hp⟩ := zo ht
 have ai := zQ hp
 have e := W5 t (i : Int) (by omega) ai (by omega) (by unfold In; omega)
 rw [XK ht hi] at e
 refine Ev.step (fun k => Ns k t (i : Int)) (Ev.bind e ?_)
 have g : t.2.1.getD (i : Int).toNat stepZ = t.2.1.getD i stepZ := by rw [Int.toNat_natCast]
 unfold Tz
 refine Ev.yes (by simp) (Ev.yes (by simp [hi]) ?_)
 rw [Int.toNat_natCast]
 refine Ev.ite (fun h => Ev.some ?_) (fun h => ?_)
 ·have h : ¬ (t.2.1.getD i stepZ).1 = 1 := by simpa using h
  rw [beq_eq_false_iff_ne.2 h]; rfl
 ·have h : (t.2.1.getD i stepZ).1 = 1 := by simpa using h
  rw [h]
  by_cases hd : zf (wU t i) = true
  ·obtain ⟨d1, d2, d3⟩ := Ec hd ai
   rw [if_pos hd]
   exact Ev.no rfl (Ev.bind (V7 (wU t i) d1 d2 d3) (Ev.some (by simp)))
  ·rw [if_neg hd, Lu hd]
   exact Ev.yes rfl (Ev.some rfl)
theorem Ny (t : Trick) (i : Int) (a1 : t.1.length ≤ maxLen) (ai : Ins t.1) (a2 : t.2.1.length ≤ maxLen) : Ev (fun k => Uc k (t, i)) (isNeeded t i) := by
 unfold isNeeded
 refine Ev.step (fun k => Nz k t i) (Ev.ite (fun h => ?_) (fun h => Ev.some ?_))
 ·have h0 : 0 ≤ i := by simpa using h
  rw [decide_eq_true h0, Bool.true_and]
  obtain ⟨n, rfl⟩ := Int.eq_ofNat_of_zero_le h0
  refine Ev.ite (fun h => ?_) (fun h => Ev.some ?_)
  ·have h1 : (n : Int) < (t.2.1.length : Int) := by simpa using h
   rw [decide_eq_true h1, Bool.true_and, Int.toNat_natCast]
   refine Ev.bind (V7 t a1 ai a2) (Ev.ite (fun h => ?_) (fun h => Ev.some ?_))
   ·rw [h, Bool.true_and]
    exact (WT t n (wZ h).1 (by omega)).bind (Ev.pure _)
   ·rw [h]; rfl
  ·have h1 : ¬ (n : Int) < (t.2.1.length : Int) := by simpa using h
   rw [decide_eq_false h1]; simp
 ·have h0 : ¬ 0 ≤ i := by simpa using h
  rw [decide_eq_false h0]; simp
theorem Wr (t : Trick) (i : Int) (a1 : t.1.length ≤ 1048576) (a2 : t.2.1.length ≤ 1048576) (hi : In i) : Ev (fun k => Z7 k (t, i)) (isNeeded t i) := by
 unfold isNeeded
 refine Ev.step (fun k => Nd k t i) (Ev.bind (cO t (by rw [zc]; omega) (by rw [zc]; omega)) (Ev.ite (fun h => Ev.some ?_) (fun h => ?_)))
 ·have h : wN t = false := by simpa using h
  rw [h]; rfl
 ·have h : wN t = true := by simpa using h
  have ht := (wZ h).1
  rw [h, Bool.true_and, zg (by omega) (by omega)]
  refine Ev.bind (xf _ _ _) (Ev.ite (fun h => Ev.some ?_) (fun h => ?_))
  ·have : ¬ (0 ≤ i ∧ i < (t.2.1.length : Int)) := fun hh => by
    simp at h; omega
   by_cases h0 : 0 ≤ i
   ·rw [decide_eq_false (p := i < (t.2.1.length : Int)) (fun h1 => this ⟨h0, h1⟩)]; simp
   ·rw [decide_eq_false h0]; rfl
  ·have hb : 0 ≤ i ∧ i < (t.2.1.length : Int) := by simp at h; omega
   obtain ⟨n, rfl⟩ := Int.eq_ofNat_of_zero_le hb.1
   have hn : n < t.2.1.length := by omega
   rw [decide_eq_true hb.1, decide_eq_true hb.2, Bool.true_and, Bool.true_and, Int.toNat_natCast]
   unfold Tz
   refine Ev.yes (by simp) (Ev.yes (by simp [hn]) ?_)
   refine Ev.ite (fun h => Ev.some ?_) (fun h => ?_)
   ·have h : ¬ (t.2.1.getD n stepZ).1 = 1 := by simpa using h
    rw [beq_eq_false_iff_ne.2 h]; rfl
   ·have h : (t.2.1.getD n stepZ).1 = 1 := by simpa using h
    rw [h]
    have e := Nf t (n : Int) a1 a2 hi
    rw [XK ht hn] at e
    refine Ev.bind e ?_
    by_cases hd : zf (wU t n) = true
    ·have hl := zo hd
     rw [if_pos hd]
     exact Ev.no rfl (Ev.bind (cO (wU t n) (by rw [zc]; omega) (by rw [zc]; omega)) (Ev.some (by simp)))
    ·rw [if_neg hd, Lu hd]
     exact Ev.yes rfl (Ev.some rfl)
theorem Vz (t : Trick) (i : Int) (f0 : Fits TrickTy t) (f1 : Fits (.int .i64) i) : Ev (fun k => eD k (t, i)) true := by
 obtain ⟨a1, ai, a2⟩ := ao f0
 refine Ev.step (fun k => Yt k t i) (Ev.bind (Z0 t 1048576 a1 a2 (by omega) (by omega)) (Ev.ite (fun h => Ev.pure _) (fun h => ?_)))
 obtain ⟨c1, c2, c3, c4⟩ := cH (t := t) (n := 1048576) (by omega) (by simpa using h)
 have et := ZZ t c1 c2
 refine Ev.bind et (Ev.bind (Wr t i c1 c2 (In.of_fits f1)) (Ev.bind et (Ev.bind (Ny t i a1 ai a2) (Ev.no (by simp) ?_))))
 exact Ev.bind et (Ev.bind (ca t t a1 a2 a1 a2) (Ev.no (by simp) (Ev.pure _)))
end Qq
