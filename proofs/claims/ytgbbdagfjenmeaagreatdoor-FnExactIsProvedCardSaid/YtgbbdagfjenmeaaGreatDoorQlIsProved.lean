/-
  The law FnExactIsProved comes to true.
  Conditions: numbers and lengths are such as a machine bears.
-/
import Derived.Test.YtgbbdagfjenmeaaGreatDoorQvd
import Derived.Test.YtgbbdagfjenmeaaGreatDoorPB
namespace Qq
open Go Go.Vt Pt
set_option linter.unusedVariables false
set_option linter.unusedSimpArgs false
set_option linter.unnecessarySimpa false
theorem uE (c d : Scene) (hc : c.1.length ≤ maxLen) (hd : d.1.length ≤ maxLen) : Ev (fun k => vh k (c, d)) (decide (c = d)) := by
 obtain ⟨p, n⟩ := c
 obtain ⟨q, m⟩ := d
 refine Ev.step (fun k => QK k (p, n) (q, m)) (Ev.bind (fA p q hc hd) (Ev.ite (fun h => Ev.some ?_) (fun h => Ev.some ?_)))
 ·have : p = q := by simpa using h
  subst this
  rw [Bool.eq_iff_iff]; simp
 ·have : ¬ p = q := by simpa using h
  simp [this]
theorem Wv (t : Trick) (ps : List Int) : (zT t ps).1.length ≤ maxLen := by have := MM t ps; rw [zc]; omega
theorem Gm {t : Trick} {ps : List Int} (h : (zT t ps).2.2 = true) : zw t ((zT t ps).1, (zT t ps).2.1) = x5 t ((zT t ps).1, (zT t ps).2.1) := by
 obtain ⟨h1, h2, h3⟩ := Ex h
 unfold zw
 rw [h1, h3]; rfl
theorem Gt {t : Trick} {v : Verdict} (h : zf t = false) : jM t v = false := by unfold jM; rw [h]; rfl
theorem bw (t : Trick) (v : Verdict) (a1 : t.1.length ≤ maxLen) (ai : Ins t.1) (a2 : t.2.1.length ≤ maxLen) (b1 : v.2.1.length ≤ 1048576) (b2 : v.2.2.1.length ≤ 1048576) : Ev (fun k => eX k (t, v)) (jM t v) := by
 obtain ⟨c, ps, p, n⟩ := v
 have b1 : ps.length ≤ 1048576 := b1
 have b2 : p.length ≤ 1048576 := b2
 have hp : p.length ≤ maxLen := by rw [zc]; omega
 refine Ev.step (fun k => Nx k t (c, ps, p, n)) (Ev.ite (fun h => ?_) (fun h => ?_))
 ·have hc : c = 2 := by simpa using h
  subst hc
  have hr := Ex (t := t) (ps := ps)
  have hcl := Gm (t := t) (ps := ps)
  have hl := Wv t ps
  have e := bt t ps a1 ai a2 b1
  unfold jM
  rw [if_pos rfl]
  dsimp only
  revert hr hcl hl e
  generalize zT t ps = r
  obtain ⟨q, m, ok⟩ := r
  intro hr hcl hl e
  refine Ev.bind e (Ev.ite (fun h1 => ?_) (fun h1 => Ev.some ?_))
  ·have h1 : ok = true := h1
   subst h1
   obtain ⟨r1, r2, r3⟩ := hr rfl
   have r4 := hcl rfl
   dsimp only at r2 r3 r4 hl ⊢
   refine Ev.bind (uE (q, m) (p, n) hl hp) (Ev.ite (fun h2 => ?_) (fun h2 => Ev.some ?_))
   ·refine Ev.bind (yM t (q, m) a1 ai a2 hl (zQ r2.ok)) (Ev.some ?_)
    rw [r4, r1, h2]; rfl
   ·rw [h2]; simp
  ·have h1 : ok = false := h1
   subst h1
   simp
 ·have hc : ¬ c = 2 := by simpa using h
  unfold jM
  rw [if_neg hc]
  have e := wx t a1 ai a2
  have ht : (zK t).2.2.2.2 = zf t := by
   rcases told t with ⟨h1, e⟩ | ⟨h1, ha, e⟩ | ⟨h1, A, ha, hh, e⟩ | ⟨h1, A, ha, w, hw, hb, hr, e⟩ <;> rw [e, h1]
  revert e ht
  generalize zK t = y
  obtain ⟨d, ps2, p2, n2, ok⟩ := y
  intro e ht
  have ht : ok = zf t := ht
  subst ht
  refine Ev.bind e (Ev.ite (fun h1 => ?_) (fun h1 => Ev.some ?_))
  ·have h1 : zf t = true := h1
   rw [h1, Bool.true_and]
   dsimp only
   refine Ev.ite (fun h2 => ?_) (fun h2 => Ev.some ?_)
   ·rw [h2, Bool.true_and]
    refine Ev.ite (fun h3 => ?_) (fun h3 => Ev.some ?_)
    ·have h3 : ps = [] := by simpa using h3
     subst h3
     refine (uE (p, n) ([], 0) hp (Nat.zero_le _)).bind (Ev.some ?_)
     have e : decide ((p, n) = (([] : List Int), (0 : Int))) = decide ((([] : List Int), (0 : Int)) = (p, n)) := decide_eq_decide.2 ⟨Eq.symm, Eq.symm⟩
     rw [e]; rfl
    ·have h3 : ¬ ps = [] := by simpa using h3
     have h4 : ¬ [] = ps := fun e => h3 e.symm
     simp [h4]
   ·rw [h2]; simp
  ·have h1 : zf t = false := h1
   rw [h1]; rfl
theorem Hp (x v : Verdict) (x1 : x.2.1.length ≤ maxLen) (x2 : x.2.2.1.length ≤ maxLen) : Ev (fun k => Sr k (x, v)) (x.1 == v.1 && (decide (x.2.1 = v.2.1) && decide (x.2.2 = v.2.2))) := by
 refine Ev.step (fun k => Mj k x v) (Ev.ite (fun h => ?_) (fun h => Ev.some ?_))
 ·rw [h, Bool.true_and]
  refine Ev.bind (bN x.2.1 v.2.1 x1) (Ev.ite (fun h2 => ?_) (fun h2 => Ev.some ?_))
  ·rw [h2, Bool.true_and]
   exact (gb x.2.2 v.2.2 x2).bind (Ev.pure _)
  ·rw [h2]; rfl
 ·rw [h]; rfl
theorem Wp (t : Trick) (v : Verdict) (a1 : t.1.length ≤ maxLen) (a2 : t.2.1.length ≤ maxLen) (b1 : v.2.1.length ≤ 1048576) : Ev (fun k => Z6 k (t, v)) (jM t v) := by
 obtain ⟨c, ps, p, n⟩ := v
 have b1 : ps.length ≤ 1048576 := b1
 refine Ev.step (fun k => Nc k t (c, ps, p, n)) (Ev.bind (xm t a1 a2) (Ev.ite (fun h => Ev.some ?_) (fun h => ?_)))
 ·have : zf t = false := by simpa using h
  rw [Gt this]
 ·have ht : zf t = true := by simpa using h
  unfold jM
  rw [ht, Bool.true_and]
  refine Ev.ite (fun h => ?_) (fun h => ?_)
  ·have hc : c = 2 := by simpa using h
   subst hc
   have hl := Wv t ps
   have e := P8 t ps a1 a2 b1
   rw [if_pos rfl]
   dsimp only
   revert hl e
   generalize zT t ps = r
   obtain ⟨q, m, ok⟩ := r
   intro hl e
   refine Ev.bind e (Ev.ite (fun h1 => ?_) (fun h1 => Ev.some ?_))
   ·have h1 : ok = true := h1
    subst h1
    refine Ev.bind (gb (q, m) (p, n) hl) (Ev.ite (fun h2 => ?_) (fun h2 => Ev.some ?_))
    ·refine Ev.bind (XB t (q, m) a1 hl) (Ev.some ?_)
     rw [h2]; rfl
    ·rw [h2]; rfl
   ·have h1 : ok = false := h1
    subst h1; rfl
  ·have hc : ¬ c = 2 := by simpa using h
   rw [if_neg hc]
   have hf := cg t
   have e := gp t a1 a2
   have hk : (zK t).1 = 2 ∨ ((zK t).2.1 = [] ∧ (zK t).2.2.1 = [] ∧ (zK t).2.2.2.1 = 0) := by
    rcases told t with ⟨h1, e⟩ | ⟨h1, ha, e⟩ | ⟨h1, A, ha, hh, e⟩ | ⟨h1, A, ha, w, hw, hb, hr, e⟩ <;> rw [e]
    ·exact .inr ⟨rfl, rfl, rfl⟩
    ·exact .inr ⟨rfl, rfl, rfl⟩
    ·exact .inr ⟨rfl, rfl, rfl⟩
    ·exact .inl rfl
   revert hf e hk
   generalize zK t = y
   obtain ⟨d, ps2, p2, n2, ok⟩ := y
   intro hf e hk
   have hf1 : ps2.length ≤ maxLen := by have : ps2.length ≤ 12 := hf.1; rw [zc]; omega
   have hf2 : p2.length ≤ maxLen := by have : p2.length ≤ 12 := hf.2; rw [zc]; omega
   refine Ev.bind e ((Hp (d, ps2, p2, n2) (c, ps, p, n) hf1 hf2).bind (Ev.some ?_))
   dsimp only
   rcases hk with hk | ⟨k1, k2, k3⟩
   ·have hk : d = 2 := hk
    have : (d == c) = false := by rw [hk]; simp; exact fun e => hc e.symm
    rw [this]; rfl
   ·have k1 : ps2 = [] := k1
    have k2 : p2 = [] := k2
    have k3 : n2 = 0 := k3
    subst k1 k2 k3
    rfl
theorem N9 (v : Verdict) (h1 : v.2.1.length ≤ 1048576) (h2 : v.2.2.1.length ≤ 1048576) : Ev (fun k => jV k v) v :=
 Ev.step (fun k => Qj k v) (Ev.bind (Se _ h1) (Ev.bind (J4 v.2.2 h2) (Ev.pure _)))
def XZ (v : Verdict) (n : Int) : Int := if n - (v.2.1.length : Int) < 0 then -1 else if n - (v.2.1.length : Int) - (v.2.2.1.length : Int) < 0 then -1 else n - (v.2.1.length : Int) - (v.2.2.1.length : Int)
theorem Ma (v : Verdict) (n : Int) (h1 : v.2.1.length ≤ maxLen) (h2 : v.2.2.1.length ≤ maxLen) (hn : 0 ≤ n) (hn2 : n ≤ 1048576) : Ev (fun k => Xm k (v, n)) (XZ v n) := by
 refine Ev.step (fun k => Qk k v n) (Ev.bind (Si v.2.1 n h1 hn hn2) ?_)
 unfold XZ
 split
 ·exact Ev.yes rfl (Ev.pure _)
 ·rename_i h
  refine Ev.no (decide_eq_false h) (Ev.bind (J8 v.2.2 _ h2 (by omega) (by omega)) ?_)
  split
  ·exact Ev.yes rfl (Ev.pure _)
  ·rename_i h
   exact Ev.no (decide_eq_false h) (Ev.pure _)
theorem PU {v : Verdict} {n : Int} (hn : n ≤ 1048576) (h : ¬ XZ v n < 0) : v.2.1.length ≤ 1048576 ∧ v.2.2.1.length ≤ 1048576 := by
 unfold XZ at h
 split at h
 ·exact absurd (by decide) h
 ·split at h
  ·exact absurd (by decide) h
  ·omega
abbrev Fy : Ty := .pair (.int .i64) (.pair (.slice (.int .i64)) (.pair (.slice (.int .i64)) (.int .i64)))
theorem NJ (v : Verdict) (h1 : v.2.1.length ≤ maxLen) (h2 : v.2.2.1.length ≤ maxLen) : Ev (fun k => Xp k (v, v)) true :=
 Ev.step (fun k => Qp k _ _) (Ev.no (by simp) (Ev.bind (RV v.2.1 v.2.1 h1 h1) (Ev.no (by simp) (Ev.bind (HG v.2.2 v.2.2 h2 h2) (Ev.no (by simp) (Ev.pure _))))))
theorem Vy (t : Trick) (v : Verdict) (f0 : Fits TrickTy t) (f1 : Fits Fy v) : Ev (fun k => eC k (t, v)) true := by
 obtain ⟨a1, ai, a2⟩ := ao f0
 have b1 : v.2.1.length ≤ maxLen := f1.2.1.1
 have b2 : v.2.2.1.length ≤ maxLen := f1.2.2.1.1
 refine Ev.step (fun k => Ys k t v) (Ev.bind (Z0 t 1048576 a1 a2 (by omega) (by omega)) (Ev.ite (fun h => Ev.pure _) (fun h => ?_)))
 obtain ⟨c1, c2, c3, c4⟩ := cH (t := t) (n := 1048576) (by omega) (by simpa using h)
 refine Ev.bind (Ma v _ b1 b2 c3 (by omega)) (Ev.ite (fun h => Ev.pure _) (fun h => ?_))
 obtain ⟨d1, d2⟩ := PU (v := v) c4 (by simpa using h)
 have et := ZZ t c1 c2
 have ev := N9 v d1 d2
 refine Ev.bind et (Ev.bind ev (Ev.bind (Wp t v a1 a2 d1) (Ev.bind et (Ev.bind ev (Ev.bind (bw t v a1 ai a2 d1 d2) (Ev.no (by simp) ?_))))))
 refine Ev.bind et (Ev.bind (ca t t a1 a2 a1 a2) (Ev.no (by simp) ?_))
 exact Ev.bind ev (Ev.bind (NJ v b1 b2) (Ev.no (by simp) (Ev.pure _)))
end Qq
