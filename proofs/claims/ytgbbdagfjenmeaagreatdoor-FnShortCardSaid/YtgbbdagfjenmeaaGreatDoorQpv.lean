/-
  The tricks that hold, as the laws make them: whatever is drawn, a trick comes out that holds for all choices.
  Conditions: none.
-/
import Derived.Test.YtgbbdagfjenmeaaGreatDoorQmp
import Derived.Test.YtgbbdagfjenmeaaGreatDoorQkh
import Derived.Test.YtgbbdagfjenmeaaGreatDoorQlIsNeeded
namespace Qq
open Go Go.Vt Pt
set_option linter.unusedVariables false
set_option linter.unusedSimpArgs false
set_option linter.unnecessarySimpa false
theorem Sx (c : Cur) (h : xg c) (lo hi : Int) : Dr (fun k => uf k (c, (lo, hi))) (fun _ => True) :=
 Dr.step (fun k => RV k c lo hi) (Dr.bind (vR c h 12) fun y c1 h1 _ => Dr.ite (fun _ => Dr.ret h1 trivial) fun _ => Dr.ite (fun _ => Dr.ret h1 trivial) fun _ => Dr.ite (fun _ => Dr.ret h1 trivial) fun _ => Dr.ite (fun _ => Dr.ret h1 trivial) fun _ =>
  Dr.ite (fun _ => Dr.bind (JP c1 h1 _ (by decide)) fun _ _ h2 _ => Dr.ret h2 trivial) fun _ => Dr.ite (fun _ => Dr.bind (vR c1 h1 _) fun _ _ h2 _ => Dr.ret h2 trivial) fun _ => Dr.bind (vR c1 h1 _) fun _ _ h2 _ => Dr.ret h2 trivial)
theorem L9 (c : Cur) (h : xg c) : Dr (fun k => cM k (c, (8 : Int))) (fun p => 1 ≤ p.length ∧ p.length ≤ 8) := by
 obtain ⟨p, c', e, hp, hc⟩ := TF c h 8 (by omega) (by omega)
 exact ⟨p, c', e, hc, hp.pos, hp.le⟩
theorem Jj (c : Cur) (h : xg c) : Dr (fun k => Sk k c) (fun p => p.length ≤ 12) := by
 refine Dr.step (fun k => Pa k c) (Dr.bind (L9 c h) fun p c1 h1 hp => Dr.bind (vR c1 h1 14) fun y c2 h2 _ => Dr.ite (fun _ => ?_) fun _ => Dr.ite (fun _ => ?_) fun _ => Dr.ite (fun _ => Dr.ret h2 (by simp)) fun _ => Dr.ret h2 (by show p.length ≤ 12; omega))
 ·exact Dr.bind (Sx c2 h2 _ _) fun v c3 h3 _ => Dr.yes (decide_eq_true (by show (0 : Int) < (p.length : Int); omega)) (Dr.yes (decide_eq_true (by show 0 < p.length; omega)) (Dr.ret h3 (by simp; omega)))
 ·exact Dr.yes (decide_eq_true (by show (0 : Int) < (p.length : Int); omega)) (Dr.yes (decide_eq_true (by show 0 < p.length; omega)) (Dr.yes (by rw [za]; simp; omega) (Dr.ret h2 (by simp; omega))))
def Sm (t : Trick) : Prop := t.1.length ≤ 12 ∧ t.2.1.length ≤ 12
theorem L8 (c : Cur) (h : xg c) : Dr (fun k => ZO k c) Made := by
 obtain ⟨t, c', e, ht, hc⟩ := Md c h
 exact ⟨t, c', e, hc, ht⟩
theorem KV (c : Cur) (h : xg c) : Dr (fun k => vp k c) Made := by
 obtain ⟨t, c', e, ht, hc⟩ := VY c h
 exact ⟨t, c', e, hc, ht⟩
theorem Ji (c : Cur) (h : xg c) : Dr (fun k => Sf k c) Sm := by
 refine Dr.step (fun k => Q7 k c) (Dr.bind (L8 c h) fun t c1 h1 ht => Dr.bind (vR c1 h1 12) fun y c2 h2 _ => Dr.ite (fun _ => ?_) fun _ => Dr.ite (fun _ => ?_) fun _ => Dr.ite (fun _ => Dr.ite (fun hl => ?_) fun _ => ?_) fun _ => Dr.ite (fun _ => ?_) fun _ => ?_)
 ·exact Dr.bind (Sx c2 h2 _ _) fun v c3 h3 _ => Dr.ret h3 ⟨by have := ht.le; show t.1.length ≤ 12; omega, by have := ht.st; show t.2.1.length ≤ 12; omega⟩
 ·exact Dr.bind (Sx c2 h2 _ _) fun v c3 h3 _ => Dr.ret h3 ⟨by have := ht.le; show t.1.length ≤ 12; omega, by have := ht.st; show t.2.1.length ≤ 12; omega⟩
 ·have hl : (t.2.1.length : Int) > 0 := by simpa using hl
  obtain ⟨v, c3, e, h3, _⟩ := Sx c2 h2 0 3
  have e2 : ∀ {f : Nat → Option (Trick × Cur)} {z : Trick × Cur}, Ev f z → Ev (fun k => bif decide (0 < (t.2.1.length : Int)) then bif decide (0 < t.2.1.length) then f k else none else none) z := fun hf => Ev.yes (decide_eq_true (by omega)) (Ev.yes (decide_eq_true (by omega)) hf)
  have e3 := Ev.bind (h := fun k y5 => bif decide (0 < (t.2.1.length : Int)) then bif decide (0 < t.2.1.length) then (some (((t.1, (t.2.1.set 0 ((t.2.1.getD 0 (0, (0, 0), 0)).1, (((t.2.1.getD 0 (0, (0, 0), 0)).2).1), y5.1)), t.2.2), y5.2)) : Option (Trick × Cur)) else none else none) e (e2 (Ev.pure _))
  exact ⟨_, _, Ev.both (Ev.both e3 e3) e3, h3, by have := ht.le; show t.1.length ≤ 12; omega, by have := ht.st; show (t.2.1.set 0 _).length ≤ 12; rw [List.length_set]; omega⟩
 ·exact Dr.ret h2 ⟨by have := ht.le; show t.1.length ≤ 12; omega, by have := ht.st; show t.2.1.length ≤ 12; omega⟩
 ·exact Dr.bind (Jj c2 h2) fun p c3 h3 hp => Dr.ret h3 ⟨hp, by have := ht.st; show t.2.1.length ≤ 12; omega⟩
 ·exact Dr.ret h2 ⟨by have := ht.le; show t.1.length ≤ 12; omega, by have := ht.st; show t.2.1.length ≤ 12; omega⟩
theorem VX (n z1 z2 z3 ca a b : Int) (p : List Int) : ∀ (m : Nat) (st : List Step) (c : Cur), st.length + 2 * m ≤ 12 → xg c → Dr (fun k => vX k n (m : Int) z1 z2 z3 st ca a b p c.1 c.2.1 c.2.2) (fun t => t.1 = p ∧ t.2.1.length ≤ 12)
 | 0, st, c, hl, hc => Dr.step (fun k => eQ k _ _ _ _ _ _ _ _ _ _ _ _ _) (Dr.no (decide_eq_false (by omega)) (Dr.ret hc ⟨rfl, by show st.length ≤ 12; omega⟩))
 | m + 1, st, c, hl, hc => by
   have hw : IntKind.i64.wrap (((m + 1 : Nat) : Int) - 1) = (m : Int) := by rw [zf (by omega) (by omega)]; omega
   have hw2 : IntKind.i64.wrap ((st.length : Int) + 1) = (st.length : Int) + 1 := zf (by omega) (by omega)
   refine Dr.step (fun k => eQ k _ _ _ _ _ _ _ _ _ _ _ _ _) (Dr.yes (decide_eq_true (by omega)) (Dr.bind (vR c hc _) fun y c1 h1 _ => Dr.bind (Lf c1 h1 4) fun o c2 h2 _ => Dr.ite (fun _ => Dr.yes (by simp) ?_) fun _ => ?_))
   ·rw [hw, hw2]
    refine Dr.bind (vR c2 h2 _) fun q c3 h3 hq => ?_
    have hq2 := hq.2 (by omega)
    have hq1 := hq.1
    refine Dr.yes (decide_eq_true hq1) (Dr.yes (decide_eq_true (by show q ≤ _; omega)) (Dr.yes (by rw [za]; simp; omega) (Dr.yes (by rw [za]; simp; omega) (Dr.yes (decide_eq_true hq1) (Dr.yes (decide_eq_true (by show q ≤ _; omega)) (Dr.yes (by simp) (Dr.yes (by rw [za]; simp; omega) ?_)))))))
    exact VX n z1 z2 z3 ca a b p m _ c3 (by simp; omega) h3
   ·rw [hw, hw2]
    refine Dr.bind (vR c2 h2 _) fun q c3 h3 hq => ?_
    have hq2 := hq.2 (by omega)
    have hq1 := hq.1
    refine Dr.yes (decide_eq_true hq1) (Dr.yes (decide_eq_true (by show q ≤ _; omega)) (Dr.yes (by rw [za]; simp; omega) (Dr.yes (by rw [za]; simp; omega) (Dr.yes (decide_eq_true hq1) (Dr.yes (decide_eq_true (by show q ≤ _; omega)) (Dr.yes (by simp) (Dr.yes (by rw [za]; simp; omega) ?_)))))))
    exact VX n z1 z2 z3 ca a b p m _ c3 (by simp; omega) h3
theorem L7 (c : Cur) (h : xg c) : Dr (fun k => Vc k c) Sm := by
 refine Dr.step (fun k => RA k c) (Dr.bind (Lf c h 3) fun o c1 h1 _ => Dr.ite (fun _ => Dr.bind (Ji c1 h1) fun t c2 h2 ht => Dr.ret h2 ht) fun _ => Dr.bind (KV c1 h1) fun t c2 h2 ht => Dr.bind (vR c2 h2 3) fun y c3 h3 hy => ?_)
 have h1 := hy.1
 have h2 := hy.2 (by omega)
 obtain ⟨m, hm⟩ : ∃ m : Nat, y = (m : Int) := ⟨y.toNat, by omega⟩
 subst hm
 refine Dr.mono (VX _ 0 0 0 _ _ _ _ m t.2.1 c3 (by have := ht.st; omega) h3) fun u hu => ⟨?_, hu.2⟩
 rw [hu.1]
 have := ht.le
 show t.1.length ≤ 12
 omega
theorem Pq (c : Cur) (hc : xg c) : ∃ (t : Trick) (c' : Cur), Ev (fun k => vp k c) (t, c') ∧ xe t = true ∧ Sm t := by
 obtain ⟨y, c1, e1, a1, a2, a3⟩ := zM c hc 4
 have hy := a2 (by omega)
 have hcase : y = 0 ∨ y = 1 ∨ y = 2 ∨ y = 3 := by omega
 rcases hcase with rfl | rfl | rfl | rfl
 ·exact ⟨kn 0, c1, Ev.step (fun k => yY k c) (Ev.bind e1 (Ev.yes rfl (Ev.bind yB (Ev.pure _)))), WG 0, by decide, by decide⟩
 ·exact ⟨kn 1, c1, Ev.step (fun k => yY k c) (Ev.bind e1 (Ev.no rfl (Ev.yes rfl (Ev.bind yB (Ev.pure _))))), WG 1, by decide, by decide⟩
 ·exact ⟨kn 2, c1, Ev.step (fun k => yY k c) (Ev.bind e1 (Ev.no rfl (Ev.no rfl (Ev.yes rfl (Ev.bind yB (Ev.pure _)))))), WG 2, by decide, by decide⟩
 ·exact ⟨kn 3, c1, Ev.step (fun k => yY k c) (Ev.bind e1 (Ev.no rfl (Ev.no rfl (Ev.no rfl (Ev.bind yB (Ev.pure _)))))), WG 3, by decide, by decide⟩
theorem XQ (z1 z2 z3 : Int) : ∀ (m i : Nat) (c : Cur), i + m = 8 → xg c → ∃ t : Trick, Ev (fun k => w6 k (i : Int) z1 z2 z3 c.1 c.2.1 c.2.2) t ∧ xe t = true ∧ Sm t
 | 0, i, c, h, hc => by
   obtain ⟨t, c', e, h1, h2⟩ := Pq c hc
   exact ⟨t, Ev.step (fun k => w5 k _ _ _ _ _ _ _) (Ev.no (decide_eq_false (by omega)) (Ev.bind e (Ev.pure _))), h1, h2⟩
 | m + 1, i, c, h, hc => by
   obtain ⟨t, c1, e, hc1, ht⟩ := L7 c hc
   have hw : IntKind.i64.wrap ((i : Int) + 1) = ((i + 1 : Nat) : Int) := by rw [zf (by omega) (by omega)]; omega
   have es := Sb t (by rw [zd]; have := ht.1; omega) (by rw [zd]; have := ht.2; omega)
   cases hh : xe t with
   | true =>
     rw [hh] at es
     exact ⟨t, Ev.step (fun k => w5 k _ _ _ _ _ _ _) (Ev.yes (decide_eq_true (by omega)) (Ev.bind e (Ev.bind es (Ev.yes rfl (Ev.pure _))))), hh, ht⟩
   | false =>
     obtain ⟨u, eu, h1, h2⟩ := XQ z1 z2 z3 m (i + 1) c1 (by omega) hc1
     rw [hh] at es
     rw [← hw] at eu
     exact ⟨u, Ev.step (fun k => w5 k _ _ _ _ _ _ _) (Ev.yes (decide_eq_true (by omega)) (Ev.bind e (Ev.bind es (Ev.no rfl eu)))), h1, h2⟩
theorem YW (code : List Int) (hm : code.length ≤ 9223372036854775807) : ∃ t : Trick, Ev (fun k => jN k code) t ∧ xe t = true ∧ Sm t := by
 obtain ⟨c, e, hc⟩ := Lp code hm
 obtain ⟨t, e2, h1, h2⟩ := XQ 0 0 0 8 0 c rfl hc
 exact ⟨t, Ev.step (fun k => Vq k code) (Ev.bind e e2), h1, h2⟩
end Qq
