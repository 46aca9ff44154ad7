/-
  What is known at a place: the walks of both programs.
  Conditions: numbers and lengths are such as a machine bears.
-/
import Derived.Test.YtghbmnhaalpjeaaQp
namespace Qq
open Go Go.Vt Pt
set_option linter.unusedVariables false
set_option linter.unusedSimpArgs false
/-- The card at a place, if it is the same in all packets. -/
def knownAt (l : Packs) (at_ : Int) : Int := match l with
  | [] => -1
  | p0 :: _ => if knowOk l && (decide (0 ≤ at_) && decide (at_ < p0.length)) then (if l.all (fun p => card (p.getD at_.toNat 0) == card (p0.getD at_.toNat 0)) then card (p0.getD at_.toNat 0) else -1) else -1
theorem getD_in {p : List Int} (h : Ins p) (i : Nat) : In (p.getD i 0) := by
  rw [List.getD]
  cases hi : p[i]? with
  | none => exact ⟨by decide, by decide⟩
  | some x => exact h x (List.mem_of_getElem? hi)
theorem s_KnownAt_l4_ev (p0 : List Int) (r0 : Packs) (j : Nat) (hf : FitS (p0 :: r0)) (hk : knowOk (p0 :: r0) = true) (hj : j < p0.length) : ∀ (r : Packs) (i : Nat), (p0 :: r0).drop i = r → Ev (fun k => s_KnownAt_l4 k (p0 :: r0) (j : Int) (p0 :: r0) ((p0 :: r0).length : Int) (i : Int)) (if r.all (fun p => card (p.getD j 0) == card (p0.getD j 0)) then card (p0.getD j 0) else -1)
  | [], i, h => by
    have a := at_nil h
    refine Ev.step (fun k => s_KnownAt_l4_eq k _ _ _ _ _) ?_
    simp only [a.g, cond_false]
    refine Ev.yes (by simp) (Ev.yes (by simp) (Ev.yes (by simp; omega) ?_))
    exact Ev.bind (s_CardOf_ev _) (Ev.pure _)
  | q :: r, i, h => by
    have a := at_cons h hf.1
    have ih := s_KnownAt_l4_ev p0 r0 j hf hk hj r (i + 1) a.next
    have hq := (know_fit hk).2.2.2 q a.mem
    refine Ev.step (fun k => s_KnownAt_l4_eq k _ _ _ _ _) ?_
    simp only [a.g, a.z, a.get, a.w, cond_true]
    refine Ev.yes (by simp) (Ev.yes (by simp; omega) (Ev.bind (s_CardOf_ev _) (Ev.yes (by simp) (Ev.yes (by simp) (Ev.yes (by simp; omega) (Ev.bind (s_CardOf_ev _) ?_))))))
    have e0 : List.getD (p0 :: r0) 0 [] = p0 := rfl
    rw [e0, Int.toNat_natCast]
    refine Ev.ite (fun c => Ev.some ?_) (fun c => ih.to ?_)
    · have : (card (q.getD j 0) == card (p0.getD j 0)) = false := by simpa using c
      rw [List.all_cons, this, Bool.false_and]; rfl
    · have : (card (q.getD j 0) == card (p0.getD j 0)) = true := by simpa using c
      rw [List.all_cons, this, Bool.true_and]
theorem s_KnownAt_ev (l : Packs) (j : Int) (hf : FitS l) : Ev (fun k => s_KnownAt k (l, j)) (knownAt l j) := by
  refine Ev.step (fun k => s_KnownAt_eq k l j) (Ev.bind (s_KnowOk_ev l hf) ?_)
  cases l with
  | nil => exact Ev.yes rfl (Ev.some rfl)
  | cons p0 r =>
    unfold knownAt
    dsimp only
    refine Ev.ite (fun c => Ev.some ?_) (fun c => Ev.yes (by simp) ?_)
    · have : knowOk (p0 :: r) = false := by simpa using c
      simp [this]
    · have hk : knowOk (p0 :: r) = true := by simpa using c
      have kf := know_fit hk
      have e0 : List.getD (p0 :: r) 0 [] = p0 := rfl
      rw [e0, wrap_id (by omega) (by omega)]
      refine Ev.bind (l01In_ev _ _ _) (Ev.ite (fun c2 => Ev.some ?_) (fun c2 => ?_))
      · have : (decide (0 ≤ j) && decide (j < (p0.length : Int))) = false := by simp at c2 ⊢; omega
        simp [this]
      · have h1 : 0 ≤ j ∧ j < (p0.length : Int) := by simp at c2; omega
        have ej : j = ((j.toNat : Nat) : Int) := by omega
        have e2 : (knowOk (p0 :: r) && (decide (0 ≤ j) && decide (j < (p0.length : Int)))) = true := by simp [hk, h1]
        rw [if_pos e2]
        have := s_KnownAt_l4_ev p0 r j.toNat hf hk (by omega) (p0 :: r) 0 rfl
        rw [← ej] at this
        exact this
/-- What the program asks of one packet. -/
def atB (p : List Int) (j : Int) : Int := if 0 ≤ j ∧ j < (p.length : Int) then card (p.getD j.toNat 0) else -1
theorem i_KnownAt_1_ev (p : List Int) (j : Int) (hi : Ins p) : Ev (fun k => i_KnownAt_1 k (p, j)) (atB p j) := by
  unfold atB
  refine Ev.step (fun k => i_KnownAt_1_eq k p j) (Ev.ite (fun c => Ev.some ?_) (fun c => Ev.ite (fun c2 => Ev.some ?_) (fun c2 => Ev.yes (by simp at c ⊢; omega) (Ev.yes (by simp at c2 ⊢; omega) (Ev.bind (i_CardOf_ev _ (getD_in hi _)) (Ev.some ?_))))))
  · rw [if_neg (by simp at c; omega)]
  · rw [if_neg (by simp at c2; omega)]
  · rw [if_pos (by simp at c c2; omega)]
theorem i_common_l5_ev (l : Packs) (j v : Int) (hf : FitS l) : ∀ (r : Packs) (i : Nat), l.drop i = r → Ev (fun k => i_common_of_i_KnownAt_1_l5 k j v l (l.length : Int) (i : Int)) (if r.all (fun p => atB p j == v) then v else -1)
  | [], i, h => by
    have a := at_nil h
    refine Ev.step (fun k => i_common_of_i_KnownAt_1_l5_eq k _ _ _ _ _) ?_
    simp only [a.g, cond_false]
    exact Ev.pure _
  | q :: r, i, h => by
    have a := at_cons h hf.1
    have ih := i_common_l5_ev l j v hf r (i + 1) a.next
    refine Ev.step (fun k => i_common_of_i_KnownAt_1_l5_eq k _ _ _ _ _) ?_
    simp only [a.g, a.z, a.get, a.w, cond_true]
    refine Ev.bind (i_KnownAt_1_ev q j (hf.2 q a.mem).2) (Ev.ite (fun c => Ev.some ?_) (fun c => ih.to ?_))
    · have : (atB q j == v) = false := by simpa using c
      rw [List.all_cons, this, Bool.false_and]; rfl
    · have : (atB q j == v) = true := by simpa using c
      rw [List.all_cons, this, Bool.true_and]
theorem i_KnownAt_ev (l : Packs) (j : Int) (hf : FitS l) : Ev (fun k => i_KnownAt k (l, j)) (knownAt l j) := by
  refine Ev.step (fun k => i_KnownAt_eq k l j) (Ev.bind (x := knownAt l j) (Ev.step (fun k => i_common_of_i_KnownAt_1_eq k l j) (Ev.bind (i_KnowOk_ev l hf) ?_)) (Ev.pure _))
  cases l with
  | nil => exact Ev.yes rfl (Ev.some rfl)
  | cons p0 r =>
    unfold knownAt
    dsimp only
    refine Ev.ite (fun c => Ev.some ?_) (fun c => Ev.yes (by simp) ?_)
    · have : knowOk (p0 :: r) = false := by simpa using c
      simp [this]
    · have hk : knowOk (p0 :: r) = true := by simpa using c
      have kf := know_fit hk
      have e0 : List.getD (p0 :: r) 0 [] = p0 := rfl
      rw [e0]
      refine Ev.bind (i_KnownAt_1_ev p0 j (hf.2 p0 (by simp)).2) ((i_common_l5_ev (p0 :: r) j _ hf (p0 :: r) 0 rfl).to ?_)
      by_cases h1 : 0 ≤ j ∧ j < (p0.length : Int)
      · have e2 : (knowOk (p0 :: r) && (decide (0 ≤ j) && decide (j < (p0.length : Int)))) = true := by simp [hk, h1]
        have e3 : atB p0 j = card (p0.getD j.toNat 0) := by unfold atB; rw [if_pos h1]
        have e4 : (p0 :: r).all (fun p => atB p j == card (p0.getD j.toNat 0)) = (p0 :: r).all (fun p => card (p.getD j.toNat 0) == card (p0.getD j.toNat 0)) := by
          rw [Bool.eq_iff_iff, List.all_eq_true, List.all_eq_true]
          have : ∀ p ∈ p0 :: r, atB p j = card (p.getD j.toNat 0) := fun p hp => by
            have := (kf.2.2.2 p hp).2
            unfold atB; rw [if_pos (by omega)]
          constructor
          · intro h p hp; rw [← this p hp]; exact h p hp
          · intro h p hp; rw [this p hp]; exact h p hp
        rw [if_pos e2, e3, e4]
      · have e2 : ¬ (knowOk (p0 :: r) && (decide (0 ≤ j) && decide (j < (p0.length : Int)))) = true := by simp; omega
        have e3 : atB p0 j = -1 := by unfold atB; rw [if_neg h1]
        rw [if_neg e2, e3, ite_self]
end Qq
