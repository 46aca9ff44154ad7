/-
  Lists of possible packets: when they are right.
  Conditions: numbers and lengths are such as a machine bears.
-/
import Derived.Test.YtghbmnhaalpjeaaQo
namespace Qq
open Go Go.Vt Pt
set_option linter.unusedVariables false
set_option linter.unusedSimpArgs false

def lessL : List Int → List Int → Bool
  | [], b => decide (0 < b.length)
  | _ :: _, [] => false
  | x :: a, y :: b => if x = y then lessL a b else decide (x < y)
def cmpL : List Int → List Int → Int
  | [], b => if 0 < b.length then -1 else 0
  | _ :: _, [] => 1
  | x :: a, y :: b => if x = y then cmpL a b else if x < y then -1 else 1
theorem cmpL_less : ∀ a b, decide (cmpL a b ≥ 0) = !lessL a b
  | [], [] => rfl
  | [], _ :: _ => by simp [cmpL, lessL]
  | _ :: _, [] => rfl
  | x :: a, y :: b => by
    unfold cmpL lessL
    by_cases h : x = y
    · rw [if_pos h, if_pos h, cmpL_less a b]
    · rw [if_neg h, if_neg h]
      by_cases h2 : x < y
      · simp [h2]
      · simp [h2]
theorem drop_len {α : Type} {xs r : List α} {i : Nat} (h : xs.drop i = r) : xs.length - i = r.length := by rw [← h, List.length_drop]
theorem s_l05Less_l2_ev (xs ys : List Int) (hm : xs.length ≤ maxLen) (hy : ys.length ≤ maxLen) : ∀ (r s : List Int) (i : Nat), i ≤ xs.length → xs.drop i = r → ys.drop i = s → Ev (fun k => s_l05Less_l2 k xs ys xs (xs.length : Int) (i : Int)) (lessL r s)
  | [], s, i, hi, h, h2 => by
    have a := at_nil h
    have := a.ge
    have hl := drop_len h2
    refine Ev.step (fun k => s_l05Less_l2_eq k _ _ _ _ _) ?_
    simp only [a.g, cond_false]
    refine Ev.some ?_
    unfold lessL
    rw [Bool.eq_iff_iff]; simp; omega
  | x :: r, [], i, hi, h, h2 => by
    have a := at_cons h hm
    have b := at_nil h2
    refine Ev.step (fun k => s_l05Less_l2_eq k _ _ _ _ _) ?_
    simp only [a.g, a.z, cond_true]
    refine Ev.yes (by have := b.ge; simp; omega) (Ev.some rfl)
  | x :: r, y :: s, i, hi, h, h2 => by
    have a := at_cons h hm
    have b := at_cons h2 hy
    have hlt := a.lt
    have ih := s_l05Less_l2_ev xs ys hm hy r s (i + 1) (by omega) a.next b.next
    refine Ev.step (fun k => s_l05Less_l2_eq k _ _ _ _ _) ?_
    simp only [a.g, a.z, a.get, a.w, cond_true]
    refine Ev.no (by have := b.lt; simp; omega) ?_
    simp only [b.g, b.get, cond_true]
    unfold lessL
    refine Ev.ite (fun c => Ev.some ?_) (fun c => ih.to ?_)
    · have : ¬ x = y := by simpa using c
      rw [if_neg this]
    · have : x = y := by simpa using c
      rw [if_pos this]
theorem s_l05Less_ev (xs ys : List Int) (hm : xs.length ≤ maxLen) (hy : ys.length ≤ maxLen) : Ev (fun k => s_l05Less k (xs, ys)) (lessL xs ys) :=
  Ev.step (fun k => s_l05Less_eq k xs ys) (s_l05Less_l2_ev xs ys hm hy xs ys 0 (by omega) rfl rfl)
theorem cmp_int_ev (x y : Int) : Ev (fun k => cmp_Compare_int k (x, y)) (if x < y then -1 else if x > y then 1 else 0) := by
  have hn : ∀ z : Int, Ev (fun k => cmp_isNaN_int k z) false := fun z => Ev.step (fun k => cmp_isNaN_int_eq k z) (Ev.some (by simp))
  refine Ev.step (fun k => cmp_Compare_int_eq k x y) (Ev.bind (hn x) (Ev.bind (hn y) (Ev.no rfl (Ev.no rfl (Ev.ite (fun c => Ev.some ?_) (fun c => Ev.ite (fun c2 => Ev.some ?_) (fun c2 => Ev.some ?_)))))))
  · have : x < y := by simpa using c
    rw [if_pos this]
  · have h1 : ¬ x < y := by simpa using c
    have h2 : x > y := by simpa using c2
    rw [if_neg h1, if_pos h2]
  · have h1 : ¬ x < y := by simpa using c
    have h2 : ¬ x > y := by simpa using c2
    rw [if_neg h1, if_neg h2]
theorem Compare_l2_ev (xs ys : List Int) (hm : xs.length ≤ maxLen) (hy : ys.length ≤ maxLen) : ∀ (r s : List Int) (i : Nat), i ≤ xs.length → xs.drop i = r → ys.drop i = s → Ev (fun k => slices_Compare_int_l2 k xs ys xs (xs.length : Int) (i : Int)) (cmpL r s)
  | [], s, i, hi, h, h2 => by
    have a := at_nil h
    have := a.ge
    have hl := drop_len h2
    refine Ev.step (fun k => slices_Compare_int_l2_eq k _ _ _ _ _) ?_
    simp only [a.g, cond_false]
    unfold cmpL
    refine Ev.ite (fun c => Ev.some ?_) (fun c => Ev.some ?_)
    · rw [if_pos (by simp at c; omega)]
    · rw [if_neg (by simp at c; omega)]
  | x :: r, [], i, hi, h, h2 => by
    have a := at_cons h hm
    have b := at_nil h2
    refine Ev.step (fun k => slices_Compare_int_l2_eq k _ _ _ _ _) ?_
    simp only [a.g, a.z, cond_true]
    refine Ev.yes (by have := b.ge; simp; omega) (Ev.some rfl)
  | x :: r, y :: s, i, hi, h, h2 => by
    have a := at_cons h hm
    have b := at_cons h2 hy
    have hlt := a.lt
    have ih := Compare_l2_ev xs ys hm hy r s (i + 1) (by omega) a.next b.next
    refine Ev.step (fun k => slices_Compare_int_l2_eq k _ _ _ _ _) ?_
    simp only [a.g, a.z, a.get, a.w, cond_true]
    refine Ev.no (by have := b.lt; simp; omega) ?_
    simp only [b.g, b.get, cond_true]
    unfold cmpL
    refine Ev.bind (cmp_int_ev x y) (Ev.ite (fun c => Ev.some ?_) (fun c => ih.to ?_))
    · by_cases h3 : x < y
      · rw [if_pos h3, if_neg (by omega), if_pos h3]
      · by_cases h4 : x > y
        · rw [if_neg h3, if_pos h4, if_neg (by omega), if_neg h3]
        · rw [if_neg h3, if_neg h4] at c; simp at c
    · have : x = y := by
        by_cases h3 : x < y
        · rw [if_pos h3] at c; simp at c
        · by_cases h4 : x > y
          · rw [if_neg h3, if_pos h4] at c; simp at c
          · omega
      rw [if_pos this]
theorem Compare_ev (xs ys : List Int) (hm : xs.length ≤ maxLen) (hy : ys.length ≤ maxLen) : Ev (fun k => slices_Compare_int k (xs, ys)) (cmpL xs ys) :=
  Ev.step (fun k => slices_Compare_int_eq k xs ys) (Compare_l2_ev xs ys hm hy xs ys 0 (by omega) rfl rfl)

/-! ### what may be possible -/
abbrev Packs : Type := List (List Int)
/-- Numbers and lengths are such as a machine bears. -/
def FitS (l : Packs) : Prop := l.length ≤ maxLen ∧ ∀ p ∈ l, p.length ≤ maxLen ∧ Ins p
theorem FitS.of {l : Packs} (h : Fits (.slice (.slice (.int .i64))) l) : FitS l :=
  ⟨h.1, fun p hp => ⟨(h.2 p hp).1, fun x hx => In.of_fits ((h.2 p hp).2 x hx)⟩⟩
def kF (p0 : List Int) : Option (List Int) → Packs → Bool
  | _, [] => true
  | pv, q :: r => isArr p0 q && ((match pv with | none => true | some p => lessL p q) && kF p0 (some q) r)
def knowOk (l : Packs) : Bool := match l with
  | [] => false
  | p0 :: _ => decide (l.length ≤ 3000) && (!(p0.length == 0) && kF p0 none l)
def prev (l : Packs) (i : Nat) : Option (List Int) := if i = 0 then none else some (l.getD (i - 1) [])
theorem prev_next {l : Packs} {i : Nat} {q : List Int} {r : Packs} (a : AtCons l i q r) : prev l (i + 1) = some q := by
  unfold prev
  rw [if_neg (by omega), show i + 1 - 1 = i by omega, a.gt]
theorem prev_get {l : Packs} {i : Nat} (h : 0 < i) (hi : (i : Int) ≤ 9223372036854775807) : prev l i = some (l.getD (IntKind.i64.wrap ((i : Int) - 1)).toNat []) := by
  unfold prev
  rw [if_neg (by omega), wrap_id (by omega) (by omega), show ((i : Int) - 1).toNat = i - 1 by omega]
theorem s_KnowOk_l4_ev (l : Packs) (p0 : List Int) (hf : FitS l) (h0 : l.getD 0 [] = p0) (hl : 0 < l.length) : ∀ (r : Packs) (i : Nat), l.drop i = r → Ev (fun k => s_KnowOk_l4 k l l (l.length : Int) (i : Int)) (kF p0 (prev l i) r)
  | [], i, h => by
    have a := at_nil h
    refine Ev.step (fun k => s_KnowOk_l4_eq k _ _ _ _) ?_
    simp only [a.g, cond_false]
    exact Ev.pure _
  | q :: r, i, h => by
    have a := at_cons h hf.1
    have hlt := a.lt
    have hm1 := hf.1
    rw [maxLen_eq] at hm1
    have ih := s_KnowOk_l4_ev l p0 hf h0 hl r (i + 1) a.next
    rw [prev_next a] at ih
    have hp0 : p0 ∈ l := by rw [← h0]; simp [List.getD, hl]
    refine Ev.step (fun k => s_KnowOk_l4_eq k _ _ _ _) ?_
    simp only [a.g, a.z, a.get, a.w, h0, cond_true]
    refine Ev.yes (by simp; omega) ?_
    unfold kF
    refine Ev.bind (s_IsArrangement_ev p0 q (hf.2 p0 hp0).1 (hf.2 q a.mem).1) (Ev.ite (fun c => Ev.some ?_) (fun c => Ev.ite (fun c2 => ?_) (fun c2 => ih.to ?_)))
    · have : isArr p0 q = false := by simpa using c
      rw [this]; rfl
    · have c1 : isArr p0 q = true := by simpa using c
      have hi : 0 < i := by simp at c2; omega
      rw [prev_get hi (by omega)]
      have w1 : IntKind.i64.wrap ((i : Int) - 1) = ((i - 1 : Nat) : Int) := by rw [wrap_id (by omega) (by omega)]; omega
      rw [w1]
      refine Ev.yes (by simp) (Ev.yes (by simp; omega) ?_)
      rw [Int.toNat_natCast]
      have hmem : l.getD (i - 1) [] ∈ l := by
        have : i - 1 < l.length := by omega
        simp [List.getD, this]
      refine Ev.bind (s_l05Less_ev _ q (hf.2 _ hmem).1 (hf.2 q a.mem).1) (Ev.ite (fun c3 => Ev.some ?_) (fun c3 => ih.to ?_))
      · have : lessL (l.getD (i - 1) []) q = false := by simpa using c3
        simp only [this, Bool.false_and, Bool.and_false]
      · have : lessL (l.getD (i - 1) []) q = true := by simpa using c3
        simp only [c1, this, Bool.true_and]
    · have c1 : isArr p0 q = true := by simpa using c
      have hi : i = 0 := by simp at c2; omega
      subst hi
      simp [prev, c1]
theorem i_KnowOk_l4_ev (l : Packs) (p0 : List Int) (hf : FitS l) (h0 : l.getD 0 [] = p0) (hl : 0 < l.length) : ∀ (r : Packs) (i : Nat), l.drop i = r → Ev (fun k => i_KnowOk_l4 k l l (l.length : Int) (i : Int)) (kF p0 (prev l i) r)
  | [], i, h => by
    have a := at_nil h
    refine Ev.step (fun k => i_KnowOk_l4_eq k _ _ _ _) ?_
    simp only [a.g, cond_false]
    exact Ev.pure _
  | q :: r, i, h => by
    have a := at_cons h hf.1
    have hlt := a.lt
    have hm1 := hf.1
    rw [maxLen_eq] at hm1
    have ih := i_KnowOk_l4_ev l p0 hf h0 hl r (i + 1) a.next
    rw [prev_next a] at ih
    have hp0 : p0 ∈ l := by rw [← h0]; simp [List.getD, hl]
    refine Ev.step (fun k => i_KnowOk_l4_eq k _ _ _ _) ?_
    simp only [a.g, a.z, a.get, a.w, h0, cond_true]
    refine Ev.yes (by simp; omega) ?_
    unfold kF
    refine Ev.bind (i_IsArrangement_ev p0 q (hf.2 p0 hp0).1 (hf.2 p0 hp0).2 (hf.2 q a.mem).1 (hf.2 q a.mem).2) (Ev.ite (fun c => Ev.some ?_) (fun c => Ev.ite (fun c2 => ?_) (fun c2 => ih.to ?_)))
    · have : isArr p0 q = false := by simpa using c
      rw [this]; rfl
    · have c1 : isArr p0 q = true := by simpa using c
      have hi : 0 < i := by simp at c2; omega
      rw [prev_get hi (by omega)]
      have w1 : IntKind.i64.wrap ((i : Int) - 1) = ((i - 1 : Nat) : Int) := by rw [wrap_id (by omega) (by omega)]; omega
      rw [w1]
      refine Ev.yes (by simp) (Ev.yes (by simp; omega) ?_)
      rw [Int.toNat_natCast]
      have hmem : l.getD (i - 1) [] ∈ l := by
        have : i - 1 < l.length := by omega
        simp [List.getD, this]
      refine Ev.bind (Compare_ev _ q (hf.2 _ hmem).1 (hf.2 q a.mem).1) (Ev.ite (fun c3 => Ev.some ?_) (fun c3 => ih.to ?_))
      · rw [cmpL_less] at c3
        have : lessL (l.getD (i - 1) []) q = false := by simpa using c3
        simp only [this, Bool.false_and, Bool.and_false]
      · rw [cmpL_less] at c3
        have : lessL (l.getD (i - 1) []) q = true := by simpa using c3
        simp only [c1, this, Bool.true_and]
    · have c1 : isArr p0 q = true := by simpa using c
      have hi : i = 0 := by simp at c2; omega
      subst hi
      simp [prev, c1]
theorem s_KnowOk_ev (l : Packs) (hf : FitS l) : Ev (fun k => s_KnowOk k l) (knowOk l) := by
  refine Ev.step (fun k => s_KnowOk_eq k l) (Ev.bind (l01In_ev _ _ _) ?_)
  cases l with
  | nil => exact Ev.yes (by simp) (Ev.some rfl)
  | cons p0 r =>
    unfold knowOk
    refine Ev.ite (fun c => Ev.some ?_) (fun c => Ev.yes (by simp) (Ev.ite (fun c2 => Ev.some ?_) (fun c2 => ?_)))
    · have : ¬ (p0 :: r).length ≤ 3000 := by simp at c ⊢; omega
      simp only [this, decide_false, Bool.false_and]
    · have : (p0.length == 0) = true := by simpa using c2
      simp [this]
    · have e1 : (p0 :: r).length ≤ 3000 := by simp at c ⊢; omega
      have e2 : (p0.length == 0) = false := by simpa using c2
      simp only [e1, e2, decide_true, Bool.true_and, Bool.not_false]
      exact s_KnowOk_l4_ev (p0 :: r) p0 hf rfl (by simp) (p0 :: r) 0 rfl
theorem i_KnowOk_ev (l : Packs) (hf : FitS l) : Ev (fun k => i_KnowOk k l) (knowOk l) := by
  refine Ev.step (fun k => i_KnowOk_eq k l) ?_
  cases l with
  | nil => exact Ev.yes (by simp) (Ev.some rfl)
  | cons p0 r =>
    unfold knowOk
    refine Ev.no (by simp; omega) (Ev.ite (fun c => Ev.some ?_) (fun c => Ev.yes (by simp) (Ev.ite (fun c2 => Ev.some ?_) (fun c2 => ?_))))
    · have : ¬ (p0 :: r).length ≤ 3000 := by simp at c ⊢; omega
      simp only [this, decide_false, Bool.false_and]
    · have : (p0.length == 0) = true := by simpa using c2
      simp [this]
    · have e1 : (p0 :: r).length ≤ 3000 := by simp at c ⊢; omega
      have e2 : (p0.length == 0) = false := by simpa using c2
      simp only [e1, e2, decide_true, Bool.true_and, Bool.not_false]
      exact i_KnowOk_l4_ev (p0 :: r) p0 hf rfl (by simp) (p0 :: r) 0 rfl
theorem kF_arr (p0 : List Int) : ∀ (r : Packs) (pv : Option (List Int)), kF p0 pv r = true → ∀ q ∈ r, isArr p0 q = true
  | [], _, _, q, h => by cases h
  | p :: r, pv, h, q, hq => by
    unfold kF at h
    simp only [Bool.and_eq_true] at h
    rcases List.mem_cons.1 hq with rfl | hq
    · exact h.1
    · exact kF_arr p0 r _ h.2.2 q hq
theorem isArr_fit {p q : List Int} (h : isArr p q = true) : packetOk p = true ∧ packetOk q = true ∧ p.length = q.length ∧ ∀ x ∈ p, 0 ≤ pos q (card x) := by
  unfold isArr at h
  simp only [Bool.and_eq_true, beq_iff_eq, List.all_eq_true, decide_eq_true_eq] at h
  exact ⟨h.1, h.2.1, h.2.2.1, h.2.2.2⟩
/-- All have as many cards as the first, at most 12 and at least one. -/
theorem know_fit {p0 : List Int} {r : Packs} (h : knowOk (p0 :: r) = true) : (p0 :: r).length ≤ 3000 ∧ 1 ≤ p0.length ∧ p0.length ≤ 12 ∧ ∀ q ∈ p0 :: r, packetOk q = true ∧ q.length = p0.length := by
  unfold knowOk at h
  simp only [Bool.and_eq_true, decide_eq_true_eq] at h
  have hk := kF_arr p0 _ _ h.2.2
  have h1 := isArr_fit (hk p0 (by simp))
  have h2 := (packetOk_fit h1.1).2.2
  refine ⟨h.1, ?_, h2, fun q hq => ?_⟩
  · have := h.2.1
    simp at this
    exact List.length_pos_iff.2 this
  · have := isArr_fit (hk q hq)
    exact ⟨this.2.1, this.2.2.1.symm⟩
end Qq
