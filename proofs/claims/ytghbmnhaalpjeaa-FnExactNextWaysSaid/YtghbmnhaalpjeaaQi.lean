/-
  How many riffles begin with a list: counted by bits, and by the reference's formula.
  Conditions: at most 12 cards.
-/
import Derived.Test.YtghbmnhaalpjeaaQh
namespace Qq
open Go Go.Vt Pt
set_option linter.unusedVariables false
set_option linter.unusedSimpArgs false

def cnt (n : Nat) (P : List Bool → Bool) : Nat := (List.range (2 ^ n)).countP fun w => P (bits n w)
theorem cnt_congr {n : Nat} {P Q : List Bool → Bool} (h : ∀ l, l.length = n → P l = Q l) : cnt n P = cnt n Q := by
  unfold cnt
  exact List.countP_congr (fun w _ => by rw [h _ (bits_len n w)])
theorem cnt_none {n : Nat} {P : List Bool → Bool} (h : ∀ l, l.length = n → P l = false) : cnt n P = 0 := by
  rw [cnt_congr (Q := fun _ => false) h]; simp [cnt]
theorem count_two (f : Nat → Bool) : ∀ m, (List.range (2 * m)).countP f = (List.range m).countP (fun w => f (2 * w)) + (List.range m).countP (fun w => f (2 * w + 1))
  | 0 => rfl
  | m + 1 => by
    have e : 2 * (m + 1) = 2 * m + 1 + 1 := by omega
    rw [e, List.range_succ, List.range_succ, List.range_succ]
    simp only [List.countP_append, List.countP_singleton, count_two f m]
    omega
theorem cnt_succ (n : Nat) (P : List Bool → Bool) : cnt (n + 1) P = cnt n (fun l => P (false :: l)) + cnt n (fun l => P (true :: l)) := by
  unfold cnt
  rw [Nat.pow_succ, Nat.mul_comm, count_two]
  have e1 : ∀ w, bits (n + 1) (2 * w) = false :: bits n w := fun w => by simp [bits]
  have e2 : ∀ w, bits (n + 1) (2 * w + 1) = true :: bits n w := fun w => by
    have h1 : (2 * w + 1) % 2 = 1 := by omega
    have h2 : (2 * w + 1) / 2 = w := by omega
    simp [bits, h1, h2]
  simp only [e1, e2]
theorem count_or {α : Type} (p q : α → Bool) (h : ∀ x, p x = true → q x = false) : ∀ l : List α, l.countP (fun x => p x || q x) = l.countP p + l.countP q
  | [] => rfl
  | x :: l => by
    simp only [List.countP_cons, count_or p q h l]
    cases hp : p x with
    | true => simp [h x hp]; omega
    | false => simp; omega

def binom : Nat → Nat → Nat
  | _, 0 => 1
  | 0, _ + 1 => 0
  | n + 1, k + 1 => binom n k + binom n (k + 1)
theorem cnt_zeros : ∀ m z, cnt m (fun l => zeros l == z) = binom m z
  | 0, 0 => rfl
  | 0, z + 1 => by unfold binom; exact cnt_none (fun l hl => by
      have : l = [] := by simpa using hl
      subst this; rfl)
  | m + 1, 0 => by
    rw [cnt_succ]
    have h1 : cnt m (fun l => zeros (false :: l) == 0) = 0 := cnt_none (fun l _ => by simp [zeros])
    have h2 : cnt m (fun l => zeros (true :: l) == 0) = cnt m (fun l => zeros l == 0) := cnt_congr (fun l _ => by simp [zeros])
    rw [h1, h2, cnt_zeros m 0]; cases m <;> rfl
  | m + 1, z + 1 => by
    rw [cnt_succ]
    have h1 : cnt m (fun l => zeros (false :: l) == z + 1) = cnt m (fun l => zeros l == z) := cnt_congr (fun l _ => by simp [zeros])
    have h2 : cnt m (fun l => zeros (true :: l) == z + 1) = cnt m (fun l => zeros l == z + 1) := cnt_congr (fun l _ => by simp [zeros])
    rw [h1, h2, cnt_zeros m z, cnt_zeros m (z + 1)]; rfl

/-- The reference's count of the ways with a first part of k cards, from a and b on, with q cards behind the list. -/
def wf (n k q : Nat) : Nat → Nat → List Int → Nat
  | a, _, [] => binom q (k - a)
  | a, b, x :: r => if x = (a : Int) ∧ a < k then wf n k q (a + 1) b r else if x = (b : Int) ∧ b < n then wf n k q a (b + 1) r else 0
theorem cnt_wf (n k q : Nat) : ∀ (r : List Int) (a b : Nat), a ≤ k → k ≤ b → b ≤ n → (k - a) + (n - b) = q + r.length →
    cnt (q + r.length) (fun l => zeros l == k - a && (riff l a b).take r.length == r) = wf n k q a b r
  | [], a, b, h1, h2, h3, h4 => by
    unfold wf
    rw [← cnt_zeros]
    exact cnt_congr (fun l _ => by simp)
  | x :: r, a, b, h1, h2, h3, h4 => by
    simp only [List.length_cons] at h4
    have e : q + (x :: r).length = (q + r.length) + 1 := by simp; omega
    rw [e, cnt_succ]
    unfold wf
    by_cases ha : x = (a : Int) ∧ a < k
    · rw [if_pos ha, ← cnt_wf n k q r (a + 1) b (by omega) h2 h3 (by omega)]
      have z2 : cnt (q + r.length) (fun l => zeros (true :: l) == k - a && (riff (true :: l) a b).take (x :: r).length == x :: r) = 0 := cnt_none (fun l _ => by
        have : ¬ (b : Int) = x := by omega
        simp [riff, this])
      rw [z2, Nat.add_zero]
      exact cnt_congr (fun l _ => by
        have e1 : zeros (false :: l) = zeros l + 1 := by simp [zeros]
        have e2 : (zeros l + 1 == k - a) = (zeros l == k - (a + 1)) := by rw [Bool.eq_iff_iff]; simp; omega
        simp only [e1, e2, riff, List.length_cons, List.take_succ_cons, ha.1]
        rw [Bool.eq_iff_iff]; simp)
    · rw [if_neg ha]
      have z1 : cnt (q + r.length) (fun l => zeros (false :: l) == k - a && (riff (false :: l) a b).take (x :: r).length == x :: r) = 0 := cnt_none (fun l _ => by
        by_cases hx : x = (a : Int)
        · have : k - a = 0 := by omega
          simp [zeros, this]
        · have : ¬ (a : Int) = x := fun e => hx e.symm
          simp [riff, this])
      rw [z1, Nat.zero_add]
      by_cases hb : x = (b : Int) ∧ b < n
      · rw [if_pos hb, ← cnt_wf n k q r a (b + 1) h1 (by omega) (by omega) (by omega)]
        exact cnt_congr (fun l _ => by
          have e1 : zeros (true :: l) = zeros l := by simp [zeros]
          simp only [e1, riff, List.length_cons, List.take_succ_cons, hb.1]
          rw [Bool.eq_iff_iff]; simp)
      · rw [if_neg hb]
        exact cnt_none (fun l hl => by
          by_cases hx : x = (b : Int)
          · have hz : zeros l ≤ l.length := by have := zo l; omega
            have : ¬ zeros l = k - a := by omega
            simp [zeros] at this ⊢
            simp [this]
          · have : ¬ (b : Int) = x := fun e => hx e.symm
            simp [riff, this])

def sumK (g : Nat → Nat) : Nat → Nat
  | 0 => 0
  | k + 1 => sumK g k + g k
theorem cnt_split (n : Nat) (f : Nat → List Bool → Bool) : ∀ K, cnt n (fun l => decide (zeros l < K) && f (zeros l) l) = sumK (fun k => cnt n (fun l => zeros l == k && f k l)) K
  | 0 => cnt_none (fun l _ => by simp)
  | K + 1 => by
    unfold sumK
    rw [← cnt_split n f K]
    unfold cnt
    rw [← count_or]
    · apply List.countP_congr
      intro w _
      simp only [Bool.and_eq_true, decide_eq_true_eq, Bool.or_eq_true, beq_iff_eq]
      constructor
      · rintro ⟨h1, h2⟩
        rcases Nat.lt_or_ge (zeros (bits n w)) K with h | h
        · exact .inl ⟨h, h2⟩
        · have : zeros (bits n w) = K := by omega
          exact .inr ⟨this, this ▸ h2⟩
      · rintro (⟨h1, h2⟩ | ⟨h1, h2⟩)
        · exact ⟨by omega, h2⟩
        · exact ⟨by omega, h1 ▸ h2⟩
    · intro w hw
      simp only [Bool.and_eq_true, decide_eq_true_eq] at hw
      have : ¬ zeros (bits n w) = K := by omega
      simp [this]

/-- How many riffles of n cards begin with p. -/
def ways (n : Nat) (p : List Int) : Nat := cnt n fun l => (riff l 0 (zeros l)).take p.length == p
theorem ways_eq (n : Nat) (p : List Int) (hp : p.length ≤ n) : ways n p = sumK (fun k => wf n k (n - p.length) 0 k p) (n + 1) := by
  have h1 : ways n p = cnt n (fun l => decide (zeros l < n + 1) && (riff l 0 (zeros l)).take p.length == p) := cnt_congr (fun l hl => by
    have := zo l
    have : zeros l < n + 1 := by omega
    simp [this])
  rw [h1, cnt_split n (fun k l => (riff l 0 k).take p.length == p)]
  have key : ∀ K, K ≤ n + 1 → sumK (fun k => cnt n (fun l => zeros l == k && (riff l 0 k).take p.length == p)) K = sumK (fun k => wf n k (n - p.length) 0 k p) K := by
    intro K
    induction K with
    | zero => intro _; rfl
    | succ K ih =>
      intro hK
      unfold sumK
      rw [ih (by omega)]
      have := cnt_wf n K (n - p.length) p 0 K (by omega) (by omega) (by omega) (by omega)
      rw [show n - p.length + p.length = n by omega, Nat.sub_zero] at this
      rw [this]
  exact key (n + 1) (by omega)
theorem ways_le (n : Nat) (p : List Int) : ways n p ≤ 2 ^ n := by
  unfold ways cnt
  have := List.countP_le_length (p := fun w => (riff (bits n w) 0 (zeros (bits n w))).take p.length == p) (l := List.range (2 ^ n))
  simpa using this
end Qq
