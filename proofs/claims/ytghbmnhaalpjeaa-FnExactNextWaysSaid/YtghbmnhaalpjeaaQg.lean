/-
  Beginnings of riffles: lists of different numbers of n.
  Conditions: lengths are such as a machine bears.
-/
import Derived.Test.YtghbmnhaalpjeaaQf
namespace Qq
open Go Go.Vt Pt
set_option linter.unusedVariables false
set_option linter.unusedSimpArgs false

/-- The numbers are from 0 up to n, and none comes twice. -/
def preOk (n : Int) : List Int → List Int → Bool
  | _, [] => true
  | done, x :: r => decide (0 ≤ x) && (decide (x < n) && (!(done.contains x) && preOk n (done ++ [x]) r))
def isPre (n : Int) (p : List Int) : Bool := decide (1 ≤ n) && (decide (n ≤ 12) && preOk n [] p)

theorem take_next {α : Type} {xs : List α} {i : Nat} {y : α} {r : List α} (h : xs.drop i = y :: r) : xs.take (i + 1) = xs.take i ++ [y] := by
  have lt : i < xs.length := by
    rcases Nat.lt_or_ge i xs.length with h1 | h1
    · exact h1
    · rw [List.drop_eq_nil_of_le h1] at h; cases h
  rw [List.drop_eq_getElem_cons lt] at h
  rw [List.take_succ_eq_append_getElem lt]
  injection h with h1 h2
  rw [h1]
theorem s_l19Ok_l4_ev (n : Int) (xs : List Int) (hn : 1 ≤ n ∧ n ≤ 12) (hm : xs.length ≤ maxLen) : ∀ (r : List Int) (i : Nat), xs.drop i = r → Ev (fun k => s_l19Ok_l4 k n xs xs (xs.length : Int) (i : Int)) (preOk n (xs.take i) r)
  | [], i, h => by
    have a := at_nil h
    refine Ev.step (fun k => s_l19Ok_l4_eq k n xs xs _ i) ?_
    simp only [a.g, cond_false]
    exact Ev.pure _
  | x :: r, i, h => by
    have a := at_cons h hm
    have g : decide ((i : Int) ≤ (xs.length : Int)) = true := by have := a.lt; simp; omega
    refine Ev.step (fun k => s_l19Ok_l4_eq k n xs xs _ i) ?_
    simp only [a.g, a.z, a.get, a.gt, a.w, g, cond_true, List.drop_zero, Int.toNat_natCast]
    unfold preOk
    rw [wrap_id (by omega) (by omega)]
    refine Ev.bind (l01In_ev _ _ _) (Ev.ite (fun h => Ev.some ?_) (fun h => Ev.bind (l02Has_ev (xs.take i) x (by rw [List.length_take]; omega)) (Ev.ite (fun h' => Ev.some ?_) (fun h' => ?_))))
    · rcases Int.lt_or_le x 0 with h1 | h1
      · have : ¬ 0 ≤ x := by omega
        simp [this]
      · have : ¬ x < n := by simp at h; omega
        simp [this]
    · simp only [h', Bool.not_true, Bool.false_and, Bool.and_false]
    · have h1 : 0 ≤ x ∧ x ≤ n - 1 := by simpa using h
      have e1 : decide (0 ≤ x) = true := by simp [h1.1]
      have e2 : decide (x < n) = true := by simp; omega
      rw [e1, e2, h']
      refine (s_l19Ok_l4_ev n xs hn hm r (i + 1) a.next).to ?_
      rw [take_next ‹xs.drop i = x :: r›]; rfl
theorem s_l19Ok_ev (n : Int) (p : List Int) (hm : p.length ≤ maxLen) : Ev (fun k => s_l19Ok k (n, p)) (isPre n p) := by
  refine Ev.step (fun k => s_l19Ok_eq k n p) (Ev.bind (l01In_ev _ _ _) (Ev.ite (fun h => Ev.some ?_) (fun h => ?_)))
  · unfold isPre
    rcases Int.lt_or_le n 1 with h1 | h1
    · have : ¬ 1 ≤ n := by omega
      simp [this]
    · have : ¬ n ≤ 12 := by simp at h; omega
      simp [this]
  · have hn : 1 ≤ n ∧ n ≤ 12 := by simpa using h
    unfold isPre
    simp only [hn.1, hn.2, decide_true, Bool.true_and]
    exact s_l19Ok_l4_ev n p hn hm p 0 rfl
theorem i_isPrefix_l4_ev (n : Int) (xs : List Int) (hm : xs.length ≤ maxLen) : ∀ (r : List Int) (i : Nat), xs.drop i = r → Ev (fun k => i_isPrefix_l4 k n xs xs (xs.length : Int) (i : Int)) (preOk n (xs.take i) r)
  | [], i, h => by
    have a := at_nil h
    refine Ev.step (fun k => i_isPrefix_l4_eq k n xs xs _ i) ?_
    simp only [a.g, cond_false]
    exact Ev.pure _
  | x :: r, i, h => by
    have a := at_cons h hm
    have g : decide ((i : Int) ≤ (xs.length : Int)) = true := by have := a.lt; simp; omega
    refine Ev.step (fun k => i_isPrefix_l4_eq k n xs xs _ i) ?_
    simp only [a.g, a.z, a.get, a.gt, a.w, g, cond_true, List.drop_zero, Int.toNat_natCast]
    unfold preOk
    refine Ev.ite (fun h1 => Ev.some ?_) (fun h1 => Ev.ite (fun h2 => Ev.some ?_) (fun h2 => Ev.bind (Contains_int_ev (xs.take i) x (by rw [List.length_take]; omega)) (Ev.ite (fun h' => Ev.some ?_) (fun h' => ?_))))
    · have : ¬ 0 ≤ x := by simpa using h1
      simp [this]
    · have : ¬ x < n := by simpa using h2
      simp [this]
    · simp only [h', Bool.not_true, Bool.false_and, Bool.and_false]
    · have e1 : decide (0 ≤ x) = true := by simpa using h1
      have e2 : decide (x < n) = true := by simpa using h2
      rw [e1, e2, h']
      refine (i_isPrefix_l4_ev n xs hm r (i + 1) a.next).to ?_
      rw [take_next ‹xs.drop i = x :: r›]; rfl
theorem i_isPrefix_ev (n : Int) (p : List Int) (hm : p.length ≤ maxLen) : Ev (fun k => i_isPrefix k (n, p)) (isPre n p) := by
  refine Ev.step (fun k => i_isPrefix_eq k n p) (Ev.ite (fun h => Ev.some ?_) (fun h => Ev.ite (fun h' => Ev.some ?_) (fun h' => ?_)))
  · have : ¬ 1 ≤ n := by simpa using h
    simp [isPre, this]
  · have : ¬ n ≤ 12 := by simpa using h'
    simp [isPre, this]
  · have e1 : 1 ≤ n := by simpa using h
    have e2 : n ≤ 12 := by simpa using h'
    simp only [isPre, e1, e2, decide_true, Bool.true_and]
    exact i_isPrefix_l4_ev n p hm p 0 rfl

/-! ### as many as n at most -/
theorem nodup_len : ∀ (n : Nat) (l : List Int), l.Nodup → (∀ x ∈ l, 0 ≤ x ∧ x < (n : Int)) → l.length ≤ n
  | 0, l, _, h => by
    cases l with
    | nil => simp
    | cons x l => have := h x (by simp); omega
  | n + 1, l, hd, h => by
    have h1 := nodup_len n (l.erase (n : Int)) (hd.erase _) (fun x hx => by
      have hx' := (hd.mem_erase_iff).1 hx
      have := h x hx'.2
      have : x ≠ (n : Int) := hx'.1
      omega)
    have h2 := List.length_erase (a := (n : Int)) (l := l)
    split at h2 <;> omega
theorem preOk_nodup (n : Int) : ∀ (r done : List Int), done.Nodup → preOk n done r = true → (done ++ r).Nodup ∧ ∀ x ∈ r, 0 ≤ x ∧ x < n
  | [], done, hd, h => by simp [hd]
  | x :: r, done, hd, h => by
    unfold preOk at h
    simp only [Bool.and_eq_true, decide_eq_true_eq, Bool.not_eq_true'] at h
    obtain ⟨h1, h2, h3, h4⟩ := h
    have hx : x ∉ done := by simpa using h3
    obtain ⟨k1, k2⟩ := preOk_nodup n r (done ++ [x]) (by
      rw [List.nodup_append]
      exact ⟨hd, by simp, fun a ha b hb e => by simp at hb; subst hb; subst e; exact hx ha⟩) h4
    refine ⟨by simpa using k1, fun y hy => ?_⟩
    rcases List.mem_cons.1 hy with rfl | hy
    · exact ⟨h1, h2⟩
    · exact k2 y hy
theorem isPre_fit {n : Int} {p : List Int} (h : isPre n p = true) : 1 ≤ n ∧ n ≤ 12 ∧ p.Nodup ∧ (∀ x ∈ p, 0 ≤ x ∧ x < n) ∧ (p.length : Int) ≤ n := by
  unfold isPre at h
  simp only [Bool.and_eq_true, decide_eq_true_eq] at h
  obtain ⟨h1, h2, h3⟩ := h
  obtain ⟨k1, k2⟩ := preOk_nodup n p [] (by simp) h3
  have k3 := nodup_len n.toNat p (by simpa using k1) (fun x hx => by have := k2 x hx; omega)
  exact ⟨h1, h2, by simpa using k1, k2, by omega⟩
end Qq
