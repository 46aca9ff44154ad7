/-
  The law FnExactGuessRun comes to true.
  Conditions: numbers and lengths are such as a machine bears.
-/
import Derived.Test.YtijdgiejhgfmlaaPt
import Derived.Test.YtijdgiejhgfmlaaXvzd
import Derived.Laws.BitsLemmas
namespace Go.Vt
theorem Ev.some {α : Type} {x y : α} (e : x = y) : Ev (fun _ => Option.some x) y := by subst e; exact Ev.pure _
theorem Ev.to {α : Type} {g : Nat → Option α} {x y : α} (h : Ev g x) (e : x = y) : Ev g y := e ▸ h
end Go.Vt
namespace Qq
open Go Go.Vt
set_option linter.unusedVariables false
set_option linter.unusedSimpArgs false
theorem maxLen_eq : maxLen = 9223372036854775807 := by unfold maxLen; decide
theorem rowMax_eq : rowMax = 4294967296 := rfl
theorem wrap_id {x : Int} (h1 : -9223372036854775808 ≤ x) (h2 : x ≤ 9223372036854775807) : IntKind.i64.wrap x = x := by
  rw [IntKind.wrap_i64]; omega
structure AtCons {α : Type} (xs : List α) (i : Nat) (y : α) (rest : List α) : Prop where
  lt : i < xs.length
  g : decide ((i : Int) < (xs.length : Int)) = true
  z : decide ((0 : Int) ≤ (i : Int)) = true
  n : decide ((i : Int).toNat < xs.length) = true
  get : ∀ d, xs.getD (i : Int).toNat d = y
  w : IntKind.i64.wrap ((i : Int) + 1) = ((i + 1 : Nat) : Int)
  next : xs.drop (i + 1) = rest
  mem : y ∈ xs
  gt : ∀ d, xs.getD i d = y
  le : decide ((i : Int) ≤ (xs.length : Int)) = true
theorem at_cons {α : Type} {xs : List α} {i : Nat} {y : α} {rest : List α} (h : xs.drop i = y :: rest) (hm : xs.length ≤ maxLen) : AtCons xs i y rest := by
  rw [maxLen_eq] at hm
  have lt : i < xs.length := by
    rcases Nat.lt_or_ge i xs.length with h1 | h1
    · exact h1
    · rw [List.drop_eq_nil_of_le h1] at h; cases h
  have e := List.drop_eq_getElem_cons lt
  rw [e] at h
  have hy : xs[i] = y := by injection h
  refine ⟨lt, by simp; omega, by simp, by simp; omega, fun d => by simp [List.getD, lt, hy], by rw [wrap_id (by omega) (by omega)]; simp, by injection h, by rw [← hy]; exact List.getElem_mem lt, fun d => by simp [List.getD, lt, hy], by simp; omega⟩
structure AtNil {α : Type} (xs : List α) (i : Nat) : Prop where
  ge : xs.length ≤ i
  g : decide ((i : Int) < (xs.length : Int)) = false
theorem at_nil {α : Type} {xs : List α} {i : Nat} (h : xs.drop i = []) : AtNil xs i := by
  have ge : xs.length ≤ i := List.drop_eq_nil_iff.1 h
  exact ⟨ge, by simp; omega⟩
/-- Counting from i up to n. -/
structure AtUp (n : Int) (i : Nat) : Prop where
  lt : (i : Int) < n
  g : decide ((i : Int) < n) = true
  z : decide ((0 : Int) ≤ (i : Int)) = true
  w : IntKind.i64.wrap ((i : Int) + 1) = ((i + 1 : Nat) : Int)
theorem at_up {n : Int} {i : Nat} (h : (i : Int) < n) (hn : n ≤ 9223372036854775807) : AtUp n i :=
  ⟨h, by simp [h], by simp, by rw [wrap_id (by omega) (by omega)]; simp⟩
theorem at_end {n : Int} {i : Nat} (h : n ≤ (i : Int)) : decide ((i : Int) < n) = false := by simp [h]
end Qq
namespace Qq
open Go Go.Vt Pt
set_option linter.unusedVariables false
set_option linter.unusedSimpArgs false
theorem l01In_ev (x lo hi : Int) : Ev (fun k => s_l01In k (x, lo, hi)) (decide (lo ≤ x) && decide (x ≤ hi)) := by
  refine Ev.step (fun k => s_l01In_eq k x lo hi) (Ev.ite (fun h => ?_) (fun h => ?_))
  · have h' : lo ≤ x := by simpa using h
    exact Ev.some (by simp [h'])
  · have h' : ¬ lo ≤ x := by simpa using h
    exact Ev.some (by simp [h'])
theorem eqIntS_l4_ev (xs ys : List Int) (hx : xs.length ≤ maxLen) (hy : ys.length ≤ maxLen) : ∀ (r s : List Int) (i : Nat), xs.drop i = r → ys.drop i = s → s.length = r.length → Ev (fun k => w_eqIntS_l4 k xs ys (i : Int)) (r == s)
  | [], [], i, h1, h2, hl => by
    have a := at_nil h1
    refine Ev.step (fun k => w_eqIntS_l4_eq k xs ys i) ?_
    simp only [a.g, cond_false]
    exact Ev.pure _
  | x :: r, y :: s, i, h1, h2, hl => by
    have a := at_cons h1 hx
    have b := at_cons h2 hy
    refine Ev.step (fun k => w_eqIntS_l4_eq k xs ys i) ?_
    simp only [a.g, a.z, b.g, a.get, b.get, a.w, cond_true]
    have ih := eqIntS_l4_ev xs ys hx hy r s (i + 1) a.next b.next (by simpa using hl)
    refine Ev.ite (fun h => Ev.some ?_) (fun h => ih.to ?_)
    · have : ¬ x = y := by simpa using h
      simp [this]
    · have : x = y := by simpa using h
      simp [this]
  | [], _ :: _, _, _, _, hl => by simp at hl
  | _ :: _, [], _, _, _, hl => by simp at hl
theorem eqIntS_ev (xs ys : List Int) (hx : xs.length ≤ maxLen) (hy : ys.length ≤ maxLen) : Ev (fun k => w_eqIntS k (xs, ys)) (xs == ys) := by
  refine Ev.step (fun k => w_eqIntS_eq k xs ys) (Ev.ite (fun h => Ev.some ?_) (fun h => eqIntS_l4_ev xs ys hx hy xs ys 0 rfl rfl ?_))
  · have h' : ¬ xs.length = ys.length := by simp at h; omega
    have : ¬ xs = ys := fun e => h' (by rw [e])
    simp [this]
  · simp at h; omega
theorem set_get {α : Type} {n : Nat} {xs ys : List α} {i : Nat} {d : α} (hi : i < xs.length) (hl : ys.length = xs.length) (h : ys.take i = xs.take i) : (ys.set i (xs.getD i d)).take (i + 1) = xs.take (i + 1) := by
  have g1 : xs.getD i d = xs[i] := by simp [List.getD, hi]
  rw [g1, List.take_succ_eq_append_getElem (by simp; omega), List.take_succ_eq_append_getElem hi, List.take_set_of_le (by omega), h]
  simp
theorem toIntS_l3_ev (xs : List Int) (hm : xs.length ≤ maxLen) : ∀ (r : List Int) (i : Nat) (ys : List Int), xs.drop i = r → ys.length = xs.length → ys.take i = xs.take i → Ev (fun k => w_toIntS_l3 k xs (i : Int) ys) xs
  | [], i, ys, h, hl, ht => by
    have a := at_nil h
    refine Ev.step (fun k => w_toIntS_l3_eq k xs i ys) ?_
    simp only [a.g, cond_false]
    have e : ys = xs := by
      have := a.ge
      rwa [List.take_of_length_le (by omega), List.take_of_length_le (by omega)] at ht
    exact Ev.some e
  | x :: r, i, ys, h, hl, ht => by
    have a := at_cons h hm
    have b1 : decide ((i : Int) < (ys.length : Int)) = true := by rw [hl]; exact a.g
    have b2 : decide ((i : Int).toNat < ys.length) = true := by rw [hl]; exact a.n
    refine Ev.step (fun k => w_toIntS_l3_eq k xs i ys) ?_
    simp only [a.g, a.z, b1, b2, a.w, cond_true]
    have hs := set_get (n := 0) (d := 0) a.lt hl ht
    exact toIntS_l3_ev xs hm r (i + 1) _ a.next (by simp [hl]) (by simpa using hs)
theorem toIntS_ev (xs : List Int) (hm : xs.length ≤ 1048576) : Ev (fun k => w_toIntS k xs) xs := by
  refine Ev.step (fun k => w_toIntS_eq k xs) (Ev.yes (by simp) (Ev.yes (by rw [rowMax_eq]; simp; omega) (Ev.yes (by simp) ?_)))
  exact toIntS_l3_ev xs (by rw [maxLen_eq]; omega) xs 0 _ rfl (by simp) (by simp)
end Qq
namespace Qq
open Go Go.Vt Pt
set_option linter.unusedVariables false
set_option linter.unusedSimpArgs false
theorem l02Has_l2_ev (x : Int) (xs : List Int) (hm : xs.length ≤ maxLen) : ∀ (r : List Int) (i : Nat), xs.drop i = r → Ev (fun k => s_l02Has_l2 k x xs (xs.length : Int) (i : Int)) (r.contains x)
  | [], i, h => by
    have a := at_nil h
    refine Ev.step (fun k => s_l02Has_l2_eq k x xs _ i) ?_
    simp only [a.g, cond_false]
    exact Ev.pure _
  | y :: r, i, h => by
    have a := at_cons h hm
    refine Ev.step (fun k => s_l02Has_l2_eq k x xs _ i) ?_
    simp only [a.g, a.z, a.get, a.w, cond_true]
    refine Ev.ite (fun h => Ev.some ?_) (fun h => (l02Has_l2_ev x xs hm r (i + 1) a.next).to ?_)
    · have : y = x := by simpa using h
      simp [this]
    · have : ¬ y = x := by simpa using h
      have h2 : ¬ x = y := fun e => this e.symm
      simp [h2]
theorem l02Has_ev (xs : List Int) (x : Int) (hm : xs.length ≤ maxLen) : Ev (fun k => s_l02Has k (xs, x)) (xs.contains x) :=
  Ev.step (fun k => s_l02Has_eq k xs x) (l02Has_l2_ev x xs hm xs 0 rfl)
/-- Where x lies first, or -1. -/
def idx (x : Int) : Nat → List Int → Int
  | _, [] => -1
  | i, y :: r => if x = y then (i : Int) else idx x (i + 1) r
theorem idx_has (x : Int) : ∀ (r : List Int) (i : Nat), decide (idx x i r ≥ 0) = r.contains x
  | [], i => by simp [idx]
  | y :: r, i => by
    unfold idx
    by_cases h : x = y
    · simp [h]
    · rw [if_neg h, idx_has x r (i + 1)]; simp [h]
theorem Index_int_l2_ev (x : Int) (xs : List Int) (hm : xs.length ≤ maxLen) : ∀ (r : List Int) (i : Nat), xs.drop i = r → Ev (fun k => slices_Index_int_l2 k xs x (xs.length : Int) (i : Int)) (idx x i r)
  | [], i, h => by
    have a := at_nil h
    refine Ev.step (fun k => slices_Index_int_l2_eq k xs x _ i) ?_
    simp only [a.g, cond_false]
    exact Ev.pure _
  | y :: r, i, h => by
    have a := at_cons h hm
    refine Ev.step (fun k => slices_Index_int_l2_eq k xs x _ i) ?_
    simp only [a.g, a.z, a.get, a.w, cond_true]
    unfold idx
    refine Ev.ite (fun h => Ev.some ?_) (fun h => (Index_int_l2_ev x xs hm r (i + 1) a.next).to ?_)
    · have : x = y := by simpa using h
      simp [this]
    · have : ¬ x = y := by simpa using h
      rw [if_neg this]
theorem Index_int_ev (xs : List Int) (x : Int) (hm : xs.length ≤ maxLen) : Ev (fun k => slices_Index_int k (xs, x)) (idx x 0 xs) :=
  Ev.step (fun k => slices_Index_int_eq k xs x) (Index_int_l2_ev x xs hm xs 0 rfl)
theorem Contains_int_ev (xs : List Int) (x : Int) (hm : xs.length ≤ maxLen) : Ev (fun k => slices_Contains_int k (xs, x)) (xs.contains x) :=
  Ev.step (fun k => slices_Contains_int_eq k xs x) (Ev.bind (Index_int_ev xs x hm) (Ev.some (idx_has x xs 0)))
end Qq
namespace Qq
open Go Go.Vt Pt
set_option linter.unusedVariables false
set_option linter.unusedSimpArgs false
/-- The numbers are from 0 up to n, and none comes twice. -/
def preOk (n : Int) : List Int → List Int → Bool
  | _, [] => true
  | done, x :: r => decide (0 ≤ x) && (decide (x < n) && (!(done.contains x) && preOk n (done ++ [x]) r))
def isPre (n : Int) (p : List Int) : Bool := decide (1 ≤ n) && (decide (n ≤ 12) && preOk n [] p)
theorem take_next {α : Type} {xs : List α} {i : Nat} {y : α} {r : List α} (h : xs.drop i = y :: r) : xs.take (i + 1) = xs.take i ++ [y] := by
  have lt : i < xs.length := by
    rcases Nat.lt_or_ge i xs.length with h1 | h1
    · exact h1
    · rw [List.drop_eq_nil_of_le h1] at h; cases h
  rw [List.drop_eq_getElem_cons lt] at h
  rw [List.take_succ_eq_append_getElem lt]
  injection h with h1 h2
  rw [h1]
theorem s_l19Ok_l4_ev (n : Int) (xs : List Int) (hn : 1 ≤ n ∧ n ≤ 12) (hm : xs.length ≤ maxLen) : ∀ (r : List Int) (i : Nat), xs.drop i = r → Ev (fun k => s_l19Ok_l4 k n xs xs (xs.length : Int) (i : Int)) (preOk n (xs.take i) r)
  | [], i, h => by
    have a := at_nil h
    refine Ev.step (fun k => s_l19Ok_l4_eq k n xs xs _ i) ?_
    simp only [a.g, cond_false]
    exact Ev.pure _
  | x :: r, i, h => by
    have a := at_cons h hm
    have g : decide ((i : Int) ≤ (xs.length : Int)) = true := by have := a.lt; simp; omega
    refine Ev.step (fun k => s_l19Ok_l4_eq k n xs xs _ i) ?_
    simp only [a.g, a.z, a.get, a.gt, a.w, g, cond_true, List.drop_zero, Int.toNat_natCast]
    unfold preOk
    rw [wrap_id (by omega) (by omega)]
    refine Ev.bind (l01In_ev _ _ _) (Ev.ite (fun h => Ev.some ?_) (fun h => Ev.bind (l02Has_ev (xs.take i) x (by rw [List.length_take]; omega)) (Ev.ite (fun h' => Ev.some ?_) (fun h' => ?_))))
    · rcases Int.lt_or_le x 0 with h1 | h1
      · have : ¬ 0 ≤ x := by omega
        simp [this]
      · have : ¬ x < n := by simp at h; omega
        simp [this]
    · simp only [h', Bool.not_true, Bool.false_and, Bool.and_false]
    · have h1 : 0 ≤ x ∧ x ≤ n - 1 := by simpa using h
      have e1 : decide (0 ≤ x) = true := by simp [h1.1]
      have e2 : decide (x < n) = true := by simp; omega
      rw [e1, e2, h']
      refine (s_l19Ok_l4_ev n xs hn hm r (i + 1) a.next).to ?_
      rw [take_next ‹xs.drop i = x :: r›]; rfl
theorem s_l19Ok_ev (n : Int) (p : List Int) (hm : p.length ≤ maxLen) : Ev (fun k => s_l19Ok k (n, p)) (isPre n p) := by
  refine Ev.step (fun k => s_l19Ok_eq k n p) (Ev.bind (l01In_ev _ _ _) (Ev.ite (fun h => Ev.some ?_) (fun h => ?_)))
  · unfold isPre
    rcases Int.lt_or_le n 1 with h1 | h1
    · have : ¬ 1 ≤ n := by omega
      simp [this]
    · have : ¬ n ≤ 12 := by simp at h; omega
      simp [this]
  · have hn : 1 ≤ n ∧ n ≤ 12 := by simpa using h
    unfold isPre
    simp only [hn.1, hn.2, decide_true, Bool.true_and]
    exact s_l19Ok_l4_ev n p hn hm p 0 rfl
theorem i_isPrefix_l4_ev (n : Int) (xs : List Int) (hm : xs.length ≤ maxLen) : ∀ (r : List Int) (i : Nat), xs.drop i = r → Ev (fun k => i_isPrefix_l4 k n xs xs (xs.length : Int) (i : Int)) (preOk n (xs.take i) r)
  | [], i, h => by
    have a := at_nil h
    refine Ev.step (fun k => i_isPrefix_l4_eq k n xs xs _ i) ?_
    simp only [a.g, cond_false]
    exact Ev.pure _
  | x :: r, i, h => by
    have a := at_cons h hm
    have g : decide ((i : Int) ≤ (xs.length : Int)) = true := by have := a.lt; simp; omega
    refine Ev.step (fun k => i_isPrefix_l4_eq k n xs xs _ i) ?_
    simp only [a.g, a.z, a.get, a.gt, a.w, g, cond_true, List.drop_zero, Int.toNat_natCast]
    unfold preOk
    refine Ev.ite (fun h1 => Ev.some ?_) (fun h1 => Ev.ite (fun h2 => Ev.some ?_) (fun h2 => Ev.bind (Contains_int_ev (xs.take i) x (by rw [List.length_take]; omega)) (Ev.ite (fun h' => Ev.some ?_) (fun h' => ?_))))
    · have : ¬ 0 ≤ x := by simpa using h1
      simp [this]
    · have : ¬ x < n := by simpa using h2
      simp [this]
    · simp only [h', Bool.not_true, Bool.false_and, Bool.and_false]
    · have e1 : decide (0 ≤ x) = true := by simpa using h1
      have e2 : decide (x < n) = true := by simpa using h2
      rw [e1, e2, h']
      refine (i_isPrefix_l4_ev n xs hm r (i + 1) a.next).to ?_
      rw [take_next ‹xs.drop i = x :: r›]; rfl
theorem i_isPrefix_ev (n : Int) (p : List Int) (hm : p.length ≤ maxLen) : Ev (fun k => i_isPrefix k (n, p)) (isPre n p) := by
  refine Ev.step (fun k => i_isPrefix_eq k n p) (Ev.ite (fun h => Ev.some ?_) (fun h => Ev.ite (fun h' => Ev.some ?_) (fun h' => ?_)))
  · have : ¬ 1 ≤ n := by simpa using h
    simp [isPre, this]
  · have : ¬ n ≤ 12 := by simpa using h'
    simp [isPre, this]
  · have e1 : 1 ≤ n := by simpa using h
    have e2 : n ≤ 12 := by simpa using h'
    simp only [isPre, e1, e2, decide_true, Bool.true_and]
    exact i_isPrefix_l4_ev n p hm p 0 rfl
theorem nodup_len : ∀ (n : Nat) (l : List Int), l.Nodup → (∀ x ∈ l, 0 ≤ x ∧ x < (n : Int)) → l.length ≤ n
  | 0, l, _, h => by
    cases l with
    | nil => simp
    | cons x l => have := h x (by simp); omega
  | n + 1, l, hd, h => by
    have h1 := nodup_len n (l.erase (n : Int)) (hd.erase _) (fun x hx => by
      have hx' := (hd.mem_erase_iff).1 hx
      have := h x hx'.2
      have : x ≠ (n : Int) := hx'.1
      omega)
    have h2 := List.length_erase (a := (n : Int)) (l := l)
    split at h2 <;> omega
theorem preOk_nodup (n : Int) : ∀ (r done : List Int), done.Nodup → preOk n done r = true → (done ++ r).Nodup ∧ ∀ x ∈ r, 0 ≤ x ∧ x < n
  | [], done, hd, h => by simp [hd]
  | x :: r, done, hd, h => by
    unfold preOk at h
    simp only [Bool.and_eq_true, decide_eq_true_eq, Bool.not_eq_true'] at h
    obtain ⟨h1, h2, h3, h4⟩ := h
    have hx : x ∉ done := by simpa using h3
    obtain ⟨k1, k2⟩ := preOk_nodup n r (done ++ [x]) (by
      rw [List.nodup_append]
      exact ⟨hd, by simp, fun a ha b hb e => by simp at hb; subst hb; subst e; exact hx ha⟩) h4
    refine ⟨by simpa using k1, fun y hy => ?_⟩
    rcases List.mem_cons.1 hy with rfl | hy
    · exact ⟨h1, h2⟩
    · exact k2 y hy
theorem isPre_fit {n : Int} {p : List Int} (h : isPre n p = true) : 1 ≤ n ∧ n ≤ 12 ∧ p.Nodup ∧ (∀ x ∈ p, 0 ≤ x ∧ x < n) ∧ (p.length : Int) ≤ n := by
  unfold isPre at h
  simp only [Bool.and_eq_true, decide_eq_true_eq] at h
  obtain ⟨h1, h2, h3⟩ := h
  obtain ⟨k1, k2⟩ := preOk_nodup n p [] (by simp) h3
  have k3 := nodup_len n.toNat p (by simpa using k1) (fun x hx => by have := k2 x hx; omega)
  exact ⟨h1, h2, by simpa using k1, k2, by omega⟩
end Qq
namespace Qq
open Go Go.Vt Pt
set_option linter.unusedVariables false
set_option linter.unusedSimpArgs false
def card (x : Int) : Int := if 0 ≤ x ∧ x ≤ 11 then x else if -12 ≤ x ∧ x ≤ -1 then -1 - x else -1
theorem s_CardOf_ev (x : Int) : Ev (fun k => s_CardOf k x) (card x) := by
  refine Ev.step (fun k => s_CardOf_eq k x) (Ev.bind (l01In_ev _ _ _) (Ev.ite (fun h => Ev.some ?_) (fun h => Ev.bind (l01In_ev _ _ _) (Ev.ite (fun h' => ?_) (fun h' => Ev.some ?_)))))
  · have : 0 ≤ x ∧ x ≤ 11 := by simpa using h
    simp [card, this]
  · have h1 : ¬ (0 ≤ x ∧ x ≤ 11) := by simp at h; omega
    have h2 : -12 ≤ x ∧ x ≤ -1 := by simpa using h'
    rw [wrap_id (by omega) (by omega)]
    exact Ev.some (by unfold card; rw [if_neg h1, if_pos h2])
  · have h1 : ¬ (0 ≤ x ∧ x ≤ 11) := by simp at h; omega
    have h2 : ¬ (-12 ≤ x ∧ x ≤ -1) := by simp at h'; omega
    unfold card; rw [if_neg h1, if_neg h2]
def posF (c : Int) : Nat → List Int → Int
  | _, [] => -1
  | i, y :: r => if card y = c then (i : Int) else posF c (i + 1) r
/-- Where a card lies, or -1. -/
def pos (p : List Int) (c : Int) : Int := if c < 0 then -1 else posF c 0 p
theorem s_PositionOf_l2_neg (c : Int) (xs : List Int) (hm : xs.length ≤ maxLen) (hc : c < 0) : ∀ (r : List Int) (i : Nat), xs.drop i = r → Ev (fun k => s_PositionOf_l2 k c xs (xs.length : Int) (i : Int)) (-1)
  | [], i, h => by
    have a := at_nil h
    refine Ev.step (fun k => s_PositionOf_l2_eq k _ _ _ _) ?_
    simp only [a.g, cond_false]
    exact Ev.pure _
  | x :: r, i, h => by
    have a := at_cons h hm
    have ih := s_PositionOf_l2_neg c xs hm hc r (i + 1) a.next
    refine Ev.step (fun k => s_PositionOf_l2_eq k _ _ _ _) ?_
    simp only [a.g, a.z, a.get, a.w, cond_true]
    exact Ev.bind (s_CardOf_ev x) (Ev.ite (fun _ => Ev.no (by simp; omega) ih) (fun _ => ih))
theorem s_PositionOf_l2_ev (c : Int) (xs : List Int) (hm : xs.length ≤ maxLen) (hc : 0 ≤ c) : ∀ (r : List Int) (i : Nat), xs.drop i = r → Ev (fun k => s_PositionOf_l2 k c xs (xs.length : Int) (i : Int)) (posF c i r)
  | [], i, h => by
    have a := at_nil h
    refine Ev.step (fun k => s_PositionOf_l2_eq k _ _ _ _) ?_
    simp only [a.g, cond_false]
    exact Ev.pure _
  | x :: r, i, h => by
    have a := at_cons h hm
    have ih := s_PositionOf_l2_ev c xs hm hc r (i + 1) a.next
    refine Ev.step (fun k => s_PositionOf_l2_eq k _ _ _ _) ?_
    simp only [a.g, a.z, a.get, a.w, cond_true]
    unfold posF
    refine Ev.bind (s_CardOf_ev x) (Ev.ite (fun h => Ev.yes (by simp; omega) (Ev.some ?_)) (fun h => ih.to ?_))
    · have : card x = c := by simpa using h
      rw [if_pos this]
    · have : ¬ card x = c := by simpa using h
      rw [if_neg this]
theorem s_PositionOf_ev (p : List Int) (c : Int) (hm : p.length ≤ maxLen) : Ev (fun k => s_PositionOf k (p, c)) (pos p c) := by
  refine Ev.step (fun k => s_PositionOf_eq k p c) ?_
  unfold pos
  by_cases hc : c < 0
  · rw [if_pos hc]; exact s_PositionOf_l2_neg c p hm hc p 0 rfl
  · rw [if_neg hc]; exact s_PositionOf_l2_ev c p hm (by omega) p 0 rfl
end Qq
namespace Qq
open Go Go.Vt Pt
set_option linter.unusedVariables false
set_option linter.unusedSimpArgs false
def permOk (a : List Int) : Bool := decide (a.length ≤ 12) && preOk a.length [] a
theorem take_at {xs : List Int} {i : Nat} {x : Int} {r : List Int} (a : AtCons xs i x r) : xs.take (i + 1) = xs.take i ++ [x] := by
  have hlt := a.lt
  have e : xs[i] = x := by have := a.get 0; rw [Int.toNat_natCast, List.getD, List.getElem?_eq_getElem hlt] at this; exact this
  rw [List.take_succ_eq_append_getElem hlt, e]
theorem s_PermOk_l4_ev (xs : List Int) (hm : xs.length ≤ 12) : ∀ (r : List Int) (i : Nat), xs.drop i = r → Ev (fun k => s_PermOk_l4 k xs xs (xs.length : Int) (i : Int)) (preOk xs.length (xs.take i) r)
  | [], i, h => by
    have a := at_nil h
    refine Ev.step (fun k => s_PermOk_l4_eq k _ _ _ _) ?_
    simp only [a.g, cond_false]
    exact Ev.pure _
  | x :: r, i, h => by
    have a := at_cons h (by rw [maxLen_eq]; omega)
    have hlt := a.lt
    have ih := s_PermOk_l4_ev xs hm r (i + 1) a.next
    rw [take_at a] at ih
    refine Ev.step (fun k => s_PermOk_l4_eq k _ _ _ _) ?_
    simp only [a.g, a.z, a.get, a.w, cond_true]
    rw [wrap_id (x := (xs.length : Int) - 1) (by omega) (by omega)]
    unfold preOk
    refine Ev.bind (l01In_ev _ _ _) (Ev.ite (fun h => Ev.some ?_) (fun h => ?_))
    · rcases Int.lt_or_le x 0 with h1 | h1
      · have : ¬ 0 ≤ x := by omega
        simp [this]
      · have : ¬ x < (xs.length : Int) := by simp at h; omega
        simp [this]
    · have hx : 0 ≤ x ∧ x ≤ (xs.length : Int) - 1 := by simpa using h
      refine Ev.yes (by simp; omega) ?_
      rw [List.drop_zero, Int.toNat_natCast]
      have e1 : decide (0 ≤ x) = true := by simp [hx.1]
      have e2 : decide (x < (xs.length : Int)) = true := by simp; omega
      rw [e1, e2]
      refine Ev.bind (l02Has_ev _ x (by rw [maxLen_eq, List.length_take]; omega)) (Ev.ite (fun h => Ev.some ?_) (fun h => ih.to ?_))
      · rw [h]; rfl
      · rw [h]; rfl
theorem s_PermOk_ev (a : List Int) (hm : a.length ≤ maxLen) : Ev (fun k => s_PermOk k a) (permOk a) := by
  unfold permOk
  refine Ev.step (fun k => s_PermOk_eq k a) (Ev.ite (fun h => Ev.some ?_) (fun h => ?_))
  · have : ¬ a.length ≤ 12 := by simp at h; omega
    simp [this]
  · have : a.length ≤ 12 := by simp at h; omega
    rw [decide_eq_true this]
    exact s_PermOk_l4_ev a this a 0 rfl
theorem i_PermOk_l2_ev (xs : List Int) (hm : xs.length ≤ maxLen) : ∀ (r : List Int) (i : Nat), xs.drop i = r → Ev (fun k => i_PermOk_l2 k xs xs (xs.length : Int) (i : Int)) (decide (xs.length ≤ 12) && preOk xs.length (xs.take i) r)
  | [], i, h => by
    have a := at_nil h
    refine Ev.step (fun k => i_PermOk_l2_eq k _ _ _ _) ?_
    simp only [a.g, cond_false]
    exact Ev.some (by unfold preOk; rw [Bool.and_true, Bool.eq_iff_iff]; simp; omega)
  | x :: r, i, h => by
    have a := at_cons h hm
    have hlt := a.lt
    have ih := i_PermOk_l2_ev xs hm r (i + 1) a.next
    rw [take_at a] at ih
    refine Ev.step (fun k => i_PermOk_l2_eq k _ _ _ _) ?_
    simp only [a.g, a.z, a.get, a.w, cond_true]
    unfold preOk
    refine Ev.ite (fun h => Ev.some ?_) (fun h => Ev.ite (fun h2 => Ev.some ?_) (fun h2 => ?_))
    · have : ¬ 0 ≤ x := by simp at h; omega
      simp [this]
    · have : ¬ x < (xs.length : Int) := by simp at h2; omega
      simp [this]
    · have hx : 0 ≤ x ∧ x < (xs.length : Int) := by simp at h h2; omega
      refine Ev.yes (by simp; omega) ?_
      rw [List.drop_zero, Int.toNat_natCast]
      have e1 : decide (0 ≤ x) = true := by simp [hx.1]
      have e2 : decide (x < (xs.length : Int)) = true := by simp [hx.2]
      rw [e1, e2]
      refine Ev.bind (Contains_int_ev _ x (Nat.le_trans (by rw [List.length_take]; omega) hm)) (Ev.ite (fun h => Ev.some ?_) (fun h => ih.to ?_))
      · rw [h]; simp
      · rw [h]; rfl
theorem i_PermOk_ev (a : List Int) (hm : a.length ≤ maxLen) : Ev (fun k => i_PermOk k a) (permOk a) :=
  Ev.step (fun k => i_PermOk_eq k a) (i_PermOk_l2_ev a hm a 0 rfl)
/-- A permutation: different numbers below its length, at most 12. -/
theorem perm_fit {a : List Int} (h : permOk a = true) : a.length ≤ 12 ∧ a.Nodup ∧ (∀ x ∈ a, 0 ≤ x ∧ x < (a.length : Int)) := by
  unfold permOk at h
  rw [Bool.and_eq_true, decide_eq_true_eq] at h
  obtain ⟨k1, k2⟩ := preOk_nodup a.length a [] List.nodup_nil h.2
  exact ⟨h.1, by simpa using k1, k2⟩
theorem perm_all {a : List Int} (h : permOk a = true) (y : Int) (h0 : 0 ≤ y) (h1 : y < (a.length : Int)) : y ∈ a := by
  obtain ⟨_, k1, k2⟩ := perm_fit h
  by_cases hm : y ∈ a
  · exact hm
  · exfalso
    have := nodup_len a.length (y :: a) (List.nodup_cons.2 ⟨hm, k1⟩) (fun x hx => by
      rcases List.mem_cons.1 hx with rfl | hx
      · exact ⟨h0, h1⟩
      · exact k2 x hx)
    rw [List.length_cons] at this
    omega
end Qq
namespace Qq
open Go Go.Vt Pt
set_option linter.unusedVariables false
set_option linter.unusedSimpArgs false
theorem posF_idx (c : Int) : ∀ (r : List Int) (i : Nat), (∀ y ∈ r, 0 ≤ y ∧ y ≤ 11) → posF c i r = idx c i r
  | [], i, _ => rfl
  | y :: r, i, h => by
    have hy := h y (by simp)
    have hc : card y = y := by unfold card; rw [if_pos hy]
    unfold posF idx
    rw [hc]
    by_cases e : y = c
    · rw [if_pos e, if_pos e.symm]
    · rw [if_neg e, if_neg (fun h => e h.symm)]
      exact posF_idx c r (i + 1) (fun y hy => h y (by simp [hy]))
theorem idx_at (c : Int) : ∀ (r : List Int) (i j : Nat), r.Nodup → r[j]? = some c → idx c i r = ((i + j : Nat) : Int)
  | [], i, j, _, h => by simp at h
  | y :: r, i, 0, hn, h => by
    simp at h
    subst h
    unfold idx
    rw [if_pos rfl]; simp
  | y :: r, i, j + 1, hn, h => by
    rw [List.nodup_cons] at hn
    have hm : c ∈ r := List.mem_of_getElem? (by simpa using h)
    have hne : ¬ c = y := fun e => hn.1 (e ▸ hm)
    unfold idx
    rw [if_neg hne, idx_at c r (i + 1) j hn.2 (by simpa using h)]
    congr 1; omega
def at_ (a : List Int) (n : Nat) : Int := idx (n : Int) 0 a
theorem at_spec {a : List Int} (h : permOk a = true) (n : Nat) (hn : n < a.length) : ∃ j, j < a.length ∧ a[j]? = some (n : Int) ∧ at_ a n = (j : Int) := by
  obtain ⟨j, hj⟩ := List.getElem?_of_mem (perm_all h (n : Int) (by omega) (by omega))
  refine ⟨j, ?_, hj, ?_⟩
  · rcases Nat.lt_or_ge j a.length with h1 | h1
    · exact h1
    · rw [List.getElem?_eq_none h1] at hj; cases hj
  · have := idx_at (n : Int) a 0 j (perm_fit h).2.1 hj
    rw [Nat.zero_add] at this
    exact this
theorem pos_at_ {a : List Int} (h : permOk a = true) (n : Nat) : pos a (n : Int) = at_ a n := by
  unfold pos at_
  rw [if_neg (by omega)]
  obtain ⟨h1, _, h3⟩ := perm_fit h
  exact posF_idx _ a 0 (fun y hy => by have := h3 y hy; omega)
theorem at_ne {a : List Int} (h : permOk a = true) (n m : Nat) (hn : n < a.length) (hm : m < a.length) (hne : n ≠ m) : at_ a n ≠ at_ a m := by
  obtain ⟨j, _, e1, e2⟩ := at_spec h n hn
  obtain ⟨l, _, f1, f2⟩ := at_spec h m hm
  intro e
  rw [e2, f2] at e
  have : j = l := by omega
  subst this
  rw [e1] at f1
  injection f1 with f1
  omega
def invPart (a : List Int) (i : Nat) : List Int := (List.range a.length).map fun (x : Nat) => if (x : Int) ∈ a.take i then at_ a x else 0
theorem invPart_len (a : List Int) (i : Nat) : (invPart a i).length = a.length := by simp [invPart]
theorem invPart_set {a : List Int} (h : permOk a = true) {i : Nat} {x : Int} {r : List Int} (q : AtCons a i x r) : (invPart a i).set x.toNat (i : Int) = invPart a (i + 1) := by
  obtain ⟨h1, h2, h3⟩ := perm_fit h
  have hlt := q.lt
  have e : a[i] = x := by have := q.get 0; rw [Int.toNat_natCast, List.getD, List.getElem?_eq_getElem hlt] at this; exact this
  have hx := h3 x (e ▸ List.getElem_mem hlt)
  have hxi : a[i]? = some x := by rw [List.getElem?_eq_getElem hlt, e]
  apply List.ext_getElem?
  intro y
  rw [List.getElem?_set, invPart_len]
  by_cases hy : y < a.length
  · have g : (invPart a (i + 1))[y]? = some (if (y : Int) ∈ a.take (i + 1) then at_ a y else 0) := by simp [invPart, hy]
    have g2 : (invPart a i)[y]? = some (if (y : Int) ∈ a.take i then at_ a y else 0) := by simp [invPart, hy]
    rw [g, g2, take_at q]
    by_cases exy : x.toNat = y
    · have exy' : (y : Int) = x := by omega
      rw [if_pos exy, if_pos (by omega), if_pos (by rw [exy']; simp)]
      congr 1
      have := idx_at (y : Int) a 0 i h2 (by rw [exy']; exact hxi)
      unfold at_
      simpa using this.symm
    · have exy' : ¬ (y : Int) = x := by omega
      rw [if_neg exy]
      congr 1
      simp [exy']
  · rw [if_neg (by omega), List.getElem?_eq_none (by rw [invPart_len]; omega), List.getElem?_eq_none (by rw [invPart_len]; omega)]
theorem inverse_l3_ev {a : List Int} (h : permOk a = true) : ∀ (r : List Int) (i : Nat), a.drop i = r → Ev (fun k => i_inverse_l3 k a (a.length : Int) (i : Int) (invPart a i)) (invPart a a.length)
  | [], i, hd => by
    have q := at_nil hd
    refine Ev.step (fun k => i_inverse_l3_eq k _ _ _ _) ?_
    simp only [q.g, cond_false]
    exact Ev.some (by unfold invPart; rw [List.take_of_length_le q.ge, List.take_of_length_le (Nat.le_refl _)])
  | x :: r, i, hd => by
    obtain ⟨h1, h2, h3⟩ := perm_fit h
    have q := at_cons hd (by rw [maxLen_eq]; omega)
    have hx := h3 x (List.mem_of_mem_drop (hd ▸ List.mem_cons_self))
    have ih := inverse_l3_ev h r (i + 1) q.next
    rw [← invPart_set h q] at ih
    refine Ev.step (fun k => i_inverse_l3_eq k _ _ _ _) ?_
    simp only [q.g, q.z, q.get, q.w, cond_true]
    have L := invPart_len a i
    exact Ev.yes (by simpa using hx.1) (Ev.yes (by rw [L]; simpa using hx.2) (Ev.yes (by rw [L]; simp; omega) ih))
def invL (a : List Int) : List Int := (List.range a.length).map fun (x : Nat) => at_ a x
theorem inverse_ev {a : List Int} (h : permOk a = true) : Ev (fun k => i_inverse k a) (invL a) := by
  obtain ⟨h1, _, _⟩ := perm_fit h
  refine Ev.step (fun k => i_inverse_eq k a) (Ev.yes (by simp) (Ev.yes (by rw [rowMax_eq]; simp; omega) (Ev.yes (by simp) ?_)))
  have e0 : List.replicate (a.length : Int).toNat (0 : Int) = invPart a 0 := by
    unfold invPart
    apply List.ext_getElem?
    intro x
    simp [List.getElem?_replicate]
    by_cases hx : x < a.length
    · simp [hx]
    · simp [hx]
  rw [e0]
  refine (inverse_l3_ev h a 0 rfl).to ?_
  unfold invPart invL
  apply List.map_congr_left
  intro x hx
  rw [List.mem_range] at hx
  rw [List.take_of_length_le (Nat.le_refl _), if_pos (perm_all h (x : Int) (by omega) (by omega))]
theorem invL_get {a : List Int} {n : Nat} (h : n < a.length) (d : Int) : (invL a).getD n d = at_ a n := by
  simp [invL, List.getD, h]
def rsNext (out : List (List Int)) (i : Nat) (new : Bool) : List (List Int) :=
  if new then out ++ [[(i : Int)]] else out.set (out.length - 1) (out.getD (out.length - 1) [] ++ [(i : Int)])
def newB (a : List Int) (i : Nat) : Bool := i == 0 || !decide (at_ a i > at_ a (i - 1))
def rsN (a : List Int) : Nat → List (List Int)
  | 0 => []
  | i + 1 => rsNext (rsN a i) i (newB a i)
theorem rsN_new {a : List Int} {i : Nat} (h : newB a i = true) : rsN a (i + 1) = rsN a i ++ [[(i : Int)]] := by
  show rsNext _ _ _ = _
  rw [h]; rfl
theorem rsN_old {a : List Int} {i : Nat} (h : newB a i = false) : rsN a (i + 1) = (rsN a i).set ((rsN a i).length - 1) ((rsN a i).getD ((rsN a i).length - 1) [] ++ [(i : Int)]) := by
  show rsNext _ _ _ = _
  rw [h]; rfl
theorem rsN_fit (a : List Int) : ∀ i, (rsN a i).length ≤ i ∧ (1 ≤ i → 1 ≤ (rsN a i).length) ∧ ∀ l ∈ rsN a i, l.length ≤ i
  | 0 => ⟨Nat.le_refl _, fun h => h, fun l hl => by cases hl⟩
  | i + 1 => by
    obtain ⟨h1, h2, h3⟩ := rsN_fit a i
    unfold rsN rsNext
    split
    · refine ⟨by simp; omega, fun _ => by simp, fun l hl => ?_⟩
      rcases List.mem_append.1 hl with hl | hl
      · have := h3 l hl; omega
      · simp at hl; subst hl; simp
    · rename_i hb
      have hi : 1 ≤ i := by
        rcases Nat.eq_zero_or_pos i with e | e
        · subst e; simp [newB] at hb
        · exact e
      have hg : ((rsN a i).getD ((rsN a i).length - 1) []).length ≤ i := by
        have hlt : (rsN a i).length - 1 < (rsN a i).length := by have := h2 hi; omega
        rw [List.getD, List.getElem?_eq_getElem hlt]
        exact h3 _ (List.getElem_mem hlt)
      refine ⟨by simp; omega, fun _ => by rw [List.length_set]; exact h2 hi, fun l hl => ?_⟩
      rcases List.mem_or_eq_of_mem_set hl with hl | rfl
      · have := h3 l hl; omega
      · simp; exact hg
theorem s_Rising_l6_ev {a : List Int} (h : permOk a = true) : ∀ (d i : Nat), i + d = a.length → Ev (fun k => s_RisingSequences_l6 k a (if i = 0 then -1 else at_ a (i - 1)) (a.length : Int) (i : Int) (rsN a i)) (rsN a a.length)
  | 0, i, hd => by
    refine Ev.step (fun k => s_RisingSequences_l6_eq k _ _ _ _ _) ?_
    rw [at_end (by omega)]
    have e : i = a.length := by omega
    exact Ev.some (by rw [e])
  | d + 1, i, hd => by
    obtain ⟨h1, _, _⟩ := perm_fit h
    have u := at_up (n := (a.length : Int)) (i := i) (by omega) (by omega)
    have ih := s_Rising_l6_ev h d (i + 1) (by omega)
    rw [if_neg (by omega), Nat.add_sub_cancel] at ih
    obtain ⟨f1, f2, f3⟩ := rsN_fit a i
    obtain ⟨j, hj, _, hja⟩ := at_spec h i (by omega)
    refine Ev.step (fun k => s_RisingSequences_l6_eq k _ _ _ _ _) ?_
    simp only [u.g, u.w, cond_true]
    have hp := s_PositionOf_ev a (i : Int) (by rw [maxLen_eq]; omega)
    rw [pos_at_ h] at hp
    refine Ev.bind hp (Ev.ite (fun hgt => Ev.ite (fun hlen => ?_) (fun hlen => ?_)) (fun hgt => ?_))
    · -- goes on
      have hi : i ≠ 0 := by
        intro e; subst e
        have : (rsN a 0).length = 0 := rfl
        simp [this] at hlen
      have hnew : newB a i = false := by
        rw [if_neg hi] at hgt
        unfold newB
        rw [hgt]
        simp [hi]
      have hl1 := f2 (by omega)
      have hlt : (rsN a i).length - 1 < (rsN a i).length := by omega
      have e1 : ((rsN a i).length : Int) - 1 = (((rsN a i).length - 1 : Nat) : Int) := by omega
      have hg : ((rsN a i).getD ((rsN a i).length - 1) []).length ≤ i := by
        rw [List.getD, List.getElem?_eq_getElem hlt]
        exact f3 _ (List.getElem_mem hlt)
      rw [rsN_old hnew] at ih
      rw [e1, wrap_id (by omega) (by omega), Int.toNat_natCast]
      refine Ev.yes (by simp) (Ev.yes (by simp; omega) (Ev.yes (by simp; omega) (Ev.yes (decide_eq_true (by rw [rowMax_eq, List.length_singleton]; omega)) (Ev.yes (by simp) (Ev.yes (by simp; omega) (Ev.yes (by simp) ih))))))
    · have hi : i = 0 := by
        rcases Nat.eq_zero_or_pos i with e | e
        · exact e
        · have := f2 e; have h0 := of_decide_eq_false hlen; omega
      have hnew : newB a i = true := by subst hi; rfl
      rw [rsN_new hnew] at ih
      exact Ev.yes (by rw [rowMax_eq]; simp; omega) ih
    · have hnew : newB a i = true := by
        unfold newB
        by_cases hi : i = 0
        · simp [hi]
        · rw [if_neg hi] at hgt
          rw [hgt]; simp
      rw [rsN_new hnew] at ih
      exact Ev.yes (by rw [rowMax_eq]; simp; omega) ih
theorem i_Rising_l6_ev {a : List Int} (h : permOk a = true) : ∀ (d i : Nat), i + d = a.length → Ev (fun k => i_RisingSequences_l6 k (a.length : Int) (i : Int) (rsN a i) (invL a)) (rsN a a.length)
  | 0, i, hd => by
    refine Ev.step (fun k => i_RisingSequences_l6_eq k _ _ _ _) ?_
    rw [at_end (by omega)]
    have e : i = a.length := by omega
    exact Ev.some (by rw [e])
  | d + 1, i, hd => by
    obtain ⟨h1, _, _⟩ := perm_fit h
    have u := at_up (n := (a.length : Int)) (i := i) (by omega) (by omega)
    have ih := i_Rising_l6_ev h d (i + 1) (by omega)
    obtain ⟨f1, f2, f3⟩ := rsN_fit a i
    have hL : (invL a).length = a.length := by simp [invL]
    have e0 : ((rsN a i ++ [[]]).length : Int) - 1 = ((rsN a i).length : Int) := by simp
    have e1 : IntKind.i64.wrap (((rsN a i ++ [[]]).length : Int) - 1) = ((rsN a i).length : Int) := by rw [e0, wrap_id (by omega) (by omega)]
    have e2 : (rsN a i ++ [[]]).getD ((rsN a i).length : Int).toNat [] = [] := by
      rw [Int.toNat_natCast, List.getD, List.getElem?_append_right (Nat.le_refl _)]; simp
    have e3 : (rsN a i ++ [[]]).set ((rsN a i).length : Int).toNat ([] ++ [(i : Int)]) = rsN a i ++ [[(i : Int)]] := by
      rw [Int.toNat_natCast, List.set_append_right _ _ (Nat.le_refl _)]; simp
    refine Ev.step (fun k => i_RisingSequences_l6_eq k _ _ _ _) ?_
    simp only [u.g, u.w, u.z, e1, e2, e3, cond_true]
    refine Ev.ite (fun hi => ?_) (fun hi => ?_)
    · have hi' : i = 0 := by simpa using hi
      have hnew : newB a i = true := by unfold newB; rw [hi']; rfl
      rw [rsN_new hnew] at ih
      exact Ev.yes (by rw [rowMax_eq]; simp; omega) (Ev.yes (by simp) (Ev.yes (by simp; omega) (Ev.yes (by simp) (Ev.yes (by rw [rowMax_eq]; simp) (Ev.yes (by simp) (Ev.yes (by simp; omega) (Ev.yes (by simp) ih)))))))
    · have hi' : ¬ i = 0 := by simpa using hi
      have e4 : (i : Int) - 1 = ((i - 1 : Nat) : Int) := by omega
      rw [e4, wrap_id (x := ((i - 1 : Nat) : Int)) (by omega) (by omega), Int.toNat_natCast, Int.toNat_natCast, invL_get (by omega), invL_get (by omega)]
      refine Ev.yes (by rw [hL]; simp; omega) (Ev.yes (by rw [hL]; simp; omega) (Ev.yes (by simp) (Ev.yes (by rw [hL]; simp; omega) (Ev.yes (by rw [hL]; simp; omega) (Ev.ite (fun hlt => ?_) (fun hlt => ?_))))))
      · have hnew : newB a i = true := by
          unfold newB
          have : ¬ at_ a i > at_ a (i - 1) := by simp at hlt; omega
          simp [this]
        rw [rsN_new hnew] at ih
        exact Ev.yes (by rw [rowMax_eq]; simp; omega) (Ev.yes (by simp) (Ev.yes (by simp; omega) (Ev.yes (by simp) (Ev.yes (by rw [rowMax_eq]; simp) (Ev.yes (by simp) (Ev.yes (by simp; omega) (Ev.yes (by simp) ih)))))))
      · have hne := at_ne h i (i - 1) (by omega) (by omega) (by omega)
        have hnew : newB a i = false := by
          unfold newB
          have : at_ a i > at_ a (i - 1) := by simp at hlt; omega
          simp [this, hi']
        have hl1 := f2 (by omega)
        have hlt2 : (rsN a i).length - 1 < (rsN a i).length := by omega
        have e5 : ((rsN a i).length : Int) - 1 = (((rsN a i).length - 1 : Nat) : Int) := by omega
        have hg : ((rsN a i).getD ((rsN a i).length - 1) []).length ≤ i := by
          rw [List.getD, List.getElem?_eq_getElem hlt2]
          exact f3 _ (List.getElem_mem hlt2)
        rw [rsN_old hnew] at ih
        rw [e5, wrap_id (by omega) (by omega), Int.toNat_natCast]
        exact Ev.yes (by simp) (Ev.yes (by simp; omega) (Ev.yes (by simp; omega) (Ev.yes (decide_eq_true (by rw [rowMax_eq, List.length_singleton]; omega)) (Ev.yes (by simp) (Ev.yes (by simp; omega) (Ev.yes (by simp) ih))))))
def rising (a : List Int) : List (List Int) := if permOk a then rsN a a.length else []
theorem s_Rising_ev (a : List Int) (hm : a.length ≤ maxLen) : Ev (fun k => s_RisingSequences k a) (rising a) := by
  unfold rising
  refine Ev.step (fun k => s_RisingSequences_eq k a) (Ev.bind (s_PermOk_ev a hm) (Ev.ite (fun h => Ev.some ?_) (fun h => ?_)))
  · have : permOk a = false := by simpa using h
    rw [this]; rfl
  · have e : permOk a = true := by simpa using h
    rw [if_pos e]
    exact s_Rising_l6_ev e a.length 0 (by omega)
theorem i_Rising_ev (a : List Int) (hm : a.length ≤ maxLen) : Ev (fun k => i_RisingSequences k a) (rising a) := by
  unfold rising
  refine Ev.step (fun k => i_RisingSequences_eq k a) (Ev.bind (i_PermOk_ev a hm) (Ev.ite (fun h => Ev.some ?_) (fun h => ?_)))
  · have : permOk a = false := by simpa using h
    rw [this]; rfl
  · have e : permOk a = true := by simpa using h
    rw [if_pos e]
    exact Ev.bind (inverse_ev e) (i_Rising_l6_ev e a.length 0 (by omega))
def isRiffle (a : List Int) : Bool := permOk a && decide ((rising a).length ≤ 2)
theorem s_IsRiffle_ev (a : List Int) (hm : a.length ≤ maxLen) : Ev (fun k => s_IsRiffle k a) (isRiffle a) := by
  unfold isRiffle
  refine Ev.step (fun k => s_IsRiffle_eq k a) (Ev.bind (s_PermOk_ev a hm) (Ev.ite (fun h => Ev.bind (s_Rising_ev a hm) (Ev.some ?_)) (fun h => Ev.some ?_)))
  · rw [h, Bool.true_and, Bool.eq_iff_iff]; simp; omega
  · rw [h]; rfl
theorem i_IsRiffle_ev (a : List Int) (hm : a.length ≤ maxLen) : Ev (fun k => i_IsRiffle k a) (isRiffle a) := by
  unfold isRiffle
  refine Ev.step (fun k => i_IsRiffle_eq k a) (Ev.bind (i_PermOk_ev a hm) (Ev.ite (fun h => Ev.bind (i_Rising_ev a hm) (Ev.some ?_)) (fun h => Ev.some ?_)))
  · rw [h, Bool.true_and, Bool.eq_iff_iff]; simp; omega
  · rw [h]; rfl
end Qq
namespace Qq
open Go Go.Vt Pt
set_option linter.unusedVariables false
set_option linter.unusedSimpArgs false
def bits : Nat → Nat → List Bool
  | 0, _ => []
  | n + 1, w => (w % 2 == 1) :: bits n (w / 2)
theorem bits_len : ∀ n w, (bits n w).length = n
  | 0, _ => rfl
  | n + 1, w => by simp [bits, bits_len n]
theorem bits_get : ∀ (n w i : Nat), i < n → (bits n w)[i]? = some (w / 2 ^ i % 2 == 1)
  | 0, _, _, h => by omega
  | n + 1, w, 0, h => by simp [bits]
  | n + 1, w, i + 1, h => by
    show (bits n (w / 2))[i]? = _
    rw [bits_get n (w / 2) i (by omega), Nat.div_div_eq_div_mul, Nat.pow_succ, Nat.mul_comm 2 (2 ^ i)]
theorem bits_drop {n w i : Nat} (h : i < n) : (bits n w).drop i = (w / 2 ^ i % 2 == 1) :: (bits n w).drop (i + 1) := by
  have hl : i < (bits n w).length := by rw [bits_len]; exact h
  rw [List.drop_eq_getElem_cons hl]
  have := bits_get n w i h
  rw [List.getElem?_eq_getElem hl] at this
  injection this with e
  rw [e]
/-- A bit, as the program takes it. -/
theorem bit_wrap (w i : Nat) (hi : i < 64) (hw : w < 9223372036854775808) : IntKind.i64.wrap (((BitVec.ofInt IntKind.i64.bits (((w : Int)).fdiv (2 ^ (min ((i : Int)).toNat IntKind.i64.bits))) &&& BitVec.ofInt IntKind.i64.bits (1 : Int)).toNat : Int)) = ((w / 2 ^ i % 2 : Nat) : Int) := by
  have hb : IntKind.i64.bits = 64 := by decide
  rw [hb, Int.toNat_natCast, Nat.min_eq_left (by omega)]
  have e1 : ((w : Int)).fdiv (2 ^ i) = ((w / 2 ^ i : Nat) : Int) := by
    rw [Int.fdiv_eq_ediv_of_nonneg _ (by exact Int.le_of_lt (Int.pow_pos (by decide)))]
    norm_cast
  have e2 : (BitVec.ofInt 64 ((w / 2 ^ i : Nat) : Int) &&& BitVec.ofInt 64 (1 : Int)).toNat = w / 2 ^ i % 2 := by
    have h1 : (1 : Int) = ((1 : Nat) : Int) := rfl
    rw [h1, BitVec.ofInt_natCast, BitVec.ofInt_natCast, BitVec.toNat_and, BitVec.toNat_ofNat, BitVec.toNat_ofNat]
    have hlt : w / 2 ^ i < 2 ^ 64 := by
      have := Nat.div_le_self w (2 ^ i)
      omega
    rw [Nat.mod_eq_of_lt hlt]
    exact Nat.and_one_is_mod _
  rw [e1, e2, wrap_id (by omega) (by omega)]
def zeros (l : List Bool) : Nat := l.count false
def ones (l : List Bool) : Nat := l.count true
theorem zo : ∀ l : List Bool, zeros l + ones l = l.length
  | [] => rfl
  | b :: l => by
    have := zo l
    unfold zeros ones at *
    cases b <;> simp <;> omega
/-- The cards of two parts that begin at a and at b, in turn as the bits say. -/
def riff : List Bool → Nat → Nat → List Int
  | [], _, _ => []
  | false :: l, a, b => (a : Int) :: riff l (a + 1) b
  | true :: l, a, b => (b : Int) :: riff l a (b + 1)
theorem riff_len : ∀ (l : List Bool) (a b : Nat), (riff l a b).length = l.length
  | [], _, _ => rfl
  | false :: l, a, b => by simp [riff, riff_len l]
  | true :: l, a, b => by simp [riff, riff_len l]
def upTo (n : Nat) : List Int := (List.range n).map fun (i : Nat) => (i : Int)
theorem upTo_len (n : Nat) : (upTo n).length = n := by simp [upTo]
theorem upTo_get {n i : Nat} (h : i < n) (d : Int) : (upTo n).getD i d = i := by simp [upTo, List.getD, h]
theorem upTo_succ (n : Nat) : upTo (n + 1) = upTo n ++ [(n : Int)] := by simp [upTo, List.range_succ]
theorem i_upTo_l3_ev (n : Nat) (hn : n ≤ 1048576) : ∀ (m i : Nat), i + m = n → Ev (fun k => i_upTo_l3 k (n : Int) (i : Int) (upTo i)) (upTo n)
  | 0, i, h => by
    refine Ev.step (fun k => i_upTo_l3_eq k n i _) ?_
    rw [at_end (by omega)]
    have : i = n := by omega
    subst this
    exact Ev.pure _
  | m + 1, i, h => by
    have a := at_up (n := (n : Int)) (i := i) (by omega) (by omega)
    refine Ev.step (fun k => i_upTo_l3_eq k n i _) ?_
    simp only [a.g, a.w, cond_true]
    refine Ev.yes (by rw [upTo_len, rowMax_eq]; simp; omega) ?_
    rw [← upTo_succ]
    exact i_upTo_l3_ev n hn m (i + 1) (by omega)
theorem i_upTo_ev (n : Nat) (hn : n ≤ 1048576) : Ev (fun k => i_upTo k (n : Int)) (upTo n) :=
  Ev.step (fun k => i_upTo_eq k n) (i_upTo_l3_ev n hn n 0 (by omega))
theorem i_riffled_l9_ev (n w a0 : Nat) (hn : n ≤ 12) (hw : w < 9223372036854775808) : ∀ (m i a b : Nat) (acc : List Int), i + m = n → acc.length = i → a + zeros ((bits n w).drop i) ≤ n → b + ones ((bits n w).drop i) ≤ n →
    Ev (fun k => i_riffled_l9 k (upTo n) (w : Int) (a : Int) (b : Int) (n : Int) (i : Int) acc) (acc ++ riff ((bits n w).drop i) a b)
  | 0, i, a, b, acc, h, hl, ha, hb => by
    refine Ev.step (fun k => i_riffled_l9_eq k _ _ _ _ _ _ _) ?_
    rw [at_end (by omega)]
    have : (bits n w).drop i = [] := List.drop_eq_nil_of_le (by rw [bits_len]; omega)
    rw [this]
    exact Ev.some (by simp [riff])
  | m + 1, i, a, b, acc, h, hl, ha, hb => by
    have u := at_up (n := (n : Int)) (i := i) (by omega) (by omega)
    have hd := bits_drop (n := n) (w := w) (i := i) (by omega)
    refine Ev.step (fun k => i_riffled_l9_eq k _ _ _ _ _ _ _) ?_
    rw [bit_wrap w i (by omega) hw]
    simp only [u.g, u.z, u.w, cond_true]
    rw [hd] at ha hb ⊢
    cases hbit : (w / 2 ^ i % 2 == 1) with
    | true =>
      rw [hbit] at ha hb
      simp only [zeros, ones, List.count_cons] at ha hb
      simp at ha hb
      have e : (((w / 2 ^ i % 2 : Nat) : Int) == 1) = true := by
        have : w / 2 ^ i % 2 = 1 := by simpa using hbit
        rw [this]; rfl
      refine Ev.yes e (Ev.yes (by simp) (Ev.yes (by rw [upTo_len]; simp; omega) (Ev.yes (by simp [rowMax_eq]; omega) ?_)))
      rw [wrap_id (by omega) (by omega), Int.toNat_natCast, upTo_get (by omega)]
      have := i_riffled_l9_ev n w a0 hn hw m (i + 1) a (b + 1) (acc ++ [(b : Int)]) (by omega) (by simp [hl]) (by simpa [zeros] using ha) (by simp only [ones]; omega)
      simpa [riff] using this
    | false =>
      rw [hbit] at ha hb
      simp only [zeros, ones, List.count_cons] at ha hb
      simp at ha hb
      have e : (((w / 2 ^ i % 2 : Nat) : Int) == 1) = false := by
        have h1 : ¬ w / 2 ^ i % 2 = 1 := by simpa using hbit
        have h2 : w / 2 ^ i % 2 = 0 := by omega
        rw [h2]; rfl
      refine Ev.no e (Ev.yes (by simp) (Ev.yes (by rw [upTo_len]; simp; omega) (Ev.yes (by simp [rowMax_eq]; omega) ?_)))
      rw [wrap_id (by omega) (by omega), Int.toNat_natCast, upTo_get (by omega)]
      have := i_riffled_l9_ev n w a0 hn hw m (i + 1) (a + 1) b (acc ++ [(a : Int)]) (by omega) (by simp [hl]) (by simp only [zeros]; omega) (by simpa [ones] using hb)
      simpa [riff] using this
theorem i_riffled_l3_ev (n w : Nat) (hn : n ≤ 12) (hw : w < 9223372036854775808) : ∀ (m i z : Nat), i + m = n → z ≤ i → z + zeros ((bits n w).drop i) = zeros (bits n w) →
    Ev (fun k => i_riffled_l3 k (upTo n) (w : Int) 0 (z : Int) (n : Int) (i : Int)) (riff (bits n w) 0 (zeros (bits n w)))
  | 0, i, z, h, hz, hs => by
    refine Ev.step (fun k => i_riffled_l3_eq k _ _ _ _ _ _) ?_
    rw [at_end (by omega)]
    have e : (bits n w).drop i = [] := List.drop_eq_nil_of_le (by rw [bits_len]; omega)
    rw [e] at hs
    have hs' : z = zeros (bits n w) := by simpa [zeros] using hs
    have h1 := zo (bits n w)
    rw [bits_len] at h1
    have := i_riffled_l9_ev n w 0 hn hw n 0 0 z [] (by omega) rfl (by rw [List.drop_zero]; omega) (by rw [List.drop_zero]; omega)
    rw [upTo_len, hs'] at *
    simpa using this
  | m + 1, i, z, h, hz, hs => by
    have u := at_up (n := (n : Int)) (i := i) (by omega) (by omega)
    have hd := bits_drop (n := n) (w := w) (i := i) (by omega)
    refine Ev.step (fun k => i_riffled_l3_eq k _ _ _ _ _ _) ?_
    rw [bit_wrap w i (by omega) hw]
    simp only [u.g, u.z, u.w, cond_true]
    rw [hd] at hs
    have hlt : w / 2 ^ i % 2 < 2 := Nat.mod_lt _ (by decide)
    rw [wrap_id (x := 1 - _) (by omega) (by omega), wrap_id (by omega) (by omega)]
    cases hbit : (w / 2 ^ i % 2 == 1) with
    | true =>
      have h1 : w / 2 ^ i % 2 = 1 := by simpa using hbit
      rw [hbit] at hs
      simp only [zeros, List.count_cons] at hs
      simp at hs
      rw [h1]
      have := i_riffled_l3_ev n w hn hw m (i + 1) z (by omega) (by omega) (by simpa [zeros] using hs)
      simpa using this
    | false =>
      have h0 : ¬ w / 2 ^ i % 2 = 1 := by simpa using hbit
      have h1 : w / 2 ^ i % 2 = 0 := by omega
      rw [hbit] at hs
      simp only [zeros, List.count_cons] at hs
      simp at hs
      rw [h1]
      have := i_riffled_l3_ev n w hn hw m (i + 1) (z + 1) (by omega) (by omega) (by simp only [zeros]; omega)
      simpa using this
theorem i_riffled_ev (n w : Nat) (hn : n ≤ 12) (hw : w < 9223372036854775808) : Ev (fun k => i_riffled k (upTo n, (w : Int))) (riff (bits n w) 0 (zeros (bits n w))) := by
  refine Ev.step (fun k => i_riffled_eq k _ _) ?_
  rw [upTo_len]
  exact i_riffled_l3_ev n w hn hw n 0 0 (by omega) (by omega) (by simp)
end Qq
namespace Qq
open Go Go.Vt Pt
set_option linter.unusedVariables false
set_option linter.unusedSimpArgs false
def cnt (n : Nat) (P : List Bool → Bool) : Nat := (List.range (2 ^ n)).countP fun w => P (bits n w)
theorem cnt_congr {n : Nat} {P Q : List Bool → Bool} (h : ∀ l, l.length = n → P l = Q l) : cnt n P = cnt n Q := by
  unfold cnt
  exact List.countP_congr (fun w _ => by rw [h _ (bits_len n w)])
theorem cnt_none {n : Nat} {P : List Bool → Bool} (h : ∀ l, l.length = n → P l = false) : cnt n P = 0 := by
  rw [cnt_congr (Q := fun _ => false) h]; simp [cnt]
theorem count_two (f : Nat → Bool) : ∀ m, (List.range (2 * m)).countP f = (List.range m).countP (fun w => f (2 * w)) + (List.range m).countP (fun w => f (2 * w + 1))
  | 0 => rfl
  | m + 1 => by
    have e : 2 * (m + 1) = 2 * m + 1 + 1 := by omega
    rw [e, List.range_succ, List.range_succ, List.range_succ]
    simp only [List.countP_append, List.countP_singleton, count_two f m]
    omega
theorem cnt_succ (n : Nat) (P : List Bool → Bool) : cnt (n + 1) P = cnt n (fun l => P (false :: l)) + cnt n (fun l => P (true :: l)) := by
  unfold cnt
  rw [Nat.pow_succ, Nat.mul_comm, count_two]
  have e1 : ∀ w, bits (n + 1) (2 * w) = false :: bits n w := fun w => by simp [bits]
  have e2 : ∀ w, bits (n + 1) (2 * w + 1) = true :: bits n w := fun w => by
    have h1 : (2 * w + 1) % 2 = 1 := by omega
    have h2 : (2 * w + 1) / 2 = w := by omega
    simp [bits, h1, h2]
  simp only [e1, e2]
theorem count_or {α : Type} (p q : α → Bool) (h : ∀ x, p x = true → q x = false) : ∀ l : List α, l.countP (fun x => p x || q x) = l.countP p + l.countP q
  | [] => rfl
  | x :: l => by
    simp only [List.countP_cons, count_or p q h l]
    cases hp : p x with
    | true => simp [h x hp]; omega
    | false => simp; omega
def binom : Nat → Nat → Nat
  | _, 0 => 1
  | 0, _ + 1 => 0
  | n + 1, k + 1 => binom n k + binom n (k + 1)
theorem cnt_zeros : ∀ m z, cnt m (fun l => zeros l == z) = binom m z
  | 0, 0 => rfl
  | 0, z + 1 => by unfold binom; exact cnt_none (fun l hl => by
      have : l = [] := by simpa using hl
      subst this; rfl)
  | m + 1, 0 => by
    rw [cnt_succ]
    have h1 : cnt m (fun l => zeros (false :: l) == 0) = 0 := cnt_none (fun l _ => by simp [zeros])
    have h2 : cnt m (fun l => zeros (true :: l) == 0) = cnt m (fun l => zeros l == 0) := cnt_congr (fun l _ => by simp [zeros])
    rw [h1, h2, cnt_zeros m 0]; cases m <;> rfl
  | m + 1, z + 1 => by
    rw [cnt_succ]
    have h1 : cnt m (fun l => zeros (false :: l) == z + 1) = cnt m (fun l => zeros l == z) := cnt_congr (fun l _ => by simp [zeros])
    have h2 : cnt m (fun l => zeros (true :: l) == z + 1) = cnt m (fun l => zeros l == z + 1) := cnt_congr (fun l _ => by simp [zeros])
    rw [h1, h2, cnt_zeros m z, cnt_zeros m (z + 1)]; rfl
/-- The reference's count of the ways with a first part of k cards, from a and b on, with q cards behind the list. -/
def wf (n k q : Nat) : Nat → Nat → List Int → Nat
  | a, _, [] => binom q (k - a)
  | a, b, x :: r => if x = (a : Int) ∧ a < k then wf n k q (a + 1) b r else if x = (b : Int) ∧ b < n then wf n k q a (b + 1) r else 0
theorem cnt_wf (n k q : Nat) : ∀ (r : List Int) (a b : Nat), a ≤ k → k ≤ b → b ≤ n → (k - a) + (n - b) = q + r.length →
    cnt (q + r.length) (fun l => zeros l == k - a && (riff l a b).take r.length == r) = wf n k q a b r
  | [], a, b, h1, h2, h3, h4 => by
    unfold wf
    rw [← cnt_zeros]
    exact cnt_congr (fun l _ => by simp)
  | x :: r, a, b, h1, h2, h3, h4 => by
    simp only [List.length_cons] at h4
    have e : q + (x :: r).length = (q + r.length) + 1 := by simp; omega
    rw [e, cnt_succ]
    unfold wf
    by_cases ha : x = (a : Int) ∧ a < k
    · rw [if_pos ha, ← cnt_wf n k q r (a + 1) b (by omega) h2 h3 (by omega)]
      have z2 : cnt (q + r.length) (fun l => zeros (true :: l) == k - a && (riff (true :: l) a b).take (x :: r).length == x :: r) = 0 := cnt_none (fun l _ => by
        have : ¬ (b : Int) = x := by omega
        simp [riff, this])
      rw [z2, Nat.add_zero]
      exact cnt_congr (fun l _ => by
        have e1 : zeros (false :: l) = zeros l + 1 := by simp [zeros]
        have e2 : (zeros l + 1 == k - a) = (zeros l == k - (a + 1)) := by rw [Bool.eq_iff_iff]; simp; omega
        simp only [e1, e2, riff, List.length_cons, List.take_succ_cons, ha.1]
        rw [Bool.eq_iff_iff]; simp)
    · rw [if_neg ha]
      have z1 : cnt (q + r.length) (fun l => zeros (false :: l) == k - a && (riff (false :: l) a b).take (x :: r).length == x :: r) = 0 := cnt_none (fun l _ => by
        by_cases hx : x = (a : Int)
        · have : k - a = 0 := by omega
          simp [zeros, this]
        · have : ¬ (a : Int) = x := fun e => hx e.symm
          simp [riff, this])
      rw [z1, Nat.zero_add]
      by_cases hb : x = (b : Int) ∧ b < n
      · rw [if_pos hb, ← cnt_wf n k q r a (b + 1) h1 (by omega) (by omega) (by omega)]
        exact cnt_congr (fun l _ => by
          have e1 : zeros (true :: l) = zeros l := by simp [zeros]
          simp only [e1, riff, List.length_cons, List.take_succ_cons, hb.1]
          rw [Bool.eq_iff_iff]; simp)
      · rw [if_neg hb]
        exact cnt_none (fun l hl => by
          by_cases hx : x = (b : Int)
          · have hz : zeros l ≤ l.length := by have := zo l; omega
            have : ¬ zeros l = k - a := by omega
            simp [zeros] at this ⊢
            simp [this]
          · have : ¬ (b : Int) = x := fun e => hx e.symm
            simp [riff, this])
def sumK (g : Nat → Nat) : Nat → Nat
  | 0 => 0
  | k + 1 => sumK g k + g k
theorem cnt_split (n : Nat) (f : Nat → List Bool → Bool) : ∀ K, cnt n (fun l => decide (zeros l < K) && f (zeros l) l) = sumK (fun k => cnt n (fun l => zeros l == k && f k l)) K
  | 0 => cnt_none (fun l _ => by simp)
  | K + 1 => by
    unfold sumK
    rw [← cnt_split n f K]
    unfold cnt
    rw [← count_or]
    · apply List.countP_congr
      intro w _
      simp only [Bool.and_eq_true, decide_eq_true_eq, Bool.or_eq_true, beq_iff_eq]
      constructor
      · rintro ⟨h1, h2⟩
        rcases Nat.lt_or_ge (zeros (bits n w)) K with h | h
        · exact .inl ⟨h, h2⟩
        · have : zeros (bits n w) = K := by omega
          exact .inr ⟨this, this ▸ h2⟩
      · rintro (⟨h1, h2⟩ | ⟨h1, h2⟩)
        · exact ⟨by omega, h2⟩
        · exact ⟨by omega, h1 ▸ h2⟩
    · intro w hw
      simp only [Bool.and_eq_true, decide_eq_true_eq] at hw
      have : ¬ zeros (bits n w) = K := by omega
      simp [this]
/-- How many riffles of n cards begin with p. -/
def ways (n : Nat) (p : List Int) : Nat := cnt n fun l => (riff l 0 (zeros l)).take p.length == p
theorem ways_eq (n : Nat) (p : List Int) (hp : p.length ≤ n) : ways n p = sumK (fun k => wf n k (n - p.length) 0 k p) (n + 1) := by
  have h1 : ways n p = cnt n (fun l => decide (zeros l < n + 1) && (riff l 0 (zeros l)).take p.length == p) := cnt_congr (fun l hl => by
    have := zo l
    have : zeros l < n + 1 := by omega
    simp [this])
  rw [h1, cnt_split n (fun k l => (riff l 0 k).take p.length == p)]
  have key : ∀ K, K ≤ n + 1 → sumK (fun k => cnt n (fun l => zeros l == k && (riff l 0 k).take p.length == p)) K = sumK (fun k => wf n k (n - p.length) 0 k p) K := by
    intro K
    induction K with
    | zero => intro _; rfl
    | succ K ih =>
      intro hK
      unfold sumK
      rw [ih (by omega)]
      have := cnt_wf n K (n - p.length) p 0 K (by omega) (by omega) (by omega) (by omega)
      rw [show n - p.length + p.length = n by omega, Nat.sub_zero] at this
      rw [this]
  exact key (n + 1) (by omega)
end Qq
namespace Qq
open Go Go.Vt Pt
set_option linter.unusedVariables false
set_option linter.unusedSimpArgs false
theorem Equal_int_l4_ev (xs ys : List Int) (hx : xs.length ≤ maxLen) (hy : ys.length ≤ maxLen) : ∀ (r s : List Int) (i : Nat), xs.drop i = r → ys.drop i = s → s.length = r.length → Ev (fun k => slices_Equal_int_l4 k xs ys (xs.length : Int) (i : Int)) (r == s)
  | [], [], i, h1, h2, hl => by
    have a := at_nil h1
    refine Ev.step (fun k => slices_Equal_int_l4_eq k xs ys _ i) ?_
    simp only [a.g, cond_false]
    exact Ev.pure _
  | x :: r, y :: s, i, h1, h2, hl => by
    have a := at_cons h1 hx
    have b := at_cons h2 hy
    refine Ev.step (fun k => slices_Equal_int_l4_eq k xs ys _ i) ?_
    simp only [a.g, a.z, b.g, a.get, b.get, a.w, cond_true]
    have ih := Equal_int_l4_ev xs ys hx hy r s (i + 1) a.next b.next (by simpa using hl)
    refine Ev.ite (fun h => Ev.some ?_) (fun h => ih.to ?_)
    · have : ¬ x = y := by simpa using h
      simp [this]
    · have : x = y := by simpa using h
      simp [this]
  | [], _ :: _, _, _, _, hl => by simp at hl
  | _ :: _, [], _, _, _, hl => by simp at hl
theorem Equal_int_ev (xs ys : List Int) (hx : xs.length ≤ maxLen) (hy : ys.length ≤ maxLen) : Ev (fun k => slices_Equal_int k (xs, ys)) (xs == ys) := by
  refine Ev.step (fun k => slices_Equal_int_eq k xs ys) (Ev.ite (fun h => Ev.some ?_) (fun h => Equal_int_l4_ev xs ys hx hy xs ys 0 rfl rfl ?_))
  · have h' : ¬ xs.length = ys.length := by simp at h; omega
    have : ¬ xs = ys := fun e => h' (by rw [e])
    simp [this]
  · simp at h; omega
end Qq
namespace Qq
open Go Go.Vt Pt
set_option linter.unusedVariables false
set_option linter.unusedSimpArgs false
theorem binom_step : ∀ m, m < 13 → ∀ i, i < 13 → m + i + 1 ≤ 12 → binom (m + i) i * (m + (i + 1)) / (i + 1) = binom (m + i + 1) (i + 1) ∧ binom (m + i) i ≤ 924 ∧ binom (m + i + 1) (i + 1) ≤ 924 := by decide
theorem choose_l3_ev (N K : Nat) (hK : K ≤ N) (hN : N ≤ 12) : ∀ (d i : Nat), i + d = K → Ev (fun k => s_l19Choose_l3 k (N : Int) (K : Int) (binom (N - K + i) i : Nat) ((i + 1 : Nat) : Int)) (binom N K : Nat)
  | 0, i, h => by
    refine Ev.step (fun k => s_l19Choose_l3_eq k _ _ _ _) (Ev.no (by simp; omega) (Ev.some ?_))
    have : i = K := by omega
    subst this
    rw [show N - i + i = N by omega]
  | d + 1, i, h => by
    obtain ⟨b1, b2, b3⟩ := binom_step (N - K) (by omega) i (by omega) (by omega)
    have hb : binom (N - K + i) i * (N - K + (i + 1)) ≤ 924 * 12 := Nat.mul_le_mul b2 (by omega)
    refine Ev.step (fun k => s_l19Choose_l3_eq k _ _ _ _) (Ev.yes (by simp; omega) (Ev.yes (by simp; omega) ?_))
    have e1 : IntKind.i64.wrap ((N : Int) - (K : Int)) = ((N - K : Nat) : Int) := by rw [wrap_id (by omega) (by omega)]; omega
    have e2 : IntKind.i64.wrap (((N - K : Nat) : Int) + ((i + 1 : Nat) : Int)) = ((N - K + (i + 1) : Nat) : Int) := by rw [wrap_id (by omega) (by omega)]; simp
    have e3 : IntKind.i64.wrap (((binom (N - K + i) i : Nat) : Int) * ((N - K + (i + 1) : Nat) : Int)) = ((binom (N - K + i) i * (N - K + (i + 1)) : Nat) : Int) := by
      rw [← Int.natCast_mul, wrap_id (by omega) (by omega)]
    have e4 : IntKind.i64.wrap ((((binom (N - K + i) i * (N - K + (i + 1)) : Nat) : Int)).tdiv ((i + 1 : Nat) : Int)) = ((binom (N - K + (i + 1)) (i + 1) : Nat) : Int) := by
      rw [← Int.ofNat_tdiv, b1, wrap_id (by omega) (by omega)]; rfl
    have e5 : IntKind.i64.wrap (((i + 1 : Nat) : Int) + 1) = ((i + 1 + 1 : Nat) : Int) := by rw [wrap_id (by omega) (by omega)]; simp
    simp only [e1, e2, e3, e4, e5]
    exact choose_l3_ev N K hK hN d (i + 1) (by omega)
theorem choose_ev (N K : Nat) (hK : K ≤ N) (hN : N ≤ 12) : Ev (fun k => s_l19Choose k ((N : Int), (K : Int))) (binom N K : Nat) := by
  refine Ev.step (fun k => s_l19Choose_eq k _ _) ?_
  have := choose_l3_ev N K hK hN K 0 (by omega)
  simpa [binom] using this
theorem l19Ways_l4_ev (n K : Nat) (p : List Int) (hn : n ≤ 12) (hK : K ≤ n) (hp : p.length ≤ n) : ∀ (r : List Int) (i a b : Nat), p.drop i = r → a ≤ K → K ≤ b → b ≤ n → (K - a) + (n - b) = n - p.length + r.length →
    Ev (fun k => s_l19Ways_l4 k (n : Int) (K : Int) p (a : Int) (b : Int) p (p.length : Int) (i : Int)) (wf n K (n - p.length) a b r : Nat)
  | [], i, a, b, h, h1, h2, h3, h4 => by
    have q := at_nil h
    refine Ev.step (fun k => s_l19Ways_l4_eq k _ _ _ _ _ _ _ _) ?_
    simp only [q.g, cond_false]
    rw [wrap_id (by omega) (by omega), wrap_id (by omega) (by omega)]
    have e1 : (n : Int) - (p.length : Int) = ((n - p.length : Nat) : Int) := by omega
    have e2 : (K : Int) - (a : Int) = ((K - a : Nat) : Int) := by omega
    rw [e1, e2]
    simp only [List.length_nil] at h4
    refine Ev.bind (choose_ev (n - p.length) (K - a) (by omega) (by omega)) (Ev.some ?_)
    unfold wf; rfl
  | x :: r, i, a, b, h, h1, h2, h3, h4 => by
    have q := at_cons h (by rw [maxLen_eq]; omega)
    simp only [List.length_cons] at h4
    refine Ev.step (fun k => s_l19Ways_l4_eq k _ _ _ _ _ _ _ _) ?_
    simp only [q.g, q.z, q.get, q.gt, q.w, cond_true]
    rw [wrap_id (x := (a : Int) + 1) (by omega) (by omega), wrap_id (x := (b : Int) + 1) (by omega) (by omega)]
    unfold wf
    refine Ev.ite (fun c1 => Ev.ite (fun c2 => ?_) (fun c2 => Ev.ite (fun c3 => Ev.ite (fun c4 => ?_) (fun c4 => Ev.some ?_)) (fun c3 => Ev.some ?_))) (fun c1 => Ev.ite (fun c3 => Ev.ite (fun c4 => ?_) (fun c4 => Ev.some ?_)) (fun c3 => Ev.some ?_))
    · have d1 : x = (a : Int) := by simpa using c1
      have d2 : a < K := by simpa using c2
      rw [if_pos ⟨d1, d2⟩]
      exact l19Ways_l4_ev n K p hn hK hp r (i + 1) (a + 1) b q.next (by omega) h2 h3 (by omega)
    · have d1 : x = (a : Int) := by simpa using c1
      have d2 : ¬ a < K := by simpa using c2
      have d3 : x = (b : Int) := by simpa using c3
      have d4 : b < n := by simpa using c4
      rw [if_neg (fun e => d2 e.2), if_pos ⟨d3, d4⟩]
      exact l19Ways_l4_ev n K p hn hK hp r (i + 1) a (b + 1) q.next h1 (by omega) (by omega) (by omega)
    · have d2 : ¬ a < K := by simpa using c2
      have d4 : ¬ b < n := by simpa using c4
      rw [if_neg (fun e => d2 e.2), if_neg (fun e => d4 e.2)]; rfl
    · have d2 : ¬ a < K := by simpa using c2
      have d3 : ¬ x = (b : Int) := by simpa using c3
      rw [if_neg (fun e => d2 e.2), if_neg (fun e => d3 e.1)]; rfl
    · have d1 : ¬ x = (a : Int) := by simpa using c1
      have d3 : x = (b : Int) := by simpa using c3
      have d4 : b < n := by simpa using c4
      rw [if_neg (fun e => d1 e.1), if_pos ⟨d3, d4⟩]
      exact l19Ways_l4_ev n K p hn hK hp r (i + 1) a (b + 1) q.next h1 (by omega) (by omega) (by omega)
    · have d1 : ¬ x = (a : Int) := by simpa using c1
      have d4 : ¬ b < n := by simpa using c4
      rw [if_neg (fun e => d1 e.1), if_neg (fun e => d4 e.2)]; rfl
    · have d1 : ¬ x = (a : Int) := by simpa using c1
      have d3 : ¬ x = (b : Int) := by simpa using c3
      rw [if_neg (fun e => d1 e.1), if_neg (fun e => d3 e.1)]; rfl
theorem l19Ways_ev (n K : Nat) (p : List Int) (hn : n ≤ 12) (hK : K ≤ n) (hp : p.length ≤ n) : Ev (fun k => s_l19Ways k ((n : Int), (K : Int), p)) (wf n K (n - p.length) 0 K p : Nat) :=
  Ev.step (fun k => s_l19Ways_eq k _ _ _) (l19Ways_l4_ev n K p hn hK hp p 0 0 K rfl (by omega) (by omega) hK (by omega))
theorem wf_le (n K : Nat) (p : List Int) (hn : n ≤ 12) (hK : K ≤ n) (hp : p.length ≤ n) : wf n K (n - p.length) 0 K p ≤ 4096 := by
  have h1 := cnt_wf n K (n - p.length) p 0 K (by omega) (by omega) hK (by omega)
  rw [← h1]
  unfold cnt
  refine Nat.le_trans List.countP_le_length ?_
  rw [List.length_range, show n - p.length + p.length = n by omega]
  exact Nat.pow_le_pow_right (by decide) hn
theorem s_WaysWith_l5_ev (n : Nat) (p : List Int) (hn : n ≤ 12) (hp : p.length ≤ n) : ∀ (d i : Nat), i + d = n + 1 → sumK (fun k => wf n k (n - p.length) 0 k p) i ≤ i * 4096 →
    Ev (fun k => s_WaysWith_l5 k (n : Int) p (sumK (fun k => wf n k (n - p.length) 0 k p) i : Nat) (i : Int)) (sumK (fun k => wf n k (n - p.length) 0 k p) (n + 1) : Nat)
  | 0, i, h, hb => by
    refine Ev.step (fun k => s_WaysWith_l5_eq k _ _ _ _) (Ev.no (by simp; omega) (Ev.some ?_))
    have : i = n + 1 := by omega
    rw [this]
  | d + 1, i, h, hb => by
    have hw := wf_le n i p hn (by omega) hp
    refine Ev.step (fun k => s_WaysWith_l5_eq k _ _ _ _) (Ev.yes (by simp; omega) (Ev.bind (l19Ways_ev n i p hn (by omega) hp) ?_))
    have hi : i * 4096 ≤ 13 * 4096 := Nat.mul_le_mul_right _ (by omega)
    rw [wrap_id (x := (i : Int) + 1) (by omega) (by omega), ← Int.natCast_add, wrap_id (by omega) (by omega)]
    have ih := s_WaysWith_l5_ev n p hn hp d (i + 1) (by omega) (by unfold sumK; omega)
    simpa [sumK] using ih
theorem s_WaysWith_ev (n : Int) (p : List Int) (hm : p.length ≤ maxLen) : Ev (fun k => s_WaysWith k (n, p)) (if isPre n p then (ways n.toNat p : Nat) else -1) := by
  refine Ev.step (fun k => s_WaysWith_eq k n p) (Ev.bind (s_l19Ok_ev n p hm) (Ev.ite (fun h => Ev.some ?_) (fun h => ?_)))
  · have : isPre n p = false := by simpa using h
    rw [this]; rfl
  · have hp : isPre n p = true := by simpa using h
    obtain ⟨h1, h2, h3, h4, h5⟩ := isPre_fit hp
    have en : n = ((n.toNat : Nat) : Int) := by omega
    rw [hp, if_pos rfl, ways_eq _ _ (by omega)]
    have := s_WaysWith_l5_ev n.toNat p (by omega) (by omega) (n.toNat + 1) 0 (by omega) (by simp [sumK])
    rw [← en] at this
    simpa [sumK] using this
theorem two_pow (n N : Nat) (hn : n ≤ 12) (hN : 2 ^ n = N) : IntKind.i64.wrap ((1 : Int) * 2 ^ (min ((n : Int)).toNat IntKind.i64.bits)) = (N : Int) ∧ N ≤ 4096 := by
  have hb : IntKind.i64.bits = 64 := by decide
  have h : (2 : Nat) ^ n ≤ 2 ^ 12 := Nat.pow_le_pow_right (by decide) hn
  rw [hN] at h
  rw [hb, Int.toNat_natCast, Nat.min_eq_left (by omega), Int.one_mul]
  have e : ((2 : Int) ^ n) = (N : Int) := by rw [← hN]; norm_cast
  rw [e, wrap_id (by omega) (by omega)]
  exact ⟨rfl, h⟩
def wayB (n : Nat) (p : List Int) (w : Nat) : Bool := (riff (bits n w) 0 (zeros (bits n w))).take p.length == p
end Qq
namespace Qq
open Go Go.Vt Pt
set_option linter.unusedVariables false
set_option linter.unusedSimpArgs false
/-- The ways with each next card; none where there is no next card. -/
def nextWays (n : Nat) (p : List Int) : List Int := (List.range n).map fun (x : Nat) => ((ways n (p ++ [(x : Int)]) : Nat) : Int)
def nextList (n : Int) (p : List Int) : List Int := if isPre n p then (if (p.length : Int) = n then [] else nextWays n.toNat p) else []
theorem riff_mem : ∀ (l : List Bool) (a b : Nat) (y : Int), y ∈ riff l a b → ((a : Int) ≤ y ∧ y < (a : Int) + zeros l) ∨ (b : Int) ≤ y
  | [], a, b, y, h => by simp [riff] at h
  | false :: l, a, b, y, h => by
    have hz : zeros (false :: l) = zeros l + 1 := by simp [zeros]
    rcases List.mem_cons.1 (show y ∈ (a : Int) :: riff l (a + 1) b from h) with e | h
    · left; omega
    · rcases riff_mem l (a + 1) b y h with h1 | h1
      · left; omega
      · right; exact h1
  | true :: l, a, b, y, h => by
    have hz : zeros (true :: l) = zeros l := by simp [zeros]
    rcases List.mem_cons.1 (show y ∈ (b : Int) :: riff l a (b + 1) from h) with e | h
    · right; omega
    · rcases riff_mem l a (b + 1) y h with h1 | h1
      · left; omega
      · right; omega
theorem riff_nodup : ∀ (l : List Bool) (a b : Nat), a + zeros l ≤ b → (riff l a b).Nodup
  | [], a, b, _ => by simp [riff]
  | false :: l, a, b, h => by
    have hz : zeros (false :: l) = zeros l + 1 := by simp [zeros]
    show ((a : Int) :: riff l (a + 1) b).Nodup
    refine List.nodup_cons.2 ⟨fun hm => ?_, riff_nodup l (a + 1) b (by omega)⟩
    rcases riff_mem l (a + 1) b _ hm with h1 | h1 <;> omega
  | true :: l, a, b, h => by
    have hz : zeros (true :: l) = zeros l := by simp [zeros]
    show ((b : Int) :: riff l a (b + 1)).Nodup
    refine List.nodup_cons.2 ⟨fun hm => ?_, riff_nodup l a (b + 1) (by omega)⟩
    rcases riff_mem l a (b + 1) _ hm with h1 | h1 <;> omega
theorem ways_twice (n : Nat) (p : List Int) (x : Int) (h : x ∈ p) : ways n (p ++ [x]) = 0 := by
  refine cnt_none (fun l _ => ?_)
  rw [Bool.eq_false_iff]
  intro hb
  have e : (riff l 0 (zeros l)).take (p ++ [x]).length = p ++ [x] := by simpa using hb
  have hn := (riff_nodup l 0 (zeros l) (by omega)).sublist (List.take_sublist (p ++ [x]).length _)
  rw [e, List.nodup_append] at hn
  exact hn.2.2 x h x (by simp) rfl
theorem nextWays_take (n : Nat) (p : List Int) (i : Nat) (h : i < n) : (nextWays n p).take (i + 1) = (nextWays n p).take i ++ [((ways n (p ++ [(i : Int)]) : Nat) : Int)] := by
  have hl : i < (nextWays n p).length := by simp [nextWays, h]
  rw [List.take_succ_eq_append_getElem hl]
  simp [nextWays]
theorem nextWays_len (n : Nat) (p : List Int) : (nextWays n p).length = n := by simp [nextWays]
theorem preOk_app (n x : Int) (h0 : 0 ≤ x) (h1 : x < n) : ∀ (r done : List Int), preOk n done r = true → x ∉ done → x ∉ r → preOk n done (r ++ [x]) = true
  | [], done, _, hd, _ => by
    have : done.contains x = false := by simpa using hd
    show (decide (0 ≤ x) && (decide (x < n) && (!(done.contains x) && preOk n (done ++ [x]) []))) = true
    rw [this]
    simp [h0, h1, preOk]
  | y :: r, done, h, hd, hr => by
    unfold preOk at h
    simp only [Bool.and_eq_true, decide_eq_true_eq] at h
    have hxy : ¬ x = y := fun e => hr (by simp [e])
    have := preOk_app n x h0 h1 r (done ++ [y]) h.2.2.2 (by simp [hd, hxy]) (fun hm => hr (by simp [hm]))
    show (decide (0 ≤ y) && (decide (y < n) && (!(done.contains y) && preOk n (done ++ [y]) (r ++ [x])))) = true
    simp only [this, h.1, h.2.1, h.2.2.1, decide_true, Bool.and_true]
theorem s_NextWays_l5_ev (n : Nat) (p : List Int) (hn : 1 ≤ n) (hn2 : n ≤ 12) (hp : preOk n [] p = true) (hl : p.length < n) : ∀ (d i : Nat), i + d = n →
    Ev (fun k => s_NextWays_l5 k (n : Int) p (i : Int) ((nextWays n p).take i)) (nextWays n p)
  | 0, i, h => by
    refine Ev.step (fun k => s_NextWays_l5_eq k _ _ _ _) ?_
    rw [at_end (by omega), List.take_of_length_le (by rw [nextWays_len]; omega)]
    refine Ev.no rfl (Ev.yes ?_ (Ev.pure _))
    have : (nextWays n p).length = n := nextWays_len n p
    cases hx : nextWays n p with
    | nil => rw [hx] at this; simp at this; omega
    | cons => rfl
  | d + 1, i, h => by
    have u := at_up (n := (n : Int)) (i := i) (by omega) (by omega)
    have ih := s_NextWays_l5_ev n p hn hn2 hp hl d (i + 1) (by omega)
    rw [nextWays_take n p i (by omega)] at ih
    refine Ev.step (fun k => s_NextWays_l5_eq k _ _ _ _) ?_
    have hlt : ((nextWays n p).take i).length ≤ 12 := by rw [List.length_take, nextWays_len]; omega
    simp only [u.g, u.w, cond_true]
    refine Ev.bind (l02Has_ev p (i : Int) (by rw [maxLen_eq]; omega)) (Ev.ite (fun c => ?_) (fun c => ?_))
    · refine Ev.yes (by rw [rowMax_eq]; simp; omega) ?_
      have hm : (i : Int) ∈ p := by simpa using c
      rw [ways_twice n p _ hm] at ih
      simpa using ih
    · have hm : (i : Int) ∉ p := by simpa using c
      refine Ev.yes (by rw [rowMax_eq]; simp; omega) (Ev.yes (by rw [rowMax_eq]; simp; omega) ?_)
      rw [List.nil_append]
      have hi := preOk_app n (i : Int) (by omega) (by omega) p [] hp (by simp) hm
      have hpre : isPre (n : Int) (p ++ [(i : Int)]) = true := by
        have : isPre (n : Int) (p ++ [(i : Int)]) = (decide ((1 : Int) ≤ (n : Int)) && (decide ((n : Int) ≤ 12) && preOk n [] (p ++ [(i : Int)]))) := rfl
        rw [this, hi]; simp; omega
      have hw := s_WaysWith_ev (n : Int) (p ++ [(i : Int)]) (by rw [maxLen_eq]; simp; omega)
      rw [hpre, if_pos rfl, Int.toNat_natCast] at hw
      refine Ev.bind hw (Ev.yes (by rw [rowMax_eq]; simp; omega) ih)
theorem s_NextWays_ev (n : Int) (p : List Int) (hm : p.length ≤ maxLen) : Ev (fun k => s_NextWays k (n, p)) (nextList n p) := by
  refine Ev.step (fun k => s_NextWays_eq k n p) (Ev.bind (s_l19Ok_ev n p hm) (Ev.ite (fun h => Ev.some ?_) (fun h => Ev.ite (fun h' => Ev.some ?_) (fun h' => ?_))))
  · have : isPre n p = false := by simpa using h
    simp [nextList, this]
  · have : (p.length : Int) = n := by simpa using h'
    simp [nextList, this]
  · have hp : isPre n p = true := by simpa using h
    have hne : ¬ (p.length : Int) = n := by simpa using h'
    obtain ⟨h1, h2, h3, h4, h5⟩ := isPre_fit hp
    have en : n = ((n.toNat : Nat) : Int) := by omega
    have hq : preOk n [] p = true := by unfold isPre at hp; simp only [Bool.and_eq_true] at hp; exact hp.2.2
    unfold nextList
    rw [if_pos hp, if_neg hne]
    have := s_NextWays_l5_ev n.toNat p (by omega) (by omega) (by rw [← en]; exact hq) (by omega) n.toNat 0 (by omega)
    rw [← en] at this
    simpa using this
end Qq
namespace Qq
open Go Go.Vt Pt
set_option linter.unusedVariables false
set_option linter.unusedSimpArgs false
theorem riff_lt : ∀ (l : List Bool) (a b : Nat) (y : Int), a + zeros l ≤ b → y ∈ riff l a b → 0 ≤ y ∧ y < (b : Int) + ones l
  | [], a, b, y, _, h => by simp [riff] at h
  | false :: l, a, b, y, hz, h => by
    have z1 : zeros (false :: l) = zeros l + 1 := by simp [zeros]
    have z2 : ones (false :: l) = ones l := by simp [ones]
    rcases List.mem_cons.1 (show y ∈ (a : Int) :: riff l (a + 1) b from h) with e | h
    · omega
    · have := riff_lt l (a + 1) b y (by omega) h; omega
  | true :: l, a, b, y, hz, h => by
    have z1 : zeros (true :: l) = zeros l := by simp [zeros]
    have z2 : ones (true :: l) = ones l + 1 := by simp [ones]
    rcases List.mem_cons.1 (show y ∈ (b : Int) :: riff l a (b + 1) from h) with e | h
    · omega
    · have := riff_lt l a (b + 1) y (by omega) h; omega
/-- The riffle by the bits of w. -/
def rw_ (n w : Nat) : List Int := riff (bits n w) 0 (zeros (bits n w))
theorem rw_len (n w : Nat) : (rw_ n w).length = n := by rw [rw_, riff_len, bits_len]
theorem rw_lt (n w i : Nat) (h : i < n) : ∃ c : Nat, c < n ∧ (rw_ n w)[i]? = some (c : Int) := by
  have hl : i < (rw_ n w).length := by rw [rw_len]; exact h
  have := riff_lt (bits n w) 0 (zeros (bits n w)) (rw_ n w)[i] (by omega) (List.getElem_mem hl)
  have z := zo (bits n w)
  rw [bits_len] at z
  refine ⟨(rw_ n w)[i].toNat, by omega, ?_⟩
  rw [List.getElem?_eq_getElem hl]
  congr 1; omega
theorem way_next (n w : Nat) (p : List Int) (hl : p.length < n) (c : Nat) (hc : (rw_ n w)[p.length]? = some (c : Int)) (x : Nat) : wayB n (p ++ [(x : Int)]) w = (wayB n p w && (x == c)) := by
  have hlt : p.length < (rw_ n w).length := by rw [rw_len]; exact hl
  have e : (rw_ n w).take (p.length + 1) = (rw_ n w).take p.length ++ [(c : Int)] := by
    rw [List.take_succ_eq_append_getElem hlt]
    rw [List.getElem?_eq_getElem hlt] at hc
    injection hc with hc
    rw [hc]
  show ((rw_ n w).take (p ++ [(x : Int)]).length == p ++ [(x : Int)]) = ((rw_ n w).take p.length == p && (x == c))
  rw [List.length_append, List.length_singleton, e, Bool.eq_iff_iff]
  simp only [beq_iff_eq, Bool.and_eq_true]
  constructor
  · intro h
    have := List.append_inj h (by rw [List.length_take]; omega)
    refine ⟨this.1, ?_⟩
    have h2 := this.2
    simp at h2; omega
  · rintro ⟨h1, h2⟩
    rw [h1, h2]
def partWays (n : Nat) (p : List Int) (i : Nat) : List Int := (List.range n).map fun (x : Nat) => (((List.range i).countP (wayB n (p ++ [(x : Int)])) : Nat) : Int)
theorem partWays_len (n : Nat) (p : List Int) (i : Nat) : (partWays n p i).length = n := by simp [partWays]
theorem partWays_get (n : Nat) (p : List Int) (i x : Nat) (h : x < n) : (partWays n p i)[x]? = some (((List.range i).countP (wayB n (p ++ [(x : Int)])) : Nat) : Int) := by simp [partWays, h]
theorem partWays_next (n : Nat) (p : List Int) (i : Nat) (hl : p.length < n) (c : Nat) (hc : (rw_ n i)[p.length]? = some (c : Int)) (hcn : c < n) (hw : wayB n p i = true) : (partWays n p i).set c ((partWays n p i).getD c 0 + 1) = partWays n p (i + 1) := by
  apply List.ext_getElem?
  intro x
  rw [List.getElem?_set]
  by_cases hx : x < n
  · rw [partWays_get n p (i + 1) x hx, List.range_succ, List.countP_append, List.countP_singleton, way_next n i p hl c hc x, hw]
    by_cases e : c = x
    · subst e
      have hg : (partWays n p i).getD c 0 = (((List.range i).countP (wayB n (p ++ [(c : Int)])) : Nat) : Int) := by rw [List.getD, partWays_get n p i c hx]; rfl
      rw [if_pos rfl, hg, partWays_len, if_pos hx]
      simp
    · have : ¬ x = c := fun h => e h.symm
      simp [e, this, partWays_get n p i x hx]
  · have h1 : ¬ c = x := by omega
    rw [if_neg h1, List.getElem?_eq_none (by rw [partWays_len]; omega), List.getElem?_eq_none (by rw [partWays_len]; omega)]
theorem partWays_same (n : Nat) (p : List Int) (i : Nat) (hl : p.length < n) (hw : wayB n p i = false) : partWays n p i = partWays n p (i + 1) := by
  unfold partWays
  apply List.map_congr_left
  intro x hx
  obtain ⟨c, hcn, hc⟩ := rw_lt n i p.length hl
  rw [List.range_succ, List.countP_append, List.countP_singleton, way_next n i p hl c hc x, hw]
  simp
theorem i_NextWays_l5_ev (n N : Nat) (p : List Int) (h1 : 1 ≤ n) (hn : n ≤ 12) (hN : 2 ^ n = N) (hp : p.length < n) : ∀ (d i : Nat), i + d = N →
    Ev (fun k => i_NextWays_l5 k (n : Int) p (i : Int) (upTo n) (partWays n p i)) (nextWays n p) := by
  obtain ⟨hpow, hle⟩ := two_pow n N hn hN
  intro d
  induction d with
  | zero =>
    intro i h
    refine Ev.step (fun k => i_NextWays_l5_eq k _ _ _ _ _) (Ev.yes (by simp) (Ev.no (by rw [hpow]; simp; omega) (Ev.yes ?_ (Ev.some ?_))))
    · have := partWays_len n p i
      cases hx : partWays n p i with
      | nil => rw [hx] at this; simp at this; omega
      | cons => rfl
    · have e : i = N := by omega
      rw [e, ← hN]; rfl
  | succ d ih =>
    intro i h
    obtain ⟨c, hcn, hc⟩ := rw_lt n i p.length hp
    have hg : ∀ dd, (rw_ n i).getD p.length dd = (c : Int) := fun dd => by rw [List.getD, hc]; rfl
    refine Ev.step (fun k => i_NextWays_l5_eq k _ _ _ _ _) (Ev.yes (by simp) (Ev.yes (by rw [hpow]; simp; omega) (Ev.bind (i_riffled_ev n i hn (by omega)) (Ev.yes (by simp) (Ev.yes (by rw [riff_len, bits_len]; simp; omega) ?_)))))
    rw [Int.toNat_natCast, List.drop_zero]
    refine Ev.bind (Equal_int_ev _ _ (by rw [List.length_take, maxLen_eq]; omega) (by rw [maxLen_eq]; omega)) ?_
    rw [wrap_id (x := (i : Int) + 1) (by omega) (by omega)]
    have hrw : riff (bits n i) 0 (zeros (bits n i)) = rw_ n i := rfl
    rw [hrw, hg 0, Int.toNat_natCast]
    have hin : wayB n p i = ((rw_ n i).take p.length == p) := rfl
    have ih' := ih (i + 1) (by omega)
    refine Ev.ite (fun cc => ?_) (fun cc => ?_)
    · rw [← hin] at cc
      have hnum : (partWays n p i).getD c 0 ≤ i := by
        rw [List.getD, partWays_get n p i c hcn]
        have := List.countP_le_length (p := wayB n (p ++ [(c : Int)])) (l := List.range i)
        simp at this ⊢; omega
      have hnum2 : 0 ≤ (partWays n p i).getD c 0 := by
        rw [List.getD, partWays_get n p i c hcn]; simp
      have L := partWays_len n p i
      refine Ev.yes (by simp) (Ev.yes (by rw [rw_len]; simp; omega) (Ev.yes (by simp) (Ev.yes (by rw [L]; simp; omega) (Ev.yes (by rw [L]; simp; omega) (Ev.yes (by simp) (Ev.yes (by rw [L]; simp; omega) (Ev.yes (by rw [L]; simp; omega) ?_)))))))
      rw [wrap_id (by omega) (by omega), partWays_next n p i hp c hc hcn cc]
      exact_mod_cast ih'
    · rw [← hin] at cc
      rw [partWays_same n p i hp cc]
      exact_mod_cast ih'
theorem i_NextWays_ev (n : Int) (p : List Int) (hm : p.length ≤ maxLen) : Ev (fun k => i_NextWays k (n, p)) (nextList n p) := by
  refine Ev.step (fun k => i_NextWays_eq k n p) (Ev.bind (i_isPrefix_ev n p hm) (Ev.ite (fun h => Ev.some ?_) (fun h => Ev.ite (fun h' => Ev.some ?_) (fun h' => ?_))))
  · have : isPre n p = false := by simpa using h
    simp [nextList, this]
  · have : (p.length : Int) = n := by simpa using h'
    simp [nextList, this]
  · have hp : isPre n p = true := by simpa using h
    have hne : ¬ (p.length : Int) = n := by simpa using h'
    obtain ⟨h1, h2, h3, h4, h5⟩ := isPre_fit hp
    have en : n = ((n.toNat : Nat) : Int) := by omega
    unfold nextList
    rw [if_pos hp, if_neg hne]
    have hu := i_upTo_ev n.toNat (by omega)
    rw [← en] at hu
    refine Ev.bind hu (Ev.yes (by simp; omega) (Ev.yes (by rw [rowMax_eq]; simp; omega) (Ev.yes (by simp) ?_)))
    have := i_NextWays_l5_ev n.toNat _ p (by omega) (by omega) rfl (by omega) (2 ^ n.toNat) 0 (by omega)
    have e0 : partWays n.toNat p 0 = List.replicate n.toNat 0 := by
      apply List.ext_getElem?
      intro x
      simp [partWays, List.getElem?_replicate]
      by_cases hx : x < n.toNat
      · simp [hx]; omega
      · simp [hx]; omega
    rw [e0, ← en] at this
    simpa using this
end Qq
namespace Qq
open Go Go.Vt Pt
set_option linter.unusedVariables false
set_option linter.unusedSimpArgs false
def mx (v y : Int) : Int := bif decide (y > v) then y else v
def maxF (v : Int) (r : List Int) : Int := r.foldl mx v
theorem mx_ge (v y : Int) : v ≤ mx v y ∧ y ≤ mx v y ∧ (mx v y = v ∨ mx v y = y) := by
  unfold mx
  by_cases h : y > v
  · simp [h]; omega
  · simp [h]; omega
theorem maxF_ge : ∀ (r : List Int) (v : Int), v ≤ maxF v r
  | [], v => by simp [maxF]
  | y :: r, v => by
    have := maxF_ge r (mx v y)
    have := mx_ge v y
    show v ≤ maxF (mx v y) r
    omega
theorem Max_int_l5_ev (xs : List Int) (hm : xs.length ≤ maxLen) : ∀ (r : List Int) (i : Nat) (v : Int), xs.drop i = r → Ev (fun k => slices_Max_int_l5 k xs v (i : Int)) (maxF v r)
  | [], i, v, h => by
    have a := at_nil h
    refine Ev.step (fun k => slices_Max_int_l5_eq k xs v i) ?_
    simp only [a.g, cond_false]
    exact Ev.pure _
  | y :: r, i, v, h => by
    have a := at_cons h hm
    refine Ev.step (fun k => slices_Max_int_l5_eq k xs v i) ?_
    simp only [a.g, a.z, a.get, a.w, cond_true]
    exact Max_int_l5_ev xs hm r (i + 1) _ a.next
theorem Max_int_ev (x : Int) (r : List Int) (hm : (x :: r).length ≤ maxLen) : Ev (fun k => slices_Max_int k (x :: r)) (maxF x r) := by
  refine Ev.step (fun k => slices_Max_int_eq k _) (Ev.no (by simp; omega) (Ev.yes (by simp) ?_))
  exact Max_int_l5_ev (x :: r) hm r 1 x rfl
end Qq
namespace Qq
open Go Go.Vt Pt
set_option linter.unusedVariables false
set_option linter.unusedSimpArgs false
/-- The first place of a number greater than all ahead, and than most. -/
def bestF : Int → Int → Nat → List Int → Int
  | b, _, _, [] => b
  | b, m, i, y :: r => if y > m then bestF i y (i + 1) r else bestF b m (i + 1) r
theorem bestF_eq : ∀ (r : List Int) (b m : Int) (i : Nat), bestF b m i r = if maxF m r > m then idx (maxF m r) i r else b
  | [], b, m, i => by simp [bestF, maxF]
  | y :: r, b, m, i => by
    unfold bestF idx
    show _ = if maxF (mx m y) r > m then _ else b
    have hf : maxF m (y :: r) = maxF (mx m y) r := rfl
    rw [hf]
    by_cases h : y > m
    · have e : mx m y = y := by unfold mx; simp [h]
      have hg := maxF_ge r y
      rw [if_pos h, e, bestF_eq r i y (i + 1), if_pos (show maxF y r > m by omega)]
      by_cases h2 : maxF y r > y
      · rw [if_pos h2, if_neg (by omega)]
      · rw [if_neg h2, if_pos (by omega)]
    · have e : mx m y = m := by unfold mx; simp [h]
      rw [if_neg h, e, bestF_eq r b m (i + 1)]
      by_cases h2 : maxF m r > m
      · rw [if_pos h2, if_pos h2, if_neg (by omega)]
      · rw [if_neg h2, if_neg h2]
theorem s_BestGuess_l4_ev (xs : List Int) (hm : xs.length ≤ maxLen) : ∀ (r : List Int) (i : Nat) (b m : Int), xs.drop i = r → Ev (fun k => s_BestGuess_l4 k b m (xs.length : Int) (i : Int) xs) (bestF b m i r)
  | [], i, b, m, h => by
    have a := at_nil h
    refine Ev.step (fun k => s_BestGuess_l4_eq k _ _ _ _ _) ?_
    simp only [a.g, cond_false]
    exact Ev.pure _
  | y :: r, i, b, m, h => by
    have a := at_cons h hm
    refine Ev.step (fun k => s_BestGuess_l4_eq k _ _ _ _ _) ?_
    simp only [a.g, a.z, a.n, a.get, a.w, cond_true]
    unfold bestF
    refine Ev.ite (fun c => ?_) (fun c => ?_)
    · have c' : y > m := by simpa using c
      rw [if_pos c']
      exact s_BestGuess_l4_ev xs hm r (i + 1) i y a.next
    · have c' : ¬ y > m := by simpa using c
      rw [if_neg c']
      exact s_BestGuess_l4_ev xs hm r (i + 1) b m a.next
def bestGuess (n : Int) (p : List Int) : Int := bestF (-1) 0 0 (nextList n p)
theorem nextList_len (n : Int) (p : List Int) : (nextList n p).length ≤ 12 := by
  unfold nextList
  split
  · rename_i h
    have := isPre_fit h
    split
    · simp
    · rw [nextWays_len]; omega
  · simp
theorem nextList_pos (n : Int) (p : List Int) : ∀ x ∈ nextList n p, 0 ≤ x := by
  unfold nextList nextWays
  intro x hx
  split at hx
  · split at hx
    · cases hx
    · obtain ⟨y, _, rfl⟩ := List.mem_map.1 hx
      simp
  · cases hx
theorem s_BestGuess_ev (n : Int) (p : List Int) (hm : p.length ≤ maxLen) : Ev (fun k => s_BestGuess k (n, p)) (bestGuess n p) :=
  Ev.step (fun k => s_BestGuess_eq k n p) (Ev.bind (s_NextWays_ev n p hm) (s_BestGuess_l4_ev _ (by have := nextList_len n p; rw [maxLen_eq]; omega) _ 0 _ _ rfl))
theorem i_BestGuess_ev (n : Int) (p : List Int) (hm : p.length ≤ maxLen) : Ev (fun k => i_BestGuess k (n, p)) (bestGuess n p) := by
  refine Ev.step (fun k => i_BestGuess_eq k n p) (Ev.bind (i_NextWays_ev n p hm) ?_)
  have hl := nextList_len n p
  have hp := nextList_pos n p
  unfold bestGuess
  rw [bestF_eq]
  revert hl hp
  cases nextList n p with
  | nil => intro _ _; exact Ev.yes rfl (Ev.some rfl)
  | cons x r =>
    intro hl hp
    have hm' : (x :: r).length ≤ maxLen := by rw [maxLen_eq]; omega
    have hx : 0 ≤ x := hp x (by simp)
    have e : maxF 0 (x :: r) = maxF x r := by
      show maxF (mx 0 x) r = _
      have : mx 0 x = x := by unfold mx; by_cases h : x > 0 <;> simp [h]; omega
      rw [this]
    have hg := maxF_ge r x
    rw [e]
    refine Ev.no rfl (Ev.bind (Max_int_ev x r hm') (Ev.ite (fun c => Ev.some ?_) (fun c => Ev.bind (Max_int_ev x r hm') (Ev.bind (Index_int_ev _ _ hm') (Ev.some ?_)))))
    · have : maxF x r = 0 := by simpa using c
      rw [if_neg (by omega)]
    · have : ¬ maxF x r = 0 := by simpa using c
      rw [if_pos (by omega)]
end Qq
namespace Qq
open Go Go.Vt Pt
set_option linter.unusedVariables false
set_option linter.unusedSimpArgs false
def runF (a : List Int) : Nat → List Int → Int → Int
  | _, [], v => v
  | i, x :: r, v => runF a (i + 1) r (if bestGuess a.length (a.take i) = x then IntKind.i64.wrap (v + 1) else v)
theorem s_GuessRun_l5_ev (a : List Int) (hm : a.length ≤ 8) : ∀ (r : List Int) (i : Nat) (v : Int), a.drop i = r → Ev (fun k => s_GuessRun_l5 k a v a (a.length : Int) (i : Int)) (runF a i r v)
  | [], i, v, h => by
    have q := at_nil h
    refine Ev.step (fun k => s_GuessRun_l5_eq k _ _ _ _ _) ?_
    simp only [q.g, cond_false]
    exact Ev.pure _
  | x :: r, i, v, h => by
    have q := at_cons h (by rw [maxLen_eq]; omega)
    have hlt := q.lt
    refine Ev.step (fun k => s_GuessRun_l5_eq k _ _ _ _ _) ?_
    simp only [q.g, q.z, q.get, q.w, cond_true]
    unfold runF
    refine Ev.yes (by simp; omega) ?_
    rw [List.drop_zero, Int.toNat_natCast]
    refine Ev.bind (s_BestGuess_ev _ _ (by rw [maxLen_eq, List.length_take]; omega)) (Ev.ite (fun c => ?_) (fun c => ?_))
    · rw [if_pos (by simpa using c)]
      exact s_GuessRun_l5_ev a hm r (i + 1) _ q.next
    · rw [if_neg (by simpa using c)]
      exact s_GuessRun_l5_ev a hm r (i + 1) _ q.next
theorem i_GuessRun_l5_ev (a : List Int) (hm : a.length ≤ 8) : ∀ (r : List Int) (i : Nat) (v : Int), a.drop i = r → Ev (fun k => i_GuessRun_l5 k a v a (a.length : Int) (i : Int)) (runF a i r v)
  | [], i, v, h => by
    have q := at_nil h
    refine Ev.step (fun k => i_GuessRun_l5_eq k _ _ _ _ _) ?_
    simp only [q.g, cond_false]
    exact Ev.pure _
  | x :: r, i, v, h => by
    have q := at_cons h (by rw [maxLen_eq]; omega)
    have hlt := q.lt
    refine Ev.step (fun k => i_GuessRun_l5_eq k _ _ _ _ _) ?_
    simp only [q.g, q.z, q.get, q.w, cond_true]
    unfold runF
    refine Ev.yes (by simp; omega) ?_
    rw [List.drop_zero, Int.toNat_natCast]
    refine Ev.bind (i_BestGuess_ev _ _ (by rw [maxLen_eq, List.length_take]; omega)) (Ev.ite (fun c => ?_) (fun c => ?_))
    · rw [if_pos (by simpa using c)]
      exact i_GuessRun_l5_ev a hm r (i + 1) _ q.next
    · rw [if_neg (by simpa using c)]
      exact i_GuessRun_l5_ev a hm r (i + 1) _ q.next
def guessRun (a : List Int) : Int := if isRiffle a = true ∧ 1 ≤ a.length ∧ a.length ≤ 8 then runF a 0 a 0 else -1
theorem s_GuessRun_ev (a : List Int) (hm : a.length ≤ maxLen) : Ev (fun k => s_GuessRun k a) (guessRun a) := by
  unfold guessRun
  refine Ev.step (fun k => s_GuessRun_eq k a) (Ev.bind (s_IsRiffle_ev a hm) (Ev.ite (fun h => Ev.some ?_) (fun h => Ev.bind (l01In_ev _ _ _) (Ev.ite (fun h2 => Ev.some ?_) (fun h2 => ?_)))))
  · have : isRiffle a = false := by simpa using h
    rw [if_neg (by rw [this]; simp)]
  · rw [if_neg (by simp at h2; omega)]
  · have e : isRiffle a = true := by simpa using h
    have hl : 1 ≤ (a.length : Int) ∧ (a.length : Int) ≤ 8 := by simpa using h2
    rw [if_pos ⟨e, by omega, by omega⟩]
    exact s_GuessRun_l5_ev a (by omega) a 0 0 rfl
theorem i_GuessRun_ev (a : List Int) (hm : a.length ≤ maxLen) : Ev (fun k => i_GuessRun k a) (guessRun a) := by
  unfold guessRun
  refine Ev.step (fun k => i_GuessRun_eq k a) (Ev.bind (i_IsRiffle_ev a hm) (Ev.ite (fun h => Ev.some ?_) (fun h => Ev.ite (fun h2 => Ev.some ?_) (fun h2 => Ev.ite (fun h3 => Ev.some ?_) (fun h3 => ?_)))))
  · have : isRiffle a = false := by simpa using h
    rw [if_neg (by rw [this]; simp)]
  · rw [if_neg (by simp at h2; omega)]
  · rw [if_neg (by simp at h3; omega)]
  · have e : isRiffle a = true := by simpa using h
    rw [if_pos ⟨e, by simp at h2; omega, by simp at h3; omega⟩]
    exact i_GuessRun_l5_ev a (by simp at h3; omega) a 0 0 rfl
theorem FnExactGuessRun_ev (a : List Int) (f0 : Fits (.slice (.int .i64)) a) : Ev (fun k => w_FnExactGuessRun k a) true := by
  have hm : a.length ≤ maxLen := f0.1
  refine Ev.step (fun k => w_FnExactGuessRun_eq k a) (Ev.ite (fun h => Ev.pure _) (fun h => ?_))
  have hp : a.length ≤ 1048576 := by simp at h; omega
  refine Ev.bind (toIntS_ev a hp) (Ev.bind (s_GuessRun_ev a hm) (Ev.bind (toIntS_ev a hp) (Ev.bind (i_GuessRun_ev a hm) (Ev.no (by simp) ?_))))
  exact Ev.bind (toIntS_ev a hp) (Ev.bind (eqIntS_ev a a hm hm) (Ev.no (by simp) (Ev.pure _)))
end Qq
