/-
  Lists of lists weighed, copied and compared.
  Conditions: lengths are such as a machine bears.
-/
import Derived.Test.YtghbmnhaalpjeaaQb
namespace Qq
open Go Go.Vt Pt
set_option linter.unusedVariables false
set_option linter.unusedSimpArgs false
def szL : List (List Int) → Int → Int
  | [], n => n
  | x :: r, n => if n - (x.length : Int) < 0 then -1 else szL r (n - x.length)
def szSS (l : List (List Int)) (n : Int) : Int := if n - (l.length : Int) < 0 then -1 else szL l (n - l.length)
theorem szIntSS_l5_ev (l : List (List Int)) (hl : l.length ≤ maxLen) (hi : ∀ p ∈ l, p.length ≤ maxLen) : ∀ (r : List (List Int)) (i : Nat) (n : Int), l.drop i = r → 0 ≤ n → n ≤ 1048576 → Ev (fun k => w_szIntSS_l5 k l n (i : Int)) (szL r n)
  | [], i, n, h, h1, h2 => by
    have a := at_nil h
    refine Ev.step (fun k => w_szIntSS_l5_eq k _ _ _) ?_
    simp only [a.g, cond_false]
    exact Ev.pure _
  | x :: r, i, n, h, h1, h2 => by
    have a := at_cons h hl
    refine Ev.step (fun k => w_szIntSS_l5_eq k _ _ _) ?_
    simp only [a.g, a.z, a.get, a.w, cond_true]
    unfold szL
    refine Ev.bind (szIntS_ev x n (hi x a.mem) h1 h2) ?_
    by_cases c : n - (x.length : Int) < 0
    · rw [if_pos c, if_pos c]; exact Ev.yes rfl (Ev.pure _)
    · rw [if_neg c, if_neg c]
      exact Ev.no (by simpa using c) (szIntSS_l5_ev l hl hi r (i + 1) _ a.next (by omega) (by omega))
theorem szIntSS_ev (l : List (List Int)) (n : Int) (hl : l.length ≤ maxLen) (hi : ∀ p ∈ l, p.length ≤ maxLen) (hn : 0 ≤ n) (hn2 : n ≤ 1048576) : Ev (fun k => w_szIntSS k (l, n)) (szSS l n) := by
  have hl' := hl
  rw [maxLen_eq] at hl'
  refine Ev.step (fun k => w_szIntSS_eq k l n) ?_
  rw [wrap_id (by omega) (by omega)]
  unfold szSS
  by_cases c : n - (l.length : Int) < 0
  · rw [if_pos c]; exact Ev.yes (by simpa using c) (Ev.pure _)
  · rw [if_neg c]; exact Ev.no (by simpa using c) (szIntSS_l5_ev l hl hi l 0 _ rfl (by omega) (by omega))
theorem szL_fit : ∀ (l : List (List Int)) (n : Int), 0 ≤ n → ¬ szL l n < 0 → szL l n ≤ n ∧ ∀ p ∈ l, (p.length : Int) ≤ n
  | [], n, h0, h => by simp [szL]
  | x :: r, n, h0, h => by
    unfold szL at *
    by_cases c : n - (x.length : Int) < 0
    · rw [if_pos c] at h; exact absurd (by decide) h
    · rw [if_neg c] at h ⊢
      obtain ⟨h1, h2⟩ := szL_fit r _ (by omega) h
      refine ⟨by omega, fun p hp => ?_⟩
      rcases List.mem_cons.1 hp with rfl | hp
      · omega
      · have := h2 p hp; omega
theorem szSS_fit {l : List (List Int)} {n : Int} (hn : n ≤ 1048576) (h0 : 0 ≤ n) (h : ¬ szSS l n < 0) : l.length ≤ 1048576 ∧ (∀ p ∈ l, p.length ≤ 1048576) ∧ 0 ≤ szSS l n ∧ szSS l n ≤ n := by
  unfold szSS at *
  by_cases c : n - (l.length : Int) < 0
  · rw [if_pos c] at h; exact absurd (by decide) h
  · rw [if_neg c] at h ⊢
    obtain ⟨h1, h2⟩ := szL_fit l _ (by omega) h
    exact ⟨by omega, fun p hp => by have := h2 p hp; omega, by omega, by omega⟩
theorem toIntSS_l3_ev (xs : List (List Int)) (hm : xs.length ≤ maxLen) (hi : ∀ p ∈ xs, p.length ≤ 1048576) : ∀ (r : List (List Int)) (i : Nat) (ys : List (List Int)), xs.drop i = r → ys.length = xs.length → ys.take i = xs.take i → Ev (fun k => w_toIntSS_l3 k xs (i : Int) ys) xs
  | [], i, ys, h, hl, ht => by
    have a := at_nil h
    refine Ev.step (fun k => w_toIntSS_l3_eq k xs i ys) ?_
    simp only [a.g, cond_false]
    have e : ys = xs := by
      have := a.ge
      rwa [List.take_of_length_le (by omega), List.take_of_length_le (by omega)] at ht
    exact Ev.some e
  | x :: r, i, ys, h, hl, ht => by
    have a := at_cons h hm
    have b1 : decide ((i : Int) < (ys.length : Int)) = true := by rw [hl]; exact a.g
    have b2 : decide ((i : Int).toNat < ys.length) = true := by rw [hl]; exact a.n
    refine Ev.step (fun k => w_toIntSS_l3_eq k xs i ys) ?_
    simp only [a.g, a.z, a.get, cond_true]
    refine Ev.bind (toIntS_ev x (hi x a.mem)) ?_
    simp only [b1, b2, a.w, cond_true]
    have hs := set_get (n := 0) (d := []) a.lt hl ht
    rw [a.gt] at hs
    exact toIntSS_l3_ev xs hm hi r (i + 1) _ a.next (by simp [hl]) (by simpa using hs)
theorem toIntSS_ev (xs : List (List Int)) (hm : xs.length ≤ 1048576) (hi : ∀ p ∈ xs, p.length ≤ 1048576) : Ev (fun k => w_toIntSS k xs) xs := by
  refine Ev.step (fun k => w_toIntSS_eq k xs) (Ev.yes (by simp) (Ev.yes (by rw [rowMax_eq]; simp; omega) (Ev.yes (by simp) ?_)))
  exact toIntSS_l3_ev xs (by rw [maxLen_eq]; omega) hi xs 0 _ rfl (by simp) (by simp)
theorem eqIntSS_l4_ev (xs ys : List (List Int)) (hx : xs.length ≤ maxLen) (hy : ys.length ≤ maxLen) (ix : ∀ p ∈ xs, p.length ≤ maxLen) (iy : ∀ p ∈ ys, p.length ≤ maxLen) : ∀ (r s : List (List Int)) (i : Nat), xs.drop i = r → ys.drop i = s → s.length = r.length → Ev (fun k => w_eqIntSS_l4 k xs ys (i : Int)) (r == s)
  | [], [], i, h1, h2, hl => by
    have a := at_nil h1
    refine Ev.step (fun k => w_eqIntSS_l4_eq k xs ys i) ?_
    simp only [a.g, cond_false]
    exact Ev.pure _
  | x :: r, y :: s, i, h1, h2, hl => by
    have a := at_cons h1 hx
    have b := at_cons h2 hy
    refine Ev.step (fun k => w_eqIntSS_l4_eq k xs ys i) ?_
    simp only [a.g, a.z, b.g, a.get, b.get, a.w, cond_true]
    have ih := eqIntSS_l4_ev xs ys hx hy ix iy r s (i + 1) a.next b.next (by simpa using hl)
    refine Ev.bind (eqIntS_ev x y (ix x a.mem) (iy y b.mem)) (Ev.ite (fun h => Ev.some ?_) (fun h => ih.to ?_))
    · have : ¬ x = y := by simpa using h
      simp [this]
    · have : x = y := by simpa using h
      simp [this]
  | [], _ :: _, _, _, _, hl => by simp at hl
  | _ :: _, [], _, _, _, hl => by simp at hl
theorem eqIntSS_ev (xs ys : List (List Int)) (hx : xs.length ≤ maxLen) (hy : ys.length ≤ maxLen) (ix : ∀ p ∈ xs, p.length ≤ maxLen) (iy : ∀ p ∈ ys, p.length ≤ maxLen) : Ev (fun k => w_eqIntSS k (xs, ys)) (xs == ys) := by
  refine Ev.step (fun k => w_eqIntSS_eq k xs ys) (Ev.ite (fun h => Ev.some ?_) (fun h => eqIntSS_l4_ev xs ys hx hy ix iy xs ys 0 rfl rfl ?_))
  · have h' : ¬ xs.length = ys.length := by simp at h; omega
    have : ¬ xs = ys := fun e => h' (by rw [e])
    simp [this]
  · simp at h; omega
end Qq
