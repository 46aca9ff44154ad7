/-
  The law FnExactGuessTotal comes to true.
  Conditions: numbers and lengths are such as a machine bears.
-/
import Derived.Test.YtghbmnhaalpjeaaQn
namespace Qq
open Go Go.Vt Pt
set_option linter.unusedVariables false
set_option linter.unusedSimpArgs false
theorem wrap_l (a b : Int) : IntKind.i64.wrap (IntKind.i64.wrap a + b) = IntKind.i64.wrap (a + b) := by
  rw [IntKind.wrap_i64, IntKind.wrap_i64, IntKind.wrap_i64]; omega
theorem wrap_r (a b : Int) : IntKind.i64.wrap (a + IntKind.i64.wrap b) = IntKind.i64.wrap (a + b) := by
  rw [IntKind.wrap_i64, IntKind.wrap_i64, IntKind.wrap_i64]; omega
/-- The sum over the places of positive numbers. -/
def tsum (T : Int → Int) : List Int → Nat → Int → Int
  | [], _, v => v
  | k :: r, i, v => tsum T r (i + 1) (if k > 0 then IntKind.i64.wrap (v + T i) else v)
theorem tsum_wrap (T : Int → Int) (a : Int) : ∀ (r : List Int) (i : Nat) (v : Int), IntKind.i64.wrap v = v → IntKind.i64.wrap (a + tsum T r i v) = tsum T r i (IntKind.i64.wrap (a + v))
  | [], i, v, _ => rfl
  | k :: r, i, v, hv => by
    unfold tsum
    by_cases h : k > 0
    · rw [if_pos h, if_pos h, tsum_wrap T a r (i + 1) _ (by have := wrap_r 0 (v + T i); simpa using this), wrap_r, wrap_l]
      congr 2; omega
    · rw [if_neg h, if_neg h, tsum_wrap T a r (i + 1) _ hv]
def tot (n : Int) : Nat → List Int → Int
  | 0, _ => 0
  | f + 1, p => tsum (fun x => tot n f (p ++ [x])) (nextList n p) 0 (maxF 0 (nextList n p))
theorem nextList_lt (n : Int) (p : List Int) : ∀ x ∈ nextList n p, x ≤ 4096 := by
  intro x hx
  unfold nextList at hx
  split at hx
  · rename_i hp
    have h1 := isPre_fit hp
    split at hx
    · cases hx
    · have e : nextWays n.toNat p = partWays n.toNat p (2 ^ n.toNat) := rfl
      rw [e] at hx
      obtain ⟨y, _, rfl⟩ := List.mem_map.1 hx
      have := List.countP_le_length (p := wayB n.toNat (p ++ [(y : Int)])) (l := List.range (2 ^ n.toNat))
      rw [List.length_range] at this
      have : 2 ^ n.toNat ≤ 2 ^ 12 := Nat.pow_le_pow_right (by omega) (by omega)
      omega
  · cases hx
theorem maxF_lt : ∀ (r : List Int) (v : Int), (∀ x ∈ r, x ≤ 4096) → v ≤ 4096 → maxF v r ≤ 4096
  | [], v, _, h => h
  | y :: r, v, h, hv => by
    have hy := h y (by simp)
    have := mx_ge v y
    exact maxF_lt r (mx v y) (fun x hx => h x (by simp [hx])) (by omega)
theorem nextList_end {n : Int} {p : List Int} (h : n ≤ p.length) : nextList n p = [] := by
  unfold nextList
  split
  · rename_i hp
    have := isPre_fit hp
    rw [if_pos (by omega)]
  · rfl

theorem s_l19Total_ev (n : Int) : ∀ (f : Nat) (p : List Int), n ≤ (p.length : Int) + f → p.length ≤ 13 → Ev (fun k => s_l19Total k (n, p)) (tot n f p) := by
  intro f
  induction f with
  | zero =>
    intro p h hp
    refine Ev.step (fun k => s_l19Total_eq k n p) (Ev.bind (s_NextWays_ev n p (by rw [maxLen_eq]; omega)) ?_)
    rw [nextList_end (by omega)]
    refine Ev.step (fun k => s_l19Total_l5_eq k _ _ _ _ _ _ _) (Ev.no (by simp) (Ev.some (by rw [wrap_id] <;> simp [tot])))
  | succ f ih =>
    intro p h hp
    refine Ev.step (fun k => s_l19Total_eq k n p) (Ev.bind (s_NextWays_ev n p (by rw [maxLen_eq]; omega)) ?_)
    have hl := nextList_len n p
    have hb := nextList_lt n p
    have hnil : nextList n p = [] ∨ p.length ≤ 12 := by
      by_cases e : nextList n p = []
      · exact .inl e
      · right
        unfold nextList at e
        split at e
        · rename_i hpp
          have := isPre_fit hpp; omega
        · exact absurd rfl e
    unfold tot
    revert hl hb hnil
    generalize nextList n p = xs
    intro hl hb hnil
    have loop : ∀ (r : List Int) (i : Nat) (m v : Int), xs.drop i = r → m ≤ 4096 → Ev (fun k => s_l19Total_l5 k n p m v (xs.length : Int) (i : Int) xs) (IntKind.i64.wrap (maxF m r + tsum (fun x => tot n f (p ++ [x])) r i v)) := by
      intro r
      induction r with
      | nil =>
        intro i m v h' hm
        have a := at_nil h'
        refine Ev.step (fun k => s_l19Total_l5_eq k _ _ _ _ _ _ _) ?_
        simp only [a.g, cond_false]
        exact Ev.pure _
      | cons y r ihr =>
        intro i m v h' hm
        have a := at_cons h' (by rw [maxLen_eq]; omega)
        refine Ev.step (fun k => s_l19Total_l5_eq k _ _ _ _ _ _ _) ?_
        simp only [a.g, a.z, a.n, a.get, a.w, cond_true]
        have hy : y ≤ 4096 := hb y (by have := a.lt; have e := a.get 0; rw [Int.toNat_natCast, List.getD, List.getElem?_eq_getElem this] at e; rw [← show xs[i] = y from e]; exact List.getElem_mem this)
        have hmx := mx_ge m y
        have e : maxF m (y :: r) = maxF (mx m y) r := rfl
        have hp12 : p.length ≤ 12 := by
          rcases hnil with e | e
          · rw [e] at h'; simp at h'
          · exact e
        rw [e]
        unfold tsum
        refine Ev.ite (fun c => ?_) (fun c => ?_)
        · have c' : y > 0 := by simpa using c
          rw [if_pos c']
          refine Ev.yes (by rw [rowMax_eq]; simp; omega) (Ev.yes (by rw [rowMax_eq]; simp; omega) ?_)
          rw [List.nil_append]
          refine Ev.bind (ih (p ++ [(i : Int)]) (by simp; omega) (by simp; omega)) ?_
          exact ihr (i + 1) (mx m y) _ a.next (by omega)
        · have c' : ¬ y > 0 := by simpa using c
          rw [if_neg c']
          exact ihr (i + 1) (mx m y) v a.next (by omega)
    refine (loop xs 0 0 0 rfl (by omega)).to ?_
    have h1 := maxF_lt xs 0 hb (by omega)
    have h2 := maxF_ge xs 0
    rw [tsum_wrap _ _ _ _ _ (by rw [wrap_id] <;> omega), wrap_id (x := maxF 0 xs + 0) (by omega) (by omega), Int.add_zero]
theorem Clone_int_ev (xs : List Int) (hm : xs.length ≤ 1048576) : Ev (fun k => slices_Clone_int k xs) xs := by
  refine Ev.step (fun k => slices_Clone_int_eq k xs) (Ev.ite (fun h => ?_) (fun h => ?_))
  · exact Ev.yes (by rw [rowMax_eq]; simp; omega) (Ev.some (by simp))
  · have : xs = [] := by simpa using h
    subst this
    exact Ev.both (Ev.pure _) (Ev.yes (by simp) (Ev.some rfl))
theorem i_total_ev (n : Int) : ∀ (f : Nat) (p : List Int), n ≤ (p.length : Int) + f → p.length ≤ 13 → Ev (fun k => i_total k (n, p)) (tot n f p) := by
  intro f
  induction f with
  | zero =>
    intro p h hp
    refine Ev.step (fun k => i_total_eq k n p) (Ev.bind (i_NextWays_ev n p (by rw [maxLen_eq]; omega)) ?_)
    rw [nextList_end (by omega)]
    exact Ev.yes rfl (Ev.some rfl)
  | succ f ih =>
    intro p h hp
    refine Ev.step (fun k => i_total_eq k n p) (Ev.bind (i_NextWays_ev n p (by rw [maxLen_eq]; omega)) ?_)
    have hl := nextList_len n p
    have hpos := nextList_pos n p
    have hnil : nextList n p = [] ∨ p.length ≤ 12 := by
      by_cases e : nextList n p = []
      · exact .inl e
      · right
        unfold nextList at e
        split at e
        · rename_i hpp
          have := isPre_fit hpp; omega
        · exact absurd rfl e
    unfold tot
    revert hl hpos hnil
    generalize nextList n p = xs
    intro hl hpos hnil
    have loop : ∀ (r : List Int) (i : Nat) (v : Int), xs.drop i = r → Ev (fun k => i_total_l6 k n p v (xs.length : Int) (i : Int) xs) (tsum (fun x => tot n f (p ++ [x])) r i v) := by
      intro r
      induction r with
      | nil =>
        intro i v h'
        have a := at_nil h'
        refine Ev.step (fun k => i_total_l6_eq k _ _ _ _ _ _) ?_
        simp only [a.g, cond_false]
        exact Ev.pure _
      | cons y r ihr =>
        intro i v h'
        have a := at_cons h' (by rw [maxLen_eq]; omega)
        refine Ev.step (fun k => i_total_l6_eq k _ _ _ _ _ _) ?_
        simp only [a.g, a.z, a.n, a.get, a.w, cond_true]
        have hp12 : p.length ≤ 12 := by
          rcases hnil with e | e
          · rw [e] at h'; simp at h'
          · exact e
        unfold tsum
        refine Ev.ite (fun c => ?_) (fun c => ?_)
        · have c' : y > 0 := by simpa using c
          rw [if_pos c']
          refine Ev.bind (Clone_int_ev p (by omega)) (Ev.yes (by rw [rowMax_eq]; simp; omega) ?_)
          refine Ev.bind (ih (p ++ [(i : Int)]) (by simp; omega) (by simp; omega)) ?_
          exact ihr (i + 1) _ a.next
        · have c' : ¬ y > 0 := by simpa using c
          rw [if_neg c']
          exact ihr (i + 1) v a.next
    refine Ev.ite (fun c => ?_) (fun c => ?_)
    · have : xs = [] := by simpa using c
      subst this
      exact Ev.some rfl
    · have hne : xs ≠ [] := by simpa using c
      exact Ev.bind (Max_pos_ev xs (by rw [maxLen_eq]; omega) hne hpos) (loop xs 0 _ rfl)
theorem FnExactGuessTotal_ev (n : Int) (f0 : Fits (.int .i64) n) : Ev (fun k => w_FnExactGuessTotal k n) true := by
  by_cases h : 1 ≤ n ∧ n ≤ 8
  · have hs : Ev (fun k => s_GuessTotal k n) (tot n 8 []) := Ev.step (fun k => s_GuessTotal_eq k n) (Ev.bind (l01In_ev n 1 8) (Ev.no (by simp; omega) (Ev.bind (s_l19Total_ev n 8 [] (by simp; omega) (by simp)) (Ev.pure _))))
    have hi : Ev (fun k => i_GuessTotal k n) (tot n 8 []) := Ev.step (fun k => i_GuessTotal_eq k n) (Ev.no (by simp; omega) (Ev.no (by simp; omega) (Ev.bind (i_total_ev n 8 [] (by simp; omega) (by simp)) (Ev.pure _))))
    exact Ev.step (fun k => w_FnExactGuessTotal_eq k n) (Ev.bind hs (Ev.bind hi (Ev.no (by simp) (Ev.pure _))))
  · have hs : Ev (fun k => s_GuessTotal k n) (-1) := Ev.step (fun k => s_GuessTotal_eq k n) (Ev.bind (l01In_ev n 1 8) (Ev.yes (by simp; omega) (Ev.pure _)))
    have hi : Ev (fun k => i_GuessTotal k n) (-1) := by
      refine Ev.step (fun k => i_GuessTotal_eq k n) (Ev.ite (fun c => Ev.pure _) (fun c => Ev.yes ?_ (Ev.pure _)))
      simp at c ⊢; omega
    exact Ev.step (fun k => w_FnExactGuessTotal_eq k n) (Ev.bind hs (Ev.bind hi (Ev.no (by simp) (Ev.pure _))))
end Qq
