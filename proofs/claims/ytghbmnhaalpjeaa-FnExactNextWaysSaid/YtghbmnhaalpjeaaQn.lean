/-
  The greatest number of a list; the best guess.
  Conditions: lengths are such as a machine bears.
-/
import Derived.Test.YtghbmnhaalpjeaaQm
import Derived.Test.YtghbmnhaalpjeaaQx
namespace Qq
open Go Go.Vt Pt
set_option linter.unusedVariables false
set_option linter.unusedSimpArgs false

/-- The first place of a number greater than all ahead, and than most. -/
def bestF : Int → Int → Nat → List Int → Int
  | b, _, _, [] => b
  | b, m, i, y :: r => if y > m then bestF i y (i + 1) r else bestF b m (i + 1) r
theorem bestF_eq : ∀ (r : List Int) (b m : Int) (i : Nat), bestF b m i r = if maxF m r > m then idx (maxF m r) i r else b
  | [], b, m, i => by simp [bestF, maxF]
  | y :: r, b, m, i => by
    unfold bestF idx
    show _ = if maxF (mx m y) r > m then _ else b
    have hf : maxF m (y :: r) = maxF (mx m y) r := rfl
    rw [hf]
    by_cases h : y > m
    · have e : mx m y = y := by unfold mx; simp [h]
      have hg := maxF_ge r y
      rw [if_pos h, e, bestF_eq r i y (i + 1), if_pos (show maxF y r > m by omega)]
      by_cases h2 : maxF y r > y
      · rw [if_pos h2, if_neg (by omega)]
      · rw [if_neg h2, if_pos (by omega)]
    · have e : mx m y = m := by unfold mx; simp [h]
      rw [if_neg h, e, bestF_eq r b m (i + 1)]
      by_cases h2 : maxF m r > m
      · rw [if_pos h2, if_pos h2, if_neg (by omega)]
      · rw [if_neg h2, if_neg h2]
theorem s_BestGuess_l4_ev (xs : List Int) (hm : xs.length ≤ maxLen) : ∀ (r : List Int) (i : Nat) (b m : Int), xs.drop i = r → Ev (fun k => s_BestGuess_l4 k b m (xs.length : Int) (i : Int) xs) (bestF b m i r)
  | [], i, b, m, h => by
    have a := at_nil h
    refine Ev.step (fun k => s_BestGuess_l4_eq k _ _ _ _ _) ?_
    simp only [a.g, cond_false]
    exact Ev.pure _
  | y :: r, i, b, m, h => by
    have a := at_cons h hm
    refine Ev.step (fun k => s_BestGuess_l4_eq k _ _ _ _ _) ?_
    simp only [a.g, a.z, a.n, a.get, a.w, cond_true]
    unfold bestF
    refine Ev.ite (fun c => ?_) (fun c => ?_)
    · have c' : y > m := by simpa using c
      rw [if_pos c']
      exact s_BestGuess_l4_ev xs hm r (i + 1) i y a.next
    · have c' : ¬ y > m := by simpa using c
      rw [if_neg c']
      exact s_BestGuess_l4_ev xs hm r (i + 1) b m a.next
def bestGuess (n : Int) (p : List Int) : Int := bestF (-1) 0 0 (nextList n p)
theorem nextList_len (n : Int) (p : List Int) : (nextList n p).length ≤ 12 := by
  unfold nextList
  split
  · rename_i h
    have := isPre_fit h
    split
    · simp
    · rw [nextWays_len]; omega
  · simp
theorem nextList_pos (n : Int) (p : List Int) : ∀ x ∈ nextList n p, 0 ≤ x := by
  unfold nextList nextWays
  intro x hx
  split at hx
  · split at hx
    · cases hx
    · obtain ⟨y, _, rfl⟩ := List.mem_map.1 hx
      simp
  · cases hx
theorem s_BestGuess_ev (n : Int) (p : List Int) (hm : p.length ≤ maxLen) : Ev (fun k => s_BestGuess k (n, p)) (bestGuess n p) :=
  Ev.step (fun k => s_BestGuess_eq k n p) (Ev.bind (s_NextWays_ev n p hm) (s_BestGuess_l4_ev _ (by have := nextList_len n p; rw [maxLen_eq]; omega) _ 0 _ _ rfl))
theorem i_BestGuess_ev (n : Int) (p : List Int) (hm : p.length ≤ maxLen) : Ev (fun k => i_BestGuess k (n, p)) (bestGuess n p) := by
  refine Ev.step (fun k => i_BestGuess_eq k n p) (Ev.bind (i_NextWays_ev n p hm) ?_)
  have hl := nextList_len n p
  have hp := nextList_pos n p
  unfold bestGuess
  rw [bestF_eq]
  revert hl hp
  cases nextList n p with
  | nil => intro _ _; exact Ev.yes rfl (Ev.some rfl)
  | cons x r =>
    intro hl hp
    have hm' : (x :: r).length ≤ maxLen := by rw [maxLen_eq]; omega
    have hx : 0 ≤ x := hp x (by simp)
    have e : maxF 0 (x :: r) = maxF x r := by
      show maxF (mx 0 x) r = _
      have : mx 0 x = x := by unfold mx; by_cases h : x > 0 <;> simp [h]; omega
      rw [this]
    have hg := maxF_ge r x
    rw [e]
    refine Ev.no rfl (Ev.bind (Max_int_ev x r hm') (Ev.ite (fun c => Ev.some ?_) (fun c => Ev.bind (Max_int_ev x r hm') (Ev.bind (Index_int_ev _ _ hm') (Ev.some ?_)))))
    · have : maxF x r = 0 := by simpa using c
      rw [if_neg (by omega)]
    · have : ¬ maxF x r = 0 := by simpa using c
      rw [if_pos (by omega)]
end Qq
