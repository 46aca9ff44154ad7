/-
  What is in a list; lists of different numbers of n.
  Conditions: lengths are such as a machine bears.
-/
import Derived.Test.YtghbmnhaalpjeaaQb
namespace Qq
open Go Go.Vt Pt
set_option linter.unusedVariables false
set_option linter.unusedSimpArgs false

theorem l02Has_l2_ev (x : Int) (xs : List Int) (hm : xs.length ≤ maxLen) : ∀ (r : List Int) (i : Nat), xs.drop i = r → Ev (fun k => s_l02Has_l2 k x xs (xs.length : Int) (i : Int)) (r.contains x)
  | [], i, h => by
    have a := at_nil h
    refine Ev.step (fun k => s_l02Has_l2_eq k x xs _ i) ?_
    simp only [a.g, cond_false]
    exact Ev.pure _
  | y :: r, i, h => by
    have a := at_cons h hm
    refine Ev.step (fun k => s_l02Has_l2_eq k x xs _ i) ?_
    simp only [a.g, a.z, a.get, a.w, cond_true]
    refine Ev.ite (fun h => Ev.some ?_) (fun h => (l02Has_l2_ev x xs hm r (i + 1) a.next).to ?_)
    · have : y = x := by simpa using h
      simp [this]
    · have : ¬ y = x := by simpa using h
      have h2 : ¬ x = y := fun e => this e.symm
      simp [h2]
theorem l02Has_ev (xs : List Int) (x : Int) (hm : xs.length ≤ maxLen) : Ev (fun k => s_l02Has k (xs, x)) (xs.contains x) :=
  Ev.step (fun k => s_l02Has_eq k xs x) (l02Has_l2_ev x xs hm xs 0 rfl)

/-- Where x lies first, or -1. -/
def idx (x : Int) : Nat → List Int → Int
  | _, [] => -1
  | i, y :: r => if x = y then (i : Int) else idx x (i + 1) r
theorem idx_has (x : Int) : ∀ (r : List Int) (i : Nat), decide (idx x i r ≥ 0) = r.contains x
  | [], i => by simp [idx]
  | y :: r, i => by
    unfold idx
    by_cases h : x = y
    · simp [h]
    · rw [if_neg h, idx_has x r (i + 1)]; simp [h]
theorem Index_int_l2_ev (x : Int) (xs : List Int) (hm : xs.length ≤ maxLen) : ∀ (r : List Int) (i : Nat), xs.drop i = r → Ev (fun k => slices_Index_int_l2 k xs x (xs.length : Int) (i : Int)) (idx x i r)
  | [], i, h => by
    have a := at_nil h
    refine Ev.step (fun k => slices_Index_int_l2_eq k xs x _ i) ?_
    simp only [a.g, cond_false]
    exact Ev.pure _
  | y :: r, i, h => by
    have a := at_cons h hm
    refine Ev.step (fun k => slices_Index_int_l2_eq k xs x _ i) ?_
    simp only [a.g, a.z, a.get, a.w, cond_true]
    unfold idx
    refine Ev.ite (fun h => Ev.some ?_) (fun h => (Index_int_l2_ev x xs hm r (i + 1) a.next).to ?_)
    · have : x = y := by simpa using h
      simp [this]
    · have : ¬ x = y := by simpa using h
      rw [if_neg this]
theorem Index_int_ev (xs : List Int) (x : Int) (hm : xs.length ≤ maxLen) : Ev (fun k => slices_Index_int k (xs, x)) (idx x 0 xs) :=
  Ev.step (fun k => slices_Index_int_eq k xs x) (Index_int_l2_ev x xs hm xs 0 rfl)
theorem Contains_int_ev (xs : List Int) (x : Int) (hm : xs.length ≤ maxLen) : Ev (fun k => slices_Contains_int k (xs, x)) (xs.contains x) :=
  Ev.step (fun k => slices_Contains_int_eq k xs x) (Ev.bind (Index_int_ev xs x hm) (Ev.some (idx_has x xs 0)))
end Qq
