/-
  The greatest number of a list.
  Conditions: lengths are such as a machine bears.
-/
import Derived.Test.YtghbmnhaalpjeaaQb
namespace Qq
open Go Go.Vt Pt
set_option linter.unusedVariables false
set_option linter.unusedSimpArgs false
def mx (v y : Int) : Int := bif decide (y > v) then y else v
def maxF (v : Int) (r : List Int) : Int := r.foldl mx v
theorem mx_ge (v y : Int) : v ≤ mx v y ∧ y ≤ mx v y ∧ (mx v y = v ∨ mx v y = y) := by
  unfold mx
  by_cases h : y > v
  · simp [h]; omega
  · simp [h]; omega
theorem maxF_ge : ∀ (r : List Int) (v : Int), v ≤ maxF v r
  | [], v => by simp [maxF]
  | y :: r, v => by
    have := maxF_ge r (mx v y)
    have := mx_ge v y
    show v ≤ maxF (mx v y) r
    omega
theorem Max_int_l5_ev (xs : List Int) (hm : xs.length ≤ maxLen) : ∀ (r : List Int) (i : Nat) (v : Int), xs.drop i = r → Ev (fun k => slices_Max_int_l5 k xs v (i : Int)) (maxF v r)
  | [], i, v, h => by
    have a := at_nil h
    refine Ev.step (fun k => slices_Max_int_l5_eq k xs v i) ?_
    simp only [a.g, cond_false]
    exact Ev.pure _
  | y :: r, i, v, h => by
    have a := at_cons h hm
    refine Ev.step (fun k => slices_Max_int_l5_eq k xs v i) ?_
    simp only [a.g, a.z, a.get, a.w, cond_true]
    exact Max_int_l5_ev xs hm r (i + 1) _ a.next
theorem Max_int_ev (x : Int) (r : List Int) (hm : (x :: r).length ≤ maxLen) : Ev (fun k => slices_Max_int k (x :: r)) (maxF x r) := by
  refine Ev.step (fun k => slices_Max_int_eq k _) (Ev.no (by simp; omega) (Ev.yes (by simp) ?_))
  exact Max_int_l5_ev (x :: r) hm r 1 x rfl

theorem Max_pos_ev (xs : List Int) (hm : xs.length ≤ maxLen) (hne : xs ≠ []) (hp : ∀ x ∈ xs, 0 ≤ x) : Ev (fun k => slices_Max_int k xs) (maxF 0 xs) := by
  cases xs with
  | nil => exact absurd rfl hne
  | cons x r =>
    refine (Max_int_ev x r hm).to ?_
    have hx : 0 ≤ x := hp x (by simp)
    show _ = maxF (mx 0 x) r
    have : mx 0 x = x := by unfold mx; by_cases h : x > 0 <;> simp [h]; omega
    rw [this]
end Qq
