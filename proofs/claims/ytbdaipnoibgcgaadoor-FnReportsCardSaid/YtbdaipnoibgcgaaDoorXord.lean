/-
  Rows of numbers in their order: compared, sorted, each told once.
  Conditions: none.
-/
import Derived.Test.YtbdaipnoibgcgaaDoorXvzl
namespace Go.Vt
set_option linter.unusedVariables false
set_option linter.unusedSimpArgs false
/-! ### rows of numbers compared -/
def cmpI : List Int → List Int → Int
  | [], b => if 0 < b.length then -1 else 0
  | _ :: _, [] => 1
  | x :: a, y :: b => if x = y then cmpI a b else if x < y then -1 else 1
theorem cmpI_irrefl : ∀ a, ¬ cmpI a a < 0
  | [] => by simp [cmpI]
  | x :: a => by unfold cmpI; rw [if_pos rfl]; exact cmpI_irrefl a
theorem cmpI_trans : ∀ a b c, cmpI a b < 0 → cmpI b c < 0 → cmpI a c < 0
  | [], [], _, h, _ => by simp [cmpI] at h
  | [], _ :: _, [], _, h => by simp [cmpI] at h
  | [], _ :: _, _ :: _, _, _ => by simp [cmpI]
  | _ :: _, [], _, h, _ => by simp [cmpI] at h
  | _ :: _, _ :: _, [], _, h => by simp [cmpI] at h
  | x :: a, y :: b, z :: c, h, k => by
    unfold cmpI at h k ⊢
    split at h <;> split at k <;> try split at h
    all_goals (try split at k)
    all_goals (split <;> try split)
    all_goals first | omega | exact cmpI_trans a b c h k | skip
theorem cmpI_ntrans : ∀ a b c, ¬ cmpI a b < 0 → ¬ cmpI b c < 0 → ¬ cmpI a c < 0
  | [], [], [], _, _ => by simp [cmpI]
  | [], [], _ :: _, _, h => by simp [cmpI] at h
  | [], _ :: _, _, h, _ => by simp [cmpI] at h
  | _ :: _, _, [], _, _ => by simp [cmpI]
  | _ :: _, [], _ :: _, _, h => by simp [cmpI] at h
  | x :: a, y :: b, z :: c, h, k => by
    unfold cmpI at h k ⊢
    split at h <;> split at k <;> try split at h
    all_goals (try split at k)
    all_goals (split <;> try split)
    all_goals first | omega | exact cmpI_ntrans a b c h k | skip
theorem cmpI_anti : ∀ a b, ¬ cmpI a b < 0 → ¬ cmpI b a < 0 → a = b
  | [], [], _, _ => rfl
  | [], _ :: _, h, _ => by simp [cmpI] at h
  | _ :: _, [], _, h => by simp [cmpI] at h
  | x :: a, y :: b, h, k => by
    unfold cmpI at h k
    by_cases e : x = y
    · subst e
      rw [if_pos rfl] at h k
      rw [cmpI_anti a b h k]
    · rw [if_neg e] at h
      rw [if_neg (Ne.symm e)] at k
      split at h <;> split at k <;> omega
def leI (x y : List Int) : Bool := !decide (cmpI y x < 0)
def sortL (l : List (List Int)) : List (List Int) := l.mergeSort leI
theorem leI_trans (a b c : List Int) (h : leI a b = true) (k : leI b c = true) : leI a c = true := by
  unfold leI at *
  simp only [Bool.not_eq_true', decide_eq_false_iff_not] at *
  exact cmpI_ntrans c b a k h
theorem leI_total (a b : List Int) : (leI a b || leI b a) = true := by
  unfold leI
  by_cases h : cmpI b a < 0
  · have : ¬ cmpI a b < 0 := fun k => cmpI_irrefl a (cmpI_trans a b a k h)
    simp [h, this]
  · simp [h]
theorem leI_anti {a b : List Int} (h : leI a b = true) (k : leI b a = true) : a = b := by
  unfold leI at *
  simp only [Bool.not_eq_true', decide_eq_false_iff_not] at *
  exact cmpI_anti a b k h
theorem sortL_perm (l : List (List Int)) : (sortL l).Perm l := List.mergeSort_perm l leI
theorem sortL_sorted (l : List (List Int)) : (sortL l).Pairwise (fun a b => leI a b = true) := List.pairwise_mergeSort leI_trans leI_total l
theorem sortL_unique {l m : List (List Int)} (hp : m.Perm l) (hs : m.Pairwise (fun a b => leI a b = true)) : m = sortL l :=
  List.Perm.eq_of_pairwise (le := fun a b => leI a b = true) (fun a b _ _ h k => leI_anti h k) hs (sortL_sorted l) (hp.trans (sortL_perm l).symm)

def dedupFrom : List Int → List (List Int) → List (List Int)
  | _, [] => [] | p, y :: r => if y = p then dedupFrom y r else y :: dedupFrom y r
def dedupL : List (List Int) → List (List Int)
  | [] => [] | x :: r => x :: dedupFrom x r
end Go.Vt
