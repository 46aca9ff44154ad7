/-
  Runs of stores into a block, and rows cut in two: what the contract of slices.Delete wants.
  Conditions: none.
-/
import Derived.Test.YtlgkjckddpnfnaaGreatDoorXvzd
import Derived.Test.YtlgkjckddpnfnaaGreatDoorXvzf
namespace Go.Vt
open Go.RowKit Go.Sort

theorem heap_setCells (b : Nat) : ∀ (vs : List Value) (o : Nat) (w : World) (cs : Array Value) (E : TypeId), w.heap[b]? = some (.cells cs E (0, 0)) → (w.setCells b o vs).heap[b]? = some (.cells (setMany cs o vs) E (0, 0))
  | [], _, _, _, _, h => h
  | v :: r, o, w, cs, E, h => by
    rw [World.setCells, setMany]
    exact heap_setCells b r (o + 1) _ _ _ (by simp [World.setCell, Array.getElem?_modify, h])

theorem toList_setMany : ∀ (vs : List Value) (s : Nat) (F : Array Value), s + vs.length ≤ F.size → (setMany F s vs).toList = F.toList.take s ++ vs ++ F.toList.drop (s + vs.length)
  | [], s, F, h => by simp [setMany]
  | v :: r, s, F, h => by
    have h' : s + (r.length + 1) ≤ F.size := by simpa using h
    rw [setMany, toList_setMany r (s + 1) _ (by simp; omega)]
    have e1 : (F.setIfInBounds s v).toList.take (s + 1) = F.toList.take s ++ [v] := by
      rw [Array.toList_setIfInBounds, List.take_add_one, List.take_set_of_le (Nat.le_refl _), List.getElem?_set_self (by simp; omega)]
      rfl
    have e2 : (F.setIfInBounds s v).toList.drop (s + 1 + r.length) = F.toList.drop (s + (v :: r).length) := by
      rw [Array.toList_setIfInBounds, List.drop_set_of_lt (by omega)]
      congr 1
      simp; omega
    rw [e1, e2]
    simp

/-- The rest of a row whose elements own nothing. -/
theorem OL.dropN {α : Type} {n : Nat} {p : α → List Value → List Nat → Prop} : ∀ {xs : List α} {cs : List Value} (k : Nat), OL n p xs cs [] → OL n p (xs.drop k) (cs.drop (k * n)) []
  | [], cs, k, h => by rw [List.drop_nil]; exact rfl
  | x :: xs, cs, 0, h => by simpa using h
  | x :: xs, cs, k + 1, h => by
    obtain ⟨L1, L2, e, hl, hp, hr⟩ := h
    have e2 : L2 = [] := (List.append_eq_nil_iff.1 e.symm).2
    subst e2
    have := OL.dropN k hr
    rw [List.drop_drop] at this
    rw [List.drop_succ_cons, show (k + 1) * n = n + k * n by rw [Nat.add_mul]; omega]
    exact this

end Go.Vt
