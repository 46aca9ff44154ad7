/-
  What a function comes to, whatever the fuel from some amount on.
  Conditions: none.
-/
import Derived.Test.YtghbmnhaalpjeaaXvza
namespace Go.Vt
/-- From some fuel on g comes to y. -/
def Ev {α : Type} (g : Nat → Option α) (y : α) : Prop := ∃ K, ∀ k, K ≤ k → g k = some y
theorem Ev.step {α : Type} {g h : Nat → Option α} {y : α} (hs : ∀ k, g (k + 1) = h k) (hh : Ev h y) : Ev g y := by
  obtain ⟨K, hK⟩ := hh
  refine ⟨K + 1, fun k hk => ?_⟩
  obtain ⟨j, rfl⟩ : ∃ j, k = j + 1 := ⟨k - 1, by omega⟩
  rw [hs]; exact hK j (by omega)
theorem Ev.pure {α : Type} (y : α) : Ev (fun _ => some y) y := ⟨0, fun _ _ => rfl⟩
theorem Ev.bind {α β : Type} {g : Nat → Option α} {h : Nat → α → Option β} {x : α} {y : β} (hg : Ev g x) (hh : Ev (fun k => h k x) y) : Ev (fun k => (g k).bind (h k)) y := by
  obtain ⟨K, hK⟩ := hg
  obtain ⟨L, hL⟩ := hh
  refine ⟨max K L, fun k hk => ?_⟩
  show (g k).bind (h k) = some y
  rw [hK k (by omega)]
  exact hL k (by omega)
theorem Ev.ite {α : Type} {b : Bool} {g h : Nat → Option α} {y : α} (ht : b = true → Ev g y) (hf : b = false → Ev h y) : Ev (fun k => bif b then g k else h k) y := by
  cases b with
  | true => exact ht rfl
  | false => exact hf rfl
theorem Ev.yes {α : Type} {b : Bool} {g h : Nat → Option α} {y : α} (hb : b = true) (ht : Ev g y) : Ev (fun k => bif b then g k else h k) y := by subst hb; exact ht
theorem Ev.no {α : Type} {b : Bool} {g h : Nat → Option α} {y : α} (hb : b = false) (ht : Ev h y) : Ev (fun k => bif b then g k else h k) y := by subst hb; exact ht
theorem Ev.congr {α : Type} {g h : Nat → Option α} {y : α} (e : ∀ k, g k = h k) (hh : Ev h y) : Ev g y := by
  obtain ⟨K, hK⟩ := hh
  exact ⟨K, fun k hk => (e k).trans (hK k hk)⟩
theorem Ev.get {α : Type} {g : Nat → Option α} {y : α} (h : Ev g y) : ∃ k, g k = some y := by
  obtain ⟨K, hK⟩ := h
  exact ⟨K, hK K (Nat.le_refl _)⟩
end Go.Vt
