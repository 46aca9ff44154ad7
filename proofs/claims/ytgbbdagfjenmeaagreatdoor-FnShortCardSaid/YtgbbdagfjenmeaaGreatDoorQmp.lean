/-
  What the generators draw, told by what holds of it.
  Conditions: none.
-/
import Derived.Test.YtgbbdagfjenmeaaGreatDoorPJ
namespace Qq
open Go Go.Vt Pt
set_option linter.unusedVariables false
set_option linter.unusedSimpArgs false
set_option linter.unnecessarySimpa false
def Dr {α : Type} (f : Nat → Option (α × Cur)) (Q : α → Prop) : Prop := ∃ (y : α) (c' : Cur), Ev f (y, c') ∧ xg c' ∧ Q y
theorem Dr.ite {α : Type} {b : Bool} {g h : Nat → Option (α × Cur)} {Q : α → Prop} (ht : b = true → Dr g Q) (hf : b = false → Dr h Q) : Dr (fun k => bif b then g k else h k) Q := by
 cases b with
 | true => exact ht rfl
 | false => exact hf rfl
theorem Dr.yes {α : Type} {b : Bool} {g h : Nat → Option (α × Cur)} {Q : α → Prop} (hb : b = true) (ht : Dr g Q) : Dr (fun k => bif b then g k else h k) Q := by subst hb; exact ht
theorem Dr.no {α : Type} {b : Bool} {g h : Nat → Option (α × Cur)} {Q : α → Prop} (hb : b = false) (ht : Dr h Q) : Dr (fun k => bif b then g k else h k) Q := by subst hb; exact ht
theorem Dr.bind {α β : Type} {g : Nat → Option (α × Cur)} {h : Nat → α × Cur → Option (β × Cur)} {R : α → Prop} {Q : β → Prop} (hg : Dr g R) (hh : ∀ y c, xg c → R y → Dr (fun k => h k (y, c)) Q) : Dr (fun k => (g k).bind (h k)) Q := by
 obtain ⟨y, c, e, hc, hy⟩ := hg
 obtain ⟨z, c2, e2, hc2, hz⟩ := hh y c hc hy
 exact ⟨z, c2, Ev.bind e e2, hc2, hz⟩
theorem Dr.ret {α : Type} {y : α} {c : Cur} {Q : α → Prop} (hc : xg c) (hq : Q y) : Dr (fun _ => some (y, c)) Q := ⟨y, c, Ev.pure _, hc, hq⟩
theorem Dr.step {α : Type} {g h : Nat → Option (α × Cur)} {Q : α → Prop} (hs : ∀ k, g (k + 1) = h k) (hh : Dr h Q) : Dr g Q := by
 obtain ⟨z, c2, e2, hc2, hz⟩ := hh
 exact ⟨z, c2, Ev.step hs e2, hc2, hz⟩
theorem Dr.mono {α : Type} {g : Nat → Option (α × Cur)} {Q R : α → Prop} (h : Dr g Q) (hm : ∀ y, Q y → R y) : Dr g R := by
 obtain ⟨z, c2, e2, hc2, hz⟩ := h
 exact ⟨z, c2, e2, hc2, hm z hz⟩
theorem vR (c : Cur) (h : xg c) (n : Int) : Dr (fun k => zh k (c, n)) (fun y => 0 ≤ y ∧ (0 < n → y < n)) := by
 obtain ⟨y, c', e, a1, a2, a3⟩ := zM c h n
 exact ⟨y, c', e, a3, a1, a2⟩
theorem Lf (c : Cur) (h : xg c) (n : Int) : Dr (fun k => ue k (c, n)) (fun _ => True) := by
 obtain ⟨y, c', e, a3⟩ := bX c h n
 exact ⟨y, c', e, a3, trivial⟩
theorem JP (c : Cur) (h : xg c) (l : List Int) (hl : 0 < l.length) : Dr (fun k => gv k (c, l)) (fun _ => True) :=
 Dr.step (fun k => XK k c l) (Dr.bind (vR c h l.length) fun y c1 h1 hy => Dr.yes (decide_eq_true hy.1) (Dr.yes (decide_eq_true (hy.2 (by omega))) (Dr.ret h1 trivial)))
end Qq
