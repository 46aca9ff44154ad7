/-
  What a function comes to, whatever the fuel from some amount on.
  Conditions: none.
-/
import Derived.Test.YtlgkjckddpnfnaaGreatDoorXvza
namespace Go.Vt
/-- From some fuel on g comes to y. -/
def Ev {α : Type} (g : Nat → Option α) (y : α) : Prop := ∃ K, ∀ k, K ≤ k → g k = some y
theorem Ev.step {α : Type} {g h : Nat → Option α} {y : α} (hs : ∀ k, g (k + 1) = h k) (hh : Ev h y) : Ev g y := by
  obtain ⟨K, hK⟩ := hh
  refine ⟨K + 1, fun k hk => ?_⟩
  obtain ⟨j, rfl⟩ : ∃ j, k = j + 1 := ⟨k - 1, by omega⟩
  rw [hs]; exact hK j (by omega)
theorem Ev.pure {α : Type} (y : α) : Ev (fun _ => some y) y := ⟨0, fun _ _ => rfl⟩
theorem Ev.bind {α β : Type} {g : Nat → Option α} {h : Nat → α → Option β} {x : α} {y : β} (hg : Ev g x) (hh : Ev (fun k => h k x) y) : Ev (fun k => (g k).bind (h k)) y := by
  obtain ⟨K, hK⟩ := hg
  obtain ⟨L, hL⟩ := hh
  refine ⟨max K L, fun k hk => ?_⟩
  show (g k).bind (h k) = some y
  rw [hK k (by omega)]
  exact hL k (by omega)
theorem Ev.ite {α : Type} {b : Bool} {g h : Nat → Option α} {y : α} (ht : b = true → Ev g y) (hf : b = false → Ev h y) : Ev (fun k => bif b then g k else h k) y := by
  cases b with
  | true => exact ht rfl
  | false => exact hf rfl
theorem Ev.yes {α : Type} {b : Bool} {g h : Nat → Option α} {y : α} (hb : b = true) (ht : Ev g y) : Ev (fun k => bif b then g k else h k) y := by subst hb; exact ht
theorem Ev.no {α : Type} {b : Bool} {g h : Nat → Option α} {y : α} (hb : b = false) (ht : Ev h y) : Ev (fun k => bif b then g k else h k) y := by subst hb; exact ht
theorem Ev.congr {α : Type} {g h : Nat → Option α} {y : α} (e : ∀ k, g k = h k) (hh : Ev h y) : Ev g y := by
  obtain ⟨K, hK⟩ := hh
  exact ⟨K, fun k hk => (e k).trans (hK k hk)⟩
theorem Ev.get {α : Type} {g : Nat → Option α} {y : α} (h : Ev g y) : ∃ k, g k = some y := by
  obtain ⟨K, hK⟩ := h
  exact ⟨K, hK K (Nat.le_refl _)⟩
theorem listB_refl {α : Type} {f : α → α → Bool} (hf : ∀ x, f x x = true) : ∀ xs : List α, listB f xs xs = true
  | [] => rfl
  | x :: xs => by unfold listB; rw [hf x, listB_refl hf xs]; rfl
theorem denB_refl : ∀ (t : Ty) (x : t.den), denB t x x = true
  | .int _, x => by show ((x : Int) == x) = true; simp
  | .bool, x => by show ((x : Bool) == x) = true; simp
  | .str, x => listB_refl (f := fun a b : UInt8 => Nat.beq a.toNat b.toNat) (fun a => by simp) _
  | .slice t, x => listB_refl (denB_refl t) x
  | .set, x => by
    cases x with
    | none => rfl
    | some l => exact listB_refl (f := strB) (fun x => listB_refl (f := fun a b : UInt8 => Nat.beq a.toNat b.toNat) (fun a => by simp) x.data.toList) l
  | .err, x => by show ((x : Bool) == x) = true; simp
  | .pair a b, x => by show (denB a x.1 x.1 && denB b x.2 x.2) = true; rw [denB_refl a, denB_refl b]; rfl
theorem rdenB_refl : ∀ (rs : List RC) (x : Rden rs), rdenB rs x x = true
  | [], _ => rfl
  | [c], x => denB_refl c.t x
  | c :: d :: r, x => by show (denB c.t x.1 x.1 && rdenB (d :: r) x.2 x.2) = true; rw [denB_refl, rdenB_refl (d :: r)]; rfl
theorem odenB_refl : ∀ (rs ios : List RC) (x : Oden rs ios), odenB rs ios x x = true
  | rs, [], x => rdenB_refl rs x
  | rs, i :: r, x => by show (rdenB rs x.1 x.1 && rdenB (i :: r) x.2 x.2) = true; rw [rdenB_refl, rdenB_refl]; rfl
theorem Ev.both {rs ios : List RC} {g h : Nat → Option (Oden rs ios)} {y : Oden rs ios} (hg : Ev g y) (hh : Ev h y) : Ev (fun k => Go.Vt.both (g k) (h k)) y := by
  obtain ⟨K, hK⟩ := hg
  obtain ⟨L, hL⟩ := hh
  refine ⟨max K L, fun k hk => ?_⟩
  show Go.Vt.both (g k) (h k) = some y
  rw [hK k (by omega), hL k (by omega)]
  show (bif odenB rs ios y y then some y else none) = some y
  rw [odenB_refl]; rfl
theorem Ev.some {α : Type} {x y : α} (e : x = y) : Ev (fun _ => Option.some x) y := by subst e; exact Ev.pure _
theorem Ev.bind' {α β : Type} {g : Nat → Option α} {h : Nat → α → Option β} {x : α} {y : β} (hg : Ev g x) (hh : Ev (fun k => h k x) y) : Ev (fun k => (g k).bind (h k)) y := Ev.bind hg hh
theorem Ev.to {α : Type} {g : Nat → Option α} {x y : α} (h : Ev g x) (e : x = y) : Ev g y := e ▸ h
end Go.Vt
