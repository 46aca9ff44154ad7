/-
  Shortening: steps that are not needed go, one by one; what is left is needed, and the trick holds as before.
  Conditions: the trick is one.
-/
import Derived.Test.YtgbbdagfjenmeaaGreatDoorQvd
import Derived.Test.YtgbbdagfjenmeaaGreatDoorPJ
namespace Qq
open Go Go.Vt Pt
set_option linter.unusedVariables false
set_option linter.unusedSimpArgs false
set_option linter.unnecessarySimpa false
abbrev stepZ : Step := (0, (0, 0), 0)
def Xa (t : Trick) (i : Nat) : Bool := !((t.2.1.getD i stepZ).1 == 1 && xe (uC t i))
def fP : Nat → Trick → Nat → Trick
 | 0, t, _ => t
 | f + 1, t, i => if i < t.2.1.length then (if Xa t i = true then fP f t (i + 1) else fP f (uC t i) 0) else t
def meas (t : Trick) (i : Nat) : Nat := t.2.1.length * 15 + (t.2.1.length - i)
theorem Wd {t : Trick} {i : Nat} (h : i < t.2.1.length) : (uC t i).2.1.length + 1 = t.2.1.length := by simp [uC]; omega
theorem Uu {t : Trick} {i : Nat} (h : i < t.2.1.length) (b : Int → Bool) : countK b t.2.1 = countK b (uC t i).2.1 + (if b (t.2.1.getD i stepZ).1 then 1 else 0) := by
 have e : t.2.1 = t.2.1.take i ++ t.2.1[i] :: t.2.1.drop (i + 1) := by rw [← List.drop_eq_getElem_cons h, List.take_append_drop]
 have g : t.2.1.getD i stepZ = t.2.1[i] := by rw [List.getD, List.getElem?_eq_getElem h]; rfl
 rw [g]
 conv => lhs; rw [e]
 unfold countK uC
 rw [List.countP_append, List.countP_append, List.countP_cons]
 omega
structure Short (t s : Trick) : Prop where
 holds : xe s = true
 start : s.1 = t.1
 rest : s.2.2 = t.2.2
 choices : countK (· == 2) s.2.1 = countK (· == 2) t.2.1
 moves : countK (· == 1) s.2.1 ≤ countK (· == 1) t.2.1
 all : ∀ j < s.2.1.length, Xa s j = true
theorem Short.trans {t u s : Trick} (h : Short u s) (h1 : u.1 = t.1) (h2 : u.2.2 = t.2.2) (h3 : countK (· == 2) u.2.1 = countK (· == 2) t.2.1) (h4 : countK (· == 1) u.2.1 ≤ countK (· == 1) t.2.1) : Short t s :=
 ⟨h.holds, h.start.trans h1, h.rest.trans h2, h.choices.trans h3, Nat.le_trans h.moves h4, h.all⟩
theorem Va : ∀ (f : Nat) (t : Trick) (i : Nat), t.2.1.length ≤ 12 → meas t i ≤ f → xe t = true → (∀ j < i, Xa t j = true) → Short t (fP f t i)
 | 0, t, i, hl, hm, hh, hn => by
   have h0 : t.2.1.length = 0 := by unfold meas at hm; omega
   exact ⟨hh, rfl, rfl, rfl, Nat.le_refl _, fun j hj => by
    have hj : j < t.2.1.length := hj
    omega⟩
 | f + 1, t, i, hl, hm, hh, hn => by
   unfold fP
   by_cases h : i < t.2.1.length
   ·rw [if_pos h]
    by_cases hb : Xa t i = true
    ·rw [if_pos hb]
     refine Va f t (i + 1) hl (by unfold meas at hm ⊢; omega) hh (fun j hj => ?_)
     rcases Nat.lt_or_ge j i with h1 | h1
     ·exact hn j h1
     ·have : j = i := by omega
      rw [this]; exact hb
    ·rw [if_neg hb]
     have hk : (t.2.1.getD i stepZ).1 = 1 ∧ xe (uC t i) = true := by
      unfold Xa at hb
      simpa using hb
     have hd := Wd h
     have h2 := Uu h (· == 2)
     have h1 := Uu h (· == 1)
     rw [hk.1] at h1 h2
     have r := Va f (uC t i) 0 (by omega) (by unfold meas at hm ⊢; omega) hk.2 (fun j hj => by omega)
     exact r.trans rfl rfl (by simpa using h2.symm) (by omega)
   ·rw [if_neg h]
    exact ⟨hh, rfl, rfl, rfl, Nat.le_refl _, fun j hj => hn j (by omega)⟩
theorem W9 : ∀ (f : Nat) (t : Trick) (i : Nat), (∀ j < t.2.1.length, Xa t j = true) → fP f t i = t
 | 0, t, i, h => rfl
 | f + 1, t, i, h => by
   unfold fP
   by_cases hi : i < t.2.1.length
   ·rw [if_pos hi, if_pos (h i hi)]; exact W9 f t (i + 1) h
   ·rw [if_neg hi]
def isNeeded (t : Trick) (i : Int) : Bool := xe t && (decide (0 ≤ i) && (decide (i < (t.2.1.length : Int)) && Xa t i.toNat))
def shortenT (t : Trick) : List Int × List Step × Int × Int × Int × Bool := if xe t = true then Rm (fP 200 t 0) true else noTrick
end Qq
