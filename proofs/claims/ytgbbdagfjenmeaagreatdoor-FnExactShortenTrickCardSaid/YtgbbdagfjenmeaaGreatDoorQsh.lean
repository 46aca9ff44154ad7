/-
  Shortening: steps that are not needed go, one by one; what is left is needed, and the trick holds as before.
  Conditions: the trick is one.
-/
import Derived.Test.YtgbbdagfjenmeaaGreatDoorQvd
import Derived.Test.YtgbbdagfjenmeaaGreatDoorPB
namespace Qq
open Go Go.Vt Pt
set_option linter.unusedVariables false
set_option linter.unusedSimpArgs false
set_option linter.unnecessarySimpa false
abbrev stepZ : Step := (0, (0, 0), 0)
def Tz (t : Trick) (i : Nat) : Bool := !((t.2.1.getD i stepZ).1 == 1 && wN (wU t i))
def X5 : Nat → Trick → Nat → Trick
 | 0, t, _ => t
 | f + 1, t, i => if i < t.2.1.length then (if Tz t i = true then X5 f t (i + 1) else X5 f (wU t i) 0) else t
def meas (t : Trick) (i : Nat) : Nat := t.2.1.length * 15 + (t.2.1.length - i)
theorem ZN {t : Trick} {i : Nat} (h : i < t.2.1.length) : (wU t i).2.1.length + 1 = t.2.1.length := by simp [wU]; omega
theorem RW {t : Trick} {i : Nat} (h : i < t.2.1.length) (b : Int → Bool) : countK b t.2.1 = countK b (wU t i).2.1 + (if b (t.2.1.getD i stepZ).1 then 1 else 0) := by
 have e : t.2.1 = t.2.1.take i ++ t.2.1[i] :: t.2.1.drop (i + 1) := by rw [← List.drop_eq_getElem_cons h, List.take_append_drop]
 have g : t.2.1.getD i stepZ = t.2.1[i] := by rw [List.getD, List.getElem?_eq_getElem h]; rfl
 rw [g]
 conv => lhs; rw [e]
 unfold countK wU
 rw [List.countP_append, List.countP_append, List.countP_cons]
 omega
structure Short (t s : Trick) : Prop where
 holds : wN s = true
 start : s.1 = t.1
 rest : s.2.2 = t.2.2
 choices : countK (· == 2) s.2.1 = countK (· == 2) t.2.1
 moves : countK (· == 1) s.2.1 ≤ countK (· == 1) t.2.1
 all : ∀ j < s.2.1.length, Tz s j = true
theorem Short.trans {t u s : Trick} (h : Short u s) (h1 : u.1 = t.1) (h2 : u.2.2 = t.2.2) (h3 : countK (· == 2) u.2.1 = countK (· == 2) t.2.1) (h4 : countK (· == 1) u.2.1 ≤ countK (· == 1) t.2.1) : Short t s :=
 ⟨h.holds, h.start.trans h1, h.rest.trans h2, h.choices.trans h3, Nat.le_trans h.moves h4, h.all⟩
theorem Sp : ∀ (f : Nat) (t : Trick) (i : Nat), t.2.1.length ≤ 12 → meas t i ≤ f → wN t = true → (∀ j < i, Tz t j = true) → Short t (X5 f t i)
 | 0, t, i, hl, hm, hh, hn => by
   have h0 : t.2.1.length = 0 := by unfold meas at hm; omega
   exact ⟨hh, rfl, rfl, rfl, Nat.le_refl _, fun j hj => by
    have hj : j < t.2.1.length := hj
    omega⟩
 | f + 1, t, i, hl, hm, hh, hn => by
   unfold X5
   by_cases h : i < t.2.1.length
   ·rw [if_pos h]
    by_cases hb : Tz t i = true
    ·rw [if_pos hb]
     refine Sp f t (i + 1) hl (by unfold meas at hm ⊢; omega) hh (fun j hj => ?_)
     rcases Nat.lt_or_ge j i with h1 | h1
     ·exact hn j h1
     ·have : j = i := by omega
      rw [this]; exact hb
    ·rw [if_neg hb]
     have hk : (t.2.1.getD i stepZ).1 = 1 ∧ wN (wU t i) = true := by
      unfold Tz at hb
      simpa using hb
     have hd := ZN h
     have h2 := RW h (· == 2)
     have h1 := RW h (· == 1)
     rw [hk.1] at h1 h2
     have r := Sp f (wU t i) 0 (by omega) (by unfold meas at hm ⊢; omega) hk.2 (fun j hj => by omega)
     exact r.trans rfl rfl (by simpa using h2.symm) (by omega)
   ·rw [if_neg h]
    exact ⟨hh, rfl, rfl, rfl, Nat.le_refl _, fun j hj => hn j (by omega)⟩
def isNeeded (t : Trick) (i : Int) : Bool := wN t && (decide (0 ≤ i) && (decide (i < (t.2.1.length : Int)) && Tz t i.toNat))
def gY (t : Trick) : List Int × List Step × Int × Int × Int × Bool := if wN t = true then withB (X5 200 t 0) true else noTrick
end Qq
