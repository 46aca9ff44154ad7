/-
  What the library's comparisons of rows of numbers come to.
  Conditions: none.
-/
import Derived.Test.YtcpfklamgkilnaaGreatDoorPc
import Derived.Test.YtcpfklamgkilnaaGreatDoorVd
import Derived.Laws.BitsLemmas
namespace Go.Vt
end Go.Vt
namespace Qc
open Go Go.Vt
set_option linter.unusedVariables false
set_option linter.unusedSimpArgs false
theorem zg : maxLen = 9223372036854775807 := by unfold maxLen; decide
theorem zj {x : Int} (h1 : -9223372036854775808 ≤ x) (h2 : x ≤ 9223372036854775807) : IntKind.i64.wrap x = x := by
 rw [IntKind.wrap_i64]; omega
structure AtCons {α : Type} (xs : List α) (i : Nat) (y : α) (rest : List α) : Prop where
 lt : i < xs.length
 g : decide ((i : Int) < (xs.length : Int)) = true
 z : decide ((0 : Int) ≤ (i : Int)) = true
 n : decide ((i : Int).toNat < xs.length) = true
 get : ∀ d, xs.getD (i : Int).toNat d = y
 w : IntKind.i64.wrap ((i : Int) + 1) = ((i + 1 : Nat) : Int)
 next : xs.drop (i + 1) = rest
 mem : y ∈ xs
 gt : ∀ d, xs.getD i d = y
 le : decide ((i : Int) ≤ (xs.length : Int)) = true
theorem zy {α : Type} {xs : List α} {i : Nat} {y : α} {rest : List α} (h : xs.drop i = y :: rest) (hm : xs.length ≤ maxLen) : AtCons xs i y rest := by
 rw [zg] at hm
 have lt : i < xs.length := by
  rcases Nat.lt_or_ge i xs.length with h1 | h1
  ·exact h1
  ·rw [List.drop_eq_nil_of_le h1] at h; cases h
 have e := List.drop_eq_getElem_cons lt
 rw [e] at h
 have hy : xs[i] = y := by injection h
 refine ⟨lt, by simp; omega, by simp, by simp; omega, fun d => by simp [List.getD, lt, hy], by rw [zj (by omega) (by omega)]; simp, by injection h, by rw [← hy]; exact List.getElem_mem lt, fun d => by simp [List.getD, lt, hy], by simp; omega⟩
structure AtNil {α : Type} (xs : List α) (i : Nat) : Prop where
 ge : xs.length ≤ i
 g : decide ((i : Int) < (xs.length : Int)) = false
theorem zZ {α : Type} {xs : List α} {i : Nat} (h : xs.drop i = []) : AtNil xs i := by
 have ge : xs.length ≤ i := List.drop_eq_nil_iff.1 h
 exact ⟨ge, by simp; omega⟩
end Qc
namespace Qc
open Go Go.Vt Pc
set_option linter.unusedVariables false
set_option linter.unusedSimpArgs false
end Qc
namespace Qc
open Go Go.Vt Pc
set_option linter.unusedVariables false
set_option linter.unusedSimpArgs false
theorem wD (xs ys : List Int) (hx : xs.length ≤ maxLen) (hy : ys.length ≤ maxLen) : ∀ (r s : List Int) (i : Nat), xs.drop i = r → ys.drop i = s → s.length = r.length → Ev (fun k => zM k xs ys (xs.length : Int) (i : Int)) (r == s)
 | [], [], i, h1, h2, hl => by
   have a := zZ h1
   refine Ev.step (fun k => yI k xs ys _ i) ?_
   simp only [a.g, cond_false]
   exact Ev.pure _
 | x :: r, y :: s, i, h1, h2, hl => by
   have a := zy h1 hx
   have b := zy h2 hy
   refine Ev.step (fun k => yI k xs ys _ i) ?_
   simp only [a.g, a.z, b.g, a.get, b.get, a.w, cond_true]
   have ih := wD xs ys hx hy r s (i + 1) a.next b.next (by simpa using hl)
   refine Ev.ite (fun h => Ev.some ?_) (fun h => ih.to ?_)
   ·have : ¬ x = y := by simpa using h
    simp [this]
   ·have : x = y := by simpa using h
    simp [this]
 | [], _ :: _, _, _, _, hl => by simp at hl
 | _ :: _, [], _, _, _, hl => by simp at hl
theorem fp (xs ys : List Int) (hx : xs.length ≤ maxLen) (hy : ys.length ≤ maxLen) : Ev (fun k => yD k (xs, ys)) (xs == ys) := by
 refine Ev.step (fun k => vh k xs ys) (Ev.ite (fun h => Ev.some ?_) (fun h => wD xs ys hx hy xs ys 0 rfl rfl ?_))
 ·have h' : ¬ xs.length = ys.length := by simp at h; omega
  have : ¬ xs = ys := fun e => h' (by rw [e])
  simp [this]
 ·simp at h; omega
end Qc
namespace Qc
open Go Go.Vt Pc
set_option linter.unusedVariables false
set_option linter.unusedSimpArgs false
end Qc
namespace Qc
open Go Go.Vt Pc
set_option linter.unusedVariables false
set_option linter.unusedSimpArgs false
end Qc
namespace Qc
open Go Go.Vt Pc
set_option linter.unusedVariables false
set_option linter.unusedSimpArgs false
end Qc
namespace Qc
open Go Go.Vt Pc
set_option linter.unusedVariables false
set_option linter.unusedSimpArgs false
def cmpL : List Int → List Int → Int
 | [], b => if 0 < b.length then -1 else 0
 | _ :: _, [] => 1
 | x :: a, y :: b => if x = y then cmpL a b else if x < y then -1 else 1
theorem Ff {α : Type} {xs r : List α} {i : Nat} (h : xs.drop i = r) : xs.length - i = r.length := by rw [← h, List.length_drop]
theorem Jn (x y : Int) : Ev (fun k => gQ k (x, y)) (if x < y then -1 else if x > y then 1 else 0) := by
 have hn : ∀ z : Int, Ev (fun k => jS k z) false := fun z => Ev.step (fun k => Uk k z) (Ev.some (by simp))
 refine Ev.step (fun k => X5 k x y) (Ev.bind (hn x) (Ev.bind (hn y) (Ev.no rfl (Ev.no rfl (Ev.ite (fun c => Ev.some ?_) (fun c => Ev.ite (fun c2 => Ev.some ?_) (fun c2 => Ev.some ?_)))))))
 ·have : x < y := by simpa using c
  rw [if_pos this]
 ·have h1 : ¬ x < y := by simpa using c
  have h2 : x > y := by simpa using c2
  rw [if_neg h1, if_pos h2]
 ·have h1 : ¬ x < y := by simpa using c
  have h2 : ¬ x > y := by simpa using c2
  rw [if_neg h1, if_neg h2]
theorem Wi (xs ys : List Int) (hm : xs.length ≤ maxLen) (hy : ys.length ≤ maxLen) : ∀ (r s : List Int) (i : Nat), i ≤ xs.length → xs.drop i = r → ys.drop i = s → Ev (fun k => xo k xs ys xs (xs.length : Int) (i : Int)) (cmpL r s)
 | [], s, i, hi, h, h2 => by
   have a := zZ h
   have := a.ge
   have hl := Ff h2
   refine Ev.step (fun k => xG k _ _ _ _ _) ?_
   simp only [a.g, cond_false]
   unfold cmpL
   refine Ev.ite (fun c => Ev.some ?_) (fun c => Ev.some ?_)
   ·rw [if_pos (by simp at c; omega)]
   ·rw [if_neg (by simp at c; omega)]
 | x :: r, [], i, hi, h, h2 => by
   have a := zy h hm
   have b := zZ h2
   refine Ev.step (fun k => xG k _ _ _ _ _) ?_
   simp only [a.g, a.z, cond_true]
   refine Ev.yes (by have := b.ge; simp; omega) (Ev.some rfl)
 | x :: r, y :: s, i, hi, h, h2 => by
   have a := zy h hm
   have b := zy h2 hy
   have hlt := a.lt
   have ih := Wi xs ys hm hy r s (i + 1) (by omega) a.next b.next
   refine Ev.step (fun k => xG k _ _ _ _ _) ?_
   simp only [a.g, a.z, a.get, a.w, cond_true]
   refine Ev.no (by have := b.lt; simp; omega) ?_
   simp only [b.g, b.get, cond_true]
   unfold cmpL
   refine Ev.bind (Jn x y) (Ev.ite (fun c => Ev.some ?_) (fun c => ih.to ?_))
   ·by_cases h3 : x < y
    ·rw [if_pos h3, if_neg (by omega), if_pos h3]
    ·by_cases h4 : x > y
     ·rw [if_neg h3, if_pos h4, if_neg (by omega), if_neg h3]
     ·rw [if_neg h3, if_neg h4] at c; simp at c
   ·have : x = y := by
     by_cases h3 : x < y
     ·rw [if_pos h3] at c; simp at c
     ·by_cases h4 : x > y
      ·rw [if_neg h3, if_pos h4] at c; simp at c
      ·omega
    rw [if_pos this]
theorem JG (xs ys : List Int) (hm : xs.length ≤ maxLen) (hy : ys.length ≤ maxLen) : Ev (fun k => vM k (xs, ys)) (cmpL xs ys) :=
 Ev.step (fun k => bW k xs ys) (Wi xs ys hm hy xs ys 0 (by omega) rfl rfl)
end Qc
namespace Qc
open Go Go.Vt Pc
theorem N0 : ∀ a b, cmpL a b = cmpI a b
 | [], _ => rfl
 | _ :: _, [] => rfl
 | x :: a, y :: b => by unfold cmpL cmpI; rw [N0 a b]
theorem EG (x y : List Int) (hx : x.length ≤ 9223372036854775807) (hy : y.length ≤ 9223372036854775807) : ∃ k, vM k (x, y) = some (cmpI x y) := by
 have h := JG x y (by rw [zg]; exact hx) (by rw [zg]; exact hy)
 rw [N0] at h
 exact h.get
theorem E9 (x y : List Int) (hx : x.length ≤ 9223372036854775807) (hy : y.length ≤ 9223372036854775807) : ∃ k, yD k (x, y) = some (decide (x = y)) := by
 have h := fp x y (by rw [zg]; exact hx) (by rw [zg]; exact hy)
 have e : (x == y) = decide (x = y) := by by_cases e : x = y <;> simp [e]
 rw [e] at h
 exact h.get
end Qc
