/-
  What the laws lean on: what the functions come to.
  Conditions: numbers and lengths are such as a machine bears.
-/
import Derived.Test.YtgbbdagfjenmeaaGreatDoorPt
import Derived.Test.YtgbbdagfjenmeaaGreatDoorVd
import Derived.Laws.BitsLemmas
import Derived.Test.YtgbbdagfjenmeaaGreatDoorCmf
import Derived.Lib.ItoaLen
namespace Go.Vt
end Go.Vt
namespace Qq
open Go Go.Vt
set_option linter.unusedVariables false
set_option linter.unusedSimpArgs false
theorem zc : maxLen = 9223372036854775807 := by unfold maxLen; decide
theorem za : rowMax = 4294967296 := rfl
theorem zg {x : Int} (h1 : -9223372036854775808 ≤ x) (h2 : x ≤ 9223372036854775807) : IntKind.i64.wrap x = x := by
 rw [IntKind.wrap_i64]; omega
def In (x : Int) : Prop := -9223372036854775808 ≤ x ∧ x ≤ 9223372036854775807
theorem In.of_fits {x : Int} (h : Fits (.int .i64) x) : In x := by
 have h' : IntKind.i64.min ≤ x ∧ x ≤ IntKind.i64.max := h
 have e1 : IntKind.i64.min = -9223372036854775808 := by decide
 have e2 : IntKind.i64.max = 9223372036854775807 := by decide
 unfold In; rw [e1, e2] at h'; exact h'
def Ins (xs : List Int) : Prop := ∀ x ∈ xs, In x
structure AtCons {α : Type} (xs : List α) (i : Nat) (y : α) (rest : List α) : Prop where
 lt : i < xs.length
 g : decide ((i : Int) < (xs.length : Int)) = true
 z : decide ((0 : Int) ≤ (i : Int)) = true
 n : decide ((i : Int).toNat < xs.length) = true
 get : ∀ d, xs.getD (i : Int).toNat d = y
 w : IntKind.i64.wrap ((i : Int) + 1) = ((i + 1 : Nat) : Int)
 next : xs.drop (i + 1) = rest
 mem : y ∈ xs
 gt : ∀ d, xs.getD i d = y
 le : decide ((i : Int) ≤ (xs.length : Int)) = true
theorem zi {α : Type} {xs : List α} {i : Nat} {y : α} {rest : List α} (h : xs.drop i = y :: rest) (hm : xs.length ≤ maxLen) : AtCons xs i y rest := by
 rw [zc] at hm
 have lt : i < xs.length := by
  rcases Nat.lt_or_ge i xs.length with h1 | h1
  ·exact h1
  ·rw [List.drop_eq_nil_of_le h1] at h; cases h
 have e := List.drop_eq_getElem_cons lt
 rw [e] at h
 have hy : xs[i] = y := by injection h
 refine ⟨lt, by simp; omega, by simp, by simp; omega, fun d => by simp [List.getD, lt, hy], by rw [zg (by omega) (by omega)]; simp, by injection h, by rw [← hy]; exact List.getElem_mem lt, fun d => by simp [List.getD, lt, hy], by simp; omega⟩
structure AtNil {α : Type} (xs : List α) (i : Nat) : Prop where
 ge : xs.length ≤ i
 g : decide ((i : Int) < (xs.length : Int)) = false
theorem zz {α : Type} {xs : List α} {i : Nat} (h : xs.drop i = []) : AtNil xs i := by
 have ge : xs.length ≤ i := List.drop_eq_nil_iff.1 h
 exact ⟨ge, by simp; omega⟩
structure AtUp (n : Int) (i : Nat) : Prop where
 lt : (i : Int) < n
 g : decide ((i : Int) < n) = true
 z : decide ((0 : Int) ≤ (i : Int)) = true
 w : IntKind.i64.wrap ((i : Int) + 1) = ((i + 1 : Nat) : Int)
theorem DH {n : Int} {i : Nat} (h : (i : Int) < n) (hn : n ≤ 9223372036854775807) : AtUp n i :=
 ⟨h, by simp [h], by simp, by rw [zg (by omega) (by omega)]; simp⟩
theorem Dq {n : Int} {i : Nat} (h : n ≤ (i : Int)) : decide ((i : Int) < n) = false := by simp [h]
end Qq
namespace Qq
open Go Go.Vt Pt
set_option linter.unusedVariables false
set_option linter.unusedSimpArgs false
theorem xf (x lo hi : Int) : Ev (fun k => yJ k (x, lo, hi)) (decide (lo ≤ x) && decide (x ≤ hi)) := by
 refine Ev.step (fun k => He k x lo hi) (Ev.ite (fun h => ?_) (fun h => ?_))
 ·have h' : lo ≤ x := by simpa using h
  exact Ev.some (by simp [h'])
 ·have h' : ¬ lo ≤ x := by simpa using h
  exact Ev.some (by simp [h'])
theorem Si (xs : List Int) (n : Int) (hx : xs.length ≤ maxLen) (hn : 0 ≤ n) (hn2 : n ≤ 1048576) :
 Ev (fun k => XR k (xs, n)) (if n - (xs.length : Int) < 0 then -1 else n - xs.length) := by
 rw [zc] at hx
 refine Ev.step (fun k => Kb k xs n) ?_
 rw [zg (by omega) (by omega)]
 split
 ·rename_i h; exact Ev.yes (by simpa using h) (Ev.pure _)
 ·rename_i h; exact Ev.no (by simpa using h) (Ev.pure _)
theorem Tf (xs ys : List Int) (hx : xs.length ≤ maxLen) (hy : ys.length ≤ maxLen) : ∀ (r s : List Int) (i : Nat), xs.drop i = r → ys.drop i = s → s.length = r.length → Ev (fun k => cD k xs ys (i : Int)) (r == s)
 | [], [], i, h1, h2, hl => by
   have a := zz h1
   refine Ev.step (fun k => YF k xs ys i) ?_
   simp only [a.g, cond_false]
   exact Ev.pure _
 | x :: r, y :: s, i, h1, h2, hl => by
   have a := zi h1 hx
   have b := zi h2 hy
   refine Ev.step (fun k => YF k xs ys i) ?_
   simp only [a.g, a.z, b.g, a.get, b.get, a.w, cond_true]
   have ih := Tf xs ys hx hy r s (i + 1) a.next b.next (by simpa using hl)
   refine Ev.ite (fun h => Ev.some ?_) (fun h => ih.to ?_)
   ·have : ¬ x = y := by simpa using h
    simp [this]
   ·have : x = y := by simpa using h
    simp [this]
 | [], _ :: _, _, _, _, hl => by simp at hl
 | _ :: _, [], _, _, _, hl => by simp at hl
theorem RV (xs ys : List Int) (hx : xs.length ≤ maxLen) (hy : ys.length ≤ maxLen) : Ev (fun k => XS k (xs, ys)) (xs == ys) := by
 refine Ev.step (fun k => Ke k xs ys) (Ev.ite (fun h => Ev.some ?_) (fun h => Tf xs ys hx hy xs ys 0 rfl rfl ?_))
 ·have h' : ¬ xs.length = ys.length := by simp at h; omega
  have : ¬ xs = ys := fun e => h' (by rw [e])
  simp [this]
 ·simp at h; omega
theorem Gh {α : Type} {n : Nat} {xs ys : List α} {i : Nat} {d : α} (hi : i < xs.length) (hl : ys.length = xs.length) (h : ys.take i = xs.take i) : (ys.set i (xs.getD i d)).take (i + 1) = xs.take (i + 1) := by
 have g1 : xs.getD i d = xs[i] := by simp [List.getD, hi]
 rw [g1, List.take_succ_eq_append_getElem (by simp; omega), List.take_succ_eq_append_getElem hi, List.take_set_of_le (by omega), h]
 simp
theorem UB (xs : List Int) (hm : xs.length ≤ maxLen) : ∀ (r : List Int) (i : Nat) (ys : List Int), xs.drop i = r → ys.length = xs.length → ys.take i = xs.take i → Ev (fun k => cx k xs (i : Int) ys) xs
 | [], i, ys, h, hl, ht => by
   have a := zz h
   refine Ev.step (fun k => YA k xs i ys) ?_
   simp only [a.g, cond_false]
   have e : ys = xs := by
    have := a.ge
    rwa [List.take_of_length_le (by omega), List.take_of_length_le (by omega)] at ht
   exact Ev.some e
 | x :: r, i, ys, h, hl, ht => by
   have a := zi h hm
   have b1 : decide ((i : Int) < (ys.length : Int)) = true := by rw [hl]; exact a.g
   have b2 : decide ((i : Int).toNat < ys.length) = true := by rw [hl]; exact a.n
   refine Ev.step (fun k => YA k xs i ys) ?_
   simp only [a.g, a.z, b1, b2, a.w, cond_true]
   have hs := Gh (n := 0) (d := 0) a.lt hl ht
   exact UB xs hm r (i + 1) _ a.next (by simp [hl]) (by simpa using hs)
theorem Se (xs : List Int) (hm : xs.length ≤ 1048576) : Ev (fun k => XQ k xs) xs := by
 refine Ev.step (fun k => Ka k xs) (Ev.yes (by simp) (Ev.yes (by rw [za]; simp; omega) (Ev.yes (by simp) ?_)))
 exact UB xs (by rw [zc]; omega) xs 0 _ rfl (by simp) (by simp)
end Qq
namespace Qq
open Go Go.Vt Pt
set_option linter.unusedVariables false
set_option linter.unusedSimpArgs false
def ja (n : Int) (m : Int × Int) : Bool :=
 decide (1 ≤ n) && (decide (n ≤ 12) && (decide (0 ≤ m.2) &&
  (if m.1 = 1 then decide (m.2 ≤ n) else if m.1 = 2 then decide (m.2 ≤ n) else if m.1 = 3 then decide (m.2 ≤ n) else
   if m.1 = 4 then decide (m.2 ≤ 1) else if m.1 = 5 then decide (m.2 ≤ 1) else if m.1 = 7 then decide (m.2 ≤ 1) else
   if m.1 = 6 then m.2 == 0 else if m.1 = 8 then decide (m.2 < n) else if m.1 = 9 then decide (m.2 < n) else false)))
theorem KG (n : Int) (m : Int × Int) : Ev (fun k => Nw k (n, m)) (ja n m) := by
 obtain ⟨a, b⟩ := m
 refine Ev.step (fun k => KH k n (a, b)) ?_
 unfold ja
 refine Ev.ite (fun h => Ev.some ?_) (fun h => ?_)
 ·have : ¬ 1 ≤ n := by simpa using h
  simp [this]
 have h1 : 1 ≤ n := by simpa using h
 refine Ev.ite (fun h => Ev.some ?_) (fun h => ?_)
 ·have : ¬ n ≤ 12 := by simpa using h
  simp [this]
 have h2 : n ≤ 12 := by simpa using h
 refine Ev.ite (fun h => Ev.some ?_) (fun h => ?_)
 ·have : ¬ 0 ≤ b := by simpa using h
  simp [this]
 have h3 : 0 ≤ b := by simpa using h
 clear h
 simp only [h1, h2, h3, decide_true, Bool.true_and]
 iterate 9 (refine Ev.ite (fun h => ?_) (fun h => ?_); · exact Ev.some (by simp at *; simp [*]))
 exact Ev.some (by simp at *; simp [*])
theorem Kp (n : Int) (m : Int × Int) : Ev (fun k => Nb k (n, m)) (ja n m) := by
 obtain ⟨a, b⟩ := m
 refine Ev.step (fun k => Kq k n (a, b)) (Ev.bind (xf _ _ _) ?_)
 unfold ja
 refine Ev.ite (fun h => ?_) (fun h => ?_)
 ·exact Ev.some (by rw [Bool.eq_iff_iff]; simp at *; omega)
 have hn : 1 ≤ n ∧ n ≤ 12 := by simpa using h
 iterate 6 (refine Ev.ite (fun h => ?_) (fun h => ?_); · exact Ev.bind (xf _ _ _) (Ev.some (by rw [Bool.eq_iff_iff]; simp at *; try simp [*]; try (intros; omega))))
 refine Ev.ite (fun h => ?_) (fun h => ?_)
 ·exact Ev.some (by rw [Bool.eq_iff_iff]; simp at *; try simp [*]; try (intros; omega))
 rw [zg (by omega) (by omega)]
 iterate 2 (refine Ev.ite (fun h => ?_) (fun h => ?_); · exact Ev.bind (xf _ _ _) (Ev.some (by rw [Bool.eq_iff_iff]; simp at *; try simp [*]; try (intros; omega))))
 exact Ev.some (by rw [Bool.eq_iff_iff]; simp at *; try simp [*]; try (intros; omega))
def zP (n : Int) (s : Int × (Int × Int) × Int) : Bool :=
 decide (1 ≤ n) && (decide (n ≤ 12) &&
  (if s.1 = 1 then ja n s.2.1 && s.2.2 == 0 else
   if s.1 = 2 then s.2.1.1 == 0 && (s.2.1.2 == 0 && (decide (0 ≤ s.2.2) && (decide (s.2.2 ≤ 4) && ((!(s.2.2 == 3) || decide (2 ≤ n)) && (!(s.2.2 == 2) || decide (n ≤ 7)))))) else
   if s.1 = 3 then s.2.1.1 == 0 && (s.2.1.2 == 0 && (decide (0 ≤ s.2.2) && decide (s.2.2 < n))) else false))
theorem RI (n : Int) (s : Int × (Int × Int) × Int) : Ev (fun k => TV k (n, s)) (zP n s) := by
 obtain ⟨t, ⟨a, b⟩, c⟩ := s
 refine Ev.step (fun k => KF k n (t, (a, b), c)) ?_
 unfold zP
 refine Ev.ite (fun h => Ev.some ?_) (fun h => ?_)
 ·have : ¬ 1 ≤ n := by simpa using h
  simp [this]
 have h1 : 1 ≤ n := by simpa using h
 refine Ev.ite (fun h => Ev.some ?_) (fun h => ?_)
 ·have : ¬ n ≤ 12 := by simpa using h
  simp [this]
 have h2 : n ≤ 12 := by simpa using h
 clear h
 simp only [h1, h2, decide_true, Bool.true_and]
 refine Ev.ite (fun h => ?_) (fun h => ?_)
 ·have e : t = 1 := by simpa using h
  subst e
  exact Ev.bind (KG n (a, b)) (Ev.ite (fun h => Ev.some (by simp at *; simp [*])) (fun h => Ev.some (by simp at *; simp [*])))
 have t1 : ¬ t = 1 := by simpa using h
 simp only [t1, if_false]
 repeat (first | (refine Ev.ite (fun h => ?_) (fun h => ?_)) | focus (refine Ev.some ?_; simp_all; done) | focus (refine Ev.some ?_; simp_all; omega) | focus (refine Ev.some ?_; rw [Bool.eq_iff_iff]; simp at *; omega))
theorem M7 (n c : Int) : Ev (fun k => Xu k (n, c)) (decide (0 ≤ c) && (decide (c ≤ 4) && ((!(c == 3) || decide (2 ≤ n)) && (!(c == 2) || decide (n ≤ 7))))) := by
 refine Ev.step (fun k => Qs k n c) (Ev.bind (xf _ _ _) ?_)
 repeat (first | (refine Ev.ite (fun h => ?_) (fun h => ?_)) | focus (refine Ev.some ?_; simp_all; done) | focus (refine Ev.some ?_; simp_all; omega) | focus (refine Ev.some ?_; rw [Bool.eq_iff_iff]; simp at *; omega))
theorem Kn (n : Int) (s : Int × (Int × Int) × Int) : Ev (fun k => P7 k (n, s)) (zP n s) := by
 obtain ⟨t, ⟨a, b⟩, c⟩ := s
 refine Ev.step (fun k => Ko k n (t, (a, b), c)) (Ev.bind (xf _ _ _) ?_)
 unfold zP
 refine Ev.ite (fun h => Ev.some ?_) (fun h => ?_)
 ·rcases Int.lt_or_le n 1 with h1 | h1
  ·have : ¬ 1 ≤ n := by omega
   simp [this]
  ·have : ¬ n ≤ 12 := by simp at h; omega
   simp [this]
 have hn : 1 ≤ n ∧ n ≤ 12 := by simpa using h
 clear h
 simp only [hn.1, hn.2, decide_true, Bool.true_and]
 refine Ev.ite (fun h => ?_) (fun h => ?_)
 ·have e : t = 1 := by simpa using h
  subst e
  exact Ev.bind (Kp n (a, b)) (Ev.ite (fun h => Ev.some (by simp at *; simp [*])) (fun h => Ev.some (by simp at *; simp [*])))
 have t1 : ¬ t = 1 := by simpa using h
 simp only [t1, if_false]
 clear h
 rw [zg (by omega) (by omega)]
 refine Ev.ite (fun h => ?_) (fun h => ?_)
 ·have e : t = 2 := by simpa using h
  subst e
  refine Ev.ite (fun h => ?_) (fun h => Ev.some ?_)
  ·exact Ev.bind (M7 n c) (Ev.some (by simp at *; simp [*]))
  ·cases ha : (a == 0) <;> cases hb : (b == 0) <;> simp_all
 have t2 : ¬ t = 2 := by simpa using h
 simp only [t2, if_false]
 clear h
 refine Ev.ite (fun h => ?_) (fun h => ?_)
 ·have e : t = 3 := by simpa using h
  subst e
  refine Ev.ite (fun h => ?_) (fun h => Ev.some ?_)
  ·refine Ev.bind (xf _ _ _) (Ev.some ?_)
   have e2 : decide (c ≤ n - 1) = decide (c < n) := by rw [Bool.eq_iff_iff]; simp; omega
   simp at h
   simp [h, e2]
  ·cases ha : (a == 0) <;> cases hb : (b == 0) <;> simp_all
 ·have t3 : ¬ t = 3 := by simpa using h
  exact Ev.some (by simp [t3])
theorem Gc (m : Int × Int) : Ev (fun k => PM k m) m := Ev.step (fun k => L9 k m) (Ev.pure _)
theorem Gb (s : Int × (Int × Int) × Int) : Ev (fun k => PL k s) (s.1, (s.2.1.1, (s.2.1.2, s.2.2))) := Ev.step (fun k => L8 k s) (Ev.bind (Gc _) (Ev.pure _))
end Qq
namespace Qq
open Go Go.Vt Pt
set_option linter.unusedVariables false
set_option linter.unusedSimpArgs false
theorem U1 (x : Int) (xs : List Int) (hm : xs.length ≤ maxLen) : ∀ (r : List Int) (i : Nat), xs.drop i = r → Ev (fun k => cS k x xs (xs.length : Int) (i : Int)) (r.contains x)
 | [], i, h => by
   have a := zz h
   refine Ev.step (fun k => YM k x xs _ i) ?_
   simp only [a.g, cond_false]
   exact Ev.pure _
 | y :: r, i, h => by
   have a := zi h hm
   refine Ev.step (fun k => YM k x xs _ i) ?_
   simp only [a.g, a.z, a.get, a.w, cond_true]
   refine Ev.ite (fun h => Ev.some ?_) (fun h => (U1 x xs hm r (i + 1) a.next).to ?_)
   ·have : y = x := by simpa using h
    simp [this]
   ·have : ¬ y = x := by simpa using h
    have h2 : ¬ x = y := fun e => this e.symm
    simp [h2]
theorem GE (xs : List Int) (x : Int) (hm : xs.length ≤ maxLen) : Ev (fun k => P4 k (xs, x)) (xs.contains x) :=
 Ev.step (fun k => Kl k xs x) (U1 x xs hm xs 0 rfl)
end Qq
namespace Qq
open Go Go.Vt Pt
set_option linter.unusedVariables false
set_option linter.unusedSimpArgs false
theorem MY : ∀ (n : Nat) (l : List Int), l.Nodup → (∀ x ∈ l, 0 ≤ x ∧ x < (n : Int)) → l.length ≤ n
 | 0, l, _, h => by
   cases l with
   | nil => simp
   | cons x l => have := h x (by simp); omega
 | n + 1, l, hd, h => by
   have h1 := MY n (l.erase (n : Int)) (hd.erase _) (fun x hx => by
    have hx' := (hd.mem_erase_iff).1 hx
    have := h x hx'.2
    have : x ≠ (n : Int) := hx'.1
    omega)
   have h2 := List.length_erase (a := (n : Int)) (l := l)
   split at h2 <;> omega
end Qq
namespace Qq
open Go Go.Vt Pt
set_option linter.unusedVariables false
set_option linter.unusedSimpArgs false
def card (x : Int) : Int := if 0 ≤ x ∧ x ≤ 11 then x else if -12 ≤ x ∧ x ≤ -1 then -1 - x else -1
theorem R4 (x : Int) : -1 ≤ card x ∧ card x ≤ 11 := by unfold card; split; · omega
                                                       split <;> omega
theorem ws (x : Int) : Ev (fun k => jK k x) (card x) := by
 refine Ev.step (fun k => Kr k x) (Ev.bind (xf _ _ _) (Ev.ite (fun h => Ev.some ?_) (fun h => Ev.bind (xf _ _ _) (Ev.ite (fun h' => ?_) (fun h' => Ev.some ?_)))))
 ·have : 0 ≤ x ∧ x ≤ 11 := by simpa using h
  simp [card, this]
 ·have h1 : ¬ (0 ≤ x ∧ x ≤ 11) := by simp at h; omega
  have h2 : -12 ≤ x ∧ x ≤ -1 := by simpa using h'
  rw [zg (by omega) (by omega)]
  exact Ev.some (by unfold card; rw [if_neg h1, if_pos h2])
 ·have h1 : ¬ (0 ≤ x ∧ x ≤ 11) := by simp at h; omega
  have h2 : ¬ (-12 ≤ x ∧ x ≤ -1) := by simp at h'; omega
  unfold card; rw [if_neg h1, if_neg h2]
theorem xT (x : Int) (hx : In x) : Ev (fun k => vU k x) (card x) := by
 obtain ⟨a, b⟩ := hx
 refine Ev.step (fun k => KI k x) ?_
 refine Ev.ite (fun h => ?_) (fun h => ?_)
 ·have h1 : x < 0 := by simpa using h
  rw [zg (by omega) (by omega)]
  have h2 : ¬ (0 ≤ x ∧ x ≤ 11) := by omega
  refine Ev.ite (fun h' => Ev.some ?_) (fun h' => Ev.some ?_)
  ·have h3 : ¬ (-12 ≤ x ∧ x ≤ -1) := by simp at h'; omega
   unfold card; rw [if_neg h2, if_neg h3]
  ·have h3 : (-12 ≤ x ∧ x ≤ -1) := by simp at h'; omega
   unfold card; rw [if_neg h2, if_pos h3]
 ·have h1 : ¬ x < 0 := by simpa using h
  have h3 : ¬ (-12 ≤ x ∧ x ≤ -1) := by omega
  refine Ev.ite (fun h' => Ev.some ?_) (fun h' => Ev.some ?_)
  ·have h2 : ¬ (0 ≤ x ∧ x ≤ 11) := by simp at h'; omega
   unfold card; rw [if_neg h2, if_neg h3]
  ·have h2 : (0 ≤ x ∧ x ≤ 11) := by simp at h'; omega
   unfold card; rw [if_pos h2]
def pk : List Int → List Int → Bool
 | _, [] => true
 | done, x :: r => decide (0 ≤ card x) && (!(done.contains (card x)) && pk (done ++ [card x]) r)
def zj (p : List Int) : Bool := pk [] p
theorem Jj : ∀ (r done : List Int), done.Nodup → pk done r = true → (done ++ r.map card).Nodup ∧ ∀ x ∈ r, 0 ≤ card x
 | [], done, hd, h => by simp [hd]
 | x :: r, done, hd, h => by
   unfold pk at h
   simp only [Bool.and_eq_true, decide_eq_true_eq, Bool.not_eq_true'] at h
   obtain ⟨h1, h3, h4⟩ := h
   have hx : card x ∉ done := by simpa using h3
   obtain ⟨k1, k2⟩ := Jj r (done ++ [card x]) (by
    rw [List.nodup_append]
    exact ⟨hd, by simp, fun a ha b hb e => by simp at hb; subst hb; subst e; exact hx ha⟩) h4
   refine ⟨by simpa using k1, fun y hy => ?_⟩
   rcases List.mem_cons.1 hy with rfl | hy
   ·exact h1
   ·exact k2 y hy
theorem yk {p : List Int} (h : zj p = true) : (p.map card).Nodup ∧ (∀ x ∈ p, 0 ≤ card x ∧ card x ≤ 11) ∧ p.length ≤ 12 := by
 obtain ⟨k1, k2⟩ := Jj p [] (by simp) h
 have k1' : (p.map card).Nodup := by simpa using k1
 have k3 := MY 12 (p.map card) k1' (fun x hx => by
  obtain ⟨y, hy, rfl⟩ := List.mem_map.1 hx
  have := k2 y hy
  have := R4 y
  omega)
 exact ⟨k1', fun x hx => ⟨k2 x hx, (R4 x).2⟩, by simpa using k3⟩
theorem bQ (xs : List Int) (hm : xs.length ≤ 12) : ∀ (r : List Int) (i : Nat) (done : List Int), xs.drop i = r → done.length = i → Ev (fun k => jJ k xs (xs.length : Int) (i : Int) done) (pk done r)
 | [], i, done, h, hd => by
   have a := zz h
   refine Ev.step (fun k => bR k _ _ _ _) ?_
   simp only [a.g, cond_false]
   exact Ev.pure _
 | x :: r, i, done, h, hd => by
   have a := zi h (by rw [zc]; omega)
   have hlt := a.lt
   refine Ev.step (fun k => bR k _ _ _ _) ?_
   simp only [a.g, a.z, a.get, a.w, cond_true]
   unfold pk
   refine Ev.bind (ws x) (Ev.ite (fun c => Ev.some ?_) (fun c => Ev.bind (GE done (card x) (by rw [zc]; omega)) (Ev.ite (fun c2 => Ev.some ?_) (fun c2 => Ev.yes (by rw [za]; simp; omega) ?_))))
   ·have : ¬ 0 ≤ card x := by simpa using c
    simp [this]
   ·simp only [c2, Bool.not_true, Bool.false_and, Bool.and_false]
   ·have e1 : decide (0 ≤ card x) = true := by simpa using c
    rw [e1, c2]
    exact bQ xs hm r (i + 1) _ a.next (by simp [hd])
theorem vI (p : List Int) (hm : p.length ≤ maxLen) : Ev (fun k => uc k p) (zj p) := by
 refine Ev.step (fun k => Na k p) (Ev.ite (fun h => Ev.some ?_) (fun h => ?_))
 ·symm
  rw [Bool.eq_false_iff]
  intro hp
  have := (yk hp).2.2
  simp at h; omega
 ·exact bQ p (by simp at h; omega) p 0 [] rfl rfl
def metL (done : List Int) : List Bool := (List.range 12).map fun (c : Nat) => done.contains (c : Int)
theorem WE (done : List Int) : (metL done).length = 12 := by simp [metL]
theorem FR (done : List Int) (c : Nat) (h : c < 12) (d : Bool) : (metL done).getD c d = done.contains (c : Int) := by
 simp [metL, List.getD, h]
theorem FQ (done : List Int) (c : Nat) (h : c < 12) : (metL done).set c true = metL (done ++ [(c : Int)]) := by
 apply List.ext_getElem?
 intro x
 rw [List.getElem?_set]
 by_cases hx : x < 12
 ·by_cases e : c = x
  ·subst e; simp [metL, h]
  ·have : ¬ x = c := fun h => e h.symm
   simp [metL, hx, e, this]; intro h; omega
 ·rw [if_neg (by omega), List.getElem?_eq_none (by rw [WE]; omega), List.getElem?_eq_none (by rw [WE]; omega)]
theorem b4 (xs : List Int) (hm : xs.length ≤ maxLen) (hi : Ins xs) : ∀ (r : List Int) (i : Nat) (done : List Int), xs.drop i = r → Ev (fun k => jN k xs (xs.length : Int) (i : Int) (metL done)) (pk done r)
 | [], i, done, h => by
   have a := zz h
   refine Ev.step (fun k => b5 k _ _ _ _) ?_
   simp only [a.g, cond_false]
   exact Ev.pure _
 | x :: r, i, done, h => by
   have a := zi h hm
   refine Ev.step (fun k => b5 k _ _ _ _) ?_
   simp only [a.g, a.z, a.get, a.w, cond_true]
   unfold pk
   refine Ev.bind (xT x (hi x a.mem)) (Ev.ite (fun c => Ev.some ?_) (fun c => ?_))
   ·have : ¬ 0 ≤ card x := by simpa using c
    simp [this]
   ·have hc : 0 ≤ card x := by simpa using c
    have hc2 := (R4 x).2
    have en : card x = ((card x).toNat : Int) := by omega
    have g1 : decide (0 ≤ card x) = true := by simp [hc]
    have g2 : decide (card x < ((metL done).length : Int)) = true := by rw [WE]; simp; omega
    have g3 : decide ((card x).toNat < (metL done).length) = true := by rw [WE]; simp; omega
    have g4 : (Nat.beq (metL done).length 12 && true) = true := by rw [WE]; rfl
    have g5 := FR done (card x).toNat (by omega) false
    rw [← en] at g5
    have g6 := FQ done (card x).toNat (by omega)
    rw [← en] at g6
    simp only [g1, g2, g3, g4, g5, g6, cond_true, Bool.true_and]
    refine Ev.ite (fun c2 => Ev.some ?_) (fun c2 => ?_)
    ·rw [c2]; rfl
    ·rw [c2]
     exact b4 xs hm hi r (i + 1) _ a.next
theorem wJ (p : List Int) (hm : p.length ≤ maxLen) (hi : Ins p) : Ev (fun k => vn k p) (zj p) :=
 Ev.step (fun k => Nv k p) (b4 p hm hi p 0 [] rfl)
def posF (c : Int) : Nat → List Int → Int
 | _, [] => -1
 | i, y :: r => if card y = c then (i : Int) else posF c (i + 1) r
def pos (p : List Int) (c : Int) : Int := if c < 0 then -1 else posF c 0 p
theorem gg (c : Int) (xs : List Int) (hm : xs.length ≤ maxLen) (hc : c < 0) : ∀ (r : List Int) (i : Nat), xs.drop i = r → Ev (fun k => xD k c xs (xs.length : Int) (i : Int)) (-1)
 | [], i, h => by
   have a := zz h
   refine Ev.step (fun k => wi k _ _ _ _) ?_
   simp only [a.g, cond_false]
   exact Ev.pure _
 | x :: r, i, h => by
   have a := zi h hm
   have ih := gg c xs hm hc r (i + 1) a.next
   refine Ev.step (fun k => wi k _ _ _ _) ?_
   simp only [a.g, a.z, a.get, a.w, cond_true]
   exact Ev.bind (ws x) (Ev.ite (fun _ => Ev.no (by simp; omega) ih) (fun _ => ih))
theorem fg (c : Int) (xs : List Int) (hm : xs.length ≤ maxLen) (hc : 0 ≤ c) : ∀ (r : List Int) (i : Nat), xs.drop i = r → Ev (fun k => xD k c xs (xs.length : Int) (i : Int)) (posF c i r)
 | [], i, h => by
   have a := zz h
   refine Ev.step (fun k => wi k _ _ _ _) ?_
   simp only [a.g, cond_false]
   exact Ev.pure _
 | x :: r, i, h => by
   have a := zi h hm
   have ih := fg c xs hm hc r (i + 1) a.next
   refine Ev.step (fun k => wi k _ _ _ _) ?_
   simp only [a.g, a.z, a.get, a.w, cond_true]
   unfold posF
   refine Ev.bind (ws x) (Ev.ite (fun h => Ev.yes (by simp; omega) (Ev.some ?_)) (fun h => ih.to ?_))
   ·have : card x = c := by simpa using h
    rw [if_pos this]
   ·have : ¬ card x = c := by simpa using h
    rw [if_neg this]
theorem vH (p : List Int) (c : Int) (hm : p.length ≤ maxLen) : Ev (fun k => vm k (p, c)) (pos p c) := by
 refine Ev.step (fun k => SD k p c) ?_
 unfold pos
 by_cases hc : c < 0
 ·rw [if_pos hc]; exact gg c p hm hc p 0 rfl
 ·rw [if_neg hc]; exact fg c p hm (by omega) p 0 rfl
theorem ZG (c : Int) (xs : List Int) (hm : xs.length ≤ maxLen) (hi : Ins xs) : ∀ (r : List Int) (i : Nat), xs.drop i = r → Ev (fun k => zy k xs c (xs.length : Int) (i : Int)) (posF c i r)
 | [], i, h => by
   have a := zz h
   refine Ev.step (fun k => yo k _ _ _ _) ?_
   simp only [a.g, cond_false]
   exact Ev.pure _
 | x :: r, i, h => by
   have a := zi h hm
   have ih := ZG c xs hm hi r (i + 1) a.next
   refine Ev.step (fun k => yo k _ _ _ _) ?_
   simp only [a.g, a.z, a.get, a.w, cond_true]
   unfold posF
   have h1 : Ev (fun k => fQ k (x, c)) (card x == c) := Ev.step (fun k => Ub k x c) (Ev.bind (xT x (hi x a.mem)) (Ev.pure _))
   refine Ev.bind h1 (Ev.ite (fun h => Ev.some ?_) (fun h => ih.to ?_))
   ·have : card x = c := by simpa using h
    rw [if_pos this]
   ·have : ¬ card x = c := by simpa using h
    rw [if_neg this]
theorem ZF (p : List Int) (c : Int) (hm : p.length ≤ maxLen) (hi : Ins p) : Ev (fun k => fu k (p, c)) (pos p c) := by
 refine Ev.step (fun k => RK k p c) ?_
 unfold pos
 refine Ev.ite (fun h => Ev.some ?_) (fun h => Ev.bind (Ev.step (fun k => wa k p c) (ZG c p hm hi p 0 rfl)) (Ev.some ?_))
 ·have : c < 0 := by simpa using h
  rw [if_pos this]
 ·have : ¬ c < 0 := by simpa using h
  rw [if_neg this]
def V2 (p q : List Int) : Bool := zj p && (zj q && (p.length == q.length && p.all fun x => decide (0 ≤ pos q (card x))))
theorem uZ (q xs : List Int) (hm : xs.length ≤ maxLen) (hq : q.length ≤ maxLen) : ∀ (r : List Int) (i : Nat), xs.drop i = r → Ev (fun k => wj k q xs (xs.length : Int) (i : Int)) (r.all fun x => decide (0 ≤ pos q (card x)))
 | [], i, h => by
   have a := zz h
   refine Ev.step (fun k => u4 k _ _ _ _) ?_
   simp only [a.g, cond_false]
   exact Ev.pure _
 | x :: r, i, h => by
   have a := zi h hm
   have ih := uZ q xs hm hq r (i + 1) a.next
   refine Ev.step (fun k => u4 k _ _ _ _) ?_
   simp only [a.g, a.z, a.get, a.w, cond_true]
   refine Ev.bind (ws x) (Ev.bind (vH q (card x) hq) (Ev.ite (fun h => Ev.some ?_) (fun h => ih.to ?_)))
   ·have : ¬ 0 ≤ pos q (card x) := by simpa using h
    simp [this]
   ·have : 0 ≤ pos q (card x) := by simpa using h
    simp [this]
theorem Ws (p q : List Int) (hp : p.length ≤ maxLen) (hq : q.length ≤ maxLen) : Ev (fun k => gj k (p, q)) (V2 p q) := by
 unfold V2
 refine Ev.step (fun k => Wt k p q) (Ev.bind (vI p hp) (Ev.ite (fun h => Ev.some ?_) (fun h => Ev.bind (vI q hq) (Ev.ite (fun h2 => Ev.some ?_) (fun h2 => Ev.ite (fun h3 => Ev.some ?_) (fun h3 => ?_))))))
 ·have : zj p = false := by simpa using h
  rw [this]; rfl
 ·have : zj q = false := by simpa using h2
  rw [this]; simp
 ·have : (p.length == q.length) = false := by simp at h3 ⊢; omega
  rw [this]; simp
 ·have e1 : zj p = true := by simpa using h
  have e2 : zj q = true := by simpa using h2
  have e3 : (p.length == q.length) = true := by simp at h3 ⊢; omega
  rw [e1, e2, e3]
  exact uZ q p hp hq p 0 rfl
def noPos (q : List Int) : Nat → List Int → Int
 | _, [] => -1
 | i, x :: r => if pos q (card x) < 0 then (i : Int) else noPos q (i + 1) r
theorem MZ (q : List Int) : ∀ (r : List Int) (i : Nat), (!(decide (noPos q i r ≥ 0))) = r.all fun x => decide (0 ≤ pos q (card x))
 | [], i => by simp [noPos]
 | x :: r, i => by
   unfold noPos
   by_cases h : pos q (card x) < 0
   ·rw [if_pos h]
    have : ¬ 0 ≤ pos q (card x) := by omega
    simp [this]
   ·rw [if_neg h, MZ q r (i + 1)]
    have : 0 ≤ pos q (card x) := by omega
    simp [this]
theorem ZK (q xs : List Int) (hm : xs.length ≤ maxLen) (hi : Ins xs) (hq : q.length ≤ maxLen) (hiq : Ins q) : ∀ (r : List Int) (i : Nat), xs.drop i = r → Ev (fun k => zu k xs q (xs.length : Int) (i : Int)) (noPos q i r)
 | [], i, h => by
   have a := zz h
   refine Ev.step (fun k => yd k _ _ _ _) ?_
   simp only [a.g, cond_false]
   exact Ev.pure _
 | x :: r, i, h => by
   have a := zi h hm
   have ih := ZK q xs hm hi hq hiq r (i + 1) a.next
   refine Ev.step (fun k => yd k _ _ _ _) ?_
   simp only [a.g, a.z, a.get, a.w, cond_true]
   unfold noPos
   have h1 : Ev (fun k => ui k (x, q)) (decide (pos q (card x) < 0)) := Ev.step (fun k => Yx k x q) (Ev.bind (xT x (hi x a.mem)) (Ev.bind (ZF q _ hq hiq) (Ev.pure _)))
   refine Ev.bind h1 (Ev.ite (fun h => Ev.some ?_) (fun h => ih.to ?_))
   ·have : pos q (card x) < 0 := by simpa using h
    rw [if_pos this]
   ·have : ¬ pos q (card x) < 0 := by simpa using h
    rw [if_neg this]
theorem W2 (p q : List Int) (hp : p.length ≤ maxLen) (hip : Ins p) (hq : q.length ≤ maxLen) (hiq : Ins q) : Ev (fun k => gG k (p, q)) (V2 p q) := by
 unfold V2
 refine Ev.step (fun k => W3 k p q) (Ev.bind (wJ p hp hip) (Ev.ite (fun h => Ev.some ?_) (fun h => Ev.bind (wJ q hq hiq) (Ev.ite (fun h2 => Ev.some ?_) (fun h2 => Ev.ite (fun h3 => Ev.some ?_) (fun h3 => ?_))))))
 ·have : zj p = false := by simpa using h
  rw [this]; rfl
 ·have : zj q = false := by simpa using h2
  rw [this]; simp
 ·have : (p.length == q.length) = false := by simp at h3 ⊢; omega
  rw [this]; simp
 ·have e1 : zj p = true := by simpa using h
  have e2 : zj q = true := by simpa using h2
  have e3 : (p.length == q.length) = true := by simp at h3 ⊢; omega
  rw [e1, e2, e3, ← MZ q p 0]
  exact Ev.bind (Ev.step (fun k => xp k p q) (Ev.bind (Ev.step (fun k => xL k p q) (ZK q p hp hip hq hiq p 0 rfl)) (Ev.pure _))) (Ev.some (by simp))
end Qq
namespace Qq
open Go Go.Vt Pt
set_option linter.unusedVariables false
set_option linter.unusedSimpArgs false
theorem yX (xs : List Int) (hm : xs.length ≤ 1048576) : Ev (fun k => zB k xs) xs := by
 refine Ev.step (fun k => Xt k xs) (Ev.ite (fun h => ?_) (fun h => ?_))
 ·exact Ev.yes (by rw [za]; simp; omega) (Ev.some (by simp))
 ·have : xs = [] := by simpa using h
  subst this
  exact Ev.both (Ev.pure _) (Ev.yes (by simp) (Ev.some rfl))
end Qq
namespace Qq
open Go Go.Vt Pt
set_option linter.unusedVariables false
set_option linter.unusedSimpArgs false
set_option linter.unnecessarySimpa false
theorem xr {α : Type} (l : List α) : l.take ((l.length : Int)).toNat = l := by simp
def turn (x : Int) : Int := if card x < 0 then x else -1 - x
theorem ET {x : Int} (h : In x) : In (turn x) := by
 unfold turn
 unfold In at *
 split
 ·exact h
 ·omega
theorem Wn (x : Int) (hx : In x) : Ev (fun k => Z5 k x) (turn x) := by
 have h1 := hx.1
 have h2 := hx.2
 refine Ev.step (fun k => P6 k x) (Ev.bind (ws x) ?_)
 rw [zg (by omega) (by omega)]
 refine Ev.ite (fun h => Ev.some ?_) (fun h => Ev.some ?_)
 ·have : card x < 0 := by simpa using h
  simp [turn, this]
 ·have : ¬ card x < 0 := by simpa using h
  simp only [turn, if_neg this]
theorem WY (x : Int) (hx : In x) : Ev (fun k => Yg k x) (turn x) := by
 have h1 := hx.1
 have h2 := hx.2
 refine Ev.step (fun k => Nt k x) (Ev.bind (xT x hx) ?_)
 rw [zg (by omega) (by omega)]
 refine Ev.ite (fun h => Ev.some ?_) (fun h => Ev.some ?_)
 ·have : card x < 0 := by simpa using h
  simp [turn, this]
 ·have : ¬ card x < 0 := by simpa using h
  simp only [turn, if_neg this]
theorem Gd {α : Type} (p : List α) (i : Nat) (h : i < p.length) : (p.take (i + 1)).reverse = p[i] :: (p.take i).reverse := by
 rw [List.take_add_one, List.getElem?_eq_getElem h]; simp
theorem aX (p : List Int) (hp : p.length ≤ 12) (hi : Ins p) (n : Nat) (hn : n ≤ p.length) (up : Bool) : ∀ (i : Nat) (out : List Int), i ≤ n → out.length + i ≤ 12 →
 Ev (fun k => uW k p (n : Int) up ((i : Int) - 1) out) (out ++ (p.take i).reverse.map (fun x => bif up then turn x else x) ++ p.drop n)
 | 0, out, h, ho => by
   refine Ev.step (fun k => aY k _ _ _ _ _) ?_
   simp only [xr, Int.toNat_natCast]
   refine Ev.no (by simp) (Ev.yes (by (first | (simp [za]; done) | (simp [za]; omega) | omega)) (Ev.yes (by (first | (simp [za]; done) | (simp [za]; omega) | omega)) (Ev.yes (by (first | (simp [za]; done) | (simp [za]; omega) | omega)) (Ev.yes (by (first | (simp [za]; done) | (simp [za]; omega) | omega)) (Ev.some ?_)))))
   simp
 | i + 1, out, h, ho => by
   have hlt : i < p.length := by omega
   have e0 : ((i + 1 : Nat) : Int) - 1 = (i : Int) := by omega
   have hg : p.getD (i : Int).toNat 0 = p[i] := by simp [List.getD, hlt]
   have hin : In p[i] := hi _ (List.getElem_mem hlt)
   refine Ev.step (fun k => aY k _ _ _ _ _) ?_
   simp only [e0, hg, zg (x := (i : Int) - 1) (by omega) (by omega)]
   have ih := fun o (ho : o.length + i ≤ 12) => aX p hp hi n hn up i o (by omega) ho
   rw [Gd p i hlt]
   cases up with
   | true =>
     refine Ev.yes (by simp) (Ev.yes rfl (Ev.yes (by simp) (Ev.yes (by (first | (simp [za]; done) | (simp [za]; omega) | omega)) (Ev.bind (Wn _ hin) (Ev.yes (by (first | (simp [za]; done) | (simp [za]; omega) | omega)) ?_)))))
     exact (ih _ (by simp; omega)).to (by simp)
   | false =>
     refine Ev.yes (by simp) (Ev.no rfl (Ev.yes (by simp) (Ev.yes (by (first | (simp [za]; done) | (simp [za]; omega) | omega)) (Ev.yes (by (first | (simp [za]; done) | (simp [za]; omega) | omega)) ?_))))
     exact (ih _ (by simp; omega)).to (by simp)
theorem Za (p : List Int) (hp : p.length ≤ 12) (hi : Ins p) (n : Nat) (hn : n ≤ p.length) (up : Bool) :
 Ev (fun k => Zb k (p, (n : Int), up)) ((p.take n).reverse.map (fun x => bif up then turn x else x) ++ p.drop n) := by
 refine Ev.step (fun k => MB k _ _ _) ?_
 rw [zg (x := (n : Int) - 1) (by omega) (by omega)]
 exact (aX p hp hi n hn up n [] (Nat.le_refl _) (by simp; omega)).to (by simp)
def fz : Bool → List Int → List Int → List Int
 | _, [], [] => []
 | f, x :: a, [] => x :: fz (!f) a []
 | f, [], y :: b => y :: fz (!f) [] b
 | true, x :: a, y :: b => x :: fz false a (y :: b)
 | false, x :: a, y :: b => y :: fz true (x :: a) b
termination_by _ a b => a.length + b.length
theorem parity (k : Int) (hk : k = 0 ∨ k = 1) (n : Nat) : (((n + 1 : Nat) : Int).tmod 2 == k) = !(((n : Nat) : Int).tmod 2 == k) := by
 rw [show ((n + 1 : Nat) : Int) = (n : Int) + 1 by omega, Int.tmod_eq_emod_of_nonneg (by omega), Int.tmod_eq_emod_of_nonneg (by omega)]
 by_cases h : (n : Int) % 2 = k
 ·have h2 : ¬ ((n : Int) + 1) % 2 = k := by omega
  rw [beq_iff_eq.2 h, beq_eq_false_iff_ne.2 h2]; rfl
 ·have h2 : ((n : Int) + 1) % 2 = k := by omega
  rw [beq_iff_eq.2 h2, beq_eq_false_iff_ne.2 h]; rfl
theorem aR (k : Int) (hk : k = 0 ∨ k = 1) : ∀ (n : Nat) (a b out : List Int), a.length + b.length = n → out.length + n ≤ 12 →
 Ev (fun f => yI f k a b out) (out ++ fz ((out.length : Int).tmod 2 == k) a b)
 | 0, a, b, out, h, ho => by
   have ea : a = [] := List.length_eq_zero_iff.1 (by omega)
   have eb : b = [] := List.length_eq_zero_iff.1 (by omega)
   subst ea eb
   refine Ev.step (fun f => aS f _ _ _ _) (Ev.no (by simp) (Ev.no (by simp) (Ev.some ?_)))
   unfold fz; simp
 | n + 1, a, b, out, h, ho => by
   have ih := fun a b out h1 h2 => aR k hk n a b out h1 h2
   refine Ev.step (fun f => aS f _ _ _ _) ?_
   simp only [xr]
   cases a with
   | nil =>
     cases b with
     | nil => simp at h
     | cons y b =>
       simp at h
       refine Ev.no (by simp) (Ev.yes (by (first | (simp [za]; done) | (simp [za]; omega) | omega)) (Ev.no (by (first | (simp [za]; done) | (simp [za]; omega) | omega)) (Ev.no (by simp) ?_)))
       (repeat (first | refine Ev.yes (by (first | (simp [za]; done) | (simp [za]; omega) | omega)) ?_ | refine Ev.no (by (first | (simp [za]; done) | (simp [za]; omega) | omega)) ?_))
       refine (ih [] b (out ++ [y]) (by simp; omega) (by simp; omega)).to ?_
       rw [List.length_append, List.length_singleton, parity k hk]
       conv => rhs; unfold fz
       simp
   | cons x a =>
     refine Ev.yes (by (first | (simp [za]; done) | (simp [za]; omega) | omega)) ?_
     cases b with
     | nil =>
       simp at h
       refine Ev.yes (by simp) ?_
       (repeat (first | refine Ev.yes (by (first | (simp [za]; done) | (simp [za]; omega) | omega)) ?_ | refine Ev.no (by (first | (simp [za]; done) | (simp [za]; omega) | omega)) ?_))
       refine (ih a [] (out ++ [x]) (by simp; omega) (by simp; omega)).to ?_
       rw [List.length_append, List.length_singleton, parity k hk]
       conv => rhs; unfold fz
       simp
     | cons y b =>
       simp at h
       refine Ev.no (by (first | (simp [za]; done) | (simp [za]; omega) | omega)) (Ev.yes (by (first | (simp [za]; done) | (simp [za]; omega) | omega)) ?_)
       refine Ev.ite (fun hf => ?_) (fun hf => ?_)
       ·(repeat (first | refine Ev.yes (by (first | (simp [za]; done) | (simp [za]; omega) | omega)) ?_ | refine Ev.no (by (first | (simp [za]; done) | (simp [za]; omega) | omega)) ?_))
        refine (ih a (y :: b) (out ++ [x]) (by simp; omega) (by simp; omega)).to ?_
        rw [List.length_append, List.length_singleton, parity k hk, hf]
        conv => rhs; unfold fz
        simp
       ·(repeat (first | refine Ev.yes (by (first | (simp [za]; done) | (simp [za]; omega) | omega)) ?_ | refine Ev.no (by (first | (simp [za]; done) | (simp [za]; omega) | omega)) ?_))
        refine (ih (x :: a) b (out ++ [y]) (by simp; omega) (by simp; omega)).to ?_
        rw [List.length_append, List.length_singleton, parity k hk, hf]
        conv => rhs; unfold fz
        simp
theorem U8 : ∀ (n : Nat) (f : Bool) (a b out : List Int), a.length + b.length = n → out.length + n ≤ 12 → Ev (fun k => xH k a b f out) (out ++ fz f a b)
 | 0, f, a, b, out, h, ho => by
   have ea : a = [] := List.length_eq_zero_iff.1 (by omega)
   have eb : b = [] := List.length_eq_zero_iff.1 (by omega)
   subst ea eb
   refine Ev.step (fun k => U9 k _ _ _ _) (Ev.no (by simp) (Ev.no (by simp) (Ev.some ?_)))
   unfold fz; simp
 | n + 1, f, a, b, out, h, ho => by
   have ih := fun f a b out h1 h2 => U8 n f a b out h1 h2
   refine Ev.step (fun k => U9 k _ _ _ _) ?_
   simp only [xr]
   cases a with
   | nil =>
     cases b with
     | nil => simp at h
     | cons y b =>
       simp at h
       refine Ev.no (by simp) (Ev.yes (by (first | (simp [za]; done) | (simp [za]; omega) | omega)) ?_)
       cases f with
       | true =>
         refine Ev.yes rfl (Ev.no (by simp) ?_)
         (repeat (first | refine Ev.yes (by (first | (simp [za]; done) | (simp [za]; omega) | omega)) ?_ | refine Ev.no (by (first | (simp [za]; done) | (simp [za]; omega) | omega)) ?_))
         refine (ih false [] b (out ++ [y]) (by simp; omega) (by simp; omega)).to ?_
         conv => rhs; unfold fz
         simp
       | false =>
         refine Ev.no rfl (Ev.no (by (first | (simp [za]; done) | (simp [za]; omega) | omega)) ?_)
         (repeat (first | refine Ev.yes (by (first | (simp [za]; done) | (simp [za]; omega) | omega)) ?_ | refine Ev.no (by (first | (simp [za]; done) | (simp [za]; omega) | omega)) ?_))
         refine (ih true [] b (out ++ [y]) (by simp; omega) (by simp; omega)).to ?_
         conv => rhs; unfold fz
         simp
   | cons x a =>
     refine Ev.yes (by (first | (simp [za]; done) | (simp [za]; omega) | omega)) ?_
     cases f with
     | true =>
       refine Ev.yes rfl ?_
       (repeat (first | refine Ev.yes (by (first | (simp [za]; done) | (simp [za]; omega) | omega)) ?_ | refine Ev.no (by (first | (simp [za]; done) | (simp [za]; omega) | omega)) ?_))
       refine (ih false a b (out ++ [x]) (by simp at h ⊢; omega) (by simp; omega)).to ?_
       cases b with
       | nil => conv => rhs; unfold fz
                simp
       | cons y b => conv => rhs; unfold fz
                     simp
     | false =>
       refine Ev.no rfl ?_
       cases b with
       | nil =>
         simp at h
         refine Ev.yes (by simp) ?_
         (repeat (first | refine Ev.yes (by (first | (simp [za]; done) | (simp [za]; omega) | omega)) ?_ | refine Ev.no (by (first | (simp [za]; done) | (simp [za]; omega) | omega)) ?_))
         refine (ih true a [] (out ++ [x]) (by simp; omega) (by simp; omega)).to ?_
         conv => rhs; unfold fz
         simp
       | cons y b =>
         simp at h
         refine Ev.no (by (first | (simp [za]; done) | (simp [za]; omega) | omega)) ?_
         (repeat (first | refine Ev.yes (by (first | (simp [za]; done) | (simp [za]; omega) | omega)) ?_ | refine Ev.no (by (first | (simp [za]; done) | (simp [za]; omega) | omega)) ?_))
         refine (ih true (x :: a) b (out ++ [y]) (by simp; omega) (by simp; omega)).to ?_
         conv => rhs; unfold fz
         simp
def faroL (p : List Int) (k : Int) : List Int := fz (k == 0) (p.take (p.length / 2)) (p.drop (p.length / 2))
theorem half (n : Nat) (h : n ≤ 4194304) : IntKind.i64.wrap ((n : Int).tdiv 2) = ((n / 2 : Nat) : Int) := by
 have : (n : Int).tdiv 2 = ((n / 2 : Nat) : Int) := by rw [Int.tdiv_eq_ediv_of_nonneg (by omega)]; omega
 rw [this, zg (by omega) (by omega)]
theorem Mu (p : List Int) (hp : p.length ≤ 12) (k : Int) (hk : k = 0 ∨ k = 1) : Ev (fun f => Sw f (p, k)) (faroL p k) := by
 refine Ev.step (fun f => Mv f _ _) ?_
 simp only [half p.length (by omega), xr, Int.toNat_natCast, List.take_length, List.drop_zero]
 (repeat (first | refine Ev.yes (by (first | (simp [za]; done) | (simp [za]; omega) | omega)) ?_ | refine Ev.no (by (first | (simp [za]; done) | (simp [za]; omega) | omega)) ?_))
 refine (aR k hk p.length _ _ [] (by simp; omega) (by simp; omega)).to ?_
 rw [List.nil_append]
 unfold faroL
 congr 1
 rcases hk with rfl | rfl <;> rfl
theorem GO (p : List Int) (hp : p.length ≤ 12) (k : Int) : Ev (fun f => GQ f (p, k)) (faroL p k) := by
 refine Ev.step (fun f => GP f _ _) ?_
 simp only [half p.length (by omega), xr, Int.toNat_natCast, List.take_length, List.drop_zero]
 (repeat (first | refine Ev.yes (by (first | (simp [za]; done) | (simp [za]; omega) | omega)) ?_ | refine Ev.no (by (first | (simp [za]; done) | (simp [za]; omega) | omega)) ?_))
 refine (U8 p.length (k == 0) _ _ [] (by simp; omega) (by simp; omega)).to ?_
 rw [List.nil_append]
 rfl
def mz (k : Int) : Nat → List Int → List Int → List Int
 | _, [], out => out
 | i, x :: r, out => if i = 0 ∨ (i : Int) % 2 = k then mz k (i + 1) r (out ++ [x]) else mz k (i + 1) r (x :: out)
theorem bJ (p : List Int) (hp : p.length ≤ 12) (k : Int) (hk : k = 0 ∨ k = 1) : ∀ (r : List Int) (i : Nat) (out : List Int), p.drop i = r → out.length = i → Ev (fun f => wF f k p (p.length : Int) (i : Int) out) (mz k i r out)
 | [], i, out, h, ho => by
   have a := zz h
   refine Ev.step (fun f => bK f _ _ _ _ _) ?_
   simp only [a.g, cond_false]
   exact Ev.pure _
 | x :: r, i, out, h, ho => by
   have a := zi h (by rw [zc]; omega)
   have hlt := a.lt
   have ih := fun out ho => bJ p hp k hk r (i + 1) out a.next ho
   refine Ev.step (fun f => bK f _ _ _ _ _) ?_
   simp only [a.g, a.z, a.get, a.w, cond_true]
   rw [Int.tmod_eq_emod_of_nonneg (by omega)]
   unfold mz
   refine Ev.ite (fun c => ?_) (fun c => Ev.ite (fun c2 => ?_) (fun c2 => ?_))
   ·have : i = 0 := by have : (i : Int) = 0 := by simpa using c
                       omega
    rw [if_pos (.inl this)]
    exact Ev.yes (by (first | (simp [za]; done) | (simp [za]; omega) | omega)) (ih _ (by simp; omega))
   ·have : (i : Int) % 2 = k := by simpa using c2
    rw [if_pos (.inr this)]
    exact Ev.yes (by (first | (simp [za]; done) | (simp [za]; omega) | omega)) (ih _ (by simp; omega))
   ·have h1 : ¬ i = 0 := by have : ¬ (i : Int) = 0 := by simpa using c
                            omega
    have h2 : ¬ (i : Int) % 2 = k := by simpa using c2
    rw [if_neg (by rintro (h | h); exact h1 h; exact h2 h)]
    exact Ev.yes (by (first | (simp [za]; done) | (simp [za]; omega) | omega)) (ih _ (by simp; omega))
theorem WP (p : List Int) (hp : p.length ≤ 12) (k : Int) (hk : k = 0 ∨ k = 1) : ∀ (r : List Int) (i : Nat) (out : List Int), p.drop i = r → out.length = i → Ev (fun f => jT f k p (p.length : Int) (i : Int) out) (mz k i r out)
 | [], i, out, h, ho => by
   have a := zz h
   refine Ev.step (fun f => WQ f _ _ _ _ _) ?_
   simp only [a.g, cond_false]
   exact Ev.pure _
 | x :: r, i, out, h, ho => by
   have a := zi h (by rw [zc]; omega)
   have hlt := a.lt
   have ih := fun out ho => WP p hp k hk r (i + 1) out a.next ho
   refine Ev.step (fun f => WQ f _ _ _ _ _) ?_
   simp only [a.g, a.z, a.get, a.w, cond_true]
   rw [zg (x := (i : Int) + k) (by omega) (by omega), Int.tmod_eq_emod_of_nonneg (by omega)]
   unfold mz
   refine Ev.ite (fun c => Ev.ite (fun c2 => ?_) (fun c2 => ?_)) (fun c => ?_)
   ·have h1 : (i : Int) > 0 := by simpa using c
    have h2 : ((i : Int) + k) % 2 = 1 := by simpa using c2
    rw [if_neg (by rintro (h | h) <;> omega)]
    exact Ev.yes (by (first | (simp [za]; done) | (simp [za]; omega) | omega)) (ih _ (by simp; omega))
   ·have h1 : (i : Int) > 0 := by simpa using c
    have h2 : ¬ ((i : Int) + k) % 2 = 1 := by simpa using c2
    rw [if_pos (.inr (by omega))]
    exact Ev.yes (by (first | (simp [za]; done) | (simp [za]; omega) | omega)) (ih _ (by simp; omega))
   ·have h1 : ¬ (i : Int) > 0 := by simpa using c
    rw [if_pos (.inl (by omega))]
    exact Ev.yes (by (first | (simp [za]; done) | (simp [za]; omega) | omega)) (ih _ (by simp; omega))
def kz : Nat → List Int → List Int → List Int
 | 0, p, out => p ++ out
 | n + 1, p, out => if 1 < p.length then kz n ((p.take (p.length - 1)).drop 1) (p.getD 0 0 :: p.getD (p.length - 1) 0 :: out) else p ++ out
theorem aP : ∀ (n : Nat) (p out : List Int), p.length ≤ n → p.length + out.length ≤ 12 → Ev (fun f => fd f p out) (kz n p out)
 | n, p, out, h, ho => by
   refine Ev.step (fun f => Sv f _ _) ?_
   by_cases c : 1 < p.length
   ·match n, h with
    | 0, h => exact absurd c (by omega)
    | n + 1, h =>
    have e : ((p.length : Int) - 1) = ((p.length - 1 : Nat) : Int) := by omega
    unfold kz
    rw [if_pos c]
    simp only [e, zg (x := ((p.length - 1 : Nat) : Int)) (by omega) (by omega), Int.toNat_natCast]
    refine Ev.yes (by simp; omega) ?_
    (repeat (first | refine Ev.yes (by (first | (simp [za]; done) | (simp [za]; omega) | omega)) ?_ | refine Ev.no (by (first | (simp [za]; done) | (simp [za]; omega) | omega)) ?_))
    exact aP n _ _ (by simp; omega) (by simp; omega)
   ·have : kz n p out = p ++ out := by cases n <;> simp [kz, c]
    rw [this]
    refine Ev.no (by simp; omega) (Ev.yes (by (first | (simp [za]; done) | (simp [za]; omega) | omega)) ?_)
    rw [List.nil_append]
    refine Ev.yes (by rw [za]; exact decide_eq_true (by omega)) (Ev.some rfl)
theorem U7 : ∀ (n : Nat) (p out : List Int), p.length ≤ n → p.length + out.length ≤ 12 → Ev (fun f => WR f p out) (kz n p out)
 | n, p, out, h, ho => by
   refine Ev.step (fun f => Lf f _ _) ?_
   by_cases c : 1 < p.length
   ·match n, h with
    | 0, h => exact absurd c (by omega)
    | n + 1, h =>
    have e : ((p.length : Int) - 1) = ((p.length - 1 : Nat) : Int) := by omega
    unfold kz
    rw [if_pos c]
    simp only [e, zg (x := ((p.length - 1 : Nat) : Int)) (by omega) (by omega), Int.toNat_natCast]
    refine Ev.yes (by simp; omega) ?_
    (repeat (first | refine Ev.yes (by (first | (simp [za]; done) | (simp [za]; omega) | omega)) ?_ | refine Ev.no (by (first | (simp [za]; done) | (simp [za]; omega) | omega)) ?_))
    exact U7 n _ _ (by simp; omega) (by simp; omega)
   ·have : kz n p out = p ++ out := by cases n <;> simp [kz, c]
    rw [this]
    refine Ev.no (by simp; omega) (Ev.bind (yX p (by omega)) (Ev.yes (by rw [za]; exact decide_eq_true (by omega)) (Ev.some rfl)))
def dz : Nat → Bool → List Int → List Int → List Int
 | 0, _, q, out => q.getD 0 0 :: out
 | n + 1, f, q, out => if 1 < q.length then (bif f then dz n false (q.drop 1) (q.getD 0 0 :: out) else dz n true (q.drop 1 ++ [q.getD 0 0]) out) else q.getD 0 0 :: out
theorem FO (s : Nat) : (((s + 1 : Nat) : Int).tmod 2 == 1) = !(((s : Nat) : Int).tmod 2 == 1) := parity 1 (.inr rfl) s
theorem aU : ∀ (n : Nat) (s : Nat) (q out : List Int), 1 ≤ q.length → 2 * q.length + (bif ((s : Int).tmod 2 == 1) then 0 else 1) ≤ n → q.length + out.length ≤ 12 → s + n ≤ 1000 →
 Ev (fun f => uV f (s : Int) q out) (dz n ((s : Int).tmod 2 == 1) q out)
 | 0, s, q, out, h1, h, ho, hs => by omega
 | n + 1, s, q, out, h1, h, ho, hs => by
   have ih := fun q out h1 h ho => aU n (s + 1) q out h1 h ho (by omega)
   rw [FO] at ih
   refine Ev.step (fun f => Sx f _ _ _) ?_
   have ew : IntKind.i64.wrap ((s : Int) + 1) = ((s + 1 : Nat) : Int) := by rw [zg (by omega) (by omega)]; omega
   simp only [ew, xr]
   unfold dz
   by_cases c : 1 < q.length
   ·rw [if_pos c]
    refine Ev.yes (by simp; omega) ?_
    cases hf : ((s : Int).tmod 2 == 1) with
    | true =>
      rw [hf] at h ih
      refine Ev.yes (by (first | (simp [za]; done) | (simp [za]; omega) | omega)) (Ev.yes (by (first | (simp [za]; done) | (simp [za]; omega) | omega)) (Ev.yes (by (first | (simp [za]; done) | (simp [za]; omega) | omega)) (Ev.yes (by (first | (simp [za]; done) | (simp [za]; omega) | omega)) (Ev.yes rfl ?_))))
      refine Ev.yes (by (first | (simp [za]; done) | (simp [za]; omega) | omega)) ?_
      exact ih (q.drop 1) (q.getD 0 0 :: out) (by simp; omega) (by simp at h ⊢; omega) (by simp; omega)
    | false =>
      rw [hf] at h ih
      refine Ev.yes (by (first | (simp [za]; done) | (simp [za]; omega) | omega)) (Ev.yes (by (first | (simp [za]; done) | (simp [za]; omega) | omega)) (Ev.yes (by (first | (simp [za]; done) | (simp [za]; omega) | omega)) (Ev.yes (by (first | (simp [za]; done) | (simp [za]; omega) | omega)) (Ev.no rfl ?_))))
      refine Ev.yes (by (first | (simp [za]; done) | (simp [za]; omega) | omega)) ?_
      exact ih (q.drop 1 ++ [q.getD 0 0]) out (by simp) (by simp at h ⊢; omega) (by simp; omega)
   ·rw [if_neg c]
    refine Ev.no (by simp; omega) ?_
    (repeat (first | refine Ev.yes (by (first | (simp [za]; done) | (simp [za]; omega) | omega)) ?_ | refine Ev.no (by (first | (simp [za]; done) | (simp [za]; omega) | omega)) ?_))
    exact Ev.pure _
theorem WU : ∀ (n : Nat) (f : Bool) (q out : List Int), 1 ≤ q.length → 2 * q.length + (bif f then 0 else 1) ≤ n → q.length + out.length ≤ 12 →
 ∃ y, Ev (fun k => eV k f out q) y ∧ y.reverse = dz n f q out.reverse ∧ y.length = q.length + out.length
 | 0, f, q, out, h1, h, ho => by omega
 | n + 1, f, q, out, h1, h, ho => by
   have ih := fun f q out h1 h ho => WU n f q out h1 h ho
   unfold dz
   by_cases c : 1 < q.length
   ·rw [if_pos c]
    cases f with
    | true =>
      obtain ⟨y, e1, e2, e3⟩ := ih false (q.drop 1) (out ++ [q.getD 0 0]) (by simp; omega) (by simp at h ⊢; omega) (by simp; omega)
      refine ⟨y, Ev.step (fun k => bn k _ _ _) ?_, ?_, by simp at e3; omega⟩
      ·simp only [xr]
       refine Ev.yes (by simp; omega) (Ev.yes rfl ?_)
       (repeat (first | refine Ev.yes (by (first | (simp [za]; done) | (simp [za]; omega) | omega)) ?_ | refine Ev.no (by (first | (simp [za]; done) | (simp [za]; omega) | omega)) ?_))
       exact e1
      ·rw [e2]; simp
    | false =>
      obtain ⟨y, e1, e2, e3⟩ := ih true (q.drop 1 ++ [q.getD 0 0]) out (by simp) (by simp at h ⊢; omega) (by simp; omega)
      refine ⟨y, Ev.step (fun k => bn k _ _ _) ?_, ?_, by simp at e3; omega⟩
      ·have ed : (q ++ [q.getD 0 0]).drop 1 = q.drop 1 ++ [q.getD 0 0] := List.drop_append_of_le_length h1
       simp only [xr, ed]
       refine Ev.yes (by simp; omega) (Ev.no rfl ?_)
       (repeat (first | refine Ev.yes (by (first | (simp [za]; done) | (simp [za]; omega) | omega)) ?_ | refine Ev.no (by (first | (simp [za]; done) | (simp [za]; omega) | omega)) ?_))
       exact e1
      ·rw [e2]; rfl
   ·rw [if_neg c]
    match q, h1, c with
    | [x], _, _ =>
      refine ⟨out ++ [x], Ev.step (fun k => bn k _ _ _) (Ev.no (by simp) (Ev.yes (by (first | (simp [za]; done) | (simp [za]; omega) | omega)) (Ev.some rfl))), by simp, by simp; omega⟩
    | _ :: _ :: _, _, c => simp at c
end Qq
namespace Qq
open Go Go.Vt Pt
set_option linter.unusedVariables false
set_option linter.unusedSimpArgs false
def TA : List Int → List Int → Bool
 | [], b => decide (0 < b.length)
 | _ :: _, [] => false
 | x :: a, y :: b => if x = y then TA a b else decide (x < y)
def cmpL : List Int → List Int → Int
 | [], b => if 0 < b.length then -1 else 0
 | _ :: _, [] => 1
 | x :: a, y :: b => if x = y then cmpL a b else if x < y then -1 else 1
theorem LT : ∀ a b, decide (cmpL a b ≥ 0) = !TA a b
 | [], [] => rfl
 | [], _ :: _ => by simp [cmpL, TA]
 | _ :: _, [] => rfl
 | x :: a, y :: b => by
   unfold cmpL TA
   by_cases h : x = y
   ·rw [if_pos h, if_pos h, LT a b]
   ·rw [if_neg h, if_neg h]
    by_cases h2 : x < y
    ·simp [h2]
    ·simp [h2]
theorem NM {α : Type} {xs r : List α} {i : Nat} (h : xs.drop i = r) : xs.length - i = r.length := by rw [← h, List.length_drop]
theorem aK (xs ys : List Int) (hm : xs.length ≤ maxLen) (hy : ys.length ≤ maxLen) : ∀ (r s : List Int) (i : Nat), i ≤ xs.length → xs.drop i = r → ys.drop i = s → Ev (fun k => fb k xs ys xs (xs.length : Int) (i : Int)) (TA r s)
 | [], s, i, hi, h, h2 => by
   have a := zz h
   have := a.ge
   have hl := NM h2
   refine Ev.step (fun k => jZ k _ _ _ _ _) ?_
   simp only [a.g, cond_false]
   refine Ev.some ?_
   unfold TA
   rw [Bool.eq_iff_iff]; simp; omega
 | x :: r, [], i, hi, h, h2 => by
   have a := zi h hm
   have b := zz h2
   refine Ev.step (fun k => jZ k _ _ _ _ _) ?_
   simp only [a.g, a.z, cond_true]
   refine Ev.yes (by have := b.ge; simp; omega) (Ev.some rfl)
 | x :: r, y :: s, i, hi, h, h2 => by
   have a := zi h hm
   have b := zi h2 hy
   have hlt := a.lt
   have ih := aK xs ys hm hy r s (i + 1) (by omega) a.next b.next
   refine Ev.step (fun k => jZ k _ _ _ _ _) ?_
   simp only [a.g, a.z, a.get, a.w, cond_true]
   refine Ev.no (by have := b.lt; simp; omega) ?_
   simp only [b.g, b.get, cond_true]
   unfold TA
   refine Ev.ite (fun c => Ev.some ?_) (fun c => ih.to ?_)
   ·have : ¬ x = y := by simpa using c
    rw [if_neg this]
   ·have : x = y := by simpa using c
    rw [if_pos this]
theorem Mp (xs ys : List Int) (hm : xs.length ≤ maxLen) (hy : ys.length ≤ maxLen) : Ev (fun k => Wi k (xs, ys)) (TA xs ys) :=
 Ev.step (fun k => Mq k xs ys) (aK xs ys hm hy xs ys 0 (by omega) rfl rfl)
abbrev Packs : Type := List (List Int)
def FitS (l : Packs) : Prop := l.length ≤ maxLen ∧ ∀ p ∈ l, p.length ≤ maxLen ∧ Ins p
theorem FitS.of {l : Packs} (h : Fits (.slice (.slice (.int .i64))) l) : FitS l :=
 ⟨h.1, fun p hp => ⟨(h.2 p hp).1, fun x hx => In.of_fits ((h.2 p hp).2 x hx)⟩⟩
end Qq
namespace Qq
open Go Go.Vt Pt
set_option linter.unusedVariables false
set_option linter.unusedSimpArgs false
theorem G1 {p : List Int} (h : Ins p) (i : Nat) : In (p.getD i 0) := by
 rw [List.getD]
 cases hi : p[i]? with
 | none => exact ⟨by decide, by decide⟩
 | some x => exact h x (List.mem_of_getElem? hi)
end Qq
namespace Qq
open Go Go.Vt Pt
set_option linter.unusedVariables false
set_option linter.unusedSimpArgs false
set_option linter.unnecessarySimpa false
theorem VA (ls : List (List Int)) (hl : ls.length ≤ maxLen) : ∀ (r : List (List Int)) (i : Nat) (out : List Int), ls.drop i = r → out.length + r.flatten.length ≤ 1048576 → Ev (fun k => xk k ls (ls.length : Int) (i : Int) out) (out ++ r.flatten)
 | [], i, out, h, ho => by
   have a := zz h
   refine Ev.step (fun k => vl k _ _ _ _) ?_
   simp only [a.g, cond_false]
   exact Ev.some (by simp)
 | x :: r, i, out, h, ho => by
   have a := zi h hl
   have hlt := a.lt
   simp only [List.flatten_cons, List.length_append] at ho
   refine Ev.step (fun k => vl k _ _ _ _) ?_
   simp only [a.g, a.z, a.get, a.w, cond_true]
   refine Ev.yes (by rw [za]; exact decide_eq_true (by omega)) ?_
   exact (VA ls hl r (i + 1) (out ++ x) a.next (by simp; simp at ho; omega)).to (by simp)
theorem To (ls : List (List Int)) (hl : ls.length ≤ maxLen) (ht : ls.flatten.length ≤ 1048576) : ∀ (r : List (List Int)) (i : Nat) (n : Nat), ls.drop i = r → n + r.flatten.length ≤ 1048576 → Ev (fun k => xt k ls (n : Int) ls (ls.length : Int) (i : Int)) ls.flatten
 | [], i, n, h, hn => by
   have a := zz h
   refine Ev.step (fun k => vA k _ _ _ _ _) ?_
   simp only [a.g, cond_false]
   have hg : Ev (fun k => jW k ([], (n : Int))) [] := Ev.congr (fun k => X3 k [] (n : Int)) (by
    show Ev (fun _ => KM (n : Int)) []
    unfold KM
    simp at hn
    exact Ev.yes (by simp; omega) (Ev.pure _))
   exact Ev.bind hg ((VA ls hl ls 0 [] rfl (by simpa using ht)).to (by simp))
 | x :: r, i, n, h, hn => by
   have a := zi h hl
   have hlt := a.lt
   simp only [List.flatten_cons, List.length_append] at hn
   refine Ev.step (fun k => vA k _ _ _ _ _) ?_
   have e : (n : Int) + (x.length : Int) = ((n + x.length : Nat) : Int) := by omega
   simp only [a.g, a.z, a.get, a.w, cond_true, e, zg (x := ((n + x.length : Nat) : Int)) (by omega) (by omega)]
   refine Ev.no (by simp; omega) ?_
   exact To ls hl ht r (i + 1) (n + x.length) a.next (by omega)
theorem Qh (ls : List (List Int)) (hl : ls.length ≤ maxLen) (ht : ls.flatten.length ≤ 1048576) : Ev (fun k => yj k ls) ls.flatten :=
 Ev.step (fun k => Yv k _) (To ls hl ht ls 0 0 rfl (by omega))
theorem XA (p : List Int) (hp : p.length ≤ 1048576) : Ev (fun k => eT k p) p.reverse := by
 have hr : Ev (fun k => vz k p) ((), p.reverse) := Ev.congr (fun k => aw k p) (by
  unfold reverseF
  exact Ev.yes (by simp; omega) (Ev.pure _))
 exact Ev.step (fun k => Nr k _) (Ev.bind (yX p hp) (Ev.bind hr (Ev.pure _)))
theorem Y0 (K : Nat) : ∀ (m : Nat) (pre r : List Int), m ≤ r.length → pre.length + m = K → pre.length + r.length ≤ 12 → Ins r → Ev (fun k => bj k (K : Int) (pre.length : Int) (pre ++ r)) (pre ++ (r.take m).map turn ++ r.drop m)
 | 0, pre, r, hm, hK, h12, hi => by
   refine Ev.step (fun k => Y1 k _ _ _) (Ev.no (by simp; omega) (Ev.some (by simp)))
 | m + 1, pre, [], hm, hK, h12, hi => by simp at hm
 | m + 1, pre, x :: r, hm, hK, h12, hi => by
   simp at hm h12
   have hx : In x := hi x (by simp)
   have hg : (pre ++ x :: r).getD (pre.length : Int).toNat 0 = x := by simp [List.getD]
   have hs : (pre ++ x :: r).set (pre.length : Int).toNat (turn x) = pre ++ turn x :: r := by simp
   have ew : IntKind.i64.wrap ((pre.length : Int) + 1) = ((pre.length + 1 : Nat) : Int) := by rw [zg (by omega) (by omega)]; omega
   refine Ev.step (fun k => Y1 k _ _ _) ?_
   simp only [hg, hs, ew]
   refine Ev.yes (by simp; omega) (Ev.yes (by simp) (Ev.yes (by (first | (simp [za]; done) | (simp [za]; omega) | omega)) (Ev.yes (by (first | (simp [za]; done) | (simp [za]; omega) | omega)) (Ev.bind (WY x hx) ?_))))
   simp only [hs]
   refine Ev.yes (by simp) (Ev.yes (by (first | (simp [za]; done) | (simp [za]; omega) | omega)) (Ev.yes (by (first | (simp [za]; done) | (simp [za]; omega) | omega)) ?_))
   have := Y0 K m (pre ++ [turn x]) r hm (by simp; omega) (by simp; omega) (fun y hy => hi y (by simp [hy]))
   simp only [List.length_append, List.length_singleton, List.append_assoc, List.singleton_append] at this
   exact this.to (by simp)
def cb (p : List Int) (m : Int × Int) : List Int :=
 if m.1 = 1 then p.drop m.2.toNat ++ p.take m.2.toNat
 else if m.1 = 2 then (p.take m.2.toNat).reverse ++ p.drop m.2.toNat
 else if m.1 = 3 then (p.take m.2.toNat).reverse.map turn ++ p.drop m.2.toNat
 else if m.1 = 4 then faroL p m.2
 else if m.1 = 5 then mz m.2 0 p []
 else if m.1 = 6 then kz p.length p []
 else if m.1 = 7 then dz (2 * p.length + 1) (m.2 == 1) p []
 else if m.1 = 8 then p.set m.2.toNat (turn (p.getD m.2.toNat 0))
 else p.take m.2.toNat ++ p.drop (m.2.toNat + 1) ++ [p.getD m.2.toNat 0]
structure MoveFit (n : Nat) (m : Int × Int) : Prop where
 n1 : 1 ≤ n
 n12 : n ≤ 12
 k0 : 0 ≤ m.2
 kn : m.2 ≤ n ∨ m.2 ≤ 1
 c : m.1 = 1 ∨ m.1 = 2 ∨ m.1 = 3 → m.2 ≤ n
 f : m.1 = 4 ∨ m.1 = 5 ∨ m.1 = 7 → m.2 = 0 ∨ m.2 = 1
 t : m.1 ≠ 1 → m.1 ≠ 2 → m.1 ≠ 3 → m.1 ≠ 4 → m.1 ≠ 5 → m.1 ≠ 6 → m.1 ≠ 7 → m.2 < n
theorem Hn {n : Nat} {m : Int × Int} (h : ja (n : Int) m = true) : MoveFit n m := by
 unfold ja at h
 simp only [Bool.and_eq_true, decide_eq_true_eq] at h
 obtain ⟨h1, h2, h3, h4⟩ := h
 have key : (m.1 = 1 ∧ m.2 ≤ n) ∨ (m.1 = 2 ∧ m.2 ≤ n) ∨ (m.1 = 3 ∧ m.2 ≤ n) ∨ (m.1 = 4 ∧ m.2 ≤ 1) ∨ (m.1 = 5 ∧ m.2 ≤ 1) ∨ (m.1 = 7 ∧ m.2 ≤ 1) ∨ (m.1 = 6 ∧ m.2 = 0) ∨ (m.1 = 8 ∧ m.2 < n) ∨ (m.1 = 9 ∧ m.2 < n) := by
  repeat' (split at h4)
  all_goals simp at h4
  all_goals simp [*]
 exact ⟨by omega, by omega, h3, by omega, by omega, by omega, by omega⟩
theorem Q6 (p : List Int) (m : Int × Int) (h : MoveFit p.length m) (hi : Ins p) : Ev (fun k => P3 k (p, m)) (cb p m) := by
 have hp := h.n12
 have hp1 := h.n1
 obtain ⟨a, b⟩ := m
 have h0 := h.k0
 obtain ⟨j, rfl⟩ : ∃ j : Nat, b = (j : Int) := ⟨b.toNat, by have := h0; simp at this; omega⟩
 have hc := h.c
 have hf := h.f
 have ht := h.t
 dsimp only at hc hf ht
 clear h h0
 refine Ev.step (fun k => Hd k p (a, (j : Int))) ?_
 unfold cb
 simp only [xr, Int.toNat_natCast, List.take_length, List.drop_zero, List.nil_append]
 refine Ev.ite (fun c => ?_) (fun c1 => Ev.ite (fun c => ?_) (fun c2 => Ev.ite (fun c => ?_) (fun c3 => Ev.ite (fun c => ?_) (fun c4 => Ev.ite (fun c => ?_) (fun c5 => Ev.ite (fun c => ?_) (fun c6 => Ev.ite (fun c => ?_) (fun c7 => Ev.ite (fun c => ?_) (fun c8 => ?_))))))))
 all_goals simp only [beq_iff_eq, beq_eq_false_iff_ne, ne_eq] at *
 ·have := hc (by omega)
  rw [if_pos c]
  (repeat (first | refine Ev.yes (by (first | (simp [za]; done) | (simp [za]; omega) | omega)) ?_ | refine Ev.no (by (first | (simp [za]; done) | (simp [za]; omega) | omega)) ?_))
  exact Ev.pure _
 ·have := hc (by omega)
  rw [if_neg c1, if_pos c]
  exact Ev.bind (Za p hp hi j (by omega) false) (Ev.some (by simp))
 ·have := hc (by omega)
  rw [if_neg c1, if_neg c2, if_pos c]
  exact Ev.bind (Za p hp hi j (by omega) true) (Ev.some (by simp))
 ·rw [if_neg c1, if_neg c2, if_neg c3, if_pos c]
  exact Ev.bind (Mu p hp _ (hf (by omega))) (Ev.pure _)
 ·rw [if_neg c1, if_neg c2, if_neg c3, if_neg c4, if_pos c]
  exact Ev.bind (Ev.step (fun k => P2 k _ _) (bJ p hp _ (hf (by omega)) p 0 [] rfl rfl)) (Ev.pure _)
 ·rw [if_neg c1, if_neg c2, if_neg c3, if_neg c4, if_neg c5, if_pos c]
  exact Ev.bind (Ev.step (fun k => Ms k _) (aP p.length p [] (Nat.le_refl _) (by simp; omega))) (Ev.pure _)
 ·rw [if_neg c1, if_neg c2, if_neg c3, if_neg c4, if_neg c5, if_neg c6, if_pos c]
  have hj := hf (by omega)
  have e : ((j : Int).tmod 2 == 1) = ((j : Int) == 1) := by rcases hj with hj | hj <;> rw [hj] <;> rfl
  have hd := aU (2 * p.length + 1) j p [] hp1 (by cases ((j : Int).tmod 2 == 1) <;> simp) (by simp; omega) (by omega)
  rw [e] at hd
  refine Ev.bind (Ev.step (fun k => Mw k _ _) (Ev.yes (by (first | (simp [za]; done) | (simp [za]; omega) | omega)) ?_)) (Ev.pure _)
  rw [List.nil_append]
  exact hd
 ·rw [if_neg c1, if_neg c2, if_neg c3, if_neg c4, if_neg c5, if_neg c6, if_neg c7, if_pos c]
  have := ht c1 c2 c3 c4 c5 c6 c7
  have hin : In (p.getD j 0) := G1 hi _
  (repeat (first | refine Ev.yes (by (first | (simp [za]; done) | (simp [za]; omega) | omega)) ?_ | refine Ev.no (by (first | (simp [za]; done) | (simp [za]; omega) | omega)) ?_))
  refine Ev.bind (Wn _ hin) ?_
  (repeat (first | refine Ev.yes (by (first | (simp [za]; done) | (simp [za]; omega) | omega)) ?_ | refine Ev.no (by (first | (simp [za]; done) | (simp [za]; omega) | omega)) ?_))
  exact Ev.pure _
 ·rw [if_neg c1, if_neg c2, if_neg c3, if_neg c4, if_neg c5, if_neg c6, if_neg c7, if_neg c8]
  have := ht c1 c2 c3 c4 c5 c6 c7
  have e : IntKind.i64.wrap ((j : Int) + 1) = ((j + 1 : Nat) : Int) := by rw [zg (by omega) (by omega)]; omega
  simp only [e, Int.toNat_natCast]
  (repeat (first | refine Ev.yes (by (first | (simp [za]; done) | (simp [za]; omega) | omega)) ?_ | refine Ev.no (by (first | (simp [za]; done) | (simp [za]; omega) | omega)) ?_))
  exact Ev.pure _
theorem V5 (p : List Int) (m : Int × Int) (h : MoveFit p.length m) (hi : Ins p) : Ev (fun k => Ry k (p, m)) (cb p m) := by
 have hp := h.n12
 have hp1 := h.n1
 obtain ⟨a, b⟩ := m
 have h0 := h.k0
 obtain ⟨j, rfl⟩ : ∃ j : Nat, b = (j : Int) := ⟨b.toNat, by have := h0; simp at this; omega⟩
 have hc := h.c
 have hf := h.f
 have ht := h.t
 dsimp only at hc hf ht
 clear h h0
 refine Ev.step (fun k => Hw k p (a, (j : Int))) ?_
 unfold cb
 simp only [xr, Int.toNat_natCast, List.take_length, List.drop_zero, List.nil_append]
 have hlen2 : ∀ (x y : List Int), x.length + y.length ≤ 1048576 → Ev (fun k => yj k [x, y]) (x ++ y) := fun x y hxy => (Qh [x, y] (by rw [zc]; simp) (by simpa using hxy)).to (by simp)
 refine Ev.ite (fun c => ?_) (fun c1 => Ev.ite (fun c => ?_) (fun c2 => Ev.ite (fun c => ?_) (fun c3 => Ev.ite (fun c => ?_) (fun c4 => Ev.ite (fun c => ?_) (fun c5 => Ev.ite (fun c => ?_) (fun c6 => Ev.ite (fun c => ?_) (fun c7 => Ev.ite (fun c => ?_) (fun c8 => ?_))))))))
 all_goals simp only [beq_iff_eq, beq_eq_false_iff_ne, ne_eq] at *
 ·have := hc (by omega)
  rw [if_pos c]
  (repeat (first | refine Ev.yes (by (first | (simp [za]; done) | (simp [za]; omega) | omega)) ?_ | refine Ev.no (by (first | (simp [za]; done) | (simp [za]; omega) | omega)) ?_))
  exact Ev.bind (hlen2 _ _ (by simp; omega)) (Ev.pure _)
 ·have := hc (by omega)
  rw [if_neg c1, if_pos c]
  (repeat (first | refine Ev.yes (by (first | (simp [za]; done) | (simp [za]; omega) | omega)) ?_ | refine Ev.no (by (first | (simp [za]; done) | (simp [za]; omega) | omega)) ?_))
  refine Ev.bind (XA _ (by simp; omega)) ?_
  (repeat (first | refine Ev.yes (by (first | (simp [za]; done) | (simp [za]; omega) | omega)) ?_ | refine Ev.no (by (first | (simp [za]; done) | (simp [za]; omega) | omega)) ?_))
  exact Ev.bind (hlen2 _ _ (by simp; omega)) (Ev.pure _)
 ·have := hc (by omega)
  rw [if_neg c1, if_neg c2, if_pos c]
  (repeat (first | refine Ev.yes (by (first | (simp [za]; done) | (simp [za]; omega) | omega)) ?_ | refine Ev.no (by (first | (simp [za]; done) | (simp [za]; omega) | omega)) ?_))
  refine Ev.bind (XA _ (by simp; omega)) ?_
  (repeat (first | refine Ev.yes (by (first | (simp [za]; done) | (simp [za]; omega) | omega)) ?_ | refine Ev.no (by (first | (simp [za]; done) | (simp [za]; omega) | omega)) ?_))
  refine Ev.bind (hlen2 _ _ (by simp; omega)) ?_
  have hr : (p.take j).reverse.length = j := by simp; omega
  have := Y0 j j [] ((p.take j).reverse ++ p.drop j) (by simp; omega) (by simp) (by simp; omega) (fun x hx => by
   rcases List.mem_append.1 hx with h | h
   ·exact hi x (List.mem_of_mem_take (List.mem_reverse.1 h))
   ·exact hi x (List.mem_of_mem_drop h))
  refine this.to ?_
  rw [List.nil_append, List.take_append_of_le_length (by omega), List.drop_append_of_le_length (by omega), List.take_of_length_le (by omega), List.drop_eq_nil_of_le (by omega), List.nil_append]
 ·rw [if_neg c1, if_neg c2, if_neg c3, if_pos c]
  exact Ev.bind (GO p hp _) (Ev.pure _)
 ·rw [if_neg c1, if_neg c2, if_neg c3, if_neg c4, if_pos c]
  exact Ev.bind (Ev.step (fun k => Hx k _ _) (WP p hp _ (hf (by omega)) p 0 [] rfl rfl)) (Ev.pure _)
 ·rw [if_neg c1, if_neg c2, if_neg c3, if_neg c4, if_neg c5, if_pos c]
  exact Ev.bind (Ev.step (fun k => GN k _) (U7 p.length p [] (Nat.le_refl _) (by simp; omega))) (Ev.pure _)
 ·rw [if_neg c1, if_neg c2, if_neg c3, if_neg c4, if_neg c5, if_neg c6, if_pos c]
  obtain ⟨y, e1, e2, e3⟩ := WU (2 * p.length + 1) ((j : Int) == 1) p [] hp1 (by cases ((j : Int) == 1) <;> simp) (by simp; omega)
  refine Ev.bind (Ev.step (fun k => HA k _ _) (Ev.bind (yX p (by omega)) e1)) (Ev.bind (XA y (by simp at e3; omega)) (Ev.some ?_))
  rw [e2]; rfl
 ·rw [if_neg c1, if_neg c2, if_neg c3, if_neg c4, if_neg c5, if_neg c6, if_neg c7, if_pos c]
  have := ht c1 c2 c3 c4 c5 c6 c7
  have hin : In (p.getD j 0) := G1 hi _
  refine Ev.bind (yX p (by omega)) ?_
  (repeat (first | refine Ev.yes (by (first | (simp [za]; done) | (simp [za]; omega) | omega)) ?_ | refine Ev.no (by (first | (simp [za]; done) | (simp [za]; omega) | omega)) ?_))
  refine Ev.bind (WY _ hin) ?_
  (repeat (first | refine Ev.yes (by (first | (simp [za]; done) | (simp [za]; omega) | omega)) ?_ | refine Ev.no (by (first | (simp [za]; done) | (simp [za]; omega) | omega)) ?_))
  exact Ev.pure _
 ·rw [if_neg c1, if_neg c2, if_neg c3, if_neg c4, if_neg c5, if_neg c6, if_neg c7, if_neg c8]
  have := ht c1 c2 c3 c4 c5 c6 c7
  have hjl : j < p.length := by omega
  have e : IntKind.i64.wrap ((j : Int) + 1) = ((j + 1 : Nat) : Int) := by rw [zg (by omega) (by omega)]; omega
  simp only [e, Int.toNat_natCast]
  (repeat (first | refine Ev.yes (by (first | (simp [za]; done) | (simp [za]; omega) | omega)) ?_ | refine Ev.no (by (first | (simp [za]; done) | (simp [za]; omega) | omega)) ?_))
  refine Ev.bind ((Qh [p.take j, p.drop (j + 1), (p.take (j + 1)).drop j] (by rw [zc]; simp) (by simp; omega)).to ?_) (Ev.pure _)
  have : (p.take (j + 1)).drop j = [p.getD j 0] := by
   rw [List.take_add_one, List.getElem?_eq_getElem hjl, List.drop_append_of_le_length (by simp; omega), List.drop_eq_nil_of_le (by simp; omega)]
   simp [List.getD, hjl]
  rw [this]
  simp
end Qq
namespace Qq
open Go Go.Vt Pt
set_option linter.unusedVariables false
set_option linter.unusedSimpArgs false
theorem aa (xs ys : List Int) (hx : xs.length ≤ maxLen) (hy : ys.length ≤ maxLen) : ∀ (r s : List Int) (i : Nat), xs.drop i = r → ys.drop i = s → s.length = r.length → Ev (fun k => wo k ys xs (xs.length : Int) (i : Int)) (r == s)
 | [], [], i, h1, h2, hl => by
   have a := zz h1
   refine Ev.step (fun k => wh k ys xs _ i) ?_
   simp only [a.g, cond_false]
   exact Ev.pure _
 | x :: r, y :: s, i, h1, h2, hl => by
   have a := zi h1 hx
   have b := zi h2 hy
   refine Ev.step (fun k => wh k ys xs _ i) ?_
   simp only [a.g, a.z, b.g, a.get, b.get, a.w, cond_true]
   have ih := aa xs ys hx hy r s (i + 1) a.next b.next (by simpa using hl)
   refine Ev.ite (fun h => Ev.some ?_) (fun h => ih.to ?_)
   ·have : ¬ x = y := by simpa using h
    simp [this]
   ·have : x = y := by simpa using h
    simp [this]
 | [], _ :: _, _, _, _, hl => by simp at hl
 | _ :: _, [], _, _, _, hl => by simp at hl
theorem Vx (xs ys : List Int) (hx : xs.length ≤ maxLen) (hy : ys.length ≤ maxLen) : Ev (fun k => zV k (xs, ys)) (xs == ys) := by
 refine Ev.step (fun k => Zj k xs ys) (Ev.ite (fun h => Ev.some ?_) (fun h => aa xs ys hx hy xs ys 0 rfl rfl ?_))
 ·have h' : ¬ xs.length = ys.length := by simp at h; omega
  have : ¬ xs = ys := fun e => h' (by rw [e])
  simp [this]
 ·simp at h; omega
theorem wB (xs ys : List Int) (hx : xs.length ≤ maxLen) (hy : ys.length ≤ maxLen) : ∀ (r s : List Int) (i : Nat), xs.drop i = r → ys.drop i = s → s.length = r.length → Ev (fun k => zJ k xs ys (xs.length : Int) (i : Int)) (r == s)
 | [], [], i, h1, h2, hl => by
   have a := zz h1
   refine Ev.step (fun k => yE k xs ys _ i) ?_
   simp only [a.g, cond_false]
   exact Ev.pure _
 | x :: r, y :: s, i, h1, h2, hl => by
   have a := zi h1 hx
   have b := zi h2 hy
   refine Ev.step (fun k => yE k xs ys _ i) ?_
   simp only [a.g, a.z, b.g, a.get, b.get, a.w, cond_true]
   have ih := wB xs ys hx hy r s (i + 1) a.next b.next (by simpa using hl)
   refine Ev.ite (fun h => Ev.some ?_) (fun h => ih.to ?_)
   ·have : ¬ x = y := by simpa using h
    simp [this]
   ·have : x = y := by simpa using h
    simp [this]
 | [], _ :: _, _, _, _, hl => by simp at hl
 | _ :: _, [], _, _, _, hl => by simp at hl
theorem fA (xs ys : List Int) (hx : xs.length ≤ maxLen) (hy : ys.length ≤ maxLen) : Ev (fun k => yA k (xs, ys)) (xs == ys) := by
 refine Ev.step (fun k => ve k xs ys) (Ev.ite (fun h => Ev.some ?_) (fun h => wB xs ys hx hy xs ys 0 rfl rfl ?_))
 ·have h' : ¬ xs.length = ys.length := by simp at h; omega
  have : ¬ xs = ys := fun e => h' (by rw [e])
  simp [this]
 ·simp at h; omega
end Qq
namespace Qq
open Go Go.Vt Pt
set_option linter.unusedVariables false
set_option linter.unusedSimpArgs false
set_option linter.unnecessarySimpa false
theorem EC : ∀ a b, cmpL a b = cmpI a b
 | [], _ => rfl
 | _ :: _, [] => rfl
 | x :: a, y :: b => by unfold cmpL cmpI; rw [EC a b]
theorem GC (a b : List Int) : TA a b = decide (cmpI a b < 0) := by
 have := LT a b
 rw [EC] at this
 by_cases h : cmpI a b < 0
 ·rw [decide_eq_false (by omega)] at this; rw [decide_eq_true h]; simpa using this.symm
 ·rw [decide_eq_true (by omega)] at this; rw [decide_eq_false h]; simpa using this.symm
theorem Kz {a b : List Int} : leI a b = true ↔ ¬ cmpI b a < 0 := by unfold leI; simp
theorem Rj {a b : List Int} (h : leI a b = true) (hn : a ≠ b) : cmpI a b < 0 := by
 by_cases k : cmpI a b < 0
 ·exact k
 ·exact (hn (R3 a b k (Kz.1 h))).elim
theorem le_of_lt {a b : List Int} (h : cmpI a b < 0) : leI a b = true := Kz.2 fun k => vj a (ur a b a h k)
def SS (l : Packs) : Prop := l.Pairwise fun a b => cmpI a b < 0
theorem Me : ∀ {l m : Packs}, SS l → SS m → (∀ x, x ∈ l ↔ x ∈ m) → l = m
 | [], [], _, _, _ => rfl
 | [], y :: m, _, _, h => by have := (h y).2 (by simp); simp at this
 | x :: l, [], _, _, h => by have := (h x).1 (by simp); simp at this
 | x :: l, y :: m, hl, hm, h => by
   obtain ⟨hl1, hl2⟩ := List.pairwise_cons.1 hl
   obtain ⟨hm1, hm2⟩ := List.pairwise_cons.1 hm
   have e : x = y := by
    rcases List.mem_cons.1 ((h x).1 (by simp)) with e | hx
    ·exact e
    ·rcases List.mem_cons.1 ((h y).2 (by simp)) with e | hy
     ·exact e.symm
     ·exact (vj x (ur x y x (hl1 y hy) (hm1 x hx))).elim
   subst e
   have : l = m := Me hl2 hm2 fun z => by
    constructor
    ·intro hz
     rcases List.mem_cons.1 ((h z).1 (List.mem_cons_of_mem _ hz)) with e | hz2
     ·subst e; exact (vj _ (hl1 _ hz)).elim
     ·exact hz2
    ·intro hz
     rcases List.mem_cons.1 ((h z).2 (List.mem_cons_of_mem _ hz)) with e | hz2
     ·subst e; exact (vj _ (hm1 _ hz)).elim
     ·exact hz2
   rw [this]
theorem Th : ∀ (r : Packs) (p : List Int), (p :: r).Pairwise (fun a b => leI a b = true) → SS (p :: yO p r) ∧ ∀ z, z ∈ p :: yO p r ↔ z ∈ p :: r
 | [], p, _ => ⟨List.pairwise_singleton _ _, fun z => Iff.rfl⟩
 | y :: r, p, h => by
   obtain ⟨h1, h2⟩ := List.pairwise_cons.1 h
   obtain ⟨i1, i2⟩ := Th r y h2
   unfold yO
   by_cases e : y = p
   ·subst e
    rw [if_pos rfl]
    refine ⟨i1, fun z => ?_⟩
    rw [i2]; simp
   ·rw [if_neg e]
    have hlt : cmpI p y < 0 := Rj (h1 y (by simp)) (Ne.symm e)
    refine ⟨List.pairwise_cons.2 ⟨fun z hz => ?_, i1⟩, fun z => ?_⟩
    ·rcases List.mem_cons.1 hz with rfl | hz
     ·exact hlt
     ·exact ur _ _ _ hlt ((List.pairwise_cons.1 i1).1 z hz)
    ·rw [List.mem_cons, i2, ← List.mem_cons]
theorem JF {l : Packs} (h : l.Pairwise (fun a b => leI a b = true)) : SS (Xd l) ∧ ∀ z, z ∈ Xd l ↔ z ∈ l := by
 cases l with
 | nil => exact ⟨List.Pairwise.nil, fun _ => Iff.rfl⟩
 | cons x r => exact Th r x h
def setL (l : Packs) : Packs := Xd (X1 l)
theorem Sq (l : Packs) : SS (setL l) := (JF (aq l)).1
theorem vC (l : Packs) (z : List Int) : z ∈ setL l ↔ z ∈ l := ((JF (aq l)).2 z).trans (eG l).mem_iff
theorem Kj {l m : Packs} (h : SS m) (hm : ∀ z, z ∈ m ↔ z ∈ l) : m = setL l := Me h (Sq l) fun z => (hm z).trans (vC l z).symm
theorem Vf : ∀ (r : Packs) (p : List Int), (yO p r).length ≤ r.length
 | [], _ => Nat.le_refl _
 | y :: r, p => by unfold yO; have := Vf r y; split <;> simp <;> omega
theorem cM (l : Packs) : (setL l).length ≤ l.length := by
 have h1 : (X1 l).length = l.length := (eG l).length_eq
 unfold setL
 rw [← h1]
 cases X1 l with
 | nil => exact Nat.le_refl _
 | cons x r => have := Vf r x; simp [Xd]; omega
theorem gB (l : Packs) (hl : l.length ≤ 16777216) (h12 : ∀ p ∈ l, p.length ≤ 1048576) : ∀ (r : Packs) (i : Nat), l.drop i = r → Ev (fun k => w9 k l (l.length : Int) (i : Int) (l.take i)) (setL l)
 | [], i, h => by
   have a := zz h
   refine Ev.step (fun k => gC k _ _ _ _) ?_
   simp only [a.g, cond_false]
   rw [List.take_of_length_le a.ge]
   have small : ∀ m : Packs, m.length ≤ 16777216 → (∀ p ∈ m, p.length ≤ 1048576) → UE m = true := fun m hm hp => by
    unfold UE
    rw [Bool.and_eq_true]
    exact ⟨decide_eq_true (by omega), List.all_eq_true.2 fun p hpm => decide_eq_true (by have := hp p hpm; omega)⟩
   have e1 : Ev (fun k => xQ k (l, false)) ((), X1 l) := Ev.congr (fun k => gT k l false) (by
    show Ev (fun _ => Ki l) _
    unfold Ki
    exact Ev.yes (small l hl h12) (Ev.pure _))
   have e2 : Ev (fun k => xg k (X1 l, false)) (setL l) := Ev.congr (fun k => jm k (X1 l) false) (by
    show Ev (fun _ => bC (X1 l)) _
    unfold bC
    exact Ev.yes (small _ (by rw [(eG l).length_eq]; exact hl) (fun p hp => h12 p ((eG l).mem_iff.1 hp))) (Ev.pure _))
   exact Ev.bind e1 (Ev.bind e2 (Ev.pure _))
 | p :: r, i, h => by
   have a := zi h (by rw [zc]; omega)
   have hlt := a.lt
   have hp := h12 p a.mem
   have ih := gB l hl h12 r (i + 1) a.next
   have et : l.take (i + 1) = l.take i ++ [p] := by
    rw [List.take_add_one, List.getElem?_eq_getElem hlt]
    have := a.gt []
    simp [List.getD, hlt] at this
    rw [this]; rfl
   rw [et] at ih
   refine Ev.step (fun k => gC k _ _ _ _) ?_
   simp only [a.g, a.z, a.get, a.w, cond_true]
   exact Ev.bind (yX p hp) (Ev.yes (by rw [za]; exact decide_eq_true (by simp; omega)) ih)
theorem bY (l : Packs) (hl : l.length ≤ 16777216) (h12 : ∀ p ∈ l, p.length ≤ 1048576) : Ev (fun k => bq k l) (setL l) :=
 Ev.step (fun k => TD k l) (gB l hl h12 l 0 rfl)
def fM (out : Packs) (x : List Int) : Packs := if out.length = 0 then [x] else if out.getD (out.length - 1) [] = x then out else out ++ [x]
theorem WA (out : Packs) (x : List Int) : (fM out x).length ≤ out.length + 1 := by
 unfold fM
 split
 ·simp
 ·split <;> simp
theorem TQ {out : Packs} {x : List Int} (h : SS out) (hx : ∀ o ∈ out, leI o x = true) : SS (fM out x) ∧ ∀ z, z ∈ fM out x ↔ z ∈ out ∨ z = x := by
 unfold fM
 split
 ·rename_i h0
  have : out = [] := List.length_eq_zero_iff.1 h0
  subst this
  exact ⟨List.pairwise_singleton _ _, fun z => by simp⟩
 ·rename_i h0
  obtain ⟨init, l, rfl⟩ : ∃ init l, out = init ++ [l] := by
   rcases List.eq_nil_or_concat out with h | ⟨i, l, h⟩
   ·subst h; simp at h0
   ·exact ⟨i, l, by rw [h]; simp⟩
  have el : (init ++ [l]).getD ((init ++ [l]).length - 1) [] = l := by simp [List.getD]
  rw [el]
  split
  ·rename_i e
   subst e
   exact ⟨h, fun z => ⟨.inl, fun hz => hz.elim id fun e => by simp [e]⟩⟩
  ·rename_i e
   have hlt : cmpI l x < 0 := Rj (hx l (by simp)) e
   refine ⟨?_, fun z => by simp [or_assoc]⟩
   refine List.pairwise_append.2 ⟨h, List.pairwise_singleton _ _, fun o ho y hy => ?_⟩
   have : y = x := by simpa using hy
   subst this
   rcases List.mem_append.1 ho with ho | ho
   ·exact ur _ _ _ ((List.pairwise_append.1 h).2.2 o ho l (by simp)) hlt
   ·have : o = l := by simpa using ho
    subst this; exact hlt
def jb : Packs → Packs → Packs → Packs
 | [], [], out => out
 | x :: a, [], out => jb a [] (fM out x)
 | [], y :: b, out => jb [] b (fM out y)
 | x :: a, y :: b, out => if TA y x then jb (x :: a) b (fM out y) else jb a (y :: b) (fM out x)
termination_by a b => a.length + b.length
theorem Zr : ∀ (n : Nat) (a b out : Packs), a.length + b.length = n → a.Pairwise (fun x y => leI x y = true) → b.Pairwise (fun x y => leI x y = true) → SS out → (∀ o ∈ out, ∀ z, z ∈ a ∨ z ∈ b → leI o z = true) →
 SS (jb a b out) ∧ ∀ z, z ∈ jb a b out ↔ z ∈ out ∨ z ∈ a ∨ z ∈ b
 | n, a, b, out, hn, ha, hb, ho, hz => by
   match a, b, n, hn, ha, hb with
   | [], [], _, _, _, _ => unfold jb; exact ⟨ho, fun z => by simp⟩
   | x :: a, [], n + 1, hn, ha, hb =>
     obtain ⟨a1, a2⟩ := List.pairwise_cons.1 ha
     obtain ⟨p1, p2⟩ := TQ ho (fun o h => hz o h x (by simp))
     unfold jb
     obtain ⟨q1, q2⟩ := Zr n a [] (fM out x) (by simp at hn ⊢; omega) a2 hb p1 (fun o h z hz' => by
      rcases (p2 o).1 h with h | rfl
      ·exact hz o h z (by rcases hz' with h | h; exact .inl (by simp [h]); exact .inr h)
      ·rcases hz' with h | h
       ·exact a1 z h
       ·cases h)
     exact ⟨q1, fun z => by rw [q2, p2]; simp [or_assoc]⟩
   | [], y :: b, n + 1, hn, ha, hb =>
     obtain ⟨b1, b2⟩ := List.pairwise_cons.1 hb
     obtain ⟨p1, p2⟩ := TQ ho (fun o h => hz o h y (by simp))
     unfold jb
     obtain ⟨q1, q2⟩ := Zr n [] b (fM out y) (by simp at hn ⊢; omega) ha b2 p1 (fun o h z hz' => by
      rcases (p2 o).1 h with h | rfl
      ·exact hz o h z (by rcases hz' with h | h; exact .inl h; exact .inr (by simp [h]))
      ·rcases hz' with h | h
       ·cases h
       ·exact b1 z h)
     exact ⟨q1, fun z => by rw [q2, p2]; simp [or_assoc]⟩
   | x :: a, y :: b, n + 1, hn, ha, hb =>
     obtain ⟨a1, a2⟩ := List.pairwise_cons.1 ha
     obtain ⟨b1, b2⟩ := List.pairwise_cons.1 hb
     unfold jb
     split
     ·rename_i c
      rw [GC] at c
      have hyx : leI y x = true := le_of_lt (of_decide_eq_true c)
      obtain ⟨p1, p2⟩ := TQ ho (fun o h => hz o h y (by simp))
      obtain ⟨q1, q2⟩ := Zr n (x :: a) b (fM out y) (by simp at hn ⊢; omega) ha b2 p1 (fun o h z hz' => by
       rcases (p2 o).1 h with h | rfl
       ·exact hz o h z (by rcases hz' with h | h; exact .inl h; exact .inr (by simp [h]))
       ·rcases hz' with h | h
        ·rcases List.mem_cons.1 h with rfl | h
         ·exact hyx
         ·exact Ro _ _ _ hyx (a1 z h)
        ·exact b1 z h)
      refine ⟨q1, fun z => ?_⟩
      rw [q2, p2]
      simp only [List.mem_cons]
      constructor
      ·rintro ((h | h) | (h | h) | h) <;> simp [h]
      ·rintro (h | (h | h) | h | h) <;> simp [h]
     ·rename_i c
      rw [GC] at c
      have hxy : leI x y = true := Kz.2 (by simpa using c)
      obtain ⟨p1, p2⟩ := TQ ho (fun o h => hz o h x (by simp))
      obtain ⟨q1, q2⟩ := Zr n a (y :: b) (fM out x) (by simp at hn ⊢; omega) a2 hb p1 (fun o h z hz' => by
       rcases (p2 o).1 h with h | rfl
       ·exact hz o h z (by rcases hz' with h | h; exact .inl (by simp [h]); exact .inr h)
       ·rcases hz' with h | h
        ·exact a1 z h
        ·rcases List.mem_cons.1 h with rfl | h
         ·exact hxy
         ·exact Ro _ _ _ hxy (b1 z h))
      refine ⟨q1, fun z => ?_⟩
      rw [q2, p2]
      simp only [List.mem_cons]
      constructor
      ·rintro ((h | h) | h | h | h) <;> simp [h]
      ·rintro (h | (h | h) | h | h) <;> simp [h]
theorem Di {l : Packs} (h : SS l) : l.Pairwise (fun x y => leI x y = true) := h.imp fun h => le_of_lt h
theorem Pd {a b : Packs} (ha : SS a) (hb : SS b) : jb a b [] = setL (a ++ b) := by
 obtain ⟨h1, h2⟩ := Zr _ a b [] rfl (Di ha) (Di hb) List.Pairwise.nil (fun o h => by cases h)
 exact Kj h1 fun z => by rw [h2]; simp
theorem FK (out : Packs) : out.set (out.length - 1) (out.getD (out.length - 1) []) = out := by
 apply List.ext_getElem
 ·simp
 ·intro i h1 h2
  rw [List.getElem_set]
  split
  ·rename_i e
   subst e
   simp [List.getD, h2]
  ·rfl
theorem Nj {C : Nat → Packs → Option Packs} {z : Packs} (out : Packs) (x : List Int) (hx : x.length ≤ 1048576) (ho : out.length ≤ 4194304) (h12 : ∀ p ∈ out, p.length ≤ 1048576) (h : Ev (fun k => C k (fM out x)) z) :
 Ev (fun k => bif ((out.length : Int) == (0 : Int)) then
     (bif decide (([] : List Int).length + x.length ≤ rowMax) then
       (bif decide (out.length + ([(([] : List Int) ++ x)]).length ≤ rowMax) then C k (out ++ ([(([] : List Int) ++ x)])) else none) else none)
  else (bif decide (0 ≤ (IntKind.i64.wrap ((out.length : Int) - (1 : Int)))) then
   (bif decide ((IntKind.i64.wrap ((out.length : Int) - (1 : Int))) < (out.length : Int)) then
     (bif decide ((IntKind.i64.wrap ((out.length : Int) - (1 : Int))).toNat < out.length) then
       ((zV k ((out.getD (IntKind.i64.wrap ((out.length : Int) - (1 : Int))).toNat []), x)).bind fun y =>
         bif (!y) then
          (bif decide (([] : List Int).length + x.length ≤ rowMax) then
            (bif decide ((out.set (IntKind.i64.wrap ((out.length : Int) - (1 : Int))).toNat (out.getD (IntKind.i64.wrap ((out.length : Int) - (1 : Int))).toNat [])).length + ([(([] : List Int) ++ x)]).length ≤ rowMax) then
              C k ((out.set (IntKind.i64.wrap ((out.length : Int) - (1 : Int))).toNat (out.getD (IntKind.i64.wrap ((out.length : Int) - (1 : Int))).toNat [])) ++ ([(([] : List Int) ++ x)])) else none) else none)
         else C k (out.set (IntKind.i64.wrap ((out.length : Int) - (1 : Int))).toNat (out.getD (IntKind.i64.wrap ((out.length : Int) - (1 : Int))).toNat []))) else none) else none) else none)) z := by
 unfold fM at h
 refine Ev.ite (fun c => ?_) (fun c => ?_)
 ·have h0 : out.length = 0 := by have : (out.length : Int) = 0 := by simpa using c
                                 omega
  rw [if_pos h0] at h
  have e : out = [] := List.length_eq_zero_iff.1 h0
  subst e
  exact Ev.yes (by rw [za]; exact decide_eq_true (by simp; omega)) (Ev.yes (by rw [za]; simp) h)
 ·have h0 : ¬ out.length = 0 := by have : ¬ (out.length : Int) = 0 := by simpa using c
                                   omega
  rw [if_neg h0] at h
  have e : ((out.length : Int) - 1) = ((out.length - 1 : Nat) : Int) := by omega
  have hl : (out.getD (out.length - 1) []).length ≤ 1048576 := by
   have : out.length - 1 < out.length := by omega
   rw [List.getD, List.getElem?_eq_getElem this]
   exact h12 _ (List.getElem_mem this)
  simp only [e, zg (x := ((out.length - 1 : Nat) : Int)) (by omega) (by omega), Int.toNat_natCast, FK]
  refine Ev.yes (by simp) (Ev.yes (by simp; omega) (Ev.yes (by simp; omega) (Ev.bind (Vx _ x (by rw [zc]; omega) (by rw [zc]; omega)) (Ev.ite (fun c2 => ?_) (fun c2 => ?_)))))
  ·have : ¬ out.getD (out.length - 1) [] = x := by simpa using c2
   rw [if_neg this] at h
   exact Ev.yes (by rw [za]; exact decide_eq_true (by simp; omega)) (Ev.yes (by rw [za]; exact decide_eq_true (by simp; omega)) h)
  ·have : out.getD (out.length - 1) [] = x := by simpa using c2
   rw [if_pos this] at h
   exact h
theorem c9 {out : Packs} {x : List Int} (hx : x.length ≤ 1048576) (h12 : ∀ p ∈ out, p.length ≤ 1048576) : ∀ p ∈ fM out x, p.length ≤ 1048576 := fun p hp => by
 unfold fM at hp
 split at hp
 ·have : p = x := by simpa using hp
  subst this; exact hx
 ·split at hp
  ·exact h12 p hp
  ·rcases List.mem_append.1 hp with h | h
   ·exact h12 p h
   ·have : p = x := by simpa using h
    subst this; exact hx
theorem XX {α : Type} (l : List α) : l.take ((l.length : Int)).toNat = l := by simp
theorem xW : ∀ (n : Nat) (a b out : Packs), a.length + b.length = n → out.length + n ≤ 4194304 → (∀ p ∈ a, p.length ≤ 1048576) → (∀ p ∈ b, p.length ≤ 1048576) → (∀ p ∈ out, p.length ≤ 1048576) →
 Ev (fun k => zh k a b out) (jb a b out)
 | 0, a, b, out, hn, hl, h1, h2, h3 => by
   have ea : a = [] := List.length_eq_zero_iff.1 (by omega)
   have eb : b = [] := List.length_eq_zero_iff.1 (by omega)
   subst ea eb
   unfold jb
   exact Ev.step (fun k => w7 k _ _ _) (Ev.no (by (first | (simp; done) | (simp; omega) | omega)) (Ev.no (by (first | (simp; done) | (simp; omega) | omega)) (Ev.pure _)))
 | n + 1, [], [], out, hn, hl, h1, h2, h3 => by simp at hn
 | n + 1, x :: a, [], out, hn, hl, h1, h2, h3 => by
   have hx := h1 x (by simp)
   have hp := WA out x
   have ih := xW n a [] (fM out x) (by simp at hn ⊢; omega) (by omega) (fun p hp => h1 p (by simp [hp])) h2 (c9 hx h3)
   unfold jb
   refine Ev.step (fun k => w7 k _ _ _) ?_
   simp only [XX, List.getD_cons_zero, List.drop_succ_cons, List.drop_zero]
   refine Ev.yes (by (first | (simp; done) | (simp; omega) | omega)) (Ev.yes (by (first | (simp; done) | (simp; omega) | omega)) (Ev.yes (by (first | (simp; done) | (simp; omega) | omega)) (Ev.yes (by (first | (simp; done) | (simp; omega) | omega)) (Ev.yes (by (first | (simp; done) | (simp; omega) | omega)) ?_))))
   exact Nj (C := fun k o => zh k a [] o) out x hx (by omega) h3 ih
 | n + 1, [], y :: b, out, hn, hl, h1, h2, h3 => by
   have hy := h2 y (by simp)
   have hp := WA out y
   have ih := xW n [] b (fM out y) (by simp at hn ⊢; omega) (by omega) h1 (fun p hp => h2 p (by simp [hp])) (c9 hy h3)
   unfold jb
   refine Ev.step (fun k => w7 k _ _ _) ?_
   simp only [XX, List.getD_cons_zero, List.drop_succ_cons, List.drop_zero]
   refine Ev.no (by (first | (simp; done) | (simp; omega) | omega)) (Ev.yes (by (first | (simp; done) | (simp; omega) | omega)) (Ev.no (by (first | (simp; done) | (simp; omega) | omega)) (Ev.no (by (first | (simp; done) | (simp; omega) | omega)) (Ev.yes (by (first | (simp; done) | (simp; omega) | omega)) (Ev.yes (by (first | (simp; done) | (simp; omega) | omega)) (Ev.yes (by (first | (simp; done) | (simp; omega) | omega)) ?_))))))
   exact Nj (C := fun k o => zh k [] b o) out y hy (by omega) h3 ih
 | n + 1, x :: a, y :: b, out, hn, hl, h1, h2, h3 => by
   have hx := h1 x (by simp)
   have hy := h2 y (by simp)
   have hp := WA out x
   have hp2 := WA out y
   have ihx := xW n a (y :: b) (fM out x) (by simp at hn ⊢; omega) (by omega) (fun p hp => h1 p (by simp [hp])) h2 (c9 hx h3)
   have ihy := xW n (x :: a) b (fM out y) (by simp at hn ⊢; omega) (by omega) h1 (fun p hp => h2 p (by simp [hp])) (c9 hy h3)
   unfold jb
   refine Ev.step (fun k => w7 k _ _ _) ?_
   simp only [XX, List.getD_cons_zero, List.drop_succ_cons, List.drop_zero]
   refine Ev.yes (by (first | (simp; done) | (simp; omega) | omega)) (Ev.no (by (first | (simp; done) | (simp; omega) | omega)) (Ev.yes (by (first | (simp; done) | (simp; omega) | omega)) (Ev.yes (by (first | (simp; done) | (simp; omega) | omega)) (Ev.yes (by (first | (simp; done) | (simp; omega) | omega)) (Ev.bind (Mp y x (by rw [zc]; omega) (by rw [zc]; omega)) (Ev.ite (fun c => ?_) (fun c => ?_)))))))
   ·have : TA y x = false := by simpa using c
    rw [this, if_neg (by simp)]
    refine Ev.yes (by (first | (simp; done) | (simp; omega) | omega)) (Ev.yes (by (first | (simp; done) | (simp; omega) | omega)) (Ev.yes (by (first | (simp; done) | (simp; omega) | omega)) ?_))
    exact Nj (C := fun k o => zh k a (y :: b) o) out x hx (by omega) h3 ihx
   ·have : TA y x = true := by simpa using c
    rw [this, if_pos rfl]
    refine Ev.yes (by (first | (simp; done) | (simp; omega) | omega)) (Ev.yes (by (first | (simp; done) | (simp; omega) | omega)) (Ev.yes (by (first | (simp; done) | (simp; omega) | omega)) ?_))
    exact Nj (C := fun k o => zh k (x :: a) b o) out y hy (by omega) h3 ihy
theorem Wh (a b : Packs) (hl : a.length + b.length ≤ 4194304) (h1 : ∀ p ∈ a, p.length ≤ 1048576) (h2 : ∀ p ∈ b, p.length ≤ 1048576) : Ev (fun k => Z4 k (a, b)) (jb a b []) :=
 Ev.step (fun k => P1 k a b) (xW _ a b [] rfl (by simpa using hl) h1 h2 (fun p hp => by cases hp))
theorem half2 (n : Nat) (h : n ≤ 4194304) : IntKind.i64.wrap ((n : Int).tdiv 2) = ((n / 2 : Nat) : Int) := by
 have : (n : Int).tdiv 2 = ((n / 2 : Nat) : Int) := by rw [Int.tdiv_eq_ediv_of_nonneg (by omega)]; omega
 rw [this, zg (by omega) (by omega)]
theorem jn : ∀ (n : Nat) (l : Packs), l.length ≤ n → l.length ≤ 1048576 → (∀ p ∈ l, p.length ≤ 1048576) → Ev (fun k => vF k l) (setL l)
 | n, l, hn, hl, h12 => by
   refine Ev.step (fun k => Tr k l) ?_
   refine Ev.ite (fun c => ?_) (fun c => ?_)
   ·have hlt : l.length < 2 := by have : (l.length : Int) < 2 := by simpa using c
                                  omega
    have hs : SS l := by
     match l, hlt with
     | [], _ => exact List.Pairwise.nil
     | [x], _ => exact List.pairwise_singleton _ _
    refine Ev.bind (Wh l [] (by simp; omega) h12 (fun p hp => by cases hp)) (Ev.some ?_)
    rw [Pd hs List.Pairwise.nil, List.append_nil]
   ·have hge : ¬ l.length < 2 := by have : ¬ (l.length : Int) < 2 := by simpa using c
                                    omega
    match n, hn with
    | 0, hn => omega
    | n + 1, hn =>
    have hA := jn n (l.take (l.length / 2)) (by simp; omega) (by simp; omega) (fun p hp => h12 p (List.mem_of_mem_take hp))
    have hB := jn n (l.drop (l.length / 2)) (by simp; omega) (by simp; omega) (fun p hp => h12 p (List.mem_of_mem_drop hp))
    have lA := cM (l.take (l.length / 2))
    have lB := cM (l.drop (l.length / 2))
    simp at lA lB
    simp only [half2 l.length (by omega), XX, Int.toNat_natCast, List.drop_zero, List.take_length]
    refine Ev.yes (by (first | (simp; done) | (simp; omega) | omega)) (Ev.yes (by (first | (simp; done) | (simp; omega) | omega)) (Ev.bind hA (Ev.yes (by (first | (simp; done) | (simp; omega) | omega)) (Ev.yes (by (first | (simp; done) | (simp; omega) | omega)) (Ev.yes (by (first | (simp; done) | (simp; omega) | omega)) (Ev.bind hB (Ev.bind (Wh _ _ (by omega) (fun p hp => ?_) (fun p hp => ?_)) (Ev.some ?_))))))))
    ·exact h12 p (List.mem_of_mem_take ((vC _ p).1 hp))
    ·exact h12 p (List.mem_of_mem_drop ((vC _ p).1 hp))
    ·rw [Pd (Sq _) (Sq _)]
     refine Kj (Sq _) fun z => ?_
     rw [vC, List.mem_append, vC, vC, ← List.mem_append, List.take_append_drop]
end Qq
namespace Qq
open Go Go.Vt Pt
set_option linter.unusedVariables false
set_option linter.unusedSimpArgs false
def top : Int := 4611686018427387904
theorem N8 : top = 4611686018427387904 := rfl
def eE (k : Int) : Nat → List Int
 | 0 => []
 | n + 1 => k :: eE (k + 1) n
theorem QX : ∀ (k : Int) (n : Nat), (eE k n).length = n
 | _, 0 => rfl
 | k, n + 1 => by show (eE (k + 1) n).length + 1 = n + 1; rw [QX]
theorem QB (xs : List Int) (hm : xs.length ≤ maxLen) : ∀ (r : List Int) (i : Nat) (k0 : Int) (done : List Int), xs.drop i = r → done.length = i → 0 ≤ k0 → k0 ≤ top - r.length →
 Ev (fun k => jF k k0 (i : Int) (done ++ r)) (k0 + r.length, done ++ eE k0 r.length) := by
 intro r
 induction r with
 | nil =>
   intro i k0 done h hl h0 h1
   have a := zz h
   refine Ev.step (fun k => bF k k0 i _) ?_
   have : decide ((i : Int) < ((done ++ ([] : List Int)).length : Int)) = false := by simp; omega
   refine Ev.no this (Ev.some ?_)
   simp [eE]
 | cons x r ih =>
   intro i k0 done h hl h0 h1
   have a := zi h hm
   have L : (done ++ x :: r).length = i + (r.length + 1) := by simp [hl]
   refine Ev.step (fun k => bF k k0 i _) ?_
   refine Ev.yes (by rw [L]; simp; omega) (Ev.yes (by simp) (Ev.yes (by rw [L]; simp; omega) (Ev.yes (by rw [L]; simp) ?_)))
   rw [List.length_cons] at h1
   rw [zg (x := k0 + 1) (by omega) (by rw [N8] at h1; omega), zg (x := (i : Int) + 1) (by omega) (by have := a.lt; rw [zc] at hm; omega)]
   have e : (done ++ x :: r).set (i : Int).toNat k0 = (done ++ [k0]) ++ r := by
    rw [Int.toNat_natCast, ← hl, List.set_append_right _ _ (Nat.le_refl _)]
    simp
   rw [e]
   have := ih (i + 1) (k0 + 1) (done ++ [k0]) a.next (by simp [hl]) (by omega) (by omega)
   have e2 : done ++ eE k0 (x :: r).length = (done ++ [k0]) ++ eE (k0 + 1) r.length := by simp [eE]
   have e3 : k0 + ((x :: r).length : Int) = k0 + 1 + (r.length : Int) := by simp; omega
   rw [e2, e3]
   exact_mod_cast this
theorem Ky (xs : List Int) (k0 : Int) (hm : xs.length ≤ maxLen) (h0 : 0 ≤ k0) (h1 : k0 ≤ top - xs.length) :
 Ev (fun k => VC k (xs, k0)) (k0 + xs.length, eE k0 xs.length) :=
 Ev.step (fun k => PN k xs k0) (QB xs hm xs 0 k0 [] rfl rfl h0 h1)
theorem QR (ys : List Int) (hm : ys.length ≤ maxLen) : ∀ (n : Nat) (i : Nat) (k0 : Int), ys.drop i = eE k0 n → 0 ≤ k0 → k0 ≤ top - n →
 Ev (fun k => jG k ys k0 (i : Int)) (k0 + n) := by
 intro n
 induction n with
 | zero =>
   intro i k0 h h0 h1
   have a := zz h
   refine Ev.step (fun k => bG k ys k0 i) ?_
   simp only [a.g, cond_false]
   exact Ev.some (by simp)
 | succ n ih =>
   intro i k0 h h0 h1
   have a := zi h hm
   refine Ev.step (fun k => bG k ys k0 i) ?_
   simp only [a.g, a.z, a.get, a.w, cond_true]
   refine Ev.no (by simp) ?_
   rw [zg (x := k0 + 1) (by omega) (by rw [N8] at h1; omega)]
   have := ih (i + 1) (k0 + 1) a.next (by omega) (by omega)
   have e3 : k0 + ((n + 1 : Nat) : Int) = k0 + 1 + (n : Int) := by omega
   rw [e3]
   exact this
theorem KK (n : Nat) (k0 : Int) (hm : n ≤ maxLen) (h0 : 0 ≤ k0) (h1 : k0 ≤ top - n) :
 Ev (fun k => VD k (eE k0 n, k0)) (k0 + n) :=
 Ev.step (fun k => PO k _ k0) (QR _ (by rw [QX]; exact hm) n 0 k0 rfl h0 h1)
end Qq
namespace Qq
open Go Go.Vt Pt
set_option linter.unusedVariables false
set_option linter.unusedSimpArgs false
end Qq
namespace Qq
open Go Go.Vt Pt
set_option linter.unusedVariables false
set_option linter.unusedSimpArgs false
abbrev Step : Type := Int × (Int × Int) × Int
abbrev Trick : Type := List Int × List Step × Int × Int × Int
abbrev Scene : Type := List Int × Int
theorem J7 (xs : List Step) (n : Int) (hx : xs.length ≤ maxLen) (hn : 0 ≤ n) (hn2 : n ≤ 1048576) :
 Ev (fun k => T7 k (xs, n)) (if n - (xs.length : Int) < 0 then -1 else n - xs.length) := by
 rw [zc] at hx
 refine Ev.step (fun k => N3 k xs n) ?_
 rw [zg (by omega) (by omega)]
 split
 ·rename_i h; exact Ev.yes (by simpa using h) (Ev.pure _)
 ·rename_i h; exact Ev.no (by simpa using h) (Ev.pure _)
def szTrick (t : Trick) (n : Int) : Int := if n - (t.1.length : Int) < 0 then -1 else if n - (t.1.length : Int) - (t.2.1.length : Int) < 0 then -1 else n - (t.1.length : Int) - (t.2.1.length : Int)
theorem Z0 (t : Trick) (n : Int) (h1 : t.1.length ≤ maxLen) (h2 : t.2.1.length ≤ maxLen) (hn : 0 ≤ n) (hn2 : n ≤ 1048576) : Ev (fun k => fZ k (t, n)) (szTrick t n) := by
 refine Ev.step (fun k => N2 k t n) (Ev.bind (Si t.1 n h1 hn hn2) ?_)
 unfold szTrick
 split
 ·exact Ev.yes rfl (Ev.pure _)
 ·rename_i h
  refine Ev.no (by simpa using h) (Ev.bind (J7 t.2.1 _ h2 (by omega) (by omega)) ?_)
  split
  ·exact Ev.yes rfl (Ev.pure _)
  ·rename_i h'; exact Ev.no (by simpa using h') (Ev.pure _)
theorem cH {t : Trick} {n : Int} (hn : n ≤ 1048576) (h : ¬ szTrick t n < 0) : t.1.length ≤ 1048576 ∧ t.2.1.length ≤ 1048576 ∧ 0 ≤ szTrick t n ∧ szTrick t n ≤ n := by
 unfold szTrick at *
 split at h <;> rename_i h1
 ·exact absurd (by decide) h
 ·split at h <;> rename_i h2
  ·exact absurd (by decide) h
  ·rw [if_neg h1, if_neg h2]; omega
theorem XV (xs : List Step) (hm : xs.length ≤ maxLen) : ∀ (r : List Step) (i : Nat) (ys : List Step), xs.drop i = r → ys.length = xs.length → ys.take i = xs.take i → Ev (fun k => gV k xs (i : Int) ys) xs
 | [], i, ys, h, hl, ht => by
   have a := zz h
   refine Ev.step (fun k => ah k xs i ys) ?_
   simp only [a.g, cond_false]
   have e : ys = xs := by
    have := a.ge
    rwa [List.take_of_length_le (by omega), List.take_of_length_le (by omega)] at ht
   exact Ev.some e
 | x :: r, i, ys, h, hl, ht => by
   have a := zi h hm
   have b1 : decide ((i : Int) < (ys.length : Int)) = true := by rw [hl]; exact a.g
   have b2 : decide ((i : Int).toNat < ys.length) = true := by rw [hl]; exact a.n
   refine Ev.step (fun k => ah k xs i ys) ?_
   simp only [a.g, a.z, cond_true]
   refine Ev.bind (Gb _) ?_
   simp only [b1, b2, a.w, a.get, cond_true]
   have hs := Gh (n := 0) (d := (0, ((0, 0), 0))) a.lt hl ht
   have g := a.get (0, ((0, 0), 0))
   rw [Int.toNat_natCast] at g
   rw [g] at hs
   exact XV xs hm r (i + 1) _ a.next (by simp [hl]) (by simpa using hs)
theorem J3 (xs : List Step) (hm : xs.length ≤ 1048576) : Ev (fun k => T4 k xs) xs := by
 refine Ev.step (fun k => N0 k xs) (Ev.yes (by simp) (Ev.yes (by rw [za]; simp; omega) (Ev.yes (by simp) ?_)))
 exact XV xs (by rw [zc]; omega) xs 0 _ rfl (by simp) (by simp)
theorem ZZ (t : Trick) (h1 : t.1.length ≤ 1048576) (h2 : t.2.1.length ≤ 1048576) : Ev (fun k => yY k t) t :=
 Ev.step (fun k => NZ k t) (Ev.bind (Se _ h1) (Ev.bind (J3 _ h2) (Ev.pure _)))
theorem G5 (s t : Step) : Ev (fun k => PP k (s, t)) (s == t) := by
 obtain ⟨a, ⟨b, c⟩, d⟩ := s
 obtain ⟨a', ⟨b', c'⟩, d'⟩ := t
 refine Ev.step (fun k => Kc k _ _) ?_
 have hm : Ev (fun k => PQ k ((b, c), (b', c'))) ((b, c) == (b', c')) := by
  refine Ev.step (fun k => Kd k _ _) ?_
  repeat (first | (refine Ev.ite (fun h => ?_) (fun h => ?_)) | focus (refine Ev.some ?_; simp_all; done))
 refine Ev.ite (fun h => Ev.some ?_) (fun h => Ev.bind hm ?_)
 ·have : ¬ a = a' := by simpa using h
  simp [this]
 ·repeat (first | (refine Ev.ite (fun h => ?_) (fun h => ?_)) | focus (refine Ev.some ?_; simp_all; done))
theorem Vc (xs ys : List Step) (hx : xs.length ≤ maxLen) (hy : ys.length ≤ maxLen) : ∀ (r s : List Step) (i : Nat), xs.drop i = r → ys.drop i = s → s.length = r.length → Ev (fun k => gW k xs ys (i : Int)) (r == s)
 | [], [], i, h1, h2, hl => by
   have a := zz h1
   refine Ev.step (fun k => ak k xs ys i) ?_
   simp only [a.g, cond_false]
   exact Ev.pure _
 | x :: r, y :: s, i, h1, h2, hl => by
   have a := zi h1 hx
   have b := zi h2 hy
   refine Ev.step (fun k => ak k xs ys i) ?_
   simp only [a.g, a.z, b.g, a.get, b.get, a.w, cond_true]
   have ih := Vc xs ys hx hy r s (i + 1) a.next b.next (by simpa using hl)
   refine Ev.bind (G5 x y) (Ev.ite (fun h => Ev.some ?_) (fun h => ih.to ?_))
   ·have : ¬ x = y := by simpa using h
    simp [this]
   ·have : x = y := by simpa using h
    simp [this]
 | [], _ :: _, _, _, _, hl => by simp at hl
 | _ :: _, [], _, _, _, hl => by simp at hl
theorem HF (xs ys : List Step) (hx : xs.length ≤ maxLen) (hy : ys.length ≤ maxLen) : Ev (fun k => Sb k (xs, ys)) (xs == ys) := by
 refine Ev.step (fun k => N6 k xs ys) (Ev.ite (fun h => Ev.some ?_) (fun h => Vc xs ys hx hy xs ys 0 rfl rfl ?_))
 ·have h' : ¬ xs.length = ys.length := by simp at h; omega
  have : ¬ xs = ys := fun e => h' (by rw [e])
  simp [this]
 ·simp at h; omega
theorem ca (t u : Trick) (h1 : t.1.length ≤ maxLen) (h2 : t.2.1.length ≤ maxLen) (h3 : u.1.length ≤ maxLen) (h4 : u.2.1.length ≤ maxLen) : Ev (fun k => vt k (t, u)) (t == u) := by
 obtain ⟨a, b, c, d, e⟩ := t
 obtain ⟨a', b', c', d', e'⟩ := u
 refine Ev.step (fun k => N5 k _ _) (Ev.bind (RV _ _ h1 h3) ?_)
 refine Ev.ite (fun h => Ev.some ?_) (fun h => Ev.bind (HF _ _ h2 h4) ?_)
 ·have : ¬ a = a' := by simpa using h
  simp [this]
 ·have ea : a = a' := by simpa using h
  subst ea
  refine Ev.ite (fun h => Ev.some ?_) (fun h => ?_)
  ·have : ¬ b = b' := by simpa using h
   simp [this]
  ·have eb : b = b' := by simpa using h
   subst eb
   repeat (first | (refine Ev.ite (fun h => ?_) (fun h => ?_)) | focus (refine Ev.some ?_; simp_all; done))
end Qq
namespace Qq
open Go Go.Vt Pt
set_option linter.unusedVariables false
set_option linter.unusedSimpArgs false
abbrev TrickTy : Ty := .pair (.slice (.int .i64)) (.pair (.slice (.pair (.int .i64) (.pair (.pair (.int .i64) (.int .i64)) (.int .i64)))) (.pair (.int .i64) (.pair (.int .i64) (.int .i64))))
def wA (n : Int) (p : List Int) (noted : Bool) (c a b : Int) : Bool :=
 if c = 0 then a == 0 && b == 0 else
 if c = 4 then a == 0 && b == 0 else
 if c = 1 then noted && (decide (0 ≤ a) && (decide (a < n) && b == 0)) else
 if c = 2 then decide (0 ≤ a) && (decide (a ≤ n) && b == 0) else
 if c = 3 then decide (0 ≤ pos p a) && (decide (0 ≤ b) && decide (b < n)) else false
def ua (n : Int) (l : List Step) : Bool := l.all (zP n)
def wc (l : List Step) : Bool := l.any fun s => s.1 == 3
def zf (t : Trick) : Bool :=
 zj t.1 && (!(t.1.length == 0) && (decide (t.2.1.length ≤ 12) && (ua t.1.length t.2.1 && wA t.1.length t.1 (wc t.2.1) t.2.2.1 t.2.2.2.1 t.2.2.2.2)))
theorem E7 (p : List Int) (st : List Step) (c a b n : Int) (nt : Bool) (hp : p.length ≤ maxLen) (hn : n = p.length) : Ev (fun k => VM k ((p, st, c, a, b), n, nt)) (wA n p nt c a b) := by
 have hw : IntKind.i64.wrap (n - 1) = n - 1 := by rw [zc] at hp; exact zg (by omega) (by omega)
 refine Ev.step (fun k => P0 k _ n nt) ?_
 unfold wA
 dsimp only
 rw [hw]
 refine Ev.ite (fun h => ?_) (fun h => ?_)
 ·have e : c = 0 := by simpa using h
  rw [if_pos e]
  refine Ev.ite (fun h => Ev.some ?_) (fun h => Ev.some ?_) <;> simp [h]
 have e0 : ¬ c = 0 := by simpa using h
 rw [if_neg e0]
 refine Ev.ite (fun h => ?_) (fun h => ?_)
 ·have e : c = 4 := by simpa using h
  rw [if_pos e]
  refine Ev.ite (fun h => Ev.some ?_) (fun h => Ev.some ?_) <;> simp [h]
 have e4 : ¬ c = 4 := by simpa using h
 rw [if_neg e4]
 refine Ev.ite (fun h => ?_) (fun h => ?_)
 ·have e : c = 1 := by simpa using h
  rw [if_pos e]
  refine Ev.ite (fun h => Ev.bind (xf _ _ _) (Ev.ite (fun h' => Ev.some ?_) (fun h' => Ev.some ?_))) (fun h => Ev.some ?_)
  ·have : 0 ≤ a ∧ a ≤ n - 1 := by simpa using h'
   have h2 : a < n := by omega
   simp [h, this.1, h2]
  ·rw [Bool.eq_iff_iff]; simp at h' ⊢; intros; omega
  ·simp [h]
 have e1 : ¬ c = 1 := by simpa using h
 rw [if_neg e1]
 refine Ev.ite (fun h => ?_) (fun h => ?_)
 ·have e : c = 2 := by simpa using h
  rw [if_pos e]
  refine Ev.bind (xf _ _ _) (Ev.ite (fun h' => Ev.some ?_) (fun h' => Ev.some ?_))
  ·have : 0 ≤ a ∧ a ≤ n := by simpa using h'
   simp [this.1, this.2]
  ·rw [Bool.eq_iff_iff]; simp at h' ⊢; intros; omega
 have e2 : ¬ c = 2 := by simpa using h
 rw [if_neg e2]
 refine Ev.ite (fun h => ?_) (fun h => Ev.some ?_)
 ·have e : c = 3 := by simpa using h
  rw [if_pos e]
  refine Ev.bind (vH p a hp) (Ev.ite (fun h' => Ev.bind (xf _ _ _) (Ev.some ?_)) (fun h' => Ev.some ?_))
  ·have h3 : 0 ≤ pos p a := by simpa using h'
   rw [Bool.eq_iff_iff]; simp [h3]; intros; omega
  ·have h3 : ¬ 0 ≤ pos p a := by simpa using h'
   simp [h3]
 ·have e3 : ¬ c = 3 := by simpa using h
  rw [if_neg e3]
theorem ga (p : List Int) (c a b n : Int) (hp : p.length ≤ maxLen) (hn : n = p.length) (xs : List Step) (hm : xs.length ≤ maxLen) : ∀ (r : List Step) (i : Nat) (nt : Bool), xs.drop i = r →
 Ev (fun k => uY k n nt xs (xs.length : Int) (i : Int) p xs c a b) (ua n r && wA n p (nt || wc r) c a b)
 | [], i, nt, h => by
   have q := zz h
   refine Ev.step (fun k => Zf k _ _ _ _ _ _ _ _ _ _) ?_
   simp only [q.g, cond_false]
   exact Ev.bind (E7 p xs c a b n nt hp hn) (Ev.some (by simp [ua, wc]))
 | s :: r, i, nt, h => by
   have q := zi h hm
   refine Ev.step (fun k => Zf k _ _ _ _ _ _ _ _ _ _) ?_
   simp only [q.g, q.z, q.get, q.w, cond_true]
   refine Ev.bind (Kn n s) (Ev.ite (fun h => Ev.some ?_) (fun h => Ev.ite (fun h2 => ?_) (fun h2 => ?_)))
   ·have : zP n s = false := by simpa using h
    simp [ua, this]
   ·have e : zP n s = true := by simpa using h
    refine (ga p c a b n hp hn xs hm r (i + 1) true q.next).to ?_
    simp [ua, e, h2]
   ·have e : zP n s = true := by simpa using h
    refine (ga p c a b n hp hn xs hm r (i + 1) (s.1 == 3) q.next).to ?_
    simp [ua, e, h2, wc]
theorem xm (t : Trick) (h1 : t.1.length ≤ maxLen) (h2 : t.2.1.length ≤ maxLen) : Ev (fun k => xX k t) (zf t) := by
 obtain ⟨p, st, c, a, b⟩ := t
 unfold zf
 refine Ev.step (fun k => ME k _) (Ev.bind (vI p h1) (Ev.ite (fun h => Ev.some ?_) (fun h => Ev.ite (fun h' => Ev.some ?_) (fun h' => Ev.ite (fun h3 => Ev.some ?_) (fun h3 => ?_)))))
 ·have : zj p = false := by simpa using h
  simp [this]
 ·have : p.length = 0 := by simp at h'; simp [h']
  simp [this]
 ·have : ¬ st.length ≤ 12 := by simp at h3; omega
  simp [this]
 ·refine (ga p c a b _ h1 rfl st h2 st 0 false rfl).to ?_
  have e1 : zj p = true := by simpa using h
  have e2 : (p.length == 0) = false := by simp at h' ⊢; exact h'
  have e3 : st.length ≤ 12 := by simp at h3; omega
  simp [e1, e3, e2]
theorem KZ (xs : List Step) (hm : xs.length ≤ maxLen) (p : List Int) (hp : p.length ≤ maxLen) (hi : Ins p) (c a b n : Int) (hn : n = p.length) : ∀ (r : List Step) (i : Nat) (nt : Bool), xs.drop i = r →
 Ev (fun k => jf k n nt xs (xs.length : Int) (i : Int) p xs c a b) (ua n r && wA n p (nt || wc r) c a b)
 | [], i, nt, h => by
   have q := zz h
   refine Ev.step (fun k => ZB k _ _ _ _ _ _ _ _ _ _) ?_
   simp only [q.g, cond_false]
   have e : (ua n [] && wA n p (nt || wc []) c a b) = wA n p nt c a b := by simp [ua, wc]
   rw [e]
   unfold wA
   refine Ev.ite (fun h => ?_) (fun h => ?_)
   ·have e : c = 0 := by simpa using h
    rw [if_pos e]
    refine Ev.ite (fun h => Ev.some ?_) (fun h => Ev.some ?_) <;> simp [h]
   have e0 : ¬ c = 0 := by simpa using h
   rw [if_neg e0]
   refine Ev.ite (fun h => ?_) (fun h => ?_)
   ·have e : c = 4 := by simpa using h
    rw [if_pos e]
    refine Ev.ite (fun h => Ev.some ?_) (fun h => Ev.some ?_) <;> simp [h]
   have e4 : ¬ c = 4 := by simpa using h
   rw [if_neg e4]
   refine Ev.ite (fun h => ?_) (fun h => ?_)
   ·have e : c = 1 := by simpa using h
    rw [if_pos e]
    repeat (first | (refine Ev.ite (fun h => ?_) (fun h => ?_)) | focus (refine Ev.some ?_; simp_all; done) | focus (refine Ev.some ?_; simp_all; omega))
   have e1 : ¬ c = 1 := by simpa using h
   rw [if_neg e1]
   refine Ev.ite (fun h => ?_) (fun h => ?_)
   ·have e : c = 2 := by simpa using h
    rw [if_pos e]
    repeat (first | (refine Ev.ite (fun h => ?_) (fun h => ?_)) | focus (refine Ev.some ?_; simp_all; done) | focus (refine Ev.some ?_; simp_all; omega))
   have e2 : ¬ c = 2 := by simpa using h
   rw [if_neg e2]
   refine Ev.ite (fun h => ?_) (fun h => Ev.some ?_)
   ·have e : c = 3 := by simpa using h
    rw [if_pos e]
    refine Ev.bind (ZF p a hp hi) (Ev.ite (fun h' => Ev.ite (fun h2 => Ev.some ?_) (fun h2 => Ev.some ?_)) (fun h' => Ev.some ?_))
    ·have h3 : 0 ≤ pos p a := by simpa using h'
     have h4 : 0 ≤ b := by simpa using h2
     simp [h3, h4]
    ·have h4 : ¬ 0 ≤ b := by simpa using h2
     simp [h4]
    ·have h3 : ¬ 0 ≤ pos p a := by simpa using h'
     simp [h3]
   ·have e3 : ¬ c = 3 := by simpa using h
    rw [if_neg e3]
 | s :: r, i, nt, h => by
   have q := zi h hm
   refine Ev.step (fun k => ZB k _ _ _ _ _ _ _ _ _ _) ?_
   simp only [q.g, q.z, q.get, q.w, cond_true]
   refine Ev.bind (RI n s) (Ev.ite (fun h => Ev.some ?_) (fun h => Ev.ite (fun h2 => ?_) (fun h2 => ?_)))
   ·have : zP n s = false := by simpa using h
    simp [ua, this]
   ·have e : zP n s = true := by simpa using h
    refine (KZ xs hm p hp hi c a b n hn r (i + 1) true q.next).to ?_
    simp [ua, e, h2]
   ·have e : zP n s = true := by simpa using h
    refine (KZ xs hm p hp hi c a b n hn r (i + 1) (s.1 == 3) q.next).to ?_
    simp [ua, e, h2, wc]
theorem xN (t : Trick) (h1 : t.1.length ≤ maxLen) (hi : Ins t.1) (h2 : t.2.1.length ≤ maxLen) : Ev (fun k => wX k t) (zf t) := by
 obtain ⟨p, st, c, a, b⟩ := t
 unfold zf
 refine Ev.step (fun k => Lk k _) (Ev.bind (wJ p h1 hi) (Ev.ite (fun h => Ev.some ?_) (fun h => Ev.ite (fun h' => Ev.some ?_) (fun h' => Ev.ite (fun h3 => Ev.some ?_) (fun h3 => ?_)))))
 ·have : zj p = false := by simpa using h
  simp [this]
 ·have : p.length = 0 := by simp at h'; simp [h']
  simp [this]
 ·have : ¬ st.length ≤ 12 := by simp at h3; omega
  simp [this]
 ·refine (KZ st h2 p h1 hi c a b _ rfl st 0 false rfl).to ?_
  have e1 : zj p = true := by simpa using h
  have e2 : (p.length == 0) = false := by simp at h' ⊢; exact h'
  have e3 : st.length ≤ 12 := by simp at h3; omega
  simp [e1, e3, e2]
theorem ao {t : Trick} (f : Fits TrickTy t) : t.1.length ≤ maxLen ∧ Ins t.1 ∧ t.2.1.length ≤ maxLen := ⟨f.1.1, fun x hx => In.of_fits (f.1.2 x hx), f.2.1.1⟩
def countK (b : Int → Bool) (l : List Step) : Nat := l.countP fun s => b s.1
theorem uq (b : Int → Bool) (s : Step) (l : List Step) : countK b (s :: l) = countK b l + (if b s.1 then 1 else 0) := by unfold countK; rw [List.countP_cons]
theorem Fd (b : Int → Bool) (l : List Step) : countK b l ≤ l.length := List.countP_le_length
theorem zo {t : Trick} (h : zf t = true) : t.2.1.length ≤ 12 ∧ 1 ≤ t.1.length ∧ t.1.length ≤ 12 ∧ zj t.1 = true := by
 unfold zf at h
 simp only [Bool.and_eq_true, decide_eq_true_eq] at h
 have := yk h.1
 have h2 := h.2.1
 refine ⟨h.2.2.1, ?_, this.2.2, h.1⟩
 have : ¬ t.1.length = 0 := by simpa using h2
 omega
end Qq
namespace Qq
open Go Go.Vt Pt
set_option linter.unusedVariables false
set_option linter.unusedSimpArgs false
theorem J4 (c : Scene) (h : c.1.length ≤ 1048576) : Ev (fun k => T5 k c) c :=
 Ev.step (fun k => N1 k c) (Ev.bind (Se _ h) (Ev.pure _))
theorem J8 (c : Scene) (n : Int) (h1 : c.1.length ≤ maxLen) (hn : 0 ≤ n) (hn2 : n ≤ 1048576) : Ev (fun k => T8 k (c, n)) (if n - (c.1.length : Int) < 0 then -1 else n - c.1.length) := by
 refine Ev.step (fun k => N4 k c n) (Ev.bind (Si c.1 n h1 hn hn2) ?_)
 split
 ·exact Ev.yes rfl (Ev.pure _)
 ·rename_i h; exact Ev.no (by simpa using h) (Ev.pure _)
def isUp (x : Int) : Bool := decide (-12 ≤ x) && decide (x ≤ -1)
theorem MH (x : Int) : Ev (fun k => Je k x) (isUp x) := Ev.step (fun k => Gj k x) (Ev.bind (xf _ _ _) (Ev.pure _))
theorem Lo (x : Int) (hx : In x) : Ev (fun k => Jy k x) (isUp x) := by
 refine Ev.step (fun k => GU k x) (Ev.ite (fun h => Ev.bind (xT x hx) (Ev.some ?_)) (fun h => Ev.some ?_))
 ·have h' : x < 0 := by simpa using h
  unfold isUp card
  rw [Bool.eq_iff_iff, if_neg (by omega)]
  by_cases h2 : -12 ≤ x ∧ x ≤ -1
  ·rw [if_pos h2]; simp; omega
  ·rw [if_neg h2]; simp; omega
 ·have h' : ¬ x < 0 := by simpa using h
  unfold isUp
  symm; simp; omega
def gP (p : List Int) : Nat := p.countP isUp
theorem gm (xs : List Int) (hm : xs.length ≤ maxLen) : ∀ (r : List Int) (i : Nat) (v : Nat), xs.drop i = r → v ≤ i → Ev (fun k => u5 k (v : Int) xs (xs.length : Int) (i : Int)) ((v : Int) + gP r)
 | [], i, v, h, hv => by
   have q := zz h
   refine Ev.step (fun k => Zl k _ _ _ _) ?_
   simp only [q.g, cond_false]
   exact Ev.some (by simp [gP])
 | s :: r, i, v, h, hv => by
   have q := zi h hm
   have := q.lt
   rw [zc] at hm
   refine Ev.step (fun k => Zl k _ _ _ _) ?_
   simp only [q.g, q.z, q.get, q.w, cond_true]
   have e : gP (s :: r) = gP r + (if isUp s then 1 else 0) := by unfold gP; rw [List.countP_cons]
   rw [e]
   refine Ev.bind (MH s) (Ev.ite (fun h => ?_) (fun h => ?_))
   ·rw [zg (by omega) (by omega)]
    refine (gm xs (by rw [zc]; exact hm) r (i + 1) (v + 1) q.next (by omega)).to ?_
    rw [if_pos h]; omega
   ·refine (gm xs (by rw [zc]; exact hm) r (i + 1) v q.next (by omega)).to ?_
    rw [h]; simp
theorem gI (xs : List Int) (hi : Ins xs) (hm : xs.length ≤ maxLen) : ∀ (r : List Int) (i : Nat) (v : Nat), xs.drop i = r → v ≤ i → Ev (fun k => jg k (v : Int) xs (xs.length : Int) (i : Int)) ((v : Int) + gP r)
 | [], i, v, h, hv => by
   have q := zz h
   refine Ev.step (fun k => ZH k _ _ _ _) ?_
   simp only [q.g, cond_false]
   exact Ev.some (by simp [gP])
 | s :: r, i, v, h, hv => by
   have q := zi h hm
   have := q.lt
   have hs : In s := hi s (List.mem_of_mem_drop (h ▸ List.mem_cons_self))
   rw [zc] at hm
   refine Ev.step (fun k => ZH k _ _ _ _) ?_
   simp only [q.g, q.z, q.get, q.w, cond_true]
   have e : gP (s :: r) = gP r + (if isUp s then 1 else 0) := by unfold gP; rw [List.countP_cons]
   rw [e]
   refine Ev.bind (Lo s hs) (Ev.ite (fun h => ?_) (fun h => ?_))
   ·rw [zg (by omega) (by omega)]
    refine (gI xs hi (by rw [zc]; exact hm) r (i + 1) (v + 1) q.next (by omega)).to ?_
    rw [if_pos h]; omega
   ·refine (gI xs hi (by rw [zc]; exact hm) r (i + 1) v q.next (by omega)).to ?_
    rw [h]; simp
theorem Gv (c : Int) : ∀ (r : List Int) (i a : Nat), (r.map card).Nodup → i ≤ a → a < i + r.length → (posF c i r = (a : Int) ↔ card (r.getD (a - i) 0) = c)
 | [], i, a, _, h1, h2 => by simp at h2; omega
 | y :: r, i, a, hn, h1, h2 => by
   rw [List.map_cons, List.nodup_cons] at hn
   unfold posF
   by_cases e : a = i
   ·subst e
    simp only [Nat.sub_self, List.getD_cons_zero]
    by_cases hc : card y = c
    ·simp [hc]
    ·rw [if_neg hc]
     constructor
     ·intro h
      exfalso
      have : ∀ (r : List Int) (j : Nat), a < j → posF c j r ≠ (a : Int) := by
       intro r
       induction r with
       | nil => intro j hj; show (-1 : Int) ≠ _; omega
       | cons z r ih =>
         intro j hj
         unfold posF
         split
         ·omega
         ·exact ih (j + 1) (by omega)
      exact this r (a + 1) (by omega) h
     ·intro h; exact absurd h hc
   ·have g : (y :: r).getD (a - i) 0 = r.getD (a - (i + 1)) 0 := by
     have : a - i = (a - (i + 1)) + 1 := by omega
     rw [this, List.getD_cons_succ]
    rw [g]
    have hlt : a - (i + 1) < r.length := by rw [List.length_cons] at h2; omega
    by_cases hc : card y = c
    ·rw [if_pos hc]
     constructor
     ·intro h; omega
     ·intro h
      exfalso
      apply hn.1
      rw [hc, ← h]
      rw [List.getD, List.getElem?_eq_getElem hlt]
      exact List.mem_map_of_mem (List.getElem_mem hlt)
    ·rw [if_neg hc]
     exact Gv c r (i + 1) a hn.2 (by omega) (by rw [List.length_cons] at h2; omega)
theorem Ey {p : List Int} {c a : Int} (hp : zj p = true) (hc : 0 ≤ c) (h0 : 0 ≤ a) (h1 : a < p.length) : (pos p c == a) = (card (p.getD a.toNat 0) == c) := by
 have hf := yk hp
 have := Gv c p 0 a.toNat hf.1 (by omega) (by omega)
 have e : ((a.toNat : Nat) : Int) = a := by omega
 rw [e, Nat.sub_zero] at this
 unfold pos
 rw [if_neg (by omega), Bool.eq_iff_iff]
 simpa using this
def x5 (t : Trick) (c : Scene) : Bool :=
 if t.2.2.1 = 1 then decide (c.2 ≥ 0) && pos c.1 c.2 == t.2.2.2.1 else
 if t.2.2.1 = 2 then (gP c.1 : Int) == t.2.2.2.1 else
 if t.2.2.1 = 3 then pos c.1 t.2.2.2.1 == t.2.2.2.2 else
 if t.2.2.1 = 4 then c.1 == t.1 else true
theorem XB (t : Trick) (c : Scene) (a1 : t.1.length ≤ maxLen) (b1 : c.1.length ≤ maxLen) : Ev (fun k => eJ k (t, c)) (x5 t c) := by
 unfold x5
 refine Ev.step (fun k => PZ k t c) (Ev.ite (fun h => ?_) (fun h => ?_))
 ·have e : t.2.2.1 = 1 := by simpa using h
  rw [if_pos e]
  exact Ev.ite (fun h => Ev.bind (vH c.1 c.2 b1) (Ev.some (by rw [h]; rfl))) (fun h => Ev.some (by rw [h]; rfl))
 ·have e : ¬ t.2.2.1 = 1 := by simpa using h
  rw [if_neg e]
  refine Ev.ite (fun h => ?_) (fun h => ?_)
  ·have e : t.2.2.1 = 2 := by simpa using h
   rw [if_pos e]
   refine Ev.bind (Ev.step (fun k => MI k c.1) (gm c.1 b1 c.1 0 0 rfl (by omega))) (Ev.some (by simp))
  ·have e : ¬ t.2.2.1 = 2 := by simpa using h
   rw [if_neg e]
   refine Ev.ite (fun h => ?_) (fun h => ?_)
   ·have e : t.2.2.1 = 3 := by simpa using h
    rw [if_pos e]
    exact Ev.bind (vH c.1 _ b1) (Ev.pure _)
   ·have e : ¬ t.2.2.1 = 3 := by simpa using h
    rw [if_neg e]
    refine Ev.ite (fun h => ?_) (fun h => ?_)
    ·have e : t.2.2.1 = 4 := by simpa using h
     rw [if_pos e]
     exact Ev.bind (Vx c.1 t.1 b1 a1) (Ev.pure _)
    ·have e : ¬ t.2.2.1 = 4 := by simpa using h
     rw [if_neg e]
     exact Ev.pure _
def zw (t : Trick) (c : Scene) : Bool := zf t && (V2 t.1 c.1 && x5 t c)
theorem SH (t : Trick) (c : Scene) (a1 : t.1.length ≤ maxLen) (a2 : t.2.1.length ≤ maxLen) (b1 : c.1.length ≤ maxLen) : Ev (fun k => fj k (t, c)) (zw t c) := by
 unfold zw
 refine Ev.step (fun k => SI k t c) (Ev.bind (xm t a1 a2) (Ev.ite (fun h => ?_) (fun h => Ev.some (by rw [h]; rfl))))
 rw [h, Bool.true_and]
 refine Ev.bind (Ws t.1 c.1 a1 b1) (Ev.ite (fun h => ?_) (fun h => Ev.some (by rw [h]; rfl)))
 rw [h, Bool.true_and]
 exact Ev.bind (XB t c a1 b1) (Ev.pure _)
theorem GJ {p q : List Int} (h : V2 p q = true) : zj q = true ∧ q.length = p.length := by
 unfold V2 at h
 simp only [Bool.and_eq_true, beq_iff_eq] at h
 exact ⟨h.2.1, h.2.2.1.symm⟩
theorem yM (t : Trick) (c : Scene) (a1 : t.1.length ≤ maxLen) (ai : Ins t.1) (a2 : t.2.1.length ≤ maxLen) (b1 : c.1.length ≤ maxLen) (bi : Ins c.1) : Ev (fun k => yN k (t, c)) (zw t c) := by
 unfold zw
 refine Ev.step (fun k => RO k t c) (Ev.bind (xN t a1 ai a2) (Ev.ite (fun h => Ev.some ?_) (fun h => ?_)))
 ·have : zf t = false := by simpa using h
  rw [this]; rfl
 have e : zf t = true := by simpa using h
 rw [e, Bool.true_and]
 refine Ev.bind (W2 t.1 c.1 a1 ai b1 bi) (Ev.ite (fun h => Ev.some ?_) (fun h => ?_))
 ·have : V2 t.1 c.1 = false := by simpa using h
  rw [this]; rfl
 have e2 : V2 t.1 c.1 = true := by simpa using h
 rw [e2, Bool.true_and]
 obtain ⟨hq, hlen⟩ := GJ e2
 have hclaim : wA t.1.length t.1 (wc t.2.1) t.2.2.1 t.2.2.2.1 t.2.2.2.2 = true := by
  unfold zf at e
  simp only [Bool.and_eq_true] at e
  exact e.2.2.2.2
 unfold x5
 refine Ev.ite (fun h => ?_) (fun h => ?_)
 ·have ec : t.2.2.1 = 1 := by simpa using h
  rw [if_pos ec]
  unfold wA at hclaim
  rw [if_neg (by omega), if_neg (by omega), if_pos ec] at hclaim
  simp only [Bool.and_eq_true, decide_eq_true_eq, beq_iff_eq] at hclaim
  refine Ev.ite (fun h => ?_) (fun h => Ev.some (by rw [h]; rfl))
  have hc : 0 ≤ c.2 := by simpa using h
  have hlt : t.2.2.2.1 < (c.1.length : Int) := by rw [hlen]; exact hclaim.2.2.1
  refine Ev.yes (by simpa using hclaim.2.1) (Ev.yes (by simpa using hlt) ?_)
  have hin : In (c.1.getD t.2.2.2.1.toNat 0) := by
   have : t.2.2.2.1.toNat < c.1.length := by have := hclaim.2.1; omega
   rw [List.getD, List.getElem?_eq_getElem this]
   exact bi _ (List.getElem_mem this)
  refine Ev.bind (xT _ hin) (Ev.some ?_)
  rw [h, Bool.true_and, Ey hq hc hclaim.2.1 hlt]
 ·have e1 : ¬ t.2.2.1 = 1 := by simpa using h
  rw [if_neg e1]
  refine Ev.ite (fun h => ?_) (fun h => ?_)
  ·have e : t.2.2.1 = 2 := by simpa using h
   rw [if_pos e]
   refine Ev.bind (Ev.step (fun k => Lp k c.1) (gI c.1 bi b1 c.1 0 0 rfl (by omega))) (Ev.some (by simp))
  ·have e2 : ¬ t.2.2.1 = 2 := by simpa using h
   rw [if_neg e2]
   refine Ev.ite (fun h => ?_) (fun h => ?_)
   ·have ec : t.2.2.1 = 3 := by simpa using h
    rw [if_pos ec]
    unfold wA at hclaim
    rw [if_neg (by omega), if_neg (by omega), if_neg (by omega), if_neg (by omega), if_pos ec] at hclaim
    simp only [Bool.and_eq_true, decide_eq_true_eq] at hclaim
    have hc : 0 ≤ t.2.2.2.1 := by
     have := hclaim.1
     unfold pos at this
     split at this
     ·omega
     ·omega
    have hlt : t.2.2.2.2 < (c.1.length : Int) := by rw [hlen]; exact hclaim.2.2
    refine Ev.yes (by simpa using hclaim.2.1) (Ev.yes (by simpa using hlt) ?_)
    have hin : In (c.1.getD t.2.2.2.2.toNat 0) := by
     have : t.2.2.2.2.toNat < c.1.length := by have := hclaim.2.1; omega
     rw [List.getD, List.getElem?_eq_getElem this]
     exact bi _ (List.getElem_mem this)
    refine Ev.bind (xT _ hin) (Ev.some ?_)
    rw [Ey hq hc hclaim.2.1 hlt]
   ·have e3 : ¬ t.2.2.1 = 3 := by simpa using h
    rw [if_neg e3]
    refine Ev.ite (fun h => ?_) (fun h => ?_)
    ·have e : t.2.2.1 = 4 := by simpa using h
     rw [if_pos e]
     exact Ev.bind (fA c.1 t.1 b1 a1) (Ev.pure _)
    ·have e : ¬ t.2.2.1 = 4 := by simpa using h
     rw [if_neg e]
     exact Ev.pure _
end Qq
namespace Qq
open Go Go.Vt Pt
set_option linter.unusedVariables false
set_option linter.unusedSimpArgs false
end Qq
namespace Qq
open Go Go.Vt Pt
set_option linter.unusedVariables false
set_option linter.unusedSimpArgs false
set_option linter.unnecessarySimpa false
end Qq
namespace Qq
open Go Go.Vt Pt
set_option linter.unusedVariables false
set_option linter.unusedSimpArgs false
set_option linter.unnecessarySimpa false
def cutL (p : List Int) (k : Nat) : List Int := p.drop k ++ p.take k
def ZQ (p : List Int) : Packs := (List.range p.length).map (cutL p)
theorem Fb {p : List Int} {i : Nat} (hp : p.length ≤ 12) (hi : i < p.length) : MoveFit p.length (1, (i : Int)) :=
 ⟨by omega, hp, by simp, .inl (by simp; omega), fun _ => by simp; omega, fun h => by simp at h, fun h => by simp at h⟩
theorem Px (p : List Int) (i : Nat) : cb p (1, (i : Int)) = cutL p i := by simp [cb, cutL]
theorem eO (n : Nat) (f : Nat → List Int) : (List.range (n + 1)).map f = (List.range n).map f ++ [f n] := by rw [List.range_succ, List.map_append]; rfl
theorem aM (p : List Int) (hp : p.length ≤ 12) (hi : Ins p) : ∀ (m i : Nat), i + m = p.length → Ev (fun k => fc k p (p.length : Int) (i : Int) ((List.range i).map (cutL p))) (ZQ p)
 | 0, i, h => by
   refine Ev.step (fun k => aN k _ _ _ _) (Ev.no (by simp; omega) (Ev.some ?_))
   have : i = p.length := by omega
   rw [this]; rfl
 | m + 1, i, h => by
   have ih := aM p hp hi m (i + 1) (by omega)
   rw [eO] at ih
   have ew : IntKind.i64.wrap ((i : Int) + 1) = ((i + 1 : Nat) : Int) := by rw [zg (by omega) (by omega)]; omega
   refine Ev.step (fun k => aN k _ _ _ _) ?_
   simp only [ew]
   refine Ev.yes (by simp; omega) (Ev.bind (Q6 p _ (Fb hp (by omega)) hi) ?_)
   rw [Px]
   exact Ev.yes (by rw [za]; exact decide_eq_true (by simp; omega)) ih
theorem UM (p : List Int) (hp : p.length ≤ 12) (hi : Ins p) : Ev (fun k => Wj k p) (ZQ p) :=
 Ev.step (fun k => Mr k _) (aM p hp hi p.length 0 (by omega))
theorem Ta (p : List Int) (hp : p.length ≤ 12) (hi : Ins p) : ∀ (m i : Nat), i + m = p.length → Ev (fun k => WV k p (p.length : Int) (i : Int) ((List.range i).map (cutL p))) (ZQ p)
 | 0, i, h => by
   refine Ev.step (fun k => Tb k _ _ _ _) (Ev.no (by simp; omega) (Ev.some ?_))
   have : i = p.length := by omega
   rw [this]; rfl
 | m + 1, i, h => by
   have ih := Ta p hp hi m (i + 1) (by omega)
   rw [eO] at ih
   have ew : IntKind.i64.wrap ((i : Int) + 1) = ((i + 1 : Nat) : Int) := by rw [zg (by omega) (by omega)]; omega
   refine Ev.step (fun k => Tb k _ _ _ _) ?_
   simp only [ew]
   refine Ev.yes (by simp; omega) (Ev.bind (V5 p _ (Fb hp (by omega)) hi) ?_)
   rw [Px]
   exact Ev.yes (by rw [za]; exact decide_eq_true (by simp; omega)) ih
theorem Lj (p : List Int) (hp : p.length ≤ 12) (hi : Ins p) : Ev (fun k => Jw k p) (ZQ p) :=
 Ev.step (fun k => GS k _) (Ta p hp hi p.length 0 (by omega))
def Kt (p : List Int) (i : Nat) : List Int := [p.getD i 0] ++ (p.take i ++ p.drop (i + 1))
def UW (p : List Int) : Packs := (List.range p.length).map (Kt p)
theorem YK (p : List Int) (hp : p.length ≤ 12) : ∀ (m i : Nat), i + m = p.length → Ev (fun k => cP k p p (p.length : Int) (i : Int) ((List.range i).map (Kt p))) (UW p)
 | 0, i, h => by
   refine Ev.step (fun k => YL k _ _ _ _ _) (Ev.no (by simp; omega) (Ev.some ?_))
   have : i = p.length := by omega
   rw [this]; rfl
 | m + 1, i, h => by
   have ih := YK p hp m (i + 1) (by omega)
   rw [eO] at ih
   have ew : IntKind.i64.wrap ((i : Int) + 1) = ((i + 1 : Nat) : Int) := by rw [zg (by omega) (by omega)]; omega
   refine Ev.step (fun k => YL k _ _ _ _ _) ?_
   simp only [ew, xr, Int.toNat_natCast, List.take_length, List.drop_zero, List.nil_append]
   refine Ev.yes (by simp; omega) ?_
   (repeat (first | refine Ev.yes (by (first | (simp [za]; done) | (simp [za]; omega) | omega)) ?_ | refine Ev.no (by (first | (simp [za]; done) | (simp [za]; omega) | omega)) ?_))
   exact ih
theorem Tc (p : List Int) (hp : p.length ≤ 12) : ∀ (m i : Nat), i + m = p.length → Ev (fun k => WW k p (p.length : Int) (i : Int) ((List.range i).map (Kt p))) (UW p, true)
 | 0, i, h => by
   refine Ev.step (fun k => Td k _ _ _ _) (Ev.no (by simp; omega) (Ev.some ?_))
   have : i = p.length := by omega
   rw [this]; rfl
 | m + 1, i, h => by
   have ih := Tc p hp m (i + 1) (by omega)
   rw [eO] at ih
   have hil : i < p.length := by omega
   have ew : IntKind.i64.wrap ((i : Int) + 1) = ((i + 1 : Nat) : Int) := by rw [zg (by omega) (by omega)]; omega
   refine Ev.step (fun k => Td k _ _ _ _) ?_
   simp only [ew, xr, Int.toNat_natCast, List.take_length, List.drop_zero, List.nil_append]
   refine Ev.yes (by simp; omega) ?_
   (repeat (first | refine Ev.yes (by (first | (simp [za]; done) | (simp [za]; omega) | omega)) ?_ | refine Ev.no (by (first | (simp [za]; done) | (simp [za]; omega) | omega)) ?_))
   have e1 : (p.take (i + 1)).drop i = [p.getD i 0] := by
    rw [List.take_add_one, List.getElem?_eq_getElem hil, List.drop_append_of_le_length (by simp; omega), List.drop_eq_nil_of_le (by simp; omega)]
    simp [List.getD, hil]
   refine Ev.bind ((Qh [(p.take (i + 1)).drop i, p.take i, p.drop (i + 1)] (by rw [zc]; simp) (by simp; omega)).to (show _ = Kt p i by rw [e1]; simp [Kt])) ?_
   exact Ev.yes (by rw [za]; exact decide_eq_true (by simp; omega)) ih
def wv : List Int → List Int → List Int → Packs
 | d, [], [] => [d]
 | d, x :: a, [] => wv (d ++ [x]) a []
 | d, [], y :: b => wv (d ++ [y]) [] b
 | d, x :: a, y :: b => wv (d ++ [x]) a (y :: b) ++ wv (d ++ [y]) (x :: a) b
termination_by _ a b => a.length + b.length
theorem QW : ∀ (n : Nat) (d a b : List Int), a.length + b.length = n → (wv d a b).length ≤ 2 ^ n
 | n, d, [], [], h => by unfold wv; simp; exact Nat.one_le_two_pow
 | n + 1, d, x :: a, [], h => by
   unfold wv
   have := QW n (d ++ [x]) a [] (by simp at h ⊢; omega)
   rw [Nat.pow_succ]; omega
 | n + 1, d, [], y :: b, h => by
   unfold wv
   have := QW n (d ++ [y]) [] b (by simp at h ⊢; omega)
   rw [Nat.pow_succ]; omega
 | n + 1, d, x :: a, y :: b, h => by
   unfold wv
   have h1 := QW n (d ++ [x]) a (y :: b) (by simp at h ⊢; omega)
   have h2 := QW n (d ++ [y]) (x :: a) b (by simp at h ⊢; omega)
   rw [List.length_append, Nat.pow_succ]; omega
 | 0, d, x :: a, _, h => by simp at h
 | 0, d, [], y :: b, h => by simp at h
theorem vD : ∀ (n : Nat) (out : Packs) (d a b : List Int), a.length + b.length = n → d.length + n ≤ 100 → out.length + 2 ^ n ≤ 1048576 → Ev (fun k => wE k (out, d, a, b)) (out ++ wv d a b)
 | n, out, d, [], [], h, hd, ho => by
   have : 1 ≤ 2 ^ n := Nat.one_le_two_pow
   unfold wv
   refine Ev.step (fun k => jI k _ _ _ _) (Ev.yes (by (first | (simp [za]; done) | (simp [za]; omega) | omega)) (Ev.yes (by (first | (simp [za]; done) | (simp [za]; omega) | omega)) (Ev.yes (by rw [za]; exact decide_eq_true (by simp; omega)) (Ev.pure _))))
 | n + 1, out, d, x :: a, [], h, hd, ho => by
   rw [Nat.pow_succ] at ho
   have ih := vD n out (d ++ [x]) a [] (by simp at h ⊢; omega) (by simp; omega) (by omega)
   unfold wv
   refine Ev.step (fun k => jI k _ _ _ _) ?_
   simp only [xr, List.nil_append, List.getD_cons_zero, List.drop_succ_cons, List.drop_zero]
   refine Ev.no (by (first | (simp [za]; done) | (simp [za]; omega) | omega)) (Ev.yes (by (first | (simp [za]; done) | (simp [za]; omega) | omega)) (Ev.yes (by (first | (simp [za]; done) | (simp [za]; omega) | omega)) (Ev.yes (by (first | (simp [za]; done) | (simp [za]; omega) | omega)) (Ev.yes (by (first | (simp [za]; done) | (simp [za]; omega) | omega)) (Ev.yes (by (first | (simp [za]; done) | (simp [za]; omega) | omega)) (Ev.yes (by (first | (simp [za]; done) | (simp [za]; omega) | omega)) (Ev.bind ih (Ev.no (by (first | (simp [za]; done) | (simp [za]; omega) | omega)) (Ev.pure _)))))))))
 | n + 1, out, d, [], y :: b, h, hd, ho => by
   rw [Nat.pow_succ] at ho
   have ih := vD n out (d ++ [y]) [] b (by simp at h ⊢; omega) (by simp; omega) (by omega)
   unfold wv
   refine Ev.step (fun k => jI k _ _ _ _) ?_
   simp only [xr, List.nil_append, List.getD_cons_zero, List.drop_succ_cons, List.drop_zero]
   refine Ev.yes (by (first | (simp [za]; done) | (simp [za]; omega) | omega)) (Ev.no (by (first | (simp [za]; done) | (simp [za]; omega) | omega)) (Ev.no (by (first | (simp [za]; done) | (simp [za]; omega) | omega)) (Ev.yes (by (first | (simp [za]; done) | (simp [za]; omega) | omega)) (Ev.yes (by (first | (simp [za]; done) | (simp [za]; omega) | omega)) (Ev.yes (by (first | (simp [za]; done) | (simp [za]; omega) | omega)) (Ev.yes (by (first | (simp [za]; done) | (simp [za]; omega) | omega)) (Ev.yes (by (first | (simp [za]; done) | (simp [za]; omega) | omega)) (Ev.yes (by (first | (simp [za]; done) | (simp [za]; omega) | omega)) (Ev.bind ih (Ev.pure _))))))))))
 | n + 1, out, d, x :: a, y :: b, h, hd, ho => by
   rw [Nat.pow_succ] at ho
   have hl := QW n (d ++ [x]) a (y :: b) (by simp at h ⊢; omega)
   have i1 := vD n out (d ++ [x]) a (y :: b) (by simp at h ⊢; omega) (by simp; omega) (by omega)
   have i2 := vD n (out ++ wv (d ++ [x]) a (y :: b)) (d ++ [y]) (x :: a) b (by simp at h ⊢; omega) (by simp; omega) (by simp; omega)
   unfold wv
   refine Ev.step (fun k => jI k _ _ _ _) ?_
   simp only [xr, List.nil_append, List.getD_cons_zero, List.drop_succ_cons, List.drop_zero]
   refine Ev.no (by (first | (simp [za]; done) | (simp [za]; omega) | omega)) (Ev.yes (by (first | (simp [za]; done) | (simp [za]; omega) | omega)) (Ev.yes (by (first | (simp [za]; done) | (simp [za]; omega) | omega)) (Ev.yes (by (first | (simp [za]; done) | (simp [za]; omega) | omega)) (Ev.yes (by (first | (simp [za]; done) | (simp [za]; omega) | omega)) (Ev.yes (by (first | (simp [za]; done) | (simp [za]; omega) | omega)) (Ev.yes (by (first | (simp [za]; done) | (simp [za]; omega) | omega)) (Ev.bind i1 ?_)))))))
   refine Ev.yes (by (first | (simp [za]; done) | (simp [za]; omega) | omega)) (Ev.yes (by (first | (simp [za]; done) | (simp [za]; omega) | omega)) (Ev.yes (by (first | (simp [za]; done) | (simp [za]; omega) | omega)) (Ev.yes (by (first | (simp [za]; done) | (simp [za]; omega) | omega)) (Ev.yes (by (first | (simp [za]; done) | (simp [za]; omega) | omega)) (Ev.yes (by (first | (simp [za]; done) | (simp [za]; omega) | omega)) (Ev.bind i2 (Ev.some (by simp))))))))
 | 0, out, d, x :: a, _, h, hd, ho => by simp at h
 | 0, out, d, [], y :: b, h, hd, ho => by simp at h
end Qq
namespace Qq
open Go Go.Vt Pt
set_option linter.unusedVariables false
set_option linter.unusedSimpArgs false
def rfi : Nat → Nat → List Bool → List Nat
 | _, _, [] => []
 | f, s, true :: r => s :: rfi f (s + 1) r
 | f, s, false :: r => f :: rfi (f + 1) s r
def zU : List Bool → Nat
 | [] => 0 | true :: r => zU r | false :: r => zU r + 1
def wV : List Bool → Nat
 | [] => 0 | true :: r => wV r + 1 | false :: r => wV r
def wd : Nat → Nat → List Bool
 | 0, _ => [] | m + 1, w => Nat.beq (w % 2) 1 :: wd m (w / 2)
def Ks (n w : Nat) : List Nat := rfi 0 (zU (wd n w)) (wd n w)
def decGo : Nat → Option Nat → List Nat → Nat
 | _, _, [] => 0
 | i, none, x :: r => bif Nat.beq x i then decGo (i + 1) none r else 2 ^ i + decGo (i + 1) (some x) r
 | i, some s, x :: r => (bif Nat.ble s x then 2 ^ i else 0) + decGo (i + 1) (some s) r
def isIdB : Nat → List Nat → Bool
 | _, [] => true | i, x :: r => Nat.beq x i && isIdB (i + 1) r
def wellW (w : Nat) : Bool := !isIdB 0 (Ks 12 w)
theorem riff12 : ((List.range 4096).all fun w => isIdB 0 (Ks 12 w) || Nat.beq (decGo 0 none (Ks 12 w)) w) = true := by kernel_rfl
theorem MP : ((List.range 4096).filter wellW).length = 4083 := by kernel_rfl
theorem MX {α : Type} [DecidableEq α] : ∀ {l m : List α}, l.Nodup → (∀ x ∈ l, x ∈ m) → l.length ≤ m.length
 | [], m, _, _ => Nat.zero_le _
 | x :: l, m, h, hs => by
   obtain ⟨h1, h2⟩ := List.nodup_cons.1 h
   have hx := hs x (by simp)
   have := MX (l := l) (m := m.erase x) h2 fun y hy => (List.mem_erase_of_ne (fun e => h1 (by rw [e] at hy; exact hy))).2 (hs y (by simp [hy]))
   rw [List.length_erase_of_mem hx] at this
   have : 0 < m.length := List.length_pos_of_mem hx
   simp; omega
end Qq
namespace Qq
open Go Go.Vt Pt
set_option linter.unusedVariables false
set_option linter.unusedSimpArgs false
def bits : Nat → Nat → List Bool
 | 0, _ => []
 | n + 1, w => (w % 2 == 1) :: bits n (w / 2)
theorem NR (w i : Nat) (hi : i < 64) (hw : w < 9223372036854775808) : IntKind.i64.wrap (((BitVec.ofInt IntKind.i64.bits (((w : Int)).fdiv (2 ^ (min ((i : Int)).toNat IntKind.i64.bits))) &&& BitVec.ofInt IntKind.i64.bits (1 : Int)).toNat : Int)) = ((w / 2 ^ i % 2 : Nat) : Int) := by
 have hb : IntKind.i64.bits = 64 := by decide
 rw [hb, Int.toNat_natCast, Nat.min_eq_left (by omega)]
 have e1 : ((w : Int)).fdiv (2 ^ i) = ((w / 2 ^ i : Nat) : Int) := by
  rw [Int.fdiv_eq_ediv_of_nonneg _ (by exact Int.le_of_lt (Int.pow_pos (by decide)))]
  norm_cast
 have e2 : (BitVec.ofInt 64 ((w / 2 ^ i : Nat) : Int) &&& BitVec.ofInt 64 (1 : Int)).toNat = w / 2 ^ i % 2 := by
  have h1 : (1 : Int) = ((1 : Nat) : Int) := rfl
  rw [h1, BitVec.ofInt_natCast, BitVec.ofInt_natCast, BitVec.toNat_and, BitVec.toNat_ofNat, BitVec.toNat_ofNat]
  have hlt : w / 2 ^ i < 2 ^ 64 := by
   have := Nat.div_le_self w (2 ^ i)
   omega
  rw [Nat.mod_eq_of_lt hlt]
  exact Nat.and_one_is_mod _
 rw [e1, e2, zg (by omega) (by omega)]
def upTo (n : Nat) : List Int := (List.range n).map fun (i : Nat) => (i : Int)
theorem FB (n : Nat) : (upTo n).length = n := by simp [upTo]
theorem H9 (n : Nat) : upTo (n + 1) = upTo n ++ [(n : Int)] := by simp [upTo, List.range_succ]
end Qq
namespace Qq
open Go Go.Vt Pt
set_option linter.unusedVariables false
set_option linter.unusedSimpArgs false
set_option linter.unnecessarySimpa false
theorem cq : ∀ (m w : Nat), (wd m w).length = m
 | 0, _ => rfl
 | m + 1, w => by rw [wd, List.length_cons, cq]
theorem Us : ∀ l : List Bool, zU l + wV l = l.length
 | [] => rfl
 | true :: r => by have := Us r; simp [zU, wV]; omega
 | false :: r => by have := Us r; simp [zU, wV]; omega
def rfp (p : List Int) : Nat → Nat → List Bool → List Int
 | _, _, [] => []
 | f, s, true :: r => p.getD s 0 :: rfp p f (s + 1) r
 | f, s, false :: r => p.getD f 0 :: rfp p (f + 1) s r
def SU (p : List Int) (w : Nat) : List Int := rfp p 0 (zU (wd p.length w)) (wd p.length w)
theorem Ed (w i : Nat) : w / 2 ^ i / 2 = w / 2 ^ (i + 1) := by rw [Nat.div_div_eq_div_mul, Nat.pow_succ]
theorem PF (m w i : Nat) : wd (m + 1) (w / 2 ^ i) = Nat.beq (w / 2 ^ i % 2) 1 :: wd m (w / 2 ^ (i + 1)) := by rw [wd, Ed]
theorem bW (p : List Int) (hp : p.length ≤ 12) (w : Nat) (hw : w ≤ 4096) : ∀ (m i f s : Nat) (out : List Int), i + m = p.length → f + zU (wd m (w / 2 ^ i)) ≤ p.length → s + wV (wd m (w / 2 ^ i)) ≤ p.length → out.length ≤ i →
 Ev (fun k => jc k p (w : Int) (f : Int) (s : Int) (p.length : Int) (i : Int) out) (out ++ rfp p f s (wd m (w / 2 ^ i)))
 | 0, i, f, s, out, h, hf, hs, ho => by
   refine Ev.step (fun k => Zx k _ _ _ _ _ _ _) (Ev.no (by simp; omega) (Ev.some ?_))
   simp [wd, rfp]
 | m + 1, i, f, s, out, h, hf, hs, ho => by
   have ih := fun f s out => bW p hp w hw m (i + 1) f s out (by omega)
   have ew : ∀ j : Nat, j ≤ 12 → IntKind.i64.wrap ((j : Int) + 1) = ((j + 1 : Nat) : Int) := fun j hj => by rw [zg (by omega) (by omega)]; omega
   rw [PF] at hf hs ⊢
   refine Ev.step (fun k => Zx k _ _ _ _ _ _ _) ?_
   simp only [NR w i (by omega) (by omega), ew i (by omega)]
   simp only [Int.toNat_natCast]
   refine Ev.yes (by simp; omega) (Ev.yes (by simp) ?_)
   cases hb : Nat.beq (w / 2 ^ i % 2) 1 with
   | true =>
     rw [hb] at hf hs
     have hb' := Nat.eq_of_beq_eq_true hb
     simp only [zU, wV] at hf hs
     rw [ew s (by omega)]
     refine Ev.yes (by rw [hb']; rfl) (Ev.yes (by simp) (Ev.yes (by simp; omega) (Ev.yes (by rw [za]; exact decide_eq_true (by simp; omega)) ?_)))
     exact (ih f (s + 1) (out ++ [p.getD s 0]) (by omega) (by omega) (by simp; omega)).to (by simp [rfp])
   | false =>
     rw [hb] at hf hs
     have hb' : ¬ w / 2 ^ i % 2 = 1 := fun e => by rw [e] at hb; cases hb
     simp only [zU, wV] at hf hs
     rw [ew f (by omega)]
     have h0 : w / 2 ^ i % 2 = 0 := by omega
     refine Ev.no (by rw [h0]; rfl) (Ev.yes (by simp) (Ev.yes (by simp; omega) (Ev.yes (by rw [za]; exact decide_eq_true (by simp; omega)) ?_)))
     exact (ih (f + 1) s (out ++ [p.getD f 0]) (by omega) (by omega) (by simp; omega)).to (by simp [rfp])
theorem jq (p : List Int) (hp : p.length ≤ 12) (w : Nat) (hw : w ≤ 4096) : ∀ (m i z : Nat), i + m = p.length → z ≤ i →
 Ev (fun k => fp k p (w : Int) 0 (z : Int) (p.length : Int) (i : Int)) (rfp p 0 (z + zU (wd m (w / 2 ^ i))) (wd p.length w)) ∨ z + zU (wd m (w / 2 ^ i)) ≠ zU (wd p.length w)
 | 0, i, z, h, hz => by
   by_cases hzz : z + zU (wd 0 (w / 2 ^ i)) = zU (wd p.length w)
   ·left
    refine Ev.step (fun k => gx k _ _ _ _ _ _) (Ev.no (by simp; omega) ?_)
    have e : zU (wd 0 (w / 2 ^ i)) = 0 := rfl
    rw [e] at hzz ⊢
    have hl := Us (wd p.length w)
    rw [cq] at hl
    have := bW p hp w hw p.length 0 0 z [] (by omega) (by rw [Nat.pow_zero, Nat.div_one]; omega) (by rw [Nat.pow_zero, Nat.div_one]; omega) (Nat.le_refl _)
    rw [Nat.pow_zero, Nat.div_one, List.nil_append] at this
    exact this
   ·exact .inr hzz
 | m + 1, i, z, h, hz => by
   rw [PF]
   have ew : IntKind.i64.wrap ((i : Int) + 1) = ((i + 1 : Nat) : Int) := by rw [zg (by omega) (by omega)]; omega
   cases hb : Nat.beq (w / 2 ^ i % 2) 1 with
   | true =>
     have hb' := Nat.eq_of_beq_eq_true hb
     simp only [zU]
     refine (jq p hp w hw m (i + 1) z (by omega) (by omega)).imp_left fun ih => ?_
     refine Ev.step (fun k => gx k _ _ _ _ _ _) ?_
     simp only [NR w i (by omega) (by omega), ew, hb']
     refine Ev.yes (by simp; omega) (Ev.yes (by simp) ?_)
     have e2 : IntKind.i64.wrap ((z : Int) + IntKind.i64.wrap (1 - ((1 : Nat) : Int))) = (z : Int) := by rw [zg (x := 1 - ((1 : Nat) : Int)) (by omega) (by omega), zg (by omega) (by omega)]; omega
     rw [e2]
     exact ih
   | false =>
     have hb' : w / 2 ^ i % 2 = 0 := by
      have : ¬ w / 2 ^ i % 2 = 1 := fun e => by rw [e] at hb; cases hb
      omega
     simp only [zU]
     rw [show z + (zU (wd m (w / 2 ^ (i + 1))) + 1) = (z + 1) + zU (wd m (w / 2 ^ (i + 1))) by omega]
     refine (jq p hp w hw m (i + 1) (z + 1) (by omega) (by omega)).imp_left fun ih => ?_
     refine Ev.step (fun k => gx k _ _ _ _ _ _) ?_
     simp only [NR w i (by omega) (by omega), ew, hb']
     refine Ev.yes (by simp; omega) (Ev.yes (by simp) ?_)
     have e2 : IntKind.i64.wrap ((z : Int) + IntKind.i64.wrap (1 - ((0 : Nat) : Int))) = ((z + 1 : Nat) : Int) := by rw [zg (x := 1 - ((0 : Nat) : Int)) (by omega) (by omega), zg (by omega) (by omega)]; omega
     rw [e2]
     exact ih
theorem Nq (p : List Int) (hp : p.length ≤ 12) (w : Nat) (hw : w ≤ 4096) : Ev (fun k => Rx k (p, (w : Int))) (SU p w) := by
 refine Ev.step (fun k => Le k _ _) ?_
 have := jq p hp w hw p.length 0 0 (by omega) (Nat.le_refl _)
 rw [Nat.pow_zero, Nat.div_one, Nat.zero_add] at this
 exact this.resolve_right (fun h => h rfl)
def Zo (p : List Int) : Packs := (List.range (2 ^ p.length)).map (SU p)
theorem K7 {n : Nat} (h : n ≤ 12) : 2 ^ n ≤ 4096 := Nat.pow_le_pow_right (by decide) h
theorem RG (p : List Int) (hp : p.length ≤ 12) : ∀ (m i : Nat), i + m = 2 ^ p.length → Ev (fun k => TT k p (i : Int) ((List.range i).map (SU p))) (Zo p, true)
 | m, i, h => by
   have h2 := K7 hp
   have e : IntKind.i64.wrap ((1 : Int) * 2 ^ (min (p.length : Int).toNat IntKind.i64.bits)) = ((2 ^ p.length : Nat) : Int) := by
    have hm : min (p.length : Int).toNat IntKind.i64.bits = p.length := by
     have : IntKind.i64.bits = 64 := rfl
     rw [this, Int.toNat_natCast]; omega
    rw [hm, Int.one_mul, show (2 : Int) ^ p.length = ((2 ^ p.length : Nat) : Int) by simp, zg (by omega) (by omega)]
   refine Ev.step (fun k => KE k _ _ _) (Ev.yes (by simp) ?_)
   rw [e]
   match m, h with
   | 0, h =>
     refine Ev.no (by simp only [decide_eq_false_iff_not]; omega) (Ev.some ?_)
     have : i = 2 ^ p.length := by omega
     rw [this]; rfl
   | m + 1, h =>
     have ih := RG p hp m (i + 1) (by omega)
     rw [eO] at ih
     have ew : IntKind.i64.wrap ((i : Int) + 1) = ((i + 1 : Nat) : Int) := by rw [zg (by omega) (by omega)]; omega
     rw [ew]
     refine Ev.yes (by simp only [decide_eq_true_eq]; omega) (Ev.bind (Nq p hp i (by omega)) (Ev.yes (by rw [za]; exact decide_eq_true (by simp; omega)) ih))
def riffsW (p : List Int) : Packs := (List.range (p.length + 1)).flatMap fun k => wv [] (p.take k) (p.drop k)
theorem NH : ∀ (n i : Nat) (p : List Int), p.length = n → ((List.range i).flatMap fun k => wv [] (p.take k) (p.drop k)).length ≤ i * 2 ^ n
 | n, 0, p, h => by simp
 | n, i + 1, p, h => by
   have h1 := NH n i p h
   have h2 := QW n [] (p.take i) (p.drop i) (by simp; omega)
   rw [List.range_succ, List.flatMap_append, List.length_append, Nat.add_mul, Nat.one_mul]
   simp only [List.flatMap_cons, List.flatMap_nil, List.append_nil]
   omega
theorem Wf (p : List Int) (hp : p.length ≤ 12) : ∀ (m i : Nat), i + m = p.length + 1 → Ev (fun k => Z2 k p (i : Int) ((List.range i).flatMap fun k => wv [] (p.take k) (p.drop k))) (riffsW p)
 | 0, i, h => by
   refine Ev.step (fun k => Wg k _ _ _) (Ev.no (by simp; omega) (Ev.some ?_))
   have : i = p.length + 1 := by omega
   rw [this]; rfl
 | m + 1, i, h => by
   have ih := Wf p hp m (i + 1) (by omega)
   have e : (List.range (i + 1)).flatMap (fun k => wv [] (p.take k) (p.drop k)) = ((List.range i).flatMap fun k => wv [] (p.take k) (p.drop k)) ++ wv [] (p.take i) (p.drop i) := by
    rw [List.range_succ, List.flatMap_append]; simp
   rw [e] at ih
   have ew : IntKind.i64.wrap ((i : Int) + 1) = ((i + 1 : Nat) : Int) := by rw [zg (by omega) (by omega)]; omega
   have h2 := K7 hp
   have hl := NH p.length i p rfl
   have hl2 : i * 2 ^ p.length ≤ 13 * 4096 := Nat.mul_le_mul (by omega) h2
   refine Ev.step (fun k => Wg k _ _ _) ?_
   simp only [ew, xr, Int.toNat_natCast, List.take_length, List.drop_zero]
   refine Ev.yes (by simp; omega) ?_
   (repeat (first | refine Ev.yes (by (first | (simp [za]; done) | (simp [za]; omega) | omega)) ?_ | refine Ev.no (by (first | (simp [za]; done) | (simp [za]; omega) | omega)) ?_))
   exact Ev.bind (vD p.length _ [] _ _ (by simp; omega) (by simp; omega) (by omega)) ih
def uM : List Bool → List Int → List Int → List Int
 | true :: r, a, y :: b => y :: uM r a b
 | false :: r, x :: a, b => x :: uM r a b
 | _, _, _ => []
theorem QV : ∀ (n : Nat) (d a b q : List Int), a.length + b.length = n → (q ∈ wv d a b ↔ ∃ bits, zU bits = a.length ∧ wV bits = b.length ∧ q = d ++ uM bits a b)
 | n, d, [], [], q, h => by
   unfold wv
   constructor
   ·intro hq
    exact ⟨[], rfl, rfl, by simpa [uM] using hq⟩
   ·rintro ⟨bits, h1, h2, rfl⟩
    have : bits = [] := by
     have := Us bits
     simp at h1 h2
     exact List.length_eq_zero_iff.1 (by omega)
    subst this
    simp [uM]
 | n + 1, d, x :: a, [], q, h => by
   unfold wv
   rw [QV n (d ++ [x]) a [] q (by simp at h ⊢; omega)]
   constructor
   ·rintro ⟨bits, h1, h2, rfl⟩
    exact ⟨false :: bits, by simp [zU, h1], by simpa [wV] using h2, by simp [uM]⟩
   ·rintro ⟨bits, h1, h2, rfl⟩
    match bits, h1, h2 with
    | false :: bits, h1, h2 => exact ⟨bits, by simpa [zU] using h1, by simpa [wV] using h2, by simp [uM]⟩
    | true :: bits, h1, h2 => simp [wV] at h2
    | [], h1, h2 => simp [zU] at h1
 | n + 1, d, [], y :: b, q, h => by
   unfold wv
   rw [QV n (d ++ [y]) [] b q (by simp at h ⊢; omega)]
   constructor
   ·rintro ⟨bits, h1, h2, rfl⟩
    exact ⟨true :: bits, by simpa [zU] using h1, by simp [wV, h2], by simp [uM]⟩
   ·rintro ⟨bits, h1, h2, rfl⟩
    match bits, h1, h2 with
    | true :: bits, h1, h2 => exact ⟨bits, by simpa [zU] using h1, by simpa [wV] using h2, by simp [uM]⟩
    | false :: bits, h1, h2 => simp [zU] at h1
    | [], h1, h2 => simp [wV] at h2
 | n + 1, d, x :: a, y :: b, q, h => by
   unfold wv
   rw [List.mem_append, QV n (d ++ [x]) a (y :: b) q (by simp at h ⊢; omega), QV n (d ++ [y]) (x :: a) b q (by simp at h ⊢; omega)]
   constructor
   ·rintro (⟨bits, h1, h2, rfl⟩ | ⟨bits, h1, h2, rfl⟩)
    ·exact ⟨false :: bits, by simp [zU, h1], by simpa [wV] using h2, by simp [uM]⟩
    ·exact ⟨true :: bits, by simpa [zU] using h1, by simp [wV, h2], by simp [uM]⟩
   ·rintro ⟨bits, h1, h2, rfl⟩
    match bits, h1, h2 with
    | true :: bits, h1, h2 => exact .inr ⟨bits, by simpa [zU] using h1, by simpa [wV] using h2, by simp [uM]⟩
    | false :: bits, h1, h2 => exact .inl ⟨bits, by simpa [zU] using h1, by simpa [wV] using h2, by simp [uM]⟩
    | [], h1, h2 => simp [wV] at h2
 | 0, d, x :: a, _, q, h => by simp at h
 | 0, d, [], y :: b, q, h => by simp at h
theorem Wx (p : List Int) (k : Nat) (hk : k ≤ p.length) : ∀ (bits : List Bool) (f s : Nat), f + zU bits = k → s + wV bits = p.length → rfp p f s bits = uM bits ((p.take k).drop f) (p.drop s)
 | [], f, s, h1, h2 => by unfold rfp uM; rfl
 | true :: r, f, s, h1, h2 => by
   simp only [zU, wV] at h1 h2
   have hs : s < p.length := by omega
   rw [List.drop_eq_getElem_cons hs]
   unfold rfp uM
   rw [Wx p k hk r f (s + 1) h1 (by omega)]
   simp [List.getD, hs]
 | false :: r, f, s, h1, h2 => by
   simp only [zU, wV] at h1 h2
   have hf : f < (p.take k).length := by simp; omega
   rw [List.drop_eq_getElem_cons hf]
   unfold rfp uM
   rw [Wx p k hk r (f + 1) s (by omega) h2]
   have : f < p.length := by omega
   simp [List.getD, this]
def nb : List Bool → Nat
 | [] => 0 | b :: r => (bif b then 1 else 0) + 2 * nb r
theorem JI : ∀ l : List Bool, wd l.length (nb l) = l ∧ nb l < 2 ^ l.length
 | [] => ⟨rfl, by decide⟩
 | b :: r => by
   obtain ⟨h1, h2⟩ := JI r
   rw [List.length_cons, wd, nb, Nat.pow_succ]
   have e1 : ((bif b then 1 else 0) + 2 * nb r) / 2 = nb r := by cases b <;> simp <;> omega
   have e2 : ((bif b then 1 else 0) + 2 * nb r) % 2 = (bif b then 1 else 0) := by cases b <;> simp <;> omega
   rw [e1, e2, h1]
   refine ⟨by cases b <;> rfl, ?_⟩
   cases b <;> simp <;> omega
theorem Hg (p q : List Int) : q ∈ Zo p ↔ q ∈ riffsW p := by
 unfold Zo riffsW
 rw [List.mem_map, List.mem_flatMap]
 constructor
 ·rintro ⟨w, hw, rfl⟩
  have hl := Us (wd p.length w)
  rw [cq] at hl
  refine ⟨zU (wd p.length w), by simp; omega, ?_⟩
  rw [QV p.length [] _ _ _ (by simp; omega)]
  refine ⟨wd p.length w, by simp; omega, by simp; omega, ?_⟩
  unfold SU
  rw [Wx p (zU (wd p.length w)) (by omega) _ 0 _ (by omega) (by omega)]
  simp
 ·rintro ⟨k, hk, hq⟩
  have hk' : k ≤ p.length := by have := List.mem_range.1 hk; omega
  rw [QV p.length [] _ _ _ (by simp; omega)] at hq
  obtain ⟨bits, h1, h2, rfl⟩ := hq
  simp at h1 h2
  have hl := Us bits
  obtain ⟨b1, b2⟩ := JI bits
  have hbl : bits.length = p.length := by omega
  rw [hbl] at b1 b2
  refine ⟨nb bits, List.mem_range.2 b2, ?_⟩
  unfold SU
  rw [b1, Wx p k hk' bits 0 _ (by omega) (by omega)]
  have : zU bits = k := by omega
  rw [this]
  simp
end Qq
namespace Qq
open Go Go.Vt Pt
set_option linter.unusedVariables false
set_option linter.unusedSimpArgs false
set_option linter.unnecessarySimpa false
theorem SV (p : List Int) : ∀ (bits : List Bool) (f s : Nat), rfp p f s bits = (rfi f s bits).map fun i => p.getD i 0
 | [], _, _ => rfl
 | true :: r, f, s => by unfold rfp rfi; rw [SV p r]; rfl
 | false :: r, f, s => by unfold rfp rfi; rw [SV p r]; rfl
theorem Gr (n : Nat) : ∀ (bits : List Bool) (f s : Nat), f + zU bits ≤ n → s + wV bits ≤ n → ∀ x ∈ rfi f s bits, x < n
 | [], _, _, _, _, x, hx => by cases hx
 | true :: r, f, s, h1, h2, x, hx => by
   simp only [zU, wV] at h1 h2
   rcases List.mem_cons.1 hx with rfl | hx
   ·omega
   ·exact Gr n r f (s + 1) h1 (by omega) x hx
 | false :: r, f, s, h1, h2, x, hx => by
   simp only [zU, wV] at h1 h2
   rcases List.mem_cons.1 hx with rfl | hx
   ·omega
   ·exact Gr n r (f + 1) s (by omega) h2 x hx
theorem Pg {g : Nat → Int} {n : Nat} (hg : ∀ i j, i < n → j < n → g i = g j → i = j) : ∀ {l m : List Nat}, (∀ x ∈ l, x < n) → (∀ x ∈ m, x < n) → l.map g = m.map g → l = m
 | [], [], _, _, _ => rfl
 | [], _ :: _, _, _, h => by simp at h
 | _ :: _, [], _, _, h => by simp at h
 | x :: l, y :: m, hl, hm, h => by
   simp only [List.map_cons, List.cons.injEq] at h
   rw [hg x y (hl x (by simp)) (hm y (by simp)) h.1, Pg hg (fun z hz => hl z (by simp [hz])) (fun z hz => hm z (by simp [hz])) h.2]
theorem riffs12 {p : List Int} (hl : p.length = 12) (hn : p.Nodup) : 3000 < (setL (Zo p)).length := by
 have hg : ∀ i j, i < 12 → j < 12 → p.getD i 0 = p.getD j 0 → i = j := fun i j hi hj e => by
  have h1 : i < p.length := by omega
  have h2 : j < p.length := by omega
  simp only [List.getD, List.getElem?_eq_getElem h1, List.getElem?_eq_getElem h2, Option.getD_some] at e
  have hpw := List.pairwise_iff_getElem.1 (show p.Pairwise (fun a b => a ≠ b) from hn)
  rcases Nat.lt_trichotomy i j with h | h | h
  ·exact (hpw i j h1 h2 h e).elim
  ·exact h
  ·exact (hpw j i h2 h1 h e.symm).elim
 have hlt : ∀ w, ∀ x ∈ Ks 12 w, x < 12 := fun w => by
  have := Us (wd 12 w)
  rw [cq] at this
  exact Gr 12 _ 0 _ (by omega) (by omega)
 have hr : ∀ w, SU p w = (Ks 12 w).map fun i => p.getD i 0 := fun w => by unfold SU Ks; rw [hl, SV]
 have hdec : ∀ w, w < 4096 → wellW w = true → decGo 0 none (Ks 12 w) = w := fun w hw hwell => by
  have := List.all_eq_true.1 riff12 w (List.mem_range.2 hw)
  unfold wellW at hwell
  rw [Bool.not_eq_true'] at hwell
  rw [hwell, Bool.false_or] at this
  exact Nat.eq_of_beq_eq_true this
 have hnd : (((List.range 4096).filter wellW).map (SU p)).Nodup := by
  rw [List.Nodup, List.pairwise_map]
  refine List.Pairwise.imp_of_mem (fun {a b} ha hb hab e => hab ?_) ((List.nodup_range (n := 4096)).filter wellW)
  obtain ⟨a1, a2⟩ := List.mem_filter.1 ha
  obtain ⟨b1, b2⟩ := List.mem_filter.1 hb
  rw [hr, hr] at e
  have := Pg hg (hlt a) (hlt b) e
  rw [← hdec a (List.mem_range.1 a1) a2, ← hdec b (List.mem_range.1 b1) b2, this]
 have := MX hnd (m := setL (Zo p)) (fun q hq => by
  obtain ⟨w, hw, rfl⟩ := List.mem_map.1 hq
  rw [vC]
  unfold Zo
  rw [hl]
  exact List.mem_map.2 ⟨w, (List.mem_filter.1 hw).1, rfl⟩)
 rw [List.length_map, MP] at this
 omega
theorem Gq {p : List Int} (hp : p.length ≤ 11) : (setL (Zo p)).length ≤ 2048 := by
 refine Nat.le_trans (cM _) ?_
 unfold Zo
 rw [List.length_map, List.length_range]
 exact Nat.pow_le_pow_right (by decide) hp
def NG (p : List Int) : List Int := (p.take 2).reverse.map turn ++ p.drop 2
def xo (p : List Int) (c : Int) : Packs := if c = 1 then ZQ p else if c = 2 then Zo p else if c = 3 then ZQ (NG p) else if c = 4 then UW p else [p]
def chOk (p : List Int) (c : Int) : Bool := zj p && (!(p.length == 0) && (decide (0 ≤ c ∧ c ≤ 4) && (!(decide (c = 3) && decide (p.length < 2)) && !(decide (c = 2) && decide (12 ≤ p.length)))))
structure ChFit (p : List Int) (c : Int) : Prop where
 ok : zj p = true
 l1 : 1 ≤ p.length
 l12 : p.length ≤ 12
 c0 : 0 ≤ c
 c4 : c ≤ 4
 c3 : c = 3 → 2 ≤ p.length
 c2 : c = 2 → p.length ≤ 11
theorem jh (p : List Int) : (NG p).length = p.length := by unfold NG; simp; omega
theorem LC {p : List Int} (hi : Ins p) : Ins (NG p) := fun x hx => by
 unfold NG at hx
 rcases List.mem_append.1 hx with h | h
 ·obtain ⟨y, hy, rfl⟩ := List.mem_map.1 h
  exact ET (hi y (List.mem_of_mem_take (List.mem_reverse.1 hy)))
 ·exact hi x (List.mem_of_mem_drop h)
theorem bD {p : List Int} {c : Int} (hp : p.length ≤ 12) : (xo p c).length ≤ 4096 ∧ ∀ q ∈ xo p c, q.length ≤ 12 := by
 have h2 := K7 hp
 unfold xo
 split
 ·refine ⟨by unfold ZQ; simp; omega, fun q hq => ?_⟩
  obtain ⟨i, _, rfl⟩ := List.mem_map.1 hq
  unfold cutL; simp; omega
 split
 ·refine ⟨by unfold Zo; simpa using h2, fun q hq => ?_⟩
  obtain ⟨w, _, rfl⟩ := List.mem_map.1 hq
  unfold SU
  rw [SV, List.length_map]
  have : ∀ (bits : List Bool) (f s : Nat), (rfi f s bits).length = bits.length := fun bits => by
   induction bits with
   | nil => intro f s; rfl
   | cons b r ih => intro f s; cases b <;> simp [rfi, ih]
  rw [this, cq]; exact hp
 split
 ·refine ⟨by unfold ZQ; simp [jh]; omega, fun q hq => ?_⟩
  obtain ⟨i, _, rfl⟩ := List.mem_map.1 hq
  unfold cutL; simp [jh]; have := jh p; omega
 split
 ·refine ⟨by unfold UW; simp; omega, fun q hq => ?_⟩
  obtain ⟨i, hi, rfl⟩ := List.mem_map.1 hq
  have := List.mem_range.1 hi
  unfold Kt; simp; omega
 ·exact ⟨by simp, fun q hq => by have : q = p := by simpa using hq
                                 rw [this]; exact hp⟩
theorem Fo {p : List Int} {c : Int} (hp : p.length ≤ 12) (c2 : c ≠ 2) : (xo p c).length ≤ 12 := by
 unfold xo
 split
 ·unfold ZQ; simpa using hp
 split
 ·unfold ZQ; simpa [jh] using hp
 split
 ·unfold UW; simpa using hp
 ·simp
theorem Hc (p : List Int) (c : Int) (h : ChFit p c) (hi : Ins p) : ∃ y, Ev (fun k => Kk k (p, c)) y ∧ y.length ≤ 1048576 ∧ ∀ q, q ∈ y ↔ q ∈ xo p c := by
 have hp := h.l12
 by_cases c1 : c = 1
 ·refine ⟨ZQ p, Ev.step (fun k => eK k p c) (Ev.yes (by simp [c1]) (Ev.bind (UM p hp hi) (Ev.pure _))), by unfold ZQ; simp; omega, fun q => by simp [xo, c1]⟩
 by_cases c2 : c = 2
 ·refine ⟨riffsW p, Ev.step (fun k => eK k p c) (Ev.no (by simp [c1]) (Ev.yes (by simp [c2]) (Wf p hp (p.length + 1) 0 (by omega)))), ?_, fun q => by rw [← Hg]; simp [xo, c2]⟩
  have := NH p.length (p.length + 1) p rfl
  have h2 := K7 hp
  have h3 : (p.length + 1) * 2 ^ p.length ≤ 13 * 4096 := Nat.mul_le_mul (by omega) h2
  unfold riffsW
  omega
 by_cases c3 : c = 3
 ·have h2 := h.c3 c3
  have hb := Za p hp hi 2 h2 true
  have e : (p.take 2).reverse.map (fun x => bif true then turn x else x) ++ p.drop 2 = NG p := rfl
  rw [e] at hb
  refine ⟨ZQ (NG p), Ev.step (fun k => eK k p c) (Ev.no (by simp [c1]) (Ev.no (by simp [c2]) (Ev.yes (by simp [c3]) (Ev.bind hb (Ev.bind (UM _ (by rw [jh]; exact hp) (LC hi)) (Ev.pure _)))))), by unfold ZQ; simp [jh]; omega, fun q => by simp [xo, c3]⟩
 by_cases c4 : c = 4
 ·refine ⟨UW p, Ev.step (fun k => eK k p c) (Ev.no (by simp [c1]) (Ev.no (by simp [c2]) (Ev.no (by simp [c3]) (Ev.yes (by simp [c4]) (YK p hp p.length 0 (by omega)))))), by unfold UW; simp; omega, fun q => by simp [xo, c4]⟩
 ·refine ⟨[p], Ev.step (fun k => eK k p c) (Ev.no (by simp [c1]) (Ev.no (by simp [c2]) (Ev.no (by simp [c3]) (Ev.no (by simp [c4]) (Ev.yes (by rw [za]; simp) (Ev.some rfl)))))), by simp, fun q => by simp [xo, c1, c2, c3, c4]⟩
theorem Ha {l m : Packs} (h : ∀ q, q ∈ l ↔ q ∈ m) : setL l = setL m := Kj (Sq l) fun q => (vC l q).trans (h q)
def resOf (p : List Int) (c : Int) : Packs × Bool := if chOk p c then (setL (xo p c), true) else ([], false)
theorem F1 (p : List Int) (c : Int) (hp : p.length ≤ 12) (hi : Ins p) (h0 : 1 ≤ p.length) : Ev (fun k => EU k (p, c)) (if (0 ≤ c ∧ c ≤ 4) ∧ ¬ (c = 3 ∧ p.length < 2) then (xo p c, true) else ([], false)) := by
 refine Ev.step (fun k => F3 k p c) ?_
 refine Ev.ite (fun e => ?_) (fun n0 => Ev.ite (fun e => ?_) (fun n1 => Ev.ite (fun e => ?_) (fun n2 => Ev.ite (fun e => ?_) (fun n3 => Ev.ite (fun e => ?_) (fun n4 => Ev.some ?_)))))
 all_goals simp only [beq_iff_eq, beq_eq_false_iff_ne, ne_eq] at *
 ·subst e
  exact Ev.bind (yX p (by omega)) (Ev.some (by simp [xo]))
 ·subst e
  exact Ev.bind (Lj p hp hi) (Ev.some (by simp [xo]))
 ·subst e
  exact (RG p hp (2 ^ p.length) 0 (by omega)).to (by simp [xo])
 ·subst e
  refine Ev.ite (fun h => Ev.some ?_) (fun h => ?_)
  ·have : p.length < 2 := by have : (p.length : Int) < 2 := by simpa using h
                             omega
   simp [this]
  ·have h2 : ¬ p.length < 2 := by have : ¬ (p.length : Int) < 2 := by simpa using h
                                  omega
   have hm := V5 p (3, ((2 : Nat) : Int)) ⟨h0, hp, by simp, .inl (by simp; omega), fun _ => by simp; omega, fun h => by simp at h, fun _ _ h3 => absurd rfl h3⟩ hi
   have ed : cb p (3, ((2 : Nat) : Int)) = NG p := by simp [cb, NG]
   rw [ed] at hm
   exact Ev.bind hm (Ev.bind (Lj _ (by rw [jh]; exact hp) (LC hi)) (Ev.some (by simp [xo, h2])))
 ·subst e
  exact (Tc p hp p.length 0 (by omega)).to (by simp [xo])
 ·rw [if_neg (by omega)]
theorem QL (p : List Int) (c : Int) (hp : p.length ≤ maxLen) (hi : Ins p) : Ev (fun k => XH k (p, c)) (resOf p c) := by
 unfold resOf
 refine Ev.step (fun k => QM k p c) (Ev.bind (wJ p hp hi) (Ev.ite (fun h => Ev.some ?_) (fun h => Ev.ite (fun h2 => Ev.some ?_) (fun h2 => ?_))))
 ·have : zj p = false := by simpa using h
  simp [chOk, this]
 ·have : p.length = 0 := by have : (p.length : Int) = 0 := by simpa using h2
                            omega
  simp [chOk, this]
 ·have e1 : zj p = true := by simpa using h
  have e2 : ¬ p.length = 0 := by have : ¬ (p.length : Int) = 0 := by simpa using h2
                                 omega
  have hl := (yk e1).2.2
  have hnd : p.Nodup := by
   have := (yk e1).1
   rw [List.Nodup, List.pairwise_map] at this
   exact this.imp fun h e => h (by rw [e])
  refine Ev.bind (F1 p c hl hi (by omega)) ?_
  by_cases hc : (0 ≤ c ∧ c ≤ 4) ∧ ¬ (c = 3 ∧ p.length < 2)
  ·rw [if_pos hc]
   have hs := bD (c := c) hl
   refine Ev.bind (bY _ (Nat.le_trans hs.1 (by decide)) (fun q hq => Nat.le_trans (hs.2 q hq) (by decide))) (Ev.no rfl ?_)
   refine Ev.ite (fun h3 => Ev.some ?_) (fun h3 => Ev.some ?_)
   ·have h3' : 3000 < (setL (xo p c)).length := by have : ((setL (xo p c)).length : Int) > 3000 := by simpa using h3
                                                   omega
    have : c = 2 ∧ 12 ≤ p.length := by
     apply Classical.byContradiction
     intro hcon
     have h5 := cM (xo p c)
     by_cases c2 : c = 2
     ·have := Gq (p := p) (by omega)
      rw [c2] at h3'
      simp only [xo] at h3'
      simp at h3'
      omega
     ·have := Fo (p := p) hl c2
      omega
    rw [if_neg]
    unfold chOk
    simp [this.1, this.2]
   ·have h3' : ¬ 3000 < (setL (xo p c)).length := by have : ¬ ((setL (xo p c)).length : Int) > 3000 := by simpa using h3
                                                     omega
    have : ¬ (c = 2 ∧ 12 ≤ p.length) := fun ⟨a, b⟩ => h3' (by
     have := riffs12 (p := p) (by omega) hnd
     rw [a]
     simpa [xo] using this)
    rw [if_pos]
    unfold chOk
    rw [e1, decide_eq_true hc.1]
    have h6 := hc.2
    by_cases x3 : c = 3
    ·have : ¬ p.length < 2 := fun h => h6 ⟨x3, h⟩
     simp [e2, x3, this]
    ·by_cases x2 : c = 2
     ·have : ¬ 12 ≤ p.length := fun h => this ⟨x2, h⟩
      simp [e2, x2, this]
     ·simp [e2, x3, x2]
  ·rw [if_neg hc]
   refine Ev.bind (bY [] (by simp) (fun q hq => by cases hq)) (Ev.yes rfl (Ev.some ?_))
   rw [if_neg]
   unfold chOk
   by_cases c04 : 0 ≤ c ∧ c ≤ 4
   ·have : c = 3 ∧ p.length < 2 := Classical.byContradiction fun h => hc ⟨c04, h⟩
    simp [this.1, this.2]
   ·rw [decide_eq_false c04]; simp
end Qq
namespace Qq
open Go Go.Vt Pt
set_option linter.unusedVariables false
set_option linter.unusedSimpArgs false
set_option linter.unnecessarySimpa false
theorem LX (x : Int) : card (turn x) = card x := by
 unfold turn
 split
 ·rfl
 ·rename_i h
  unfold card at h ⊢
  split at h
  ·rename_i h1
   rw [if_neg (by omega), if_pos (by omega), if_pos h1]; omega
  ·rename_i h1
   split at h
   ·rename_i h2
    rw [if_pos (by omega), if_neg h1, if_pos h2]
   ·omega
theorem FT (l : List Int) : (l.map turn).map card = l.map card := by rw [List.map_map]; exact List.map_congr_left fun x _ => LX x
abbrev Pm (q p : List Int) : Prop := (q.map card).Perm (p.map card)
theorem Pm.of {q p : List Int} (h : q.Perm p) : Pm q p := h.map card
theorem RS : ∀ (n : Nat) (f : Bool) (a b : List Int), a.length + b.length = n → (fz f a b).Perm (a ++ b)
 | n, f, [], [], h => by unfold fz; exact .refl _
 | n, f, x :: a, [], h => by
   match n, h with
   | n + 1, h =>
   unfold fz
   exact (RS n (!f) a [] (by simp at h ⊢; omega)).cons x
 | n, f, [], y :: b, h => by
   match n, h with
   | n + 1, h =>
   unfold fz
   exact (RS n (!f) [] b (by simp at h ⊢; omega)).cons y
 | n, true, x :: a, y :: b, h => by
   match n, h with
   | n + 1, h =>
   unfold fz
   exact (RS n false a (y :: b) (by simp at h ⊢; omega)).cons x
 | n, false, x :: a, y :: b, h => by
   match n, h with
   | n + 1, h =>
   unfold fz
   exact ((RS n true (x :: a) b (by simp at h ⊢; omega)).cons y).trans List.perm_middle.symm
termination_by n => n
theorem Kw (k : Int) : ∀ (r : List Int) (i : Nat) (out : List Int), (mz k i r out).Perm (r ++ out)
 | [], i, out => by unfold mz; exact .refl _
 | x :: r, i, out => by
   unfold mz
   split
   ·refine (Kw k r (i + 1) (out ++ [x])).trans ?_
    rw [← List.append_assoc]
    exact List.perm_append_comm
   ·exact (Kw k r (i + 1) (x :: out)).trans List.perm_middle
theorem ends (p : List Int) (h : 1 < p.length) : p = p.getD 0 0 :: ((p.take (p.length - 1)).drop 1 ++ [p.getD (p.length - 1) 0]) := by
 cases p with
 | nil => simp at h
 | cons x r =>
   simp at h
   have hr : r ≠ [] := by intro e; subst e; simp at h
   have e1 : (x :: r).length - 1 = r.length - 1 + 1 := by simp; omega
   rw [e1, List.take_succ_cons, List.drop_one, List.tail_cons]
   have e2 : (x :: r).getD (r.length - 1 + 1) 0 = r.getLast hr := by
    simp only [List.getD, List.getElem?_cons_succ]
    rw [List.getLast_eq_getElem, List.getElem?_eq_getElem (by omega)]
    rfl
   rw [e2, ← List.dropLast_eq_take, List.dropLast_concat_getLast hr]
   rfl
theorem GG : ∀ (n : Nat) (p out : List Int), (kz n p out).Perm (p ++ out)
 | 0, p, out => by unfold kz; exact .refl _
 | n + 1, p, out => by
   unfold kz
   split
   ·rename_i h
    refine (GG n _ _).trans ?_
    have e := ends p h
    generalize p.getD 0 0 = x at *
    generalize p.getD (p.length - 1) 0 = y at *
    generalize (p.take (p.length - 1)).drop 1 = m at *
    rw [e]
    refine List.perm_middle.trans (List.Perm.cons x ?_)
    simp
   ·exact .refl _
theorem KT : ∀ (n : Nat) (f : Bool) (q out : List Int), 1 ≤ q.length → 2 * q.length + (bif f then 0 else 1) ≤ n → (dz n f q out).Perm (q ++ out)
 | 0, f, q, out, h, hn => by omega
 | n + 1, f, q, out, h, hn => by
   unfold dz
   cases q with
   | nil => simp at h
   | cons x r =>
     split
     ·rename_i h1
      cases f with
      | true =>
        simp at h1 hn
        refine (KT n false r (x :: out) (by omega) (by simp; omega)).trans ?_
        exact List.perm_middle
      | false =>
        simp at h1 hn
        refine (KT n true (r ++ [x]) out (by simp) (by simp; omega)).trans ?_
        rw [List.append_assoc]
        exact List.perm_middle
     ·rename_i h1
      simp at h1
      subst h1
      exact .refl _
theorem Jk (p : List Int) (i : Nat) (h : i < p.length) : (p.take i ++ p.drop (i + 1) ++ [p.getD i 0]).Perm p := by
 have e : p = p.take i ++ (p.getD i 0 :: p.drop (i + 1)) := by
  have : p.getD i 0 = p[i] := by simp [List.getD, h]
  rw [this, ← List.drop_eq_getElem_cons h, List.take_append_drop]
 have h1 : (p.take i ++ p.drop (i + 1) ++ [p.getD i 0]).Perm (p.take i ++ (p.getD i 0 :: p.drop (i + 1))) := by
  rw [List.append_assoc]
  exact List.Perm.append_left _ (List.perm_append_comm (l₁ := p.drop (i + 1)) (l₂ := [p.getD i 0]))
 rw [← e] at h1
 exact h1
theorem MR (p : List Int) (k : Nat) : Pm ((p.take k).reverse.map turn ++ p.drop k) p := by
 show (List.map card _).Perm _
 rw [List.map_append, FT]
 refine (((List.reverse_perm (p.take k)).map card).append_right _).trans ?_
 rw [← List.map_append, List.take_append_drop]
theorem LO {p : List Int} {m : Int × Int} (h : MoveFit p.length m) : Pm (cb p m) p := by
 have h1 := h.n1
 have ht := h.t
 unfold cb
 split
 ·refine Pm.of (List.perm_append_comm.trans ?_)
  rw [List.take_append_drop]
 split
 ·refine Pm.of (((List.reverse_perm (p.take m.2.toNat)).append_right _).trans ?_)
  rw [List.take_append_drop]
 split
 ·exact MR p _
 split
 ·unfold faroL
  refine Pm.of ((RS _ _ _ _ rfl).trans ?_)
  rw [List.take_append_drop]
 split
 ·exact Pm.of ((Kw m.2 p 0 []).trans (by simp))
 split
 ·exact Pm.of ((GG p.length p []).trans (by simp))
 split
 ·exact Pm.of ((KT (2 * p.length + 1) (m.2 == 1) p [] h1 (by cases (m.2 == 1) <;> simp)).trans (by simp))
 split
 ·rename_i a1 a2 a3 a4 a5 a6 a7 a8
  have h5 := ht a1 a2 a3 a4 a5 a6 a7
  have h6 := h.k0
  have hlt : m.2.toNat < p.length := by omega
  show (List.map card _).Perm _
  rw [List.map_set, LX]
  have e : card (p.getD m.2.toNat 0) = (p.map card)[m.2.toNat]'(by simpa using hlt) := by simp [List.getD, hlt]
  rw [e, List.set_getElem_self]
 ·rename_i a1 a2 a3 a4 a5 a6 a7 a8
  have h5 := ht a1 a2 a3 a4 a5 a6 a7
  have h6 := h.k0
  exact Pm.of (Jk p _ (by omega))
theorem Ni : ∀ (bits : List Bool) (f s : Nat), (rfi f s bits).Perm (List.range' f (zU bits) ++ List.range' s (wV bits))
 | [], f, s => by simp [rfi, zU, wV]
 | true :: r, f, s => by
   unfold rfi zU wV
   rw [List.range'_succ]
   exact ((Ni r f (s + 1)).cons s).trans List.perm_middle.symm
 | false :: r, f, s => by
   unfold rfi zU wV
   rw [List.range'_succ]
   exact (Ni r (f + 1) s).cons f
theorem Hh (p : List Int) (w : Nat) : (SU p w).Perm p := by
 unfold SU
 rw [SV]
 have hz := Us (wd p.length w)
 rw [cq] at hz
 refine ((Ni _ _ _).map _).trans ?_
 have e : List.range' 0 (zU (wd p.length w)) ++ List.range' (zU (wd p.length w)) (wV (wd p.length w)) = List.range p.length := by
  have := List.range'_append_1 (s := 0) (m := zU (wd p.length w)) (n := wV (wd p.length w))
  rw [Nat.zero_add] at this
  rw [this, List.range_eq_range']
  congr 1
 rw [e]
 have : (List.range p.length).map (fun i => p.getD i 0) = p := by
  apply List.ext_getElem
  ·simp
  ·intro i h1 h2
   simp [List.getD, h2]
 rw [this]
theorem JJ {p : List Int} {c : Int} (q : List Int) (hq : q ∈ xo p c) : Pm q p := by
 have cut : ∀ (p q : List Int), q ∈ ZQ p → q.Perm p := fun p q hq => by
  obtain ⟨i, _, rfl⟩ := List.mem_map.1 hq
  unfold cutL
  refine List.perm_append_comm.trans ?_
  rw [List.take_append_drop]
 unfold xo at hq
 split at hq
 ·exact Pm.of (cut _ _ hq)
 split at hq
 ·obtain ⟨w, _, rfl⟩ := List.mem_map.1 hq
  exact Pm.of (Hh p w)
 split at hq
 ·exact (Pm.of (cut _ _ hq)).trans (MR p 2)
 split at hq
 ·obtain ⟨i, hi, rfl⟩ := List.mem_map.1 hq
  have := List.mem_range.1 hi
  unfold Kt
  exact Pm.of (List.perm_append_comm.trans (Jk p i this))
 ·have : q = p := by simpa using hq
  rw [this]
theorem Dl : ∀ (r done : List Int), (done ++ r.map card).Nodup → (∀ x ∈ r, 0 ≤ card x) → pk done r = true
 | [], done, _, _ => rfl
 | x :: r, done, h, h0 => by
   unfold pk
   rw [List.map_cons] at h
   have hx : card x ∉ done := fun hm => (List.nodup_append.1 h).2.2 _ hm _ (by simp) rfl
   rw [decide_eq_true (h0 x (by simp)), Dl r (done ++ [card x]) (by simpa using h) (fun y hy => h0 y (by simp [hy]))]
   simp [hx]
theorem bd {p q : List Int} (h : zj p = true) (hq : Pm q p) : zj q = true ∧ q.length = p.length := by
 obtain ⟨h1, h2, h3⟩ := yk h
 refine ⟨Dl q [] (by simpa using hq.nodup_iff.2 h1) (fun x hx => ?_), by have := hq.length_eq; simpa using this⟩
 have := hq.mem_iff.1 (List.mem_map.2 ⟨x, hx, rfl⟩)
 obtain ⟨y, hy, e⟩ := List.mem_map.1 this
 have := (h2 y hy).1
 omega
theorem zQ {p : List Int} (h : zj p = true) : Ins p := fun x hx => by
 have := ((yk h).2.1 x hx).1
 unfold card at this
 unfold In
 split at this
 ·omega
 ·split at this <;> omega
end Qq
namespace Qq
open Go Go.Vt Pt
set_option linter.unusedVariables false
set_option linter.unusedSimpArgs false
set_option linter.unnecessarySimpa false
abbrev zI : Type := Int × (Int × Int) × Int
def zn (c : Scene) (s : zI) : List Scene :=
 if s.1 = 1 then [(cb c.1 s.2.1, c.2)] else if s.1 = 3 then [(c.1, card (c.1.getD s.2.2.toNat 0))] else (setL (xo c.1 s.2.2)).map fun q => (q, c.2)
structure SceneOk (n : Nat) (c : Scene) : Prop where
 ok : zj c.1 = true
 len : c.1.length = n
 n0 : -1 ≤ c.2
 n12 : c.2 < 12
inductive StepKind (n : Nat) (s : zI) : Prop
 | mv (h : s.1 = 1) (m : MoveFit n s.2.1)
 | ch (h : s.1 = 2) (c0 : 0 ≤ s.2.2) (c4 : s.2.2 ≤ 4) (c3 : s.2.2 = 3 → 2 ≤ n) (c2 : s.2.2 = 2 → n ≤ 11)
 | nt (h : s.1 = 3) (a0 : 0 ≤ s.2.2) (an : s.2.2 < n)
theorem vd {n : Nat} {s : zI} (h : zP (n : Int) s = true) : 1 ≤ n ∧ n ≤ 12 ∧ StepKind n s := by
 unfold zP at h
 simp only [Bool.and_eq_true, decide_eq_true_eq] at h
 obtain ⟨h1, h2, h3⟩ := h
 refine ⟨by omega, by omega, ?_⟩
 split at h3
 ·rename_i e
  simp only [Bool.and_eq_true] at h3
  exact .mv e (Hn h3.1)
 split at h3
 ·rename_i e
  simp only [Bool.and_eq_true, decide_eq_true_eq, Bool.or_eq_true, Bool.not_eq_true', beq_eq_false_iff_ne, ne_eq] at h3
  obtain ⟨_, _, a, b, c, d⟩ := h3
  exact .ch e a b (fun q => by rcases c with c | c; exact absurd q c; omega) (fun q => by rcases d with d | d; exact absurd q d; omega)
 split at h3
 ·rename_i e
  simp only [Bool.and_eq_true, decide_eq_true_eq] at h3
  exact .nt e h3.2.2.1 h3.2.2.2
 ·cases h3
theorem Ff {n : Nat} {c : Scene} {s : zI} (hc : SceneOk n c) (h1 : 1 ≤ n) (h2 : n ≤ 12) (c0 : 0 ≤ s.2.2) (c4 : s.2.2 ≤ 4) (c3 : s.2.2 = 3 → 2 ≤ n) (c2 : s.2.2 = 2 → n ≤ 11) : ChFit c.1 s.2.2 :=
 ⟨hc.ok, by rw [hc.len]; exact h1, by rw [hc.len]; exact h2, c0, c4, fun e => by rw [hc.len]; exact c3 e, fun e => by rw [hc.len]; exact c2 e⟩
theorem gv {n : Nat} {c : Scene} {s : zI} (hc : SceneOk n c) (hs : zP (n : Int) s = true) : ∀ d ∈ zn c s, SceneOk n d := by
 obtain ⟨h1, h2, hk⟩ := vd hs
 intro d hd
 unfold zn at hd
 rcases hk with ⟨e, m⟩ | ⟨e, c0, c4, c3, c2⟩ | ⟨e, a0, an⟩
 ·rw [if_pos e] at hd
  have hd : d = (cb c.1 s.2.1, c.2) := by simpa using hd
  subst hd
  have := bd hc.ok (LO (by rw [hc.len]; exact m))
  exact ⟨this.1, this.2.trans hc.len, hc.n0, hc.n12⟩
 ·rw [if_neg (by omega), if_neg (by omega)] at hd
  obtain ⟨q, hq, rfl⟩ := List.mem_map.1 hd
  have := bd hc.ok (JJ q ((vC _ q).1 hq))
  exact ⟨this.1, this.2.trans hc.len, hc.n0, hc.n12⟩
 ·rw [if_neg (by omega), if_pos e] at hd
  have hd : d = (c.1, card (c.1.getD s.2.2.toNat 0)) := by simpa using hd
  subst hd
  have := R4 (c.1.getD s.2.2.toNat 0)
  exact ⟨hc.ok, hc.len, this.1, by show card _ < 12; omega⟩
theorem Fn {p : List Int} {c : Int} (h : ChFit p c) : xo p c ≠ [] := by
 have h1 := h.l1
 unfold xo
 split
 ·intro e; have := congrArg List.length e; unfold ZQ at this; rw [List.length_map, List.length_range, List.length_nil] at this; omega
 split
 ·intro e; have := congrArg List.length e; simp [Zo] at this
 split
 ·intro e; have := congrArg List.length e; unfold ZQ at this; rw [List.length_map, List.length_range, List.length_nil, jh] at this; omega
 split
 ·intro e; have := congrArg List.length e; unfold UW at this; rw [List.length_map, List.length_range, List.length_nil] at this; omega
 ·simp
theorem fo {n : Nat} {c : Scene} {s : zI} (hc : SceneOk n c) (hs : zP (n : Int) s = true) : 1 ≤ (zn c s).length ∧ (zn c s).length ≤ 4096 := by
 obtain ⟨h1, h2, hk⟩ := vd hs
 unfold zn
 split
 ·simp
 split
 ·simp
 ·rename_i a b
  rcases hk with ⟨e, m⟩ | ⟨e, c0, c4, c3, c2⟩ | ⟨e, a0, an⟩
  ·exact absurd e a
  ·have hf := Ff hc h1 h2 c0 c4 c3 c2
   have hs := (bD (c := s.2.2) hf.l12).1
   have := cM (xo c.1 s.2.2)
   rw [List.length_map]
   refine ⟨?_, by omega⟩
   rcases Nat.eq_zero_or_pos (setL (xo c.1 s.2.2)).length with h0 | h0
   ·exfalso
    have hne := Fn hf
    cases hl : xo c.1 s.2.2 with
    | nil => exact hne hl
    | cons q r =>
      have := (vC (xo c.1 s.2.2) q).2 (by rw [hl]; simp)
      rw [List.eq_nil_of_length_eq_zero h0] at this
      cases this
   ·exact h0
  ·exact absurd e b
theorem gD (p : List Int) (x : Int) (l : List (List Int)) (hl : l.length ≤ 16384) : ∀ (r : List (List Int)) (i : Nat) (out : List Scene), l.drop i = r → out.length = i →
 Ev (fun k => va k (l.length : Int) (i : Int) p x out l i) (out ++ r.map fun q => (q, x))
 | [], i, out, h, ho => by
   have a := zz h
   refine Ev.step (fun k => gE k _ _ _ _ _ _ _) ?_
   simp only [a.g, cond_false]
   exact Ev.some (by simp)
 | q :: r, i, out, h, ho => by
   have a := zi h (by rw [zc]; omega)
   have hlt := a.lt
   refine Ev.step (fun k => gE k _ _ _ _ _ _ _) ?_
   simp only [a.g, a.z, a.n, a.get, a.w, cond_true]
   refine Ev.yes (by simp) (Ev.yes (by rw [za]; simp; omega) ?_)
   exact (gD p x l hl r (i + 1) (out ++ [(q, x)]) a.next (by simp [ho])).to (by simp)
theorem aG (p : List Int) (x : Int) (l : List (List Int)) (hl : l.length ≤ 16384) : ∀ (r : List (List Int)) (i : Nat) (out : List Scene), l.drop i = r → out.length = i →
 Ev (fun k => fa k (l.length : Int) (i : Int) p x out l) (out ++ r.map fun q => (q, x))
 | [], i, out, h, ho => by
   have a := zz h
   refine Ev.step (fun k => aH k _ _ _ _ _ _) ?_
   simp only [a.g, cond_false]
   exact Ev.some (by simp)
 | q :: r, i, out, h, ho => by
   have a := zi h (by rw [zc]; omega)
   have hlt := a.lt
   refine Ev.step (fun k => aH k _ _ _ _ _ _) ?_
   simp only [a.g, a.z, a.n, a.get, a.w, cond_true]
   refine Ev.yes (by rw [za]; simp; omega) ?_
   exact (aG p x l hl r (i + 1) (out ++ [(q, x)]) a.next (by simp [ho])).to (by simp)
theorem UK {n : Nat} {c : Scene} {s : zI} (hc : SceneOk n c) (hs : zP (n : Int) s = true) : Ev (fun k => Wa k (c, s)) (zn c s) := by
 obtain ⟨h1, h2, hk⟩ := vd hs
 have hi := zQ hc.ok
 have hln := hc.len
 obtain ⟨p, x⟩ := c
 refine Ev.step (fun k => Mo k (p, x) s) ?_
 unfold zn
 rcases hk with ⟨e, m⟩ | ⟨e, c0, c4, c3, c2⟩ | ⟨e, a0, an⟩
 ·rw [if_pos e]
  exact Ev.yes (by simp [e]) (Ev.bind (Q6 p s.2.1 (by rw [hln]; exact m) hi) (Ev.pure _))
 ·rw [if_neg (by omega), if_neg (by omega)]
  have hf := Ff hc h1 h2 c0 c4 c3 c2
  have hsm : (xo p s.2.2).length ≤ 4096 ∧ ∀ q ∈ xo p s.2.2, q.length ≤ 12 := bD (c := s.2.2) hf.l12
  obtain ⟨y, e1, e2, e3⟩ := Hc p s.2.2 hf hi
  have hy12 : ∀ q ∈ y, q.length ≤ 1048576 := fun q hq => Nat.le_trans (hsm.2 q ((e3 q).1 hq)) (by decide)
  have es : setL y = setL (xo p s.2.2) := Ha e3
  have hsl := cM (xo p s.2.2)
  refine Ev.no (by simp [e]) (Ev.no (by simp [e]) (Ev.bind e1 (Ev.bind (jn _ y (Nat.le_refl _) e2 hy12) ?_)))
  rw [es]
  exact aG p x _ (by have := hsm.1; show (setL (xo p s.2.2)).length ≤ _; omega) _ 0 [] rfl rfl
 ·rw [if_neg (by omega), if_pos e]
  refine Ev.no (by simp [e]) (Ev.yes (by simp [e]) (Ev.yes (by rw [za]; simp; simp at hln; omega) (Ev.yes (by simpa using a0) (Ev.yes (by simp at hln; simp; omega) (Ev.bind (ws _) (Ev.some ?_))))))
  simp
theorem RL (c : Scene) (s : zI) (a : c.1.length ≤ maxLen) (hi : Ins c.1) :
 Ev (fun k => xO k (c, s)) (if zj c.1 && (decide (-1 ≤ c.2 ∧ c.2 < 12) && zP (c.1.length : Int) s) then zn c s else []) := by
 obtain ⟨p, x⟩ := c
 refine Ev.step (fun k => RM k (p, x) s) (Ev.bind (wJ p a hi) (Ev.ite (fun h => Ev.some ?_) (fun h => Ev.ite (fun h2 => Ev.some ?_) (fun h2 => Ev.ite (fun h3 => Ev.some ?_) (fun h3 => Ev.bind (RI _ s) (Ev.ite (fun h4 => Ev.some ?_) (fun h4 => ?_)))))))
 ·have : zj p = false := by simpa using h
  simp [this]
 ·have : ¬ -1 ≤ x := by simpa using h2
  simp [this]
 ·have : ¬ x < 12 := by simpa using h3
  simp [this]
 ·have : zP (p.length : Int) s = false := by simpa using h4
  simp [this]
 ·have e1 : zj p = true := by simpa using h
  have e2 : -1 ≤ x := by have : ¬ x < -1 := by simpa using h2
                         omega
  have e3 : x < 12 := by simpa using h3
  have e4 : zP (p.length : Int) s = true := by simpa using h4
  have hc : SceneOk p.length (p, x) := ⟨e1, rfl, e2, e3⟩
  rw [if_pos (by simp [e1, e2, e3, e4])]
  obtain ⟨h1, h2, hk⟩ := vd e4
  unfold zn
  rcases hk with ⟨e, m⟩ | ⟨e, c0, c4, c3, c2⟩ | ⟨e, a0, an⟩
  ·rw [if_pos e]
   exact Ev.yes (by simp [e]) (Ev.bind (V5 p s.2.1 m hi) (Ev.pure _))
  ·rw [if_neg (by omega), if_neg (by omega)]
   have hf := Ff hc h1 h2 c0 c4 c3 c2
   have hsm : (xo p s.2.2).length ≤ 4096 ∧ ∀ q ∈ xo p s.2.2, q.length ≤ 12 := bD (c := s.2.2) hf.l12
   have hsl := cM (xo p s.2.2)
   have hok : chOk p s.2.2 = true := by
    unfold chOk
    have a3 : ¬ (s.2.2 = 3 ∧ p.length < 2) := fun h => by have := c3 h.1; omega
    have a2 : ¬ (s.2.2 = 2 ∧ 12 ≤ p.length) := fun h => by have := c2 h.1; omega
    rw [e1, decide_eq_true ⟨c0, c4⟩]
    simp only [Bool.true_and, Bool.and_eq_true, Bool.not_eq_true', Bool.and_eq_false_iff, decide_eq_false_iff_not, beq_eq_false_iff_ne]
    refine ⟨by omega, ?_, ?_⟩
    ·by_cases q : s.2.2 = 3
     ·exact .inr fun h => a3 ⟨q, h⟩
     ·exact .inl q
    ·by_cases q : s.2.2 = 2
     ·exact .inr fun h => a2 ⟨q, h⟩
     ·exact .inl q
   have er : resOf p s.2.2 = (setL (xo p s.2.2), true) := by unfold resOf; rw [if_pos hok]
   refine Ev.no (by simp [e]) (Ev.no (by simp [e]) (Ev.bind (QL p s.2.2 a hi) ?_))
   rw [er]
   exact gD p x _ (by have := hsm.1; show (setL (xo p s.2.2)).length ≤ _; omega) _ 0 [] rfl rfl
  ·rw [if_neg (by omega), if_pos e]
   refine Ev.no (by simp [e]) (Ev.yes (by simp [e]) (Ev.bind (yX p (by omega)) (Ev.yes (by simpa using a0) (Ev.yes (by simpa using an) (Ev.bind (xT _ ?_) (Ev.pure _))))))
   have hlt : s.2.2.toNat < p.length := by omega
   have : p.getD s.2.2.toNat 0 = p[s.2.2.toNat] := by simp [List.getD, hlt]
   rw [this]
   exact hi _ (List.getElem_mem hlt)
theorem vT {n : Nat} {c : Scene} {s : zI} (hc : SceneOk n c) (hs : zP (n : Int) s = true) : Ev (fun k => xO k (c, s)) (zn c s) := by
 obtain ⟨h1, h2, hk⟩ := vd hs
 have := RL c s (by rw [hc.len, zc]; omega) (zQ hc.ok)
 rw [hc.len, hc.ok, hs, decide_eq_true ⟨hc.n0, hc.n12⟩] at this
 exact this
end Qq
namespace Qq
open Go Go.Vt Pt
set_option linter.unusedVariables false
set_option linter.unusedSimpArgs false
def strB (l : List UInt8) : ByteArray := ⟨l.toArray⟩
theorem gX (a b : List UInt8) : strB a ++ strB b = strB (a ++ b) := by unfold strB; apply ByteArray.ext; simp
theorem yG (a : List UInt8) : (strB a).size = a.length := by simp [strB, ByteArray.size]
theorem FJ (x : Int) : uK [x] = strB [UInt8.ofNat x.toNat] := rfl
def vQ (n : Int) : ByteArray := strB (Lib.itoa n)
theorem Vg {u : Nat} (h : u < 10) : Lib.decDigits u = [UInt8.ofNat (48 + u)] := by rw [Lib.decDigits, dif_pos h]
theorem NO {u : Nat} (h : ¬ u < 10) : Lib.decDigits u = Lib.decDigits (u / 10) ++ [UInt8.ofNat (48 + u % 10)] := by rw [Lib.decDigits, dif_neg h]
theorem dig (d : Nat) (h : d < 10) : uK [IntKind.u8.wrap (IntKind.i64.wrap ((48 : Int) + (d : Int)))] = strB [UInt8.ofNat (48 + d)] := by
 rw [zg (by omega) (by omega), FJ]
 have : IntKind.u8.wrap ((48 : Int) + d) = ((48 + d : Nat) : Int) := by
  have h2 : (48 : Int) + d < 256 := by omega
  unfold IntKind.wrap
  have e : (2 ^ IntKind.u8.bits : Int) = 256 := by decide
  have e2 : IntKind.u8.signed = false := rfl
  simp only [e, e2, Bool.false_and, Bool.false_eq_true, if_false]
  omega
 rw [this, Int.toNat_natCast]
theorem VT : ∀ (n : Nat) (s : List UInt8), (n : Int) ≤ 9223372036854775807 → s.length + n ≤ 9223372036854775807 + 1000 → (Lib.decDigits n).length + s.length ≤ 1000 → Ev (fun k => uA k (n : Int) (strB s)) (strB (Lib.decDigits n ++ s)) := by
 intro n
 induction n using Nat.strongRecOn with
 | _ n ih =>
   intro s hn _ hl
   refine Ev.step (fun k => VU k _ _) (Ev.ite (fun h => ?_) (fun h => ?_))
   ·have h10 : ¬ n < 10 := by simp at h; omega
    have e1 : ((n : Int).tmod 10) = ((n % 10 : Nat) : Int) := by rw [Int.tmod_eq_emod_of_nonneg (by omega)]; omega
    have e2 : ((n : Int).tdiv 10) = ((n / 10 : Nat) : Int) := by rw [Int.tdiv_eq_ediv_of_nonneg (by omega)]; omega
    rw [NO h10] at hl ⊢
    simp only [List.length_append, List.length_singleton] at hl
    rw [e1, e2, dig _ (Nat.mod_lt _ (by omega)), gX, zg (x := ((n / 10 : Nat) : Int)) (by omega) (by omega)]
    refine Ev.yes (by rw [yG, yG]; simp; omega) ?_
    rw [List.append_assoc]
    exact ih (n / 10) (by omega) _ (by omega) (by simp; omega) (by simp; omega)
   ·have h10 : n < 10 := by simp at h; omega
    rw [Vg h10] at hl ⊢
    rw [dig n h10, gX]
    exact Ev.yes (by rw [yG, yG]; simp at hl ⊢; omega) (Ev.pure _)
theorem G7 (u : Nat) (h : (u : Int) ≤ 9223372036854775808) : (Lib.decDigits u).length ≤ 20 := by
 have := Lib.nDigits_le20 u (by omega)
 rw [Lib.decDigits_length]; exact this
theorem SG : ∀ (u : Nat), 1 ≤ u → (u : Int) ≤ 9223372036854775808 → Ev (fun k => wq k (-(u : Int))) (strB (45 :: Lib.decDigits u)) := by
 intro u
 induction u using Nat.strongRecOn with
 | _ u ih =>
   intro h1 hu
   have hl := G7 u hu
   have e1 : ((-(u : Int)).tmod 10) = -((u % 10 : Nat) : Int) := by rw [Int.neg_tmod, Int.tmod_eq_emod_of_nonneg (by omega)]; omega
   have e2 : ((-(u : Int)).tdiv 10) = -((u / 10 : Nat) : Int) := by rw [Int.neg_tdiv, Int.tdiv_eq_ediv_of_nonneg (by omega)]; omega
   refine Ev.step (fun k => YQ k _) (Ev.yes (by simp; omega) ?_)
   rw [e1, e2, zg (x := -((u / 10 : Nat) : Int)) (by omega) (by omega)]
   refine Ev.ite (fun h => ?_) (fun h => ?_)
   ·have h10 : u < 10 := by simp at h; omega
    have e3 : (48 : Int) - (-(u : Int)) = 48 + (u : Int) := by omega
    have e4 : (⟨#[45]⟩ : ByteArray) = strB [45] := rfl
    rw [e3, dig u h10, e4, gX, Vg h10]
    exact Ev.yes (by rw [yG, yG]; rfl) (Ev.pure _)
   ·have h10 : ¬ u < 10 := by simp at h; omega
    have e3 : (48 : Int) - (-((u % 10 : Nat) : Int)) = 48 + ((u % 10 : Nat) : Int) := by omega
    rw [NO h10] at hl ⊢
    simp only [List.length_append, List.length_singleton] at hl
    refine Ev.bind (ih (u / 10) (by omega) (by omega) (by omega)) ?_
    rw [e3, dig _ (Nat.mod_lt _ (by omega)), gX]
    exact Ev.yes (by rw [yG, yG]; simp; omega) (Ev.pure _)
theorem uB (n : Int) (hn : In n) : Ev (fun k => wq k n) (vQ n) := by
 unfold In at hn
 by_cases h : n < 0
 ·have := SG n.natAbs (by omega) (by omega)
  have e : (-((n.natAbs : Nat) : Int)) = n := by omega
  rw [e] at this
  refine this.to ?_
  unfold vQ Lib.itoa
  rw [if_pos h]
 ·have hl := G7 n.toNat (by omega)
  have := VT n.toNat [] (by omega) (by simp; omega) (by simp; omega)
  have e : ((n.toNat : Nat) : Int) = n := by omega
  rw [e] at this
  refine Ev.step (fun k => YQ k n) (Ev.no (by simpa using h) (this.to ?_))
  unfold vQ Lib.itoa
  rw [if_neg h, List.append_nil]
theorem Db (n : Int) (hn : In n) : Ev (fun k => strconv_Itoa k n) (vQ n) := by
 refine Ev.congr (fun k => Sm k n) ?_
 unfold itoaF
 refine Ev.yes ?_ (Ev.pure _)
 unfold In at hn
 simp; exact hn
theorem wY (n : Int) (hn : In n) : Ev (fun k => vi k n) (vQ n) :=
 Ev.step (fun k => QN k n) (Ev.bind (Db n hn) (Ev.pure _))
theorem x9 (n : Int) (hn : In n) : (vQ n).size ≤ 21 := by
 unfold In at hn
 rw [vQ, yG]
 exact Lib.itoa_length_le n hn.1 hn.2
end Qq
namespace Qq
open Go Go.Vt Pt
set_option linter.unusedVariables false
set_option linter.unusedSimpArgs false
def zY (x : ByteArray) : List UInt8 := x.data.toList
theorem VI (x : ByteArray) : strB (zY x) = x := by unfold strB zY; apply ByteArray.ext; simp
theorem vW (x : ByteArray) : (zY x).length = x.size := by unfold zY; simp
def M8 (l : List ByteArray) (sep : ByteArray) : List UInt8 := Lib.join (l.map zY) (zY sep)
def WM (l : List ByteArray) (sep : ByteArray) : ByteArray := strB (M8 l sep)
theorem Zu {B S : Nat} (sep : List UInt8) (hs : sep.length ≤ S) : ∀ (r : List ByteArray), (∀ x ∈ r, x.size ≤ B) → (Lib.joinTail sep (r.map zY)).length ≤ r.length * (B + S)
 | [], _ => by simp [Lib.joinTail]
 | x :: r, h => by
   have ih := Zu sep hs r (fun y hy => h y (by simp [hy]))
   have hx := h x (by simp)
   have e : Lib.joinTail sep ((x :: r).map zY) = (sep ++ zY x) ++ Lib.joinTail sep (r.map zY) := by simp [Lib.joinTail]
   rw [e, List.length_append, List.length_append, vW, List.length_cons, Nat.add_mul, Nat.one_mul]
   omega
theorem TR {B S : Nat} (sep : ByteArray) (hs : sep.size ≤ S) (l : List ByteArray) (h : ∀ x ∈ l, x.size ≤ B) : (M8 l sep).length ≤ l.length * (B + S) := by
 cases l with
 | nil => simp [M8, Lib.join_nil]
 | cons x r =>
   have hx := h x (by simp)
   have := Zu (B := B) (S := S) (zY sep) (by rw [vW]; exact hs) r (fun y hy => h y (by simp [hy]))
   unfold M8
   rw [List.map_cons, Lib.join_cons, List.length_append, vW, List.length_cons, Nat.add_mul, Nat.one_mul]
   omega
theorem UT (sep : ByteArray) (xs : List ByteArray) (hm : xs.length ≤ maxLen) : ∀ (r : List ByteArray) (i : Nat) (acc : List UInt8), xs.drop i = r → 1 ≤ i → acc.length + (Lib.joinTail (zY sep) (r.map zY)).length ≤ 9223372036854775807 →
 Ev (fun k => Zk k sep (strB acc) xs (xs.length : Int) (i : Int)) (strB (acc ++ Lib.joinTail (zY sep) (r.map zY)))
 | [], i, acc, h, hi, hl => by
   have a := zz h
   refine Ev.step (fun k => fh k _ _ _ _ _) ?_
   simp only [a.g, cond_false]
   exact Ev.some (by simp [Lib.joinTail])
 | x :: r, i, acc, h, hi, hl => by
   have a := zi h hm
   have e : Lib.joinTail (zY sep) ((x :: r).map zY) = (zY sep ++ zY x) ++ Lib.joinTail (zY sep) (r.map zY) := by simp [Lib.joinTail]
   rw [e, List.length_append, List.length_append] at hl
   refine Ev.step (fun k => fh k _ _ _ _ _) ?_
   simp only [a.g, a.z, a.get, a.w, cond_true]
   have e1 : strB acc ++ sep = strB (acc ++ zY sep) := by rw [← gX, VI]
   have e2 : strB (acc ++ zY sep) ++ x = strB (acc ++ zY sep ++ zY x) := by rw [← gX (acc ++ zY sep), VI]
   have l1 := vW sep
   have l2 := vW x
   refine Ev.yes (by simp; omega) (Ev.yes (by rw [yG]; simp; omega) ?_)
   rw [e1]
   refine Ev.yes (by rw [yG, List.length_append]; simp; omega) ?_
   rw [e2]
   have := UT sep xs hm r (i + 1) (acc ++ zY sep ++ zY x) a.next (by omega) (by rw [List.length_append, List.length_append]; omega)
   rw [e, ← List.append_assoc, ← List.append_assoc]
   exact this
theorem MF (l : List ByteArray) (sep : ByteArray) (B : Nat) (hl : l.length ≤ 1048576) (hB : ∀ x ∈ l, x.size ≤ B) (hBB : B ≤ 100) (hs : sep.size ≤ 100) : Ev (fun k => Jd k (l, sep)) (WM l sep) := by
 refine Ev.step (fun k => Gi k l sep) ?_
 cases l with
 | nil =>
   refine Ev.step (fun k => fh k _ _ _ _ _) (Ev.no (by simp) (Ev.some ?_))
   rfl
 | cons x r =>
   have a := zi (xs := x :: r) (i := 0) rfl (by rw [zc]; omega)
   refine Ev.step (fun k => fh k _ _ _ _ _) ?_
   have hx := hB x (by simp)
   refine Ev.yes a.g (Ev.yes (by simp) (Ev.yes a.g (Ev.no (by simp) ?_)))
   have e0 : (x :: r).getD (0 : Int).toNat (⟨#[]⟩ : ByteArray) = x := rfl
   have e1 : (⟨#[]⟩ : ByteArray) ++ x = strB (zY x) := by rw [VI]; apply ByteArray.ext; simp
   have e2 : IntKind.i64.wrap ((0 : Int) + 1) = ((1 : Nat) : Int) := zg (by omega) (by omega)
   rw [e0, e1, e2]
   refine Ev.yes (by show decide (0 + x.size ≤ _) = true; simp; omega) ?_
   have jl := Zu (B := B) (S := 100) (zY sep) (by rw [vW]; exact hs) r (fun y hy => hB y (by simp [hy]))
   rw [List.length_cons] at hl
   have hmul : r.length * (B + 100) ≤ 1048576 * 200 := Nat.mul_le_mul (by omega) (by omega)
   refine (UT sep (x :: r) (by rw [zc]; simp; omega) r 1 (zY x) rfl (Nat.le_refl _) (by rw [vW]; omega)).to ?_
   unfold WM M8
   rw [List.map_cons, Lib.join_cons]
theorem Lm (l : List ByteArray) (sep : ByteArray) (B : Nat) (hl : l.length ≤ 1048576) (hB : ∀ x ∈ l, x.size ≤ B) (hBB : B ≤ 100) (hs : sep.size ≤ 100) : Ev (fun k => Jx k (l, sep)) (WM l sep) := by
 refine Ev.step (fun k => GT k l sep) (Ev.bind (Ev.congr (fun k => Sk k l sep) ?_) (Ev.pure _))
 unfold joinF
 have jl := TR (B := B) (S := 100) sep hs l hB
 have hmul : l.length * (B + 100) ≤ 1048576 * 200 := Nat.mul_le_mul hl (by omega)
 refine Ev.yes ?_ (Ev.pure _)
 rw [Bool.and_eq_true, decide_eq_true_eq, decide_eq_true_eq]
 exact ⟨by omega, by show (M8 l sep).length ≤ _; omega⟩
theorem Zq (xs : List Int) (hm : xs.length ≤ 1048576) (hi : Ins xs) : ∀ (r : List Int) (i : Nat), xs.drop i = r → Ev (fun k => uI k xs (xs.length : Int) (i : Int) ((xs.take i).map vQ)) (xs.map vQ)
 | [], i, h => by
   have a := zz h
   refine Ev.step (fun k => eU k _ _ _ _) ?_
   simp only [a.g, cond_false]
   exact Ev.some (by rw [List.take_of_length_le a.ge])
 | x :: r, i, h => by
   have a := zi h (by rw [zc]; omega)
   have hlt := a.lt
   have hx : In x := hi x (List.mem_of_mem_drop (h ▸ List.mem_cons_self))
   refine Ev.step (fun k => eU k _ _ _ _) ?_
   simp only [a.g, a.z, a.get, a.w, cond_true]
   refine Ev.bind (wY x hx) (Ev.yes (by rw [za]; simp; omega) ?_)
   have := Zq xs hm hi r (i + 1) a.next
   rw [List.take_succ_eq_append_getElem hlt, List.map_append] at this
   have e : xs[i] = x := by have := a.get 0; rw [Int.toNat_natCast, List.getD, List.getElem?_eq_getElem hlt] at this; exact this
   rw [e] at this
   exact this
theorem MW (xs : List Int) (hm : xs.length ≤ 1048576) (hi : Ins xs) : Ev (fun k => XE k xs) (xs.map vQ) :=
 Ev.step (fun k => QE k xs) (Zq xs hm hi xs 0 rfl)
theorem uH {xs : List Int} (hi : Ins xs) : ∀ x ∈ xs.map vQ, x.size ≤ 21 := by
 intro x hx
 obtain ⟨n, hn, rfl⟩ := List.mem_map.1 hx
 exact x9 n (hi n hn)
end Qq
namespace Qq
open Go Go.Vt Pt
set_option linter.unusedVariables false
set_option linter.unusedSimpArgs false
def yV (xs : List Int) : ByteArray := if xs = [] then ⟨#[45]⟩ else WM (xs.map vQ) ⟨#[44]⟩
theorem gk (xs : List Int) (hm : xs.length ≤ 1048576) (hi : Ins xs) : ∀ (r : List Int) (i : Nat), xs.drop i = r → Ev (fun k => w8 k xs (xs.length : Int) (i : Int) ((xs.take i).map vQ)) (yV xs)
 | [], i, h => by
   have a := zz h
   refine Ev.step (fun k => gl k _ _ _ _) ?_
   simp only [a.g, cond_false]
   rw [List.take_of_length_le a.ge]
   unfold yV
   refine Ev.ite (fun h => Ev.some ?_) (fun h => ?_)
   ·have : xs = [] := by simp at h; exact h
    rw [if_pos this]
   ·have : ¬ xs = [] := by simp at h; exact h
    rw [if_neg this]
    exact Ev.bind (MF _ _ 21 (by simpa using hm) (uH hi) (by omega) (by show (1 : Nat) ≤ _; omega)) (Ev.pure _)
 | x :: r, i, h => by
   have a := zi h (by rw [zc]; omega)
   have hlt := a.lt
   have hx : In x := hi x (List.mem_of_mem_drop (h ▸ List.mem_cons_self))
   refine Ev.step (fun k => gl k _ _ _ _) ?_
   simp only [a.g, a.z, a.get, a.w, cond_true]
   refine Ev.bind (uB x hx) (Ev.yes (by rw [za]; simp; omega) ?_)
   have := gk xs hm hi r (i + 1) a.next
   rw [List.take_succ_eq_append_getElem hlt, List.map_append] at this
   have e : xs[i] = x := by have := a.get 0; rw [Int.toNat_natCast, List.getD, List.getElem?_eq_getElem hlt] at this; exact this
   rw [e] at this
   exact this
theorem b7 (xs : List Int) (hm : xs.length ≤ 1048576) (hi : Ins xs) : Ev (fun k => jP k xs) (yV xs) := by
 refine Ev.step (fun k => TF k xs) ?_
 unfold yV
 refine Ev.ite (fun h => Ev.some ?_) (fun h => ?_)
 ·have : xs = [] := by simp at h; exact h
  rw [if_pos this]
 ·have : ¬ xs = [] := by simp at h; exact h
  rw [if_neg this]
  exact Ev.bind (MW xs hm hi) (Ev.bind (Lm _ _ 21 (by simpa using hm) (uH hi) (by omega) (by show (1 : Nat) ≤ _; omega)) (Ev.pure _))
end Qq
namespace Qq
open Go Go.Vt Pt
set_option linter.unusedVariables false
set_option linter.unusedSimpArgs false
set_option linter.unnecessarySimpa false
def numB (l : List UInt8) : Nat := l.foldl (fun a c => a * 10 + (c.toNat - 48)) 0
theorem byte48 {d : Nat} (h : d < 10) : (UInt8.ofNat (48 + d)).toNat = 48 + d := by
 rw [UInt8.toNat_ofNat']; omega
theorem cd : ∀ (n u : Nat), u ≤ n → numB (Lib.decDigits u) = u ∧ (∀ c ∈ Lib.decDigits u, 48 ≤ c.toNat ∧ c.toNat ≤ 57) ∧ Lib.decDigits u ≠ []
 | n, u, h => by
   by_cases hu : u < 10
   ·rw [Vg hu]
    refine ⟨by simp only [numB, List.foldl_cons, List.foldl_nil, byte48 hu]; omega, fun c hc => ?_, by simp⟩
    have : c = UInt8.ofNat (48 + u) := by simpa using hc
    rw [this, byte48 hu]; omega
   ·match n, h with
    | 0, h => omega
    | n + 1, h =>
    have hd : u % 10 < 10 := Nat.mod_lt _ (by omega)
    obtain ⟨h1, h2, h3⟩ := cd n (u / 10) (by omega)
    rw [NO hu]
    refine ⟨?_, fun c hc => ?_, by simp⟩
    ·unfold numB at h1 ⊢
     rw [List.foldl_append, h1]
     simp only [List.foldl_cons, List.foldl_nil, byte48 hd]
     omega
    ·rcases List.mem_append.1 hc with hc | hc
     ·exact h2 c hc
     ·have : c = UInt8.ofNat (48 + u % 10) := by simpa using hc
      rw [this, byte48 hd]; omega
theorem M9 (n : Int) : ∀ c ∈ Lib.itoa n, c ≠ 44 ∧ c ≠ 47 := by
 intro c hc
 have key : c = 45 ∨ (48 ≤ c.toNat ∧ c.toNat ≤ 57) := by
  unfold Lib.itoa at hc
  split at hc
  ·rcases List.mem_cons.1 hc with rfl | hc
   ·exact .inl rfl
   ·exact .inr ((cd _ _ (Nat.le_refl _)).2.1 c hc)
  ·exact .inr ((cd _ _ (Nat.le_refl _)).2.1 c hc)
 refine ⟨fun e => ?_, fun e => ?_⟩
 ·subst e
  rcases key with h | h
  ·exact absurd h (by decide)
  ·have : (44 : UInt8).toNat = 44 := rfl
   omega
 ·subst e
  rcases key with h | h
  ·exact absurd h (by decide)
  ·have : (47 : UInt8).toNat = 47 := rfl
   omega
theorem Jt {a b : Int} (h : Lib.itoa a = Lib.itoa b) : a = b := by
 have pos : ∀ (u : Nat) (l : List UInt8), Lib.decDigits u = 45 :: l → False := fun u l e => by
  have := ((cd _ u (Nat.le_refl _)).2.1 45 (by rw [e]; simp)).1
  exact absurd this (by decide)
 have val : ∀ u v : Nat, Lib.decDigits u = Lib.decDigits v → u = v := fun u v e => by
  rw [← (cd _ u (Nat.le_refl _)).1, ← (cd _ v (Nat.le_refl _)).1, e]
 unfold Lib.itoa at h
 split at h
 ·split at h
  ·have := val _ _ (List.cons.inj h).2
   omega
  ·exact (pos _ _ h.symm).elim
 ·split at h
  ·exact (pos _ _ h).elim
  ·have := val _ _ h
   omega
theorem Fc {s : UInt8} : ∀ {A A' B B' : List UInt8}, s ∉ A → s ∉ A' → A ++ s :: B = A' ++ s :: B' → A = A' ∧ B = B'
 | [], [], B, B', _, _, h => ⟨rfl, (List.cons.inj h).2⟩
 | [], y :: A', B, B', _, h2, h => (h2 (by rw [(List.cons.inj h).1]; simp)).elim
 | x :: A, [], B, B', h1, _, h => (h1 (by rw [← (List.cons.inj h).1]; simp)).elim
 | x :: A, y :: A', B, B', h1, h2, h => by
   have e := List.cons.inj h
   obtain ⟨e1, e2⟩ := Fc (A := A) (A' := A') (fun hm => h1 (by simp [hm])) (fun hm => h2 (by simp [hm])) e.2
   exact ⟨by rw [e.1, e1], e2⟩
theorem tail_cons (s : UInt8) (x : List UInt8) (r : List (List UInt8)) : Lib.joinTail [s] (x :: r) = s :: (x ++ Lib.joinTail [s] r) := by simp [Lib.joinTail]
theorem Js {s : UInt8} : ∀ {x y : List UInt8} {r q : List (List UInt8)}, (∀ z ∈ x :: r, s ∉ z) → (∀ z ∈ y :: q, s ∉ z) → x ++ Lib.joinTail [s] r = y ++ Lib.joinTail [s] q → x :: r = y :: q
 | x, y, [], [], _, _, h => by simpa [Lib.joinTail] using h
 | x, y, [], z :: q, h1, _, h => by
   rw [tail_cons] at h
   exact (h1 x (by simp) (by have : s ∈ x ++ Lib.joinTail [s] [] := by rw [h]; simp
                             simpa [Lib.joinTail] using this)).elim
 | x, y, z :: r, [], _, h2, h => by
   rw [tail_cons] at h
   exact (h2 y (by simp) (by have : s ∈ y ++ Lib.joinTail [s] [] := by rw [← h]; simp
                             simpa [Lib.joinTail] using this)).elim
 | x, y, z :: r, u :: q, h1, h2, h => by
   rw [tail_cons, tail_cons] at h
   obtain ⟨e1, e2⟩ := Fc (h1 x (by simp)) (h2 y (by simp)) h
   rw [e1, Js (fun w hw => h1 w (by simp [hw])) (fun w hw => h2 w (by simp [hw])) e2]
def keyB (c : Scene) : ByteArray := (yV c.1 ++ (⟨#[47]⟩ : ByteArray)) ++ vQ c.2
theorem Pn (c : Scene) (h : c.1 ≠ []) : keyB c = strB (Lib.join (c.1.map Lib.itoa) [44] ++ 47 :: Lib.itoa c.2) := by
 unfold keyB yV vQ
 rw [if_neg h]
 have e1 : WM (c.1.map vQ) ⟨#[44]⟩ = strB (Lib.join (c.1.map Lib.itoa) [44]) := by
  unfold WM M8
  rw [List.map_map]
  congr 2
 have e2 : (⟨#[47]⟩ : ByteArray) = strB [47] := rfl
 show WM (c.1.map vQ) ⟨#[44]⟩ ++ (⟨#[47]⟩ : ByteArray) ++ strB (Lib.itoa c.2) = _
 rw [e1, e2, gX, gX]
 congr 1
 simp
theorem Rt {s : UInt8} (hs : s ≠ 44) : ∀ {x : List UInt8} {r : List (List UInt8)}, (∀ z ∈ x :: r, s ∉ z) → s ∉ x ++ Lib.joinTail [44] r
 | x, [], h => by simpa [Lib.joinTail] using h x (by simp)
 | x, y :: r, h => by
   rw [tail_cons]
   intro hm
   rcases List.mem_append.1 hm with hm | hm
   ·exact h x (by simp) hm
   ·rcases List.mem_cons.1 hm with hm | hm
    ·exact hs hm
    ·exact Rt hs (x := y) (r := r) (fun z hz => h z (by simp at hz ⊢; exact .inr hz)) hm
theorem U0 : ∀ {p q : List Int}, p.map Lib.itoa = q.map Lib.itoa → p = q
 | [], [], _ => rfl
 | [], _ :: _, h => by simp at h
 | _ :: _, [], h => by simp at h
 | x :: p, y :: q, h => by
   simp only [List.map_cons, List.cons.injEq] at h
   rw [Jt h.1, U0 h.2]
theorem FZ {c d : Scene} (hc : c.1 ≠ []) (hd : d.1 ≠ []) (h : keyB c = keyB d) : c = d := by
 rw [Pn c hc, Pn d hd] at h
 have h' : Lib.join (c.1.map Lib.itoa) [44] ++ 47 :: Lib.itoa c.2 = Lib.join (d.1.map Lib.itoa) [44] ++ 47 :: Lib.itoa d.2 := by
  have := congrArg (fun b => b.data.toList) h
  simpa [strB] using this
 obtain ⟨p, n⟩ := c
 obtain ⟨q, m⟩ := d
 cases p with
 | nil => exact (hc rfl).elim
 | cons x p =>
   cases q with
   | nil => exact (hd rfl).elim
   | cons y q =>
     rw [List.map_cons, List.map_cons, Lib.join_cons, Lib.join_cons] at h'
     have nb : ∀ (x : Int) (p : List Int), ∀ z ∈ Lib.itoa x :: p.map Lib.itoa, (47 : UInt8) ∉ z ∧ (44 : UInt8) ∉ z := fun x p z hz => by
      have : ∃ n, z = Lib.itoa n := by
       rcases List.mem_cons.1 hz with rfl | hz
       ·exact ⟨x, rfl⟩
       ·obtain ⟨n, _, rfl⟩ := List.mem_map.1 hz
        exact ⟨n, rfl⟩
      obtain ⟨n, rfl⟩ := this
      exact ⟨fun hm => (M9 n _ hm).2 rfl, fun hm => (M9 n _ hm).1 rfl⟩
     obtain ⟨e1, e2⟩ := Fc (Rt (by decide) fun z hz => (nb x p z hz).1) (Rt (by decide) fun z hz => (nb y q z hz).1) h'
     have e3 := Js (fun z hz => (nb x p z hz).2) (fun z hz => (nb y q z hz).2) e1
     have e4 := U0 (p := x :: p) (q := y :: q) (by simpa using e3)
     have e5 := Jt e2
     dsimp only at e5
     rw [e4, e5]
theorem Re {l : List Scene} {x : Scene} (hl : ∀ c ∈ l, c.1 ≠ []) (hx : x.1 ≠ []) : bf (l.map keyB) (keyB x) = decide (x ∈ l) := by
 rw [Bool.eq_iff_iff, decide_eq_true_eq]
 unfold bf
 rw [List.any_eq_true]
 constructor
 ·rintro ⟨k, hk, he⟩
  obtain ⟨c, hc, rfl⟩ := List.mem_map.1 hk
  rw [FZ hx (hl c hc) (beqBA he)]
  exact hc
 ·intro hm
  exact ⟨keyB x, List.mem_map.2 ⟨x, hm, rfl⟩, PG _⟩
theorem Pp (c : Scene) (h : c.1.length ≤ 12) (hi : Ins c.1) (hn : In c.2) : Ev (fun k => bm k c) (keyB c) := by
 obtain ⟨p, n⟩ := c
 have h1 : (yV p).size ≤ 1000 := by
  unfold yV
  split
  ·decide
  ·have := TR (B := 21) (S := 1) (⟨#[44]⟩ : ByteArray) (by decide) (p.map vQ) (uH hi)
   rw [List.length_map] at this
   rw [WM, yG]
   have h : p.length ≤ 12 := h
   omega
 have h2 := x9 n hn
 have h3 : (⟨#[47]⟩ : ByteArray).size = 1 := rfl
 refine Ev.step (fun k => Hy k (p, n)) (Ev.bind (b7 p (by have h : p.length ≤ 12 := h; omega) hi) (Ev.yes (decide_eq_true (by omega)) (Ev.bind (wY n hn) (Ev.yes (decide_eq_true (by rw [ByteArray.size_append]; omega)) (Ev.some rfl)))))
end Qq
namespace Qq
open Go Go.Vt Pt
set_option linter.unusedVariables false
set_option linter.unusedSimpArgs false
def wm (k : Int) : Nat → List Step
 | 0 => []
 | n + 1 => (k, (k + 1, k + 2), k + 3) :: wm (k + 4) n
theorem X0 : ∀ (k : Int) (n : Nat), (wm k n).length = n
 | _, 0 => rfl
 | k, n + 1 => by show (wm (k + 4) n).length + 1 = n + 1; rw [X0]
theorem NF {α : Type} {xs : List α} {i : Nat} (h : i < xs.length) (a d : α) : (xs.set i a).getD i d = a := by
 simp [List.getD, h]
theorem wrap4 {k : Int} (h0 : 0 ≤ k) (h1 : k + 4 ≤ top) : IntKind.i64.wrap (k + 1) = k + 1 ∧ IntKind.i64.wrap (k + 1 + 1) = k + 2 ∧ IntKind.i64.wrap (k + 2 + 1) = k + 3 ∧ IntKind.i64.wrap (k + 3 + 1) = k + 4 := by
 rw [N8] at h1
 refine ⟨zg (by omega) (by omega), ?_, ?_, ?_⟩ <;> (rw [zg (by omega) (by omega)]; omega)
theorem Rh (xs : List Step) (hm : xs.length ≤ maxLen) : ∀ (r : List Step) (i : Nat) (k0 : Int) (done : List Step), xs.drop i = r → done.length = i → 0 ≤ k0 → k0 + 4 * r.length ≤ top →
 Ev (fun k => uw k k0 (i : Int) (done ++ r)) (k0 + 4 * r.length, done ++ wm k0 r.length) := by
 intro r
 induction r with
 | nil =>
   intro i k0 done h hl h0 h1
   refine Ev.step (fun k => eh k k0 i _) ?_
   have : decide ((i : Int) < ((done ++ ([] : List Step)).length : Int)) = false := by simp; omega
   refine Ev.no this (Ev.some ?_)
   simp [wm]
 | cons x r ih =>
   intro i k0 done h hl h0 h1
   have a := zi h hm
   rw [List.length_cons] at h1
   obtain ⟨w1, w2, w3, w4⟩ := wrap4 (k := k0) h0 (by omega)
   have L : i < (done ++ x :: r).length := by simp; omega
   have g1 : decide ((i : Int) < ((done ++ x :: r).length : Int)) = true := decide_eq_true (by omega)
   have g2 : decide (i < (done ++ x :: r).length) = true := decide_eq_true (by omega)
   refine Ev.step (fun k => eh k k0 i _) ?_
   simp only [Int.toNat_natCast, List.length_set, List.set_set, NF L, w1, w2, w3, w4, a.z, a.w, g1, g2, cond_true]
   have e : (done ++ x :: r).set i (k0, (k0 + 1, k0 + 2), k0 + 3) = (done ++ [(k0, (k0 + 1, k0 + 2), k0 + 3)]) ++ r := by
    rw [← hl, List.set_append_right _ _ (Nat.le_refl _)]
    simp
   have := ih (i + 1) (k0 + 4) (done ++ [(k0, (k0 + 1, k0 + 2), k0 + 3)]) a.next (by simp [hl]) (by omega) (by omega)
   rw [← e] at this
   refine this.to ?_
   simp [wm]
   omega
theorem M4 (xs : List Step) (k0 : Int) (hm : xs.length ≤ maxLen) (h0 : 0 ≤ k0) (h1 : k0 + 4 * xs.length ≤ top) :
 Ev (fun k => Xn k (xs, k0)) (k0 + 4 * xs.length, wm k0 xs.length) :=
 Ev.step (fun k => Qm k xs k0) (Rh xs hm xs 0 k0 [] rfl rfl h0 h1)
theorem RR (ys : List Step) (hm : ys.length ≤ maxLen) : ∀ (n : Nat) (i : Nat) (k0 : Int), ys.drop i = wm k0 n → 0 ≤ k0 → k0 + 4 * n ≤ top →
 Ev (fun k => ux k ys k0 (i : Int)) (k0 + 4 * n) := by
 intro n
 induction n with
 | zero =>
   intro i k0 h h0 h1
   have a := zz h
   refine Ev.step (fun k => eo k ys k0 i) ?_
   simp only [a.g, cond_false]
   exact Ev.some (by simp)
 | succ n ih =>
   intro i k0 h h0 h1
   have a := zi h hm
   obtain ⟨w1, w2, w3, w4⟩ := wrap4 (k := k0) h0 (by omega)
   refine Ev.step (fun k => eo k ys k0 i) ?_
   simp only [a.g, a.z, a.get, a.w, cond_true, w1, w2, w3, w4]
   refine Ev.no (by simp) (Ev.no (by simp) (Ev.no (by simp) (Ev.no (by simp) ?_)))
   have := ih (i + 1) (k0 + 4) a.next (by omega) (by omega)
   have e3 : k0 + 4 * ((n + 1 : Nat) : Int) = k0 + 4 + 4 * (n : Int) := by omega
   rw [e3]
   exact this
theorem Lw (n : Nat) (k0 : Int) (hm : n ≤ maxLen) (h0 : 0 ≤ k0) (h1 : k0 + 4 * n ≤ top) :
 Ev (fun k => Xo k (wm k0 n, k0)) (k0 + 4 * n) :=
 Ev.step (fun k => Qo k _ k0) (RR _ (by rw [X0]; exact hm) n 0 k0 rfl h0 h1)
theorem UZ (t : Trick) (k0 : Int) (h1 : t.1.length ≤ 1048576) (h2 : t.2.1.length ≤ 1048576) (h0 : 0 ≤ k0) (hk : k0 ≤ 1099511627776) :
 Ev (fun k => cz k (t, k0)) (k0 + t.1.length + 4 * t.2.1.length, eE k0 t.1.length, wm (k0 + t.1.length) t.2.1.length) := by
 have te := N8
 refine Ev.step (fun k => Ql k t k0) (Ev.bind (Ky t.1 k0 (by rw [zc]; omega) h0 (by omega)) ?_)
 exact Ev.bind (M4 t.2.1 (k0 + t.1.length) (by rw [zc]; omega) (by omega) (by omega)) (Ev.pure _)
theorem Lv (n m : Nat) (k0 c a b : Int) (h1 : n ≤ 1048576) (h2 : m ≤ 1048576) (h0 : 0 ≤ k0) (hk : k0 ≤ 1099511627776) :
 Ev (fun k => cB k ((eE k0 n, wm (k0 + n) m, c, a, b), k0)) (k0 + n + 4 * m) := by
 have te := N8
 refine Ev.step (fun k => Qn k _ k0) (Ev.bind (KK n k0 (by rw [zc]; omega) h0 (by omega)) (Ev.no (by simp; omega) ?_))
 exact Ev.bind (Lw m (k0 + n) (by rw [zc]; omega) (by omega) (by omega)) (Ev.no (by simp; omega) (Ev.pure _))
theorem HG (c d : Scene) (h1 : c.1.length ≤ maxLen) (h2 : d.1.length ≤ maxLen) : Ev (fun k => Sc k (c, d)) (c == d) := by
 obtain ⟨p, a⟩ := c
 obtain ⟨q, b⟩ := d
 refine Ev.step (fun k => N7 k _ _) (Ev.bind (RV _ _ h1 h2) (Ev.ite (fun h => Ev.some ?_) (fun h => Ev.ite (fun h' => Ev.some ?_) (fun h' => Ev.some ?_)))) <;> simp_all
end Qq
namespace Qq
open Go Go.Vt Pt
set_option linter.unusedVariables false
set_option linter.unusedSimpArgs false
def x8 (t : Trick) : List Int × Int × Bool := if zf t then (t.1, -1, true) else ([], 0, false)
theorem Vw (t : Trick) (a1 : t.1.length ≤ maxLen) (ai : Ins t.1) (a2 : t.2.1.length ≤ maxLen) : Ev (fun k => ft k t) (x8 t) := by
 refine Ev.step (fun k => RJ k t) (Ev.bind (xN t a1 ai a2) (Ev.ite (fun h => Ev.some ?_) (fun h => ?_)))
 ·have : zf t = false := by simpa using h
  simp [x8, this]
 ·have e : zf t = true := by simpa using h
  have hl := zo e
  refine Ev.bind (yX t.1 (by omega)) ?_
  have : (!t.1.isEmpty) = true := by
   cases hx : t.1 with
   | nil => rw [hx] at hl; simp at hl
   | cons => rfl
  rw [this]
  exact Ev.some (by simp [x8, e])
end Qq
namespace Qq
open Go Go.Vt Pt
set_option linter.unusedVariables false
set_option linter.unusedSimpArgs false
theorem SB (t : Trick) (a1 : t.1.length ≤ maxLen) (a2 : t.2.1.length ≤ maxLen) : Ev (fun k => Zi k t) (x8 t) := by
 refine Ev.step (fun k => SC k t) (Ev.bind (xm t a1 a2) (Ev.ite (fun h => Ev.some ?_) (fun h => ?_)))
 ·have : zf t = false := by simpa using h
  simp [x8, this]
 ·have e : zf t = true := by simpa using h
  have hl := zo e
  have : (!t.1.isEmpty) = true := by
   cases hx : t.1 with
   | nil => rw [hx] at hl; simp at hl
   | cons => rfl
  refine Ev.yes (by rw [za]; simp; omega) ?_
  rw [List.nil_append, this]
  exact Ev.some (by simp [x8, e])
end Qq
namespace Qq
open Go Go.Vt Pt
set_option linter.unusedVariables false
set_option linter.unusedSimpArgs false
set_option linter.unnecessarySimpa false
abbrev Way : Type := Scene × List Int
def addP (s : zI) (w : List Int) : Nat → List Scene → List Way → List Way
 | _, [], acc => acc
 | j, x :: r, acc => if x ∈ acc.map Prod.fst then addP s w (j + 1) r acc else addP s w (j + 1) r (acc ++ [(x, if s.1 = 2 then w ++ [(j : Int)] else w)])
def goP (s : zI) : List Way → List Way → List Way
 | [], acc => acc
 | c :: r, acc => goP s r (addP s c.2 0 (zn c.1 s) acc)
def jQ : List zI → List Way → Option (List Way)
 | [], l => some l
 | s :: r, l => if (goP s l []).length ≤ 3000 then jQ r (goP s l []) else none
theorem T2 (s : zI) (w : List Int) : ∀ (r : List Scene) (j : Nat) (acc : List Way), acc.length ≤ (addP s w j r acc).length
 | [], _, _ => Nat.le_refl _
 | x :: r, j, acc => by
   unfold addP
   split
   ·exact T2 s w r (j + 1) acc
   ·exact Nat.le_trans (by simp) (T2 s w r (j + 1) _)
theorem GY (s : zI) : ∀ (l acc : List Way), acc.length ≤ (goP s l acc).length
 | [], _ => Nat.le_refl _
 | c :: r, acc => Nat.le_trans (T2 s c.2 _ 0 acc) (GY s r _)
def af (n : Nat) (l : List Way) : Prop := ∀ c ∈ l, SceneOk n c.1
theorem K1 {n : Nat} (s : zI) (w : List Int) : ∀ (r : List Scene) (j : Nat) (acc : List Way), (∀ x ∈ r, SceneOk n x) → af n acc → af n (addP s w j r acc)
 | [], _, _, _, h => h
 | x :: r, j, acc, hr, h => by
   unfold addP
   split
   ·exact K1 s w r (j + 1) acc (fun y hy => hr y (by simp [hy])) h
   ·refine K1 s w r (j + 1) _ (fun y hy => hr y (by simp [hy])) (fun c hc => ?_)
    rcases List.mem_append.1 hc with hc | hc
    ·exact h c hc
    ·have : c = (x, if s.1 = 2 then w ++ [(j : Int)] else w) := by simpa using hc
     rw [this]; exact hr x (by simp)
theorem Jz {n : Nat} {s : zI} (hs : zP (n : Int) s = true) : ∀ (l acc : List Way), af n l → af n acc → af n (goP s l acc)
 | [], _, _, h => h
 | c :: r, acc, hl, h => Jz hs r _ (fun d hd => hl d (by simp [hd])) (K1 s c.2 _ 0 acc (gv (hl c (by simp)) hs) h)
def XO (m : Nat) (l : List Way) : Prop := ∀ c ∈ l, c.2.length ≤ m
theorem NU {m : Nat} (s : zI) (w : List Int) (hw : w.length ≤ m) : ∀ (r : List Scene) (j : Nat) (acc : List Way), XO (m + 1) acc → XO (m + 1) (addP s w j r acc)
 | [], _, _, h => h
 | x :: r, j, acc, h => by
   unfold addP
   split
   ·exact NU s w hw r (j + 1) acc h
   ·refine NU s w hw r (j + 1) _ (fun c hc => ?_)
    rcases List.mem_append.1 hc with hc | hc
    ·exact h c hc
    ·have : c = (x, if s.1 = 2 then w ++ [(j : Int)] else w) := by simpa using hc
     rw [this]
     dsimp only
     split
     ·simp; omega
     ·omega
theorem GW {m : Nat} {s : zI} : ∀ (l acc : List Way), XO m l → XO (m + 1) acc → XO (m + 1) (goP s l acc)
 | [], _, _, h => h
 | c :: r, acc, hl, h => GW r _ (fun d hd => hl d (by simp [hd])) (NU s c.2 (hl c (by simp)) _ 0 acc h)
def outP : Option (List Way) → List Scene × List (List Int) × Bool
 | some l => (l.map Prod.fst, l.map Prod.snd, true) | none => ([], [], false)
def resP (r : List zI) (A : List Way) : List Scene × List (List Int) × Bool := if A.length ≤ 3000 then outP (jQ r A) else outP none
theorem ff (p q : List Int) (hp : p.length ≤ maxLen) (e : q.length = p.length) : ∀ (r r' : List Int) (i : Nat), p.drop i = r → q.drop i = r' → Ev (fun k => wo k q p (p.length : Int) (i : Int)) (decide (r = r'))
 | [], r', i, h, h' => by
   have a := zz h
   have : r' = [] := by rw [← h', List.drop_eq_nil_iff]; have := a.ge; omega
   refine Ev.step (fun k => wh k _ _ _ _) ?_
   simp only [a.g, cond_false]
   exact Ev.some (by simp [this])
 | x :: r, [], i, h, h' => by
   have a := zi h hp
   have := a.lt
   rw [List.drop_eq_nil_iff] at h'
   omega
 | x :: r, y :: r', i, h, h' => by
   have a := zi h hp
   have b := zi h' (by rw [e]; exact hp)
   have hlt := a.lt
   refine Ev.step (fun k => wh k _ _ _ _) ?_
   simp only [a.g, a.z, a.get, a.w, b.g, b.get, cond_true]
   refine Ev.ite (fun h1 => Ev.some ?_) (fun h1 => ?_)
   ·have : ¬ x = y := by simpa using h1
    simp [this]
   ·have : x = y := by simpa using h1
    subst this
    refine (ff p q hp e r r' (i + 1) a.next b.next).to ?_
    simp
theorem bN (p q : List Int) (hp : p.length ≤ maxLen) : Ev (fun k => zV k (p, q)) (decide (p = q)) := by
 refine Ev.step (fun k => Zj k p q) (Ev.ite (fun h => Ev.some ?_) (fun h => ?_))
 ·have : ¬ (p.length : Int) = q.length := by simpa using h
  have : ¬ p = q := fun e => this (by rw [e])
  simp [this]
 ·have : (p.length : Int) = q.length := by simpa using h
  exact ff p q hp (by omega) p q 0 rfl rfl
theorem gb (c d : Scene) (hc : c.1.length ≤ maxLen) : Ev (fun k => gc k (c, d)) (decide (c = d)) := by
 obtain ⟨p, n⟩ := c
 obtain ⟨q, m⟩ := d
 refine Ev.step (fun k => Qv k (p, n) (q, m)) (Ev.bind (bN p q hc) (Ev.ite (fun h => Ev.some ?_) (fun h => Ev.some ?_)))
 ·have : p = q := by simpa using h
  subst this
  rw [Bool.eq_iff_iff]; simp
 ·have : ¬ p = q := by simpa using h
  simp [this]
theorem az (l : List Scene) (x : Scene) (hl : l.length ≤ 16384) (hx : x.1.length ≤ 12) : ∀ (r : List Scene) (i : Nat), l.drop i = r → ∃ y, Ev (fun k => gZ k l (l.length : Int) (i : Int) x.1 x.2) y ∧ decide (y ≥ 0) = decide (x ∈ r)
 | [], i, h => by
   have a := zz h
   refine ⟨-1, Ev.step (fun k => jY k _ _ _ _ _) ?_, by simp⟩
   simp only [a.g, cond_false]
   exact Ev.pure _
 | c :: r, i, h => by
   have a := zi h (by rw [zc]; omega)
   obtain ⟨y, h1, h2⟩ := az l x hl hx r (i + 1) a.next
   have hs := gb x c (by rw [zc]; omega)
   by_cases e : x = c
   ·refine ⟨(i : Int), Ev.step (fun k => jY k _ _ _ _ _) ?_, by simp [e]⟩
    simp only [a.g, a.z, a.get, a.w, cond_true]
    exact Ev.bind hs (Ev.yes (by simp [e]) (Ev.pure _))
   ·refine ⟨y, Ev.step (fun k => jY k _ _ _ _ _) ?_, by rw [h2]; simp [e]⟩
    simp only [a.g, a.z, a.get, a.w, cond_true]
    exact Ev.bind hs (Ev.no (by simp [e]) h1)
theorem Mk (l : List Scene) (x : Scene) (hl : l.length ≤ 16384) (hx : x.1.length ≤ 12) : ∃ y, Ev (fun k => Ss k (l, x)) y ∧ decide (y ≥ 0) = decide (x ∈ l) := by
 obtain ⟨y, h1, h2⟩ := az l x hl hx l 0 rfl
 exact ⟨y, Ev.step (fun k => Ml k l x) h1, h2⟩
theorem bH {n m : Nat} (hn : n ≤ 12) (hm : m ≤ 12) (steps : List zI) (l : List Way) (hl : l.length ≤ 3000) (s : zI) (si : Nat) (ci : Nat) (c : Way) (hci : ci < l.length) (hc : l[ci] = c) (hcm : c.2.length ≤ m) (rs : List zI) (rc : List Way) (nx : List Scene) (hnx : nx.length ≤ 4096)
 (K : ∀ acc : List Way, acc.length ≤ 3000 → af n acc → XO (m + 1) acc → Ev (fun k => uS k steps (steps.length : Int) (si : Int) (l.length : Int) ((ci + 1 : Nat) : Int) (l.map Prod.snd) s.1 s.2.1.1 s.2.1.2 s.2.2 (acc.map Prod.fst) (acc.map Prod.snd) (l.map Prod.fst)) (resP rs (goP s rc acc))) :
 ∀ (xs : List Scene) (j : Nat) (acc : List Way), nx.drop j = xs → (∀ x ∈ xs, SceneOk n x) → acc.length ≤ 3000 → af n acc → XO (m + 1) acc →
   Ev (fun k => wD k (ci : Int) steps (steps.length : Int) (si : Int) (l.length : Int) (ci : Int) (nx.length : Int) (j : Int) (l.map Prod.snd) s.1 s.2.1.1 s.2.1.2 s.2.2 (acc.map Prod.fst) (acc.map Prod.snd) (l.map Prod.fst) nx) (resP rs (goP s rc (addP s c.2 j xs acc)))
 | [], j, acc, h, hx, ha, hk, hw => by
   have a := zz h
   have ew : IntKind.i64.wrap ((ci : Int) + 1) = ((ci + 1 : Nat) : Int) := by rw [zg (by omega) (by omega)]; omega
   refine Ev.step (fun k => bI k _ _ _ _ _ _ _ _ _ _ _ _ _ _ _ _ _) ?_
   simp only [a.g, cond_false, ew]
   exact K acc ha hk hw
 | x :: xs, j, acc, h, hx, ha, hk, hw => by
   have a := zi h (by rw [zc]; omega)
   have hxo := hx x (by simp)
   have hx12 : x.1.length ≤ 12 := by rw [hxo.len]; exact hn
   have ih := fun acc ha hk hw => bH hn hm steps l hl s si ci c hci hc hcm rs rc nx hnx K xs (j + 1) acc a.next (fun y hy => hx y (by simp [hy])) ha hk hw
   obtain ⟨y, y1, y2⟩ := Mk (acc.map Prod.fst) x (by rw [List.length_map]; omega) hx12
   refine Ev.step (fun k => bI k _ _ _ _ _ _ _ _ _ _ _ _ _ _ _ _ _) ?_
   simp only [a.g, a.z, a.n, a.get, a.w, cond_true]
   unfold addP
   refine Ev.bind y1 (Ev.ite (fun h1 => ?_) (fun h1 => ?_))
   ·rw [y2, decide_eq_true_eq] at h1
    rw [if_pos h1]
    exact ih acc ha hk hw
   ·rw [y2, decide_eq_false_iff_not] at h1
    rw [if_neg h1]
    have hg : (l.map Prod.snd).getD (ci : Int).toNat [] = c.2 := by
     rw [Int.toNat_natCast, List.getD, List.getElem?_map, List.getElem?_eq_getElem hci, hc]; rfl
    have hxx : (x, if s.1 = 2 then c.2 ++ [(j : Int)] else c.2) ∈ [(x, if s.1 = 2 then c.2 ++ [(j : Int)] else c.2)] := by simp
    have hk2 : af n (acc ++ [(x, if s.1 = 2 then c.2 ++ [(j : Int)] else c.2)]) := fun d hd => by
     rcases List.mem_append.1 hd with hd | hd
     ·exact hk d hd
     ·have : d = (x, if s.1 = 2 then c.2 ++ [(j : Int)] else c.2) := by simpa using hd
      rw [this]; exact hxo
    have hw2 : XO (m + 1) (acc ++ [(x, if s.1 = 2 then c.2 ++ [(j : Int)] else c.2)]) := fun d hd => by
     rcases List.mem_append.1 hd with hd | hd
     ·exact hw d hd
     ·have : d = (x, if s.1 = 2 then c.2 ++ [(j : Int)] else c.2) := by simpa using hd
      rw [this]
      dsimp only
      split
      ·simp; omega
      ·omega
    have big : 3000 < (acc ++ [(x, if s.1 = 2 then c.2 ++ [(j : Int)] else c.2)]).length → resP rs (goP s rc (addP s c.2 (j + 1) xs (acc ++ [(x, if s.1 = 2 then c.2 ++ [(j : Int)] else c.2)]))) = ([], [], false) := fun hb => by
     unfold resP
     rw [if_neg]
     ·rfl
     ·have := T2 s c.2 xs (j + 1) (acc ++ [(x, if s.1 = 2 then c.2 ++ [(j : Int)] else c.2)])
      have := GY s rc (addP s c.2 (j + 1) xs (acc ++ [(x, if s.1 = 2 then c.2 ++ [(j : Int)] else c.2)]))
      omega
    have te := zc
    simp only [hg, List.nil_append]
    refine Ev.yes (by rw [za]; simp; omega) (Ev.yes (by simp) (Ev.yes (by simp; omega) (Ev.yes (by simp; omega) (Ev.yes (by rw [za]; simp; omega) (Ev.ite (fun h2 => ?_) (fun h2 => ?_))))))
    ·have e2 : s.1 = 2 := by simpa using h2
     simp only [if_pos e2] at hk2 hw2 big ⊢
     refine Ev.yes (by rw [za]; simp; omega) (Ev.yes (by rw [za]; simp; omega) (Ev.ite (fun h3 => Ev.some ?_) (fun h3 => ?_)))
     ·exact (big (by simp at h3 ⊢; omega)).symm
     ·have := ih (acc ++ [(x, c.2 ++ [(j : Int)])]) (by simp at h3 ⊢; omega) hk2 hw2
      simpa using this
    ·have e2 : ¬ s.1 = 2 := by simpa using h2
     simp only [if_neg e2] at hk2 hw2 big ⊢
     refine Ev.yes (by rw [za]; simp; omega) (Ev.ite (fun h3 => Ev.some ?_) (fun h3 => ?_))
     ·exact (big (by simp at h3 ⊢; omega)).symm
     ·have := ih (acc ++ [(x, c.2)]) (by simp at h3 ⊢; omega) hk2 hw2
      simpa using this
end Qq
namespace Qq
open Go Go.Vt Pt
set_option linter.unusedVariables false
set_option linter.unusedSimpArgs false
set_option linter.unnecessarySimpa false
def canF (bad : Scene → Bool) : List zI → Scene → Bool
 | [], c => bad c
 | s :: r, c => (zn c s).any (canF bad r)
def PV (F : Scene → Bool) (s : zI) (w : Way) : Way :=
 let k := (zn w.1 s).findIdx F
 ((zn w.1 s).getD k ([], 0), if s.1 = 2 then w.2 ++ [(k : Int)] else w.2)
def firstW (bad : Scene → Bool) : List zI → Way → Way
 | [], w => w
 | s :: r, w => firstW bad r (PV (canF bad r) s w)
theorem T1 (s : zI) (w : List Int) : ∀ (r : List Scene) (j : Nat) (acc : List Way), ∃ m, addP s w j r acc = acc ++ m
 | [], _, acc => ⟨[], by simp [addP]⟩
 | x :: r, j, acc => by
   unfold addP
   split
   ·exact T1 s w r (j + 1) acc
   ·obtain ⟨m, hm⟩ := T1 s w r (j + 1) (acc ++ [(x, if s.1 = 2 then w ++ [(j : Int)] else w)])
    exact ⟨_, by rw [hm, List.append_assoc]⟩
theorem GX (s : zI) : ∀ (l acc : List Way), ∃ m, goP s l acc = acc ++ m
 | [], acc => ⟨[], by simp [goP]⟩
 | c :: r, acc => by
   unfold goP
   obtain ⟨m1, h1⟩ := T1 s c.2 (zn c.1 s) 0 acc
   obtain ⟨m2, h2⟩ := GX s r (addP s c.2 0 (zn c.1 s) acc)
   exact ⟨m1 ++ m2, by rw [h2, h1, List.append_assoc]⟩
theorem JC {α : Type} {p : α → Bool} {acc m : List α} {y : α} (h : acc.find? p = some y) : (acc ++ m).find? p = some y := by rw [List.find?_append, h]; rfl
theorem G3 {α : Type} {p : α → Bool} {acc : List α} (h : ∀ a ∈ acc, p a = false) : acc.find? p = none := by
 rw [List.find?_eq_none]
 intro a ha
 rw [h a ha]; simp
theorem L0 (F : Scene → Bool) (s : zI) (w : List Int) : ∀ (xs : List Scene) (j : Nat) (acc : List Way), (∀ a ∈ acc, F a.1 = false) →
 (xs.any F = true → (addP s w j xs acc).find? (fun a => F a.1) = some (xs.getD (xs.findIdx F) ([], 0), if s.1 = 2 then w ++ [((j + xs.findIdx F : Nat) : Int)] else w)) ∧
 (xs.any F = false → ∀ a ∈ addP s w j xs acc, F a.1 = false)
 | [], j, acc, h => ⟨fun e => (by simp at e), fun _ => h⟩
 | x :: r, j, acc, h => by
   have jump : ∀ acc' : List Way, (∀ a ∈ acc', F a.1 = false) → F x = false → addP s w j (x :: r) acc = addP s w (j + 1) r acc' →
    ((x :: r).any F = true → (addP s w j (x :: r) acc).find? (fun a => F a.1) = some ((x :: r).getD ((x :: r).findIdx F) ([], 0), if s.1 = 2 then w ++ [((j + (x :: r).findIdx F : Nat) : Int)] else w)) ∧
    ((x :: r).any F = false → ∀ a ∈ addP s w j (x :: r) acc, F a.1 = false) := fun acc' ha hx e => by
    obtain ⟨i1, i2⟩ := L0 F s w r (j + 1) acc' ha
    have ei : (x :: r).findIdx F = r.findIdx F + 1 := by rw [List.findIdx_cons, hx]; rfl
    rw [List.any_cons, hx, Bool.false_or, e, ei]
    refine ⟨fun q => ?_, i2⟩
    rw [i1 q]
    have e1 : j + 1 + r.findIdx F = j + (r.findIdx F + 1) := by omega
    rw [e1]
    rfl
   by_cases hm : x ∈ acc.map Prod.fst
   ·obtain ⟨a, ha, rfl⟩ := List.mem_map.1 hm
    exact jump acc h (h a ha) (by rw [addP, if_pos hm])
   ·have e : addP s w j (x :: r) acc = addP s w (j + 1) r (acc ++ [(x, if s.1 = 2 then w ++ [(j : Int)] else w)]) := by rw [addP, if_neg hm]
    cases hx : F x with
    | false =>
      refine jump _ (fun a ha => ?_) hx e
      rcases List.mem_append.1 ha with ha | ha
      ·exact h a ha
      ·have : a = (x, if s.1 = 2 then w ++ [(j : Int)] else w) := by simpa using ha
       rw [this]; exact hx
    | true =>
      refine ⟨fun _ => ?_, fun q => (by rw [List.any_cons, hx] at q; cases q)⟩
      obtain ⟨m, hm2⟩ := T1 s w r (j + 1) (acc ++ [(x, if s.1 = 2 then w ++ [(j : Int)] else w)])
      have ei : (x :: r).findIdx F = 0 := by rw [List.findIdx_cons, hx]; rfl
      rw [e, hm2, ei]
      refine JC ?_
      rw [List.find?_append, G3 h]
      simp [hx]
theorem JA (F : Scene → Bool) (s : zI) : ∀ (l acc : List Way), (∀ a ∈ acc, F a.1 = false) →
 (goP s l acc).find? (fun a => F a.1) = (l.find? (fun c => (zn c.1 s).any F)).map (PV F s)
 | [], acc, h => by
   show acc.find? _ = none
   exact G3 h
 | c :: r, acc, h => by
   obtain ⟨i1, i2⟩ := L0 F s c.2 (zn c.1 s) 0 acc h
   unfold goP
   rw [List.find?_cons]
   cases hc : (zn c.1 s).any F with
   | true =>
     obtain ⟨m, hm⟩ := GX s r (addP s c.2 0 (zn c.1 s) acc)
     rw [hm, JC (i1 hc)]
     unfold PV
     simp
   | false => exact JA F s r _ (i2 hc)
theorem LF (bad : Scene → Bool) : ∀ (r : List zI) (l A : List Way), jQ r l = some A → A.find? (fun w => bad w.1) = (l.find? (fun w => canF bad r w.1)).map (firstW bad r)
 | [], l, A, h => by
   cases h
   show _ = (l.find? (fun w => bad w.1)).map (fun w => w)
   simp
 | s :: r, l, A, h => by
   unfold jQ at h
   split at h
   ·rw [LF bad r _ A h, JA (canF bad r) s l [] (fun a ha => by cases ha)]
    rw [Option.map_map]
    rfl
   ·cases h
end Qq
namespace Qq
open Go Go.Vt Pt
set_option linter.unusedVariables false
set_option linter.unusedSimpArgs false
set_option linter.unnecessarySimpa false
theorem aB {n m : Nat} (hn : n ≤ 12) (hm : m ≤ 12) (steps : List zI) (l : List Way) (hl : l.length ≤ 3000) (hok : af n l) (hway : XO m l) (s : zI) (hs : zP (n : Int) s = true) (si : Nat) (hsi : si < steps.length) (h12 : steps.length ≤ 12) (rs : List zI)
 (K : ∀ acc : List Way, acc.length ≤ 3000 → af n acc → XO (m + 1) acc → Ev (fun k => uT k steps (steps.length : Int) ((si + 1 : Nat) : Int) (acc.map Prod.fst) (acc.map Prod.snd)) (outP (jQ rs acc))) :
 ∀ (rc : List Way) (ci : Nat) (acc : List Way), l.drop ci = rc → acc.length ≤ 3000 → af n acc → XO (m + 1) acc →
   Ev (fun k => uS k steps (steps.length : Int) (si : Int) (l.length : Int) (ci : Int) (l.map Prod.snd) s.1 s.2.1.1 s.2.1.2 s.2.2 (acc.map Prod.fst) (acc.map Prod.snd) (l.map Prod.fst)) (resP rs (goP s rc acc))
 | [], ci, acc, h, ha, hk, hw => by
   have a := zz h
   have ew : IntKind.i64.wrap ((si : Int) + 1) = ((si + 1 : Nat) : Int) := by rw [zg (by omega) (by omega)]; omega
   refine Ev.step (fun k => aC k _ _ _ _ _ _ _ _ _ _ _ _ _) ?_
   simp only [a.g, cond_false, ew]
   unfold goP resP
   rw [if_pos ha]
   exact K acc ha hk hw
 | c :: rc, ci, acc, h, ha, hk, hw => by
   have a := zi h (by rw [zc]; omega)
   have hlt := a.lt
   have hg : l[ci] = c := by have := a.gt ((([], 0), []) : Way); simpa [List.getD, hlt] using this
   have hco := hok c a.mem
   have hgs : (l.map Prod.fst).getD (ci : Int).toNat ([], 0) = c.1 := by
    rw [Int.toNat_natCast, List.getD, List.getElem?_map, List.getElem?_eq_getElem hlt, hg]; rfl
   have e1 : decide ((ci : Int) < ((l.map Prod.fst).length : Int)) = true := decide_eq_true (by rw [List.length_map]; omega)
   have e2 : decide ((ci : Int).toNat < (l.map Prod.fst).length) = true := decide_eq_true (by rw [List.length_map]; omega)
   refine Ev.step (fun k => aC k _ _ _ _ _ _ _ _ _ _ _ _ _) ?_
   simp only [a.g, a.z, e1, e2, hgs, cond_true]
   refine Ev.bind (UK hco hs) ?_
   unfold goP
   exact bH hn hm steps l hl s si ci c hlt hg (hway c a.mem) rs rc (zn c.1 s) (fo hco hs).2
    (fun acc ha hk hw => aB hn hm steps l hl hok hway s hs si hsi h12 rs K rc (ci + 1) acc a.next ha hk hw)
    (zn c.1 s) 0 acc rfl (gv hco hs) ha hk hw
theorem wL (s : zI) (r : List zI) (l : List Way) : jQ (s :: r) l = if (goP s l []).length ≤ 3000 then jQ r (goP s l []) else none := rfl
theorem aD {n : Nat} (hn : n ≤ 12) (steps : List zI) (h12 : steps.length ≤ 12) : ∀ (rs : List zI) (si : Nat) (l : List Way), steps.drop si = rs → (∀ s ∈ rs, zP (n : Int) s = true) → l.length ≤ 3000 → af n l → XO si l →
 Ev (fun k => uT k steps (steps.length : Int) (si : Int) (l.map Prod.fst) (l.map Prod.snd)) (outP (jQ rs l))
 | [], si, l, h, hs, hl, hok, hw => by
   have a := zz h
   refine Ev.step (fun k => aF k _ _ _ _ _) ?_
   simp only [a.g, cond_false]
   exact Ev.some rfl
 | s :: rs, si, l, h, hs, hl, hok, hw => by
   have a := zi h (by rw [zc]; omega)
   have hlt := a.lt
   have hso := hs s (by simp)
   refine Ev.step (fun k => aF k _ _ _ _ _) ?_
   simp only [a.g, a.z, a.get, cond_true]
   have := aB hn (by omega) steps l hl hok hw s hso si hlt h12 rs (fun acc ha hk hw => aD hn steps h12 rs (si + 1) acc a.next (fun q hq => hs q (by simp [hq])) ha hk hw)
    l 0 [] rfl (by simp) (fun c hc => by cases hc) (fun c hc => by cases hc)
   rw [List.length_map]
   refine this.to ?_
   rw [wL]
   unfold resP
   split
   ·rfl
   ·rfl
def zZ (t : Trick) : List Way := [((t.1, -1), [])]
theorem yF {t : Trick} (h : zf t = true) : SceneOk t.1.length (t.1, -1) ∧ (∀ s ∈ t.2.1, zP (t.1.length : Int) s = true) := by
 refine ⟨⟨(zo h).2.2.2, rfl, by show (-1 : Int) ≤ -1; decide, by show (-1 : Int) < 12; decide⟩, ?_⟩
 unfold zf at h
 simp only [Bool.and_eq_true] at h
 exact fun s hs => List.all_eq_true.1 h.2.2.2.1 s hs
theorem vw {t : Trick} (h : zf t = true) : af t.1.length (zZ t) := by
 intro c hc
 have e : c = ((t.1, -1), []) := by simpa [zZ] using hc
 rw [e]
 exact (yF h).1
theorem Q1 (t : Trick) : XO 0 (zZ t) := by
 intro c hc
 have e : c = ((t.1, -1), []) := by simpa [zZ] using hc
 rw [e]
 simp
theorem UI (t : Trick) (h : zf t = true) : Ev (fun k => X9 k t) (outP (jQ t.2.1 (zZ t))) := by
 obtain ⟨h1, h2, h3, h4⟩ := zo h
 have hs := yF h
 refine Ev.step (fun k => Mm k t) (Ev.yes (by rw [za]; simp; omega) ?_)
 rw [List.nil_append]
 exact aD h3 t.2.1 h1 t.2.1 0 (zZ t) rfl hs.2 (by simp [zZ]) (vw h) (Q1 t)
def addU : List Scene → List Scene → List Scene
 | [], acc => acc | x :: r, acc => if x ∈ acc then addU r acc else addU r (acc ++ [x])
def goU (s : zI) : List Scene → List Scene → List Scene
 | [], acc => acc | c :: r, acc => goU s r (addU (zn c s) acc)
theorem NT : ∀ (r acc : List Scene), acc.length ≤ (addU r acc).length ∧ (addU r acc).length ≤ acc.length + r.length
 | [], _ => ⟨Nat.le_refl _, Nat.le_refl _⟩
 | x :: r, acc => by
   unfold addU
   split
   ·have := NT r acc; simp only [List.length_cons]; omega
   ·have := NT r (acc ++ [x]); simp only [List.length_cons, List.length_append, List.length_nil] at this ⊢; omega
theorem GV (s : zI) : ∀ (l acc : List Scene), acc.length ≤ (goU s l acc).length
 | [], _ => Nat.le_refl _
 | c :: r, acc => Nat.le_trans (NT _ acc).1 (GV s r _)
theorem NV (s : zI) (w : List Int) : ∀ (r : List Scene) (j : Nat) (acc : List Way), (addP s w j r acc).map Prod.fst = addU r (acc.map Prod.fst)
 | [], _, _ => rfl
 | x :: r, j, acc => by
   unfold addP addU
   by_cases h : x ∈ acc.map Prod.fst
   ·rw [if_pos h, if_pos h, NV]
   ·rw [if_neg h, if_neg h, NV, List.map_append]; rfl
theorem KN (s : zI) : ∀ (l acc : List Way), (goP s l acc).map Prod.fst = goU s (l.map Prod.fst) (acc.map Prod.fst)
 | [], _ => rfl
 | c :: r, acc => by unfold goP goU; rw [KN, NV]; rfl
def SAll (n : Nat) (l : List Scene) : Prop := ∀ c ∈ l, SceneOk n c
theorem Md {t : Trick} (h : zf t = true) : SAll t.1.length [(t.1, -1)] := by
 intro c hc
 have e : c = (t.1, -1) := by simpa using hc
 rw [e]
 exact (yF h).1
def levU : List zI → List Scene → Option (List (List Scene))
 | [], l => some [l]
 | s :: r, l => if (goU s l []).length ≤ 3000 then (levU r (goU s l [])).map (l :: ·) else none
theorem Rm (s : zI) (r : List zI) (l : List Scene) : levU (s :: r) l = if (goU s l []).length ≤ 3000 then (levU r (goU s l [])).map (l :: ·) else none := rfl
def outU (pre : List (List Scene)) : Option (List (List Scene)) → List (List Scene) × Bool
 | some l => (pre ++ l, true) | none => ([], false)
def resU (pre : List (List Scene)) (r : List zI) (A : List Scene) : List (List Scene) × Bool := if A.length ≤ 3000 then outU pre (levU r A) else outU pre none
theorem Pl {n : Nat} (h1 : 1 ≤ n) {c : Scene} (hc : SceneOk n c) : c.1 ≠ [] := fun e => by have := hc.len; rw [e] at this; simp at this; omega
theorem Nm : ∀ (r : List zI) (l : List Way), (levU r (l.map Prod.fst)).map (fun L => L.getLastD []) = (jQ r l).map (fun A => A.map Prod.fst) ∧ (∀ L, levU r (l.map Prod.fst) = some L → L.length = r.length + 1)
 | [], l => ⟨rfl, fun L h => by cases h; rfl⟩
 | s :: r, l => by
   have e : goU s (l.map Prod.fst) [] = (goP s l []).map Prod.fst := by rw [KN]; rfl
   have hlen : (goU s (l.map Prod.fst) []).length = (goP s l []).length := by rw [e, List.length_map]
   obtain ⟨h1, h2⟩ := Nm r (goP s l [])
   rw [Rm, wL, hlen, e]
   by_cases hc : (goP s l []).length ≤ 3000
   ·rw [if_pos hc, if_pos hc]
    constructor
    ·rw [← h1]
     cases hL : levU r ((goP s l []).map Prod.fst) with
     | none => rfl
     | some L =>
       have := h2 L hL
       cases L with
       | nil => simp at this
       | cons a L => simp [List.getLastD]
    ·intro L hL
     obtain ⟨L', hL', rfl⟩ := Option.map_eq_some_iff.1 hL
     rw [List.length_cons, h2 L' hL', List.length_cons]
   ·rw [if_neg hc, if_neg hc]
    exact ⟨rfl, fun L hL => by cases hL⟩
def wl (t : Trick) : Option (List Way) := jQ t.2.1 (zZ t)
def zA (t : Trick) : List Scene × Bool :=
 if zf t then (match wl t with | some A => (A.map Prod.fst, true) | none => ([], false)) else ([], false)
theorem YT (t : Trick) (a1 : t.1.length ≤ maxLen) (a2 : t.2.1.length ≤ maxLen) : Ev (fun k => cZ k t) (zA t) := by
 refine Ev.step (fun k => QA k t) (Ev.bind (xm t a1 a2) (Ev.ite (fun h => Ev.some ?_) (fun h => ?_)))
 ·have : zf t = false := by simpa using h
  simp [zA, this]
 ·have e : zf t = true := by simpa using h
  refine Ev.bind (UI t e) (Ev.some ?_)
  unfold zA wl
  rw [if_pos e]
  cases jQ t.2.1 (zZ t) with
  | none => rfl
  | some A => rfl
theorem gM : ∀ (r : List zI) (l : List Way) (A : List Way), l.length ≤ 3000 → jQ r l = some A → A.length ≤ 3000
 | [], l, A, hl, h => by cases h; exact hl
 | s :: r, l, A, hl, h => by
   rw [wL] at h
   split at h
   ·rename_i hc; exact gM r _ A hc h
   ·cases h
theorem bA {n : Nat} : ∀ (r : List zI) (l : List Way) (A : List Way), (∀ s ∈ r, zP (n : Int) s = true) → af n l → jQ r l = some A → af n A
 | [], l, A, _, hl, h => by cases h; exact hl
 | s :: r, l, A, hs, hl, h => by
   rw [wL] at h
   split at h
   ·exact bA r _ A (fun q hq => hs q (by simp [hq])) (Jz (hs s (by simp)) l [] hl (fun c hc => by cases hc)) h
   ·cases h
theorem Vo (t : Trick) : (zA t).1.length ≤ 3000 ∧ SAll t.1.length (zA t).1 := by
 unfold zA
 split
 ·rename_i h
  cases hE : wl t with
  | none => exact ⟨Nat.zero_le _, fun c hc => by cases hc⟩
  | some A =>
    obtain ⟨h1, h2, h3, h4⟩ := zo h
    have hs := yF h
    refine ⟨by show (A.map Prod.fst).length ≤ _; rw [List.length_map]; exact gM _ _ A (by simp [zZ]) hE, fun c hc => ?_⟩
    obtain ⟨d, hd, rfl⟩ := List.mem_map.1 (show c ∈ A.map Prod.fst from hc)
    exact bA t.2.1 (zZ t) A hs.2 (vw h) hE d hd
 ·exact ⟨Nat.zero_le _, fun c hc => by cases hc⟩
end Qq
namespace Qq
open Go Go.Vt Pt
set_option linter.unusedVariables false
set_option linter.unusedSimpArgs false
set_option linter.unnecessarySimpa false
theorem Gz {n : Nat} {p0 : List Int} {c : Scene} {s : zI} (hc : SceneOk n c) (hp : Pm c.1 p0) (hs : zP (n : Int) s = true) : ∀ d ∈ zn c s, Pm d.1 p0 := by
 obtain ⟨h1, h2, hk⟩ := vd hs
 intro d hd
 unfold zn at hd
 rcases hk with ⟨e, m⟩ | ⟨e, c0, c4, c3, c2⟩ | ⟨e, a0, an⟩
 ·rw [if_pos e] at hd
  have hd : d = (cb c.1 s.2.1, c.2) := by simpa using hd
  subst hd
  exact (LO (by rw [hc.len]; exact m)).trans hp
 ·rw [if_neg (by omega), if_neg (by omega)] at hd
  obtain ⟨q, hq, rfl⟩ := List.mem_map.1 hd
  exact (JJ q ((vC _ q).1 hq)).trans hp
 ·rw [if_neg (by omega), if_pos e] at hd
  have hd : d = (c.1, card (c.1.getD s.2.2.toNat 0)) := by simpa using hd
  subst hd
  exact hp
theorem NW {Q : Scene → Prop} (s : zI) (w : List Int) : ∀ (r : List Scene) (j : Nat) (acc : List Way), (∀ x ∈ r, Q x) → (∀ c ∈ acc, Q c.1) → ∀ c ∈ addP s w j r acc, Q c.1
 | [], _, _, _, h => h
 | x :: r, j, acc, hr, h => by
   unfold addP
   split
   ·exact NW s w r (j + 1) acc (fun y hy => hr y (by simp [hy])) h
   ·refine NW s w r (j + 1) _ (fun y hy => hr y (by simp [hy])) (fun c hc => ?_)
    rcases List.mem_append.1 hc with hc | hc
    ·exact h c hc
    ·have : c = (x, if s.1 = 2 then w ++ [(j : Int)] else w) := by simpa using hc
     rw [this]; exact hr x (by simp)
theorem GZ {Q : Scene → Prop} {s : zI} (hQ : ∀ c, Q c → ∀ d ∈ zn c s, Q d) : ∀ (l acc : List Way), (∀ c ∈ l, Q c.1) → (∀ c ∈ acc, Q c.1) → ∀ c ∈ goP s l acc, Q c.1
 | [], _, _, h => h
 | c :: r, acc, hl, h => GZ hQ r _ (fun d hd => hl d (by simp [hd])) (NW s c.2 _ 0 acc (hQ c.1 (hl c (by simp))) h)
theorem LJ {Q : Scene → Prop} : ∀ (r : List zI) (l : List Way) (A : List Way), (∀ s ∈ r, ∀ c, Q c → ∀ d ∈ zn c s, Q d) → (∀ c ∈ l, Q c.1) → jQ r l = some A → ∀ c ∈ A, Q c.1
 | [], l, A, _, hl, h => by cases h; exact hl
 | s :: r, l, A, hs, hl, h => by
   rw [wL] at h
   split at h
   ·exact LJ r _ A (fun q hq => hs q (by simp [hq])) (GZ (hs s (by simp)) l [] hl (fun c hc => by cases hc)) h
   ·cases h
theorem Ji (c : Int) : ∀ (q : List Int) (i : Nat), c ∈ q.map card → 0 ≤ posF c i q
 | [], _, h => by simp at h
 | x :: q, i, h => by
   unfold posF
   split
   ·omega
   ·rename_i hne
    refine Ji c q (i + 1) ?_
    rw [List.map_cons, List.mem_cons] at h
    rcases h with h | h
    ·exact (hne h.symm).elim
    ·exact h
theorem Ju {p q : List Int} (h : zj p = true) (hq : Pm q p) : V2 p q = true := by
 have h2 := bd h hq
 unfold V2
 rw [h, h2.1, h2.2]
 simp only [Bool.true_and, Bool.and_eq_true, beq_self_eq_true, List.all_eq_true, decide_eq_true_eq, true_and]
 intro x hx
 have hc := ((yk h).2.1 x hx).1
 unfold pos
 rw [if_neg (by omega)]
 exact Ji _ q 0 (hq.mem_iff.2 (List.mem_map.2 ⟨x, hx, rfl⟩))
theorem Vp {t : Trick} (h : zf t = true) : ∀ c ∈ (zA t).1, V2 t.1 c.1 = true := by
 unfold zA
 rw [if_pos h]
 cases hE : wl t with
 | none => intro c hc; cases hc
 | some A =>
   intro c hc
   obtain ⟨d, hd, rfl⟩ := List.mem_map.1 (show c ∈ A.map Prod.fst from hc)
   have hs := yF h
   have := LJ (Q := fun c => SceneOk t.1.length c ∧ Pm c.1 t.1) t.2.1 (zZ t) A (fun s hss c hc d hd => ⟨gv hc.1 (hs.2 s hss) d hd, Gz hc.1 hc.2 (hs.2 s hss) d hd⟩) (fun c hc => by
    have e : c = ((t.1, -1), []) := by simpa [zZ] using hc
    rw [e]
    exact ⟨hs.1, List.Perm.refl _⟩) hE d hd
   exact Ju (zo h).2.2.2 this.2
def um (t : Trick) : Int := if (zA t).2 = true then (((zA t).1.countP (x5 t) : Nat) : Int) else -1
end Qq
namespace Qq
open Go Go.Vt Pt
set_option linter.unusedVariables false
theorem wR (xs : List Step) (hm : xs.length ≤ 12) : ∀ (r : List Step) (i : Nat) (v : Nat), xs.drop i = r → v ≤ i → Ev (fun k => xF k (v : Int) xs (xs.length : Int) (i : Int)) ((v : Int) + countK (· == 2) r)
 | [], i, v, h, hv => by
   have q := zz h
   refine Ev.step (fun k => jz k _ _ _ _) ?_
   simp only [q.g, cond_false]
   exact Ev.some (by simp [countK])
 | s :: r, i, v, h, hv => by
   have q := zi h (by rw [zc]; omega)
   have := q.lt
   refine Ev.step (fun k => jz k _ _ _ _) ?_
   simp only [q.g, q.z, q.get, q.w, cond_true]
   rw [uq]
   refine Ev.ite (fun h => ?_) (fun h => ?_)
   ·rw [zg (by omega) (by omega)]
    refine (wR xs hm r (i + 1) (v + 1) q.next (by omega)).to ?_
    rw [if_pos h]; omega
   ·refine (wR xs hm r (i + 1) v q.next (by omega)).to ?_
    rw [h]; simp
theorem wS (xs : List Step) (hm : xs.length ≤ 12) : ∀ (r : List Step) (i : Nat) (v : Nat), xs.drop i = r → v ≤ i → Ev (fun k => xK k (v : Int) xs (xs.length : Int) (i : Int)) ((v : Int) + countK (· == 2) r)
 | [], i, v, h, hv => by
   have q := zz h
   refine Ev.step (fun k => jE k _ _ _ _) ?_
   simp only [q.g, cond_false]
   exact Ev.some (by simp [countK])
 | s :: r, i, v, h, hv => by
   have q := zi h (by rw [zc]; omega)
   have := q.lt
   refine Ev.step (fun k => jE k _ _ _ _) ?_
   simp only [q.g, q.z, q.get, q.w, cond_true]
   rw [uq]
   refine Ev.ite (fun h => ?_) (fun h => ?_)
   ·rw [zg (by omega) (by omega)]
    refine (wS xs hm r (i + 1) (v + 1) q.next (by omega)).to ?_
    rw [if_pos h]; omega
   ·refine (wS xs hm r (i + 1) v q.next (by omega)).to ?_
    rw [h]; simp
def yC (t : Trick) : Int := if zf t then (countK (· == 2) t.2.1 : Int) else -1
theorem VW (t : Trick) (a1 : t.1.length ≤ maxLen) (a2 : t.2.1.length ≤ maxLen) : Ev (fun k => fL k t) (yC t) := by
 refine Ev.step (fun k => VX k t) (Ev.bind (xm t a1 a2) (Ev.ite (fun h => Ev.some ?_) (fun h => ?_)))
 ·have : zf t = false := by simpa using h
  simp [yC, this]
 ·have e : zf t = true := by simpa using h
  refine (wR t.2.1 (zo e).1 t.2.1 0 0 rfl (by omega)).to ?_
  simp [yC, e]
theorem Uf (t : Trick) (a1 : t.1.length ≤ maxLen) (ai : Ins t.1) (a2 : t.2.1.length ≤ maxLen) : Ev (fun k => fS k t) (yC t) := by
 refine Ev.step (fun k => Ug k t) (Ev.bind (xN t a1 ai a2) (Ev.ite (fun h => Ev.some ?_) (fun h => ?_)))
 ·have : zf t = false := by simpa using h
  simp [yC, this]
 ·have e : zf t = true := by simpa using h
  refine (wS t.2.1 (zo e).1 t.2.1 0 0 rfl (by omega)).to ?_
  simp [yC, e]
end Qq
namespace Qq
open Go Go.Vt Pt
set_option linter.unusedVariables false
set_option linter.unusedSimpArgs false
set_option linter.unnecessarySimpa false
def runL : List Step → Scene → List Int → List Int × Int × Bool
 | [], c, _ => (c.1, c.2, true)
 | s :: r, c, ps =>
   let k := if s.1 = 2 then ps.getD 0 0 else 0
   if 0 ≤ k ∧ k < (zn c s).length then runL r ((zn c s).getD k.toNat ([], 0)) (if s.1 = 2 then ps.drop 1 else ps) else ([], 0, false)
def zT (t : Trick) (ps : List Int) : List Int × Int × Bool :=
 if zf t = true ∧ (ps.length : Int) = yC t then runL t.2.1 (t.1, -1) ps else ([], 0, false)
theorem Ge {n : Int} {l : List Step} (h : ua n l = true) : ∀ s ∈ l, zP n s = true := fun s hs => List.all_eq_true.1 h s hs
theorem Yj {α : Type} {l : List α} {k : Int} {d : α} (h0 : 0 ≤ k) (h1 : k < l.length) : l.getD k.toNat d ∈ l := by
 have : k.toNat < l.length := by omega
 rw [List.getD, List.getElem?_eq_getElem this]
 exact List.getElem_mem this
theorem bZ {n : Nat} (xs : List Step) (hm : xs.length ≤ 12) (z : Int) : ∀ (r : List Step) (i : Nat) (c : Scene) (ps : List Int), xs.drop i = r → (∀ s ∈ r, zP (n : Int) s = true) → SceneOk n c → ps.length = countK (· == 2) r →
 Ev (fun k => vS k ps xs (xs.length : Int) (i : Int) z c.2 c.1) (runL r c ps)
 | [], i, c, ps, h, hs, hc, hp => by
   have a := zz h
   refine Ev.step (fun k => b0 k _ _ _ _ _ _ _) ?_
   simp only [a.g, cond_false]
   exact Ev.some rfl
 | s :: r, i, c, ps, h, hs, hc, hp => by
   have a := zi h (by rw [zc]; omega)
   have hlt := a.lt
   have hso := hs s (by simp)
   have hn := vT hc hso
   obtain ⟨l1, l2⟩ := fo hc hso
   have hok := gv hc hso
   have ih := fun (d : Scene) (hd : d ∈ zn c s) ps hps => bZ xs hm z r (i + 1) d ps a.next (fun q hq => hs q (by simp [hq])) (hok d hd) hps
   rw [uq] at hp
   refine Ev.step (fun k => b0 k _ _ _ _ _ _ _) ?_
   simp only [a.g, a.z, a.get, a.w, cond_true]
   unfold runL
   refine Ev.ite (fun h2 => ?_) (fun h2 => ?_)
   ·have e2 : s.1 = 2 := by simpa using h2
    rw [if_pos (by simp [e2])] at hp
    have hp1 : 1 ≤ ps.length := by omega
    have et : (ps.take ((ps.length : Int)).toNat).drop 1 = ps.drop 1 := by simp
    simp only [if_pos e2, et]
    refine Ev.yes (by simp; omega) (Ev.yes (by simp; omega) (Ev.yes (by simp) (Ev.bind hn (Ev.ite (fun h3 => Ev.some ?_) (fun h3 => Ev.ite (fun h4 => Ev.some ?_) (fun h4 => ?_))))))
    ·rw [if_neg (by have : ps.getD 0 0 < 0 := by simpa using h3
                    omega)]
    ·rw [if_neg (by have : ps.getD 0 0 ≥ ((zn c s).length : Int) := by simpa using h4
                    omega)]
    ·have g3 : ¬ ps.getD 0 0 < 0 := by simpa using h3
     have g4 : ¬ ps.getD 0 0 ≥ ((zn c s).length : Int) := by simpa using h4
     rw [if_pos (by omega)]
     refine Ev.yes (decide_eq_true (by omega)) (Ev.yes (decide_eq_true (by omega)) (Ev.yes (decide_eq_true (by omega)) ?_))
     exact ih _ (Yj (by omega) (by omega)) _ (by simp; omega)
   ·have e2 : ¬ s.1 = 2 := by simpa using h2
    rw [if_neg (by simpa using e2)] at hp
    simp only [if_neg e2]
    refine Ev.bind hn (Ev.no (decide_eq_false (by omega)) (Ev.yes (decide_eq_true (by omega)) (Ev.yes (decide_eq_true (by omega)) ?_)))
    rw [if_pos (by omega)]
    exact ih _ (Yj (k := 0) (by omega) (by omega)) _ (by omega)
theorem bO {n : Nat} (xs : List Step) (hm : xs.length ≤ 12) (z : Int) (ps : List Int) (hp12 : ps.length ≤ 12) : ∀ (r : List Step) (i : Nat) (c : Scene) (j : Nat), xs.drop i = r → (∀ s ∈ r, zP (n : Int) s = true) → SceneOk n c → ps.length = j + countK (· == 2) r →
 Ev (fun k => vG k ps (j : Int) xs (xs.length : Int) (i : Int) z c.1 c.2) (runL r c (ps.drop j))
 | [], i, c, j, h, hs, hc, hp => by
   have a := zz h
   refine Ev.step (fun k => bP k _ _ _ _ _ _ _ _) ?_
   simp only [a.g, cond_false]
   exact Ev.some rfl
 | s :: r, i, c, j, h, hs, hc, hp => by
   have a := zi h (by rw [zc]; omega)
   have hlt := a.lt
   have hso := hs s (by simp)
   have hn := UK hc hso
   obtain ⟨l1, l2⟩ := fo hc hso
   have hok := gv hc hso
   have ih := fun (d : Scene) (hd : d ∈ zn c s) j hps => bO xs hm z ps hp12 r (i + 1) d j a.next (fun q hq => hs q (by simp [hq])) (hok d hd) hps
   rw [uq] at hp
   have ew : IntKind.i64.wrap (((zn c s).length : Int) - 1) = ((zn c s).length : Int) - 1 := zg (by omega) (by omega)
   refine Ev.step (fun k => bP k _ _ _ _ _ _ _ _) ?_
   simp only [a.g, a.z, a.get, a.w, cond_true]
   unfold runL
   refine Ev.bind hn (Ev.ite (fun h2 => ?_) (fun h2 => ?_))
   ·have e2 : s.1 = 2 := by simpa using h2
    rw [if_pos (by simp [e2])] at hp
    have hj : j < ps.length := by omega
    have ej : (ps.drop j).getD 0 0 = ps.getD (j : Int).toNat 0 := by simp [List.getD]
    have ejw : IntKind.i64.wrap ((j : Int) + 1) = ((j + 1 : Nat) : Int) := by rw [zg (by omega) (by omega)]; omega
    simp only [if_pos e2, ej, ew, ejw]
    refine Ev.yes (by simp) (Ev.yes (by simp; omega) (Ev.bind (xf _ _ _) (Ev.ite (fun h3 => Ev.some ?_) (fun h3 => ?_))))
    ·have g3 : ¬ (0 ≤ ps.getD (j : Int).toNat 0 ∧ ps.getD (j : Int).toNat 0 ≤ ((zn c s).length : Int) - 1) := by
      intro h; rw [decide_eq_true h.1, decide_eq_true h.2] at h3; cases h3
     rw [if_neg (by omega)]
    ·have g3 : 0 ≤ ps.getD (j : Int).toNat 0 ∧ ps.getD (j : Int).toNat 0 ≤ ((zn c s).length : Int) - 1 := by simpa using h3
     rw [if_pos (by omega)]
     refine Ev.yes (decide_eq_true (by omega)) (Ev.yes (decide_eq_true (by omega)) (Ev.yes (decide_eq_true (by omega)) ?_))
     refine (ih _ (Yj (by omega) (by omega)) (j + 1) (by omega)).to ?_
     rw [List.drop_drop]
   ·have e2 : ¬ s.1 = 2 := by simpa using h2
    rw [if_neg (by simpa using e2)] at hp
    simp only [if_neg e2, ew]
    refine Ev.bind (xf _ _ _) (Ev.no (by rw [Bool.not_eq_false', Bool.and_eq_true]; exact ⟨decide_eq_true (by omega), decide_eq_true (by omega)⟩) (Ev.yes (decide_eq_true (by omega)) (Ev.yes (decide_eq_true (by omega)) ?_)))
    rw [if_pos (by omega)]
    exact ih _ (Yj (k := 0) (by omega) (by omega)) j (by omega)
theorem cJ {t : Trick} (h : zf t = true) : SceneOk t.1.length (t.1, -1) ∧ (∀ s ∈ t.2.1, zP (t.1.length : Int) s = true) := by
 refine ⟨⟨(zo h).2.2.2, rfl, by show (-1 : Int) ≤ -1; decide, by show (-1 : Int) < 12; decide⟩, ?_⟩
 unfold zf at h
 simp only [Bool.and_eq_true] at h
 exact Ge h.2.2.2.1
theorem bt (t : Trick) (ps : List Int) (a1 : t.1.length ≤ maxLen) (ai : Ins t.1) (a2 : t.2.1.length ≤ maxLen) (a3 : ps.length ≤ 1048576) : Ev (fun k => jU k (t, ps)) (zT t ps) := by
 refine Ev.step (fun k => Nu k t ps) (Ev.bind (Vw t a1 ai a2) ?_)
 unfold zT x8
 by_cases e : zf t = true
 ·rw [if_pos e]
  refine Ev.no rfl (Ev.bind (Uf t a1 ai a2) (Ev.ite (fun h => Ev.some ?_) (fun h => ?_)))
  ·rw [if_neg (fun hc => by rw [hc.2] at h; simp at h)]
  ·have hl : (ps.length : Int) = yC t := by simpa using h
   rw [if_pos ⟨e, hl⟩]
   have hl2 : ps.length = countK (· == 2) t.2.1 := by unfold yC at hl; rw [if_pos e] at hl; omega
   obtain ⟨s1, s2⟩ := cJ e
   exact bZ t.2.1 (zo e).1 0 t.2.1 0 (t.1, -1) ps rfl s2 s1 hl2
 ·rw [if_neg e, if_neg (fun hc => e hc.1)]
  exact Ev.yes rfl (Ev.pure _)
theorem P8 (t : Trick) (ps : List Int) (a1 : t.1.length ≤ maxLen) (a2 : t.2.1.length ≤ maxLen) (a3 : ps.length ≤ 1048576) : Ev (fun k => VP k (t, ps)) (zT t ps) := by
 refine Ev.step (fun k => P9 k t ps) (Ev.bind (SB t a1 a2) ?_)
 unfold zT x8
 by_cases e : zf t = true
 ·rw [if_pos e]
  refine Ev.no rfl (Ev.bind (VW t a1 a2) (Ev.ite (fun h => Ev.some ?_) (fun h => ?_)))
  ·rw [if_neg (fun hc => by rw [hc.2] at h; simp at h)]
  ·have hl : (ps.length : Int) = yC t := by simpa using h
   rw [if_pos ⟨e, hl⟩]
   have hl2 : ps.length = countK (· == 2) t.2.1 := by unfold yC at hl; rw [if_pos e] at hl; omega
   have hle := Fd (· == 2) t.2.1
   have h12 := (zo e).1
   obtain ⟨s1, s2⟩ := cJ e
   exact bO t.2.1 (zo e).1 0 ps (by omega) t.2.1 0 (t.1, -1) 0 rfl s2 s1 (by omega)
 ·rw [if_neg e, if_neg (fun hc => e hc.1)]
  exact Ev.yes rfl (Ev.pure _)
theorem Jg {n : Nat} (hn : n ≤ 12) : ∀ (r : List Step) (c : Scene) (ps : List Int), (∀ s ∈ r, zP (n : Int) s = true) → SceneOk n c → (runL r c ps).1.length ≤ 12
 | [], c, ps, _, hc => by have := hc.len; show c.1.length ≤ 12; omega
 | s :: r, c, ps, hs, hc => by
   unfold runL
   dsimp only
   generalize (if s.1 = 2 then ps.getD 0 0 else 0) = k
   generalize (if s.1 = 2 then ps.drop 1 else ps) = ps'
   split
   ·rename_i h
    exact Jg hn r _ _ (fun q hq => hs q (by simp [hq])) (gv hc (hs s (by simp)) _ (Yj h.1 h.2))
   ·simp
theorem MM (t : Trick) (ps : List Int) : (zT t ps).1.length ≤ 12 := by
 unfold zT
 split
 ·rename_i h
  obtain ⟨s1, s2⟩ := cJ h.1
  exact Jg (zo h.1).2.2.1 _ _ _ s2 s1
 ·simp
end Qq
namespace Qq
open Go Go.Vt Pt
set_option linter.unusedVariables false
set_option linter.unusedSimpArgs false
end Qq
namespace Qq
open Go Go.Vt Pt
set_option linter.unusedVariables false
set_option linter.unusedSimpArgs false
set_option linter.unnecessarySimpa false
theorem NS (d : Scene) : ∀ (r acc : List Scene), d ∈ addU r acc ↔ (d ∈ r ∨ d ∈ acc)
 | [], acc => by simp [addU]
 | x :: r, acc => by
   unfold addU
   by_cases h : x ∈ acc
   ·rw [if_pos h, NS d r acc, List.mem_cons]
    constructor
    ·rintro (h1 | h1); exact .inl (.inr h1); exact .inr h1
    ·rintro ((h1 | h1) | h1); exact .inr (h1 ▸ h); exact .inl h1; exact .inr h1
   ·rw [if_neg h, NS d r _, List.mem_cons, List.mem_append, List.mem_singleton]
    constructor
    ·rintro (h1 | h1 | h1); exact .inl (.inr h1); exact .inr h1; exact .inl (.inl h1)
    ·rintro ((h1 | h1) | h1); exact .inr (.inr h1); exact .inl h1; exact .inr (.inl h1)
theorem Uo : ∀ (r acc : List Scene), acc.Nodup → (addU r acc).Nodup
 | [], acc, h => h
 | x :: r, acc, h => by
   unfold addU
   by_cases hx : x ∈ acc
   ·rw [if_pos hx]; exact Uo r acc h
   ·rw [if_neg hx]
    refine Uo r _ ?_
    rw [List.nodup_append]
    refine ⟨h, by simp, fun a ha b hb e => hx ?_⟩
    have : b = x := by simpa using hb
    rw [← this, ← e]; exact ha
theorem ND (s : zI) (d : Scene) : ∀ (l acc : List Scene), d ∈ goU s l acc ↔ ((∃ c ∈ l, d ∈ zn c s) ∨ d ∈ acc)
 | [], acc => by simp [goU]
 | c :: r, acc => by
   unfold goU
   rw [ND s d r, NS]
   constructor
   ·rintro (⟨c', h1, h2⟩ | h1 | h1)
    ·exact .inl ⟨c', by simp [h1], h2⟩
    ·exact .inl ⟨c, by simp, h1⟩
    ·exact .inr h1
   ·rintro (⟨c', h1, h2⟩ | h1)
    ·rcases List.mem_cons.1 h1 with h1 | h1
     ·exact .inr (.inl (h1 ▸ h2))
     ·exact .inl ⟨c', h1, h2⟩
    ·exact .inr (.inr h1)
theorem Lz (s : zI) : ∀ (l acc : List Scene), acc.Nodup → (goU s l acc).Nodup
 | [], acc, h => h
 | c :: r, acc, h => Lz s r _ (Uo _ _ h)
end Qq
namespace Qq
open Go Go.Vt Pt
set_option linter.unusedVariables false
set_option linter.unusedSimpArgs false
set_option linter.unnecessarySimpa false
end Qq
namespace Qq
open Go Go.Vt Pt
set_option linter.unusedVariables false
set_option linter.unusedSimpArgs false
set_option linter.unnecessarySimpa false
theorem X6 {α : Type} {l : List α} {i : Nat} {d : α} (h : i < l.length) : l.set i (l.getD i d) = l := by
 rw [List.getD, List.getElem?_eq_getElem h]; simp
theorem Zv {n : Nat} (h1n : 1 ≤ n) (hn : n ≤ 12) (steps : List zI) (si : Nat) (l : List Scene) (hl : l.length ≤ 3000) (ci : Nat) (s : zI) (out : List (List Scene)) (rs : List zI) (rc : List Scene) (nx : List Scene) (hnx : nx.length ≤ 4096)
 (K : ∀ acc : List Scene, acc.length ≤ 3000 → SAll n acc → Ev (fun k => gy k steps (steps.length : Int) (si : Int) (l.length : Int) ((ci + 1 : Nat) : Int) out si s.1 s.2.1.1 s.2.1.2 s.2.2 (acc.map keyB) acc l) (resU out rs (goU s rc acc))) :
 ∀ (xs : List Scene) (j : Nat) (acc : List Scene), nx.drop j = xs → SAll n xs → acc.length + xs.length ≤ 8000 → SAll n acc → ci < 3000 →
   Ev (fun k => jd k steps (steps.length : Int) (si : Int) (l.length : Int) (ci : Int) (nx.length : Int) (j : Int) out si s.1 s.2.1.1 s.2.1.2 s.2.2 (acc.map keyB) acc l nx j) (resU out rs (goU s rc (addU xs acc)))
 | [], j, acc, h, hx, ha, hk, hci => by
   have a := zz h
   have ew : IntKind.i64.wrap ((ci : Int) + 1) = ((ci + 1 : Nat) : Int) := by rw [zg (by omega) (by omega)]; omega
   refine Ev.step (fun k => Zy k _ _ _ _ _ _ _ _ _ _ _ _ _ _ _ _ _ _) ?_
   simp only [a.g, cond_false, ew]
   unfold addU
   refine Ev.ite (fun h2 => Ev.some ?_) (fun h2 => ?_)
   ·unfold resU
    rw [if_neg]
    ·rfl
    ·have := GV s rc acc
     have h3 : (acc.length : Int) > 3000 := by simpa using h2
     omega
   ·have h3 : ¬ (acc.length : Int) > 3000 := by simpa using h2
    exact K acc (by omega) hk
 | x :: xs, j, acc, h, hx, ha, hk, hci => by
   have a := zi h (by rw [zc]; omega)
   have hxo := hx x (by simp)
   have hxi := zQ hxo.ok
   have hx0 := hxo.n0
   have hx12 := hxo.n12
   have hkx := Pp x (by rw [hxo.len]; exact hn) hxi (by unfold In; omega)
   have hmp := Re (l := acc) (x := x) (fun c hc => Pl h1n (hk c hc)) (Pl h1n hxo)
   have hbeq : Nat.beq (j : Int).toNat j = true := by simp
   rw [List.length_cons] at ha
   have ih := fun acc ha hk => Zv h1n hn steps si l hl ci s out rs rc nx hnx K xs (j + 1) acc a.next (fun y hy => hx y (by simp [hy])) ha hk hci
   refine Ev.step (fun k => Zy k _ _ _ _ _ _ _ _ _ _ _ _ _ _ _ _ _ _) ?_
   simp only [a.g, a.z, a.n, a.get, a.w, hbeq, cond_true]
   unfold addU
   refine Ev.bind hkx ?_
   rw [hmp]
   by_cases hm : x ∈ acc
   ·rw [if_pos hm, decide_eq_true hm]
    exact Ev.no rfl (ih acc (by omega) hk)
   ·rw [if_neg hm, decide_eq_false hm]
    refine Ev.yes rfl (Ev.yes (by rw [za]; simp; omega) ?_)
    have := ih (acc ++ [x]) (by simp; omega) (fun c hc => by
     rcases List.mem_append.1 hc with hc | hc
     ·exact hk c hc
     ·have : c = x := by simpa using hc
      rw [this]; exact hxo)
    simpa using this
theorem YY {n : Nat} (h1n : 1 ≤ n) (hn : n ≤ 12) (steps : List zI) (h12 : steps.length ≤ 12) (si : Nat) (hsi : si < steps.length) (l : List Scene) (hl : l.length ≤ 3000) (hok : SAll n l) (s : zI) (hs : zP (n : Int) s = true) (out : List (List Scene)) (hout : out.length = si + 1) (hoi : out.set si l = out) (rs : List zI)
 (K : ∀ acc : List Scene, acc.length ≤ 3000 → SAll n acc → Ev (fun k => gz k steps (steps.length : Int) ((si + 1 : Nat) : Int) (out ++ [acc])) (outU out (levU rs acc))) :
 ∀ (rc : List Scene) (ci : Nat) (acc : List Scene), l.drop ci = rc → acc.length ≤ 3000 → SAll n acc →
   Ev (fun k => gy k steps (steps.length : Int) (si : Int) (l.length : Int) (ci : Int) out si s.1 s.2.1.1 s.2.1.2 s.2.2 (acc.map keyB) acc l) (resU out rs (goU s rc acc))
 | [], ci, acc, h, ha, hk => by
   have a := zz h
   have ew : IntKind.i64.wrap ((si : Int) + 1) = ((si + 1 : Nat) : Int) := by rw [zg (by omega) (by omega)]; omega
   refine Ev.step (fun k => Y2 k _ _ _ _ _ _ _ _ _ _ _ _ _ _) ?_
   simp only [a.g, cond_false, ew, hoi]
   unfold goU resU
   rw [if_pos ha]
   exact Ev.yes (by rw [za]; simp; omega) (K acc ha hk)
 | c :: rc, ci, acc, h, ha, hk => by
   have a := zi h (by rw [zc]; omega)
   have hlt := a.lt
   have hco := hok c a.mem
   have hnl := fo hco hs
   have hst : l.set (ci : Int).toNat c = l := by
    have := X6 (d := (([], 0) : Scene)) hlt
    rw [a.gt] at this
    simpa using this
   refine Ev.step (fun k => Y2 k _ _ _ _ _ _ _ _ _ _ _ _ _ _) ?_
   simp only [a.g, a.z, a.n, a.get, hst, cond_true]
   refine Ev.bind (vT hco hs) ?_
   unfold goU
   exact Zv h1n hn steps si l hl ci s out rs rc (zn c s) hnl.2
    (fun acc ha hk => YY h1n hn steps h12 si hsi l hl hok s hs out hout hoi rs K rc (ci + 1) acc a.next ha hk)
    (zn c s) 0 acc rfl (gv hco hs) (by omega) hk (by omega)
theorem YZ {n : Nat} (h1n : 1 ≤ n) (hn : n ≤ 12) (steps : List zI) (h12 : steps.length ≤ 12) : ∀ (rs : List zI) (si : Nat) (pre : List (List Scene)) (l : List Scene), steps.drop si = rs → (∀ s ∈ rs, zP (n : Int) s = true) → pre.length = si → l.length ≤ 3000 → SAll n l →
 Ev (fun k => gz k steps (steps.length : Int) (si : Int) (pre ++ [l])) (outU pre (levU rs l))
 | [], si, pre, l, h, hs, hp, hl, hok => by
   have a := zz h
   refine Ev.step (fun k => Y3 k _ _ _ _) ?_
   simp only [a.g, cond_false]
   exact Ev.some rfl
 | s :: rs, si, pre, l, h, hs, hp, hl, hok => by
   have a := zi h (by rw [zc]; omega)
   have hlt := a.lt
   have hso := hs s (by simp)
   have g1 : decide ((si : Int) < ((pre ++ [l]).length : Int)) = true := decide_eq_true (by simp; omega)
   have g2 : decide ((si : Int).toNat < (pre ++ [l]).length) = true := decide_eq_true (by simp; omega)
   have hg : (pre ++ [l]).getD (si : Int).toNat [] = l := by
    rw [Int.toNat_natCast, List.getD, ← hp, List.getElem?_append_right (Nat.le_refl _)]; simp
   have hoi : (pre ++ [l]).set si l = pre ++ [l] := by
    have h1 : si < (pre ++ [l]).length := by simp; omega
    have := X6 (d := ([] : List Scene)) h1
    rw [show (pre ++ [l]).getD si [] = l by simpa using hg] at this
    exact this
   refine Ev.step (fun k => Y3 k _ _ _ _) ?_
   simp only [a.g, a.z, a.get, g1, g2, hg, cond_true]
   simp only [Int.toNat_natCast]
   have := YY h1n hn steps h12 si hlt l hl hok s hso (pre ++ [l]) (by simp [hp]) hoi rs (fun acc ha hk => YZ h1n hn steps h12 rs (si + 1) (pre ++ [l]) acc a.next (fun q hq => hs q (by simp [hq])) (by simp [hp]) ha hk)
    l 0 [] rfl (by simp) (fun c hc => by cases hc)
   refine this.to ?_
   rw [Rm]
   unfold resU
   split
   ·cases levU rs (goU s l []) with
    | none => rfl
    | some L => simp [outU]
   ·rfl
theorem Ru (t : Trick) (h : zf t = true) (a1 : t.1.length ≤ maxLen) (ai : Ins t.1) (a2 : t.2.1.length ≤ maxLen) : Ev (fun k => TS k t) (outU [] (levU t.2.1 [(t.1, -1)])) := by
 obtain ⟨h1, h2, h3, h4⟩ := zo h
 have hs := yF h
 refine Ev.step (fun k => KD k t) (Ev.bind (Vw t a1 ai a2) ?_)
 have e : x8 t = (t.1, -1, true) := by unfold x8; rw [if_pos h]
 rw [e]
 exact YZ h2 h3 t.2.1 h1 t.2.1 0 [] [(t.1, -1)] rfl hs.2 rfl (by simp) (Md h)
theorem uG (t : Trick) (a1 : t.1.length ≤ maxLen) (ai : Ins t.1) (a2 : t.2.1.length ≤ maxLen) : Ev (fun k => ul k t) (zA t) := by
 refine Ev.step (fun k => QP k t) (Ev.bind (xN t a1 ai a2) (Ev.ite (fun h => Ev.some ?_) (fun h => ?_)))
 ·have : zf t = false := by simpa using h
  simp [zA, this]
 ·have e : zf t = true := by simpa using h
  obtain ⟨h1, h2⟩ := Nm t.2.1 (zZ t)
  have hst : (zZ t).map Prod.fst = [(t.1, -1)] := rfl
  rw [hst] at h1 h2
  refine Ev.bind (Ru t e a1 ai a2) ?_
  unfold zA wl
  rw [if_pos e]
  cases hL : levU t.2.1 [(t.1, -1)] with
  | none =>
    rw [hL] at h1
    cases hE : jQ t.2.1 (zZ t) with
    | some A => rw [hE] at h1; cases h1
    | none => exact Ev.yes rfl (Ev.pure _)
  | some L =>
    rw [hL] at h1
    cases hE : jQ t.2.1 (zZ t) with
    | none => rw [hE] at h1; cases h1
    | some A =>
      rw [hE] at h1
      have hlast : L.getLastD [] = A.map Prod.fst := Option.some.inj h1
      have hlen := h2 L hL
      have h12 := (zo e).1
      have ew : IntKind.i64.wrap ((L.length : Int) - 1) = ((L.length - 1 : Nat) : Int) := by rw [zg (by omega) (by omega)]; omega
      simp only [outU, List.nil_append, ew]
      refine Ev.no rfl (Ev.yes (by simp) (Ev.yes (by simp; omega) (Ev.yes (by simp; omega) (Ev.some ?_))))
      show (L.getD ((L.length - 1 : Nat) : Int).toNat [], true) = (A.map Prod.fst, true)
      rw [← hlast, Int.toNat_natCast]
      congr 1
      cases L with
      | nil => simp at hlen
      | cons a L => rw [List.getLastD_cons, List.getD, ← List.getLast?_eq_getElem?, List.getLast?_cons]; simp [List.getLastD_eq_getLast?]
end Qq
namespace Qq
open Go Go.Vt Pt
set_option linter.unusedVariables false
set_option linter.unusedSimpArgs false
set_option linter.unnecessarySimpa false
abbrev VdR : Type := Int × List Int × List Int × Int × Bool
def LB (o : Option Way) : VdR := match o with | some w => (2, w.2, w.1.1, w.1.2, true) | none => (1, [], [], 0, true)
def zK (t : Trick) : VdR :=
 if zf t then (match wl t with | none => (3, [], [], 0, true) | some A => LB (A.find? (fun w => !x5 t w.1))) else (0, [], [], 0, false)
theorem fl (t : Trick) (a1 : t.1.length ≤ maxLen) (A : List Way) (hA : A.length ≤ 3000) (ho : af t.1.length A) (z1 z2 : Int) : ∀ (r : List Way) (i : Nat), A.drop i = r →
 Ev (fun k => vL k (A.map Prod.snd) ((A.map Prod.fst).length : Int) (i : Int) t.1 t.2.1 t.2.2.1 t.2.2.2.1 t.2.2.2.2 z1 z2 (A.map Prod.fst)) (LB (r.find? (fun w => !x5 t w.1)))
 | [], i, h => by
   have a := zz h
   have g : decide ((i : Int) < ((A.map Prod.fst).length : Int)) = false := by rw [List.length_map]; exact a.g
   exact Ev.step (fun k => fm k _ _ _ _ _ _ _ _ _ _ _) (Ev.no g (Ev.some rfl))
 | w :: r, i, h => by
   have a := zi h (by rw [zc]; omega)
   have hlt := a.lt
   have hw := ho w a.mem
   have g : decide ((i : Int) < ((A.map Prod.fst).length : Int)) = true := by rw [List.length_map]; exact a.g
   have g2 : decide ((i : Int).toNat < (A.map Prod.fst).length) = true := by rw [List.length_map]; exact a.n
   have g3 : decide ((i : Int) < ((A.map Prod.snd).length : Int)) = true := by rw [List.length_map]; exact a.g
   have hg : A[i] = w := by have := a.gt ((([], 0), []) : Way); simpa [List.getD, hlt] using this
   have e1 : (A.map Prod.fst).getD (i : Int).toNat ([], 0) = w.1 := by
    rw [Int.toNat_natCast, List.getD, List.getElem?_map, List.getElem?_eq_getElem hlt, hg]; rfl
   have e2 : (A.map Prod.snd).getD (i : Int).toNat [] = w.2 := by
    rw [Int.toNat_natCast, List.getD, List.getElem?_map, List.getElem?_eq_getElem hlt, hg]; rfl
   have ih := fl t a1 A hA ho z1 z2 r (i + 1) a.next
   refine Ev.step (fun k => fm k _ _ _ _ _ _ _ _ _ _ _) ?_
   simp only [g, g2, g3, e1, e2, a.z, a.w, cond_true]
   refine Ev.bind (XB t w.1 a1 (by rw [hw.len]; exact a1)) (Ev.ite (fun h1 => Ev.some ?_) (fun h1 => ?_))
   ·rw [List.find?_cons, h1]; rfl
   ·rw [List.find?_cons, h1]; exact ih
theorem gp (t : Trick) (a1 : t.1.length ≤ maxLen) (a2 : t.2.1.length ≤ maxLen) : Ev (fun k => u6 k t) (zK t) := by
 refine Ev.step (fun k => SJ k t) (Ev.bind (xm t a1 a2) (Ev.ite (fun h => Ev.some ?_) (fun h => ?_)))
 ·have : zf t = false := by simpa using h
  simp [zK, this]
 ·have e : zf t = true := by simpa using h
  refine Ev.bind (UI t e) ?_
  unfold zK wl
  rw [if_pos e]
  cases hE : jQ t.2.1 (zZ t) with
  | none => exact Ev.yes rfl (Ev.pure _)
  | some A =>
    have hs := yF e
    exact Ev.no rfl (fl t a1 A (gM _ _ A (by simp [zZ]) hE) (bA t.2.1 (zZ t) A hs.2 (vw e) hE) 0 0 A 0 rfl)
def LevOk (n : Nat) : List zI → List (List Scene) → Prop
 | [], [L] => SAll n L ∧ L.Nodup ∧ L.length ≤ 3000
 | s :: r, L :: L2 :: Ls => (SAll n L ∧ L.Nodup ∧ L.length ≤ 3000) ∧ zP (n : Int) s = true ∧ (∀ c ∈ L, ∀ d ∈ zn c s, d ∈ L2) ∧ LevOk n r (L2 :: Ls)
 | _, _ => False
theorem GB {n : Nat} : ∀ (r : List zI) (l : List Scene) (Ls : List (List Scene)), (∀ s ∈ r, zP (n : Int) s = true) → SAll n l → l.Nodup → l.length ≤ 3000 → levU r l = some Ls → LevOk n r Ls ∧ ∃ q, Ls = l :: q
 | [], l, Ls, _, ho, hn, hl, h => by cases h; exact ⟨⟨ho, hn, hl⟩, _, rfl⟩
 | s :: r, l, Ls, hs, ho, hn, hl, h => by
   rw [Rm] at h
   split at h
   ·rename_i hc
    obtain ⟨L', hL', rfl⟩ := Option.map_eq_some_iff.1 h
    have ho2 : SAll n (goU s l []) := fun d hd => by
     rw [ND] at hd
     rcases hd with ⟨c, h1, h2⟩ | hd
     ·exact gv (ho c h1) (hs s (by simp)) d h2
     ·cases hd
    obtain ⟨h1, q, rfl⟩ := GB r _ L' (fun u hu => hs u (by simp [hu])) ho2 (Lz s l [] List.nodup_nil) hc hL'
    exact ⟨⟨⟨ho, hn, hl⟩, hs s (by simp), fun c hcl d hd => (ND s d l []).2 (.inl ⟨c, hcl, hd⟩), h1⟩, _, rfl⟩
   ·cases h
theorem LevOk.len {n : Nat} : ∀ {r : List zI} {Ls : List (List Scene)}, LevOk n r Ls → Ls.length = r.length + 1
 | [], [L], _ => rfl
 | s :: r, L :: L2 :: Ls, h => by have := LevOk.len h.2.2.2; simp at this ⊢; omega
 | [], [], h => h.elim
 | [], _ :: _ :: _, h => h.elim
 | _ :: _, [], h => h.elim
 | _ :: _, [_], h => h.elim
def rowM (bad : Scene → Bool) : List zI → List (List Scene) → List (Option (List ByteArray))
 | r, L :: Ls => some ((L.filter (canF bad r)).map keyB) :: rowM bad (r.drop 1) Ls
 | _, [] => []
theorem TO (bad : Scene → Bool) : ∀ (r : List zI) (Ls : List (List Scene)), (rowM bad r Ls).length = Ls.length
 | r, [] => rfl
 | r, L :: Ls => by unfold rowM; rw [List.length_cons, TO, List.length_cons]
theorem EX {n : Nat} (h1 : 1 ≤ n) {l : List Scene} (hl : SAll n l) {x : Scene} (hx : SceneOk n x) : setHas (some (l.map keyB)) (keyB x) = decide (x ∈ l) :=
 Re (fun c hc => Pl h1 (hl c hc)) (Pl h1 hx)
theorem GH {n : Nat} (hn : n ≤ 12) {x : Scene} (hx : SceneOk n x) : Ev (fun k => bm k x) (keyB x) :=
 Pp x (by rw [hx.len]; exact hn) (zQ hx.ok) (by have := hx.n0; have := hx.n12; unfold In; omega)
def fN (M : List (Option (List ByteArray))) (i : Nat) (x : Scene) : Bool := setHas (M.getD (i + 1) none) (keyB x)
theorem LE {n : Nat} (hn : n ≤ 12) {x : Scene} (hx : SceneOk n x) (M : List (Option (List ByteArray))) (i : Nat) (hi : i + 1 < M.length) (hM : M.length ≤ 3000) : Ev (fun k => XF k (x, M, (i : Int))) (fN M i x) := by
 have ew : IntKind.i64.wrap ((i : Int) + 1) = ((i + 1 : Nat) : Int) := by rw [zg (by omega) (by omega)]; omega
 refine Ev.step (fun k => QF k x M (i : Int)) ?_
 rw [ew]
 exact Ev.yes (decide_eq_true (by omega)) (Ev.yes (decide_eq_true (by omega)) (Ev.bind (GH hn hx) (Ev.some rfl)))
theorem HQ {n : Nat} (hn : n ≤ 12) {x : Scene} (hx : SceneOk n x) (M : List (Option (List ByteArray))) (i : Nat) (hi : i + 1 < M.length) (hM : M.length ≤ 3000) : Ev (fun k => fT k (x, M, (i : Int))) (fN M i x) := by
 have ew : IntKind.i64.wrap ((i : Int) + 1) = ((i + 1 : Nat) : Int) := by rw [zg (by omega) (by omega)]; omega
 refine Ev.step (fun k => Uh k x M (i : Int)) ?_
 rw [ew]
 exact Ev.yes (decide_eq_true (by omega)) (Ev.yes (decide_eq_true (by omega)) (Ev.bind (GH hn hx) (Ev.some rfl)))
def idxF (F : Scene → Bool) (i : Nat) (r : List Scene) : Int := if r.any F then ((i + r.findIdx F : Nat) : Int) else -1
theorem Rw {F : Scene → Bool} {i : Nat} {x : Scene} {r : List Scene} : idxF F i (x :: r) = if F x then (i : Int) else idxF F (i + 1) r := by
 unfold idxF
 rw [List.any_cons, List.findIdx_cons]
 cases F x with
 | true => simp
 | false =>
   simp only [Bool.false_or, cond_false]
   have : i + (r.findIdx F + 1) = i + 1 + r.findIdx F := by omega
   rw [this]; rfl
theorem Lb {n : Nat} (hn : n ≤ 12) (l : List Scene) (hl : l.length ≤ 16384) (ho : SAll n l) (M : List (Option (List ByteArray))) (j : Nat) (hj : j + 1 < M.length) (hM : M.length ≤ 3000) : ∀ (r : List Scene) (i : Nat), l.drop i = r →
 Ev (fun k => zx k l M (j : Int) (l.length : Int) (i : Int)) (idxF (fN M j) i r)
 | [], i, h => Ev.step (fun k => yh k _ _ _ _ _) (Ev.no (zz h).g (Ev.some rfl))
 | x :: r, i, h => by
   have a := zi h (by rw [zc]; omega)
   refine Ev.step (fun k => yh k _ _ _ _ _) ?_
   simp only [a.g, a.z, a.get, a.w, cond_true]
   rw [Rw]
   refine Ev.bind (LE hn (ho x a.mem) M j hj hM) (Ev.ite (fun h1 => Ev.some ?_) (fun h1 => ?_))
   ·rw [if_pos h1]
   ·rw [if_neg (by rw [h1]; simp)]; exact Lb hn l hl ho M j hj hM r (i + 1) a.next
theorem Lc {n : Nat} (hn : n ≤ 12) (l : List Scene) (hl : l.length ≤ 16384) (ho : SAll n l) (M : List (Option (List ByteArray))) (j : Nat) (hj : j + 1 < M.length) (hM : M.length ≤ 3000) : ∀ (r : List Scene) (i : Nat), l.drop i = r →
 Ev (fun k => zq k l M (j : Int) (l.length : Int) (i : Int)) (idxF (fN M j) i r)
 | [], i, h => Ev.step (fun k => z6 k _ _ _ _ _) (Ev.no (zz h).g (Ev.some rfl))
 | x :: r, i, h => by
   have a := zi h (by rw [zc]; omega)
   refine Ev.step (fun k => z6 k _ _ _ _ _) ?_
   simp only [a.g, a.z, a.get, a.w, cond_true]
   rw [Rw]
   refine Ev.bind (HQ hn (ho x a.mem) M j hj hM) (Ev.ite (fun h1 => Ev.some ?_) (fun h1 => ?_))
   ·rw [if_pos h1]
   ·rw [if_neg (by rw [h1]; simp)]; exact Lc hn l hl ho M j hj hM r (i + 1) a.next
theorem GL (F : Scene → Bool) (i : Nat) (r : List Scene) : decide (idxF F i r ≥ 0) = r.any F := by
 unfold idxF
 cases r.any F with
 | true => simp; omega
 | false => simp
theorem HN {n : Nat} (hn : n ≤ 12) (l : List Scene) (hl : l.length ≤ 16384) (ho : SAll n l) (M : List (Option (List ByteArray))) (j : Nat) (hj : j + 1 < M.length) (hM : M.length ≤ 3000) :
 Ev (fun k => zN k (l, (M, (j : Int)))) (l.any (fN M j)) := by
 refine Ev.step (fun k => xz k l (M, (j : Int))) (Ev.bind (Ev.step (fun k => xV k l (M, (j : Int))) (Lb hn l hl ho M j hj hM l 0 rfl)) (Ev.some ?_))
 exact GL _ _ _
end Qq
