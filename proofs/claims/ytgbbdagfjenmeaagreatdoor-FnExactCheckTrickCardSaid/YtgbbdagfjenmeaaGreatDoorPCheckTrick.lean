/-
  The law FnExactCheckTrick comes to true.
  Conditions: numbers and lengths are such as a machine bears.
-/
import Derived.Test.YtgbbdagfjenmeaaGreatDoorPt
import Derived.Test.YtgbbdagfjenmeaaGreatDoorVd
import Derived.Laws.BitsLemmas
import Derived.Test.YtgbbdagfjenmeaaGreatDoorCmf
import Derived.Lib.ItoaLen
namespace Go.Vt
end Go.Vt
namespace Qq
open Go Go.Vt
set_option linter.unusedVariables false
set_option linter.unusedSimpArgs false
theorem ze : maxLen = 9223372036854775807 := by unfold maxLen; decide
theorem za : rowMax = 4294967296 := rfl
theorem zj {x : Int} (h1 : -9223372036854775808 ≤ x) (h2 : x ≤ 9223372036854775807) : IntKind.i64.wrap x = x := by
 rw [IntKind.wrap_i64]; omega
def In (x : Int) : Prop := -9223372036854775808 ≤ x ∧ x ≤ 9223372036854775807
theorem In.of_fits {x : Int} (h : Fits (.int .i64) x) : In x := by
 have h' : IntKind.i64.min ≤ x ∧ x ≤ IntKind.i64.max := h
 have e1 : IntKind.i64.min = -9223372036854775808 := by decide
 have e2 : IntKind.i64.max = 9223372036854775807 := by decide
 unfold In; rw [e1, e2] at h'; exact h'
def Ins (xs : List Int) : Prop := ∀ x ∈ xs, In x
structure AtCons {α : Type} (xs : List α) (i : Nat) (y : α) (rest : List α) : Prop where
 lt : i < xs.length
 g : decide ((i : Int) < (xs.length : Int)) = true
 z : decide ((0 : Int) ≤ (i : Int)) = true
 n : decide ((i : Int).toNat < xs.length) = true
 get : ∀ d, xs.getD (i : Int).toNat d = y
 w : IntKind.i64.wrap ((i : Int) + 1) = ((i + 1 : Nat) : Int)
 next : xs.drop (i + 1) = rest
 mem : y ∈ xs
 gt : ∀ d, xs.getD i d = y
 le : decide ((i : Int) ≤ (xs.length : Int)) = true
theorem zi {α : Type} {xs : List α} {i : Nat} {y : α} {rest : List α} (h : xs.drop i = y :: rest) (hm : xs.length ≤ maxLen) : AtCons xs i y rest := by
 rw [ze] at hm
 have lt : i < xs.length := by
  rcases Nat.lt_or_ge i xs.length with h1 | h1
  ·exact h1
  ·rw [List.drop_eq_nil_of_le h1] at h; cases h
 have e := List.drop_eq_getElem_cons lt
 rw [e] at h
 have hy : xs[i] = y := by injection h
 refine ⟨lt, by simp; omega, by simp, by simp; omega, fun d => by simp [List.getD, lt, hy], by rw [zj (by omega) (by omega)]; simp, by injection h, by rw [← hy]; exact List.getElem_mem lt, fun d => by simp [List.getD, lt, hy], by simp; omega⟩
structure AtNil {α : Type} (xs : List α) (i : Nat) : Prop where
 ge : xs.length ≤ i
 g : decide ((i : Int) < (xs.length : Int)) = false
theorem zJ {α : Type} {xs : List α} {i : Nat} (h : xs.drop i = []) : AtNil xs i := by
 have ge : xs.length ≤ i := List.drop_eq_nil_iff.1 h
 exact ⟨ge, by simp; omega⟩
end Qq
namespace Qq
open Go Go.Vt Pt
set_option linter.unusedVariables false
set_option linter.unusedSimpArgs false
theorem xT (x lo hi : Int) : Ev (fun k => yV k (x, lo, hi)) (decide (lo ≤ x) && decide (x ≤ hi)) := by
 refine Ev.step (fun k => Qt k x lo hi) (Ev.ite (fun h => ?_) (fun h => ?_))
 ·have h' : lo ≤ x := by simpa using h
  exact Ev.some (by simp [h'])
 ·have h' : ¬ lo ≤ x := by simpa using h
  exact Ev.some (by simp [h'])
theorem Pn (xs : List Int) (n : Int) (hx : xs.length ≤ maxLen) (hn : 0 ≤ n) (hn2 : n ≤ 1048576) :
 Ev (fun k => VP k (xs, n)) (if n - (xs.length : Int) < 0 then -1 else n - xs.length) := by
 rw [ze] at hx
 refine Ev.step (fun k => Sq k xs n) ?_
 rw [zj (by omega) (by omega)]
 split
 ·rename_i h; exact Ev.yes (by simpa using h) (Ev.pure _)
 ·rename_i h; exact Ev.no (by simpa using h) (Ev.pure _)
theorem Yb (xs ys : List Int) (hx : xs.length ≤ maxLen) (hy : ys.length ≤ maxLen) : ∀ (r s : List Int) (i : Nat), xs.drop i = r → ys.drop i = s → s.length = r.length → Ev (fun k => jx k xs ys (i : Int)) (r == s)
 | [], [], i, h1, h2, hl => by
   have a := zJ h1
   refine Ev.step (fun k => cf k xs ys i) ?_
   simp only [a.g, cond_false]
   exact Ev.pure _
 | x :: r, y :: s, i, h1, h2, hl => by
   have a := zi h1 hx
   have b := zi h2 hy
   refine Ev.step (fun k => cf k xs ys i) ?_
   simp only [a.g, a.z, b.g, a.get, b.get, a.w, cond_true]
   have ih := Yb xs ys hx hy r s (i + 1) a.next b.next (by simpa using hl)
   refine Ev.ite (fun h => Ev.some ?_) (fun h => ih.to ?_)
   ·have : ¬ x = y := by simpa using h
    simp [this]
   ·have : x = y := by simpa using h
    simp [this]
 | [], _ :: _, _, _, _, hl => by simp at hl
 | _ :: _, [], _, _, _, hl => by simp at hl
theorem Wn (xs ys : List Int) (hx : xs.length ≤ maxLen) (hy : ys.length ≤ maxLen) : Ev (fun k => bI k (xs, ys)) (xs == ys) := by
 refine Ev.step (fun k => Su k xs ys) (Ev.ite (fun h => Ev.some ?_) (fun h => Yb xs ys hx hy xs ys 0 rfl rfl ?_))
 ·have h' : ¬ xs.length = ys.length := by simp at h; omega
  have : ¬ xs = ys := fun e => h' (by rw [e])
  simp [this]
 ·simp at h; omega
theorem Pq {α : Type} {n : Nat} {xs ys : List α} {i : Nat} {d : α} (hi : i < xs.length) (hl : ys.length = xs.length) (h : ys.take i = xs.take i) : (ys.set i (xs.getD i d)).take (i + 1) = xs.take (i + 1) := by
 have g1 : xs.getD i d = xs[i] := by simp [List.getD, hi]
 rw [g1, List.take_succ_eq_append_getElem (by simp; omega), List.take_succ_eq_append_getElem hi, List.take_set_of_le (by omega), h]
 simp
theorem ZN (xs : List Int) (hm : xs.length ≤ maxLen) : ∀ (r : List Int) (i : Nat) (ys : List Int), xs.drop i = r → ys.length = xs.length → ys.take i = xs.take i → Ev (fun k => jt k xs (i : Int) ys) xs
 | [], i, ys, h, hl, ht => by
   have a := zJ h
   refine Ev.step (fun k => eZ k xs i ys) ?_
   simp only [a.g, cond_false]
   have e : ys = xs := by
    have := a.ge
    rwa [List.take_of_length_le (by omega), List.take_of_length_le (by omega)] at ht
   exact Ev.some e
 | x :: r, i, ys, h, hl, ht => by
   have a := zi h hm
   have b1 : decide ((i : Int) < (ys.length : Int)) = true := by rw [hl]; exact a.g
   have b2 : decide ((i : Int).toNat < ys.length) = true := by rw [hl]; exact a.n
   refine Ev.step (fun k => eZ k xs i ys) ?_
   simp only [a.g, a.z, b1, b2, a.w, cond_true]
   have hs := Pq (n := 0) (d := 0) a.lt hl ht
   exact ZN xs hm r (i + 1) _ a.next (by simp [hl]) (by simpa using hs)
theorem Pk (xs : List Int) (hm : xs.length ≤ 1048576) : Ev (fun k => VO k xs) xs := by
 refine Ev.step (fun k => Sp k xs) (Ev.yes (by simp) (Ev.yes (by rw [za]; simp; omega) (Ev.yes (by simp) ?_)))
 exact ZN xs (by rw [ze]; omega) xs 0 _ rfl (by simp) (by simp)
end Qq
namespace Qq
open Go Go.Vt Pt
set_option linter.unusedVariables false
set_option linter.unusedSimpArgs false
def XJ (n : Int) (m : Int × Int) : Bool :=
 decide (1 ≤ n) && (decide (n ≤ 12) && (decide (0 ≤ m.2) &&
  (if m.1 = 1 then decide (m.2 ≤ n) else if m.1 = 2 then decide (m.2 ≤ n) else if m.1 = 3 then decide (m.2 ≤ n) else
   if m.1 = 4 then decide (m.2 ≤ 1) else if m.1 = 5 then decide (m.2 ≤ 1) else if m.1 = 7 then decide (m.2 ≤ 1) else
   if m.1 = 6 then m.2 == 0 else if m.1 = 8 then decide (m.2 < n) else if m.1 = 9 then decide (m.2 < n) else false)))
theorem SY (n : Int) (m : Int × Int) : Ev (fun k => Un k (n, m)) (XJ n m) := by
 obtain ⟨a, b⟩ := m
 refine Ev.step (fun k => SZ k n (a, b)) ?_
 unfold XJ
 refine Ev.ite (fun h => Ev.some ?_) (fun h => ?_)
 ·have : ¬ 1 ≤ n := by simpa using h
  simp [this]
 have h1 : 1 ≤ n := by simpa using h
 refine Ev.ite (fun h => Ev.some ?_) (fun h => ?_)
 ·have : ¬ n ≤ 12 := by simpa using h
  simp [this]
 have h2 : n ≤ 12 := by simpa using h
 refine Ev.ite (fun h => Ev.some ?_) (fun h => ?_)
 ·have : ¬ 0 ≤ b := by simpa using h
  simp [this]
 have h3 : 0 ≤ b := by simpa using h
 clear h
 simp only [h1, h2, h3, decide_true, Bool.true_and]
 iterate 9 (refine Ev.ite (fun h => ?_) (fun h => ?_); · exact Ev.some (by simp at *; simp [*]))
 exact Ev.some (by simp at *; simp [*])
theorem SF (n : Int) (m : Int × Int) : Ev (fun k => V8 k (n, m)) (XJ n m) := by
 obtain ⟨a, b⟩ := m
 refine Ev.step (fun k => SG k n (a, b)) (Ev.bind (xT _ _ _) ?_)
 unfold XJ
 refine Ev.ite (fun h => ?_) (fun h => ?_)
 ·exact Ev.some (by rw [Bool.eq_iff_iff]; simp at *; omega)
 have hn : 1 ≤ n ∧ n ≤ 12 := by simpa using h
 iterate 6 (refine Ev.ite (fun h => ?_) (fun h => ?_); · exact Ev.bind (xT _ _ _) (Ev.some (by rw [Bool.eq_iff_iff]; simp at *; try simp [*]; try (intros; omega))))
 refine Ev.ite (fun h => ?_) (fun h => ?_)
 ·exact Ev.some (by rw [Bool.eq_iff_iff]; simp at *; try simp [*]; try (intros; omega))
 rw [zj (by omega) (by omega)]
 iterate 2 (refine Ev.ite (fun h => ?_) (fun h => ?_); · exact Ev.bind (xT _ _ _) (Ev.some (by rw [Bool.eq_iff_iff]; simp at *; try simp [*]; try (intros; omega))))
 exact Ev.some (by rw [Bool.eq_iff_iff]; simp at *; try simp [*]; try (intros; omega))
def yB (n : Int) (s : Int × (Int × Int) × Int) : Bool :=
 decide (1 ≤ n) && (decide (n ≤ 12) &&
  (if s.1 = 1 then XJ n s.2.1 && s.2.2 == 0 else
   if s.1 = 2 then s.2.1.1 == 0 && (s.2.1.2 == 0 && (decide (0 ≤ s.2.2) && (decide (s.2.2 ≤ 4) && ((!(s.2.2 == 3) || decide (2 ≤ n)) && (!(s.2.2 == 2) || decide (n ≤ 7)))))) else
   if s.1 = 3 then s.2.1.1 == 0 && (s.2.1.2 == 0 && (decide (0 ≤ s.2.2) && decide (s.2.2 < n))) else false))
theorem X9 (n : Int) (s : Int × (Int × Int) × Int) : Ev (fun k => YI k (n, s)) (yB n s) := by
 obtain ⟨t, ⟨a, b⟩, c⟩ := s
 refine Ev.step (fun k => SX k n (t, (a, b), c)) ?_
 unfold yB
 refine Ev.ite (fun h => Ev.some ?_) (fun h => ?_)
 ·have : ¬ 1 ≤ n := by simpa using h
  simp [this]
 have h1 : 1 ≤ n := by simpa using h
 refine Ev.ite (fun h => Ev.some ?_) (fun h => ?_)
 ·have : ¬ n ≤ 12 := by simpa using h
  simp [this]
 have h2 : n ≤ 12 := by simpa using h
 clear h
 simp only [h1, h2, decide_true, Bool.true_and]
 refine Ev.ite (fun h => ?_) (fun h => ?_)
 ·have e : t = 1 := by simpa using h
  subst e
  exact Ev.bind (SY n (a, b)) (Ev.ite (fun h => Ev.some (by simp at *; simp [*])) (fun h => Ev.some (by simp at *; simp [*])))
 have t1 : ¬ t = 1 := by simpa using h
 simp only [t1, if_false]
 repeat (first | (refine Ev.ite (fun h => ?_) (fun h => ?_)) | focus (refine Ev.some ?_; simp_all; done) | focus (refine Ev.some ?_; simp_all; omega) | focus (refine Ev.some ?_; rw [Bool.eq_iff_iff]; simp at *; omega))
theorem TH (n c : Int) : Ev (fun k => bj k (n, c)) (decide (0 ≤ c) && (decide (c ≤ 4) && ((!(c == 3) || decide (2 ≤ n)) && (!(c == 2) || decide (n ≤ 7))))) := by
 refine Ev.step (fun k => WM k n c) (Ev.bind (xT _ _ _) ?_)
 repeat (first | (refine Ev.ite (fun h => ?_) (fun h => ?_)) | focus (refine Ev.some ?_; simp_all; done) | focus (refine Ev.some ?_; simp_all; omega) | focus (refine Ev.some ?_; rw [Bool.eq_iff_iff]; simp at *; omega))
theorem SD (n : Int) (s : Int × (Int × Int) × Int) : Ev (fun k => V5 k (n, s)) (yB n s) := by
 obtain ⟨t, ⟨a, b⟩, c⟩ := s
 refine Ev.step (fun k => SE k n (t, (a, b), c)) (Ev.bind (xT _ _ _) ?_)
 unfold yB
 refine Ev.ite (fun h => Ev.some ?_) (fun h => ?_)
 ·rcases Int.lt_or_le n 1 with h1 | h1
  ·have : ¬ 1 ≤ n := by omega
   simp [this]
  ·have : ¬ n ≤ 12 := by simp at h; omega
   simp [this]
 have hn : 1 ≤ n ∧ n ≤ 12 := by simpa using h
 clear h
 simp only [hn.1, hn.2, decide_true, Bool.true_and]
 refine Ev.ite (fun h => ?_) (fun h => ?_)
 ·have e : t = 1 := by simpa using h
  subst e
  exact Ev.bind (SF n (a, b)) (Ev.ite (fun h => Ev.some (by simp at *; simp [*])) (fun h => Ev.some (by simp at *; simp [*])))
 have t1 : ¬ t = 1 := by simpa using h
 simp only [t1, if_false]
 clear h
 rw [zj (by omega) (by omega)]
 refine Ev.ite (fun h => ?_) (fun h => ?_)
 ·have e : t = 2 := by simpa using h
  subst e
  refine Ev.ite (fun h => ?_) (fun h => Ev.some ?_)
  ·exact Ev.bind (TH n c) (Ev.some (by simp at *; simp [*]))
  ·cases ha : (a == 0) <;> cases hb : (b == 0) <;> simp_all
 have t2 : ¬ t = 2 := by simpa using h
 simp only [t2, if_false]
 clear h
 refine Ev.ite (fun h => ?_) (fun h => ?_)
 ·have e : t = 3 := by simpa using h
  subst e
  refine Ev.ite (fun h => ?_) (fun h => Ev.some ?_)
  ·refine Ev.bind (xT _ _ _) (Ev.some ?_)
   have e2 : decide (c ≤ n - 1) = decide (c < n) := by rw [Bool.eq_iff_iff]; simp; omega
   simp at h
   simp [h, e2]
  ·cases ha : (a == 0) <;> cases hb : (b == 0) <;> simp_all
 ·have t3 : ¬ t = 3 := by simpa using h
  exact Ev.some (by simp [t3])
theorem Pj (m : Int × Int) : Ev (fun k => VN k m) m := Ev.step (fun k => So k m) (Ev.pure _)
theorem Pi (s : Int × (Int × Int) × Int) : Ev (fun k => VM k s) (s.1, (s.2.1.1, (s.2.1.2, s.2.2))) := Ev.step (fun k => Sn k s) (Ev.bind (Pj _) (Ev.pure _))
end Qq
namespace Qq
open Go Go.Vt Pt
set_option linter.unusedVariables false
set_option linter.unusedSimpArgs false
theorem ZY (x : Int) (xs : List Int) (hm : xs.length ≤ maxLen) : ∀ (r : List Int) (i : Nat), xs.drop i = r → Ev (fun k => jE k x xs (xs.length : Int) (i : Int)) (r.contains x)
 | [], i, h => by
   have a := zJ h
   refine Ev.step (fun k => cr k x xs _ i) ?_
   simp only [a.g, cond_false]
   exact Ev.pure _
 | y :: r, i, h => by
   have a := zi h hm
   refine Ev.step (fun k => cr k x xs _ i) ?_
   simp only [a.g, a.z, a.get, a.w, cond_true]
   refine Ev.ite (fun h => Ev.some ?_) (fun h => (ZY x xs hm r (i + 1) a.next).to ?_)
   ·have : y = x := by simpa using h
    simp [this]
   ·have : ¬ y = x := by simpa using h
    have h2 : ¬ x = y := fun e => this e.symm
    simp [h2]
theorem PJ (xs : List Int) (x : Int) (hm : xs.length ≤ maxLen) : Ev (fun k => V3 k (xs, x)) (xs.contains x) :=
 Ev.step (fun k => SC k xs x) (ZY x xs hm xs 0 rfl)
end Qq
namespace Qq
open Go Go.Vt Pt
set_option linter.unusedVariables false
set_option linter.unusedSimpArgs false
theorem Tx : ∀ (n : Nat) (l : List Int), l.Nodup → (∀ x ∈ l, 0 ≤ x ∧ x < (n : Int)) → l.length ≤ n
 | 0, l, _, h => by
   cases l with
   | nil => simp
   | cons x l => have := h x (by simp); omega
 | n + 1, l, hd, h => by
   have h1 := Tx n (l.erase (n : Int)) (hd.erase _) (fun x hx => by
    have hx' := (hd.mem_erase_iff).1 hx
    have := h x hx'.2
    have : x ≠ (n : Int) := hx'.1
    omega)
   have h2 := List.length_erase (a := (n : Int)) (l := l)
   split at h2 <;> omega
end Qq
namespace Qq
open Go Go.Vt Pt
set_option linter.unusedVariables false
set_option linter.unusedSimpArgs false
def card (x : Int) : Int := if 0 ≤ x ∧ x ≤ 11 then x else if -12 ≤ x ∧ x ≤ -1 then -1 - x else -1
theorem Uz (x : Int) : -1 ≤ card x ∧ card x ≤ 11 := by unfold card; split; · omega
                                                       split <;> omega
theorem vP (x : Int) : Ev (fun k => eD k x) (card x) := by
 refine Ev.step (fun k => SH k x) (Ev.bind (xT _ _ _) (Ev.ite (fun h => Ev.some ?_) (fun h => Ev.bind (xT _ _ _) (Ev.ite (fun h' => ?_) (fun h' => Ev.some ?_)))))
 ·have : 0 ≤ x ∧ x ≤ 11 := by simpa using h
  simp [card, this]
 ·have h1 : ¬ (0 ≤ x ∧ x ≤ 11) := by simp at h; omega
  have h2 : -12 ≤ x ∧ x ≤ -1 := by simpa using h'
  rw [zj (by omega) (by omega)]
  exact Ev.some (by unfold card; rw [if_neg h1, if_pos h2])
 ·have h1 : ¬ (0 ≤ x ∧ x ≤ 11) := by simp at h; omega
  have h2 : ¬ (-12 ≤ x ∧ x ≤ -1) := by simp at h'; omega
  unfold card; rw [if_neg h1, if_neg h2]
theorem xB (x : Int) (hx : In x) : Ev (fun k => wM k x) (card x) := by
 obtain ⟨a, b⟩ := hx
 refine Ev.step (fun k => S6 k x) ?_
 refine Ev.ite (fun h => ?_) (fun h => ?_)
 ·have h1 : x < 0 := by simpa using h
  rw [zj (by omega) (by omega)]
  have h2 : ¬ (0 ≤ x ∧ x ≤ 11) := by omega
  refine Ev.ite (fun h' => Ev.some ?_) (fun h' => Ev.some ?_)
  ·have h3 : ¬ (-12 ≤ x ∧ x ≤ -1) := by simp at h'; omega
   unfold card; rw [if_neg h2, if_neg h3]
  ·have h3 : (-12 ≤ x ∧ x ≤ -1) := by simp at h'; omega
   unfold card; rw [if_neg h2, if_pos h3]
 ·have h1 : ¬ x < 0 := by simpa using h
  have h3 : ¬ (-12 ≤ x ∧ x ≤ -1) := by omega
  refine Ev.ite (fun h' => Ev.some ?_) (fun h' => Ev.some ?_)
  ·have h2 : ¬ (0 ≤ x ∧ x ≤ 11) := by simp at h'; omega
   unfold card; rw [if_neg h2, if_neg h3]
  ·have h2 : (0 ≤ x ∧ x ≤ 11) := by simp at h'; omega
   unfold card; rw [if_pos h2]
def pk : List Int → List Int → Bool
 | _, [] => true
 | done, x :: r => decide (0 ≤ card x) && (!(done.contains (card x)) && pk (done ++ [card x]) r)
def zF (p : List Int) : Bool := pk [] p
theorem RF : ∀ (r done : List Int), done.Nodup → pk done r = true → (done ++ r.map card).Nodup ∧ ∀ x ∈ r, 0 ≤ card x
 | [], done, hd, h => by simp [hd]
 | x :: r, done, hd, h => by
   unfold pk at h
   simp only [Bool.and_eq_true, decide_eq_true_eq, Bool.not_eq_true'] at h
   obtain ⟨h1, h3, h4⟩ := h
   have hx : card x ∉ done := by simpa using h3
   obtain ⟨k1, k2⟩ := RF r (done ++ [card x]) (by
    rw [List.nodup_append]
    exact ⟨hd, by simp, fun a ha b hb e => by simp at hb; subst hb; subst e; exact hx ha⟩) h4
   refine ⟨by simpa using k1, fun y hy => ?_⟩
   rcases List.mem_cons.1 hy with rfl | hy
   ·exact h1
   ·exact k2 y hy
theorem xc {p : List Int} (h : zF p = true) : (p.map card).Nodup ∧ (∀ x ∈ p, 0 ≤ card x ∧ card x ≤ 11) ∧ p.length ≤ 12 := by
 obtain ⟨k1, k2⟩ := RF p [] (by simp) h
 have k1' : (p.map card).Nodup := by simpa using k1
 have k3 := Tx 12 (p.map card) k1' (fun x hx => by
  obtain ⟨y, hy, rfl⟩ := List.mem_map.1 hx
  have := k2 y hy
  have := Uz y
  omega)
 exact ⟨k1', fun x hx => ⟨k2 x hx, (Uz x).2⟩, by simpa using k3⟩
theorem gg (xs : List Int) (hm : xs.length ≤ 12) : ∀ (r : List Int) (i : Nat) (done : List Int), xs.drop i = r → done.length = i → Ev (fun k => vt k xs (xs.length : Int) (i : Int) done) (pk done r)
 | [], i, done, h, hd => by
   have a := zJ h
   refine Ev.step (fun k => gh k _ _ _ _) ?_
   simp only [a.g, cond_false]
   exact Ev.pure _
 | x :: r, i, done, h, hd => by
   have a := zi h (by rw [ze]; omega)
   have hlt := a.lt
   refine Ev.step (fun k => gh k _ _ _ _) ?_
   simp only [a.g, a.z, a.get, a.w, cond_true]
   unfold pk
   refine Ev.bind (vP x) (Ev.ite (fun c => Ev.some ?_) (fun c => Ev.bind (PJ done (card x) (by rw [ze]; omega)) (Ev.ite (fun c2 => Ev.some ?_) (fun c2 => Ev.yes (by rw [za]; simp; omega) ?_))))
   ·have : ¬ 0 ≤ card x := by simpa using c
    simp [this]
   ·simp only [c2, Bool.not_true, Bool.false_and, Bool.and_false]
   ·have e1 : decide (0 ≤ card x) = true := by simpa using c
    rw [e1, c2]
    exact gg xs hm r (i + 1) _ a.next (by simp [hd])
theorem V6 (p : List Int) (hm : p.length ≤ maxLen) : Ev (fun k => Zl k p) (zF p) := by
 refine Ev.step (fun k => V7 k p) (Ev.ite (fun h => Ev.some ?_) (fun h => ?_))
 ·symm
  rw [Bool.eq_false_iff]
  intro hp
  have := (xc hp).2.2
  simp at h; omega
 ·exact gg p (by simp at h; omega) p 0 [] rfl rfl
def metL (done : List Int) : List Bool := (List.range 12).map fun (c : Nat) => done.contains (c : Int)
theorem ah (done : List Int) : (metL done).length = 12 := by simp [metL]
theorem NR (done : List Int) (c : Nat) (h : c < 12) (d : Bool) : (metL done).getD c d = done.contains (c : Int) := by
 simp [metL, List.getD, h]
theorem NQ (done : List Int) (c : Nat) (h : c < 12) : (metL done).set c true = metL (done ++ [(c : Int)]) := by
 apply List.ext_getElem?
 intro x
 rw [List.getElem?_set]
 by_cases hx : x < 12
 ·by_cases e : c = x
  ·subst e; simp [metL, h]
  ·have : ¬ x = c := fun h => e h.symm
   simp [metL, hx, e, this]; intro h; omega
 ·rw [if_neg (by omega), List.getElem?_eq_none (by rw [ah]; omega), List.getElem?_eq_none (by rw [ah]; omega)]
theorem gn (xs : List Int) (hm : xs.length ≤ maxLen) (hi : Ins xs) : ∀ (r : List Int) (i : Nat) (done : List Int), xs.drop i = r → Ev (fun k => vw k xs (xs.length : Int) (i : Int) (metL done)) (pk done r)
 | [], i, done, h => by
   have a := zJ h
   refine Ev.step (fun k => gp k _ _ _ _) ?_
   simp only [a.g, cond_false]
   exact Ev.pure _
 | x :: r, i, done, h => by
   have a := zi h hm
   refine Ev.step (fun k => gp k _ _ _ _) ?_
   simp only [a.g, a.z, a.get, a.w, cond_true]
   unfold pk
   refine Ev.bind (xB x (hi x a.mem)) (Ev.ite (fun c => Ev.some ?_) (fun c => ?_))
   ·have : ¬ 0 ≤ card x := by simpa using c
    simp [this]
   ·have hc : 0 ≤ card x := by simpa using c
    have hc2 := (Uz x).2
    have en : card x = ((card x).toNat : Int) := by omega
    have g1 : decide (0 ≤ card x) = true := by simp [hc]
    have g2 : decide (card x < ((metL done).length : Int)) = true := by rw [ah]; simp; omega
    have g3 : decide ((card x).toNat < (metL done).length) = true := by rw [ah]; simp; omega
    have g4 : (Nat.beq (metL done).length 12 && true) = true := by rw [ah]; rfl
    have g5 := NR done (card x).toNat (by omega) false
    rw [← en] at g5
    have g6 := NQ done (card x).toNat (by omega)
    rw [← en] at g6
    simp only [g1, g2, g3, g4, g5, g6, cond_true, Bool.true_and]
    refine Ev.ite (fun c2 => Ev.some ?_) (fun c2 => ?_)
    ·rw [c2]; rfl
    ·rw [c2]
     exact gn xs hm hi r (i + 1) _ a.next
theorem wq (p : List Int) (hm : p.length ≤ maxLen) (hi : Ins p) : Ev (fun k => wz k p) (zF p) :=
 Ev.step (fun k => Um k p) (gn p hm hi p 0 [] rfl)
def posF (c : Int) : Nat → List Int → Int
 | _, [] => -1
 | i, y :: r => if card y = c then (i : Int) else posF c (i + 1) r
def pos (p : List Int) (c : Int) : Int := if c < 0 then -1 else posF c 0 p
theorem vK (c : Int) (xs : List Int) (hm : xs.length ≤ maxLen) (hc : c < 0) : ∀ (r : List Int) (i : Nat), xs.drop i = r → Ev (fun k => yW k c xs (xs.length : Int) (i : Int)) (-1)
 | [], i, h => by
   have a := zJ h
   refine Ev.step (fun k => xu k _ _ _ _) ?_
   simp only [a.g, cond_false]
   exact Ev.pure _
 | x :: r, i, h => by
   have a := zi h hm
   have ih := vK c xs hm hc r (i + 1) a.next
   refine Ev.step (fun k => xu k _ _ _ _) ?_
   simp only [a.g, a.z, a.get, a.w, cond_true]
   exact Ev.bind (vP x) (Ev.ite (fun _ => Ev.no (by simp; omega) ih) (fun _ => ih))
theorem uA (c : Int) (xs : List Int) (hm : xs.length ≤ maxLen) (hc : 0 ≤ c) : ∀ (r : List Int) (i : Nat), xs.drop i = r → Ev (fun k => yW k c xs (xs.length : Int) (i : Int)) (posF c i r)
 | [], i, h => by
   have a := zJ h
   refine Ev.step (fun k => xu k _ _ _ _) ?_
   simp only [a.g, cond_false]
   exact Ev.pure _
 | x :: r, i, h => by
   have a := zi h hm
   have ih := uA c xs hm hc r (i + 1) a.next
   refine Ev.step (fun k => xu k _ _ _ _) ?_
   simp only [a.g, a.z, a.get, a.w, cond_true]
   unfold posF
   refine Ev.bind (vP x) (Ev.ite (fun h => Ev.yes (by simp; omega) (Ev.some ?_)) (fun h => ih.to ?_))
   ·have : card x = c := by simpa using h
    rw [if_pos this]
   ·have : ¬ card x = c := by simpa using h
    rw [if_neg this]
theorem vM (p : List Int) (c : Int) (hm : p.length ≤ maxLen) : Ev (fun k => wY k (p, c)) (pos p c) := by
 refine Ev.step (fun k => Xl k p c) ?_
 unfold pos
 by_cases hc : c < 0
 ·rw [if_pos hc]; exact vK c p hm hc p 0 rfl
 ·rw [if_neg hc]; exact uA c p hm (by omega) p 0 rfl
theorem fP (c : Int) (xs : List Int) (hm : xs.length ≤ maxLen) (hi : Ins xs) : ∀ (r : List Int) (i : Nat), xs.drop i = r → Ev (fun k => zq k xs c (xs.length : Int) (i : Int)) (posF c i r)
 | [], i, h => by
   have a := zJ h
   refine Ev.step (fun k => z7 k _ _ _ _) ?_
   simp only [a.g, cond_false]
   exact Ev.pure _
 | x :: r, i, h => by
   have a := zi h hm
   have ih := fP c xs hm hi r (i + 1) a.next
   refine Ev.step (fun k => z7 k _ _ _ _) ?_
   simp only [a.g, a.z, a.get, a.w, cond_true]
   unfold posF
   have h1 : Ev (fun k => uQ k (x, c)) (card x == c) := Ev.step (fun k => Zt k x c) (Ev.bind (xB x (hi x a.mem)) (Ev.pure _))
   refine Ev.bind h1 (Ev.ite (fun h => Ev.some ?_) (fun h => ih.to ?_))
   ·have : card x = c := by simpa using h
    rw [if_pos this]
   ·have : ¬ card x = c := by simpa using h
    rw [if_neg this]
theorem fO (p : List Int) (c : Int) (hm : p.length ≤ maxLen) (hi : Ins p) : Ev (fun k => uG k (p, c)) (pos p c) := by
 refine Ev.step (fun k => Wb k p c) ?_
 unfold pos
 refine Ev.ite (fun h => Ev.some ?_) (fun h => Ev.bind (Ev.step (fun k => xn k p c) (fP c p hm hi p 0 rfl)) (Ev.some ?_))
 ·have : c < 0 := by simpa using h
  rw [if_pos this]
 ·have : ¬ c < 0 := by simpa using h
  rw [if_neg this]
def WS (p q : List Int) : Bool := zF p && (zF q && (p.length == q.length && p.all fun x => decide (0 ≤ pos q (card x))))
def noPos (q : List Int) : Nat → List Int → Int
 | _, [] => -1
 | i, x :: r => if pos q (card x) < 0 then (i : Int) else noPos q (i + 1) r
theorem Tz (q : List Int) : ∀ (r : List Int) (i : Nat), (!(decide (noPos q i r ≥ 0))) = r.all fun x => decide (0 ≤ pos q (card x))
 | [], i => by simp [noPos]
 | x :: r, i => by
   unfold noPos
   by_cases h : pos q (card x) < 0
   ·rw [if_pos h]
    have : ¬ 0 ≤ pos q (card x) := by omega
    simp [this]
   ·rw [if_neg h, Tz q r (i + 1)]
    have : 0 ≤ pos q (card x) := by omega
    simp [this]
theorem fU (q xs : List Int) (hm : xs.length ≤ maxLen) (hi : Ins xs) (hq : q.length ≤ maxLen) (hiq : Ins q) : ∀ (r : List Int) (i : Nat), xs.drop i = r → Ev (fun k => zn k xs q (xs.length : Int) (i : Int)) (noPos q i r)
 | [], i, h => by
   have a := zJ h
   refine Ev.step (fun k => zR k _ _ _ _) ?_
   simp only [a.g, cond_false]
   exact Ev.pure _
 | x :: r, i, h => by
   have a := zi h hm
   have ih := fU q xs hm hi hq hiq r (i + 1) a.next
   refine Ev.step (fun k => zR k _ _ _ _) ?_
   simp only [a.g, a.z, a.get, a.w, cond_true]
   unfold noPos
   have h1 : Ev (fun k => wA k (x, q)) (decide (pos q (card x) < 0)) := Ev.step (fun k => eV k x q) (Ev.bind (xB x (hi x a.mem)) (Ev.bind (fO q _ hq hiq) (Ev.pure _)))
   refine Ev.bind h1 (Ev.ite (fun h => Ev.some ?_) (fun h => ih.to ?_))
   ·have : pos q (card x) < 0 := by simpa using h
    rw [if_pos this]
   ·have : ¬ pos q (card x) < 0 := by simpa using h
    rw [if_neg this]
theorem aF (p q : List Int) (hp : p.length ≤ maxLen) (hip : Ins p) (hq : q.length ≤ maxLen) (hiq : Ins q) : Ev (fun k => ud k (p, q)) (WS p q) := by
 unfold WS
 refine Ev.step (fun k => aG k p q) (Ev.bind (wq p hp hip) (Ev.ite (fun h => Ev.some ?_) (fun h => Ev.bind (wq q hq hiq) (Ev.ite (fun h2 => Ev.some ?_) (fun h2 => Ev.ite (fun h3 => Ev.some ?_) (fun h3 => ?_))))))
 ·have : zF p = false := by simpa using h
  rw [this]; rfl
 ·have : zF q = false := by simpa using h2
  rw [this]; simp
 ·have : (p.length == q.length) = false := by simp at h3 ⊢; omega
  rw [this]; simp
 ·have e1 : zF p = true := by simpa using h
  have e2 : zF q = true := by simpa using h2
  have e3 : (p.length == q.length) = true := by simp at h3 ⊢; omega
  rw [e1, e2, e3, ← Tz q p 0]
  exact Ev.bind (Ev.step (fun k => yK k p q) (Ev.bind (Ev.step (fun k => yZ k p q) (fU q p hp hip hq hiq p 0 rfl)) (Ev.pure _))) (Ev.some (by simp))
end Qq
namespace Qq
open Go Go.Vt Pt
set_option linter.unusedVariables false
set_option linter.unusedSimpArgs false
theorem yJ (xs : List Int) (hm : xs.length ≤ 1048576) : Ev (fun k => zC k xs) xs := by
 refine Ev.step (fun k => bh k xs) (Ev.ite (fun h => ?_) (fun h => ?_))
 ·exact Ev.yes (by rw [za]; simp; omega) (Ev.some (by simp))
 ·have : xs = [] := by simpa using h
  subst this
  exact Ev.both (Ev.pure _) (Ev.yes (by simp) (Ev.some rfl))
end Qq
namespace Qq
open Go Go.Vt Pt
set_option linter.unusedVariables false
set_option linter.unusedSimpArgs false
set_option linter.unnecessarySimpa false
theorem yN {α : Type} (l : List α) : l.take ((l.length : Int)).toNat = l := by simp
def turn (x : Int) : Int := if card x < 0 then x else -1 - x
theorem MM {x : Int} (h : In x) : In (turn x) := by
 unfold turn
 unfold In at *
 split
 ·exact h
 ·omega
theorem b5 (x : Int) (hx : In x) : Ev (fun k => eC k x) (turn x) := by
 have h1 := hx.1
 have h2 := hx.2
 refine Ev.step (fun k => V4 k x) (Ev.bind (vP x) ?_)
 rw [zj (by omega) (by omega)]
 refine Ev.ite (fun h => Ev.some ?_) (fun h => Ev.some ?_)
 ·have : card x < 0 := by simpa using h
  simp [turn, this]
 ·have : ¬ card x < 0 := by simpa using h
  simp only [turn, if_neg this]
theorem aE (x : Int) (hx : In x) : Ev (fun k => eK k x) (turn x) := by
 have h1 := hx.1
 have h2 := hx.2
 refine Ev.step (fun k => Ul k x) (Ev.bind (xB x hx) ?_)
 rw [zj (by omega) (by omega)]
 refine Ev.ite (fun h => Ev.some ?_) (fun h => Ev.some ?_)
 ·have : card x < 0 := by simpa using h
  simp [turn, this]
 ·have : ¬ card x < 0 := by simpa using h
  simp only [turn, if_neg this]
theorem Pl {α : Type} (p : List α) (i : Nat) (h : i < p.length) : (p.take (i + 1)).reverse = p[i] :: (p.take i).reverse := by
 rw [List.take_add_one, List.getElem?_eq_getElem h]; simp
theorem ff (p : List Int) (hp : p.length ≤ 12) (hi : Ins p) (n : Nat) (hn : n ≤ p.length) (up : Bool) : ∀ (i : Nat) (out : List Int), i ≤ n → out.length + i ≤ 12 →
 Ev (fun k => wW k p (n : Int) up ((i : Int) - 1) out) (out ++ (p.take i).reverse.map (fun x => bif up then turn x else x) ++ p.drop n)
 | 0, out, h, ho => by
   refine Ev.step (fun k => fg k _ _ _ _ _) ?_
   simp only [yN, Int.toNat_natCast]
   refine Ev.no (by simp) (Ev.yes (by (first | (simp [za]; done) | (simp [za]; omega) | omega)) (Ev.yes (by (first | (simp [za]; done) | (simp [za]; omega) | omega)) (Ev.yes (by (first | (simp [za]; done) | (simp [za]; omega) | omega)) (Ev.yes (by (first | (simp [za]; done) | (simp [za]; omega) | omega)) (Ev.some ?_)))))
   simp
 | i + 1, out, h, ho => by
   have hlt : i < p.length := by omega
   have e0 : ((i + 1 : Nat) : Int) - 1 = (i : Int) := by omega
   have hg : p.getD (i : Int).toNat 0 = p[i] := by simp [List.getD, hlt]
   have hin : In p[i] := hi _ (List.getElem_mem hlt)
   refine Ev.step (fun k => fg k _ _ _ _ _) ?_
   simp only [e0, hg, zj (x := (i : Int) - 1) (by omega) (by omega)]
   have ih := fun o (ho : o.length + i ≤ 12) => ff p hp hi n hn up i o (by omega) ho
   rw [Pl p i hlt]
   cases up with
   | true =>
     refine Ev.yes (by simp) (Ev.yes rfl (Ev.yes (by simp) (Ev.yes (by (first | (simp [za]; done) | (simp [za]; omega) | omega)) (Ev.bind (b5 _ hin) (Ev.yes (by (first | (simp [za]; done) | (simp [za]; omega) | omega)) ?_)))))
     exact (ih _ (by simp; omega)).to (by simp)
   | false =>
     refine Ev.yes (by simp) (Ev.no rfl (Ev.yes (by simp) (Ev.yes (by (first | (simp [za]; done) | (simp [za]; omega) | omega)) (Ev.yes (by (first | (simp [za]; done) | (simp [za]; omega) | omega)) ?_))))
     exact (ih _ (by simp; omega)).to (by simp)
theorem fj (p : List Int) (hp : p.length ≤ 12) (hi : Ins p) (n : Nat) (hn : n ≤ p.length) (up : Bool) :
 Ev (fun k => fl k (p, (n : Int), up)) ((p.take n).reverse.map (fun x => bif up then turn x else x) ++ p.drop n) := by
 refine Ev.step (fun k => Te k _ _ _) ?_
 rw [zj (x := (n : Int) - 1) (by omega) (by omega)]
 exact (ff p hp hi n hn up n [] (Nat.le_refl _) (by simp; omega)).to (by simp)
def fz : Bool → List Int → List Int → List Int
 | _, [], [] => []
 | f, x :: a, [] => x :: fz (!f) a []
 | f, [], y :: b => y :: fz (!f) [] b
 | true, x :: a, y :: b => x :: fz false a (y :: b)
 | false, x :: a, y :: b => y :: fz true (x :: a) b
termination_by _ a b => a.length + b.length
theorem parity (k : Int) (hk : k = 0 ∨ k = 1) (n : Nat) : (((n + 1 : Nat) : Int).tmod 2 == k) = !(((n : Nat) : Int).tmod 2 == k) := by
 rw [show ((n + 1 : Nat) : Int) = (n : Int) + 1 by omega, Int.tmod_eq_emod_of_nonneg (by omega), Int.tmod_eq_emod_of_nonneg (by omega)]
 by_cases h : (n : Int) % 2 = k
 ·have h2 : ¬ ((n : Int) + 1) % 2 = k := by omega
  rw [beq_iff_eq.2 h, beq_eq_false_iff_ne.2 h2]; rfl
 ·have h2 : ((n : Int) + 1) % 2 = k := by omega
  rw [beq_iff_eq.2 h2, beq_eq_false_iff_ne.2 h]; rfl
theorem fa (k : Int) (hk : k = 0 ∨ k = 1) : ∀ (n : Nat) (a b out : List Int), a.length + b.length = n → out.length + n ≤ 12 →
 Ev (fun f => yn f k a b out) (out ++ fz ((out.length : Int).tmod 2 == k) a b)
 | 0, a, b, out, h, ho => by
   have ea : a = [] := List.length_eq_zero_iff.1 (by omega)
   have eb : b = [] := List.length_eq_zero_iff.1 (by omega)
   subst ea eb
   refine Ev.step (fun f => fb f _ _ _ _) (Ev.no (by simp) (Ev.no (by simp) (Ev.some ?_)))
   unfold fz; simp
 | n + 1, a, b, out, h, ho => by
   have ih := fun a b out h1 h2 => fa k hk n a b out h1 h2
   refine Ev.step (fun f => fb f _ _ _ _) ?_
   simp only [yN]
   cases a with
   | nil =>
     cases b with
     | nil => simp at h
     | cons y b =>
       simp at h
       refine Ev.no (by simp) (Ev.yes (by (first | (simp [za]; done) | (simp [za]; omega) | omega)) (Ev.no (by (first | (simp [za]; done) | (simp [za]; omega) | omega)) (Ev.no (by simp) ?_)))
       (repeat (first | refine Ev.yes (by (first | (simp [za]; done) | (simp [za]; omega) | omega)) ?_ | refine Ev.no (by (first | (simp [za]; done) | (simp [za]; omega) | omega)) ?_))
       refine (ih [] b (out ++ [y]) (by simp; omega) (by simp; omega)).to ?_
       rw [List.length_append, List.length_singleton, parity k hk]
       conv => rhs; unfold fz
       simp
   | cons x a =>
     refine Ev.yes (by (first | (simp [za]; done) | (simp [za]; omega) | omega)) ?_
     cases b with
     | nil =>
       simp at h
       refine Ev.yes (by simp) ?_
       (repeat (first | refine Ev.yes (by (first | (simp [za]; done) | (simp [za]; omega) | omega)) ?_ | refine Ev.no (by (first | (simp [za]; done) | (simp [za]; omega) | omega)) ?_))
       refine (ih a [] (out ++ [x]) (by simp; omega) (by simp; omega)).to ?_
       rw [List.length_append, List.length_singleton, parity k hk]
       conv => rhs; unfold fz
       simp
     | cons y b =>
       simp at h
       refine Ev.no (by (first | (simp [za]; done) | (simp [za]; omega) | omega)) (Ev.yes (by (first | (simp [za]; done) | (simp [za]; omega) | omega)) ?_)
       refine Ev.ite (fun hf => ?_) (fun hf => ?_)
       ·(repeat (first | refine Ev.yes (by (first | (simp [za]; done) | (simp [za]; omega) | omega)) ?_ | refine Ev.no (by (first | (simp [za]; done) | (simp [za]; omega) | omega)) ?_))
        refine (ih a (y :: b) (out ++ [x]) (by simp; omega) (by simp; omega)).to ?_
        rw [List.length_append, List.length_singleton, parity k hk, hf]
        conv => rhs; unfold fz
        simp
       ·(repeat (first | refine Ev.yes (by (first | (simp [za]; done) | (simp [za]; omega) | omega)) ?_ | refine Ev.no (by (first | (simp [za]; done) | (simp [za]; omega) | omega)) ?_))
        refine (ih (x :: a) b (out ++ [y]) (by simp; omega) (by simp; omega)).to ?_
        rw [List.length_append, List.length_singleton, parity k hk, hf]
        conv => rhs; unfold fz
        simp
theorem Z4 : ∀ (n : Nat) (f : Bool) (a b out : List Int), a.length + b.length = n → out.length + n ≤ 12 → Ev (fun k => yY k a b f out) (out ++ fz f a b)
 | 0, f, a, b, out, h, ho => by
   have ea : a = [] := List.length_eq_zero_iff.1 (by omega)
   have eb : b = [] := List.length_eq_zero_iff.1 (by omega)
   subst ea eb
   refine Ev.step (fun k => Z5 k _ _ _ _) (Ev.no (by simp) (Ev.no (by simp) (Ev.some ?_)))
   unfold fz; simp
 | n + 1, f, a, b, out, h, ho => by
   have ih := fun f a b out h1 h2 => Z4 n f a b out h1 h2
   refine Ev.step (fun k => Z5 k _ _ _ _) ?_
   simp only [yN]
   cases a with
   | nil =>
     cases b with
     | nil => simp at h
     | cons y b =>
       simp at h
       refine Ev.no (by simp) (Ev.yes (by (first | (simp [za]; done) | (simp [za]; omega) | omega)) ?_)
       cases f with
       | true =>
         refine Ev.yes rfl (Ev.no (by simp) ?_)
         (repeat (first | refine Ev.yes (by (first | (simp [za]; done) | (simp [za]; omega) | omega)) ?_ | refine Ev.no (by (first | (simp [za]; done) | (simp [za]; omega) | omega)) ?_))
         refine (ih false [] b (out ++ [y]) (by simp; omega) (by simp; omega)).to ?_
         conv => rhs; unfold fz
         simp
       | false =>
         refine Ev.no rfl (Ev.no (by (first | (simp [za]; done) | (simp [za]; omega) | omega)) ?_)
         (repeat (first | refine Ev.yes (by (first | (simp [za]; done) | (simp [za]; omega) | omega)) ?_ | refine Ev.no (by (first | (simp [za]; done) | (simp [za]; omega) | omega)) ?_))
         refine (ih true [] b (out ++ [y]) (by simp; omega) (by simp; omega)).to ?_
         conv => rhs; unfold fz
         simp
   | cons x a =>
     refine Ev.yes (by (first | (simp [za]; done) | (simp [za]; omega) | omega)) ?_
     cases f with
     | true =>
       refine Ev.yes rfl ?_
       (repeat (first | refine Ev.yes (by (first | (simp [za]; done) | (simp [za]; omega) | omega)) ?_ | refine Ev.no (by (first | (simp [za]; done) | (simp [za]; omega) | omega)) ?_))
       refine (ih false a b (out ++ [x]) (by simp at h ⊢; omega) (by simp; omega)).to ?_
       cases b with
       | nil => conv => rhs; unfold fz
                simp
       | cons y b => conv => rhs; unfold fz
                     simp
     | false =>
       refine Ev.no rfl ?_
       cases b with
       | nil =>
         simp at h
         refine Ev.yes (by simp) ?_
         (repeat (first | refine Ev.yes (by (first | (simp [za]; done) | (simp [za]; omega) | omega)) ?_ | refine Ev.no (by (first | (simp [za]; done) | (simp [za]; omega) | omega)) ?_))
         refine (ih true a [] (out ++ [x]) (by simp; omega) (by simp; omega)).to ?_
         conv => rhs; unfold fz
         simp
       | cons y b =>
         simp at h
         refine Ev.no (by (first | (simp [za]; done) | (simp [za]; omega) | omega)) ?_
         (repeat (first | refine Ev.yes (by (first | (simp [za]; done) | (simp [za]; omega) | omega)) ?_ | refine Ev.no (by (first | (simp [za]; done) | (simp [za]; omega) | omega)) ?_))
         refine (ih true (x :: a) b (out ++ [y]) (by simp; omega) (by simp; omega)).to ?_
         conv => rhs; unfold fz
         simp
def faroL (p : List Int) (k : Int) : List Int := fz (k == 0) (p.take (p.length / 2)) (p.drop (p.length / 2))
theorem half (n : Nat) (h : n ≤ 4194304) : IntKind.i64.wrap ((n : Int).tdiv 2) = ((n / 2 : Nat) : Int) := by
 have : (n : Int).tdiv 2 = ((n / 2 : Nat) : Int) := by rw [Int.tdiv_eq_ediv_of_nonneg (by omega)]; omega
 rw [this, zj (by omega) (by omega)]
theorem Ta (p : List Int) (hp : p.length ≤ 12) (k : Int) (hk : k = 0 ∨ k = 1) : Ev (fun f => Xg f (p, k)) (faroL p k) := by
 refine Ev.step (fun f => Tb f _ _) ?_
 simp only [half p.length (by omega), yN, Int.toNat_natCast, List.take_length, List.drop_zero]
 (repeat (first | refine Ev.yes (by (first | (simp [za]; done) | (simp [za]; omega) | omega)) ?_ | refine Ev.no (by (first | (simp [za]; done) | (simp [za]; omega) | omega)) ?_))
 refine (fa k hk p.length _ _ [] (by simp; omega) (by simp; omega)).to ?_
 rw [List.nil_append]
 unfold faroL
 congr 1
 rcases hk with rfl | rfl <;> rfl
theorem PU (p : List Int) (hp : p.length ≤ 12) (k : Int) : Ev (fun f => PW f (p, k)) (faroL p k) := by
 refine Ev.step (fun f => PV f _ _) ?_
 simp only [half p.length (by omega), yN, Int.toNat_natCast, List.take_length, List.drop_zero]
 (repeat (first | refine Ev.yes (by (first | (simp [za]; done) | (simp [za]; omega) | omega)) ?_ | refine Ev.no (by (first | (simp [za]; done) | (simp [za]; omega) | omega)) ?_))
 refine (Z4 p.length (k == 0) _ _ [] (by simp; omega) (by simp; omega)).to ?_
 rw [List.nil_append]
 rfl
def mz (k : Int) : Nat → List Int → List Int → List Int
 | _, [], out => out
 | i, x :: r, out => if i = 0 ∨ (i : Int) % 2 = k then mz k (i + 1) r (out ++ [x]) else mz k (i + 1) r (x :: out)
theorem gb (p : List Int) (hp : p.length ≤ 12) (k : Int) (hk : k = 0 ∨ k = 1) : ∀ (r : List Int) (i : Nat) (out : List Int), p.drop i = r → out.length = i → Ev (fun f => xG f k p (p.length : Int) (i : Int) out) (mz k i r out)
 | [], i, out, h, ho => by
   have a := zJ h
   refine Ev.step (fun f => gc f _ _ _ _ _) ?_
   simp only [a.g, cond_false]
   exact Ev.pure _
 | x :: r, i, out, h, ho => by
   have a := zi h (by rw [ze]; omega)
   have hlt := a.lt
   have ih := fun out ho => gb p hp k hk r (i + 1) out a.next ho
   refine Ev.step (fun f => gc f _ _ _ _ _) ?_
   simp only [a.g, a.z, a.get, a.w, cond_true]
   rw [Int.tmod_eq_emod_of_nonneg (by omega)]
   unfold mz
   refine Ev.ite (fun c => ?_) (fun c => Ev.ite (fun c2 => ?_) (fun c2 => ?_))
   ·have : i = 0 := by have : (i : Int) = 0 := by simpa using c
                       omega
    rw [if_pos (.inl this)]
    exact Ev.yes (by (first | (simp [za]; done) | (simp [za]; omega) | omega)) (ih _ (by simp; omega))
   ·have : (i : Int) % 2 = k := by simpa using c2
    rw [if_pos (.inr this)]
    exact Ev.yes (by (first | (simp [za]; done) | (simp [za]; omega) | omega)) (ih _ (by simp; omega))
   ·have h1 : ¬ i = 0 := by have : ¬ (i : Int) = 0 := by simpa using c
                            omega
    have h2 : ¬ (i : Int) % 2 = k := by simpa using c2
    rw [if_neg (by rintro (h | h); exact h1 h; exact h2 h)]
    exact Ev.yes (by (first | (simp [za]; done) | (simp [za]; omega) | omega)) (ih _ (by simp; omega))
theorem ax (p : List Int) (hp : p.length ≤ 12) (k : Int) (hk : k = 0 ∨ k = 1) : ∀ (r : List Int) (i : Nat) (out : List Int), p.drop i = r → out.length = i → Ev (fun f => vB f k p (p.length : Int) (i : Int) out) (mz k i r out)
 | [], i, out, h, ho => by
   have a := zJ h
   refine Ev.step (fun f => ay f _ _ _ _ _) ?_
   simp only [a.g, cond_false]
   exact Ev.pure _
 | x :: r, i, out, h, ho => by
   have a := zi h (by rw [ze]; omega)
   have hlt := a.lt
   have ih := fun out ho => ax p hp k hk r (i + 1) out a.next ho
   refine Ev.step (fun f => ay f _ _ _ _ _) ?_
   simp only [a.g, a.z, a.get, a.w, cond_true]
   rw [zj (x := (i : Int) + k) (by omega) (by omega), Int.tmod_eq_emod_of_nonneg (by omega)]
   unfold mz
   refine Ev.ite (fun c => Ev.ite (fun c2 => ?_) (fun c2 => ?_)) (fun c => ?_)
   ·have h1 : (i : Int) > 0 := by simpa using c
    have h2 : ((i : Int) + k) % 2 = 1 := by simpa using c2
    rw [if_neg (by rintro (h | h) <;> omega)]
    exact Ev.yes (by (first | (simp [za]; done) | (simp [za]; omega) | omega)) (ih _ (by simp; omega))
   ·have h1 : (i : Int) > 0 := by simpa using c
    have h2 : ¬ ((i : Int) + k) % 2 = 1 := by simpa using c2
    rw [if_pos (.inr (by omega))]
    exact Ev.yes (by (first | (simp [za]; done) | (simp [za]; omega) | omega)) (ih _ (by simp; omega))
   ·have h1 : ¬ (i : Int) > 0 := by simpa using c
    rw [if_pos (.inl (by omega))]
    exact Ev.yes (by (first | (simp [za]; done) | (simp [za]; omega) | omega)) (ih _ (by simp; omega))
def kz : Nat → List Int → List Int → List Int
 | 0, p, out => p ++ out
 | n + 1, p, out => if 1 < p.length then kz n ((p.take (p.length - 1)).drop 1) (p.getD 0 0 :: p.getD (p.length - 1) 0 :: out) else p ++ out
theorem gY : ∀ (n : Nat) (p out : List Int), p.length ≤ n → p.length + out.length ≤ 12 → Ev (fun f => uy f p out) (kz n p out)
 | n, p, out, h, ho => by
   refine Ev.step (fun f => Xf f _ _) ?_
   by_cases c : 1 < p.length
   ·match n, h with
    | 0, h => exact absurd c (by omega)
    | n + 1, h =>
    have e : ((p.length : Int) - 1) = ((p.length - 1 : Nat) : Int) := by omega
    unfold kz
    rw [if_pos c]
    simp only [e, zj (x := ((p.length - 1 : Nat) : Int)) (by omega) (by omega), Int.toNat_natCast]
    refine Ev.yes (by simp; omega) ?_
    (repeat (first | refine Ev.yes (by (first | (simp [za]; done) | (simp [za]; omega) | omega)) ?_ | refine Ev.no (by (first | (simp [za]; done) | (simp [za]; omega) | omega)) ?_))
    exact gY n _ _ (by simp; omega) (by simp; omega)
   ·have : kz n p out = p ++ out := by cases n <;> simp [kz, c]
    rw [this]
    refine Ev.no (by simp; omega) (Ev.yes (by (first | (simp [za]; done) | (simp [za]; omega) | omega)) ?_)
    rw [List.nil_append]
    refine Ev.yes (by rw [za]; exact decide_eq_true (by omega)) (Ev.some rfl)
theorem Z3 : ∀ (n : Nat) (p out : List Int), p.length ≤ n → p.length + out.length ≤ 12 → Ev (fun f => az f p out) (kz n p out)
 | n, p, out, h, ho => by
   refine Ev.step (fun f => TP f _ _) ?_
   by_cases c : 1 < p.length
   ·match n, h with
    | 0, h => exact absurd c (by omega)
    | n + 1, h =>
    have e : ((p.length : Int) - 1) = ((p.length - 1 : Nat) : Int) := by omega
    unfold kz
    rw [if_pos c]
    simp only [e, zj (x := ((p.length - 1 : Nat) : Int)) (by omega) (by omega), Int.toNat_natCast]
    refine Ev.yes (by simp; omega) ?_
    (repeat (first | refine Ev.yes (by (first | (simp [za]; done) | (simp [za]; omega) | omega)) ?_ | refine Ev.no (by (first | (simp [za]; done) | (simp [za]; omega) | omega)) ?_))
    exact Z3 n _ _ (by simp; omega) (by simp; omega)
   ·have : kz n p out = p ++ out := by cases n <;> simp [kz, c]
    rw [this]
    refine Ev.no (by simp; omega) (Ev.bind (yJ p (by omega)) (Ev.yes (by rw [za]; exact decide_eq_true (by omega)) (Ev.some rfl)))
def dz : Nat → Bool → List Int → List Int → List Int
 | 0, _, q, out => q.getD 0 0 :: out
 | n + 1, f, q, out => if 1 < q.length then (bif f then dz n false (q.drop 1) (q.getD 0 0 :: out) else dz n true (q.drop 1 ++ [q.getD 0 0]) out) else q.getD 0 0 :: out
theorem NP (s : Nat) : (((s + 1 : Nat) : Int).tmod 2 == 1) = !(((s : Nat) : Int).tmod 2 == 1) := parity 1 (.inr rfl) s
theorem fd : ∀ (n : Nat) (s : Nat) (q out : List Int), 1 ≤ q.length → 2 * q.length + (bif ((s : Int).tmod 2 == 1) then 0 else 1) ≤ n → q.length + out.length ≤ 12 → s + n ≤ 1000 →
 Ev (fun f => wV f (s : Int) q out) (dz n ((s : Int).tmod 2 == 1) q out)
 | 0, s, q, out, h1, h, ho, hs => by omega
 | n + 1, s, q, out, h1, h, ho, hs => by
   have ih := fun q out h1 h ho => fd n (s + 1) q out h1 h ho (by omega)
   rw [NP] at ih
   refine Ev.step (fun f => Xh f _ _ _) ?_
   have ew : IntKind.i64.wrap ((s : Int) + 1) = ((s + 1 : Nat) : Int) := by rw [zj (by omega) (by omega)]; omega
   simp only [ew, yN]
   unfold dz
   by_cases c : 1 < q.length
   ·rw [if_pos c]
    refine Ev.yes (by simp; omega) ?_
    cases hf : ((s : Int).tmod 2 == 1) with
    | true =>
      rw [hf] at h ih
      refine Ev.yes (by (first | (simp [za]; done) | (simp [za]; omega) | omega)) (Ev.yes (by (first | (simp [za]; done) | (simp [za]; omega) | omega)) (Ev.yes (by (first | (simp [za]; done) | (simp [za]; omega) | omega)) (Ev.yes (by (first | (simp [za]; done) | (simp [za]; omega) | omega)) (Ev.yes rfl ?_))))
      refine Ev.yes (by (first | (simp [za]; done) | (simp [za]; omega) | omega)) ?_
      exact ih (q.drop 1) (q.getD 0 0 :: out) (by simp; omega) (by simp at h ⊢; omega) (by simp; omega)
    | false =>
      rw [hf] at h ih
      refine Ev.yes (by (first | (simp [za]; done) | (simp [za]; omega) | omega)) (Ev.yes (by (first | (simp [za]; done) | (simp [za]; omega) | omega)) (Ev.yes (by (first | (simp [za]; done) | (simp [za]; omega) | omega)) (Ev.yes (by (first | (simp [za]; done) | (simp [za]; omega) | omega)) (Ev.no rfl ?_))))
      refine Ev.yes (by (first | (simp [za]; done) | (simp [za]; omega) | omega)) ?_
      exact ih (q.drop 1 ++ [q.getD 0 0]) out (by simp) (by simp at h ⊢; omega) (by simp; omega)
   ·rw [if_neg c]
    refine Ev.no (by simp; omega) ?_
    (repeat (first | refine Ev.yes (by (first | (simp [za]; done) | (simp [za]; omega) | omega)) ?_ | refine Ev.no (by (first | (simp [za]; done) | (simp [za]; omega) | omega)) ?_))
    exact Ev.pure _
theorem aA : ∀ (n : Nat) (f : Bool) (q out : List Int), 1 ≤ q.length → 2 * q.length + (bif f then 0 else 1) ≤ n → q.length + out.length ≤ 12 →
 ∃ y, Ev (fun k => jd k f out q) y ∧ y.reverse = dz n f q out.reverse ∧ y.length = q.length + out.length
 | 0, f, q, out, h1, h, ho => by omega
 | n + 1, f, q, out, h1, h, ho => by
   have ih := fun f q out h1 h ho => aA n f q out h1 h ho
   unfold dz
   by_cases c : 1 < q.length
   ·rw [if_pos c]
    cases f with
    | true =>
      obtain ⟨y, e1, e2, e3⟩ := ih false (q.drop 1) (out ++ [q.getD 0 0]) (by simp; omega) (by simp at h ⊢; omega) (by simp; omega)
      refine ⟨y, Ev.step (fun k => jM k _ _ _) ?_, ?_, by simp at e3; omega⟩
      ·simp only [yN]
       refine Ev.yes (by simp; omega) (Ev.yes rfl ?_)
       (repeat (first | refine Ev.yes (by (first | (simp [za]; done) | (simp [za]; omega) | omega)) ?_ | refine Ev.no (by (first | (simp [za]; done) | (simp [za]; omega) | omega)) ?_))
       exact e1
      ·rw [e2]; simp
    | false =>
      obtain ⟨y, e1, e2, e3⟩ := ih true (q.drop 1 ++ [q.getD 0 0]) out (by simp) (by simp at h ⊢; omega) (by simp; omega)
      refine ⟨y, Ev.step (fun k => jM k _ _ _) ?_, ?_, by simp at e3; omega⟩
      ·have ed : (q ++ [q.getD 0 0]).drop 1 = q.drop 1 ++ [q.getD 0 0] := List.drop_append_of_le_length h1
       simp only [yN, ed]
       refine Ev.yes (by simp; omega) (Ev.no rfl ?_)
       (repeat (first | refine Ev.yes (by (first | (simp [za]; done) | (simp [za]; omega) | omega)) ?_ | refine Ev.no (by (first | (simp [za]; done) | (simp [za]; omega) | omega)) ?_))
       exact e1
      ·rw [e2]; rfl
   ·rw [if_neg c]
    match q, h1, c with
    | [x], _, _ =>
      refine ⟨out ++ [x], Ev.step (fun k => jM k _ _ _) (Ev.no (by simp) (Ev.yes (by (first | (simp [za]; done) | (simp [za]; omega) | omega)) (Ev.some rfl))), by simp, by simp; omega⟩
    | _ :: _ :: _, _, c => simp at c
end Qq
namespace Qq
open Go Go.Vt Pt
set_option linter.unusedVariables false
set_option linter.unusedSimpArgs false
def Yr : List Int → List Int → Bool
 | [], b => decide (0 < b.length)
 | _ :: _, [] => false
 | x :: a, y :: b => if x = y then Yr a b else decide (x < y)
def cmpL : List Int → List Int → Int
 | [], b => if 0 < b.length then -1 else 0
 | _ :: _, [] => 1
 | x :: a, y :: b => if x = y then cmpL a b else if x < y then -1 else 1
theorem Sc : ∀ a b, decide (cmpL a b ≥ 0) = !Yr a b
 | [], [] => rfl
 | [], _ :: _ => by simp [cmpL, Yr]
 | _ :: _, [] => rfl
 | x :: a, y :: b => by
   unfold cmpL Yr
   by_cases h : x = y
   ·rw [if_pos h, if_pos h, Sc a b]
   ·rw [if_neg h, if_neg h]
    by_cases h2 : x < y
    ·simp [h2]
    ·simp [h2]
theorem Uv {α : Type} {xs r : List α} {i : Nat} (h : xs.drop i = r) : xs.length - i = r.length := by rw [← h, List.length_drop]
theorem gT (xs ys : List Int) (hm : xs.length ≤ maxLen) (hy : ys.length ≤ maxLen) : ∀ (r s : List Int) (i : Nat), i ≤ xs.length → xs.drop i = r → ys.drop i = s → Ev (fun k => uw k xs ys xs (xs.length : Int) (i : Int)) (Yr r s)
 | [], s, i, hi, h, h2 => by
   have a := zJ h
   have := a.ge
   have hl := Uv h2
   refine Ev.step (fun k => vH k _ _ _ _ _) ?_
   simp only [a.g, cond_false]
   refine Ev.some ?_
   unfold Yr
   rw [Bool.eq_iff_iff]; simp; omega
 | x :: r, [], i, hi, h, h2 => by
   have a := zi h hm
   have b := zJ h2
   refine Ev.step (fun k => vH k _ _ _ _ _) ?_
   simp only [a.g, a.z, cond_true]
   refine Ev.yes (by have := b.ge; simp; omega) (Ev.some rfl)
 | x :: r, y :: s, i, hi, h, h2 => by
   have a := zi h hm
   have b := zi h2 hy
   have hlt := a.lt
   have ih := gT xs ys hm hy r s (i + 1) (by omega) a.next b.next
   refine Ev.step (fun k => vH k _ _ _ _ _) ?_
   simp only [a.g, a.z, a.get, a.w, cond_true]
   refine Ev.no (by have := b.lt; simp; omega) ?_
   simp only [b.g, b.get, cond_true]
   unfold Yr
   refine Ev.ite (fun c => Ev.some ?_) (fun c => ih.to ?_)
   ·have : ¬ x = y := by simpa using c
    rw [if_neg this]
   ·have : x = y := by simpa using c
    rw [if_pos this]
theorem U5 (xs ys : List Int) (hm : xs.length ≤ maxLen) (hy : ys.length ≤ maxLen) : Ev (fun k => b0 k (xs, ys)) (Yr xs ys) :=
 Ev.step (fun k => U6 k xs ys) (gT xs ys hm hy xs ys 0 (by omega) rfl rfl)
abbrev Packs : Type := List (List Int)
def FitS (l : Packs) : Prop := l.length ≤ maxLen ∧ ∀ p ∈ l, p.length ≤ maxLen ∧ Ins p
theorem FitS.of {l : Packs} (h : Fits (.slice (.slice (.int .i64))) l) : FitS l :=
 ⟨h.1, fun p hp => ⟨(h.2 p hp).1, fun x hx => In.of_fits ((h.2 p hp).2 x hx)⟩⟩
end Qq
namespace Qq
open Go Go.Vt Pt
set_option linter.unusedVariables false
set_option linter.unusedSimpArgs false
theorem Nc {p : List Int} (h : Ins p) (i : Nat) : In (p.getD i 0) := by
 rw [List.getD]
 cases hi : p[i]? with
 | none => exact ⟨by decide, by decide⟩
 | some x => exact h x (List.mem_of_getElem? hi)
end Qq
namespace Qq
open Go Go.Vt Pt
set_option linter.unusedVariables false
set_option linter.unusedSimpArgs false
set_option linter.unnecessarySimpa false
theorem Zd (ls : List (List Int)) (hl : ls.length ≤ maxLen) : ∀ (r : List (List Int)) (i : Nat) (out : List Int), ls.drop i = r → out.length + r.flatten.length ≤ 1048576 → Ev (fun k => yF k ls (ls.length : Int) (i : Int) out) (out ++ r.flatten)
 | [], i, out, h, ho => by
   have a := zJ h
   refine Ev.step (fun k => x4 k _ _ _ _) ?_
   simp only [a.g, cond_false]
   exact Ev.some (by simp)
 | x :: r, i, out, h, ho => by
   have a := zi h hl
   have hlt := a.lt
   simp only [List.flatten_cons, List.length_append] at ho
   refine Ev.step (fun k => x4 k _ _ _ _) ?_
   simp only [a.g, a.z, a.get, a.w, cond_true]
   refine Ev.yes (by rw [za]; exact decide_eq_true (by omega)) ?_
   exact (Zd ls hl r (i + 1) (out ++ x) a.next (by simp; simp at ho; omega)).to (by simp)
theorem Yj (ls : List (List Int)) (hl : ls.length ≤ maxLen) (ht : ls.flatten.length ≤ 1048576) : ∀ (r : List (List Int)) (i : Nat) (n : Nat), ls.drop i = r → n + r.flatten.length ≤ 1048576 → Ev (fun k => yO k ls (n : Int) ls (ls.length : Int) (i : Int)) ls.flatten
 | [], i, n, h, hn => by
   have a := zJ h
   refine Ev.step (fun k => wd k _ _ _ _ _) ?_
   simp only [a.g, cond_false]
   have hg : Ev (fun k => vF k ([], (n : Int))) [] := Ev.congr (fun k => bR k [] (n : Int)) (by
    show Ev (fun _ => S7 (n : Int)) []
    unfold S7
    simp at hn
    exact Ev.yes (by simp; omega) (Ev.pure _))
   exact Ev.bind hg ((Zd ls hl ls 0 [] rfl (by simpa using ht)).to (by simp))
 | x :: r, i, n, h, hn => by
   have a := zi h hl
   have hlt := a.lt
   simp only [List.flatten_cons, List.length_append] at hn
   refine Ev.step (fun k => wd k _ _ _ _ _) ?_
   have e : (n : Int) + (x.length : Int) = ((n + x.length : Nat) : Int) := by omega
   simp only [a.g, a.z, a.get, a.w, cond_true, e, zj (x := ((n + x.length : Nat) : Int)) (by omega) (by omega)]
   refine Ev.no (by simp; omega) ?_
   exact Yj ls hl ht r (i + 1) (n + x.length) a.next (by omega)
theorem WG (ls : List (List Int)) (hl : ls.length ≤ maxLen) (ht : ls.flatten.length ≤ 1048576) : Ev (fun k => zX k ls) ls.flatten :=
 Ev.step (fun k => eT k _) (Yj ls hl ht ls 0 0 rfl (by omega))
theorem bo (p : List Int) (hp : p.length ≤ 1048576) : Ev (fun k => jb k p) p.reverse := by
 have hr : Ev (fun k => wc k p) ((), p.reverse) := Ev.congr (fun k => gH k p) (by
  unfold reverseF
  exact Ev.yes (by simp; omega) (Ev.pure _))
 exact Ev.step (fun k => Uj k _) (Ev.bind (yJ p hp) (Ev.bind hr (Ev.pure _)))
theorem cF (K : Nat) : ∀ (m : Nat) (pre r : List Int), m ≤ r.length → pre.length + m = K → pre.length + r.length ≤ 12 → Ins r → Ev (fun k => jK k (K : Int) (pre.length : Int) (pre ++ r)) (pre ++ (r.take m).map turn ++ r.drop m)
 | 0, pre, r, hm, hK, h12, hi => by
   refine Ev.step (fun k => cG k _ _ _) (Ev.no (by simp; omega) (Ev.some (by simp)))
 | m + 1, pre, [], hm, hK, h12, hi => by simp at hm
 | m + 1, pre, x :: r, hm, hK, h12, hi => by
   simp at hm h12
   have hx : In x := hi x (by simp)
   have hg : (pre ++ x :: r).getD (pre.length : Int).toNat 0 = x := by simp [List.getD]
   have hs : (pre ++ x :: r).set (pre.length : Int).toNat (turn x) = pre ++ turn x :: r := by simp
   have ew : IntKind.i64.wrap ((pre.length : Int) + 1) = ((pre.length + 1 : Nat) : Int) := by rw [zj (by omega) (by omega)]; omega
   refine Ev.step (fun k => cG k _ _ _) ?_
   simp only [hg, hs, ew]
   refine Ev.yes (by simp; omega) (Ev.yes (by simp) (Ev.yes (by (first | (simp [za]; done) | (simp [za]; omega) | omega)) (Ev.yes (by (first | (simp [za]; done) | (simp [za]; omega) | omega)) (Ev.bind (aE x hx) ?_))))
   simp only [hs]
   refine Ev.yes (by simp) (Ev.yes (by (first | (simp [za]; done) | (simp [za]; omega) | omega)) (Ev.yes (by (first | (simp [za]; done) | (simp [za]; omega) | omega)) ?_))
   have := cF K m (pre ++ [turn x]) r hm (by simp; omega) (by simp; omega) (fun y hy => hi y (by simp [hy]))
   simp only [List.length_append, List.length_singleton, List.append_assoc, List.singleton_append] at this
   exact this.to (by simp)
def ji (p : List Int) (m : Int × Int) : List Int :=
 if m.1 = 1 then p.drop m.2.toNat ++ p.take m.2.toNat
 else if m.1 = 2 then (p.take m.2.toNat).reverse ++ p.drop m.2.toNat
 else if m.1 = 3 then (p.take m.2.toNat).reverse.map turn ++ p.drop m.2.toNat
 else if m.1 = 4 then faroL p m.2
 else if m.1 = 5 then mz m.2 0 p []
 else if m.1 = 6 then kz p.length p []
 else if m.1 = 7 then dz (2 * p.length + 1) (m.2 == 1) p []
 else if m.1 = 8 then p.set m.2.toNat (turn (p.getD m.2.toNat 0))
 else p.take m.2.toNat ++ p.drop (m.2.toNat + 1) ++ [p.getD m.2.toNat 0]
structure MoveFit (n : Nat) (m : Int × Int) : Prop where
 n1 : 1 ≤ n
 n12 : n ≤ 12
 k0 : 0 ≤ m.2
 kn : m.2 ≤ n ∨ m.2 ≤ 1
 c : m.1 = 1 ∨ m.1 = 2 ∨ m.1 = 3 → m.2 ≤ n
 f : m.1 = 4 ∨ m.1 = 5 ∨ m.1 = 7 → m.2 = 0 ∨ m.2 = 1
 t : m.1 ≠ 1 → m.1 ≠ 2 → m.1 ≠ 3 → m.1 ≠ 4 → m.1 ≠ 5 → m.1 ≠ 6 → m.1 ≠ 7 → m.2 < n
theorem QC {n : Nat} {m : Int × Int} (h : XJ (n : Int) m = true) : MoveFit n m := by
 unfold XJ at h
 simp only [Bool.and_eq_true, decide_eq_true_eq] at h
 obtain ⟨h1, h2, h3, h4⟩ := h
 have key : (m.1 = 1 ∧ m.2 ≤ n) ∨ (m.1 = 2 ∧ m.2 ≤ n) ∨ (m.1 = 3 ∧ m.2 ≤ n) ∨ (m.1 = 4 ∧ m.2 ≤ 1) ∨ (m.1 = 5 ∧ m.2 ≤ 1) ∨ (m.1 = 7 ∧ m.2 ≤ 1) ∨ (m.1 = 6 ∧ m.2 = 0) ∨ (m.1 = 8 ∧ m.2 < n) ∨ (m.1 = 9 ∧ m.2 < n) := by
  repeat' (split at h4)
  all_goals simp at h4
  all_goals simp [*]
 exact ⟨by omega, by omega, h3, by omega, by omega, by omega, by omega⟩
theorem Vc (p : List Int) (m : Int × Int) (h : MoveFit p.length m) (hi : Ins p) : Ev (fun k => V2 k (p, m)) (ji p m) := by
 have hp := h.n12
 have hp1 := h.n1
 obtain ⟨a, b⟩ := m
 have h0 := h.k0
 obtain ⟨j, rfl⟩ : ∃ j : Nat, b = (j : Int) := ⟨b.toNat, by have := h0; simp at this; omega⟩
 have hc := h.c
 have hf := h.f
 have ht := h.t
 dsimp only at hc hf ht
 clear h h0
 refine Ev.step (fun k => Qs k p (a, (j : Int))) ?_
 unfold ji
 simp only [yN, Int.toNat_natCast, List.take_length, List.drop_zero, List.nil_append]
 refine Ev.ite (fun c => ?_) (fun c1 => Ev.ite (fun c => ?_) (fun c2 => Ev.ite (fun c => ?_) (fun c3 => Ev.ite (fun c => ?_) (fun c4 => Ev.ite (fun c => ?_) (fun c5 => Ev.ite (fun c => ?_) (fun c6 => Ev.ite (fun c => ?_) (fun c7 => Ev.ite (fun c => ?_) (fun c8 => ?_))))))))
 all_goals simp only [beq_iff_eq, beq_eq_false_iff_ne, ne_eq] at *
 ·have := hc (by omega)
  rw [if_pos c]
  (repeat (first | refine Ev.yes (by (first | (simp [za]; done) | (simp [za]; omega) | omega)) ?_ | refine Ev.no (by (first | (simp [za]; done) | (simp [za]; omega) | omega)) ?_))
  exact Ev.pure _
 ·have := hc (by omega)
  rw [if_neg c1, if_pos c]
  exact Ev.bind (fj p hp hi j (by omega) false) (Ev.some (by simp))
 ·have := hc (by omega)
  rw [if_neg c1, if_neg c2, if_pos c]
  exact Ev.bind (fj p hp hi j (by omega) true) (Ev.some (by simp))
 ·rw [if_neg c1, if_neg c2, if_neg c3, if_pos c]
  exact Ev.bind (Ta p hp _ (hf (by omega))) (Ev.pure _)
 ·rw [if_neg c1, if_neg c2, if_neg c3, if_neg c4, if_pos c]
  exact Ev.bind (Ev.step (fun k => V1 k _ _) (gb p hp _ (hf (by omega)) p 0 [] rfl rfl)) (Ev.pure _)
 ·rw [if_neg c1, if_neg c2, if_neg c3, if_neg c4, if_neg c5, if_pos c]
  exact Ev.bind (Ev.step (fun k => U8 k _) (gY p.length p [] (Nat.le_refl _) (by simp; omega))) (Ev.pure _)
 ·rw [if_neg c1, if_neg c2, if_neg c3, if_neg c4, if_neg c5, if_neg c6, if_pos c]
  have hj := hf (by omega)
  have e : ((j : Int).tmod 2 == 1) = ((j : Int) == 1) := by rcases hj with hj | hj <;> rw [hj] <;> rfl
  have hd := fd (2 * p.length + 1) j p [] hp1 (by cases ((j : Int).tmod 2 == 1) <;> simp) (by simp; omega) (by omega)
  rw [e] at hd
  refine Ev.bind (Ev.step (fun k => Tc k _ _) (Ev.yes (by (first | (simp [za]; done) | (simp [za]; omega) | omega)) ?_)) (Ev.pure _)
  rw [List.nil_append]
  exact hd
 ·rw [if_neg c1, if_neg c2, if_neg c3, if_neg c4, if_neg c5, if_neg c6, if_neg c7, if_pos c]
  have := ht c1 c2 c3 c4 c5 c6 c7
  have hin : In (p.getD j 0) := Nc hi _
  (repeat (first | refine Ev.yes (by (first | (simp [za]; done) | (simp [za]; omega) | omega)) ?_ | refine Ev.no (by (first | (simp [za]; done) | (simp [za]; omega) | omega)) ?_))
  refine Ev.bind (b5 _ hin) ?_
  (repeat (first | refine Ev.yes (by (first | (simp [za]; done) | (simp [za]; omega) | omega)) ?_ | refine Ev.no (by (first | (simp [za]; done) | (simp [za]; omega) | omega)) ?_))
  exact Ev.pure _
 ·rw [if_neg c1, if_neg c2, if_neg c3, if_neg c4, if_neg c5, if_neg c6, if_neg c7, if_neg c8]
  have := ht c1 c2 c3 c4 c5 c6 c7
  have e : IntKind.i64.wrap ((j : Int) + 1) = ((j + 1 : Nat) : Int) := by rw [zj (by omega) (by omega)]; omega
  simp only [e, Int.toNat_natCast]
  (repeat (first | refine Ev.yes (by (first | (simp [za]; done) | (simp [za]; omega) | omega)) ?_ | refine Ev.no (by (first | (simp [za]; done) | (simp [za]; omega) | omega)) ?_))
  exact Ev.pure _
theorem Zq (p : List Int) (m : Int × Int) (h : MoveFit p.length m) (hi : Ins p) : Ev (fun k => X1 k (p, m)) (ji p m) := by
 have hp := h.n12
 have hp1 := h.n1
 obtain ⟨a, b⟩ := m
 have h0 := h.k0
 obtain ⟨j, rfl⟩ : ∃ j : Nat, b = (j : Int) := ⟨b.toNat, by have := h0; simp at this; omega⟩
 have hc := h.c
 have hf := h.f
 have ht := h.t
 dsimp only at hc hf ht
 clear h h0
 refine Ev.step (fun k => QG k p (a, (j : Int))) ?_
 unfold ji
 simp only [yN, Int.toNat_natCast, List.take_length, List.drop_zero, List.nil_append]
 have hlen2 : ∀ (x y : List Int), x.length + y.length ≤ 1048576 → Ev (fun k => zX k [x, y]) (x ++ y) := fun x y hxy => (WG [x, y] (by rw [ze]; simp) (by simpa using hxy)).to (by simp)
 refine Ev.ite (fun c => ?_) (fun c1 => Ev.ite (fun c => ?_) (fun c2 => Ev.ite (fun c => ?_) (fun c3 => Ev.ite (fun c => ?_) (fun c4 => Ev.ite (fun c => ?_) (fun c5 => Ev.ite (fun c => ?_) (fun c6 => Ev.ite (fun c => ?_) (fun c7 => Ev.ite (fun c => ?_) (fun c8 => ?_))))))))
 all_goals simp only [beq_iff_eq, beq_eq_false_iff_ne, ne_eq] at *
 ·have := hc (by omega)
  rw [if_pos c]
  (repeat (first | refine Ev.yes (by (first | (simp [za]; done) | (simp [za]; omega) | omega)) ?_ | refine Ev.no (by (first | (simp [za]; done) | (simp [za]; omega) | omega)) ?_))
  exact Ev.bind (hlen2 _ _ (by simp; omega)) (Ev.pure _)
 ·have := hc (by omega)
  rw [if_neg c1, if_pos c]
  (repeat (first | refine Ev.yes (by (first | (simp [za]; done) | (simp [za]; omega) | omega)) ?_ | refine Ev.no (by (first | (simp [za]; done) | (simp [za]; omega) | omega)) ?_))
  refine Ev.bind (bo _ (by simp; omega)) ?_
  (repeat (first | refine Ev.yes (by (first | (simp [za]; done) | (simp [za]; omega) | omega)) ?_ | refine Ev.no (by (first | (simp [za]; done) | (simp [za]; omega) | omega)) ?_))
  exact Ev.bind (hlen2 _ _ (by simp; omega)) (Ev.pure _)
 ·have := hc (by omega)
  rw [if_neg c1, if_neg c2, if_pos c]
  (repeat (first | refine Ev.yes (by (first | (simp [za]; done) | (simp [za]; omega) | omega)) ?_ | refine Ev.no (by (first | (simp [za]; done) | (simp [za]; omega) | omega)) ?_))
  refine Ev.bind (bo _ (by simp; omega)) ?_
  (repeat (first | refine Ev.yes (by (first | (simp [za]; done) | (simp [za]; omega) | omega)) ?_ | refine Ev.no (by (first | (simp [za]; done) | (simp [za]; omega) | omega)) ?_))
  refine Ev.bind (hlen2 _ _ (by simp; omega)) ?_
  have hr : (p.take j).reverse.length = j := by simp; omega
  have := cF j j [] ((p.take j).reverse ++ p.drop j) (by simp; omega) (by simp) (by simp; omega) (fun x hx => by
   rcases List.mem_append.1 hx with h | h
   ·exact hi x (List.mem_of_mem_take (List.mem_reverse.1 h))
   ·exact hi x (List.mem_of_mem_drop h))
  refine this.to ?_
  rw [List.nil_append, List.take_append_of_le_length (by omega), List.drop_append_of_le_length (by omega), List.take_of_length_le (by omega), List.drop_eq_nil_of_le (by omega), List.nil_append]
 ·rw [if_neg c1, if_neg c2, if_neg c3, if_pos c]
  exact Ev.bind (PU p hp _) (Ev.pure _)
 ·rw [if_neg c1, if_neg c2, if_neg c3, if_neg c4, if_pos c]
  exact Ev.bind (Ev.step (fun k => QH k _ _) (ax p hp _ (hf (by omega)) p 0 [] rfl rfl)) (Ev.pure _)
 ·rw [if_neg c1, if_neg c2, if_neg c3, if_neg c4, if_neg c5, if_pos c]
  exact Ev.bind (Ev.step (fun k => PS k _) (Z3 p.length p [] (Nat.le_refl _) (by simp; omega))) (Ev.pure _)
 ·rw [if_neg c1, if_neg c2, if_neg c3, if_neg c4, if_neg c5, if_neg c6, if_pos c]
  obtain ⟨y, e1, e2, e3⟩ := aA (2 * p.length + 1) ((j : Int) == 1) p [] hp1 (by cases ((j : Int) == 1) <;> simp) (by simp; omega)
  refine Ev.bind (Ev.step (fun k => QJ k _ _) (Ev.bind (yJ p (by omega)) e1)) (Ev.bind (bo y (by simp at e3; omega)) (Ev.some ?_))
  rw [e2]; rfl
 ·rw [if_neg c1, if_neg c2, if_neg c3, if_neg c4, if_neg c5, if_neg c6, if_neg c7, if_pos c]
  have := ht c1 c2 c3 c4 c5 c6 c7
  have hin : In (p.getD j 0) := Nc hi _
  refine Ev.bind (yJ p (by omega)) ?_
  (repeat (first | refine Ev.yes (by (first | (simp [za]; done) | (simp [za]; omega) | omega)) ?_ | refine Ev.no (by (first | (simp [za]; done) | (simp [za]; omega) | omega)) ?_))
  refine Ev.bind (aE _ hin) ?_
  (repeat (first | refine Ev.yes (by (first | (simp [za]; done) | (simp [za]; omega) | omega)) ?_ | refine Ev.no (by (first | (simp [za]; done) | (simp [za]; omega) | omega)) ?_))
  exact Ev.pure _
 ·rw [if_neg c1, if_neg c2, if_neg c3, if_neg c4, if_neg c5, if_neg c6, if_neg c7, if_neg c8]
  have := ht c1 c2 c3 c4 c5 c6 c7
  have hjl : j < p.length := by omega
  have e : IntKind.i64.wrap ((j : Int) + 1) = ((j + 1 : Nat) : Int) := by rw [zj (by omega) (by omega)]; omega
  simp only [e, Int.toNat_natCast]
  (repeat (first | refine Ev.yes (by (first | (simp [za]; done) | (simp [za]; omega) | omega)) ?_ | refine Ev.no (by (first | (simp [za]; done) | (simp [za]; omega) | omega)) ?_))
  refine Ev.bind ((WG [p.take j, p.drop (j + 1), (p.take (j + 1)).drop j] (by rw [ze]; simp) (by simp; omega)).to ?_) (Ev.pure _)
  have : (p.take (j + 1)).drop j = [p.getD j 0] := by
   rw [List.take_add_one, List.getElem?_eq_getElem hjl, List.drop_append_of_le_length (by simp; omega), List.drop_eq_nil_of_le (by simp; omega)]
   simp [List.getD, hjl]
  rw [this]
  simp
end Qq
namespace Qq
open Go Go.Vt Pt
set_option linter.unusedVariables false
set_option linter.unusedSimpArgs false
theorem gu (xs ys : List Int) (hx : xs.length ≤ maxLen) (hy : ys.length ≤ maxLen) : ∀ (r s : List Int) (i : Nat), xs.drop i = r → ys.drop i = s → s.length = r.length → Ev (fun k => xy k ys xs (xs.length : Int) (i : Int)) (r == s)
 | [], [], i, h1, h2, hl => by
   have a := zJ h1
   refine Ev.step (fun k => xt k ys xs _ i) ?_
   simp only [a.g, cond_false]
   exact Ev.pure _
 | x :: r, y :: s, i, h1, h2, hl => by
   have a := zi h1 hx
   have b := zi h2 hy
   refine Ev.step (fun k => xt k ys xs _ i) ?_
   simp only [a.g, a.z, b.g, a.get, b.get, a.w, cond_true]
   have ih := gu xs ys hx hy r s (i + 1) a.next b.next (by simpa using hl)
   refine Ev.ite (fun h => Ev.some ?_) (fun h => ih.to ?_)
   ·have : ¬ x = y := by simpa using h
    simp [this]
   ·have : x = y := by simpa using h
    simp [this]
 | [], _ :: _, _, _, _, hl => by simp at hl
 | _ :: _, [], _, _, _, hl => by simp at hl
theorem Zc (xs ys : List Int) (hx : xs.length ≤ maxLen) (hy : ys.length ≤ maxLen) : Ev (fun k => zO k (xs, ys)) (xs == ys) := by
 refine Ev.step (fun k => fp k xs ys) (Ev.ite (fun h => Ev.some ?_) (fun h => gu xs ys hx hy xs ys 0 rfl rfl ?_))
 ·have h' : ¬ xs.length = ys.length := by simp at h; omega
  have : ¬ xs = ys := fun e => h' (by rw [e])
  simp [this]
 ·simp at h; omega
theorem xC (xs ys : List Int) (hx : xs.length ≤ maxLen) (hy : ys.length ≤ maxLen) : ∀ (r s : List Int) (i : Nat), xs.drop i = r → ys.drop i = s → s.length = r.length → Ev (fun k => zy k xs ys (xs.length : Int) (i : Int)) (r == s)
 | [], [], i, h1, h2, hl => by
   have a := zJ h1
   refine Ev.step (fun k => yk k xs ys _ i) ?_
   simp only [a.g, cond_false]
   exact Ev.pure _
 | x :: r, y :: s, i, h1, h2, hl => by
   have a := zi h1 hx
   have b := zi h2 hy
   refine Ev.step (fun k => yk k xs ys _ i) ?_
   simp only [a.g, a.z, b.g, a.get, b.get, a.w, cond_true]
   have ih := xC xs ys hx hy r s (i + 1) a.next b.next (by simpa using hl)
   refine Ev.ite (fun h => Ev.some ?_) (fun h => ih.to ?_)
   ·have : ¬ x = y := by simpa using h
    simp [this]
   ·have : x = y := by simpa using h
    simp [this]
 | [], _ :: _, _, _, _, hl => by simp at hl
 | _ :: _, [], _, _, _, hl => by simp at hl
theorem f8 (xs ys : List Int) (hx : xs.length ≤ maxLen) (hy : ys.length ≤ maxLen) : Ev (fun k => yv k (xs, ys)) (xs == ys) := by
 refine Ev.step (fun k => xY k xs ys) (Ev.ite (fun h => Ev.some ?_) (fun h => xC xs ys hx hy xs ys 0 rfl rfl ?_))
 ·have h' : ¬ xs.length = ys.length := by simp at h; omega
  have : ¬ xs = ys := fun e => h' (by rw [e])
  simp [this]
 ·simp at h; omega
end Qq
namespace Qq
open Go Go.Vt Pt
set_option linter.unusedVariables false
set_option linter.unusedSimpArgs false
set_option linter.unnecessarySimpa false
theorem Mt : ∀ a b, cmpL a b = cmpI a b
 | [], _ => rfl
 | _ :: _, [] => rfl
 | x :: a, y :: b => by unfold cmpL cmpI; rw [Mt a b]
theorem PH (a b : List Int) : Yr a b = decide (cmpI a b < 0) := by
 have := Sc a b
 rw [Mt] at this
 by_cases h : cmpI a b < 0
 ·rw [decide_eq_false (by omega)] at this; rw [decide_eq_true h]; simpa using this.symm
 ·rw [decide_eq_true (by omega)] at this; rw [decide_eq_false h]; simpa using this.symm
theorem SN {a b : List Int} : leI a b = true ↔ ¬ cmpI b a < 0 := by unfold leI; simp
theorem XN {a b : List Int} (h : leI a b = true) (hn : a ≠ b) : cmpI a b < 0 := by
 by_cases k : cmpI a b < 0
 ·exact k
 ·exact (hn (Wv a b k (SN.1 h))).elim
theorem le_of_lt {a b : List Int} (h : cmpI a b < 0) : leI a b = true := SN.2 fun k => xZ a (wD a b a h k)
def SS (l : Packs) : Prop := l.Pairwise fun a b => cmpI a b < 0
theorem UW : ∀ {l m : Packs}, SS l → SS m → (∀ x, x ∈ l ↔ x ∈ m) → l = m
 | [], [], _, _, _ => rfl
 | [], y :: m, _, _, h => by have := (h y).2 (by simp); simp at this
 | x :: l, [], _, _, h => by have := (h x).1 (by simp); simp at this
 | x :: l, y :: m, hl, hm, h => by
   obtain ⟨hl1, hl2⟩ := List.pairwise_cons.1 hl
   obtain ⟨hm1, hm2⟩ := List.pairwise_cons.1 hm
   have e : x = y := by
    rcases List.mem_cons.1 ((h x).1 (by simp)) with e | hx
    ·exact e
    ·rcases List.mem_cons.1 ((h y).2 (by simp)) with e | hy
     ·exact e.symm
     ·exact (xZ x (wD x y x (hl1 y hy) (hm1 x hx))).elim
   subst e
   have : l = m := UW hl2 hm2 fun z => by
    constructor
    ·intro hz
     rcases List.mem_cons.1 ((h z).1 (List.mem_cons_of_mem _ hz)) with e | hz2
     ·subst e; exact (xZ _ (hl1 _ hz)).elim
     ·exact hz2
    ·intro hz
     rcases List.mem_cons.1 ((h z).2 (List.mem_cons_of_mem _ hz)) with e | hz2
     ·subst e; exact (xZ _ (hm1 _ hz)).elim
     ·exact hz2
   rw [this]
theorem Yd : ∀ (r : Packs) (p : List Int), (p :: r).Pairwise (fun a b => leI a b = true) → SS (p :: yp p r) ∧ ∀ z, z ∈ p :: yp p r ↔ z ∈ p :: r
 | [], p, _ => ⟨List.pairwise_singleton _ _, fun z => Iff.rfl⟩
 | y :: r, p, h => by
   obtain ⟨h1, h2⟩ := List.pairwise_cons.1 h
   obtain ⟨i1, i2⟩ := Yd r y h2
   unfold yp
   by_cases e : y = p
   ·subst e
    rw [if_pos rfl]
    refine ⟨i1, fun z => ?_⟩
    rw [i2]; simp
   ·rw [if_neg e]
    have hlt : cmpI p y < 0 := XN (h1 y (by simp)) (Ne.symm e)
    refine ⟨List.pairwise_cons.2 ⟨fun z hz => ?_, i1⟩, fun z => ?_⟩
    ·rcases List.mem_cons.1 hz with rfl | hz
     ·exact hlt
     ·exact wD _ _ _ hlt ((List.pairwise_cons.1 i1).1 z hz)
    ·rw [List.mem_cons, i2, ← List.mem_cons]
theorem RY {l : Packs} (h : l.Pairwise (fun a b => leI a b = true)) : SS (cO l) ∧ ∀ z, z ∈ cO l ↔ z ∈ l := by
 cases l with
 | nil => exact ⟨List.Pairwise.nil, fun _ => Iff.rfl⟩
 | cons x r => exact Yd r x h
def setL (l : Packs) : Packs := cO (bP l)
theorem Xb (l : Packs) : SS (setL l) := (RY (gF l)).1
theorem wg (l : Packs) (z : List Int) : z ∈ setL l ↔ z ∈ l := ((RY (gF l)).2 z).trans (u3 l).mem_iff
theorem SA {l m : Packs} (h : SS m) (hm : ∀ z, z ∈ m ↔ z ∈ l) : m = setL l := UW h (Xb l) fun z => (hm z).trans (wg l z).symm
theorem aP : ∀ (r : Packs) (p : List Int), (yp p r).length ≤ r.length
 | [], _ => Nat.le_refl _
 | y :: r, p => by unfold yp; have := aP r y; split <;> simp <;> omega
theorem jA (l : Packs) : (setL l).length ≤ l.length := by
 have h1 : (bP l).length = l.length := (u3 l).length_eq
 unfold setL
 rw [← h1]
 cases bP l with
 | nil => exact Nat.le_refl _
 | cons x r => have := aP r x; simp [cO]; omega
theorem vX (l : Packs) (hl : l.length ≤ 16777216) (h12 : ∀ p ∈ l, p.length ≤ 1048576) : ∀ (r : Packs) (i : Nat), l.drop i = r → Ev (fun k => xU k l (l.length : Int) (i : Int) (l.take i)) (setL l)
 | [], i, h => by
   have a := zJ h
   refine Ev.step (fun k => vY k _ _ _ _) ?_
   simp only [a.g, cond_false]
   rw [List.take_of_length_le a.ge]
   have small : ∀ m : Packs, m.length ≤ 16777216 → (∀ p ∈ m, p.length ≤ 1048576) → ZQ m = true := fun m hm hp => by
    unfold ZQ
    rw [Bool.and_eq_true]
    exact ⟨decide_eq_true (by omega), List.all_eq_true.2 fun p hpm => decide_eq_true (by have := hp p hpm; omega)⟩
   have e1 : Ev (fun k => xd k (l, false)) ((), bP l) := Ev.congr (fun k => uq k l false) (by
    show Ev (fun _ => Sz l) _
    unfold Sz
    exact Ev.yes (small l hl h12) (Ev.pure _))
   have e2 : Ev (fun k => yC k (bP l, false)) (setL l) := Ev.congr (fun k => vh k (bP l) false) (by
    show Ev (fun _ => jU (bP l)) _
    unfold jU
    exact Ev.yes (small _ (by rw [(u3 l).length_eq]; exact hl) (fun p hp => h12 p ((u3 l).mem_iff.1 hp))) (Ev.pure _))
   exact Ev.bind e1 (Ev.bind e2 (Ev.pure _))
 | p :: r, i, h => by
   have a := zi h (by rw [ze]; omega)
   have hlt := a.lt
   have hp := h12 p a.mem
   have ih := vX l hl h12 r (i + 1) a.next
   have et : l.take (i + 1) = l.take i ++ [p] := by
    rw [List.take_add_one, List.getElem?_eq_getElem hlt]
    have := a.gt []
    simp [List.getD, hlt] at this
    rw [this]; rfl
   rw [et] at ih
   refine Ev.step (fun k => vY k _ _ _ _) ?_
   simp only [a.g, a.z, a.get, a.w, cond_true]
   exact Ev.bind (yJ p hp) (Ev.yes (by rw [za]; exact decide_eq_true (by simp; omega)) ih)
theorem gm (l : Packs) (hl : l.length ≤ 16777216) (h12 : ∀ p ∈ l, p.length ≤ 1048576) : Ev (fun k => jN k l) (setL l) :=
 Ev.step (fun k => Ys k l) (vX l hl h12 l 0 rfl)
def uM (out : Packs) (x : List Int) : Packs := if out.length = 0 then [x] else if out.getD (out.length - 1) [] = x then out else out ++ [x]
theorem aa (out : Packs) (x : List Int) : (uM out x).length ≤ out.length + 1 := by
 unfold uM
 split
 ·simp
 ·split <;> simp
theorem YE {out : Packs} {x : List Int} (h : SS out) (hx : ∀ o ∈ out, leI o x = true) : SS (uM out x) ∧ ∀ z, z ∈ uM out x ↔ z ∈ out ∨ z = x := by
 unfold uM
 split
 ·rename_i h0
  have : out = [] := List.length_eq_zero_iff.1 h0
  subst this
  exact ⟨List.pairwise_singleton _ _, fun z => by simp⟩
 ·rename_i h0
  obtain ⟨init, l, rfl⟩ : ∃ init l, out = init ++ [l] := by
   rcases List.eq_nil_or_concat out with h | ⟨i, l, h⟩
   ·subst h; simp at h0
   ·exact ⟨i, l, by rw [h]; simp⟩
  have el : (init ++ [l]).getD ((init ++ [l]).length - 1) [] = l := by simp [List.getD]
  rw [el]
  split
  ·rename_i e
   subst e
   exact ⟨h, fun z => ⟨.inl, fun hz => hz.elim id fun e => by simp [e]⟩⟩
  ·rename_i e
   have hlt : cmpI l x < 0 := XN (hx l (by simp)) e
   refine ⟨?_, fun z => by simp [or_assoc]⟩
   refine List.pairwise_append.2 ⟨h, List.pairwise_singleton _ _, fun o ho y hy => ?_⟩
   have : y = x := by simpa using hy
   subst this
   rcases List.mem_append.1 ho with ho | ho
   ·exact wD _ _ _ ((List.pairwise_append.1 h).2.2 o ho l (by simp)) hlt
   ·have : o = l := by simpa using ho
    subst this; exact hlt
def w7 : Packs → Packs → Packs → Packs
 | [], [], out => out
 | x :: a, [], out => w7 a [] (uM out x)
 | [], y :: b, out => w7 [] b (uM out y)
 | x :: a, y :: b, out => if Yr y x then w7 (x :: a) b (uM out y) else w7 a (y :: b) (uM out x)
termination_by a b => a.length + b.length
theorem fy : ∀ (n : Nat) (a b out : Packs), a.length + b.length = n → a.Pairwise (fun x y => leI x y = true) → b.Pairwise (fun x y => leI x y = true) → SS out → (∀ o ∈ out, ∀ z, z ∈ a ∨ z ∈ b → leI o z = true) →
 SS (w7 a b out) ∧ ∀ z, z ∈ w7 a b out ↔ z ∈ out ∨ z ∈ a ∨ z ∈ b
 | n, a, b, out, hn, ha, hb, ho, hz => by
   match a, b, n, hn, ha, hb with
   | [], [], _, _, _, _ => unfold w7; exact ⟨ho, fun z => by simp⟩
   | x :: a, [], n + 1, hn, ha, hb =>
     obtain ⟨a1, a2⟩ := List.pairwise_cons.1 ha
     obtain ⟨p1, p2⟩ := YE ho (fun o h => hz o h x (by simp))
     unfold w7
     obtain ⟨q1, q2⟩ := fy n a [] (uM out x) (by simp at hn ⊢; omega) a2 hb p1 (fun o h z hz' => by
      rcases (p2 o).1 h with h | rfl
      ·exact hz o h z (by rcases hz' with h | h; exact .inl (by simp [h]); exact .inr h)
      ·rcases hz' with h | h
       ·exact a1 z h
       ·cases h)
     exact ⟨q1, fun z => by rw [q2, p2]; simp [or_assoc]⟩
   | [], y :: b, n + 1, hn, ha, hb =>
     obtain ⟨b1, b2⟩ := List.pairwise_cons.1 hb
     obtain ⟨p1, p2⟩ := YE ho (fun o h => hz o h y (by simp))
     unfold w7
     obtain ⟨q1, q2⟩ := fy n [] b (uM out y) (by simp at hn ⊢; omega) ha b2 p1 (fun o h z hz' => by
      rcases (p2 o).1 h with h | rfl
      ·exact hz o h z (by rcases hz' with h | h; exact .inl h; exact .inr (by simp [h]))
      ·rcases hz' with h | h
       ·cases h
       ·exact b1 z h)
     exact ⟨q1, fun z => by rw [q2, p2]; simp [or_assoc]⟩
   | x :: a, y :: b, n + 1, hn, ha, hb =>
     obtain ⟨a1, a2⟩ := List.pairwise_cons.1 ha
     obtain ⟨b1, b2⟩ := List.pairwise_cons.1 hb
     unfold w7
     split
     ·rename_i c
      rw [PH] at c
      have hyx : leI y x = true := le_of_lt (of_decide_eq_true c)
      obtain ⟨p1, p2⟩ := YE ho (fun o h => hz o h y (by simp))
      obtain ⟨q1, q2⟩ := fy n (x :: a) b (uM out y) (by simp at hn ⊢; omega) ha b2 p1 (fun o h z hz' => by
       rcases (p2 o).1 h with h | rfl
       ·exact hz o h z (by rcases hz' with h | h; exact .inl h; exact .inr (by simp [h]))
       ·rcases hz' with h | h
        ·rcases List.mem_cons.1 h with rfl | h
         ·exact hyx
         ·exact XR _ _ _ hyx (a1 z h)
        ·exact b1 z h)
      refine ⟨q1, fun z => ?_⟩
      rw [q2, p2]
      simp only [List.mem_cons]
      constructor
      ·rintro ((h | h) | (h | h) | h) <;> simp [h]
      ·rintro (h | (h | h) | h | h) <;> simp [h]
     ·rename_i c
      rw [PH] at c
      have hxy : leI x y = true := SN.2 (by simpa using c)
      obtain ⟨p1, p2⟩ := YE ho (fun o h => hz o h x (by simp))
      obtain ⟨q1, q2⟩ := fy n a (y :: b) (uM out x) (by simp at hn ⊢; omega) a2 hb p1 (fun o h z hz' => by
       rcases (p2 o).1 h with h | rfl
       ·exact hz o h z (by rcases hz' with h | h; exact .inl (by simp [h]); exact .inr h)
       ·rcases hz' with h | h
        ·exact a1 z h
        ·rcases List.mem_cons.1 h with rfl | h
         ·exact hxy
         ·exact XR _ _ _ hxy (b1 z h))
      refine ⟨q1, fun z => ?_⟩
      rw [q2, p2]
      simp only [List.mem_cons]
      constructor
      ·rintro ((h | h) | h | h | h) <;> simp [h]
      ·rintro (h | (h | h) | h | h) <;> simp [h]
theorem La {l : Packs} (h : SS l) : l.Pairwise (fun x y => leI x y = true) := h.imp fun h => le_of_lt h
theorem Vi {a b : Packs} (ha : SS a) (hb : SS b) : w7 a b [] = setL (a ++ b) := by
 obtain ⟨h1, h2⟩ := fy _ a b [] rfl (La ha) (La hb) List.Pairwise.nil (fun o h => by cases h)
 exact SA h1 fun z => by rw [h2]; simp
theorem NL (out : Packs) : out.set (out.length - 1) (out.getD (out.length - 1) []) = out := by
 apply List.ext_getElem
 ·simp
 ·intro i h1 h2
  rw [List.getElem_set]
  split
  ·rename_i e
   subst e
   simp [List.getD, h2]
  ·rfl
theorem Ub {C : Nat → Packs → Option Packs} {z : Packs} (out : Packs) (x : List Int) (hx : x.length ≤ 1048576) (ho : out.length ≤ 4194304) (h12 : ∀ p ∈ out, p.length ≤ 1048576) (h : Ev (fun k => C k (uM out x)) z) :
 Ev (fun k => bif ((out.length : Int) == (0 : Int)) then
     (bif decide (([] : List Int).length + x.length ≤ rowMax) then
       (bif decide (out.length + ([(([] : List Int) ++ x)]).length ≤ rowMax) then C k (out ++ ([(([] : List Int) ++ x)])) else none) else none)
  else (bif decide (0 ≤ (IntKind.i64.wrap ((out.length : Int) - (1 : Int)))) then
   (bif decide ((IntKind.i64.wrap ((out.length : Int) - (1 : Int))) < (out.length : Int)) then
     (bif decide ((IntKind.i64.wrap ((out.length : Int) - (1 : Int))).toNat < out.length) then
       ((zO k ((out.getD (IntKind.i64.wrap ((out.length : Int) - (1 : Int))).toNat []), x)).bind fun y =>
         bif (!y) then
          (bif decide (([] : List Int).length + x.length ≤ rowMax) then
            (bif decide ((out.set (IntKind.i64.wrap ((out.length : Int) - (1 : Int))).toNat (out.getD (IntKind.i64.wrap ((out.length : Int) - (1 : Int))).toNat [])).length + ([(([] : List Int) ++ x)]).length ≤ rowMax) then
              C k ((out.set (IntKind.i64.wrap ((out.length : Int) - (1 : Int))).toNat (out.getD (IntKind.i64.wrap ((out.length : Int) - (1 : Int))).toNat [])) ++ ([(([] : List Int) ++ x)])) else none) else none)
         else C k (out.set (IntKind.i64.wrap ((out.length : Int) - (1 : Int))).toNat (out.getD (IntKind.i64.wrap ((out.length : Int) - (1 : Int))).toNat []))) else none) else none) else none)) z := by
 unfold uM at h
 refine Ev.ite (fun c => ?_) (fun c => ?_)
 ·have h0 : out.length = 0 := by have : (out.length : Int) = 0 := by simpa using c
                                 omega
  rw [if_pos h0] at h
  have e : out = [] := List.length_eq_zero_iff.1 h0
  subst e
  exact Ev.yes (by rw [za]; exact decide_eq_true (by simp; omega)) (Ev.yes (by rw [za]; simp) h)
 ·have h0 : ¬ out.length = 0 := by have : ¬ (out.length : Int) = 0 := by simpa using c
                                   omega
  rw [if_neg h0] at h
  have e : ((out.length : Int) - 1) = ((out.length - 1 : Nat) : Int) := by omega
  have hl : (out.getD (out.length - 1) []).length ≤ 1048576 := by
   have : out.length - 1 < out.length := by omega
   rw [List.getD, List.getElem?_eq_getElem this]
   exact h12 _ (List.getElem_mem this)
  simp only [e, zj (x := ((out.length - 1 : Nat) : Int)) (by omega) (by omega), Int.toNat_natCast, NL]
  refine Ev.yes (by simp) (Ev.yes (by simp; omega) (Ev.yes (by simp; omega) (Ev.bind (Zc _ x (by rw [ze]; omega) (by rw [ze]; omega)) (Ev.ite (fun c2 => ?_) (fun c2 => ?_)))))
  ·have : ¬ out.getD (out.length - 1) [] = x := by simpa using c2
   rw [if_neg this] at h
   exact Ev.yes (by rw [za]; exact decide_eq_true (by simp; omega)) (Ev.yes (by rw [za]; exact decide_eq_true (by simp; omega)) h)
  ·have : out.getD (out.length - 1) [] = x := by simpa using c2
   rw [if_pos this] at h
   exact h
theorem jG {out : Packs} {x : List Int} (hx : x.length ≤ 1048576) (h12 : ∀ p ∈ out, p.length ≤ 1048576) : ∀ p ∈ uM out x, p.length ≤ 1048576 := fun p hp => by
 unfold uM at hp
 split at hp
 ·have : p = x := by simpa using hp
  subst this; exact hx
 ·split at hp
  ·exact h12 p hp
  ·rcases List.mem_append.1 hp with h | h
   ·exact h12 p h
   ·have : p = x := by simpa using h
    subst this; exact hx
theorem bN {α : Type} (l : List α) : l.take ((l.length : Int)).toNat = l := by simp
theorem xi : ∀ (n : Nat) (a b out : Packs), a.length + b.length = n → out.length + n ≤ 4194304 → (∀ p ∈ a, p.length ≤ 1048576) → (∀ p ∈ b, p.length ≤ 1048576) → (∀ p ∈ out, p.length ≤ 1048576) →
 Ev (fun k => zf k a b out) (w7 a b out)
 | 0, a, b, out, hn, hl, h1, h2, h3 => by
   have ea : a = [] := List.length_eq_zero_iff.1 (by omega)
   have eb : b = [] := List.length_eq_zero_iff.1 (by omega)
   subst ea eb
   unfold w7
   exact Ev.step (fun k => xS k _ _ _) (Ev.no (by (first | (simp; done) | (simp; omega) | omega)) (Ev.no (by (first | (simp; done) | (simp; omega) | omega)) (Ev.pure _)))
 | n + 1, [], [], out, hn, hl, h1, h2, h3 => by simp at hn
 | n + 1, x :: a, [], out, hn, hl, h1, h2, h3 => by
   have hx := h1 x (by simp)
   have hp := aa out x
   have ih := xi n a [] (uM out x) (by simp at hn ⊢; omega) (by omega) (fun p hp => h1 p (by simp [hp])) h2 (jG hx h3)
   unfold w7
   refine Ev.step (fun k => xS k _ _ _) ?_
   simp only [bN, List.getD_cons_zero, List.drop_succ_cons, List.drop_zero]
   refine Ev.yes (by (first | (simp; done) | (simp; omega) | omega)) (Ev.yes (by (first | (simp; done) | (simp; omega) | omega)) (Ev.yes (by (first | (simp; done) | (simp; omega) | omega)) (Ev.yes (by (first | (simp; done) | (simp; omega) | omega)) (Ev.yes (by (first | (simp; done) | (simp; omega) | omega)) ?_))))
   exact Ub (C := fun k o => zf k a [] o) out x hx (by omega) h3 ih
 | n + 1, [], y :: b, out, hn, hl, h1, h2, h3 => by
   have hy := h2 y (by simp)
   have hp := aa out y
   have ih := xi n [] b (uM out y) (by simp at hn ⊢; omega) (by omega) h1 (fun p hp => h2 p (by simp [hp])) (jG hy h3)
   unfold w7
   refine Ev.step (fun k => xS k _ _ _) ?_
   simp only [bN, List.getD_cons_zero, List.drop_succ_cons, List.drop_zero]
   refine Ev.no (by (first | (simp; done) | (simp; omega) | omega)) (Ev.yes (by (first | (simp; done) | (simp; omega) | omega)) (Ev.no (by (first | (simp; done) | (simp; omega) | omega)) (Ev.no (by (first | (simp; done) | (simp; omega) | omega)) (Ev.yes (by (first | (simp; done) | (simp; omega) | omega)) (Ev.yes (by (first | (simp; done) | (simp; omega) | omega)) (Ev.yes (by (first | (simp; done) | (simp; omega) | omega)) ?_))))))
   exact Ub (C := fun k o => zf k [] b o) out y hy (by omega) h3 ih
 | n + 1, x :: a, y :: b, out, hn, hl, h1, h2, h3 => by
   have hx := h1 x (by simp)
   have hy := h2 y (by simp)
   have hp := aa out x
   have hp2 := aa out y
   have ihx := xi n a (y :: b) (uM out x) (by simp at hn ⊢; omega) (by omega) (fun p hp => h1 p (by simp [hp])) h2 (jG hx h3)
   have ihy := xi n (x :: a) b (uM out y) (by simp at hn ⊢; omega) (by omega) h1 (fun p hp => h2 p (by simp [hp])) (jG hy h3)
   unfold w7
   refine Ev.step (fun k => xS k _ _ _) ?_
   simp only [bN, List.getD_cons_zero, List.drop_succ_cons, List.drop_zero]
   refine Ev.yes (by (first | (simp; done) | (simp; omega) | omega)) (Ev.no (by (first | (simp; done) | (simp; omega) | omega)) (Ev.yes (by (first | (simp; done) | (simp; omega) | omega)) (Ev.yes (by (first | (simp; done) | (simp; omega) | omega)) (Ev.yes (by (first | (simp; done) | (simp; omega) | omega)) (Ev.bind (U5 y x (by rw [ze]; omega) (by rw [ze]; omega)) (Ev.ite (fun c => ?_) (fun c => ?_)))))))
   ·have : Yr y x = false := by simpa using c
    rw [this, if_neg (by simp)]
    refine Ev.yes (by (first | (simp; done) | (simp; omega) | omega)) (Ev.yes (by (first | (simp; done) | (simp; omega) | omega)) (Ev.yes (by (first | (simp; done) | (simp; omega) | omega)) ?_))
    exact Ub (C := fun k o => zf k a (y :: b) o) out x hx (by omega) h3 ihx
   ·have : Yr y x = true := by simpa using c
    rw [this, if_pos rfl]
    refine Ev.yes (by (first | (simp; done) | (simp; omega) | omega)) (Ev.yes (by (first | (simp; done) | (simp; omega) | omega)) (Ev.yes (by (first | (simp; done) | (simp; omega) | omega)) ?_))
    exact Ub (C := fun k o => zf k (x :: a) b o) out y hy (by omega) h3 ihy
theorem bZ (a b : Packs) (hl : a.length + b.length ≤ 4194304) (h1 : ∀ p ∈ a, p.length ≤ 1048576) (h2 : ∀ p ∈ b, p.length ≤ 1048576) : Ev (fun k => eB k (a, b)) (w7 a b []) :=
 Ev.step (fun k => V0 k a b) (xi _ a b [] rfl (by simpa using hl) h1 h2 (fun p hp => by cases hp))
theorem half2 (n : Nat) (h : n ≤ 4194304) : IntKind.i64.wrap ((n : Int).tdiv 2) = ((n / 2 : Nat) : Int) := by
 have : (n : Int).tdiv 2 = ((n / 2 : Nat) : Int) := by rw [Int.tdiv_eq_ediv_of_nonneg (by omega)]; omega
 rw [this, zj (by omega) (by omega)]
theorem vi : ∀ (n : Nat) (l : Packs), l.length ≤ n → l.length ≤ 1048576 → (∀ p ∈ l, p.length ≤ 1048576) → Ev (fun k => wi k l) (setL l)
 | n, l, hn, hl, h12 => by
   refine Ev.step (fun k => Ym k l) ?_
   refine Ev.ite (fun c => ?_) (fun c => ?_)
   ·have hlt : l.length < 2 := by have : (l.length : Int) < 2 := by simpa using c
                                  omega
    have hs : SS l := by
     match l, hlt with
     | [], _ => exact List.Pairwise.nil
     | [x], _ => exact List.pairwise_singleton _ _
    refine Ev.bind (bZ l [] (by simp; omega) h12 (fun p hp => by cases hp)) (Ev.some ?_)
    rw [Vi hs List.Pairwise.nil, List.append_nil]
   ·have hge : ¬ l.length < 2 := by have : ¬ (l.length : Int) < 2 := by simpa using c
                                    omega
    match n, hn with
    | 0, hn => omega
    | n + 1, hn =>
    have hA := vi n (l.take (l.length / 2)) (by simp; omega) (by simp; omega) (fun p hp => h12 p (List.mem_of_mem_take hp))
    have hB := vi n (l.drop (l.length / 2)) (by simp; omega) (by simp; omega) (fun p hp => h12 p (List.mem_of_mem_drop hp))
    have lA := jA (l.take (l.length / 2))
    have lB := jA (l.drop (l.length / 2))
    simp at lA lB
    simp only [half2 l.length (by omega), bN, Int.toNat_natCast, List.drop_zero, List.take_length]
    refine Ev.yes (by (first | (simp; done) | (simp; omega) | omega)) (Ev.yes (by (first | (simp; done) | (simp; omega) | omega)) (Ev.bind hA (Ev.yes (by (first | (simp; done) | (simp; omega) | omega)) (Ev.yes (by (first | (simp; done) | (simp; omega) | omega)) (Ev.yes (by (first | (simp; done) | (simp; omega) | omega)) (Ev.bind hB (Ev.bind (bZ _ _ (by omega) (fun p hp => ?_) (fun p hp => ?_)) (Ev.some ?_))))))))
    ·exact h12 p (List.mem_of_mem_take ((wg _ p).1 hp))
    ·exact h12 p (List.mem_of_mem_drop ((wg _ p).1 hp))
    ·rw [Vi (Xb _) (Xb _)]
     refine SA (Xb _) fun z => ?_
     rw [wg, List.mem_append, wg, wg, ← List.mem_append, List.take_append_drop]
end Qq
namespace Qq
open Go Go.Vt Pt
set_option linter.unusedVariables false
set_option linter.unusedSimpArgs false
def top : Int := 4611686018427387904
theorem ZM : top = 4611686018427387904 := rfl
def ww (k : Int) : Nat → List Int
 | 0 => []
 | n + 1 => k :: ww (k + 1) n
theorem W5 : ∀ (k : Int) (n : Nat), (ww k n).length = n
 | _, 0 => rfl
 | k, n + 1 => by show (ww (k + 1) n).length + 1 = n + 1; rw [W5]
theorem WP (xs : List Int) (hm : xs.length ≤ maxLen) : ∀ (r : List Int) (i : Nat) (k0 : Int) (done : List Int), xs.drop i = r → done.length = i → 0 ≤ k0 → k0 ≤ top - r.length →
 Ev (fun k => vo k k0 (i : Int) (done ++ r)) (k0 + r.length, done ++ ww k0 r.length) := by
 intro r
 induction r with
 | nil =>
   intro i k0 done h hl h0 h1
   have a := zJ h
   refine Ev.step (fun k => jZ k k0 i _) ?_
   have : decide ((i : Int) < ((done ++ ([] : List Int)).length : Int)) = false := by simp; omega
   refine Ev.no this (Ev.some ?_)
   simp [ww]
 | cons x r ih =>
   intro i k0 done h hl h0 h1
   have a := zi h hm
   have L : (done ++ x :: r).length = i + (r.length + 1) := by simp [hl]
   refine Ev.step (fun k => jZ k k0 i _) ?_
   refine Ev.yes (by rw [L]; simp; omega) (Ev.yes (by simp) (Ev.yes (by rw [L]; simp; omega) (Ev.yes (by rw [L]; simp) ?_)))
   rw [List.length_cons] at h1
   rw [zj (x := k0 + 1) (by omega) (by rw [ZM] at h1; omega), zj (x := (i : Int) + 1) (by omega) (by have := a.lt; rw [ze] at hm; omega)]
   have e : (done ++ x :: r).set (i : Int).toNat k0 = (done ++ [k0]) ++ r := by
    rw [Int.toNat_natCast, ← hl, List.set_append_right _ _ (Nat.le_refl _)]
    simp
   rw [e]
   have := ih (i + 1) (k0 + 1) (done ++ [k0]) a.next (by simp [hl]) (by omega) (by omega)
   have e2 : done ++ ww k0 (x :: r).length = (done ++ [k0]) ++ ww (k0 + 1) r.length := by simp [ww]
   have e3 : k0 + ((x :: r).length : Int) = k0 + 1 + (r.length : Int) := by simp; omega
   rw [e2, e3]
   exact_mod_cast this
theorem br (xs : List Int) (k0 : Int) (hm : xs.length ≤ maxLen) (h0 : 0 ≤ k0) (h1 : k0 ≤ top - xs.length) :
 Ev (fun k => uX k (xs, k0)) (k0 + xs.length, ww k0 xs.length) :=
 Ev.step (fun k => VQ k xs k0) (WP xs hm xs 0 k0 [] rfl rfl h0 h1)
theorem W0 (ys : List Int) (hm : ys.length ≤ maxLen) : ∀ (n : Nat) (i : Nat) (k0 : Int), ys.drop i = ww k0 n → 0 ≤ k0 → k0 ≤ top - n →
 Ev (fun k => vq k ys k0 (i : Int)) (k0 + n) := by
 intro n
 induction n with
 | zero =>
   intro i k0 h h0 h1
   have a := zJ h
   refine Ev.step (fun k => j8 k ys k0 i) ?_
   simp only [a.g, cond_false]
   exact Ev.some (by simp)
 | succ n ih =>
   intro i k0 h h0 h1
   have a := zi h hm
   refine Ev.step (fun k => j8 k ys k0 i) ?_
   simp only [a.g, a.z, a.get, a.w, cond_true]
   refine Ev.no (by simp) ?_
   rw [zj (x := k0 + 1) (by omega) (by rw [ZM] at h1; omega)]
   have := ih (i + 1) (k0 + 1) a.next (by omega) (by omega)
   have e3 : k0 + ((n + 1 : Nat) : Int) = k0 + 1 + (n : Int) := by omega
   rw [e3]
   exact this
theorem Wj (n : Nat) (k0 : Int) (hm : n ≤ maxLen) (h0 : 0 ≤ k0) (h1 : k0 ≤ top - n) :
 Ev (fun k => ef k (ww k0 n, k0)) (k0 + n) :=
 Ev.step (fun k => VS k _ k0) (W0 _ (by rw [W5]; exact hm) n 0 k0 rfl h0 h1)
end Qq
namespace Qq
open Go Go.Vt Pt
set_option linter.unusedVariables false
set_option linter.unusedSimpArgs false
end Qq
namespace Qq
open Go Go.Vt Pt
set_option linter.unusedVariables false
set_option linter.unusedSimpArgs false
abbrev Step : Type := Int × (Int × Int) × Int
abbrev xa : Type := List Int × List Step × Int × Int × Int
abbrev Scene : Type := List Int × Int
theorem Qm (xs : List Step) (n : Int) (hx : xs.length ≤ maxLen) (hn : 0 ≤ n) (hn2 : n ≤ 1048576) :
 Ev (fun k => YV k (xs, n)) (if n - (xs.length : Int) < 0 then -1 else n - xs.length) := by
 rw [ze] at hx
 refine Ev.step (fun k => UN k xs n) ?_
 rw [zj (by omega) (by omega)]
 split
 ·rename_i h; exact Ev.yes (by simpa using h) (Ev.pure _)
 ·rename_i h; exact Ev.no (by simpa using h) (Ev.pure _)
def szTrick (t : xa) (n : Int) : Int := if n - (t.1.length : Int) < 0 then -1 else if n - (t.1.length : Int) - (t.2.1.length : Int) < 0 then -1 else n - (t.1.length : Int) - (t.2.1.length : Int)
theorem Ql (t : xa) (n : Int) (h1 : t.1.length ≤ maxLen) (h2 : t.2.1.length ≤ maxLen) (hn : 0 ≤ n) (hn2 : n ≤ 1048576) : Ev (fun k => YU k (t, n)) (szTrick t n) := by
 refine Ev.step (fun k => UM k t n) (Ev.bind (Pn t.1 n h1 hn hn2) ?_)
 unfold szTrick
 split
 ·exact Ev.yes rfl (Ev.pure _)
 ·rename_i h
  refine Ev.no (by simpa using h) (Ev.bind (Qm t.2.1 _ h2 (by omega) (by omega)) ?_)
  split
  ·exact Ev.yes rfl (Ev.pure _)
  ·rename_i h'; exact Ev.no (by simpa using h') (Ev.pure _)
theorem Sx {t : xa} {n : Int} (hn : n ≤ 1048576) (h : ¬ szTrick t n < 0) : t.1.length ≤ 1048576 ∧ t.2.1.length ≤ 1048576 ∧ 0 ≤ szTrick t n ∧ szTrick t n ≤ n := by
 unfold szTrick at *
 split at h <;> rename_i h1
 ·exact absurd (by decide) h
 ·split at h <;> rename_i h2
  ·exact absurd (by decide) h
  ·rw [if_neg h1, if_neg h2]; omega
theorem bL (xs : List Step) (hm : xs.length ≤ maxLen) : ∀ (r : List Step) (i : Nat) (ys : List Step), xs.drop i = r → ys.length = xs.length → ys.take i = xs.take i → Ev (fun k => ur k xs (i : Int) ys) xs
 | [], i, ys, h, hl, ht => by
   have a := zJ h
   refine Ev.step (fun k => gz k xs i ys) ?_
   simp only [a.g, cond_false]
   have e : ys = xs := by
    have := a.ge
    rwa [List.take_of_length_le (by omega), List.take_of_length_le (by omega)] at ht
   exact Ev.some e
 | x :: r, i, ys, h, hl, ht => by
   have a := zi h hm
   have b1 : decide ((i : Int) < (ys.length : Int)) = true := by rw [hl]; exact a.g
   have b2 : decide ((i : Int).toNat < ys.length) = true := by rw [hl]; exact a.n
   refine Ev.step (fun k => gz k xs i ys) ?_
   simp only [a.g, a.z, cond_true]
   refine Ev.bind (Pi _) ?_
   simp only [b1, b2, a.w, a.get, cond_true]
   have hs := Pq (n := 0) (d := (0, ((0, 0), 0))) a.lt hl ht
   have g := a.get (0, ((0, 0), 0))
   rw [Int.toNat_natCast] at g
   rw [g] at hs
   exact bL xs hm r (i + 1) _ a.next (by simp [hl]) (by simpa using hs)
theorem Qi (xs : List Step) (hm : xs.length ≤ 1048576) : Ev (fun k => YS k xs) xs := by
 refine Ev.step (fun k => UL k xs) (Ev.yes (by simp) (Ev.yes (by rw [za]; simp; omega) (Ev.yes (by simp) ?_)))
 exact bL xs (by rw [ze]; omega) xs 0 _ rfl (by simp) (by simp)
theorem Qh (t : xa) (h1 : t.1.length ≤ 1048576) (h2 : t.2.1.length ≤ 1048576) : Ev (fun k => uV k t) t :=
 Ev.step (fun k => UK k t) (Ev.bind (Pk _ h1) (Ev.bind (Qi _ h2) (Ev.pure _)))
theorem Nh (s t : Step) : Ev (fun k => VT k (s, t)) (s == t) := by
 obtain ⟨a, ⟨b, c⟩, d⟩ := s
 obtain ⟨a', ⟨b', c'⟩, d'⟩ := t
 refine Ev.step (fun k => Sr k _ _) ?_
 have hm : Ev (fun k => VU k ((b, c), (b', c'))) ((b, c) == (b', c')) := by
  refine Ev.step (fun k => Ss k _ _) ?_
  repeat (first | (refine Ev.ite (fun h => ?_) (fun h => ?_)) | focus (refine Ev.some ?_; simp_all; done))
 refine Ev.ite (fun h => Ev.some ?_) (fun h => Ev.bind hm ?_)
 ·have : ¬ a = a' := by simpa using h
  simp [this]
 ·repeat (first | (refine Ev.ite (fun h => ?_) (fun h => ?_)) | focus (refine Ev.some ?_; simp_all; done))
theorem aM (xs ys : List Step) (hx : xs.length ≤ maxLen) (hy : ys.length ≤ maxLen) : ∀ (r s : List Step) (i : Nat), xs.drop i = r → ys.drop i = s → s.length = r.length → Ev (fun k => ut k xs ys (i : Int)) (r == s)
 | [], [], i, h1, h2, hl => by
   have a := zJ h1
   refine Ev.step (fun k => gB k xs ys i) ?_
   simp only [a.g, cond_false]
   exact Ev.pure _
 | x :: r, y :: s, i, h1, h2, hl => by
   have a := zi h1 hx
   have b := zi h2 hy
   refine Ev.step (fun k => gB k xs ys i) ?_
   simp only [a.g, a.z, b.g, a.get, b.get, a.w, cond_true]
   have ih := aM xs ys hx hy r s (i + 1) a.next b.next (by simpa using hl)
   refine Ev.bind (Nh x y) (Ev.ite (fun h => Ev.some ?_) (fun h => ih.to ?_))
   ·have : ¬ x = y := by simpa using h
    simp [this]
   ·have : x = y := by simpa using h
    simp [this]
 | [], _ :: _, _, _, _, hl => by simp at hl
 | _ :: _, [], _, _, _, hl => by simp at hl
theorem QO (xs ys : List Step) (hx : xs.length ≤ maxLen) (hy : ys.length ≤ maxLen) : Ev (fun k => YZ k (xs, ys)) (xs == ys) := by
 refine Ev.step (fun k => UP k xs ys) (Ev.ite (fun h => Ev.some ?_) (fun h => aM xs ys hx hy xs ys 0 rfl rfl ?_))
 ·have h' : ¬ xs.length = ys.length := by simp at h; omega
  have : ¬ xs = ys := fun e => h' (by rw [e])
  simp [this]
 ·simp at h; omega
theorem QN (t u : xa) (h1 : t.1.length ≤ maxLen) (h2 : t.2.1.length ≤ maxLen) (h3 : u.1.length ≤ maxLen) (h4 : u.2.1.length ≤ maxLen) : Ev (fun k => YX k (t, u)) (t == u) := by
 obtain ⟨a, b, c, d, e⟩ := t
 obtain ⟨a', b', c', d', e'⟩ := u
 refine Ev.step (fun k => UO k _ _) (Ev.bind (Wn _ _ h1 h3) ?_)
 refine Ev.ite (fun h => Ev.some ?_) (fun h => Ev.bind (QO _ _ h2 h4) ?_)
 ·have : ¬ a = a' := by simpa using h
  simp [this]
 ·have ea : a = a' := by simpa using h
  subst ea
  refine Ev.ite (fun h => Ev.some ?_) (fun h => ?_)
  ·have : ¬ b = b' := by simpa using h
   simp [this]
  ·have eb : b = b' := by simpa using h
   subst eb
   repeat (first | (refine Ev.ite (fun h => ?_) (fun h => ?_)) | focus (refine Ev.some ?_; simp_all; done))
end Qq
namespace Qq
open Go Go.Vt Pt
set_option linter.unusedVariables false
set_option linter.unusedSimpArgs false
abbrev TrickTy : Ty := .pair (.slice (.int .i64)) (.pair (.slice (.pair (.int .i64) (.pair (.pair (.int .i64) (.int .i64)) (.int .i64)))) (.pair (.int .i64) (.pair (.int .i64) (.int .i64))))
def um (n : Int) (p : List Int) (noted : Bool) (c a b : Int) : Bool :=
 if c = 0 then a == 0 && b == 0 else
 if c = 4 then a == 0 && b == 0 else
 if c = 1 then noted && (decide (0 ≤ a) && (decide (a < n) && b == 0)) else
 if c = 2 then decide (0 ≤ a) && (decide (a ≤ n) && b == 0) else
 if c = 3 then decide (0 ≤ pos p a) && (decide (0 ≤ b) && decide (b < n)) else false
def vf (n : Int) (l : List Step) : Bool := l.all (yB n)
def jR (l : List Step) : Bool := l.any fun s => s.1 == 3
def yl (t : xa) : Bool :=
 zF t.1 && (!(t.1.length == 0) && (decide (t.2.1.length ≤ 12) && (vf t.1.length t.2.1 && um t.1.length t.1 (jR t.2.1) t.2.2.1 t.2.2.2.1 t.2.2.2.2)))
theorem MZ (p : List Int) (st : List Step) (c a b n : Int) (nt : Bool) (hp : p.length ≤ maxLen) (hn : n = p.length) : Ev (fun k => Zk k ((p, st, c, a, b), n, nt)) (um n p nt c a b) := by
 have hw : IntKind.i64.wrap (n - 1) = n - 1 := by rw [ze] at hp; exact zj (by omega) (by omega)
 refine Ev.step (fun k => VZ k _ n nt) ?_
 unfold um
 dsimp only
 rw [hw]
 refine Ev.ite (fun h => ?_) (fun h => ?_)
 ·have e : c = 0 := by simpa using h
  rw [if_pos e]
  refine Ev.ite (fun h => Ev.some ?_) (fun h => Ev.some ?_) <;> simp [h]
 have e0 : ¬ c = 0 := by simpa using h
 rw [if_neg e0]
 refine Ev.ite (fun h => ?_) (fun h => ?_)
 ·have e : c = 4 := by simpa using h
  rw [if_pos e]
  refine Ev.ite (fun h => Ev.some ?_) (fun h => Ev.some ?_) <;> simp [h]
 have e4 : ¬ c = 4 := by simpa using h
 rw [if_neg e4]
 refine Ev.ite (fun h => ?_) (fun h => ?_)
 ·have e : c = 1 := by simpa using h
  rw [if_pos e]
  refine Ev.ite (fun h => Ev.bind (xT _ _ _) (Ev.ite (fun h' => Ev.some ?_) (fun h' => Ev.some ?_))) (fun h => Ev.some ?_)
  ·have : 0 ≤ a ∧ a ≤ n - 1 := by simpa using h'
   have h2 : a < n := by omega
   simp [h, this.1, h2]
  ·rw [Bool.eq_iff_iff]; simp at h' ⊢; intros; omega
  ·simp [h]
 have e1 : ¬ c = 1 := by simpa using h
 rw [if_neg e1]
 refine Ev.ite (fun h => ?_) (fun h => ?_)
 ·have e : c = 2 := by simpa using h
  rw [if_pos e]
  refine Ev.bind (xT _ _ _) (Ev.ite (fun h' => Ev.some ?_) (fun h' => Ev.some ?_))
  ·have : 0 ≤ a ∧ a ≤ n := by simpa using h'
   simp [this.1, this.2]
  ·rw [Bool.eq_iff_iff]; simp at h' ⊢; intros; omega
 have e2 : ¬ c = 2 := by simpa using h
 rw [if_neg e2]
 refine Ev.ite (fun h => ?_) (fun h => Ev.some ?_)
 ·have e : c = 3 := by simpa using h
  rw [if_pos e]
  refine Ev.bind (vM p a hp) (Ev.ite (fun h' => Ev.bind (xT _ _ _) (Ev.some ?_)) (fun h' => Ev.some ?_))
  ·have h3 : 0 ≤ pos p a := by simpa using h'
   rw [Bool.eq_iff_iff]; simp [h3]; intros; omega
  ·have h3 : ¬ 0 ≤ pos p a := by simpa using h'
   simp [h3]
 ·have e3 : ¬ c = 3 := by simpa using h
  rw [if_neg e3]
theorem vI (p : List Int) (c a b n : Int) (hp : p.length ≤ maxLen) (hn : n = p.length) (xs : List Step) (hm : xs.length ≤ maxLen) : ∀ (r : List Step) (i : Nat) (nt : Bool), xs.drop i = r →
 Ev (fun k => wX k n nt xs (xs.length : Int) (i : Int) p xs c a b) (vf n r && um n p (nt || jR r) c a b)
 | [], i, nt, h => by
   have q := zJ h
   refine Ev.step (fun k => fm k _ _ _ _ _ _ _ _ _ _) ?_
   simp only [q.g, cond_false]
   exact Ev.bind (MZ p xs c a b n nt hp hn) (Ev.some (by simp [vf, jR]))
 | s :: r, i, nt, h => by
   have q := zi h hm
   refine Ev.step (fun k => fm k _ _ _ _ _ _ _ _ _ _) ?_
   simp only [q.g, q.z, q.get, q.w, cond_true]
   refine Ev.bind (SD n s) (Ev.ite (fun h => Ev.some ?_) (fun h => Ev.ite (fun h2 => ?_) (fun h2 => ?_)))
   ·have : yB n s = false := by simpa using h
    simp [vf, this]
   ·have e : yB n s = true := by simpa using h
    refine (vI p c a b n hp hn xs hm r (i + 1) true q.next).to ?_
    simp [vf, e, h2]
   ·have e : yB n s = true := by simpa using h
    refine (vI p c a b n hp hn xs hm r (i + 1) (s.1 == 3) q.next).to ?_
    simp [vf, e, h2, jR]
theorem Tf (t : xa) (h1 : t.1.length ≤ maxLen) (h2 : t.2.1.length ≤ maxLen) : Ev (fun k => Xi k t) (yl t) := by
 obtain ⟨p, st, c, a, b⟩ := t
 unfold yl
 refine Ev.step (fun k => Tg k _) (Ev.bind (V6 p h1) (Ev.ite (fun h => Ev.some ?_) (fun h => Ev.ite (fun h' => Ev.some ?_) (fun h' => Ev.ite (fun h3 => Ev.some ?_) (fun h3 => ?_)))))
 ·have : zF p = false := by simpa using h
  simp [this]
 ·have : p.length = 0 := by simp at h'; simp [h']
  simp [this]
 ·have : ¬ st.length ≤ 12 := by simp at h3; omega
  simp [this]
 ·refine (vI p c a b _ h1 rfl st h2 st 0 false rfl).to ?_
  have e1 : zF p = true := by simpa using h
  have e2 : (p.length == 0) = false := by simp at h' ⊢; exact h'
  have e3 : st.length ≤ 12 := by simp at h3; omega
  simp [e1, e3, e2]
theorem Rl (xs : List Step) (hm : xs.length ≤ maxLen) (p : List Int) (hp : p.length ≤ maxLen) (hi : Ins p) (c a b n : Int) (hn : n = p.length) : ∀ (r : List Step) (i : Nat) (nt : Bool), xs.drop i = r →
 Ev (fun k => vb k n nt xs (xs.length : Int) (i : Int) p xs c a b) (vf n r && um n p (nt || jR r) c a b)
 | [], i, nt, h => by
   have q := zJ h
   refine Ev.step (fun k => fH k _ _ _ _ _ _ _ _ _ _) ?_
   simp only [q.g, cond_false]
   have e : (vf n [] && um n p (nt || jR []) c a b) = um n p nt c a b := by simp [vf, jR]
   rw [e]
   unfold um
   refine Ev.ite (fun h => ?_) (fun h => ?_)
   ·have e : c = 0 := by simpa using h
    rw [if_pos e]
    refine Ev.ite (fun h => Ev.some ?_) (fun h => Ev.some ?_) <;> simp [h]
   have e0 : ¬ c = 0 := by simpa using h
   rw [if_neg e0]
   refine Ev.ite (fun h => ?_) (fun h => ?_)
   ·have e : c = 4 := by simpa using h
    rw [if_pos e]
    refine Ev.ite (fun h => Ev.some ?_) (fun h => Ev.some ?_) <;> simp [h]
   have e4 : ¬ c = 4 := by simpa using h
   rw [if_neg e4]
   refine Ev.ite (fun h => ?_) (fun h => ?_)
   ·have e : c = 1 := by simpa using h
    rw [if_pos e]
    repeat (first | (refine Ev.ite (fun h => ?_) (fun h => ?_)) | focus (refine Ev.some ?_; simp_all; done) | focus (refine Ev.some ?_; simp_all; omega))
   have e1 : ¬ c = 1 := by simpa using h
   rw [if_neg e1]
   refine Ev.ite (fun h => ?_) (fun h => ?_)
   ·have e : c = 2 := by simpa using h
    rw [if_pos e]
    repeat (first | (refine Ev.ite (fun h => ?_) (fun h => ?_)) | focus (refine Ev.some ?_; simp_all; done) | focus (refine Ev.some ?_; simp_all; omega))
   have e2 : ¬ c = 2 := by simpa using h
   rw [if_neg e2]
   refine Ev.ite (fun h => ?_) (fun h => Ev.some ?_)
   ·have e : c = 3 := by simpa using h
    rw [if_pos e]
    refine Ev.bind (fO p a hp hi) (Ev.ite (fun h' => Ev.ite (fun h2 => Ev.some ?_) (fun h2 => Ev.some ?_)) (fun h' => Ev.some ?_))
    ·have h3 : 0 ≤ pos p a := by simpa using h'
     have h4 : 0 ≤ b := by simpa using h2
     simp [h3, h4]
    ·have h4 : ¬ 0 ≤ b := by simpa using h2
     simp [h4]
    ·have h3 : ¬ 0 ≤ pos p a := by simpa using h'
     simp [h3]
   ·have e3 : ¬ c = 3 := by simpa using h
    rw [if_neg e3]
 | s :: r, i, nt, h => by
   have q := zi h hm
   refine Ev.step (fun k => fH k _ _ _ _ _ _ _ _ _ _) ?_
   simp only [q.g, q.z, q.get, q.w, cond_true]
   refine Ev.bind (X9 n s) (Ev.ite (fun h => Ev.some ?_) (fun h => Ev.ite (fun h2 => ?_) (fun h2 => ?_)))
   ·have : yB n s = false := by simpa using h
    simp [vf, this]
   ·have e : yB n s = true := by simpa using h
    refine (Rl xs hm p hp hi c a b n hn r (i + 1) true q.next).to ?_
    simp [vf, e, h2]
   ·have e : yB n s = true := by simpa using h
    refine (Rl xs hm p hp hi c a b n hn r (i + 1) (s.1 == 3) q.next).to ?_
    simp [vf, e, h2, jR]
theorem fJ (t : xa) (h1 : t.1.length ≤ maxLen) (hi : Ins t.1) (h2 : t.2.1.length ≤ maxLen) : Ev (fun k => fK k t) (yl t) := by
 obtain ⟨p, st, c, a, b⟩ := t
 unfold yl
 refine Ev.step (fun k => TT k _) (Ev.bind (wq p h1 hi) (Ev.ite (fun h => Ev.some ?_) (fun h => Ev.ite (fun h' => Ev.some ?_) (fun h' => Ev.ite (fun h3 => Ev.some ?_) (fun h3 => ?_)))))
 ·have : zF p = false := by simpa using h
  simp [this]
 ·have : p.length = 0 := by simp at h'; simp [h']
  simp [this]
 ·have : ¬ st.length ≤ 12 := by simp at h3; omega
  simp [this]
 ·refine (Rl st h2 p h1 hi c a b _ rfl st 0 false rfl).to ?_
  have e1 : zF p = true := by simpa using h
  have e2 : (p.length == 0) = false := by simp at h' ⊢; exact h'
  have e3 : st.length ≤ 12 := by simp at h3; omega
  simp [e1, e3, e2]
theorem Ph {t : xa} (f : Fits TrickTy t) : t.1.length ≤ maxLen ∧ Ins t.1 ∧ t.2.1.length ≤ maxLen := ⟨f.1.1, fun x hx => In.of_fits (f.1.2 x hx), f.2.1.1⟩
theorem xX {t : xa} (h : yl t = true) : t.2.1.length ≤ 12 ∧ 1 ≤ t.1.length ∧ t.1.length ≤ 12 ∧ zF t.1 = true := by
 unfold yl at h
 simp only [Bool.and_eq_true, decide_eq_true_eq] at h
 have := xc h.1
 have h2 := h.2.1
 refine ⟨h.2.2.1, ?_, this.2.2, h.1⟩
 have : ¬ t.1.length = 0 := by simpa using h2
 omega
end Qq
namespace Qq
open Go Go.Vt Pt
set_option linter.unusedVariables false
set_option linter.unusedSimpArgs false
def isUp (x : Int) : Bool := decide (-12 ≤ x) && decide (x ≤ -1)
theorem Pr (x : Int) : Ev (fun k => Pu k x) (isUp x) := Ev.step (fun k => Ps k x) (Ev.bind (xT _ _ _) (Ev.pure _))
theorem P2 (x : Int) (hx : In x) : Ev (fun k => P4 k x) (isUp x) := by
 refine Ev.step (fun k => P3 k x) (Ev.ite (fun h => Ev.bind (xB x hx) (Ev.some ?_)) (fun h => Ev.some ?_))
 ·have h' : x < 0 := by simpa using h
  unfold isUp card
  rw [Bool.eq_iff_iff, if_neg (by omega)]
  by_cases h2 : -12 ≤ x ∧ x ≤ -1
  ·rw [if_pos h2]; simp; omega
  ·rw [if_neg h2]; simp; omega
 ·have h' : ¬ x < 0 := by simpa using h
  unfold isUp
  symm; simp; omega
def uk (p : List Int) : Nat := p.countP isUp
theorem vN (xs : List Int) (hm : xs.length ≤ maxLen) : ∀ (r : List Int) (i : Nat) (v : Nat), xs.drop i = r → v ≤ i → Ev (fun k => wZ k (v : Int) xs (xs.length : Int) (i : Int)) ((v : Int) + uk r)
 | [], i, v, h, hv => by
   have q := zJ h
   refine Ev.step (fun k => fq k _ _ _ _) ?_
   simp only [q.g, cond_false]
   exact Ev.some (by simp [uk])
 | s :: r, i, v, h, hv => by
   have q := zi h hm
   have := q.lt
   rw [ze] at hm
   refine Ev.step (fun k => fq k _ _ _ _) ?_
   simp only [q.g, q.z, q.get, q.w, cond_true]
   have e : uk (s :: r) = uk r + (if isUp s then 1 else 0) := by unfold uk; rw [List.countP_cons]
   rw [e]
   refine Ev.bind (Pr s) (Ev.ite (fun h => ?_) (fun h => ?_))
   ·rw [zj (by omega) (by omega)]
    refine (vN xs (by rw [ze]; exact hm) r (i + 1) (v + 1) q.next (by omega)).to ?_
    rw [if_pos h]; omega
   ·refine (vN xs (by rw [ze]; exact hm) r (i + 1) v q.next (by omega)).to ?_
    rw [h]; simp
theorem ue (xs : List Int) (hi : Ins xs) (hm : xs.length ≤ maxLen) : ∀ (r : List Int) (i : Nat) (v : Nat), xs.drop i = r → v ≤ i → Ev (fun k => vc k (v : Int) xs (xs.length : Int) (i : Int)) ((v : Int) + uk r)
 | [], i, v, h, hv => by
   have q := zJ h
   refine Ev.step (fun k => fQ k _ _ _ _) ?_
   simp only [q.g, cond_false]
   exact Ev.some (by simp [uk])
 | s :: r, i, v, h, hv => by
   have q := zi h hm
   have := q.lt
   have hs : In s := hi s (List.mem_of_mem_drop (h ▸ List.mem_cons_self))
   rw [ze] at hm
   refine Ev.step (fun k => fQ k _ _ _ _) ?_
   simp only [q.g, q.z, q.get, q.w, cond_true]
   have e : uk (s :: r) = uk r + (if isUp s then 1 else 0) := by unfold uk; rw [List.countP_cons]
   rw [e]
   refine Ev.bind (P2 s hs) (Ev.ite (fun h => ?_) (fun h => ?_))
   ·rw [zj (by omega) (by omega)]
    refine (ue xs hi (by rw [ze]; exact hm) r (i + 1) (v + 1) q.next (by omega)).to ?_
    rw [if_pos h]; omega
   ·refine (ue xs hi (by rw [ze]; exact hm) r (i + 1) v q.next (by omega)).to ?_
    rw [h]; simp
theorem PB (c : Int) : ∀ (r : List Int) (i a : Nat), (r.map card).Nodup → i ≤ a → a < i + r.length → (posF c i r = (a : Int) ↔ card (r.getD (a - i) 0) = c)
 | [], i, a, _, h1, h2 => by simp at h2; omega
 | y :: r, i, a, hn, h1, h2 => by
   rw [List.map_cons, List.nodup_cons] at hn
   unfold posF
   by_cases e : a = i
   ·subst e
    simp only [Nat.sub_self, List.getD_cons_zero]
    by_cases hc : card y = c
    ·simp [hc]
    ·rw [if_neg hc]
     constructor
     ·intro h
      exfalso
      have : ∀ (r : List Int) (j : Nat), a < j → posF c j r ≠ (a : Int) := by
       intro r
       induction r with
       | nil => intro j hj; show (-1 : Int) ≠ _; omega
       | cons z r ih =>
         intro j hj
         unfold posF
         split
         ·omega
         ·exact ih (j + 1) (by omega)
      exact this r (a + 1) (by omega) h
     ·intro h; exact absurd h hc
   ·have g : (y :: r).getD (a - i) 0 = r.getD (a - (i + 1)) 0 := by
     have : a - i = (a - (i + 1)) + 1 := by omega
     rw [this, List.getD_cons_succ]
    rw [g]
    have hlt : a - (i + 1) < r.length := by rw [List.length_cons] at h2; omega
    by_cases hc : card y = c
    ·rw [if_pos hc]
     constructor
     ·intro h; omega
     ·intro h
      exfalso
      apply hn.1
      rw [hc, ← h]
      rw [List.getD, List.getElem?_eq_getElem hlt]
      exact List.mem_map_of_mem (List.getElem_mem hlt)
    ·rw [if_neg hc]
     exact PB c r (i + 1) a hn.2 (by omega) (by rw [List.length_cons] at h2; omega)
theorem Mp {p : List Int} {c a : Int} (hp : zF p = true) (hc : 0 ≤ c) (h0 : 0 ≤ a) (h1 : a < p.length) : (pos p c == a) = (card (p.getD a.toNat 0) == c) := by
 have hf := xc hp
 have := PB c p 0 a.toNat hf.1 (by omega) (by omega)
 have e : ((a.toNat : Nat) : Int) = a := by omega
 rw [e, Nat.sub_zero] at this
 unfold pos
 rw [if_neg (by omega), Bool.eq_iff_iff]
 simpa using this
def jh (t : xa) (c : Scene) : Bool :=
 if t.2.2.1 = 1 then decide (c.2 ≥ 0) && pos c.1 c.2 == t.2.2.2.1 else
 if t.2.2.1 = 2 then (uk c.1 : Int) == t.2.2.2.1 else
 if t.2.2.1 = 3 then pos c.1 t.2.2.2.1 == t.2.2.2.2 else
 if t.2.2.1 = 4 then c.1 == t.1 else true
theorem SO (t : xa) (c : Scene) (a1 : t.1.length ≤ maxLen) (b1 : c.1.length ≤ maxLen) : Ev (fun k => Zj k (t, c)) (jh t c) := by
 unfold jh
 refine Ev.step (fun k => VY k t c) (Ev.ite (fun h => ?_) (fun h => ?_))
 ·have e : t.2.2.1 = 1 := by simpa using h
  rw [if_pos e]
  exact Ev.ite (fun h => Ev.bind (vM c.1 c.2 b1) (Ev.some (by rw [h]; rfl))) (fun h => Ev.some (by rw [h]; rfl))
 ·have e : ¬ t.2.2.1 = 1 := by simpa using h
  rw [if_neg e]
  refine Ev.ite (fun h => ?_) (fun h => ?_)
  ·have e : t.2.2.1 = 2 := by simpa using h
   rw [if_pos e]
   refine Ev.bind (Ev.step (fun k => Ti k c.1) (vN c.1 b1 c.1 0 0 rfl (by omega))) (Ev.some (by simp))
  ·have e : ¬ t.2.2.1 = 2 := by simpa using h
   rw [if_neg e]
   refine Ev.ite (fun h => ?_) (fun h => ?_)
   ·have e : t.2.2.1 = 3 := by simpa using h
    rw [if_pos e]
    exact Ev.bind (vM c.1 _ b1) (Ev.pure _)
   ·have e : ¬ t.2.2.1 = 3 := by simpa using h
    rw [if_neg e]
    refine Ev.ite (fun h => ?_) (fun h => ?_)
    ·have e : t.2.2.1 = 4 := by simpa using h
     rw [if_pos e]
     exact Ev.bind (Zc c.1 t.1 b1 a1) (Ev.pure _)
    ·have e : ¬ t.2.2.1 = 4 := by simpa using h
     rw [if_neg e]
     exact Ev.pure _
def jn (t : xa) (c : Scene) : Bool := yl t && (WS t.1 c.1 && jh t c)
theorem PN {p q : List Int} (h : WS p q = true) : zF q = true ∧ q.length = p.length := by
 unfold WS at h
 simp only [Bool.and_eq_true, beq_iff_eq] at h
 exact ⟨h.2.1, h.2.2.1.symm⟩
theorem fT (t : xa) (c : Scene) (a1 : t.1.length ≤ maxLen) (ai : Ins t.1) (a2 : t.2.1.length ≤ maxLen) (b1 : c.1.length ≤ maxLen) (bi : Ins c.1) : Ev (fun k => uI k (t, c)) (jn t c) := by
 unfold jn
 refine Ev.step (fun k => Wf k t c) (Ev.bind (fJ t a1 ai a2) (Ev.ite (fun h => Ev.some ?_) (fun h => ?_)))
 ·have : yl t = false := by simpa using h
  rw [this]; rfl
 have e : yl t = true := by simpa using h
 rw [e, Bool.true_and]
 refine Ev.bind (aF t.1 c.1 a1 ai b1 bi) (Ev.ite (fun h => Ev.some ?_) (fun h => ?_))
 ·have : WS t.1 c.1 = false := by simpa using h
  rw [this]; rfl
 have e2 : WS t.1 c.1 = true := by simpa using h
 rw [e2, Bool.true_and]
 obtain ⟨hq, hlen⟩ := PN e2
 have hclaim : um t.1.length t.1 (jR t.2.1) t.2.2.1 t.2.2.2.1 t.2.2.2.2 = true := by
  unfold yl at e
  simp only [Bool.and_eq_true] at e
  exact e.2.2.2.2
 unfold jh
 refine Ev.ite (fun h => ?_) (fun h => ?_)
 ·have ec : t.2.2.1 = 1 := by simpa using h
  rw [if_pos ec]
  unfold um at hclaim
  rw [if_neg (by omega), if_neg (by omega), if_pos ec] at hclaim
  simp only [Bool.and_eq_true, decide_eq_true_eq, beq_iff_eq] at hclaim
  refine Ev.ite (fun h => ?_) (fun h => Ev.some (by rw [h]; rfl))
  have hc : 0 ≤ c.2 := by simpa using h
  have hlt : t.2.2.2.1 < (c.1.length : Int) := by rw [hlen]; exact hclaim.2.2.1
  refine Ev.yes (by simpa using hclaim.2.1) (Ev.yes (by simpa using hlt) ?_)
  have hin : In (c.1.getD t.2.2.2.1.toNat 0) := by
   have : t.2.2.2.1.toNat < c.1.length := by have := hclaim.2.1; omega
   rw [List.getD, List.getElem?_eq_getElem this]
   exact bi _ (List.getElem_mem this)
  refine Ev.bind (xB _ hin) (Ev.some ?_)
  rw [h, Bool.true_and, Mp hq hc hclaim.2.1 hlt]
 ·have e1 : ¬ t.2.2.1 = 1 := by simpa using h
  rw [if_neg e1]
  refine Ev.ite (fun h => ?_) (fun h => ?_)
  ·have e : t.2.2.1 = 2 := by simpa using h
   rw [if_pos e]
   refine Ev.bind (Ev.step (fun k => TW k c.1) (ue c.1 bi b1 c.1 0 0 rfl (by omega))) (Ev.some (by simp))
  ·have e2 : ¬ t.2.2.1 = 2 := by simpa using h
   rw [if_neg e2]
   refine Ev.ite (fun h => ?_) (fun h => ?_)
   ·have ec : t.2.2.1 = 3 := by simpa using h
    rw [if_pos ec]
    unfold um at hclaim
    rw [if_neg (by omega), if_neg (by omega), if_neg (by omega), if_neg (by omega), if_pos ec] at hclaim
    simp only [Bool.and_eq_true, decide_eq_true_eq] at hclaim
    have hc : 0 ≤ t.2.2.2.1 := by
     have := hclaim.1
     unfold pos at this
     split at this
     ·omega
     ·omega
    have hlt : t.2.2.2.2 < (c.1.length : Int) := by rw [hlen]; exact hclaim.2.2
    refine Ev.yes (by simpa using hclaim.2.1) (Ev.yes (by simpa using hlt) ?_)
    have hin : In (c.1.getD t.2.2.2.2.toNat 0) := by
     have : t.2.2.2.2.toNat < c.1.length := by have := hclaim.2.1; omega
     rw [List.getD, List.getElem?_eq_getElem this]
     exact bi _ (List.getElem_mem this)
    refine Ev.bind (xB _ hin) (Ev.some ?_)
    rw [Mp hq hc hclaim.2.1 hlt]
   ·have e3 : ¬ t.2.2.1 = 3 := by simpa using h
    rw [if_neg e3]
    refine Ev.ite (fun h => ?_) (fun h => ?_)
    ·have e : t.2.2.1 = 4 := by simpa using h
     rw [if_pos e]
     exact Ev.bind (f8 c.1 t.1 b1 a1) (Ev.pure _)
    ·have e : ¬ t.2.2.1 = 4 := by simpa using h
     rw [if_neg e]
     exact Ev.pure _
end Qq
namespace Qq
open Go Go.Vt Pt
set_option linter.unusedVariables false
set_option linter.unusedSimpArgs false
end Qq
namespace Qq
open Go Go.Vt Pt
set_option linter.unusedVariables false
set_option linter.unusedSimpArgs false
set_option linter.unnecessarySimpa false
end Qq
namespace Qq
open Go Go.Vt Pt
set_option linter.unusedVariables false
set_option linter.unusedSimpArgs false
set_option linter.unnecessarySimpa false
def cutL (p : List Int) (k : Nat) : List Int := p.drop k ++ p.take k
def fY (p : List Int) : Packs := (List.range p.length).map (cutL p)
theorem Nm {p : List Int} {i : Nat} (hp : p.length ≤ 12) (hi : i < p.length) : MoveFit p.length (1, (i : Int)) :=
 ⟨by omega, hp, by simp, .inl (by simp; omega), fun _ => by simp; omega, fun h => by simp at h, fun h => by simp at h⟩
theorem VA (p : List Int) (i : Nat) : ji p (1, (i : Int)) = cutL p i := by simp [ji, cutL]
theorem u6 (n : Nat) (f : Nat → List Int) : (List.range (n + 1)).map f = (List.range n).map f ++ [f n] := by rw [List.range_succ, List.map_append]; rfl
theorem gV (p : List Int) (hp : p.length ≤ 12) (hi : Ins p) : ∀ (m i : Nat), i + m = p.length → Ev (fun k => ux k p (p.length : Int) (i : Int) ((List.range i).map (cutL p))) (fY p)
 | 0, i, h => by
   refine Ev.step (fun k => gW k _ _ _ _) (Ev.no (by simp; omega) (Ev.some ?_))
   have : i = p.length := by omega
   rw [this]; rfl
 | m + 1, i, h => by
   have ih := gV p hp hi m (i + 1) (by omega)
   rw [u6] at ih
   have ew : IntKind.i64.wrap ((i : Int) + 1) = ((i + 1 : Nat) : Int) := by rw [zj (by omega) (by omega)]; omega
   refine Ev.step (fun k => gW k _ _ _ _) ?_
   simp only [ew]
   refine Ev.yes (by simp; omega) (Ev.bind (Vc p _ (Nm hp (by omega)) hi) ?_)
   rw [VA]
   exact Ev.yes (by rw [za]; exact decide_eq_true (by simp; omega)) ih
theorem ZS (p : List Int) (hp : p.length ≤ 12) (hi : Ins p) : Ev (fun k => b3 k p) (fY p) :=
 Ev.step (fun k => U7 k _) (gV p hp hi p.length 0 (by omega))
theorem Z6 (p : List Int) (hp : p.length ≤ 12) (hi : Ins p) : ∀ (m i : Nat), i + m = p.length → Ev (fun k => aB k p (p.length : Int) (i : Int) ((List.range i).map (cutL p))) (fY p)
 | 0, i, h => by
   refine Ev.step (fun k => Z7 k _ _ _ _) (Ev.no (by simp; omega) (Ev.some ?_))
   have : i = p.length := by omega
   rw [this]; rfl
 | m + 1, i, h => by
   have ih := Z6 p hp hi m (i + 1) (by omega)
   rw [u6] at ih
   have ew : IntKind.i64.wrap ((i : Int) + 1) = ((i + 1 : Nat) : Int) := by rw [zj (by omega) (by omega)]; omega
   refine Ev.step (fun k => Z7 k _ _ _ _) ?_
   simp only [ew]
   refine Ev.yes (by simp; omega) (Ev.bind (Zq p _ (Nm hp (by omega)) hi) ?_)
   rw [VA]
   exact Ev.yes (by rw [za]; exact decide_eq_true (by simp; omega)) ih
theorem TS (p : List Int) (hp : p.length ≤ 12) (hi : Ins p) : Ev (fun k => RT k p) (fY p) :=
 Ev.step (fun k => PY k _) (Z6 p hp hi p.length 0 (by omega))
def SK (p : List Int) (i : Nat) : List Int := [p.getD i 0] ++ (p.take i ++ p.drop (i + 1))
def ZU (p : List Int) : Packs := (List.range p.length).map (SK p)
theorem cj (p : List Int) (hp : p.length ≤ 12) : ∀ (m i : Nat), i + m = p.length → Ev (fun k => jB k p p (p.length : Int) (i : Int) ((List.range i).map (SK p))) (ZU p)
 | 0, i, h => by
   refine Ev.step (fun k => cq k _ _ _ _ _) (Ev.no (by simp; omega) (Ev.some ?_))
   have : i = p.length := by omega
   rw [this]; rfl
 | m + 1, i, h => by
   have ih := cj p hp m (i + 1) (by omega)
   rw [u6] at ih
   have ew : IntKind.i64.wrap ((i : Int) + 1) = ((i + 1 : Nat) : Int) := by rw [zj (by omega) (by omega)]; omega
   refine Ev.step (fun k => cq k _ _ _ _ _) ?_
   simp only [ew, yN, Int.toNat_natCast, List.take_length, List.drop_zero, List.nil_append]
   refine Ev.yes (by simp; omega) ?_
   (repeat (first | refine Ev.yes (by (first | (simp [za]; done) | (simp [za]; omega) | omega)) ?_ | refine Ev.no (by (first | (simp [za]; done) | (simp [za]; omega) | omega)) ?_))
   exact ih
theorem Z8 (p : List Int) (hp : p.length ≤ 12) : ∀ (m i : Nat), i + m = p.length → Ev (fun k => aC k p (p.length : Int) (i : Int) ((List.range i).map (SK p))) (ZU p, true)
 | 0, i, h => by
   refine Ev.step (fun k => Z9 k _ _ _ _) (Ev.no (by simp; omega) (Ev.some ?_))
   have : i = p.length := by omega
   rw [this]; rfl
 | m + 1, i, h => by
   have ih := Z8 p hp m (i + 1) (by omega)
   rw [u6] at ih
   have hil : i < p.length := by omega
   have ew : IntKind.i64.wrap ((i : Int) + 1) = ((i + 1 : Nat) : Int) := by rw [zj (by omega) (by omega)]; omega
   refine Ev.step (fun k => Z9 k _ _ _ _) ?_
   simp only [ew, yN, Int.toNat_natCast, List.take_length, List.drop_zero, List.nil_append]
   refine Ev.yes (by simp; omega) ?_
   (repeat (first | refine Ev.yes (by (first | (simp [za]; done) | (simp [za]; omega) | omega)) ?_ | refine Ev.no (by (first | (simp [za]; done) | (simp [za]; omega) | omega)) ?_))
   have e1 : (p.take (i + 1)).drop i = [p.getD i 0] := by
    rw [List.take_add_one, List.getElem?_eq_getElem hil, List.drop_append_of_le_length (by simp; omega), List.drop_eq_nil_of_le (by simp; omega)]
    simp [List.getD, hil]
   refine Ev.bind ((WG [(p.take (i + 1)).drop i, p.take i, p.drop (i + 1)] (by rw [ze]; simp) (by simp; omega)).to (show _ = SK p i by rw [e1]; simp [SK])) ?_
   exact Ev.yes (by rw [za]; exact decide_eq_true (by simp; omega)) ih
def wv : List Int → List Int → List Int → Packs
 | d, [], [] => [d]
 | d, x :: a, [] => wv (d ++ [x]) a []
 | d, [], y :: b => wv (d ++ [y]) [] b
 | d, x :: a, y :: b => wv (d ++ [x]) a (y :: b) ++ wv (d ++ [y]) (x :: a) b
termination_by _ a b => a.length + b.length
theorem W4 : ∀ (n : Nat) (d a b : List Int), a.length + b.length = n → (wv d a b).length ≤ 2 ^ n
 | n, d, [], [], h => by unfold wv; simp; exact Nat.one_le_two_pow
 | n + 1, d, x :: a, [], h => by
   unfold wv
   have := W4 n (d ++ [x]) a [] (by simp at h ⊢; omega)
   rw [Nat.pow_succ]; omega
 | n + 1, d, [], y :: b, h => by
   unfold wv
   have := W4 n (d ++ [y]) [] b (by simp at h ⊢; omega)
   rw [Nat.pow_succ]; omega
 | n + 1, d, x :: a, y :: b, h => by
   unfold wv
   have h1 := W4 n (d ++ [x]) a (y :: b) (by simp at h ⊢; omega)
   have h2 := W4 n (d ++ [y]) (x :: a) b (by simp at h ⊢; omega)
   rw [List.length_append, Nat.pow_succ]; omega
 | 0, d, x :: a, _, h => by simp at h
 | 0, d, [], y :: b, h => by simp at h
theorem wh : ∀ (n : Nat) (out : Packs) (d a b : List Int), a.length + b.length = n → d.length + n ≤ 100 → out.length + 2 ^ n ≤ 1048576 → Ev (fun k => xF k (out, d, a, b)) (out ++ wv d a b)
 | n, out, d, [], [], h, hd, ho => by
   have : 1 ≤ 2 ^ n := Nat.one_le_two_pow
   unfold wv
   refine Ev.step (fun k => vr k _ _ _ _) (Ev.yes (by (first | (simp [za]; done) | (simp [za]; omega) | omega)) (Ev.yes (by (first | (simp [za]; done) | (simp [za]; omega) | omega)) (Ev.yes (by rw [za]; exact decide_eq_true (by simp; omega)) (Ev.pure _))))
 | n + 1, out, d, x :: a, [], h, hd, ho => by
   rw [Nat.pow_succ] at ho
   have ih := wh n out (d ++ [x]) a [] (by simp at h ⊢; omega) (by simp; omega) (by omega)
   unfold wv
   refine Ev.step (fun k => vr k _ _ _ _) ?_
   simp only [yN, List.nil_append, List.getD_cons_zero, List.drop_succ_cons, List.drop_zero]
   refine Ev.no (by (first | (simp [za]; done) | (simp [za]; omega) | omega)) (Ev.yes (by (first | (simp [za]; done) | (simp [za]; omega) | omega)) (Ev.yes (by (first | (simp [za]; done) | (simp [za]; omega) | omega)) (Ev.yes (by (first | (simp [za]; done) | (simp [za]; omega) | omega)) (Ev.yes (by (first | (simp [za]; done) | (simp [za]; omega) | omega)) (Ev.yes (by (first | (simp [za]; done) | (simp [za]; omega) | omega)) (Ev.yes (by (first | (simp [za]; done) | (simp [za]; omega) | omega)) (Ev.bind ih (Ev.no (by (first | (simp [za]; done) | (simp [za]; omega) | omega)) (Ev.pure _)))))))))
 | n + 1, out, d, [], y :: b, h, hd, ho => by
   rw [Nat.pow_succ] at ho
   have ih := wh n out (d ++ [y]) [] b (by simp at h ⊢; omega) (by simp; omega) (by omega)
   unfold wv
   refine Ev.step (fun k => vr k _ _ _ _) ?_
   simp only [yN, List.nil_append, List.getD_cons_zero, List.drop_succ_cons, List.drop_zero]
   refine Ev.yes (by (first | (simp [za]; done) | (simp [za]; omega) | omega)) (Ev.no (by (first | (simp [za]; done) | (simp [za]; omega) | omega)) (Ev.no (by (first | (simp [za]; done) | (simp [za]; omega) | omega)) (Ev.yes (by (first | (simp [za]; done) | (simp [za]; omega) | omega)) (Ev.yes (by (first | (simp [za]; done) | (simp [za]; omega) | omega)) (Ev.yes (by (first | (simp [za]; done) | (simp [za]; omega) | omega)) (Ev.yes (by (first | (simp [za]; done) | (simp [za]; omega) | omega)) (Ev.yes (by (first | (simp [za]; done) | (simp [za]; omega) | omega)) (Ev.yes (by (first | (simp [za]; done) | (simp [za]; omega) | omega)) (Ev.bind ih (Ev.pure _))))))))))
 | n + 1, out, d, x :: a, y :: b, h, hd, ho => by
   rw [Nat.pow_succ] at ho
   have hl := W4 n (d ++ [x]) a (y :: b) (by simp at h ⊢; omega)
   have i1 := wh n out (d ++ [x]) a (y :: b) (by simp at h ⊢; omega) (by simp; omega) (by omega)
   have i2 := wh n (out ++ wv (d ++ [x]) a (y :: b)) (d ++ [y]) (x :: a) b (by simp at h ⊢; omega) (by simp; omega) (by simp; omega)
   unfold wv
   refine Ev.step (fun k => vr k _ _ _ _) ?_
   simp only [yN, List.nil_append, List.getD_cons_zero, List.drop_succ_cons, List.drop_zero]
   refine Ev.no (by (first | (simp [za]; done) | (simp [za]; omega) | omega)) (Ev.yes (by (first | (simp [za]; done) | (simp [za]; omega) | omega)) (Ev.yes (by (first | (simp [za]; done) | (simp [za]; omega) | omega)) (Ev.yes (by (first | (simp [za]; done) | (simp [za]; omega) | omega)) (Ev.yes (by (first | (simp [za]; done) | (simp [za]; omega) | omega)) (Ev.yes (by (first | (simp [za]; done) | (simp [za]; omega) | omega)) (Ev.yes (by (first | (simp [za]; done) | (simp [za]; omega) | omega)) (Ev.bind i1 ?_)))))))
   refine Ev.yes (by (first | (simp [za]; done) | (simp [za]; omega) | omega)) (Ev.yes (by (first | (simp [za]; done) | (simp [za]; omega) | omega)) (Ev.yes (by (first | (simp [za]; done) | (simp [za]; omega) | omega)) (Ev.yes (by (first | (simp [za]; done) | (simp [za]; omega) | omega)) (Ev.yes (by (first | (simp [za]; done) | (simp [za]; omega) | omega)) (Ev.yes (by (first | (simp [za]; done) | (simp [za]; omega) | omega)) (Ev.bind i2 (Ev.some (by simp))))))))
 | 0, out, d, x :: a, _, h, hd, ho => by simp at h
 | 0, out, d, [], y :: b, h, hd, ho => by simp at h
end Qq
namespace Qq
open Go Go.Vt Pt
set_option linter.unusedVariables false
set_option linter.unusedSimpArgs false
def rfi : Nat → Nat → List Bool → List Nat
 | _, _, [] => []
 | f, s, true :: r => s :: rfi f (s + 1) r
 | f, s, false :: r => f :: rfi (f + 1) s r
def zI : List Bool → Nat
 | [] => 0 | true :: r => zI r | false :: r => zI r + 1
def xN : List Bool → Nat
 | [] => 0 | true :: r => xN r + 1 | false :: r => xN r
def xp : Nat → Nat → List Bool
 | 0, _ => [] | m + 1, w => Nat.beq (w % 2) 1 :: xp m (w / 2)
def SI (n w : Nat) : List Nat := rfi 0 (zI (xp n w)) (xp n w)
def decGo : Nat → Option Nat → List Nat → Nat
 | _, _, [] => 0
 | i, none, x :: r => bif Nat.beq x i then decGo (i + 1) none r else 2 ^ i + decGo (i + 1) (some x) r
 | i, some s, x :: r => (bif Nat.ble s x then 2 ^ i else 0) + decGo (i + 1) (some s) r
def isIdB : Nat → List Nat → Bool
 | _, [] => true | i, x :: r => Nat.beq x i && isIdB (i + 1) r
def wellW (w : Nat) : Bool := !isIdB 0 (SI 12 w)
theorem riff12 : ((List.range 4096).all fun w => isIdB 0 (SI 12 w) || Nat.beq (decGo 0 none (SI 12 w)) w) = true := by kernel_rfl
theorem To : ((List.range 4096).filter wellW).length = 4083 := by kernel_rfl
theorem Tw {α : Type} [DecidableEq α] : ∀ {l m : List α}, l.Nodup → (∀ x ∈ l, x ∈ m) → l.length ≤ m.length
 | [], m, _, _ => Nat.zero_le _
 | x :: l, m, h, hs => by
   obtain ⟨h1, h2⟩ := List.nodup_cons.1 h
   have hx := hs x (by simp)
   have := Tw (l := l) (m := m.erase x) h2 fun y hy => (List.mem_erase_of_ne (fun e => h1 (by rw [e] at hy; exact hy))).2 (hs y (by simp [hy]))
   rw [List.length_erase_of_mem hx] at this
   have : 0 < m.length := List.length_pos_of_mem hx
   simp; omega
end Qq
namespace Qq
open Go Go.Vt Pt
set_option linter.unusedVariables false
set_option linter.unusedSimpArgs false
def bits : Nat → Nat → List Bool
 | 0, _ => []
 | n + 1, w => (w % 2 == 1) :: bits n (w / 2)
theorem UA (w i : Nat) (hi : i < 64) (hw : w < 9223372036854775808) : IntKind.i64.wrap (((BitVec.ofInt IntKind.i64.bits (((w : Int)).fdiv (2 ^ (min ((i : Int)).toNat IntKind.i64.bits))) &&& BitVec.ofInt IntKind.i64.bits (1 : Int)).toNat : Int)) = ((w / 2 ^ i % 2 : Nat) : Int) := by
 have hb : IntKind.i64.bits = 64 := by decide
 rw [hb, Int.toNat_natCast, Nat.min_eq_left (by omega)]
 have e1 : ((w : Int)).fdiv (2 ^ i) = ((w / 2 ^ i : Nat) : Int) := by
  rw [Int.fdiv_eq_ediv_of_nonneg _ (by exact Int.le_of_lt (Int.pow_pos (by decide)))]
  norm_cast
 have e2 : (BitVec.ofInt 64 ((w / 2 ^ i : Nat) : Int) &&& BitVec.ofInt 64 (1 : Int)).toNat = w / 2 ^ i % 2 := by
  have h1 : (1 : Int) = ((1 : Nat) : Int) := rfl
  rw [h1, BitVec.ofInt_natCast, BitVec.ofInt_natCast, BitVec.toNat_and, BitVec.toNat_ofNat, BitVec.toNat_ofNat]
  have hlt : w / 2 ^ i < 2 ^ 64 := by
   have := Nat.div_le_self w (2 ^ i)
   omega
  rw [Nat.mod_eq_of_lt hlt]
  exact Nat.and_one_is_mod _
 rw [e1, e2, zj (by omega) (by omega)]
end Qq
namespace Qq
open Go Go.Vt Pt
set_option linter.unusedVariables false
set_option linter.unusedSimpArgs false
set_option linter.unnecessarySimpa false
theorem jq : ∀ (m w : Nat), (xp m w).length = m
 | 0, _ => rfl
 | m + 1, w => by rw [xp, List.length_cons, jq]
theorem ZF : ∀ l : List Bool, zI l + xN l = l.length
 | [] => rfl
 | true :: r => by have := ZF r; simp [zI, xN]; omega
 | false :: r => by have := ZF r; simp [zI, xN]; omega
def rfp (p : List Int) : Nat → Nat → List Bool → List Int
 | _, _, [] => []
 | f, s, true :: r => p.getD s 0 :: rfp p f (s + 1) r
 | f, s, false :: r => p.getD f 0 :: rfp p (f + 1) s r
def Xw (p : List Int) (w : Nat) : List Int := rfp p 0 (zI (xp p.length w)) (xp p.length w)
theorem Ma (w i : Nat) : w / 2 ^ i / 2 = w / 2 ^ (i + 1) := by rw [Nat.div_div_eq_div_mul, Nat.pow_succ]
theorem VG (m w i : Nat) : xp (m + 1) (w / 2 ^ i) = Nat.beq (w / 2 ^ i % 2) 1 :: xp m (w / 2 ^ (i + 1)) := by rw [xp, Ma]
theorem gl (p : List Int) (hp : p.length ≤ 12) (w : Nat) (hw : w ≤ 4096) : ∀ (m i f s : Nat) (out : List Int), i + m = p.length → f + zI (xp m (w / 2 ^ i)) ≤ p.length → s + xN (xp m (w / 2 ^ i)) ≤ p.length → out.length ≤ i →
 Ev (fun k => w8 k p (w : Int) (f : Int) (s : Int) (p.length : Int) (i : Int) out) (out ++ rfp p f s (xp m (w / 2 ^ i)))
 | 0, i, f, s, out, h, hf, hs, ho => by
   refine Ev.step (fun k => fD k _ _ _ _ _ _ _) (Ev.no (by simp; omega) (Ev.some ?_))
   simp [xp, rfp]
 | m + 1, i, f, s, out, h, hf, hs, ho => by
   have ih := fun f s out => gl p hp w hw m (i + 1) f s out (by omega)
   have ew : ∀ j : Nat, j ≤ 12 → IntKind.i64.wrap ((j : Int) + 1) = ((j + 1 : Nat) : Int) := fun j hj => by rw [zj (by omega) (by omega)]; omega
   rw [VG] at hf hs ⊢
   refine Ev.step (fun k => fD k _ _ _ _ _ _ _) ?_
   simp only [UA w i (by omega) (by omega), ew i (by omega)]
   simp only [Int.toNat_natCast]
   refine Ev.yes (by simp; omega) (Ev.yes (by simp) ?_)
   cases hb : Nat.beq (w / 2 ^ i % 2) 1 with
   | true =>
     rw [hb] at hf hs
     have hb' := Nat.eq_of_beq_eq_true hb
     simp only [zI, xN] at hf hs
     rw [ew s (by omega)]
     refine Ev.yes (by rw [hb']; rfl) (Ev.yes (by simp) (Ev.yes (by simp; omega) (Ev.yes (by rw [za]; exact decide_eq_true (by simp; omega)) ?_)))
     exact (ih f (s + 1) (out ++ [p.getD s 0]) (by omega) (by omega) (by simp; omega)).to (by simp [rfp])
   | false =>
     rw [hb] at hf hs
     have hb' : ¬ w / 2 ^ i % 2 = 1 := fun e => by rw [e] at hb; cases hb
     simp only [zI, xN] at hf hs
     rw [ew f (by omega)]
     have h0 : w / 2 ^ i % 2 = 0 := by omega
     refine Ev.no (by rw [h0]; rfl) (Ev.yes (by simp) (Ev.yes (by simp; omega) (Ev.yes (by rw [za]; exact decide_eq_true (by simp; omega)) ?_)))
     exact (ih (f + 1) s (out ++ [p.getD f 0]) (by omega) (by omega) (by simp; omega)).to (by simp [rfp])
theorem vj (p : List Int) (hp : p.length ≤ 12) (w : Nat) (hw : w ≤ 4096) : ∀ (m i z : Nat), i + m = p.length → z ≤ i →
 Ev (fun k => uD k p (w : Int) 0 (z : Int) (p.length : Int) (i : Int)) (rfp p 0 (z + zI (xp m (w / 2 ^ i))) (xp p.length w)) ∨ z + zI (xp m (w / 2 ^ i)) ≠ zI (xp p.length w)
 | 0, i, z, h, hz => by
   by_cases hzz : z + zI (xp 0 (w / 2 ^ i)) = zI (xp p.length w)
   ·left
    refine Ev.step (fun k => vT k _ _ _ _ _ _) (Ev.no (by simp; omega) ?_)
    have e : zI (xp 0 (w / 2 ^ i)) = 0 := rfl
    rw [e] at hzz ⊢
    have hl := ZF (xp p.length w)
    rw [jq] at hl
    have := gl p hp w hw p.length 0 0 z [] (by omega) (by rw [Nat.pow_zero, Nat.div_one]; omega) (by rw [Nat.pow_zero, Nat.div_one]; omega) (Nat.le_refl _)
    rw [Nat.pow_zero, Nat.div_one, List.nil_append] at this
    exact this
   ·exact .inr hzz
 | m + 1, i, z, h, hz => by
   rw [VG]
   have ew : IntKind.i64.wrap ((i : Int) + 1) = ((i + 1 : Nat) : Int) := by rw [zj (by omega) (by omega)]; omega
   cases hb : Nat.beq (w / 2 ^ i % 2) 1 with
   | true =>
     have hb' := Nat.eq_of_beq_eq_true hb
     simp only [zI]
     refine (vj p hp w hw m (i + 1) z (by omega) (by omega)).imp_left fun ih => ?_
     refine Ev.step (fun k => vT k _ _ _ _ _ _) ?_
     simp only [UA w i (by omega) (by omega), ew, hb']
     refine Ev.yes (by simp; omega) (Ev.yes (by simp) ?_)
     have e2 : IntKind.i64.wrap ((z : Int) + IntKind.i64.wrap (1 - ((1 : Nat) : Int))) = (z : Int) := by rw [zj (x := 1 - ((1 : Nat) : Int)) (by omega) (by omega), zj (by omega) (by omega)]; omega
     rw [e2]
     exact ih
   | false =>
     have hb' : w / 2 ^ i % 2 = 0 := by
      have : ¬ w / 2 ^ i % 2 = 1 := fun e => by rw [e] at hb; cases hb
      omega
     simp only [zI]
     rw [show z + (zI (xp m (w / 2 ^ (i + 1))) + 1) = (z + 1) + zI (xp m (w / 2 ^ (i + 1))) by omega]
     refine (vj p hp w hw m (i + 1) (z + 1) (by omega) (by omega)).imp_left fun ih => ?_
     refine Ev.step (fun k => vT k _ _ _ _ _ _) ?_
     simp only [UA w i (by omega) (by omega), ew, hb']
     refine Ev.yes (by simp; omega) (Ev.yes (by simp) ?_)
     have e2 : IntKind.i64.wrap ((z : Int) + IntKind.i64.wrap (1 - ((0 : Nat) : Int))) = ((z + 1 : Nat) : Int) := by rw [zj (x := 1 - ((0 : Nat) : Int)) (by omega) (by omega), zj (by omega) (by omega)]; omega
     rw [e2]
     exact ih
theorem Ui (p : List Int) (hp : p.length ≤ 12) (w : Nat) (hw : w ≤ 4096) : Ev (fun k => X0 k (p, (w : Int))) (Xw p w) := by
 refine Ev.step (fun k => TO k _ _) ?_
 have := vj p hp w hw p.length 0 0 (by omega) (Nat.le_refl _)
 rw [Nat.pow_zero, Nat.div_one, Nat.zero_add] at this
 exact this.resolve_right (fun h => h rfl)
def fu (p : List Int) : Packs := (List.range (2 ^ p.length)).map (Xw p)
theorem Ru {n : Nat} (h : n ≤ 12) : 2 ^ n ≤ 4096 := Nat.pow_le_pow_right (by decide) h
theorem X7 (p : List Int) (hp : p.length ≤ 12) : ∀ (m i : Nat), i + m = 2 ^ p.length → Ev (fun k => YG k p (i : Int) ((List.range i).map (Xw p))) (fu p, true)
 | m, i, h => by
   have h2 := Ru hp
   have e : IntKind.i64.wrap ((1 : Int) * 2 ^ (min (p.length : Int).toNat IntKind.i64.bits)) = ((2 ^ p.length : Nat) : Int) := by
    have hm : min (p.length : Int).toNat IntKind.i64.bits = p.length := by
     have : IntKind.i64.bits = 64 := rfl
     rw [this, Int.toNat_natCast]; omega
    rw [hm, Int.one_mul, show (2 : Int) ^ p.length = ((2 ^ p.length : Nat) : Int) by simp, zj (by omega) (by omega)]
   refine Ev.step (fun k => SV k _ _ _) (Ev.yes (by simp) ?_)
   rw [e]
   match m, h with
   | 0, h =>
     refine Ev.no (by simp only [decide_eq_false_iff_not]; omega) (Ev.some ?_)
     have : i = 2 ^ p.length := by omega
     rw [this]; rfl
   | m + 1, h =>
     have ih := X7 p hp m (i + 1) (by omega)
     rw [u6] at ih
     have ew : IntKind.i64.wrap ((i : Int) + 1) = ((i + 1 : Nat) : Int) := by rw [zj (by omega) (by omega)]; omega
     rw [ew]
     refine Ev.yes (by simp only [decide_eq_true_eq]; omega) (Ev.bind (Ui p hp i (by omega)) (Ev.yes (by rw [za]; exact decide_eq_true (by simp; omega)) ih))
def riffsW (p : List Int) : Packs := (List.range (p.length + 1)).flatMap fun k => wv [] (p.take k) (p.drop k)
theorem Us : ∀ (n i : Nat) (p : List Int), p.length = n → ((List.range i).flatMap fun k => wv [] (p.take k) (p.drop k)).length ≤ i * 2 ^ n
 | n, 0, p, h => by simp
 | n, i + 1, p, h => by
   have h1 := Us n i p h
   have h2 := W4 n [] (p.take i) (p.drop i) (by simp; omega)
   rw [List.range_succ, List.flatMap_append, List.length_append, Nat.add_mul, Nat.one_mul]
   simp only [List.flatMap_cons, List.flatMap_nil, List.append_nil]
   omega
theorem bX (p : List Int) (hp : p.length ≤ 12) : ∀ (m i : Nat), i + m = p.length + 1 → Ev (fun k => ep k p (i : Int) ((List.range i).flatMap fun k => wv [] (p.take k) (p.drop k))) (riffsW p)
 | 0, i, h => by
   refine Ev.step (fun k => bY k _ _ _) (Ev.no (by simp; omega) (Ev.some ?_))
   have : i = p.length + 1 := by omega
   rw [this]; rfl
 | m + 1, i, h => by
   have ih := bX p hp m (i + 1) (by omega)
   have e : (List.range (i + 1)).flatMap (fun k => wv [] (p.take k) (p.drop k)) = ((List.range i).flatMap fun k => wv [] (p.take k) (p.drop k)) ++ wv [] (p.take i) (p.drop i) := by
    rw [List.range_succ, List.flatMap_append]; simp
   rw [e] at ih
   have ew : IntKind.i64.wrap ((i : Int) + 1) = ((i + 1 : Nat) : Int) := by rw [zj (by omega) (by omega)]; omega
   have h2 := Ru hp
   have hl := Us p.length i p rfl
   have hl2 : i * 2 ^ p.length ≤ 13 * 4096 := Nat.mul_le_mul (by omega) h2
   refine Ev.step (fun k => bY k _ _ _) ?_
   simp only [ew, yN, Int.toNat_natCast, List.take_length, List.drop_zero]
   refine Ev.yes (by simp; omega) ?_
   (repeat (first | refine Ev.yes (by (first | (simp [za]; done) | (simp [za]; omega) | omega)) ?_ | refine Ev.no (by (first | (simp [za]; done) | (simp [za]; omega) | omega)) ?_))
   exact Ev.bind (wh p.length _ [] _ _ (by simp; omega) (by simp; omega) (by omega)) ih
def wO : List Bool → List Int → List Int → List Int
 | true :: r, a, y :: b => y :: wO r a b
 | false :: r, x :: a, b => x :: wO r a b
 | _, _, _ => []
theorem W3 : ∀ (n : Nat) (d a b q : List Int), a.length + b.length = n → (q ∈ wv d a b ↔ ∃ bits, zI bits = a.length ∧ xN bits = b.length ∧ q = d ++ wO bits a b)
 | n, d, [], [], q, h => by
   unfold wv
   constructor
   ·intro hq
    exact ⟨[], rfl, rfl, by simpa [wO] using hq⟩
   ·rintro ⟨bits, h1, h2, rfl⟩
    have : bits = [] := by
     have := ZF bits
     simp at h1 h2
     exact List.length_eq_zero_iff.1 (by omega)
    subst this
    simp [wO]
 | n + 1, d, x :: a, [], q, h => by
   unfold wv
   rw [W3 n (d ++ [x]) a [] q (by simp at h ⊢; omega)]
   constructor
   ·rintro ⟨bits, h1, h2, rfl⟩
    exact ⟨false :: bits, by simp [zI, h1], by simpa [xN] using h2, by simp [wO]⟩
   ·rintro ⟨bits, h1, h2, rfl⟩
    match bits, h1, h2 with
    | false :: bits, h1, h2 => exact ⟨bits, by simpa [zI] using h1, by simpa [xN] using h2, by simp [wO]⟩
    | true :: bits, h1, h2 => simp [xN] at h2
    | [], h1, h2 => simp [zI] at h1
 | n + 1, d, [], y :: b, q, h => by
   unfold wv
   rw [W3 n (d ++ [y]) [] b q (by simp at h ⊢; omega)]
   constructor
   ·rintro ⟨bits, h1, h2, rfl⟩
    exact ⟨true :: bits, by simpa [zI] using h1, by simp [xN, h2], by simp [wO]⟩
   ·rintro ⟨bits, h1, h2, rfl⟩
    match bits, h1, h2 with
    | true :: bits, h1, h2 => exact ⟨bits, by simpa [zI] using h1, by simpa [xN] using h2, by simp [wO]⟩
    | false :: bits, h1, h2 => simp [zI] at h1
    | [], h1, h2 => simp [xN] at h2
 | n + 1, d, x :: a, y :: b, q, h => by
   unfold wv
   rw [List.mem_append, W3 n (d ++ [x]) a (y :: b) q (by simp at h ⊢; omega), W3 n (d ++ [y]) (x :: a) b q (by simp at h ⊢; omega)]
   constructor
   ·rintro (⟨bits, h1, h2, rfl⟩ | ⟨bits, h1, h2, rfl⟩)
    ·exact ⟨false :: bits, by simp [zI, h1], by simpa [xN] using h2, by simp [wO]⟩
    ·exact ⟨true :: bits, by simpa [zI] using h1, by simp [xN, h2], by simp [wO]⟩
   ·rintro ⟨bits, h1, h2, rfl⟩
    match bits, h1, h2 with
    | true :: bits, h1, h2 => exact .inr ⟨bits, by simpa [zI] using h1, by simpa [xN] using h2, by simp [wO]⟩
    | false :: bits, h1, h2 => exact .inl ⟨bits, by simpa [zI] using h1, by simpa [xN] using h2, by simp [wO]⟩
    | [], h1, h2 => simp [xN] at h2
 | 0, d, x :: a, _, q, h => by simp at h
 | 0, d, [], y :: b, q, h => by simp at h
theorem b7 (p : List Int) (k : Nat) (hk : k ≤ p.length) : ∀ (bits : List Bool) (f s : Nat), f + zI bits = k → s + xN bits = p.length → rfp p f s bits = wO bits ((p.take k).drop f) (p.drop s)
 | [], f, s, h1, h2 => by unfold rfp wO; rfl
 | true :: r, f, s, h1, h2 => by
   simp only [zI, xN] at h1 h2
   have hs : s < p.length := by omega
   rw [List.drop_eq_getElem_cons hs]
   unfold rfp wO
   rw [b7 p k hk r f (s + 1) h1 (by omega)]
   simp [List.getD, hs]
 | false :: r, f, s, h1, h2 => by
   simp only [zI, xN] at h1 h2
   have hf : f < (p.take k).length := by simp; omega
   rw [List.drop_eq_getElem_cons hf]
   unfold rfp wO
   rw [b7 p k hk r (f + 1) s (by omega) h2]
   have : f < p.length := by omega
   simp [List.getD, this]
def nb : List Bool → Nat
 | [] => 0 | b :: r => (bif b then 1 else 0) + 2 * nb r
theorem R1 : ∀ l : List Bool, xp l.length (nb l) = l ∧ nb l < 2 ^ l.length
 | [] => ⟨rfl, by decide⟩
 | b :: r => by
   obtain ⟨h1, h2⟩ := R1 r
   rw [List.length_cons, xp, nb, Nat.pow_succ]
   have e1 : ((bif b then 1 else 0) + 2 * nb r) / 2 = nb r := by cases b <;> simp <;> omega
   have e2 : ((bif b then 1 else 0) + 2 * nb r) % 2 = (bif b then 1 else 0) := by cases b <;> simp <;> omega
   rw [e1, e2, h1]
   refine ⟨by cases b <;> rfl, ?_⟩
   cases b <;> simp <;> omega
theorem Qv (p q : List Int) : q ∈ fu p ↔ q ∈ riffsW p := by
 unfold fu riffsW
 rw [List.mem_map, List.mem_flatMap]
 constructor
 ·rintro ⟨w, hw, rfl⟩
  have hl := ZF (xp p.length w)
  rw [jq] at hl
  refine ⟨zI (xp p.length w), by simp; omega, ?_⟩
  rw [W3 p.length [] _ _ _ (by simp; omega)]
  refine ⟨xp p.length w, by simp; omega, by simp; omega, ?_⟩
  unfold Xw
  rw [b7 p (zI (xp p.length w)) (by omega) _ 0 _ (by omega) (by omega)]
  simp
 ·rintro ⟨k, hk, hq⟩
  have hk' : k ≤ p.length := by have := List.mem_range.1 hk; omega
  rw [W3 p.length [] _ _ _ (by simp; omega)] at hq
  obtain ⟨bits, h1, h2, rfl⟩ := hq
  simp at h1 h2
  have hl := ZF bits
  obtain ⟨b1, b2⟩ := R1 bits
  have hbl : bits.length = p.length := by omega
  rw [hbl] at b1 b2
  refine ⟨nb bits, List.mem_range.2 b2, ?_⟩
  unfold Xw
  rw [b1, b7 p k hk' bits 0 _ (by omega) (by omega)]
  have : zI bits = k := by omega
  rw [this]
  simp
end Qq
namespace Qq
open Go Go.Vt Pt
set_option linter.unusedVariables false
set_option linter.unusedSimpArgs false
set_option linter.unnecessarySimpa false
theorem Xx (p : List Int) : ∀ (bits : List Bool) (f s : Nat), rfp p f s bits = (rfi f s bits).map fun i => p.getD i 0
 | [], _, _ => rfl
 | true :: r, f, s => by unfold rfp rfi; rw [Xx p r]; rfl
 | false :: r, f, s => by unfold rfp rfi; rw [Xx p r]; rfl
theorem Pz (n : Nat) : ∀ (bits : List Bool) (f s : Nat), f + zI bits ≤ n → s + xN bits ≤ n → ∀ x ∈ rfi f s bits, x < n
 | [], _, _, _, _, x, hx => by cases hx
 | true :: r, f, s, h1, h2, x, hx => by
   simp only [zI, xN] at h1 h2
   rcases List.mem_cons.1 hx with rfl | hx
   ·omega
   ·exact Pz n r f (s + 1) h1 (by omega) x hx
 | false :: r, f, s, h1, h2, x, hx => by
   simp only [zI, xN] at h1 h2
   rcases List.mem_cons.1 hx with rfl | hx
   ·omega
   ·exact Pz n r (f + 1) s (by omega) h2 x hx
theorem Vl {g : Nat → Int} {n : Nat} (hg : ∀ i j, i < n → j < n → g i = g j → i = j) : ∀ {l m : List Nat}, (∀ x ∈ l, x < n) → (∀ x ∈ m, x < n) → l.map g = m.map g → l = m
 | [], [], _, _, _ => rfl
 | [], _ :: _, _, _, h => by simp at h
 | _ :: _, [], _, _, h => by simp at h
 | x :: l, y :: m, hl, hm, h => by
   simp only [List.map_cons, List.cons.injEq] at h
   rw [hg x y (hl x (by simp)) (hm y (by simp)) h.1, Vl hg (fun z hz => hl z (by simp [hz])) (fun z hz => hm z (by simp [hz])) h.2]
theorem riffs12 {p : List Int} (hl : p.length = 12) (hn : p.Nodup) : 3000 < (setL (fu p)).length := by
 have hg : ∀ i j, i < 12 → j < 12 → p.getD i 0 = p.getD j 0 → i = j := fun i j hi hj e => by
  have h1 : i < p.length := by omega
  have h2 : j < p.length := by omega
  simp only [List.getD, List.getElem?_eq_getElem h1, List.getElem?_eq_getElem h2, Option.getD_some] at e
  have hpw := List.pairwise_iff_getElem.1 (show p.Pairwise (fun a b => a ≠ b) from hn)
  rcases Nat.lt_trichotomy i j with h | h | h
  ·exact (hpw i j h1 h2 h e).elim
  ·exact h
  ·exact (hpw j i h2 h1 h e.symm).elim
 have hlt : ∀ w, ∀ x ∈ SI 12 w, x < 12 := fun w => by
  have := ZF (xp 12 w)
  rw [jq] at this
  exact Pz 12 _ 0 _ (by omega) (by omega)
 have hr : ∀ w, Xw p w = (SI 12 w).map fun i => p.getD i 0 := fun w => by unfold Xw SI; rw [hl, Xx]
 have hdec : ∀ w, w < 4096 → wellW w = true → decGo 0 none (SI 12 w) = w := fun w hw hwell => by
  have := List.all_eq_true.1 riff12 w (List.mem_range.2 hw)
  unfold wellW at hwell
  rw [Bool.not_eq_true'] at hwell
  rw [hwell, Bool.false_or] at this
  exact Nat.eq_of_beq_eq_true this
 have hnd : (((List.range 4096).filter wellW).map (Xw p)).Nodup := by
  rw [List.Nodup, List.pairwise_map]
  refine List.Pairwise.imp_of_mem (fun {a b} ha hb hab e => hab ?_) ((List.nodup_range (n := 4096)).filter wellW)
  obtain ⟨a1, a2⟩ := List.mem_filter.1 ha
  obtain ⟨b1, b2⟩ := List.mem_filter.1 hb
  rw [hr, hr] at e
  have := Vl hg (hlt a) (hlt b) e
  rw [← hdec a (List.mem_range.1 a1) a2, ← hdec b (List.mem_range.1 b1) b2, this]
 have := Tw hnd (m := setL (fu p)) (fun q hq => by
  obtain ⟨w, hw, rfl⟩ := List.mem_map.1 hq
  rw [wg]
  unfold fu
  rw [hl]
  exact List.mem_map.2 ⟨w, (List.mem_filter.1 hw).1, rfl⟩)
 rw [List.length_map, To] at this
 omega
theorem Py {p : List Int} (hp : p.length ≤ 11) : (setL (fu p)).length ≤ 2048 := by
 refine Nat.le_trans (jA _) ?_
 unfold fu
 rw [List.length_map, List.length_range]
 exact Nat.pow_le_pow_right (by decide) hp
def Ur (p : List Int) : List Int := (p.take 2).reverse.map turn ++ p.drop 2
def yI (p : List Int) (c : Int) : Packs := if c = 1 then fY p else if c = 2 then fu p else if c = 3 then fY (Ur p) else if c = 4 then ZU p else [p]
def chOk (p : List Int) (c : Int) : Bool := zF p && (!(p.length == 0) && (decide (0 ≤ c ∧ c ≤ 4) && (!(decide (c = 3) && decide (p.length < 2)) && !(decide (c = 2) && decide (12 ≤ p.length)))))
structure ChFit (p : List Int) (c : Int) : Prop where
 ok : zF p = true
 l1 : 1 ≤ p.length
 l12 : p.length ≤ 12
 c0 : 0 ≤ c
 c4 : c ≤ 4
 c3 : c = 3 → 2 ≤ p.length
 c2 : c = 2 → p.length ≤ 11
theorem vd (p : List Int) : (Ur p).length = p.length := by unfold Ur; simp; omega
theorem T0 {p : List Int} (hi : Ins p) : Ins (Ur p) := fun x hx => by
 unfold Ur at hx
 rcases List.mem_append.1 hx with h | h
 ·obtain ⟨y, hy, rfl⟩ := List.mem_map.1 h
  exact MM (hi y (List.mem_of_mem_take (List.mem_reverse.1 hy)))
 ·exact hi x (List.mem_of_mem_drop h)
theorem jW {p : List Int} {c : Int} (hp : p.length ≤ 12) : (yI p c).length ≤ 4096 ∧ ∀ q ∈ yI p c, q.length ≤ 12 := by
 have h2 := Ru hp
 unfold yI
 split
 ·refine ⟨by unfold fY; simp; omega, fun q hq => ?_⟩
  obtain ⟨i, _, rfl⟩ := List.mem_map.1 hq
  unfold cutL; simp; omega
 split
 ·refine ⟨by unfold fu; simpa using h2, fun q hq => ?_⟩
  obtain ⟨w, _, rfl⟩ := List.mem_map.1 hq
  unfold Xw
  rw [Xx, List.length_map]
  have : ∀ (bits : List Bool) (f s : Nat), (rfi f s bits).length = bits.length := fun bits => by
   induction bits with
   | nil => intro f s; rfl
   | cons b r ih => intro f s; cases b <;> simp [rfi, ih]
  rw [this, jq]; exact hp
 split
 ·refine ⟨by unfold fY; simp [vd]; omega, fun q hq => ?_⟩
  obtain ⟨i, _, rfl⟩ := List.mem_map.1 hq
  unfold cutL; simp [vd]; have := vd p; omega
 split
 ·refine ⟨by unfold ZU; simp; omega, fun q hq => ?_⟩
  obtain ⟨i, hi, rfl⟩ := List.mem_map.1 hq
  have := List.mem_range.1 hi
  unfold SK; simp; omega
 ·exact ⟨by simp, fun q hq => by have : q = p := by simpa using hq
                                 rw [this]; exact hp⟩
theorem Nv {p : List Int} {c : Int} (hp : p.length ≤ 12) (c2 : c ≠ 2) : (yI p c).length ≤ 12 := by
 unfold yI
 split
 ·unfold fY; simpa using hp
 split
 ·unfold fY; simpa [vd] using hp
 split
 ·unfold ZU; simpa using hp
 ·simp
theorem Qr (p : List Int) (c : Int) (h : ChFit p c) (hi : Ins p) : ∃ y, Ev (fun k => SB k (p, c)) y ∧ y.length ≤ 1048576 ∧ ∀ q, q ∈ y ↔ q ∈ yI p c := by
 have hp := h.l12
 by_cases c1 : c = 1
 ·refine ⟨fY p, Ev.step (fun k => u4 k p c) (Ev.yes (by simp [c1]) (Ev.bind (ZS p hp hi) (Ev.pure _))), by unfold fY; simp; omega, fun q => by simp [yI, c1]⟩
 by_cases c2 : c = 2
 ·refine ⟨riffsW p, Ev.step (fun k => u4 k p c) (Ev.no (by simp [c1]) (Ev.yes (by simp [c2]) (bX p hp (p.length + 1) 0 (by omega)))), ?_, fun q => by rw [← Qv]; simp [yI, c2]⟩
  have := Us p.length (p.length + 1) p rfl
  have h2 := Ru hp
  have h3 : (p.length + 1) * 2 ^ p.length ≤ 13 * 4096 := Nat.mul_le_mul (by omega) h2
  unfold riffsW
  omega
 by_cases c3 : c = 3
 ·have h2 := h.c3 c3
  have hb := fj p hp hi 2 h2 true
  have e : (p.take 2).reverse.map (fun x => bif true then turn x else x) ++ p.drop 2 = Ur p := rfl
  rw [e] at hb
  refine ⟨fY (Ur p), Ev.step (fun k => u4 k p c) (Ev.no (by simp [c1]) (Ev.no (by simp [c2]) (Ev.yes (by simp [c3]) (Ev.bind hb (Ev.bind (ZS _ (by rw [vd]; exact hp) (T0 hi)) (Ev.pure _)))))), by unfold fY; simp [vd]; omega, fun q => by simp [yI, c3]⟩
 by_cases c4 : c = 4
 ·refine ⟨ZU p, Ev.step (fun k => u4 k p c) (Ev.no (by simp [c1]) (Ev.no (by simp [c2]) (Ev.no (by simp [c3]) (Ev.yes (by simp [c4]) (cj p hp p.length 0 (by omega)))))), by unfold ZU; simp; omega, fun q => by simp [yI, c4]⟩
 ·refine ⟨[p], Ev.step (fun k => u4 k p c) (Ev.no (by simp [c1]) (Ev.no (by simp [c2]) (Ev.no (by simp [c3]) (Ev.no (by simp [c4]) (Ev.yes (by rw [za]; simp) (Ev.some rfl)))))), by simp, fun q => by simp [yI, c1, c2, c3, c4]⟩
theorem Qo {l m : Packs} (h : ∀ q, q ∈ l ↔ q ∈ m) : setL l = setL m := SA (Xb l) fun q => (wg l q).trans (h q)
def resOf (p : List Int) (c : Int) : Packs × Bool := if chOk p c then (setL (yI p c), true) else ([], false)
theorem N1 (p : List Int) (c : Int) (hp : p.length ≤ 12) (hi : Ins p) (h0 : 1 ≤ p.length) : Ev (fun k => MN k (p, c)) (if (0 ≤ c ∧ c ≤ 4) ∧ ¬ (c = 3 ∧ p.length < 2) then (yI p c, true) else ([], false)) := by
 refine Ev.step (fun k => N2 k p c) ?_
 refine Ev.ite (fun e => ?_) (fun n0 => Ev.ite (fun e => ?_) (fun n1 => Ev.ite (fun e => ?_) (fun n2 => Ev.ite (fun e => ?_) (fun n3 => Ev.ite (fun e => ?_) (fun n4 => Ev.some ?_)))))
 all_goals simp only [beq_iff_eq, beq_eq_false_iff_ne, ne_eq] at *
 ·subst e
  exact Ev.bind (yJ p (by omega)) (Ev.some (by simp [yI]))
 ·subst e
  exact Ev.bind (TS p hp hi) (Ev.some (by simp [yI]))
 ·subst e
  exact (X7 p hp (2 ^ p.length) 0 (by omega)).to (by simp [yI])
 ·subst e
  refine Ev.ite (fun h => Ev.some ?_) (fun h => ?_)
  ·have : p.length < 2 := by have : (p.length : Int) < 2 := by simpa using h
                             omega
   simp [this]
  ·have h2 : ¬ p.length < 2 := by have : ¬ (p.length : Int) < 2 := by simpa using h
                                  omega
   have hm := Zq p (3, ((2 : Nat) : Int)) ⟨h0, hp, by simp, .inl (by simp; omega), fun _ => by simp; omega, fun h => by simp at h, fun _ _ h3 => absurd rfl h3⟩ hi
   have ed : ji p (3, ((2 : Nat) : Int)) = Ur p := by simp [ji, Ur]
   rw [ed] at hm
   exact Ev.bind hm (Ev.bind (TS _ (by rw [vd]; exact hp) (T0 hi)) (Ev.some (by simp [yI, h2])))
 ·subst e
  exact (Z8 p hp p.length 0 (by omega)).to (by simp [yI])
 ·rw [if_neg (by omega)]
theorem WW (p : List Int) (c : Int) (hp : p.length ≤ maxLen) (hi : Ins p) : Ev (fun k => bz k (p, c)) (resOf p c) := by
 unfold resOf
 refine Ev.step (fun k => WX k p c) (Ev.bind (wq p hp hi) (Ev.ite (fun h => Ev.some ?_) (fun h => Ev.ite (fun h2 => Ev.some ?_) (fun h2 => ?_))))
 ·have : zF p = false := by simpa using h
  simp [chOk, this]
 ·have : p.length = 0 := by have : (p.length : Int) = 0 := by simpa using h2
                            omega
  simp [chOk, this]
 ·have e1 : zF p = true := by simpa using h
  have e2 : ¬ p.length = 0 := by have : ¬ (p.length : Int) = 0 := by simpa using h2
                                 omega
  have hl := (xc e1).2.2
  have hnd : p.Nodup := by
   have := (xc e1).1
   rw [List.Nodup, List.pairwise_map] at this
   exact this.imp fun h e => h (by rw [e])
  refine Ev.bind (N1 p c hl hi (by omega)) ?_
  by_cases hc : (0 ≤ c ∧ c ≤ 4) ∧ ¬ (c = 3 ∧ p.length < 2)
  ·rw [if_pos hc]
   have hs := jW (c := c) hl
   refine Ev.bind (gm _ (Nat.le_trans hs.1 (by decide)) (fun q hq => Nat.le_trans (hs.2 q hq) (by decide))) (Ev.no rfl ?_)
   refine Ev.ite (fun h3 => Ev.some ?_) (fun h3 => Ev.some ?_)
   ·have h3' : 3000 < (setL (yI p c)).length := by have : ((setL (yI p c)).length : Int) > 3000 := by simpa using h3
                                                   omega
    have : c = 2 ∧ 12 ≤ p.length := by
     apply Classical.byContradiction
     intro hcon
     have h5 := jA (yI p c)
     by_cases c2 : c = 2
     ·have := Py (p := p) (by omega)
      rw [c2] at h3'
      simp only [yI] at h3'
      simp at h3'
      omega
     ·have := Nv (p := p) hl c2
      omega
    rw [if_neg]
    unfold chOk
    simp [this.1, this.2]
   ·have h3' : ¬ 3000 < (setL (yI p c)).length := by have : ¬ ((setL (yI p c)).length : Int) > 3000 := by simpa using h3
                                                     omega
    have : ¬ (c = 2 ∧ 12 ≤ p.length) := fun ⟨a, b⟩ => h3' (by
     have := riffs12 (p := p) (by omega) hnd
     rw [a]
     simpa [yI] using this)
    rw [if_pos]
    unfold chOk
    rw [e1, decide_eq_true hc.1]
    have h6 := hc.2
    by_cases x3 : c = 3
    ·have : ¬ p.length < 2 := fun h => h6 ⟨x3, h⟩
     simp [e2, x3, this]
    ·by_cases x2 : c = 2
     ·have : ¬ 12 ≤ p.length := fun h => this ⟨x2, h⟩
      simp [e2, x2, this]
     ·simp [e2, x3, x2]
  ·rw [if_neg hc]
   refine Ev.bind (gm [] (by simp) (fun q hq => by cases hq)) (Ev.yes rfl (Ev.some ?_))
   rw [if_neg]
   unfold chOk
   by_cases c04 : 0 ≤ c ∧ c ≤ 4
   ·have : c = 3 ∧ p.length < 2 := Classical.byContradiction fun h => hc ⟨c04, h⟩
    simp [this.1, this.2]
   ·rw [decide_eq_false c04]; simp
end Qq
namespace Qq
open Go Go.Vt Pt
set_option linter.unusedVariables false
set_option linter.unusedSimpArgs false
set_option linter.unnecessarySimpa false
theorem Sf (x : Int) : card (turn x) = card x := by
 unfold turn
 split
 ·rfl
 ·rename_i h
  unfold card at h ⊢
  split at h
  ·rename_i h1
   rw [if_neg (by omega), if_pos (by omega), if_pos h1]; omega
  ·rename_i h1
   split at h
   ·rename_i h2
    rw [if_pos (by omega), if_neg h1, if_pos h2]
   ·omega
theorem NT (l : List Int) : (l.map turn).map card = l.map card := by rw [List.map_map]; exact List.map_congr_left fun x _ => Sf x
abbrev Pm (q p : List Int) : Prop := (q.map card).Perm (p.map card)
theorem Pm.of {q p : List Int} (h : q.Perm p) : Pm q p := h.map card
theorem Wk : ∀ (n : Nat) (f : Bool) (a b : List Int), a.length + b.length = n → (fz f a b).Perm (a ++ b)
 | n, f, [], [], h => by unfold fz; exact .refl _
 | n, f, x :: a, [], h => by
   match n, h with
   | n + 1, h =>
   unfold fz
   exact (Wk n (!f) a [] (by simp at h ⊢; omega)).cons x
 | n, f, [], y :: b, h => by
   match n, h with
   | n + 1, h =>
   unfold fz
   exact (Wk n (!f) [] b (by simp at h ⊢; omega)).cons y
 | n, true, x :: a, y :: b, h => by
   match n, h with
   | n + 1, h =>
   unfold fz
   exact (Wk n false a (y :: b) (by simp at h ⊢; omega)).cons x
 | n, false, x :: a, y :: b, h => by
   match n, h with
   | n + 1, h =>
   unfold fz
   exact ((Wk n true (x :: a) b (by simp at h ⊢; omega)).cons y).trans List.perm_middle.symm
termination_by n => n
theorem SM (k : Int) : ∀ (r : List Int) (i : Nat) (out : List Int), (mz k i r out).Perm (r ++ out)
 | [], i, out => by unfold mz; exact .refl _
 | x :: r, i, out => by
   unfold mz
   split
   ·refine (SM k r (i + 1) (out ++ [x])).trans ?_
    rw [← List.append_assoc]
    exact List.perm_append_comm
   ·exact (SM k r (i + 1) (x :: out)).trans List.perm_middle
theorem ends (p : List Int) (h : 1 < p.length) : p = p.getD 0 0 :: ((p.take (p.length - 1)).drop 1 ++ [p.getD (p.length - 1) 0]) := by
 cases p with
 | nil => simp at h
 | cons x r =>
   simp at h
   have hr : r ≠ [] := by intro e; subst e; simp at h
   have e1 : (x :: r).length - 1 = r.length - 1 + 1 := by simp; omega
   rw [e1, List.take_succ_cons, List.drop_one, List.tail_cons]
   have e2 : (x :: r).getD (r.length - 1 + 1) 0 = r.getLast hr := by
    simp only [List.getD, List.getElem?_cons_succ]
    rw [List.getLast_eq_getElem, List.getElem?_eq_getElem (by omega)]
    rfl
   rw [e2, ← List.dropLast_eq_take, List.dropLast_concat_getLast hr]
   rfl
theorem PK : ∀ (n : Nat) (p out : List Int), (kz n p out).Perm (p ++ out)
 | 0, p, out => by unfold kz; exact .refl _
 | n + 1, p, out => by
   unfold kz
   split
   ·rename_i h
    refine (PK n _ _).trans ?_
    have e := ends p h
    generalize p.getD 0 0 = x at *
    generalize p.getD (p.length - 1) 0 = y at *
    generalize (p.take (p.length - 1)).drop 1 = m at *
    rw [e]
    refine List.perm_middle.trans (List.Perm.cons x ?_)
    simp
   ·exact .refl _
theorem Rf : ∀ (n : Nat) (f : Bool) (q out : List Int), 1 ≤ q.length → 2 * q.length + (bif f then 0 else 1) ≤ n → (dz n f q out).Perm (q ++ out)
 | 0, f, q, out, h, hn => by omega
 | n + 1, f, q, out, h, hn => by
   unfold dz
   cases q with
   | nil => simp at h
   | cons x r =>
     split
     ·rename_i h1
      cases f with
      | true =>
        simp at h1 hn
        refine (Rf n false r (x :: out) (by omega) (by simp; omega)).trans ?_
        exact List.perm_middle
      | false =>
        simp at h1 hn
        refine (Rf n true (r ++ [x]) out (by simp) (by simp; omega)).trans ?_
        rw [List.append_assoc]
        exact List.perm_middle
     ·rename_i h1
      simp at h1
      subst h1
      exact .refl _
theorem RG (p : List Int) (i : Nat) (h : i < p.length) : (p.take i ++ p.drop (i + 1) ++ [p.getD i 0]).Perm p := by
 have e : p = p.take i ++ (p.getD i 0 :: p.drop (i + 1)) := by
  have : p.getD i 0 = p[i] := by simp [List.getD, h]
  rw [this, ← List.drop_eq_getElem_cons h, List.take_append_drop]
 have h1 : (p.take i ++ p.drop (i + 1) ++ [p.getD i 0]).Perm (p.take i ++ (p.getD i 0 :: p.drop (i + 1))) := by
  rw [List.append_assoc]
  exact List.Perm.append_left _ (List.perm_append_comm (l₁ := p.drop (i + 1)) (l₂ := [p.getD i 0]))
 rw [← e] at h1
 exact h1
theorem Tq (p : List Int) (k : Nat) : Pm ((p.take k).reverse.map turn ++ p.drop k) p := by
 show (List.map card _).Perm _
 rw [List.map_append, NT]
 refine (((List.reverse_perm (p.take k)).map card).append_right _).trans ?_
 rw [← List.map_append, List.take_append_drop]
theorem T7 {p : List Int} {m : Int × Int} (h : MoveFit p.length m) : Pm (ji p m) p := by
 have h1 := h.n1
 have ht := h.t
 unfold ji
 split
 ·refine Pm.of (List.perm_append_comm.trans ?_)
  rw [List.take_append_drop]
 split
 ·refine Pm.of (((List.reverse_perm (p.take m.2.toNat)).append_right _).trans ?_)
  rw [List.take_append_drop]
 split
 ·exact Tq p _
 split
 ·unfold faroL
  refine Pm.of ((Wk _ _ _ _ rfl).trans ?_)
  rw [List.take_append_drop]
 split
 ·exact Pm.of ((SM m.2 p 0 []).trans (by simp))
 split
 ·exact Pm.of ((PK p.length p []).trans (by simp))
 split
 ·exact Pm.of ((Rf (2 * p.length + 1) (m.2 == 1) p [] h1 (by cases (m.2 == 1) <;> simp)).trans (by simp))
 split
 ·rename_i a1 a2 a3 a4 a5 a6 a7 a8
  have h5 := ht a1 a2 a3 a4 a5 a6 a7
  have h6 := h.k0
  have hlt : m.2.toNat < p.length := by omega
  show (List.map card _).Perm _
  rw [List.map_set, Sf]
  have e : card (p.getD m.2.toNat 0) = (p.map card)[m.2.toNat]'(by simpa using hlt) := by simp [List.getD, hlt]
  rw [e, List.set_getElem_self]
 ·rename_i a1 a2 a3 a4 a5 a6 a7 a8
  have h5 := ht a1 a2 a3 a4 a5 a6 a7
  have h6 := h.k0
  exact Pm.of (RG p _ (by omega))
theorem Ua : ∀ (bits : List Bool) (f s : Nat), (rfi f s bits).Perm (List.range' f (zI bits) ++ List.range' s (xN bits))
 | [], f, s => by simp [rfi, zI, xN]
 | true :: r, f, s => by
   unfold rfi zI xN
   rw [List.range'_succ]
   exact ((Ua r f (s + 1)).cons s).trans List.perm_middle.symm
 | false :: r, f, s => by
   unfold rfi zI xN
   rw [List.range'_succ]
   exact (Ua r (f + 1) s).cons f
theorem Qw (p : List Int) (w : Nat) : (Xw p w).Perm p := by
 unfold Xw
 rw [Xx]
 have hz := ZF (xp p.length w)
 rw [jq] at hz
 refine ((Ua _ _ _).map _).trans ?_
 have e : List.range' 0 (zI (xp p.length w)) ++ List.range' (zI (xp p.length w)) (xN (xp p.length w)) = List.range p.length := by
  have := List.range'_append_1 (s := 0) (m := zI (xp p.length w)) (n := xN (xp p.length w))
  rw [Nat.zero_add] at this
  rw [this, List.range_eq_range']
  congr 1
 rw [e]
 have : (List.range p.length).map (fun i => p.getD i 0) = p := by
  apply List.ext_getElem
  ·simp
  ·intro i h1 h2
   simp [List.getD, h2]
 rw [this]
theorem R2 {p : List Int} {c : Int} (q : List Int) (hq : q ∈ yI p c) : Pm q p := by
 have cut : ∀ (p q : List Int), q ∈ fY p → q.Perm p := fun p q hq => by
  obtain ⟨i, _, rfl⟩ := List.mem_map.1 hq
  unfold cutL
  refine List.perm_append_comm.trans ?_
  rw [List.take_append_drop]
 unfold yI at hq
 split at hq
 ·exact Pm.of (cut _ _ hq)
 split at hq
 ·obtain ⟨w, _, rfl⟩ := List.mem_map.1 hq
  exact Pm.of (Qw p w)
 split at hq
 ·exact (Pm.of (cut _ _ hq)).trans (Tq p 2)
 split at hq
 ·obtain ⟨i, hi, rfl⟩ := List.mem_map.1 hq
  have := List.mem_range.1 hi
  unfold SK
  exact Pm.of (List.perm_append_comm.trans (RG p i this))
 ·have : q = p := by simpa using hq
  rw [this]
theorem Ld : ∀ (r done : List Int), (done ++ r.map card).Nodup → (∀ x ∈ r, 0 ≤ card x) → pk done r = true
 | [], done, _, _ => rfl
 | x :: r, done, h, h0 => by
   unfold pk
   rw [List.map_cons] at h
   have hx : card x ∉ done := fun hm => (List.nodup_append.1 h).2.2 _ hm _ (by simp) rfl
   rw [decide_eq_true (h0 x (by simp)), Ld r (done ++ [card x]) (by simpa using h) (fun y hy => h0 y (by simp [hy]))]
   simp [hx]
theorem bp {p q : List Int} (h : zF p = true) (hq : Pm q p) : zF q = true ∧ q.length = p.length := by
 obtain ⟨h1, h2, h3⟩ := xc h
 refine ⟨Ld q [] (by simpa using hq.nodup_iff.2 h1) (fun x hx => ?_), by have := hq.length_eq; simpa using this⟩
 have := hq.mem_iff.1 (List.mem_map.2 ⟨x, hx, rfl⟩)
 obtain ⟨y, hy, e⟩ := List.mem_map.1 this
 have := (h2 y hy).1
 omega
theorem x5 {p : List Int} (h : zF p = true) : Ins p := fun x hx => by
 have := ((xc h).2.1 x hx).1
 unfold card at this
 unfold In
 split at this
 ·omega
 ·split at this <;> omega
end Qq
namespace Qq
open Go Go.Vt Pt
set_option linter.unusedVariables false
set_option linter.unusedSimpArgs false
set_option linter.unnecessarySimpa false
abbrev zG : Type := Int × (Int × Int) × Int
def zt (c : Scene) (s : zG) : List Scene :=
 if s.1 = 1 then [(ji c.1 s.2.1, c.2)] else if s.1 = 3 then [(c.1, card (c.1.getD s.2.2.toNat 0))] else (setL (yI c.1 s.2.2)).map fun q => (q, c.2)
structure SceneOk (n : Nat) (c : Scene) : Prop where
 ok : zF c.1 = true
 len : c.1.length = n
 n0 : -1 ≤ c.2
 n12 : c.2 < 12
inductive StepKind (n : Nat) (s : zG) : Prop
 | mv (h : s.1 = 1) (m : MoveFit n s.2.1)
 | ch (h : s.1 = 2) (c0 : 0 ≤ s.2.2) (c4 : s.2.2 ≤ 4) (c3 : s.2.2 = 3 → 2 ≤ n) (c2 : s.2.2 = 2 → n ≤ 11)
 | nt (h : s.1 = 3) (a0 : 0 ≤ s.2.2) (an : s.2.2 < n)
theorem wy {n : Nat} {s : zG} (h : yB (n : Int) s = true) : 1 ≤ n ∧ n ≤ 12 ∧ StepKind n s := by
 unfold yB at h
 simp only [Bool.and_eq_true, decide_eq_true_eq] at h
 obtain ⟨h1, h2, h3⟩ := h
 refine ⟨by omega, by omega, ?_⟩
 split at h3
 ·rename_i e
  simp only [Bool.and_eq_true] at h3
  exact .mv e (QC h3.1)
 split at h3
 ·rename_i e
  simp only [Bool.and_eq_true, decide_eq_true_eq, Bool.or_eq_true, Bool.not_eq_true', beq_eq_false_iff_ne, ne_eq] at h3
  obtain ⟨_, _, a, b, c, d⟩ := h3
  exact .ch e a b (fun q => by rcases c with c | c; exact absurd q c; omega) (fun q => by rcases d with d | d; exact absurd q d; omega)
 split at h3
 ·rename_i e
  simp only [Bool.and_eq_true, decide_eq_true_eq] at h3
  exact .nt e h3.2.2.1 h3.2.2.2
 ·cases h3
theorem Np {n : Nat} {c : Scene} {s : zG} (hc : SceneOk n c) (h1 : 1 ≤ n) (h2 : n ≤ 12) (c0 : 0 ≤ s.2.2) (c4 : s.2.2 ≤ 4) (c3 : s.2.2 = 3 → 2 ≤ n) (c2 : s.2.2 = 2 → n ≤ 11) : ChFit c.1 s.2.2 :=
 ⟨hc.ok, by rw [hc.len]; exact h1, by rw [hc.len]; exact h2, c0, c4, fun e => by rw [hc.len]; exact c3 e, fun e => by rw [hc.len]; exact c2 e⟩
theorem bq {n : Nat} {c : Scene} {s : zG} (hc : SceneOk n c) (hs : yB (n : Int) s = true) : ∀ d ∈ zt c s, SceneOk n d := by
 obtain ⟨h1, h2, hk⟩ := wy hs
 intro d hd
 unfold zt at hd
 rcases hk with ⟨e, m⟩ | ⟨e, c0, c4, c3, c2⟩ | ⟨e, a0, an⟩
 ·rw [if_pos e] at hd
  have hd : d = (ji c.1 s.2.1, c.2) := by simpa using hd
  subst hd
  have := bp hc.ok (T7 (by rw [hc.len]; exact m))
  exact ⟨this.1, this.2.trans hc.len, hc.n0, hc.n12⟩
 ·rw [if_neg (by omega), if_neg (by omega)] at hd
  obtain ⟨q, hq, rfl⟩ := List.mem_map.1 hd
  have := bp hc.ok (R2 q ((wg _ q).1 hq))
  exact ⟨this.1, this.2.trans hc.len, hc.n0, hc.n12⟩
 ·rw [if_neg (by omega), if_pos e] at hd
  have hd : d = (c.1, card (c.1.getD s.2.2.toNat 0)) := by simpa using hd
  subst hd
  have := Uz (c.1.getD s.2.2.toNat 0)
  exact ⟨hc.ok, hc.len, this.1, by show card _ < 12; omega⟩
theorem Nu {p : List Int} {c : Int} (h : ChFit p c) : yI p c ≠ [] := by
 have h1 := h.l1
 unfold yI
 split
 ·intro e; have := congrArg List.length e; unfold fY at this; rw [List.length_map, List.length_range, List.length_nil] at this; omega
 split
 ·intro e; have := congrArg List.length e; simp [fu] at this
 split
 ·intro e; have := congrArg List.length e; unfold fY at this; rw [List.length_map, List.length_range, List.length_nil, vd] at this; omega
 split
 ·intro e; have := congrArg List.length e; unfold ZU at this; rw [List.length_map, List.length_range, List.length_nil] at this; omega
 ·simp
theorem YF {n : Nat} {c : Scene} {s : zG} (hc : SceneOk n c) (hs : yB (n : Int) s = true) : 1 ≤ (zt c s).length ∧ (zt c s).length ≤ 4096 := by
 obtain ⟨h1, h2, hk⟩ := wy hs
 unfold zt
 split
 ·simp
 split
 ·simp
 ·rename_i a b
  rcases hk with ⟨e, m⟩ | ⟨e, c0, c4, c3, c2⟩ | ⟨e, a0, an⟩
  ·exact absurd e a
  ·have hf := Np hc h1 h2 c0 c4 c3 c2
   have hs := (jW (c := s.2.2) hf.l12).1
   have := jA (yI c.1 s.2.2)
   rw [List.length_map]
   refine ⟨?_, by omega⟩
   rcases Nat.eq_zero_or_pos (setL (yI c.1 s.2.2)).length with h0 | h0
   ·exfalso
    have hne := Nu hf
    cases hl : yI c.1 s.2.2 with
    | nil => exact hne hl
    | cons q r =>
      have := (wg (yI c.1 s.2.2) q).2 (by rw [hl]; simp)
      rw [List.eq_nil_of_length_eq_zero h0] at this
      cases this
   ·exact h0
  ·exact absurd e b
theorem ua (p : List Int) (x : Int) (l : List (List Int)) (hl : l.length ≤ 16384) : ∀ (r : List (List Int)) (i : Nat) (out : List Scene), l.drop i = r → out.length = i →
 Ev (fun k => xV k (l.length : Int) (i : Int) p x out l i) (out ++ r.map fun q => (q, x))
 | [], i, out, h, ho => by
   have a := zJ h
   refine Ev.step (fun k => ub k _ _ _ _ _ _ _) ?_
   simp only [a.g, cond_false]
   exact Ev.some (by simp)
 | q :: r, i, out, h, ho => by
   have a := zi h (by rw [ze]; omega)
   have hlt := a.lt
   refine Ev.step (fun k => ub k _ _ _ _ _ _ _) ?_
   simp only [a.g, a.z, a.n, a.get, a.w, cond_true]
   refine Ev.yes (by simp) (Ev.yes (by rw [za]; simp; omega) ?_)
   exact (ua p x l hl r (i + 1) (out ++ [(q, x)]) a.next (by simp [ho])).to (by simp)
theorem gQ (p : List Int) (x : Int) (l : List (List Int)) (hl : l.length ≤ 16384) : ∀ (r : List (List Int)) (i : Nat) (out : List Scene), l.drop i = r → out.length = i →
 Ev (fun k => uv k (l.length : Int) (i : Int) p x out l) (out ++ r.map fun q => (q, x))
 | [], i, out, h, ho => by
   have a := zJ h
   refine Ev.step (fun k => gR k _ _ _ _ _ _) ?_
   simp only [a.g, cond_false]
   exact Ev.some (by simp)
 | q :: r, i, out, h, ho => by
   have a := zi h (by rw [ze]; omega)
   have hlt := a.lt
   refine Ev.step (fun k => gR k _ _ _ _ _ _) ?_
   simp only [a.g, a.z, a.n, a.get, a.w, cond_true]
   refine Ev.yes (by rw [za]; simp; omega) ?_
   exact (gQ p x l hl r (i + 1) (out ++ [(q, x)]) a.next (by simp [ho])).to (by simp)
theorem U3 {n : Nat} {c : Scene} {s : zG} (hc : SceneOk n c) (hs : yB (n : Int) s = true) : Ev (fun k => Xe k (c, s)) (zt c s) := by
 obtain ⟨h1, h2, hk⟩ := wy hs
 have hi := x5 hc.ok
 have hln := hc.len
 obtain ⟨p, x⟩ := c
 refine Ev.step (fun k => U4 k (p, x) s) ?_
 unfold zt
 rcases hk with ⟨e, m⟩ | ⟨e, c0, c4, c3, c2⟩ | ⟨e, a0, an⟩
 ·rw [if_pos e]
  exact Ev.yes (by simp [e]) (Ev.bind (Vc p s.2.1 (by rw [hln]; exact m) hi) (Ev.pure _))
 ·rw [if_neg (by omega), if_neg (by omega)]
  have hf := Np hc h1 h2 c0 c4 c3 c2
  have hsm : (yI p s.2.2).length ≤ 4096 ∧ ∀ q ∈ yI p s.2.2, q.length ≤ 12 := jW (c := s.2.2) hf.l12
  obtain ⟨y, e1, e2, e3⟩ := Qr p s.2.2 hf hi
  have hy12 : ∀ q ∈ y, q.length ≤ 1048576 := fun q hq => Nat.le_trans (hsm.2 q ((e3 q).1 hq)) (by decide)
  have es : setL y = setL (yI p s.2.2) := Qo e3
  have hsl := jA (yI p s.2.2)
  refine Ev.no (by simp [e]) (Ev.no (by simp [e]) (Ev.bind e1 (Ev.bind (vi _ y (Nat.le_refl _) e2 hy12) ?_)))
  rw [es]
  exact gQ p x _ (by have := hsm.1; show (setL (yI p s.2.2)).length ≤ _; omega) _ 0 [] rfl rfl
 ·rw [if_neg (by omega), if_pos e]
  refine Ev.no (by simp [e]) (Ev.yes (by simp [e]) (Ev.yes (by rw [za]; simp; simp at hln; omega) (Ev.yes (by simpa using a0) (Ev.yes (by simp at hln; simp; omega) (Ev.bind (vP _) (Ev.some ?_))))))
  simp
theorem Wc (c : Scene) (s : zG) (a : c.1.length ≤ maxLen) (hi : Ins c.1) :
 Ev (fun k => x6 k (c, s)) (if zF c.1 && (decide (-1 ≤ c.2 ∧ c.2 < 12) && yB (c.1.length : Int) s) then zt c s else []) := by
 obtain ⟨p, x⟩ := c
 refine Ev.step (fun k => Wd k (p, x) s) (Ev.bind (wq p a hi) (Ev.ite (fun h => Ev.some ?_) (fun h => Ev.ite (fun h2 => Ev.some ?_) (fun h2 => Ev.ite (fun h3 => Ev.some ?_) (fun h3 => Ev.bind (X9 _ s) (Ev.ite (fun h4 => Ev.some ?_) (fun h4 => ?_)))))))
 ·have : zF p = false := by simpa using h
  simp [this]
 ·have : ¬ -1 ≤ x := by simpa using h2
  simp [this]
 ·have : ¬ x < 12 := by simpa using h3
  simp [this]
 ·have : yB (p.length : Int) s = false := by simpa using h4
  simp [this]
 ·have e1 : zF p = true := by simpa using h
  have e2 : -1 ≤ x := by have : ¬ x < -1 := by simpa using h2
                         omega
  have e3 : x < 12 := by simpa using h3
  have e4 : yB (p.length : Int) s = true := by simpa using h4
  have hc : SceneOk p.length (p, x) := ⟨e1, rfl, e2, e3⟩
  rw [if_pos (by simp [e1, e2, e3, e4])]
  obtain ⟨h1, h2, hk⟩ := wy e4
  unfold zt
  rcases hk with ⟨e, m⟩ | ⟨e, c0, c4, c3, c2⟩ | ⟨e, a0, an⟩
  ·rw [if_pos e]
   exact Ev.yes (by simp [e]) (Ev.bind (Zq p s.2.1 m hi) (Ev.pure _))
  ·rw [if_neg (by omega), if_neg (by omega)]
   have hf := Np hc h1 h2 c0 c4 c3 c2
   have hsm : (yI p s.2.2).length ≤ 4096 ∧ ∀ q ∈ yI p s.2.2, q.length ≤ 12 := jW (c := s.2.2) hf.l12
   have hsl := jA (yI p s.2.2)
   have hok : chOk p s.2.2 = true := by
    unfold chOk
    have a3 : ¬ (s.2.2 = 3 ∧ p.length < 2) := fun h => by have := c3 h.1; omega
    have a2 : ¬ (s.2.2 = 2 ∧ 12 ≤ p.length) := fun h => by have := c2 h.1; omega
    rw [e1, decide_eq_true ⟨c0, c4⟩]
    simp only [Bool.true_and, Bool.and_eq_true, Bool.not_eq_true', Bool.and_eq_false_iff, decide_eq_false_iff_not, beq_eq_false_iff_ne]
    refine ⟨by omega, ?_, ?_⟩
    ·by_cases q : s.2.2 = 3
     ·exact .inr fun h => a3 ⟨q, h⟩
     ·exact .inl q
    ·by_cases q : s.2.2 = 2
     ·exact .inr fun h => a2 ⟨q, h⟩
     ·exact .inl q
   have er : resOf p s.2.2 = (setL (yI p s.2.2), true) := by unfold resOf; rw [if_pos hok]
   refine Ev.no (by simp [e]) (Ev.no (by simp [e]) (Ev.bind (WW p s.2.2 a hi) ?_))
   rw [er]
   exact ua p x _ (by have := hsm.1; show (setL (yI p s.2.2)).length ≤ _; omega) _ 0 [] rfl rfl
  ·rw [if_neg (by omega), if_pos e]
   refine Ev.no (by simp [e]) (Ev.yes (by simp [e]) (Ev.bind (yJ p (by omega)) (Ev.yes (by simpa using a0) (Ev.yes (by simpa using an) (Ev.bind (xB _ ?_) (Ev.pure _))))))
   have hlt : s.2.2.toNat < p.length := by omega
   have : p.getD s.2.2.toNat 0 = p[s.2.2.toNat] := by simp [List.getD, hlt]
   rw [this]
   exact hi _ (List.getElem_mem hlt)
theorem vZ {n : Nat} {c : Scene} {s : zG} (hc : SceneOk n c) (hs : yB (n : Int) s = true) : Ev (fun k => x6 k (c, s)) (zt c s) := by
 obtain ⟨h1, h2, hk⟩ := wy hs
 have := Wc c s (by rw [hc.len, ze]; omega) (x5 hc.ok)
 rw [hc.len, hc.ok, hs, decide_eq_true ⟨hc.n0, hc.n12⟩] at this
 exact this
end Qq
namespace Qq
open Go Go.Vt Pt
set_option linter.unusedVariables false
set_option linter.unusedSimpArgs false
def strB (l : List UInt8) : ByteArray := ⟨l.toArray⟩
theorem Rw (a b : List UInt8) : strB a ++ strB b = strB (a ++ b) := by unfold strB; apply ByteArray.ext; simp
theorem UR (a : List UInt8) : (strB a).size = a.length := by simp [strB, ByteArray.size]
def aq (n : Int) : ByteArray := strB (Lib.itoa n)
theorem Ni {u : Nat} (h : u < 10) : Lib.decDigits u = [UInt8.ofNat (48 + u)] := by rw [Lib.decDigits, dif_pos h]
theorem MU {u : Nat} (h : ¬ u < 10) : Lib.decDigits u = Lib.decDigits (u / 10) ++ [UInt8.ofNat (48 + u % 10)] := by rw [Lib.decDigits, dif_neg h]
theorem M4 (n : Int) (hn : In n) : Ev (fun k => strconv_Itoa k n) (aq n) := by
 refine Ev.congr (fun k => Y8 k n) ?_
 unfold itoaF
 refine Ev.yes ?_ (Ev.pure _)
 unfold In at hn
 simp; exact hn
theorem cN (n : Int) (hn : In n) : Ev (fun k => jQ k n) (aq n) :=
 Ev.step (fun k => WY k n) (Ev.bind (M4 n hn) (Ev.pure _))
theorem Vr (n : Int) (hn : In n) : (aq n).size ≤ 21 := by
 unfold In at hn
 rw [aq, UR]
 exact Lib.itoa_length_le n hn.1 hn.2
end Qq
namespace Qq
open Go Go.Vt Pt
set_option linter.unusedVariables false
set_option linter.unusedSimpArgs false
def jV (x : ByteArray) : List UInt8 := x.data.toList
theorem Wx (x : ByteArray) : (jV x).length = x.size := by unfold jV; simp
def joinL (l : List ByteArray) (sep : ByteArray) : List UInt8 := Lib.join (l.map jV) (jV sep)
def joinB (l : List ByteArray) (sep : ByteArray) : ByteArray := strB (joinL l sep)
theorem Z1 {B S : Nat} (sep : List UInt8) (hs : sep.length ≤ S) : ∀ (r : List ByteArray), (∀ x ∈ r, x.size ≤ B) → (Lib.joinTail sep (r.map jV)).length ≤ r.length * (B + S)
 | [], _ => by simp [Lib.joinTail]
 | x :: r, h => by
   have ih := Z1 sep hs r (fun y hy => h y (by simp [hy]))
   have hx := h x (by simp)
   have e : Lib.joinTail sep ((x :: r).map jV) = (sep ++ jV x) ++ Lib.joinTail sep (r.map jV) := by simp [Lib.joinTail]
   rw [e, List.length_append, List.length_append, Wx, List.length_cons, Nat.add_mul, Nat.one_mul]
   omega
theorem RP {B S : Nat} (sep : ByteArray) (hs : sep.size ≤ S) (l : List ByteArray) (h : ∀ x ∈ l, x.size ≤ B) : (joinL l sep).length ≤ l.length * (B + S) := by
 cases l with
 | nil => simp [joinL, Lib.join_nil]
 | cons x r =>
   have hx := h x (by simp)
   have := Z1 (B := B) (S := S) (jV sep) (by rw [Wx]; exact hs) r (fun y hy => h y (by simp [hy]))
   unfold joinL
   rw [List.map_cons, Lib.join_cons, List.length_append, Wx, List.length_cons, Nat.add_mul, Nat.one_mul]
   omega
theorem PZ (l : List ByteArray) (sep : ByteArray) (B : Nat) (hl : l.length ≤ 1048576) (hB : ∀ x ∈ l, x.size ≤ B) (hBB : B ≤ 100) (hs : sep.size ≤ 100) : Ev (fun k => P1 k (l, sep)) (joinB l sep) := by
 refine Ev.step (fun k => P0 k l sep) (Ev.bind (Ev.congr (fun k => Y6 k l sep) ?_) (Ev.pure _))
 unfold joinF
 have jl := RP (B := B) (S := 100) sep hs l hB
 have hmul : l.length * (B + 100) ≤ 1048576 * 200 := Nat.mul_le_mul hl (by omega)
 refine Ev.yes ?_ (Ev.pure _)
 rw [Bool.and_eq_true, decide_eq_true_eq, decide_eq_true_eq]
 exact ⟨by omega, by show (joinL l sep).length ≤ _; omega⟩
theorem fw (xs : List Int) (hm : xs.length ≤ 1048576) (hi : Ins xs) : ∀ (r : List Int) (i : Nat), xs.drop i = r → Ev (fun k => wL k xs (xs.length : Int) (i : Int) ((xs.take i).map aq)) (xs.map aq)
 | [], i, h => by
   have a := zJ h
   refine Ev.step (fun k => jc k _ _ _ _) ?_
   simp only [a.g, cond_false]
   exact Ev.some (by rw [List.take_of_length_le a.ge])
 | x :: r, i, h => by
   have a := zi h (by rw [ze]; omega)
   have hlt := a.lt
   have hx : In x := hi x (List.mem_of_mem_drop (h ▸ List.mem_cons_self))
   refine Ev.step (fun k => jc k _ _ _ _) ?_
   simp only [a.g, a.z, a.get, a.w, cond_true]
   refine Ev.bind (cN x hx) (Ev.yes (by rw [za]; simp; omega) ?_)
   have := fw xs hm hi r (i + 1) a.next
   rw [List.take_succ_eq_append_getElem hlt, List.map_append] at this
   have e : xs[i] = x := by have := a.get 0; rw [Int.toNat_natCast, List.getD, List.getElem?_eq_getElem hlt] at this; exact this
   rw [e] at this
   exact this
theorem Tv (xs : List Int) (hm : xs.length ≤ 1048576) (hi : Ins xs) : Ev (fun k => bw k xs) (xs.map aq) :=
 Ev.step (fun k => WT k xs) (fw xs hm hi xs 0 rfl)
theorem cE {xs : List Int} (hi : Ins xs) : ∀ x ∈ xs.map aq, x.size ≤ 21 := by
 intro x hx
 obtain ⟨n, hn, rfl⟩ := List.mem_map.1 hx
 exact Vr n (hi n hn)
end Qq
namespace Qq
open Go Go.Vt Pt
set_option linter.unusedVariables false
set_option linter.unusedSimpArgs false
def wB (xs : List Int) : ByteArray := if xs = [] then ⟨#[45]⟩ else joinB (xs.map aq) ⟨#[44]⟩
theorem Yt (xs : List Int) (hm : xs.length ≤ 1048576) (hi : Ins xs) : Ev (fun k => jP k xs) (wB xs) := by
 refine Ev.step (fun k => Yu k xs) ?_
 unfold wB
 refine Ev.ite (fun h => Ev.some ?_) (fun h => ?_)
 ·have : xs = [] := by simp at h; exact h
  rw [if_pos this]
 ·have : ¬ xs = [] := by simp at h; exact h
  rw [if_neg this]
  exact Ev.bind (Tv xs hm hi) (Ev.bind (PZ _ _ 21 (by simpa using hm) (cE hi) (by omega) (by show (1 : Nat) ≤ _; omega)) (Ev.pure _))
end Qq
namespace Qq
open Go Go.Vt Pt
set_option linter.unusedVariables false
set_option linter.unusedSimpArgs false
set_option linter.unnecessarySimpa false
def numB (l : List UInt8) : Nat := l.foldl (fun a c => a * 10 + (c.toNat - 48)) 0
theorem byte48 {d : Nat} (h : d < 10) : (UInt8.ofNat (48 + d)).toNat = 48 + d := by
 rw [UInt8.toNat_ofNat']; omega
theorem jj : ∀ (n u : Nat), u ≤ n → numB (Lib.decDigits u) = u ∧ (∀ c ∈ Lib.decDigits u, 48 ≤ c.toNat ∧ c.toNat ≤ 57) ∧ Lib.decDigits u ≠ []
 | n, u, h => by
   by_cases hu : u < 10
   ·rw [Ni hu]
    refine ⟨by simp only [numB, List.foldl_cons, List.foldl_nil, byte48 hu]; omega, fun c hc => ?_, by simp⟩
    have : c = UInt8.ofNat (48 + u) := by simpa using hc
    rw [this, byte48 hu]; omega
   ·match n, h with
    | 0, h => omega
    | n + 1, h =>
    have hd : u % 10 < 10 := Nat.mod_lt _ (by omega)
    obtain ⟨h1, h2, h3⟩ := jj n (u / 10) (by omega)
    rw [MU hu]
    refine ⟨?_, fun c hc => ?_, by simp⟩
    ·unfold numB at h1 ⊢
     rw [List.foldl_append, h1]
     simp only [List.foldl_cons, List.foldl_nil, byte48 hd]
     omega
    ·rcases List.mem_append.1 hc with hc | hc
     ·exact h2 c hc
     ·have : c = UInt8.ofNat (48 + u % 10) := by simpa using hc
      rw [this, byte48 hd]; omega
theorem TJ (n : Int) : ∀ c ∈ Lib.itoa n, c ≠ 44 ∧ c ≠ 47 := by
 intro c hc
 have key : c = 45 ∨ (48 ≤ c.toNat ∧ c.toNat ≤ 57) := by
  unfold Lib.itoa at hc
  split at hc
  ·rcases List.mem_cons.1 hc with rfl | hc
   ·exact .inl rfl
   ·exact .inr ((jj _ _ (Nat.le_refl _)).2.1 c hc)
  ·exact .inr ((jj _ _ (Nat.le_refl _)).2.1 c hc)
 refine ⟨fun e => ?_, fun e => ?_⟩
 ·subst e
  rcases key with h | h
  ·exact absurd h (by decide)
  ·have : (44 : UInt8).toNat = 44 := rfl
   omega
 ·subst e
  rcases key with h | h
  ·exact absurd h (by decide)
  ·have : (47 : UInt8).toNat = 47 := rfl
   omega
theorem RR {a b : Int} (h : Lib.itoa a = Lib.itoa b) : a = b := by
 have pos : ∀ (u : Nat) (l : List UInt8), Lib.decDigits u = 45 :: l → False := fun u l e => by
  have := ((jj _ u (Nat.le_refl _)).2.1 45 (by rw [e]; simp)).1
  exact absurd this (by decide)
 have val : ∀ u v : Nat, Lib.decDigits u = Lib.decDigits v → u = v := fun u v e => by
  rw [← (jj _ u (Nat.le_refl _)).1, ← (jj _ v (Nat.le_refl _)).1, e]
 unfold Lib.itoa at h
 split at h
 ·split at h
  ·have := val _ _ (List.cons.inj h).2
   omega
  ·exact (pos _ _ h.symm).elim
 ·split at h
  ·exact (pos _ _ h).elim
  ·have := val _ _ h
   omega
theorem Nn {s : UInt8} : ∀ {A A' B B' : List UInt8}, s ∉ A → s ∉ A' → A ++ s :: B = A' ++ s :: B' → A = A' ∧ B = B'
 | [], [], B, B', _, _, h => ⟨rfl, (List.cons.inj h).2⟩
 | [], y :: A', B, B', _, h2, h => (h2 (by rw [(List.cons.inj h).1]; simp)).elim
 | x :: A, [], B, B', h1, _, h => (h1 (by rw [← (List.cons.inj h).1]; simp)).elim
 | x :: A, y :: A', B, B', h1, h2, h => by
   have e := List.cons.inj h
   obtain ⟨e1, e2⟩ := Nn (A := A) (A' := A') (fun hm => h1 (by simp [hm])) (fun hm => h2 (by simp [hm])) e.2
   exact ⟨by rw [e.1, e1], e2⟩
theorem tail_cons (s : UInt8) (x : List UInt8) (r : List (List UInt8)) : Lib.joinTail [s] (x :: r) = s :: (x ++ Lib.joinTail [s] r) := by simp [Lib.joinTail]
theorem RQ {s : UInt8} : ∀ {x y : List UInt8} {r q : List (List UInt8)}, (∀ z ∈ x :: r, s ∉ z) → (∀ z ∈ y :: q, s ∉ z) → x ++ Lib.joinTail [s] r = y ++ Lib.joinTail [s] q → x :: r = y :: q
 | x, y, [], [], _, _, h => by simpa [Lib.joinTail] using h
 | x, y, [], z :: q, h1, _, h => by
   rw [tail_cons] at h
   exact (h1 x (by simp) (by have : s ∈ x ++ Lib.joinTail [s] [] := by rw [h]; simp
                             simpa [Lib.joinTail] using this)).elim
 | x, y, z :: r, [], _, h2, h => by
   rw [tail_cons] at h
   exact (h2 y (by simp) (by have : s ∈ y ++ Lib.joinTail [s] [] := by rw [← h]; simp
                             simpa [Lib.joinTail] using this)).elim
 | x, y, z :: r, u :: q, h1, h2, h => by
   rw [tail_cons, tail_cons] at h
   obtain ⟨e1, e2⟩ := Nn (h1 x (by simp)) (h2 y (by simp)) h
   rw [e1, RQ (fun w hw => h1 w (by simp [hw])) (fun w hw => h2 w (by simp [hw])) e2]
def keyB (c : Scene) : ByteArray := (wB c.1 ++ (⟨#[47]⟩ : ByteArray)) ++ aq c.2
theorem Vq (c : Scene) (h : c.1 ≠ []) : keyB c = strB (Lib.join (c.1.map Lib.itoa) [44] ++ 47 :: Lib.itoa c.2) := by
 unfold keyB wB aq
 rw [if_neg h]
 have e1 : joinB (c.1.map aq) ⟨#[44]⟩ = strB (Lib.join (c.1.map Lib.itoa) [44]) := by
  unfold joinB joinL
  rw [List.map_map]
  congr 2
 have e2 : (⟨#[47]⟩ : ByteArray) = strB [47] := rfl
 show joinB (c.1.map aq) ⟨#[44]⟩ ++ (⟨#[47]⟩ : ByteArray) ++ strB (Lib.itoa c.2) = _
 rw [e1, e2, Rw, Rw]
 congr 1
 simp
theorem XW {s : UInt8} (hs : s ≠ 44) : ∀ {x : List UInt8} {r : List (List UInt8)}, (∀ z ∈ x :: r, s ∉ z) → s ∉ x ++ Lib.joinTail [44] r
 | x, [], h => by simpa [Lib.joinTail] using h x (by simp)
 | x, y :: r, h => by
   rw [tail_cons]
   intro hm
   rcases List.mem_append.1 hm with hm | hm
   ·exact h x (by simp) hm
   ·rcases List.mem_cons.1 hm with hm | hm
    ·exact hs hm
    ·exact XW hs (x := y) (r := r) (fun z hz => h z (by simp at hz ⊢; exact .inr hz)) hm
theorem ZX : ∀ {p q : List Int}, p.map Lib.itoa = q.map Lib.itoa → p = q
 | [], [], _ => rfl
 | [], _ :: _, h => by simp at h
 | _ :: _, [], h => by simp at h
 | x :: p, y :: q, h => by
   simp only [List.map_cons, List.cons.injEq] at h
   rw [RR h.1, ZX h.2]
theorem NZ {c d : Scene} (hc : c.1 ≠ []) (hd : d.1 ≠ []) (h : keyB c = keyB d) : c = d := by
 rw [Vq c hc, Vq d hd] at h
 have h' : Lib.join (c.1.map Lib.itoa) [44] ++ 47 :: Lib.itoa c.2 = Lib.join (d.1.map Lib.itoa) [44] ++ 47 :: Lib.itoa d.2 := by
  have := congrArg (fun b => b.data.toList) h
  simpa [strB] using this
 obtain ⟨p, n⟩ := c
 obtain ⟨q, m⟩ := d
 cases p with
 | nil => exact (hc rfl).elim
 | cons x p =>
   cases q with
   | nil => exact (hd rfl).elim
   | cons y q =>
     rw [List.map_cons, List.map_cons, Lib.join_cons, Lib.join_cons] at h'
     have nb : ∀ (x : Int) (p : List Int), ∀ z ∈ Lib.itoa x :: p.map Lib.itoa, (47 : UInt8) ∉ z ∧ (44 : UInt8) ∉ z := fun x p z hz => by
      have : ∃ n, z = Lib.itoa n := by
       rcases List.mem_cons.1 hz with rfl | hz
       ·exact ⟨x, rfl⟩
       ·obtain ⟨n, _, rfl⟩ := List.mem_map.1 hz
        exact ⟨n, rfl⟩
      obtain ⟨n, rfl⟩ := this
      exact ⟨fun hm => (TJ n _ hm).2 rfl, fun hm => (TJ n _ hm).1 rfl⟩
     obtain ⟨e1, e2⟩ := Nn (XW (by decide) fun z hz => (nb x p z hz).1) (XW (by decide) fun z hz => (nb y q z hz).1) h'
     have e3 := RQ (fun z hz => (nb x p z hz).2) (fun z hz => (nb y q z hz).2) e1
     have e4 := ZX (p := x :: p) (q := y :: q) (by simpa using e3)
     have e5 := RR e2
     dsimp only at e5
     rw [e4, e5]
theorem XI {l : List Scene} {x : Scene} (hl : ∀ c ∈ l, c.1 ≠ []) (hx : x.1 ≠ []) : jI (l.map keyB) (keyB x) = decide (x ∈ l) := by
 rw [Bool.eq_iff_iff, decide_eq_true_eq]
 unfold jI
 rw [List.any_eq_true]
 constructor
 ·rintro ⟨k, hk, he⟩
  obtain ⟨c, hc, rfl⟩ := List.mem_map.1 hk
  rw [NZ hx (hl c hc) (beqBA he)]
  exact hc
 ·intro hm
  exact ⟨keyB x, List.mem_map.2 ⟨x, hm, rfl⟩, VH _⟩
theorem Vu (c : Scene) (h : c.1.length ≤ 12) (hi : Ins c.1) (hn : In c.2) : Ev (fun k => jL k c) (keyB c) := by
 obtain ⟨p, n⟩ := c
 have h1 : (wB p).size ≤ 1000 := by
  unfold wB
  split
  ·decide
  ·have := RP (B := 21) (S := 1) (⟨#[44]⟩ : ByteArray) (by decide) (p.map aq) (cE hi)
   rw [List.length_map] at this
   rw [joinB, UR]
   have h : p.length ≤ 12 := h
   omega
 have h2 := Vr n hn
 have h3 : (⟨#[47]⟩ : ByteArray).size = 1 := rfl
 refine Ev.step (fun k => QI k (p, n)) (Ev.bind (Yt p (by have h : p.length ≤ 12 := h; omega) hi) (Ev.yes (decide_eq_true (by omega)) (Ev.bind (cN n hn) (Ev.yes (decide_eq_true (by rw [ByteArray.size_append]; omega)) (Ev.some rfl)))))
end Qq
namespace Qq
open Go Go.Vt Pt
set_option linter.unusedVariables false
set_option linter.unusedSimpArgs false
def uY (k : Int) : Nat → List Step
 | 0 => []
 | n + 1 => (k, (k + 1, k + 2), k + 3) :: uY (k + 4) n
theorem Uq {α : Type} {xs : List α} {i : Nat} (h : i < xs.length) (a d : α) : (xs.set i a).getD i d = a := by
 simp [List.getD, h]
theorem wrap4 {k : Int} (h0 : 0 ≤ k) (h1 : k + 4 ≤ top) : IntKind.i64.wrap (k + 1) = k + 1 ∧ IntKind.i64.wrap (k + 1 + 1) = k + 2 ∧ IntKind.i64.wrap (k + 2 + 1) = k + 3 ∧ IntKind.i64.wrap (k + 3 + 1) = k + 4 := by
 rw [ZM] at h1
 refine ⟨zj (by omega) (by omega), ?_, ?_, ?_⟩ <;> (rw [zj (by omega) (by omega)]; omega)
theorem XM (xs : List Step) (hm : xs.length ≤ maxLen) : ∀ (r : List Step) (i : Nat) (k0 : Int) (done : List Step), xs.drop i = r → done.length = i → 0 ≤ k0 → k0 + 4 * r.length ≤ top →
 Ev (fun k => wH k k0 (i : Int) (done ++ r)) (k0 + 4 * r.length, done ++ uY k0 r.length) := by
 intro r
 induction r with
 | nil =>
   intro i k0 done h hl h0 h1
   refine Ev.step (fun k => uW k k0 i _) ?_
   have : decide ((i : Int) < ((done ++ ([] : List Step)).length : Int)) = false := by simp; omega
   refine Ev.no this (Ev.some ?_)
   simp [uY]
 | cons x r ih =>
   intro i k0 done h hl h0 h1
   have a := zi h hm
   rw [List.length_cons] at h1
   obtain ⟨w1, w2, w3, w4⟩ := wrap4 (k := k0) h0 (by omega)
   have L : i < (done ++ x :: r).length := by simp; omega
   have g1 : decide ((i : Int) < ((done ++ x :: r).length : Int)) = true := decide_eq_true (by omega)
   have g2 : decide (i < (done ++ x :: r).length) = true := decide_eq_true (by omega)
   refine Ev.step (fun k => uW k k0 i _) ?_
   simp only [Int.toNat_natCast, List.length_set, List.set_set, Uq L, w1, w2, w3, w4, a.z, a.w, g1, g2, cond_true]
   have e : (done ++ x :: r).set i (k0, (k0 + 1, k0 + 2), k0 + 3) = (done ++ [(k0, (k0 + 1, k0 + 2), k0 + 3)]) ++ r := by
    rw [← hl, List.set_append_right _ _ (Nat.le_refl _)]
    simp
   have := ih (i + 1) (k0 + 4) (done ++ [(k0, (k0 + 1, k0 + 2), k0 + 3)]) a.next (by simp [hl]) (by omega) (by omega)
   rw [← e] at this
   refine this.to ?_
   simp [uY]
   omega
theorem TC (xs : List Step) (k0 : Int) (hm : xs.length ≤ maxLen) (h0 : 0 ≤ k0) (h1 : k0 + 4 * xs.length ≤ top) :
 Ev (fun k => cZ k (xs, k0)) (k0 + 4 * xs.length, uY k0 xs.length) :=
 Ev.step (fun k => WI k xs k0) (XM xs hm xs 0 k0 [] rfl rfl h0 h1)
theorem TB (t : xa) (k0 : Int) (h1 : t.1.length ≤ 1048576) (h2 : t.2.1.length ≤ 1048576) (h0 : 0 ≤ k0) (hk : k0 ≤ 1099511627776) :
 Ev (fun k => cY k (t, k0)) (k0 + t.1.length + 4 * t.2.1.length, ww k0 t.1.length, uY (k0 + t.1.length) t.2.1.length) := by
 have te := ZM
 refine Ev.step (fun k => WH k t k0) (Ev.bind (br t.1 k0 (by rw [ze]; omega) h0 (by omega)) ?_)
 exact Ev.bind (TC t.2.1 (k0 + t.1.length) (by rw [ze]; omega) (by omega) (by omega)) (Ev.pure _)
theorem TD (t : Scene) (k0 : Int) (h1 : t.1.length ≤ 1048576) (h0 : 0 ≤ k0) (hk : k0 ≤ 1099511627776) :
 Ev (fun k => c9 k (t, k0)) (k0 + t.1.length, ww k0 t.1.length) := by
 have te := ZM
 exact Ev.step (fun k => WJ k t k0) (Ev.bind (br t.1 k0 (by rw [ze]; omega) h0 (by omega)) (Ev.pure _))
theorem TY (n : Nat) (k0 c : Int) (h1 : n ≤ 1048576) (h0 : 0 ≤ k0) (hk : k0 ≤ 1099511627776) :
 Ev (fun k => bd k ((ww k0 n, c), k0)) (k0 + n) := by
 have te := ZM
 exact Ev.step (fun k => WK k _ k0) (Ev.bind (Wj n k0 (by rw [ze]; omega) h0 (by omega)) (Ev.no (by simp; omega) (Ev.pure _)))
theorem QP (c d : Scene) (h1 : c.1.length ≤ maxLen) (h2 : d.1.length ≤ maxLen) : Ev (fun k => Y0 k (c, d)) (c == d) := by
 obtain ⟨p, a⟩ := c
 obtain ⟨q, b⟩ := d
 refine Ev.step (fun k => UQ k _ _) (Ev.bind (Wn _ _ h1 h2) (Ev.ite (fun h => Ev.some ?_) (fun h => Ev.ite (fun h' => Ev.some ?_) (fun h' => Ev.some ?_)))) <;> simp_all
end Qq
namespace Qq
open Go Go.Vt Pt
set_option linter.unusedVariables false
set_option linter.unusedSimpArgs false
def uZ (t : xa) : List Int × Int × Bool := if yl t then (t.1, -1, true) else ([], 0, false)
theorem UJ (t : xa) (a1 : t.1.length ≤ maxLen) (ai : Ins t.1) (a2 : t.2.1.length ≤ maxLen) : Ev (fun k => fM k t) (uZ t) := by
 refine Ev.step (fun k => Wa k t) (Ev.bind (fJ t a1 ai a2) (Ev.ite (fun h => Ev.some ?_) (fun h => ?_)))
 ·have : yl t = false := by simpa using h
  simp [uZ, this]
 ·have e : yl t = true := by simpa using h
  have hl := xX e
  refine Ev.bind (yJ t.1 (by omega)) ?_
  have : (!t.1.isEmpty) = true := by
   cases hx : t.1 with
   | nil => rw [hx] at hl; simp at hl
   | cons => rfl
  rw [this]
  exact Ev.some (by simp [uZ, e])
end Qq
namespace Qq
open Go Go.Vt Pt
set_option linter.unusedVariables false
set_option linter.unusedSimpArgs false
end Qq
namespace Qq
open Go Go.Vt Pt
set_option linter.unusedVariables false
set_option linter.unusedSimpArgs false
set_option linter.unnecessarySimpa false
abbrev Way : Type := Scene × List Int
def addP (s : zG) (w : List Int) : Nat → List Scene → List Way → List Way
 | _, [], acc => acc
 | j, x :: r, acc => if x ∈ acc.map Prod.fst then addP s w (j + 1) r acc else addP s w (j + 1) r (acc ++ [(x, if s.1 = 2 then w ++ [(j : Int)] else w)])
def goP (s : zG) : List Way → List Way → List Way
 | [], acc => acc
 | c :: r, acc => goP s r (addP s c.2 0 (zt c.1 s) acc)
def gx : List zG → List Way → Option (List Way)
 | [], l => some l
 | s :: r, l => if (goP s l []).length ≤ 3000 then gx r (goP s l []) else none
theorem YQ (s : zG) (w : List Int) : ∀ (r : List Scene) (j : Nat) (acc : List Way), acc.length ≤ (addP s w j r acc).length
 | [], _, _ => Nat.le_refl _
 | x :: r, j, acc => by
   unfold addP
   split
   ·exact YQ s w r (j + 1) acc
   ·exact Nat.le_trans (by simp) (YQ s w r (j + 1) _)
theorem P8 (s : zG) : ∀ (l acc : List Way), acc.length ≤ (goP s l acc).length
 | [], _ => Nat.le_refl _
 | c :: r, acc => Nat.le_trans (YQ s c.2 _ 0 acc) (P8 s r _)
def eY (n : Nat) (l : List Way) : Prop := ∀ c ∈ l, SceneOk n c.1
theorem Ro {n : Nat} (s : zG) (w : List Int) : ∀ (r : List Scene) (j : Nat) (acc : List Way), (∀ x ∈ r, SceneOk n x) → eY n acc → eY n (addP s w j r acc)
 | [], _, _, _, h => h
 | x :: r, j, acc, hr, h => by
   unfold addP
   split
   ·exact Ro s w r (j + 1) acc (fun y hy => hr y (by simp [hy])) h
   ·refine Ro s w r (j + 1) _ (fun y hy => hr y (by simp [hy])) (fun c hc => ?_)
    rcases List.mem_append.1 hc with hc | hc
    ·exact h c hc
    ·have : c = (x, if s.1 = 2 then w ++ [(j : Int)] else w) := by simpa using hc
     rw [this]; exact hr x (by simp)
theorem Ms {n : Nat} {s : zG} (hs : yB (n : Int) s = true) : ∀ (l acc : List Way), eY n l → eY n acc → eY n (goP s l acc)
 | [], _, _, h => h
 | c :: r, acc, hl, h => Ms hs r _ (fun d hd => hl d (by simp [hd])) (Ro s c.2 _ 0 acc (bq (hl c (by simp)) hs) h)
def bG (m : Nat) (l : List Way) : Prop := ∀ c ∈ l, c.2.length ≤ m
theorem UE {m : Nat} (s : zG) (w : List Int) (hw : w.length ≤ m) : ∀ (r : List Scene) (j : Nat) (acc : List Way), bG (m + 1) acc → bG (m + 1) (addP s w j r acc)
 | [], _, _, h => h
 | x :: r, j, acc, h => by
   unfold addP
   split
   ·exact UE s w hw r (j + 1) acc h
   ·refine UE s w hw r (j + 1) _ (fun c hc => ?_)
    rcases List.mem_append.1 hc with hc | hc
    ·exact h c hc
    ·have : c = (x, if s.1 = 2 then w ++ [(j : Int)] else w) := by simpa using hc
     rw [this]
     dsimp only
     split
     ·simp; omega
     ·omega
theorem P6 {m : Nat} {s : zG} : ∀ (l acc : List Way), bG m l → bG (m + 1) acc → bG (m + 1) (goP s l acc)
 | [], _, _, h => h
 | c :: r, acc, hl, h => P6 r _ (fun d hd => hl d (by simp [hd])) (UE s c.2 (hl c (by simp)) _ 0 acc h)
def outP : Option (List Way) → List Scene × List (List Int) × Bool
 | some l => (l.map Prod.fst, l.map Prod.snd, true) | none => ([], [], false)
def resP (r : List zG) (A : List Way) : List Scene × List (List Int) × Bool := if A.length ≤ 3000 then outP (gx r A) else outP none
theorem uz (p q : List Int) (hp : p.length ≤ maxLen) (e : q.length = p.length) : ∀ (r r' : List Int) (i : Nat), p.drop i = r → q.drop i = r' → Ev (fun k => xy k q p (p.length : Int) (i : Int)) (decide (r = r'))
 | [], r', i, h, h' => by
   have a := zJ h
   have : r' = [] := by rw [← h', List.drop_eq_nil_iff]; have := a.ge; omega
   refine Ev.step (fun k => xt k _ _ _ _) ?_
   simp only [a.g, cond_false]
   exact Ev.some (by simp [this])
 | x :: r, [], i, h, h' => by
   have a := zi h hp
   have := a.lt
   rw [List.drop_eq_nil_iff] at h'
   omega
 | x :: r, y :: r', i, h, h' => by
   have a := zi h hp
   have b := zi h' (by rw [e]; exact hp)
   have hlt := a.lt
   refine Ev.step (fun k => xt k _ _ _ _) ?_
   simp only [a.g, a.z, a.get, a.w, b.g, b.get, cond_true]
   refine Ev.ite (fun h1 => Ev.some ?_) (fun h1 => ?_)
   ·have : ¬ x = y := by simpa using h1
    simp [this]
   ·have : x = y := by simpa using h1
    subst this
    refine (uz p q hp e r r' (i + 1) a.next b.next).to ?_
    simp
theorem Yn (p q : List Int) (hp : p.length ≤ maxLen) : Ev (fun k => zO k (p, q)) (decide (p = q)) := by
 refine Ev.step (fun k => fp k p q) (Ev.ite (fun h => Ev.some ?_) (fun h => ?_))
 ·have : ¬ (p.length : Int) = q.length := by simpa using h
  have : ¬ p = q := fun e => this (by rw [e])
  simp [this]
 ·have : (p.length : Int) = q.length := by simpa using h
  exact uz p q hp (by omega) p q 0 rfl rfl
theorem Xk (c d : Scene) (hc : c.1.length ≤ maxLen) : Ev (fun k => bn k (c, d)) (decide (c = d)) := by
 obtain ⟨p, n⟩ := c
 obtain ⟨q, m⟩ := d
 refine Ev.step (fun k => WN k (p, n) (q, m)) (Ev.bind (Yn p q hc) (Ev.ite (fun h => Ev.some ?_) (fun h => Ev.some ?_)))
 ·have : p = q := by simpa using h
  subst this
  rw [Bool.eq_iff_iff]; simp
 ·have : ¬ p = q := by simpa using h
  simp [this]
theorem gK (l : List Scene) (x : Scene) (hl : l.length ≤ 16384) (hx : x.1.length ≤ 12) : ∀ (r : List Scene) (i : Nat), l.drop i = r → ∃ y, Ev (fun k => uu k l (l.length : Int) (i : Int) x.1 x.2) y ∧ decide (y ≥ 0) = decide (x ∈ r)
 | [], i, h => by
   have a := zJ h
   refine ⟨-1, Ev.step (fun k => vG k _ _ _ _ _) ?_, by simp⟩
   simp only [a.g, cond_false]
   exact Ev.pure _
 | c :: r, i, h => by
   have a := zi h (by rw [ze]; omega)
   obtain ⟨y, h1, h2⟩ := gK l x hl hx r (i + 1) a.next
   have hs := Xk x c (by rw [ze]; omega)
   by_cases e : x = c
   ·refine ⟨(i : Int), Ev.step (fun k => vG k _ _ _ _ _) ?_, by simp [e]⟩
    simp only [a.g, a.z, a.get, a.w, cond_true]
    exact Ev.bind hs (Ev.yes (by simp [e]) (Ev.pure _))
   ·refine ⟨y, Ev.step (fun k => vG k _ _ _ _ _) ?_, by rw [h2]; simp [e]⟩
    simp only [a.g, a.z, a.get, a.w, cond_true]
    exact Ev.bind hs (Ev.no (by simp [e]) h1)
theorem UZ (l : List Scene) (x : Scene) (hl : l.length ≤ 16384) (hx : x.1.length ≤ 12) : ∃ y, Ev (fun k => Xc k (l, x)) y ∧ decide (y ≥ 0) = decide (x ∈ l) := by
 obtain ⟨y, h1, h2⟩ := gK l x hl hx l 0 rfl
 exact ⟨y, Ev.step (fun k => U0 k l x) h1, h2⟩
theorem j9 {n m : Nat} (hn : n ≤ 12) (hm : m ≤ 12) (steps : List zG) (l : List Way) (hl : l.length ≤ 3000) (s : zG) (si : Nat) (ci : Nat) (c : Way) (hci : ci < l.length) (hc : l[ci] = c) (hcm : c.2.length ≤ m) (rs : List zG) (rc : List Way) (nx : List Scene) (hnx : nx.length ≤ 4096)
 (K : ∀ acc : List Way, acc.length ≤ 3000 → eY n acc → bG (m + 1) acc → Ev (fun k => wS k steps (steps.length : Int) (si : Int) (l.length : Int) ((ci + 1 : Nat) : Int) (l.map Prod.snd) s.1 s.2.1.1 s.2.1.2 s.2.2 (acc.map Prod.fst) (acc.map Prod.snd) (l.map Prod.fst)) (resP rs (goP s rc acc))) :
 ∀ (xs : List Scene) (j : Nat) (acc : List Way), nx.drop j = xs → (∀ x ∈ xs, SceneOk n x) → acc.length ≤ 3000 → eY n acc → bG (m + 1) acc →
   Ev (fun k => xE k (ci : Int) steps (steps.length : Int) (si : Int) (l.length : Int) (ci : Int) (nx.length : Int) (j : Int) (l.map Prod.snd) s.1 s.2.1.1 s.2.1.2 s.2.2 (acc.map Prod.fst) (acc.map Prod.snd) (l.map Prod.fst) nx) (resP rs (goP s rc (addP s c.2 j xs acc)))
 | [], j, acc, h, hx, ha, hk, hw => by
   have a := zJ h
   have ew : IntKind.i64.wrap ((ci : Int) + 1) = ((ci + 1 : Nat) : Int) := by rw [zj (by omega) (by omega)]; omega
   refine Ev.step (fun k => ga k _ _ _ _ _ _ _ _ _ _ _ _ _ _ _ _ _) ?_
   simp only [a.g, cond_false, ew]
   exact K acc ha hk hw
 | x :: xs, j, acc, h, hx, ha, hk, hw => by
   have a := zi h (by rw [ze]; omega)
   have hxo := hx x (by simp)
   have hx12 : x.1.length ≤ 12 := by rw [hxo.len]; exact hn
   have ih := fun acc ha hk hw => j9 hn hm steps l hl s si ci c hci hc hcm rs rc nx hnx K xs (j + 1) acc a.next (fun y hy => hx y (by simp [hy])) ha hk hw
   obtain ⟨y, y1, y2⟩ := UZ (acc.map Prod.fst) x (by rw [List.length_map]; omega) hx12
   refine Ev.step (fun k => ga k _ _ _ _ _ _ _ _ _ _ _ _ _ _ _ _ _) ?_
   simp only [a.g, a.z, a.n, a.get, a.w, cond_true]
   unfold addP
   refine Ev.bind y1 (Ev.ite (fun h1 => ?_) (fun h1 => ?_))
   ·rw [y2, decide_eq_true_eq] at h1
    rw [if_pos h1]
    exact ih acc ha hk hw
   ·rw [y2, decide_eq_false_iff_not] at h1
    rw [if_neg h1]
    have hg : (l.map Prod.snd).getD (ci : Int).toNat [] = c.2 := by
     rw [Int.toNat_natCast, List.getD, List.getElem?_map, List.getElem?_eq_getElem hci, hc]; rfl
    have hxx : (x, if s.1 = 2 then c.2 ++ [(j : Int)] else c.2) ∈ [(x, if s.1 = 2 then c.2 ++ [(j : Int)] else c.2)] := by simp
    have hk2 : eY n (acc ++ [(x, if s.1 = 2 then c.2 ++ [(j : Int)] else c.2)]) := fun d hd => by
     rcases List.mem_append.1 hd with hd | hd
     ·exact hk d hd
     ·have : d = (x, if s.1 = 2 then c.2 ++ [(j : Int)] else c.2) := by simpa using hd
      rw [this]; exact hxo
    have hw2 : bG (m + 1) (acc ++ [(x, if s.1 = 2 then c.2 ++ [(j : Int)] else c.2)]) := fun d hd => by
     rcases List.mem_append.1 hd with hd | hd
     ·exact hw d hd
     ·have : d = (x, if s.1 = 2 then c.2 ++ [(j : Int)] else c.2) := by simpa using hd
      rw [this]
      dsimp only
      split
      ·simp; omega
      ·omega
    have big : 3000 < (acc ++ [(x, if s.1 = 2 then c.2 ++ [(j : Int)] else c.2)]).length → resP rs (goP s rc (addP s c.2 (j + 1) xs (acc ++ [(x, if s.1 = 2 then c.2 ++ [(j : Int)] else c.2)]))) = ([], [], false) := fun hb => by
     unfold resP
     rw [if_neg]
     ·rfl
     ·have := YQ s c.2 xs (j + 1) (acc ++ [(x, if s.1 = 2 then c.2 ++ [(j : Int)] else c.2)])
      have := P8 s rc (addP s c.2 (j + 1) xs (acc ++ [(x, if s.1 = 2 then c.2 ++ [(j : Int)] else c.2)]))
      omega
    have te := ze
    simp only [hg, List.nil_append]
    refine Ev.yes (by rw [za]; simp; omega) (Ev.yes (by simp) (Ev.yes (by simp; omega) (Ev.yes (by simp; omega) (Ev.yes (by rw [za]; simp; omega) (Ev.ite (fun h2 => ?_) (fun h2 => ?_))))))
    ·have e2 : s.1 = 2 := by simpa using h2
     simp only [if_pos e2] at hk2 hw2 big ⊢
     refine Ev.yes (by rw [za]; simp; omega) (Ev.yes (by rw [za]; simp; omega) (Ev.ite (fun h3 => Ev.some ?_) (fun h3 => ?_)))
     ·exact (big (by simp at h3 ⊢; omega)).symm
     ·have := ih (acc ++ [(x, c.2 ++ [(j : Int)])]) (by simp at h3 ⊢; omega) hk2 hw2
      simpa using this
    ·have e2 : ¬ s.1 = 2 := by simpa using h2
     simp only [if_neg e2] at hk2 hw2 big ⊢
     refine Ev.yes (by rw [za]; simp; omega) (Ev.ite (fun h3 => Ev.some ?_) (fun h3 => ?_))
     ·exact (big (by simp at h3 ⊢; omega)).symm
     ·have := ih (acc ++ [(x, c.2)]) (by simp at h3 ⊢; omega) hk2 hw2
      simpa using this
end Qq
namespace Qq
open Go Go.Vt Pt
set_option linter.unusedVariables false
set_option linter.unusedSimpArgs false
set_option linter.unnecessarySimpa false
def canF (bad : Scene → Bool) : List zG → Scene → Bool
 | [], c => bad c
 | s :: r, c => (zt c s).any (canF bad r)
def VV (F : Scene → Bool) (s : zG) (w : Way) : Way :=
 let k := (zt w.1 s).findIdx F
 ((zt w.1 s).getD k ([], 0), if s.1 = 2 then w.2 ++ [(k : Int)] else w.2)
def firstW (bad : Scene → Bool) : List zG → Way → Way
 | [], w => w
 | s :: r, w => firstW bad r (VV (canF bad r) s w)
theorem YP (s : zG) (w : List Int) : ∀ (r : List Scene) (j : Nat) (acc : List Way), ∃ m, addP s w j r acc = acc ++ m
 | [], _, acc => ⟨[], by simp [addP]⟩
 | x :: r, j, acc => by
   unfold addP
   split
   ·exact YP s w r (j + 1) acc
   ·obtain ⟨m, hm⟩ := YP s w r (j + 1) (acc ++ [(x, if s.1 = 2 then w ++ [(j : Int)] else w)])
    exact ⟨_, by rw [hm, List.append_assoc]⟩
theorem P7 (s : zG) : ∀ (l acc : List Way), ∃ m, goP s l acc = acc ++ m
 | [], acc => ⟨[], by simp [goP]⟩
 | c :: r, acc => by
   unfold goP
   obtain ⟨m1, h1⟩ := YP s c.2 (zt c.1 s) 0 acc
   obtain ⟨m2, h2⟩ := P7 s r (addP s c.2 0 (zt c.1 s) acc)
   exact ⟨m1 ++ m2, by rw [h2, h1, List.append_assoc]⟩
theorem RW {α : Type} {p : α → Bool} {acc m : List α} {y : α} (h : acc.find? p = some y) : (acc ++ m).find? p = some y := by rw [List.find?_append, h]; rfl
theorem Nf {α : Type} {p : α → Bool} {acc : List α} (h : ∀ a ∈ acc, p a = false) : acc.find? p = none := by
 rw [List.find?_eq_none]
 intro a ha
 rw [h a ha]; simp
theorem Si (F : Scene → Bool) (s : zG) (w : List Int) : ∀ (xs : List Scene) (j : Nat) (acc : List Way), (∀ a ∈ acc, F a.1 = false) →
 (xs.any F = true → (addP s w j xs acc).find? (fun a => F a.1) = some (xs.getD (xs.findIdx F) ([], 0), if s.1 = 2 then w ++ [((j + xs.findIdx F : Nat) : Int)] else w)) ∧
 (xs.any F = false → ∀ a ∈ addP s w j xs acc, F a.1 = false)
 | [], j, acc, h => ⟨fun e => (by simp at e), fun _ => h⟩
 | x :: r, j, acc, h => by
   have jump : ∀ acc' : List Way, (∀ a ∈ acc', F a.1 = false) → F x = false → addP s w j (x :: r) acc = addP s w (j + 1) r acc' →
    ((x :: r).any F = true → (addP s w j (x :: r) acc).find? (fun a => F a.1) = some ((x :: r).getD ((x :: r).findIdx F) ([], 0), if s.1 = 2 then w ++ [((j + (x :: r).findIdx F : Nat) : Int)] else w)) ∧
    ((x :: r).any F = false → ∀ a ∈ addP s w j (x :: r) acc, F a.1 = false) := fun acc' ha hx e => by
    obtain ⟨i1, i2⟩ := Si F s w r (j + 1) acc' ha
    have ei : (x :: r).findIdx F = r.findIdx F + 1 := by rw [List.findIdx_cons, hx]; rfl
    rw [List.any_cons, hx, Bool.false_or, e, ei]
    refine ⟨fun q => ?_, i2⟩
    rw [i1 q]
    have e1 : j + 1 + r.findIdx F = j + (r.findIdx F + 1) := by omega
    rw [e1]
    rfl
   by_cases hm : x ∈ acc.map Prod.fst
   ·obtain ⟨a, ha, rfl⟩ := List.mem_map.1 hm
    exact jump acc h (h a ha) (by rw [addP, if_pos hm])
   ·have e : addP s w j (x :: r) acc = addP s w (j + 1) r (acc ++ [(x, if s.1 = 2 then w ++ [(j : Int)] else w)]) := by rw [addP, if_neg hm]
    cases hx : F x with
    | false =>
      refine jump _ (fun a ha => ?_) hx e
      rcases List.mem_append.1 ha with ha | ha
      ·exact h a ha
      ·have : a = (x, if s.1 = 2 then w ++ [(j : Int)] else w) := by simpa using ha
       rw [this]; exact hx
    | true =>
      refine ⟨fun _ => ?_, fun q => (by rw [List.any_cons, hx] at q; cases q)⟩
      obtain ⟨m, hm2⟩ := YP s w r (j + 1) (acc ++ [(x, if s.1 = 2 then w ++ [(j : Int)] else w)])
      have ei : (x :: r).findIdx F = 0 := by rw [List.findIdx_cons, hx]; rfl
      rw [e, hm2, ei]
      refine RW ?_
      rw [List.find?_append, Nf h]
      simp [hx]
theorem RU (F : Scene → Bool) (s : zG) : ∀ (l acc : List Way), (∀ a ∈ acc, F a.1 = false) →
 (goP s l acc).find? (fun a => F a.1) = (l.find? (fun c => (zt c.1 s).any F)).map (VV F s)
 | [], acc, h => by
   show acc.find? _ = none
   exact Nf h
 | c :: r, acc, h => by
   obtain ⟨i1, i2⟩ := Si F s c.2 (zt c.1 s) 0 acc h
   unfold goP
   rw [List.find?_cons]
   cases hc : (zt c.1 s).any F with
   | true =>
     obtain ⟨m, hm⟩ := P7 s r (addP s c.2 0 (zt c.1 s) acc)
     rw [hm, RW (i1 hc)]
     unfold VV
     simp
   | false => exact RU F s r _ (i2 hc)
theorem T3 (bad : Scene → Bool) : ∀ (r : List zG) (l A : List Way), gx r l = some A → A.find? (fun w => bad w.1) = (l.find? (fun w => canF bad r w.1)).map (firstW bad r)
 | [], l, A, h => by
   cases h
   show _ = (l.find? (fun w => bad w.1)).map (fun w => w)
   simp
 | s :: r, l, A, h => by
   unfold gx at h
   split at h
   ·rw [T3 bad r _ A h, RU (canF bad r) s l [] (fun a ha => by cases ha)]
    rw [Option.map_map]
    rfl
   ·cases h
end Qq
namespace Qq
open Go Go.Vt Pt
set_option linter.unusedVariables false
set_option linter.unusedSimpArgs false
set_option linter.unnecessarySimpa false
theorem gM {n m : Nat} (hn : n ≤ 12) (hm : m ≤ 12) (steps : List zG) (l : List Way) (hl : l.length ≤ 3000) (hok : eY n l) (hway : bG m l) (s : zG) (hs : yB (n : Int) s = true) (si : Nat) (hsi : si < steps.length) (h12 : steps.length ≤ 12) (rs : List zG)
 (K : ∀ acc : List Way, acc.length ≤ 3000 → eY n acc → bG (m + 1) acc → Ev (fun k => wT k steps (steps.length : Int) ((si + 1 : Nat) : Int) (acc.map Prod.fst) (acc.map Prod.snd)) (outP (gx rs acc))) :
 ∀ (rc : List Way) (ci : Nat) (acc : List Way), l.drop ci = rc → acc.length ≤ 3000 → eY n acc → bG (m + 1) acc →
   Ev (fun k => wS k steps (steps.length : Int) (si : Int) (l.length : Int) (ci : Int) (l.map Prod.snd) s.1 s.2.1.1 s.2.1.2 s.2.2 (acc.map Prod.fst) (acc.map Prod.snd) (l.map Prod.fst)) (resP rs (goP s rc acc))
 | [], ci, acc, h, ha, hk, hw => by
   have a := zJ h
   have ew : IntKind.i64.wrap ((si : Int) + 1) = ((si + 1 : Nat) : Int) := by rw [zj (by omega) (by omega)]; omega
   refine Ev.step (fun k => gN k _ _ _ _ _ _ _ _ _ _ _ _ _) ?_
   simp only [a.g, cond_false, ew]
   unfold goP resP
   rw [if_pos ha]
   exact K acc ha hk hw
 | c :: rc, ci, acc, h, ha, hk, hw => by
   have a := zi h (by rw [ze]; omega)
   have hlt := a.lt
   have hg : l[ci] = c := by have := a.gt ((([], 0), []) : Way); simpa [List.getD, hlt] using this
   have hco := hok c a.mem
   have hgs : (l.map Prod.fst).getD (ci : Int).toNat ([], 0) = c.1 := by
    rw [Int.toNat_natCast, List.getD, List.getElem?_map, List.getElem?_eq_getElem hlt, hg]; rfl
   have e1 : decide ((ci : Int) < ((l.map Prod.fst).length : Int)) = true := decide_eq_true (by rw [List.length_map]; omega)
   have e2 : decide ((ci : Int).toNat < (l.map Prod.fst).length) = true := decide_eq_true (by rw [List.length_map]; omega)
   refine Ev.step (fun k => gN k _ _ _ _ _ _ _ _ _ _ _ _ _) ?_
   simp only [a.g, a.z, e1, e2, hgs, cond_true]
   refine Ev.bind (U3 hco hs) ?_
   unfold goP
   exact j9 hn hm steps l hl s si ci c hlt hg (hway c a.mem) rs rc (zt c.1 s) (YF hco hs).2
    (fun acc ha hk hw => gM hn hm steps l hl hok hway s hs si hsi h12 rs K rc (ci + 1) acc a.next ha hk hw)
    (zt c.1 s) 0 acc rfl (bq hco hs) ha hk hw
theorem vC (s : zG) (r : List zG) (l : List Way) : gx (s :: r) l = if (goP s l []).length ≤ 3000 then gx r (goP s l []) else none := rfl
theorem gO {n : Nat} (hn : n ≤ 12) (steps : List zG) (h12 : steps.length ≤ 12) : ∀ (rs : List zG) (si : Nat) (l : List Way), steps.drop si = rs → (∀ s ∈ rs, yB (n : Int) s = true) → l.length ≤ 3000 → eY n l → bG si l →
 Ev (fun k => wT k steps (steps.length : Int) (si : Int) (l.map Prod.fst) (l.map Prod.snd)) (outP (gx rs l))
 | [], si, l, h, hs, hl, hok, hw => by
   have a := zJ h
   refine Ev.step (fun k => gP k _ _ _ _ _) ?_
   simp only [a.g, cond_false]
   exact Ev.some rfl
 | s :: rs, si, l, h, hs, hl, hok, hw => by
   have a := zi h (by rw [ze]; omega)
   have hlt := a.lt
   have hso := hs s (by simp)
   refine Ev.step (fun k => gP k _ _ _ _ _) ?_
   simp only [a.g, a.z, a.get, cond_true]
   have := gM hn (by omega) steps l hl hok hw s hso si hlt h12 rs (fun acc ha hk hw => gO hn steps h12 rs (si + 1) acc a.next (fun q hq => hs q (by simp [hq])) ha hk hw)
    l 0 [] rfl (by simp) (fun c hc => by cases hc) (fun c hc => by cases hc)
   rw [List.length_map]
   refine this.to ?_
   rw [vC]
   unfold resP
   split
   ·rfl
   ·rfl
def yM (t : xa) : List Way := [((t.1, -1), [])]
theorem xx {t : xa} (h : yl t = true) : SceneOk t.1.length (t.1, -1) ∧ (∀ s ∈ t.2.1, yB (t.1.length : Int) s = true) := by
 refine ⟨⟨(xX h).2.2.2, rfl, by show (-1 : Int) ≤ -1; decide, by show (-1 : Int) < 12; decide⟩, ?_⟩
 unfold yl at h
 simp only [Bool.and_eq_true] at h
 exact fun s hs => List.all_eq_true.1 h.2.2.2.1 s hs
theorem bO {t : xa} (h : yl t = true) : eY t.1.length (yM t) := by
 intro c hc
 have e : c = ((t.1, -1), []) := by simpa [yM] using hc
 rw [e]
 exact (xx h).1
theorem W7 (t : xa) : bG 0 (yM t) := by
 intro c hc
 have e : c = ((t.1, -1), []) := by simpa [yM] using hc
 rw [e]
 simp
theorem U1 (t : xa) (h : yl t = true) : Ev (fun k => Xd k t) (outP (gx t.2.1 (yM t))) := by
 obtain ⟨h1, h2, h3, h4⟩ := xX h
 have hs := xx h
 refine Ev.step (fun k => U2 k t) (Ev.yes (by rw [za]; simp; omega) ?_)
 rw [List.nil_append]
 exact gO h3 t.2.1 h1 t.2.1 0 (yM t) rfl hs.2 (by simp [yM]) (bO h) (W7 t)
def addU : List Scene → List Scene → List Scene
 | [], acc => acc | x :: r, acc => if x ∈ acc then addU r acc else addU r (acc ++ [x])
def goU (s : zG) : List Scene → List Scene → List Scene
 | [], acc => acc | c :: r, acc => goU s r (addU (zt c s) acc)
theorem UD : ∀ (r acc : List Scene), acc.length ≤ (addU r acc).length ∧ (addU r acc).length ≤ acc.length + r.length
 | [], _ => ⟨Nat.le_refl _, Nat.le_refl _⟩
 | x :: r, acc => by
   unfold addU
   split
   ·have := UD r acc; simp only [List.length_cons]; omega
   ·have := UD r (acc ++ [x]); simp only [List.length_cons, List.length_append, List.length_nil] at this ⊢; omega
theorem P5 (s : zG) : ∀ (l acc : List Scene), acc.length ≤ (goU s l acc).length
 | [], _ => Nat.le_refl _
 | c :: r, acc => Nat.le_trans (UD _ acc).1 (P5 s r _)
theorem UF (s : zG) (w : List Int) : ∀ (r : List Scene) (j : Nat) (acc : List Way), (addP s w j r acc).map Prod.fst = addU r (acc.map Prod.fst)
 | [], _, _ => rfl
 | x :: r, j, acc => by
   unfold addP addU
   by_cases h : x ∈ acc.map Prod.fst
   ·rw [if_pos h, if_pos h, UF]
   ·rw [if_neg h, if_neg h, UF, List.map_append]; rfl
theorem P9 (s : zG) : ∀ (l acc : List Way), (goP s l acc).map Prod.fst = goU s (l.map Prod.fst) (acc.map Prod.fst)
 | [], _ => rfl
 | c :: r, acc => by unfold goP goU; rw [P9, UF]; rfl
def SAll (n : Nat) (l : List Scene) : Prop := ∀ c ∈ l, SceneOk n c
theorem UU {t : xa} (h : yl t = true) : SAll t.1.length [(t.1, -1)] := by
 intro c hc
 have e : c = (t.1, -1) := by simpa using hc
 rw [e]
 exact (xx h).1
def levU : List zG → List Scene → Option (List (List Scene))
 | [], l => some [l]
 | s :: r, l => if (goU s l []).length ≤ 3000 then (levU r (goU s l [])).map (l :: ·) else none
theorem XQ (s : zG) (r : List zG) (l : List Scene) : levU (s :: r) l = if (goU s l []).length ≤ 3000 then (levU r (goU s l [])).map (l :: ·) else none := rfl
def outU (pre : List (List Scene)) : Option (List (List Scene)) → List (List Scene) × Bool
 | some l => (pre ++ l, true) | none => ([], false)
def resU (pre : List (List Scene)) (r : List zG) (A : List Scene) : List (List Scene) × Bool := if A.length ≤ 3000 then outU pre (levU r A) else outU pre none
theorem Vp {n : Nat} (h1 : 1 ≤ n) {c : Scene} (hc : SceneOk n c) : c.1 ≠ [] := fun e => by have := hc.len; rw [e] at this; simp at this; omega
theorem RO : ∀ (r : List zG) (l : List Way), (levU r (l.map Prod.fst)).map (fun L => L.getLastD []) = (gx r l).map (fun A => A.map Prod.fst) ∧ (∀ L, levU r (l.map Prod.fst) = some L → L.length = r.length + 1)
 | [], l => ⟨rfl, fun L h => by cases h; rfl⟩
 | s :: r, l => by
   have e : goU s (l.map Prod.fst) [] = (goP s l []).map Prod.fst := by rw [P9]; rfl
   have hlen : (goU s (l.map Prod.fst) []).length = (goP s l []).length := by rw [e, List.length_map]
   obtain ⟨h1, h2⟩ := RO r (goP s l [])
   rw [XQ, vC, hlen, e]
   by_cases hc : (goP s l []).length ≤ 3000
   ·rw [if_pos hc, if_pos hc]
    constructor
    ·rw [← h1]
     cases hL : levU r ((goP s l []).map Prod.fst) with
     | none => rfl
     | some L =>
       have := h2 L hL
       cases L with
       | nil => simp at this
       | cons a L => simp [List.getLastD]
    ·intro L hL
     obtain ⟨L', hL', rfl⟩ := Option.map_eq_some_iff.1 hL
     rw [List.length_cons, h2 L' hL', List.length_cons]
   ·rw [if_neg hc, if_neg hc]
    exact ⟨rfl, fun L hL => by cases hL⟩
def Wo (t : xa) : Option (List Way) := gx t.2.1 (yM t)
def WA (t : xa) : List Scene × Bool :=
 if yl t then (match Wo t with | some A => (A.map Prod.fst, true) | none => ([], false)) else ([], false)
theorem bB : ∀ (r : List zG) (l : List Way) (A : List Way), l.length ≤ 3000 → gx r l = some A → A.length ≤ 3000
 | [], l, A, hl, h => by cases h; exact hl
 | s :: r, l, A, hl, h => by
   rw [vC] at h
   split at h
   ·rename_i hc; exact bB r _ A hc h
   ·cases h
theorem YJ {n : Nat} : ∀ (r : List zG) (l : List Way) (A : List Way), (∀ s ∈ r, yB (n : Int) s = true) → eY n l → gx r l = some A → eY n A
 | [], l, A, _, hl, h => by cases h; exact hl
 | s :: r, l, A, hs, hl, h => by
   rw [vC] at h
   split at h
   ·exact YJ r _ A (fun q hq => hs q (by simp [hq])) (Ms (hs s (by simp)) l [] hl (fun c hc => by cases hc)) h
   ·cases h
end Qq
namespace Qq
open Go Go.Vt Pt
set_option linter.unusedVariables false
set_option linter.unusedSimpArgs false
set_option linter.unnecessarySimpa false
theorem MI {n : Nat} {p0 : List Int} {c : Scene} {s : zG} (hc : SceneOk n c) (hp : Pm c.1 p0) (hs : yB (n : Int) s = true) : ∀ d ∈ zt c s, Pm d.1 p0 := by
 obtain ⟨h1, h2, hk⟩ := wy hs
 intro d hd
 unfold zt at hd
 rcases hk with ⟨e, m⟩ | ⟨e, c0, c4, c3, c2⟩ | ⟨e, a0, an⟩
 ·rw [if_pos e] at hd
  have hd : d = (ji c.1 s.2.1, c.2) := by simpa using hd
  subst hd
  exact (T7 (by rw [hc.len]; exact m)).trans hp
 ·rw [if_neg (by omega), if_neg (by omega)] at hd
  obtain ⟨q, hq, rfl⟩ := List.mem_map.1 hd
  exact (R2 q ((wg _ q).1 hq)).trans hp
 ·rw [if_neg (by omega), if_pos e] at hd
  have hd : d = (c.1, card (c.1.getD s.2.2.toNat 0)) := by simpa using hd
  subst hd
  exact hp
theorem UG {Q : Scene → Prop} (s : zG) (w : List Int) : ∀ (r : List Scene) (j : Nat) (acc : List Way), (∀ x ∈ r, Q x) → (∀ c ∈ acc, Q c.1) → ∀ c ∈ addP s w j r acc, Q c.1
 | [], _, _, _, h => h
 | x :: r, j, acc, hr, h => by
   unfold addP
   split
   ·exact UG s w r (j + 1) acc (fun y hy => hr y (by simp [hy])) h
   ·refine UG s w r (j + 1) _ (fun y hy => hr y (by simp [hy])) (fun c hc => ?_)
    rcases List.mem_append.1 hc with hc | hc
    ·exact h c hc
    ·have : c = (x, if s.1 = 2 then w ++ [(j : Int)] else w) := by simpa using hc
     rw [this]; exact hr x (by simp)
theorem Na {Q : Scene → Prop} {s : zG} (hQ : ∀ c, Q c → ∀ d ∈ zt c s, Q d) : ∀ (l acc : List Way), (∀ c ∈ l, Q c.1) → (∀ c ∈ acc, Q c.1) → ∀ c ∈ goP s l acc, Q c.1
 | [], _, _, h => h
 | c :: r, acc, hl, h => Na hQ r _ (fun d hd => hl d (by simp [hd])) (UG s c.2 _ 0 acc (hQ c.1 (hl c (by simp))) h)
theorem T5 {Q : Scene → Prop} : ∀ (r : List zG) (l : List Way) (A : List Way), (∀ s ∈ r, ∀ c, Q c → ∀ d ∈ zt c s, Q d) → (∀ c ∈ l, Q c.1) → gx r l = some A → ∀ c ∈ A, Q c.1
 | [], l, A, _, hl, h => by cases h; exact hl
 | s :: r, l, A, hs, hl, h => by
   rw [vC] at h
   split at h
   ·exact T5 r _ A (fun q hq => hs q (by simp [hq])) (Na (hs s (by simp)) l [] hl (fun c hc => by cases hc)) h
   ·cases h
theorem RE (c : Int) : ∀ (q : List Int) (i : Nat), c ∈ q.map card → 0 ≤ posF c i q
 | [], _, h => by simp at h
 | x :: q, i, h => by
   unfold posF
   split
   ·omega
   ·rename_i hne
    refine RE c q (i + 1) ?_
    rw [List.map_cons, List.mem_cons] at h
    rcases h with h | h
    ·exact (hne h.symm).elim
    ·exact h
theorem N0 {p q : List Int} (h : zF p = true) (hq : Pm q p) : WS p q = true := by
 have h2 := bp h hq
 unfold WS
 rw [h, h2.1, h2.2]
 simp only [Bool.true_and, Bool.and_eq_true, beq_self_eq_true, List.all_eq_true, decide_eq_true_eq, true_and]
 intro x hx
 have hc := ((xc h).2.1 x hx).1
 unfold pos
 rw [if_neg (by omega)]
 exact RE _ q 0 (hq.mem_iff.2 (List.mem_map.2 ⟨x, hx, rfl⟩))
theorem UB {t : xa} (h : yl t = true) : ∀ c ∈ (WA t).1, WS t.1 c.1 = true := by
 unfold WA
 rw [if_pos h]
 cases hE : Wo t with
 | none => intro c hc; cases hc
 | some A =>
   intro c hc
   obtain ⟨d, hd, rfl⟩ := List.mem_map.1 (show c ∈ A.map Prod.fst from hc)
   have hs := xx h
   have := T5 (Q := fun c => SceneOk t.1.length c ∧ Pm c.1 t.1) t.2.1 (yM t) A (fun s hss c hc d hd => ⟨bq hc.1 (hs.2 s hss) d hd, MI hc.1 hc.2 (hs.2 s hss) d hd⟩) (fun c hc => by
    have e : c = ((t.1, -1), []) := by simpa [yM] using hc
    rw [e]
    exact ⟨hs.1, List.Perm.refl _⟩) hE d hd
   exact N0 (xX h).2.2.2 this.2
end Qq
namespace Qq
open Go Go.Vt Pt
set_option linter.unusedVariables false
end Qq
namespace Qq
open Go Go.Vt Pt
set_option linter.unusedVariables false
set_option linter.unusedSimpArgs false
set_option linter.unnecessarySimpa false
end Qq
namespace Qq
open Go Go.Vt Pt
set_option linter.unusedVariables false
set_option linter.unusedSimpArgs false
end Qq
namespace Qq
open Go Go.Vt Pt
set_option linter.unusedVariables false
set_option linter.unusedSimpArgs false
set_option linter.unnecessarySimpa false
theorem UC (d : Scene) : ∀ (r acc : List Scene), d ∈ addU r acc ↔ (d ∈ r ∨ d ∈ acc)
 | [], acc => by simp [addU]
 | x :: r, acc => by
   unfold addU
   by_cases h : x ∈ acc
   ·rw [if_pos h, UC d r acc, List.mem_cons]
    constructor
    ·rintro (h1 | h1); exact .inl (.inr h1); exact .inr h1
    ·rintro ((h1 | h1) | h1); exact .inr (h1 ▸ h); exact .inl h1; exact .inr h1
   ·rw [if_neg h, UC d r _, List.mem_cons, List.mem_append, List.mem_singleton]
    constructor
    ·rintro (h1 | h1 | h1); exact .inl (.inr h1); exact .inr h1; exact .inl (.inl h1)
    ·rintro ((h1 | h1) | h1); exact .inr (.inr h1); exact .inl h1; exact .inr (.inl h1)
theorem ZB : ∀ (r acc : List Scene), acc.Nodup → (addU r acc).Nodup
 | [], acc, h => h
 | x :: r, acc, h => by
   unfold addU
   by_cases hx : x ∈ acc
   ·rw [if_pos hx]; exact ZB r acc h
   ·rw [if_neg hx]
    refine ZB r _ ?_
    rw [List.nodup_append]
    refine ⟨h, by simp, fun a ha b hb e => hx ?_⟩
    have : b = x := by simpa using hb
    rw [← this, ← e]; exact ha
theorem S8 (s : zG) (d : Scene) : ∀ (l acc : List Scene), d ∈ goU s l acc ↔ ((∃ c ∈ l, d ∈ zt c s) ∨ d ∈ acc)
 | [], acc => by simp [goU]
 | c :: r, acc => by
   unfold goU
   rw [S8 s d r, UC]
   constructor
   ·rintro (⟨c', h1, h2⟩ | h1 | h1)
    ·exact .inl ⟨c', by simp [h1], h2⟩
    ·exact .inl ⟨c, by simp, h1⟩
    ·exact .inr h1
   ·rintro (⟨c', h1, h2⟩ | h1)
    ·rcases List.mem_cons.1 h1 with h1 | h1
     ·exact .inr (.inl (h1 ▸ h2))
     ·exact .inl ⟨c', h1, h2⟩
    ·exact .inr (.inr h1)
theorem TZ (s : zG) : ∀ (l acc : List Scene), acc.Nodup → (goU s l acc).Nodup
 | [], acc, h => h
 | c :: r, acc, h => TZ s r _ (ZB _ _ h)
end Qq
namespace Qq
open Go Go.Vt Pt
set_option linter.unusedVariables false
set_option linter.unusedSimpArgs false
set_option linter.unnecessarySimpa false
end Qq
namespace Qq
open Go Go.Vt Pt
set_option linter.unusedVariables false
set_option linter.unusedSimpArgs false
set_option linter.unnecessarySimpa false
theorem bT {α : Type} {l : List α} {i : Nat} {d : α} (h : i < l.length) : l.set i (l.getD i d) = l := by
 rw [List.getD, List.getElem?_eq_getElem h]; simp
theorem fB {n : Nat} (h1n : 1 ≤ n) (hn : n ≤ 12) (steps : List zG) (si : Nat) (l : List Scene) (hl : l.length ≤ 3000) (ci : Nat) (s : zG) (out : List (List Scene)) (rs : List zG) (rc : List Scene) (nx : List Scene) (hnx : nx.length ≤ 4096)
 (K : ∀ acc : List Scene, acc.length ≤ 3000 → SAll n acc → Ev (fun k => vU k steps (steps.length : Int) (si : Int) (l.length : Int) ((ci + 1 : Nat) : Int) out si s.1 s.2.1.1 s.2.1.2 s.2.2 (acc.map keyB) acc l) (resU out rs (goU s rc acc))) :
 ∀ (xs : List Scene) (j : Nat) (acc : List Scene), nx.drop j = xs → SAll n xs → acc.length + xs.length ≤ 8000 → SAll n acc → ci < 3000 →
   Ev (fun k => w9 k steps (steps.length : Int) (si : Int) (l.length : Int) (ci : Int) (nx.length : Int) (j : Int) out si s.1 s.2.1.1 s.2.1.2 s.2.2 (acc.map keyB) acc l nx j) (resU out rs (goU s rc (addU xs acc)))
 | [], j, acc, h, hx, ha, hk, hci => by
   have a := zJ h
   have ew : IntKind.i64.wrap ((ci : Int) + 1) = ((ci + 1 : Nat) : Int) := by rw [zj (by omega) (by omega)]; omega
   refine Ev.step (fun k => fE k _ _ _ _ _ _ _ _ _ _ _ _ _ _ _ _ _ _) ?_
   simp only [a.g, cond_false, ew]
   unfold addU
   refine Ev.ite (fun h2 => Ev.some ?_) (fun h2 => ?_)
   ·unfold resU
    rw [if_neg]
    ·rfl
    ·have := P5 s rc acc
     have h3 : (acc.length : Int) > 3000 := by simpa using h2
     omega
   ·have h3 : ¬ (acc.length : Int) > 3000 := by simpa using h2
    exact K acc (by omega) hk
 | x :: xs, j, acc, h, hx, ha, hk, hci => by
   have a := zi h (by rw [ze]; omega)
   have hxo := hx x (by simp)
   have hxi := x5 hxo.ok
   have hx0 := hxo.n0
   have hx12 := hxo.n12
   have hkx := Vu x (by rw [hxo.len]; exact hn) hxi (by unfold In; omega)
   have hmp := XI (l := acc) (x := x) (fun c hc => Vp h1n (hk c hc)) (Vp h1n hxo)
   have hbeq : Nat.beq (j : Int).toNat j = true := by simp
   rw [List.length_cons] at ha
   have ih := fun acc ha hk => fB h1n hn steps si l hl ci s out rs rc nx hnx K xs (j + 1) acc a.next (fun y hy => hx y (by simp [hy])) ha hk hci
   refine Ev.step (fun k => fE k _ _ _ _ _ _ _ _ _ _ _ _ _ _ _ _ _ _) ?_
   simp only [a.g, a.z, a.n, a.get, a.w, hbeq, cond_true]
   unfold addU
   refine Ev.bind hkx ?_
   rw [hmp]
   by_cases hm : x ∈ acc
   ·rw [if_pos hm, decide_eq_true hm]
    exact Ev.no rfl (ih acc (by omega) hk)
   ·rw [if_neg hm, decide_eq_false hm]
    refine Ev.yes rfl (Ev.yes (by rw [za]; simp; omega) ?_)
    have := ih (acc ++ [x]) (by simp; omega) (fun c hc => by
     rcases List.mem_append.1 hc with hc | hc
     ·exact hk c hc
     ·have : c = x := by simpa using hc
      rw [this]; exact hxo)
    simpa using this
theorem cC {n : Nat} (h1n : 1 ≤ n) (hn : n ≤ 12) (steps : List zG) (h12 : steps.length ≤ 12) (si : Nat) (hsi : si < steps.length) (l : List Scene) (hl : l.length ≤ 3000) (hok : SAll n l) (s : zG) (hs : yB (n : Int) s = true) (out : List (List Scene)) (hout : out.length = si + 1) (hoi : out.set si l = out) (rs : List zG)
 (K : ∀ acc : List Scene, acc.length ≤ 3000 → SAll n acc → Ev (fun k => vV k steps (steps.length : Int) ((si + 1 : Nat) : Int) (out ++ [acc])) (outU out (levU rs acc))) :
 ∀ (rc : List Scene) (ci : Nat) (acc : List Scene), l.drop ci = rc → acc.length ≤ 3000 → SAll n acc →
   Ev (fun k => vU k steps (steps.length : Int) (si : Int) (l.length : Int) (ci : Int) out si s.1 s.2.1.1 s.2.1.2 s.2.2 (acc.map keyB) acc l) (resU out rs (goU s rc acc))
 | [], ci, acc, h, ha, hk => by
   have a := zJ h
   have ew : IntKind.i64.wrap ((si : Int) + 1) = ((si + 1 : Nat) : Int) := by rw [zj (by omega) (by omega)]; omega
   refine Ev.step (fun k => cH k _ _ _ _ _ _ _ _ _ _ _ _ _ _) ?_
   simp only [a.g, cond_false, ew, hoi]
   unfold goU resU
   rw [if_pos ha]
   exact Ev.yes (by rw [za]; simp; omega) (K acc ha hk)
 | c :: rc, ci, acc, h, ha, hk => by
   have a := zi h (by rw [ze]; omega)
   have hlt := a.lt
   have hco := hok c a.mem
   have hnl := YF hco hs
   have hst : l.set (ci : Int).toNat c = l := by
    have := bT (d := (([], 0) : Scene)) hlt
    rw [a.gt] at this
    simpa using this
   refine Ev.step (fun k => cH k _ _ _ _ _ _ _ _ _ _ _ _ _ _) ?_
   simp only [a.g, a.z, a.n, a.get, hst, cond_true]
   refine Ev.bind (vZ hco hs) ?_
   unfold goU
   exact fB h1n hn steps si l hl ci s out rs rc (zt c s) hnl.2
    (fun acc ha hk => cC h1n hn steps h12 si hsi l hl hok s hs out hout hoi rs K rc (ci + 1) acc a.next ha hk)
    (zt c s) 0 acc rfl (bq hco hs) (by omega) hk (by omega)
theorem cD {n : Nat} (h1n : 1 ≤ n) (hn : n ≤ 12) (steps : List zG) (h12 : steps.length ≤ 12) : ∀ (rs : List zG) (si : Nat) (pre : List (List Scene)) (l : List Scene), steps.drop si = rs → (∀ s ∈ rs, yB (n : Int) s = true) → pre.length = si → l.length ≤ 3000 → SAll n l →
 Ev (fun k => vV k steps (steps.length : Int) (si : Int) (pre ++ [l])) (outU pre (levU rs l))
 | [], si, pre, l, h, hs, hp, hl, hok => by
   have a := zJ h
   refine Ev.step (fun k => cI k _ _ _ _) ?_
   simp only [a.g, cond_false]
   exact Ev.some rfl
 | s :: rs, si, pre, l, h, hs, hp, hl, hok => by
   have a := zi h (by rw [ze]; omega)
   have hlt := a.lt
   have hso := hs s (by simp)
   have g1 : decide ((si : Int) < ((pre ++ [l]).length : Int)) = true := decide_eq_true (by simp; omega)
   have g2 : decide ((si : Int).toNat < (pre ++ [l]).length) = true := decide_eq_true (by simp; omega)
   have hg : (pre ++ [l]).getD (si : Int).toNat [] = l := by
    rw [Int.toNat_natCast, List.getD, ← hp, List.getElem?_append_right (Nat.le_refl _)]; simp
   have hoi : (pre ++ [l]).set si l = pre ++ [l] := by
    have h1 : si < (pre ++ [l]).length := by simp; omega
    have := bT (d := ([] : List Scene)) h1
    rw [show (pre ++ [l]).getD si [] = l by simpa using hg] at this
    exact this
   refine Ev.step (fun k => cI k _ _ _ _) ?_
   simp only [a.g, a.z, a.get, g1, g2, hg, cond_true]
   simp only [Int.toNat_natCast]
   have := cC h1n hn steps h12 si hlt l hl hok s hso (pre ++ [l]) (by simp [hp]) hoi rs (fun acc ha hk => cD h1n hn steps h12 rs (si + 1) (pre ++ [l]) acc a.next (fun q hq => hs q (by simp [hq])) (by simp [hp]) ha hk)
    l 0 [] rfl (by simp) (fun c hc => by cases hc)
   refine this.to ?_
   rw [XQ]
   unfold resU
   split
   ·cases levU rs (goU s l []) with
    | none => rfl
    | some L => simp [outU]
   ·rfl
theorem SP (t : xa) (h : yl t = true) (a1 : t.1.length ≤ maxLen) (ai : Ins t.1) (a2 : t.2.1.length ≤ maxLen) : Ev (fun k => Uk k t) (outU [] (levU t.2.1 [(t.1, -1)])) := by
 obtain ⟨h1, h2, h3, h4⟩ := xX h
 have hs := xx h
 refine Ev.step (fun k => SU k t) (Ev.bind (UJ t a1 ai a2) ?_)
 have e : uZ t = (t.1, -1, true) := by unfold uZ; rw [if_pos h]
 rw [e]
 exact cD h2 h3 t.2.1 h1 t.2.1 0 [] [(t.1, -1)] rfl hs.2 rfl (by simp) (UU h)
end Qq
namespace Qq
open Go Go.Vt Pt
set_option linter.unusedVariables false
set_option linter.unusedSimpArgs false
set_option linter.unnecessarySimpa false
abbrev VdR : Type := Int × List Int × List Int × Int × Bool
def Ra (o : Option Way) : VdR := match o with | some w => (2, w.2, w.1.1, w.1.2, true) | none => (1, [], [], 0, true)
def cQ (t : xa) : VdR :=
 if yl t then (match Wo t with | none => (3, [], [], 0, true) | some A => Ra (A.find? (fun w => !jh t w.1))) else (0, [], [], 0, false)
theorem uB (t : xa) (a1 : t.1.length ≤ maxLen) (A : List Way) (hA : A.length ≤ 3000) (ho : eY t.1.length A) (z1 z2 : Int) : ∀ (r : List Way) (i : Nat), A.drop i = r →
 Ev (fun k => wj k (A.map Prod.snd) ((A.map Prod.fst).length : Int) (i : Int) t.1 t.2.1 t.2.2.1 t.2.2.2.1 t.2.2.2.2 z1 z2 (A.map Prod.fst)) (Ra (r.find? (fun w => !jh t w.1)))
 | [], i, h => by
   have a := zJ h
   have g : decide ((i : Int) < ((A.map Prod.fst).length : Int)) = false := by rw [List.length_map]; exact a.g
   exact Ev.step (fun k => uC k _ _ _ _ _ _ _ _ _ _ _) (Ev.no g (Ev.some rfl))
 | w :: r, i, h => by
   have a := zi h (by rw [ze]; omega)
   have hlt := a.lt
   have hw := ho w a.mem
   have g : decide ((i : Int) < ((A.map Prod.fst).length : Int)) = true := by rw [List.length_map]; exact a.g
   have g2 : decide ((i : Int).toNat < (A.map Prod.fst).length) = true := by rw [List.length_map]; exact a.n
   have g3 : decide ((i : Int) < ((A.map Prod.snd).length : Int)) = true := by rw [List.length_map]; exact a.g
   have hg : A[i] = w := by have := a.gt ((([], 0), []) : Way); simpa [List.getD, hlt] using this
   have e1 : (A.map Prod.fst).getD (i : Int).toNat ([], 0) = w.1 := by
    rw [Int.toNat_natCast, List.getD, List.getElem?_map, List.getElem?_eq_getElem hlt, hg]; rfl
   have e2 : (A.map Prod.snd).getD (i : Int).toNat [] = w.2 := by
    rw [Int.toNat_natCast, List.getD, List.getElem?_map, List.getElem?_eq_getElem hlt, hg]; rfl
   have ih := uB t a1 A hA ho z1 z2 r (i + 1) a.next
   refine Ev.step (fun k => uC k _ _ _ _ _ _ _ _ _ _ _) ?_
   simp only [g, g2, g3, e1, e2, a.z, a.w, cond_true]
   refine Ev.bind (SO t w.1 a1 (by rw [hw.len]; exact a1)) (Ev.ite (fun h1 => Ev.some ?_) (fun h1 => ?_))
   ·rw [List.find?_cons, h1]; rfl
   ·rw [List.find?_cons, h1]; exact ih
theorem Xn (t : xa) (a1 : t.1.length ≤ maxLen) (a2 : t.2.1.length ≤ maxLen) : Ev (fun k => ft k t) (cQ t) := by
 refine Ev.step (fun k => Xo k t) (Ev.bind (Tf t a1 a2) (Ev.ite (fun h => Ev.some ?_) (fun h => ?_)))
 ·have : yl t = false := by simpa using h
  simp [cQ, this]
 ·have e : yl t = true := by simpa using h
  refine Ev.bind (U1 t e) ?_
  unfold cQ Wo
  rw [if_pos e]
  cases hE : gx t.2.1 (yM t) with
  | none => exact Ev.yes rfl (Ev.pure _)
  | some A =>
    have hs := xx e
    exact Ev.no rfl (uB t a1 A (bB _ _ A (by simp [yM]) hE) (YJ t.2.1 (yM t) A hs.2 (bO e) hE) 0 0 A 0 rfl)
def LevOk (n : Nat) : List zG → List (List Scene) → Prop
 | [], [L] => SAll n L ∧ L.Nodup ∧ L.length ≤ 3000
 | s :: r, L :: L2 :: Ls => (SAll n L ∧ L.Nodup ∧ L.length ≤ 3000) ∧ yB (n : Int) s = true ∧ (∀ c ∈ L, ∀ d ∈ zt c s, d ∈ L2) ∧ LevOk n r (L2 :: Ls)
 | _, _ => False
theorem PG {n : Nat} : ∀ (r : List zG) (l : List Scene) (Ls : List (List Scene)), (∀ s ∈ r, yB (n : Int) s = true) → SAll n l → l.Nodup → l.length ≤ 3000 → levU r l = some Ls → LevOk n r Ls ∧ ∃ q, Ls = l :: q
 | [], l, Ls, _, ho, hn, hl, h => by cases h; exact ⟨⟨ho, hn, hl⟩, _, rfl⟩
 | s :: r, l, Ls, hs, ho, hn, hl, h => by
   rw [XQ] at h
   split at h
   ·rename_i hc
    obtain ⟨L', hL', rfl⟩ := Option.map_eq_some_iff.1 h
    have ho2 : SAll n (goU s l []) := fun d hd => by
     rw [S8] at hd
     rcases hd with ⟨c, h1, h2⟩ | hd
     ·exact bq (ho c h1) (hs s (by simp)) d h2
     ·cases hd
    obtain ⟨h1, q, rfl⟩ := PG r _ L' (fun u hu => hs u (by simp [hu])) ho2 (TZ s l [] List.nodup_nil) hc hL'
    exact ⟨⟨⟨ho, hn, hl⟩, hs s (by simp), fun c hcl d hd => (S8 s d l []).2 (.inl ⟨c, hcl, hd⟩), h1⟩, _, rfl⟩
   ·cases h
theorem LevOk.len {n : Nat} : ∀ {r : List zG} {Ls : List (List Scene)}, LevOk n r Ls → Ls.length = r.length + 1
 | [], [L], _ => rfl
 | s :: r, L :: L2 :: Ls, h => by have := LevOk.len h.2.2.2; simp at this ⊢; omega
 | [], [], h => h.elim
 | [], _ :: _ :: _, h => h.elim
 | _ :: _, [], h => h.elim
 | _ :: _, [_], h => h.elim
def rowM (bad : Scene → Bool) : List zG → List (List Scene) → List (Option (List ByteArray))
 | r, L :: Ls => some ((L.filter (canF bad r)).map keyB) :: rowM bad (r.drop 1) Ls
 | _, [] => []
theorem YC (bad : Scene → Bool) : ∀ (r : List zG) (Ls : List (List Scene)), (rowM bad r Ls).length = Ls.length
 | r, [] => rfl
 | r, L :: Ls => by unfold rowM; rw [List.length_cons, YC, List.length_cons]
theorem MP {n : Nat} (h1 : 1 ≤ n) {l : List Scene} (hl : SAll n l) {x : Scene} (hx : SceneOk n x) : setHas (some (l.map keyB)) (keyB x) = decide (x ∈ l) :=
 XI (fun c hc => Vp h1 (hl c hc)) (Vp h1 hx)
theorem PL {n : Nat} (hn : n ≤ 12) {x : Scene} (hx : SceneOk n x) : Ev (fun k => jL k x) (keyB x) :=
 Vu x (by rw [hx.len]; exact hn) (x5 hx.ok) (by have := hx.n0; have := hx.n12; unfold In; omega)
def uN (M : List (Option (List ByteArray))) (i : Nat) (x : Scene) : Bool := setHas (M.getD (i + 1) none) (keyB x)
theorem T1 {n : Nat} (hn : n ≤ 12) {x : Scene} (hx : SceneOk n x) (M : List (Option (List ByteArray))) (i : Nat) (hi : i + 1 < M.length) (hM : M.length ≤ 3000) : Ev (fun k => bx k (x, M, (i : Int))) (uN M i x) := by
 have ew : IntKind.i64.wrap ((i : Int) + 1) = ((i + 1 : Nat) : Int) := by rw [zj (by omega) (by omega)]; omega
 refine Ev.step (fun k => WU k x M (i : Int)) ?_
 rw [ew]
 exact Ev.yes (decide_eq_true (by omega)) (Ev.yes (decide_eq_true (by omega)) (Ev.bind (PL hn hx) (Ev.some rfl)))
theorem Q0 {n : Nat} (hn : n ≤ 12) {x : Scene} (hx : SceneOk n x) (M : List (Option (List ByteArray))) (i : Nat) (hi : i + 1 < M.length) (hM : M.length ≤ 3000) : Ev (fun k => uR k (x, M, (i : Int))) (uN M i x) := by
 have ew : IntKind.i64.wrap ((i : Int) + 1) = ((i + 1 : Nat) : Int) := by rw [zj (by omega) (by omega)]; omega
 refine Ev.step (fun k => Zu k x M (i : Int)) ?_
 rw [ew]
 exact Ev.yes (decide_eq_true (by omega)) (Ev.yes (decide_eq_true (by omega)) (Ev.bind (PL hn hx) (Ev.some rfl)))
def idxF (F : Scene → Bool) (i : Nat) (r : List Scene) : Int := if r.any F then ((i + r.findIdx F : Nat) : Int) else -1
theorem XZ {F : Scene → Bool} {i : Nat} {x : Scene} {r : List Scene} : idxF F i (x :: r) = if F x then (i : Int) else idxF F (i + 1) r := by
 unfold idxF
 rw [List.any_cons, List.findIdx_cons]
 cases F x with
 | true => simp
 | false =>
   simp only [Bool.false_or, cond_false]
   have : i + (r.findIdx F + 1) = i + 1 + r.findIdx F := by omega
   rw [this]; rfl
theorem TL {n : Nat} (hn : n ≤ 12) (l : List Scene) (hl : l.length ≤ 16384) (ho : SAll n l) (M : List (Option (List ByteArray))) (j : Nat) (hj : j + 1 < M.length) (hM : M.length ≤ 3000) : ∀ (r : List Scene) (i : Nat), l.drop i = r →
 Ev (fun k => zp k l M (j : Int) (l.length : Int) (i : Int)) (idxF (uN M j) i r)
 | [], i, h => Ev.step (fun k => zV k _ _ _ _ _) (Ev.no (zJ h).g (Ev.some rfl))
 | x :: r, i, h => by
   have a := zi h (by rw [ze]; omega)
   refine Ev.step (fun k => zV k _ _ _ _ _) ?_
   simp only [a.g, a.z, a.get, a.w, cond_true]
   rw [XZ]
   refine Ev.bind (T1 hn (ho x a.mem) M j hj hM) (Ev.ite (fun h1 => Ev.some ?_) (fun h1 => ?_))
   ·rw [if_pos h1]
   ·rw [if_neg (by rw [h1]; simp)]; exact TL hn l hl ho M j hj hM r (i + 1) a.next
theorem TM {n : Nat} (hn : n ≤ 12) (l : List Scene) (hl : l.length ≤ 16384) (ho : SAll n l) (M : List (Option (List ByteArray))) (j : Nat) (hj : j + 1 < M.length) (hM : M.length ≤ 3000) : ∀ (r : List Scene) (i : Nat), l.drop i = r →
 Ev (fun k => zl k l M (j : Int) (l.length : Int) (i : Int)) (idxF (uN M j) i r)
 | [], i, h => Ev.step (fun k => zL k _ _ _ _ _) (Ev.no (zJ h).g (Ev.some rfl))
 | x :: r, i, h => by
   have a := zi h (by rw [ze]; omega)
   refine Ev.step (fun k => zL k _ _ _ _ _) ?_
   simp only [a.g, a.z, a.get, a.w, cond_true]
   rw [XZ]
   refine Ev.bind (Q0 hn (ho x a.mem) M j hj hM) (Ev.ite (fun h1 => Ev.some ?_) (fun h1 => ?_))
   ·rw [if_pos h1]
   ·rw [if_neg (by rw [h1]; simp)]; exact TM hn l hl ho M j hj hM r (i + 1) a.next
theorem PP (F : Scene → Bool) (i : Nat) (r : List Scene) : decide (idxF F i r ≥ 0) = r.any F := by
 unfold idxF
 cases r.any F with
 | true => simp; omega
 | false => simp
theorem QX {n : Nat} (hn : n ≤ 12) (l : List Scene) (hl : l.length ≤ 16384) (ho : SAll n l) (M : List (Option (List ByteArray))) (j : Nat) (hj : j + 1 < M.length) (hM : M.length ≤ 3000) :
 Ev (fun k => zB k (l, (M, (j : Int)))) (l.any (uN M j)) := by
 refine Ev.step (fun k => yT k l (M, (j : Int))) (Ev.bind (Ev.step (fun k => xh k l (M, (j : Int))) (TL hn l hl ho M j hj hM l 0 rfl)) (Ev.some ?_))
 exact PP _ _ _
end Qq
namespace Qq
open Go Go.Vt Pt
set_option linter.unusedVariables false
set_option linter.unusedSimpArgs false
set_option linter.unnecessarySimpa false
def zk (t : xa) (c : Scene) : Bool := !jn t c
theorem LevOk.drop {n : Nat} : ∀ {r : List zG} {Ls : List (List Scene)} (i : Nat), i ≤ r.length → LevOk n r Ls → LevOk n (r.drop i) (Ls.drop i)
 | r, Ls, 0, _, h => h
 | s :: r, L :: L2 :: Ls, i + 1, hi, h => LevOk.drop (r := r) (Ls := L2 :: Ls) i (by simpa using hi) h.2.2.2
 | [], _, i + 1, hi, _ => by simp at hi
 | _ :: _, [], _, _, h => h.elim
 | _ :: _, [_], _, _, h => h.elim
theorem LevOk.head {n : Nat} {r : List zG} {L : List Scene} {Ls : List (List Scene)} (h : LevOk n r (L :: Ls)) : SAll n L ∧ L.Nodup ∧ L.length ≤ 3000 := by
 cases r with
 | nil => cases Ls with
   | nil => exact h
   | cons => exact h.elim
 | cons s r => cases Ls with
   | nil => exact h.elim
   | cons => exact h.1
theorem Tn (bad : Scene → Bool) : ∀ (r : List zG) (Ls : List (List Scene)) (i : Nat), (rowM bad r Ls).drop i = rowM bad (r.drop i) (Ls.drop i)
 | r, Ls, 0 => rfl
 | r, [], i + 1 => by simp [rowM]
 | r, L :: Ls, i + 1 => by
   show (rowM bad (r.drop 1) Ls).drop i = rowM bad (r.drop (i + 1)) (Ls.drop i)
   rw [Tn bad (r.drop 1) Ls i, List.drop_drop, Nat.add_comm 1 i]
theorem RL {n : Nat} (h1 : 1 ≤ n) (bad : Scene → Bool) {s : zG} {r : List zG} {L L2 : List Scene} {Ls : List (List Scene)} (h : LevOk n (s :: r) (L :: L2 :: Ls)) {M : List (Option (List ByteArray))} {i : Nat}
 (hM : M.drop (i + 1) = rowM bad r (L2 :: Ls)) {c : Scene} (hc : c ∈ L) : ∀ x ∈ zt c s, uN M i x = canF bad r x := by
 intro x hx
 have hx2 := h.2.2.1 c hc x hx
 have ho := (LevOk.head h.2.2.2).1
 have hg : M.getD (i + 1) none = some ((L2.filter (canF bad r)).map keyB) := by
  have : M[i + 1]? = some (some ((L2.filter (canF bad r)).map keyB)) := by
   have h0 : (M.drop (i + 1))[0]? = M[i + 1]? := by rw [List.getElem?_drop]
   rw [← h0, hM]; rfl
  rw [List.getD, this]; rfl
 unfold uN
 rw [hg, MP h1 (fun c hc => ho c (List.mem_filter.1 hc).1) (ho x hx2), Bool.eq_iff_iff, decide_eq_true_eq, List.mem_filter]
 exact ⟨fun h => h.2, fun h => ⟨hx2, h⟩⟩
theorem Wz {α : Type} {f g : α → Bool} : ∀ {l : List α}, (∀ x ∈ l, f x = g x) → l.any f = l.any g
 | [], _ => rfl
 | x :: l, h => by rw [List.any_cons, List.any_cons, h x (by simp), Wz (fun y hy => h y (by simp [hy]))]
theorem Vx {α : Type} {f g : α → Bool} : ∀ {l : List α}, (∀ x ∈ l, f x = g x) → l.findIdx f = l.findIdx g
 | [], _ => rfl
 | x :: l, h => by rw [List.findIdx_cons, List.findIdx_cons, h x (by simp), Vx (fun y hy => h y (by simp [hy]))]
section
variable (t : xa)
theorem ME {n : Nat} (h1 : 1 ≤ n) {pre post : List (Option (List ByteArray))} {done : List Scene} {c : Scene} (hd : SAll n done) (hc : SceneOk n c) (hn : c ∉ done) (F : Scene → Bool) :
 (bif jI (((pre ++ some ((done.filter F).map keyB) :: post).getD pre.length none).getD []) (keyB c) then (((pre ++ some ((done.filter F).map keyB) :: post).getD pre.length none).getD []) else (((pre ++ some ((done.filter F).map keyB) :: post).getD pre.length none).getD []) ++ [keyB c]) = (done.filter F).map keyB ++ [keyB c] := by
 have hg : ((pre ++ some ((done.filter F).map keyB) :: post).getD pre.length none) = some ((done.filter F).map keyB) := by simp [List.getD]
 rw [hg]
 show (bif jI ((done.filter F).map keyB) (keyB c) then _ else _) = _
 have hs : SAll n (done.filter F) := fun d hd2 => hd d (List.mem_filter.1 hd2).1
 rw [XI (fun d hd2 => Vp h1 (hs d hd2)) (Vp h1 hc), decide_eq_false (fun h => hn (List.mem_filter.1 h).1)]
 rfl
end
theorem Ut (t : xa) {n : Nat} (h1n : 1 ≤ n) (hn : n ≤ 12) (a1 : t.1.length ≤ maxLen) (ai : Ins t.1) (a2 : t.2.1.length ≤ 12) (hlen : n = t.1.length) (V : List (List Scene)) (hV : LevOk n t.2.1 V) (i : Nat) (L : List Scene) (Lr : List (List Scene)) (hL : V.drop i = L :: Lr)
 (K : Ev (fun k => va k V t.1 t.2.1 t.2.2.1 t.2.2.2.1 t.2.2.2.2 (List.replicate i none ++ rowM (zk t) (t.2.1.drop i) (L :: Lr)) ((i : Int) - 1)) (rowM (zk t) t.2.1 V)) :
 ∀ (r : List Scene) (j : Nat) (done : List Scene), L.drop j = r → L.take j = done →
   Ev (fun k => yH k V L (L.length : Int) (j : Int) t.1 t.2.1 t.2.2.1 t.2.2.2.1 t.2.2.2.2 (List.replicate i none ++ some ((done.filter (canF (zk t) (t.2.1.drop i))).map keyB) :: rowM (zk t) (t.2.1.drop (i + 1)) Lr) (i : Int)) (rowM (zk t) t.2.1 V) := by
 have hVl := hV.len
 have hi : i < V.length := by
  rcases Nat.lt_or_ge i V.length with h | h
  ·exact h
  ·rw [List.drop_of_length_le h] at hL; cases hL
 have hdr := LevOk.drop i (by omega) hV
 rw [hL] at hdr
 obtain ⟨ho, hnd, hl3⟩ := hdr.head
 have hLr : Lr = V.drop (i + 1) := by rw [← List.drop_drop, hL]; rfl
 have hMl : ∀ x : Option (List ByteArray), (List.replicate i none ++ x :: rowM (zk t) (t.2.1.drop (i + 1)) Lr).length = V.length := fun x => by
  rw [List.length_append, List.length_replicate, List.length_cons, YC, hLr, List.length_drop]; omega
 have hwl : IntKind.i64.wrap ((V.length : Int) - 1) = (V.length : Int) - 1 := zj (by omega) (by omega)
 intro r
 induction r with
 | nil =>
   intro j done h hd
   have a := zJ h
   have hall : done = L := by rw [← hd]; exact List.take_of_length_le a.ge
   refine Ev.step (fun k => fF k _ _ _ _ _ _ _ _ _ _ _) (Ev.no a.g ?_)
   rw [show IntKind.i64.wrap ((i : Int) - (1 : Int)) = (i : Int) - 1 from zj (by omega) (by omega), hall]
   have e : rowM (zk t) (t.2.1.drop i) (L :: Lr) = some ((L.filter (canF (zk t) (t.2.1.drop i))).map keyB) :: rowM (zk t) (t.2.1.drop (i + 1)) Lr := by
    show _ :: rowM (zk t) ((t.2.1.drop i).drop 1) Lr = _
    rw [List.drop_drop]
   rw [e] at K
   exact K
 | cons c r ih =>
   intro j done h hd
   have a := zi h (by rw [ze]; omega)
   have hlt := a.lt
   have hc := ho c a.mem
   have hg : L[j] = c := by have := a.gt (([], 0) : Scene); simpa [List.getD, hlt] using this
   have hdo : SAll n done := fun d hd2 => ho d (List.mem_of_mem_take (hd ▸ hd2))
   have hcn : c ∉ done := by
    intro hm
    rw [← hd] at hm
    obtain ⟨q, hq, hq2⟩ := List.mem_take_iff_getElem.1 hm
    have hql : q < j := by omega
    exact List.pairwise_iff_getElem.1 hnd q j (by omega) hlt hql (hq2.trans hg.symm)
   have hnext : L.take (j + 1) = done ++ [c] := by rw [List.take_add_one, hd, List.getElem?_eq_getElem hlt, hg]; rfl
   have ih2 := ih (j + 1) (done ++ [c]) a.next hnext
   have lenI : ((List.replicate i none : List (Option (List ByteArray))).length) = i := List.length_replicate
   have pk := ME h1n (pre := List.replicate i none) (post := rowM (zk t) (t.2.1.drop (i + 1)) Lr) hdo hc hcn (canF (zk t) (t.2.1.drop i))
   rw [lenI] at pk
   have hset : ∀ x y : Option (List ByteArray), (List.replicate i none ++ x :: rowM (zk t) (t.2.1.drop (i + 1)) Lr).set i y = List.replicate i none ++ y :: rowM (zk t) (t.2.1.drop (i + 1)) Lr := fun x y => by
    rw [List.set_append_right _ _ (by simp)]; simp
   have hgs : ∀ l : List ByteArray, ((List.replicate i none ++ some l :: rowM (zk t) (t.2.1.drop (i + 1)) Lr).getD i none).isSome = true := fun l => by simp [List.getD]
   have add : canF (zk t) (t.2.1.drop i) c = true → Ev (fun k => (jL k c).bind fun y => yH k V L (L.length : Int) ((j + 1 : Nat) : Int) t.1 t.2.1 t.2.2.1 t.2.2.2.1 t.2.2.2.2 ((List.replicate i none ++ some ((done.filter (canF (zk t) (t.2.1.drop i))).map keyB) :: rowM (zk t) (t.2.1.drop (i + 1)) Lr).set i (some (bif jI (((List.replicate i none ++ some ((done.filter (canF (zk t) (t.2.1.drop i))).map keyB) :: rowM (zk t) (t.2.1.drop (i + 1)) Lr).getD i none).getD []) y then (((List.replicate i none ++ some ((done.filter (canF (zk t) (t.2.1.drop i))).map keyB) :: rowM (zk t) (t.2.1.drop (i + 1)) Lr).getD i none).getD []) else (((List.replicate i none ++ some ((done.filter (canF (zk t) (t.2.1.drop i))).map keyB) :: rowM (zk t) (t.2.1.drop (i + 1)) Lr).getD i none).getD []) ++ [y]))) (i : Int)) (rowM (zk t) t.2.1 V) := fun hF => by
    refine Ev.bind (PL hn hc) ?_
    rw [pk, hset]
    have : (done ++ [c]).filter (canF (zk t) (t.2.1.drop i)) = done.filter (canF (zk t) (t.2.1.drop i)) ++ [c] := by rw [List.filter_append, List.filter_cons_of_pos hF]; rfl
    rw [this, List.map_append] at ih2
    exact ih2
   have skip : canF (zk t) (t.2.1.drop i) c = false → Ev (fun k => yH k V L (L.length : Int) ((j + 1 : Nat) : Int) t.1 t.2.1 t.2.2.1 t.2.2.2.1 t.2.2.2.2 (List.replicate i none ++ some ((done.filter (canF (zk t) (t.2.1.drop i))).map keyB) :: rowM (zk t) (t.2.1.drop (i + 1)) Lr) (i : Int)) (rowM (zk t) t.2.1 V) := fun hF => by
    have : (done ++ [c]).filter (canF (zk t) (t.2.1.drop i)) = done.filter (canF (zk t) (t.2.1.drop i)) := by rw [List.filter_append, List.filter_cons_of_neg (by rw [hF]; simp)]; simp
    rw [this] at ih2
    exact ih2
   have hml := hMl (some ((done.filter (canF (zk t) (t.2.1.drop i))).map keyB))
   refine Ev.step (fun k => fF k _ _ _ _ _ _ _ _ _ _ _) ?_
   simp only [a.g, a.z, a.n, a.get, a.gt, a.w, hwl, cond_true, Int.toNat_natCast]
   have gets : ∀ {f : Nat → Option (List (Option (List ByteArray)))} {z : List (Option (List ByteArray))}, Ev f z → Ev (fun k => bif decide ((0 : Int) ≤ (i : Int)) then bif decide ((i : Int) < ((List.replicate i none ++ some ((done.filter (canF (zk t) (t.2.1.drop i))).map keyB) :: rowM (zk t) (t.2.1.drop (i + 1)) Lr).length : Int)) then bif decide (i < (List.replicate i none ++ some ((done.filter (canF (zk t) (t.2.1.drop i))).map keyB) :: rowM (zk t) (t.2.1.drop (i + 1)) Lr).length) then bif ((List.replicate i none ++ some ((done.filter (canF (zk t) (t.2.1.drop i))).map keyB) :: rowM (zk t) (t.2.1.drop (i + 1)) Lr).getD i none).isSome then bif decide ((0 : Int) ≤ (i : Int)) then bif decide ((i : Int) < ((List.replicate i none ++ some ((done.filter (canF (zk t) (t.2.1.drop i))).map keyB) :: rowM (zk t) (t.2.1.drop (i + 1)) Lr).length : Int)) then bif Nat.beq i i then f k else none else none else none else none else none else none else none) z := fun h =>
    Ev.yes (by simp) (Ev.yes (by rw [hml]; simp; omega) (Ev.yes (by rw [hml]; simp; omega) (Ev.yes (hgs _) (Ev.yes (by simp) (Ev.yes (by rw [hml]; simp; omega) (Ev.yes (by simp) h))))))
   refine Ev.ite (fun hl => ?_) (fun hl => ?_)
   ·have hil : i + 1 = V.length := by simp at hl; omega
    have hdi : t.2.1.drop i = [] := by rw [List.drop_eq_nil_iff]; omega
    have hF : canF (zk t) (t.2.1.drop i) c = !jn t c := by rw [hdi]; rfl
    refine Ev.bind (fT t c a1 ai (by rw [ze]; omega) (by rw [hc.len, ze]; omega) (x5 hc.ok)) (Ev.ite (fun hb => ?_) (fun hb => ?_))
    ·exact gets (add (hF.trans hb))
    ·exact skip (hF.trans hb)
   ·have hil : i + 1 < V.length := by
     have : ¬ (i : Int) = (V.length : Int) - 1 := by simpa using hl
     omega
    have his : i < t.2.1.length := by omega
    cases hLr2 : Lr with
    | nil => rw [hLr] at hLr2; have := List.drop_eq_nil_iff.1 hLr2; omega
    | cons L2 Lq =>
      have hds : t.2.1.drop i = t.2.1[i] :: t.2.1.drop (i + 1) := List.drop_eq_getElem_cons his
      have hgd : ∀ d, t.2.1.getD i d = t.2.1[i] := fun d => by simp [List.getD, his]
      rw [hLr2, hds] at hdr
      have hso := hdr.2.1
      have hno := bq hc hso
      have hnl := (YF hc hso).2
      have hany := RL h1n (zk t) hdr (M := List.replicate i none ++ some ((done.filter (canF (zk t) (t.2.1.drop i))).map keyB) :: rowM (zk t) (t.2.1.drop (i + 1)) Lr) (i := i) (by
       rw [List.drop_append, List.length_replicate, List.drop_of_length_le (by simp), show i + 1 - i = 1 by omega, hLr2]; rfl) a.mem
      have hF : canF (zk t) (t.2.1.drop i) c = (zt c t.2.1[i]).any (uN (List.replicate i none ++ some ((done.filter (canF (zk t) (t.2.1.drop i))).map keyB) :: rowM (zk t) (t.2.1.drop (i + 1)) Lr) i) := by
       conv => lhs; rw [hds]
       exact (Wz hany).symm
      refine Ev.yes (by simp) (Ev.yes (by simp; omega) ?_)
      simp only [hgd]
      refine Ev.bind (vZ hc hso) (Ev.bind (QX hn _ (by omega) hno _ i (by rw [← hLr2, hml]; omega) (by rw [← hLr2, hml]; omega)) ?_)
      rw [← hLr2]
      refine Ev.ite (fun hb => ?_) (fun hb => ?_)
      ·exact gets (add (hF.trans hb))
      ·exact skip (hF.trans hb)
theorem aK (t : xa) {n : Nat} (h1n : 1 ≤ n) (hn : n ≤ 12) (a1 : t.1.length ≤ maxLen) (ai : Ins t.1) (a2 : t.2.1.length ≤ 12) (hlen : n = t.1.length) (V : List (List Scene)) (hV : LevOk n t.2.1 V) : ∀ (i : Nat), i ≤ V.length →
 Ev (fun k => va k V t.1 t.2.1 t.2.2.1 t.2.2.2.1 t.2.2.2.2 (List.replicate i none ++ rowM (zk t) (t.2.1.drop i) (V.drop i)) ((i : Int) - 1)) (rowM (zk t) t.2.1 V)
 | 0, _ => by
   refine Ev.step (fun k => fG k _ _ _ _ _ _ _ _) (Ev.no (decide_eq_false (by omega)) (Ev.some ?_))
   simp
 | i + 1, hi => by
   have ih := aK t h1n hn a1 ai a2 hlen V hV i (by omega)
   have hVl := hV.len
   cases hL : V.drop i with
   | nil => rw [List.drop_eq_nil_iff] at hL; omega
   | cons L Lr =>
     rw [hL] at ih
     have hLr : V.drop (i + 1) = Lr := by rw [← List.drop_drop, hL]; rfl
     have hVi : V[i]'(by omega) = L := by
      have := List.drop_eq_getElem_cons (l := V) (i := i) (by omega)
      rw [hL] at this
      exact (List.cons.inj this).1.symm
     have hg : V.getD i [] = L := by rw [List.getD, List.getElem?_eq_getElem (by omega), hVi]; rfl
     have key := Ut t h1n hn a1 ai a2 hlen V hV i L Lr hL ih L 0 [] rfl rfl
     have hxl : (List.replicate (i + 1) (none : Option (List ByteArray)) ++ rowM (zk t) (t.2.1.drop (i + 1)) (V.drop (i + 1))).length = V.length := by
      rw [List.length_append, List.length_replicate, YC, List.length_drop]; omega
     have hset : (List.replicate (i + 1) (none : Option (List ByteArray)) ++ rowM (zk t) (t.2.1.drop (i + 1)) (V.drop (i + 1))).set i (some []) = List.replicate i none ++ some ((([] : List Scene).filter (canF (zk t) (t.2.1.drop i))).map keyB) :: rowM (zk t) (t.2.1.drop (i + 1)) Lr := by
      rw [hLr, List.replicate_succ', List.append_assoc, List.set_append_right _ _ (by simp)]
      simp
     have ei : (((i + 1 : Nat) : Int) - 1) = (i : Int) := by omega
     rw [ei]
     refine Ev.step (fun k => fG k _ _ _ _ _ _ _ _) ?_
     simp only [Int.toNat_natCast, hset, hg]
     exact Ev.yes (decide_eq_true (by omega)) (Ev.yes (decide_eq_true (by omega)) (Ev.yes (decide_eq_true (by omega)) (Ev.yes (decide_eq_true (by omega)) (Ev.yes (decide_eq_true (by omega)) (Ev.yes (decide_eq_true (by omega)) key)))))
theorem TQ (t : xa) {n : Nat} (h1n : 1 ≤ n) (hn : n ≤ 12) (a1 : t.1.length ≤ maxLen) (ai : Ins t.1) (a2 : t.2.1.length ≤ 12) (hlen : n = t.1.length) (V : List (List Scene)) (hV : LevOk n t.2.1 V) : Ev (fun k => X4 k (t, V)) (rowM (zk t) t.2.1 V) := by
 have hVl := hV.len
 have h := aK t h1n hn a1 ai a2 hlen V hV V.length (Nat.le_refl _)
 have e : List.replicate V.length (none : Option (List ByteArray)) ++ rowM (zk t) (t.2.1.drop V.length) (V.drop V.length) = List.replicate V.length none := by
  rw [List.drop_of_length_le (Nat.le_refl V.length)]; simp [rowM]
 rw [e] at h
 refine Ev.step (fun k => TR k t V) (Ev.yes (by simp) (Ev.yes (decide_eq_true (by rw [za]; omega)) (Ev.yes (by simp) ?_)))
 rw [zj (by omega) (by omega), Int.toNat_natCast]
 exact h
theorem QF {F G : Scene → Bool} {i : Nat} {r : List Scene} (h : ∀ x ∈ r, F x = G x) : idxF F i r = idxF G i r := by unfold idxF; rw [Wz h, Vx h]
theorem Ye (t : xa) {n : Nat} (h1n : 1 ≤ n) (hn : n ≤ 12) (a2 : t.2.1.length ≤ 12) (V : List (List Scene)) (hV : LevOk n t.2.1 V) (z1 z2 z3 : Int) : ∀ (r : List zG) (i : Nat) (c : Scene) (ps : List Int), t.2.1.drop i = r → (∃ L Lr, V.drop i = L :: Lr ∧ c ∈ L) → canF (zk t) r c = true → ps.length ≤ i →
 Ev (fun k => xk k t.2.1 (t.2.1.length : Int) (i : Int) z1 z2 c.1 c.2 (rowM (zk t) t.2.1 V) 2 z3 ps) (Ra (some (firstW (zk t) r (c, ps))))
 | [], i, c, ps, h, hc, hF, hp => by
   have a := zJ h
   obtain ⟨L, Lr, hL, hcL⟩ := hc
   have hVl := hV.len
   have hi : i < V.length := by
    rcases Nat.lt_or_ge i V.length with h | h
    ·exact h
    ·rw [List.drop_of_length_le h] at hL; cases hL
   have hdr := LevOk.drop i (by omega) hV
   rw [hL] at hdr
   have hco := hdr.head.1 c hcL
   refine Ev.step (fun k => uf k _ _ _ _ _ _ _ _ _ _ _) (Ev.no a.g (Ev.bind (Ev.step (fun k => WV k (c.1, c.2)) (Ev.bind (yJ c.1 (by rw [hco.len]; omega)) (Ev.pure _))) (Ev.some rfl)))
 | s :: r, i, c, ps, h, hc, hF, hp => by
   have a := zi h (by rw [ze]; omega)
   have hlt := a.lt
   obtain ⟨L, Lr, hL, hcL⟩ := hc
   have hVl := hV.len
   have hdr := LevOk.drop i (by omega) hV
   rw [hL, h] at hdr
   cases Lr with
   | nil => exact hdr.elim
   | cons L2 Lq =>
     have hco := hdr.head.1 c hcL
     have hso := hdr.2.1
     have hno := bq hco hso
     have hnl := (YF hco hso).2
     have hV2 : V.drop (i + 1) = L2 :: Lq := by rw [← List.drop_drop, hL]; rfl
     have hany := RL h1n (zk t) hdr (M := rowM (zk t) t.2.1 V) (i := i) (by rw [Tn, hV2, a.next]) hcL
     have hml := YC (zk t) t.2.1 V
     have hidx : idxF (uN (rowM (zk t) t.2.1 V) i) 0 (zt c s) = (((zt c s).findIdx (canF (zk t) r) : Nat) : Int) := by
      rw [QF hany]
      unfold idxF
      rw [if_pos (show (zt c s).any (canF (zk t) r) = true from hF), Nat.zero_add]
     obtain ⟨x, hx, hxF⟩ := List.any_eq_true.1 hF
     have hil : (zt c s).findIdx (canF (zk t) r) < (zt c s).length := List.findIdx_lt_length_of_exists ⟨x, hx, hxF⟩
     have hilI : (((zt c s).findIdx (canF (zk t) r) : Nat) : Int) < ((zt c s).length : Int) := by omega
     have hget : (zt c s).getD ((zt c s).findIdx (canF (zk t) r)) ([], 0) = (zt c s)[(zt c s).findIdx (canF (zk t) r)] := by rw [List.getD, List.getElem?_eq_getElem hil]; rfl
     have hd2 : (zt c s).getD ((zt c s).findIdx (canF (zk t) r)) ([], 0) ∈ zt c s := by rw [hget]; exact List.getElem_mem hil
     have hdF : canF (zk t) r ((zt c s).getD ((zt c s).findIdx (canF (zk t) r)) ([], 0)) = true := by rw [hget]; exact List.findIdx_getElem (w := hil)
     have ih := fun ps hps => Ye t h1n hn a2 V hV z1 z2 z3 r (i + 1) ((zt c s).getD ((zt c s).findIdx (canF (zk t) r)) ([], 0)) ps a.next ⟨L2, Lq, hV2, hdr.2.2.1 c hcL _ hd2⟩ hdF hps
     refine Ev.step (fun k => uf k _ _ _ _ _ _ _ _ _ _ _) ?_
     simp only [a.g, a.z, a.get, a.w, cond_true]
     have eidx : Ev (fun k => zA k (zt c s, (rowM (zk t) t.2.1 V, (i : Int)))) (idxF (uN (rowM (zk t) t.2.1 V) i) 0 (zt c s)) :=
      Ev.step (fun k => yR k _ _) (TM hn (zt c s) (by omega) hno (rowM (zk t) t.2.1 V) i (by rw [hml]; omega) (by rw [hml]; omega) (zt c s) 0 rfl)
     rw [hidx] at eidx
     refine Ev.bind (vZ hco hso) (Ev.bind eidx ?_)
     simp only [Int.toNat_natCast]
     refine Ev.ite (fun h2 => ?_) (fun h2 => ?_)
     ·have e2 : s.1 = 2 := by simpa using h2
      refine Ev.yes (decide_eq_true (by rw [za]; simp; omega)) (Ev.yes (decide_eq_true (by omega)) (Ev.yes (decide_eq_true hilI) (Ev.yes (decide_eq_true hil) ?_)))
      have := ih (ps ++ [(((zt c s).findIdx (canF (zk t) r) : Nat) : Int)]) (by simp; omega)
      have es : VV (canF (zk t) r) s (c, ps) = ((zt c s).getD ((zt c s).findIdx (canF (zk t) r)) ([], 0), ps ++ [(((zt c s).findIdx (canF (zk t) r) : Nat) : Int)]) := by
       unfold VV
       dsimp only
       rw [if_pos e2]
      show Ev _ (Ra (some (firstW (zk t) r (VV (canF (zk t) r) s (c, ps)))))
      rw [es]
      exact this
     ·have e2 : ¬ s.1 = 2 := by simpa using h2
      refine Ev.yes (decide_eq_true (by omega)) (Ev.yes (decide_eq_true hilI) (Ev.yes (decide_eq_true hil) ?_))
      have := ih ps (by omega)
      have es : VV (canF (zk t) r) s (c, ps) = ((zt c s).getD ((zt c s).findIdx (canF (zk t) r)) ([], 0), ps) := by
       unfold VV
       dsimp only
       rw [if_neg e2]
      show Ev _ (Ra (some (firstW (zk t) r (VV (canF (zk t) r) s (c, ps)))))
      rw [es]
      exact this
theorem TN (t : xa) {n : Nat} (hn : n ≤ 12) (a1 : t.1.length ≤ maxLen) (ai : Ins t.1) (a2 : t.2.1.length ≤ 12) (l : List Scene) (hl : l.length ≤ 16384) (ho : SAll n l) : ∀ (r : List Scene) (i : Nat), l.drop i = r →
 Ev (fun k => zm k l t.1 t.2.1 t.2.2.1 t.2.2.2.1 t.2.2.2.2 (l.length : Int) (i : Int)) (idxF (zk t) i r)
 | [], i, h => Ev.step (fun k => zM k _ _ _ _ _ _ _ _) (Ev.no (zJ h).g (Ev.some rfl))
 | x :: r, i, h => by
   have a := zi h (by rw [ze]; omega)
   have hx := ho x a.mem
   refine Ev.step (fun k => zM k _ _ _ _ _ _ _ _) ?_
   simp only [a.g, a.z, a.get, a.w, cond_true]
   rw [XZ]
   have e1 : Ev (fun k => uS k (x, t)) (zk t x) := Ev.step (fun k => Zv k x t) (Ev.bind (fT t x a1 ai (by rw [ze]; omega) (by rw [hx.len, ze]; omega) (x5 hx.ok)) (Ev.some rfl))
   refine Ev.bind e1 (Ev.ite (fun h1 => Ev.some ?_) (fun h1 => ?_))
   ·rw [if_pos h1]
   ·rw [if_neg (by rw [h1]; simp)]; exact TN t hn a1 ai a2 l hl ho r (i + 1) a.next
theorem Wg (t : xa) (a1 : t.1.length ≤ maxLen) (ai : Ins t.1) (a2 : t.2.1.length ≤ maxLen) : Ev (fun k => uJ k t) (cQ t) := by
 refine Ev.step (fun k => Wh k t) (Ev.bind (fJ t a1 ai a2) (Ev.ite (fun h => Ev.some ?_) (fun h => ?_)))
 ·have : yl t = false := by simpa using h
  simp [cQ, this]
 ·have e : yl t = true := by simpa using h
  obtain ⟨h12, h1n, hn, hp⟩ := xX e
  have hs := xx e
  obtain ⟨q1, q2⟩ := RO t.2.1 (yM t)
  have hst : (yM t).map Prod.fst = [(t.1, -1)] := rfl
  rw [hst] at q1 q2
  refine Ev.bind (SP t e a1 ai a2) ?_
  unfold cQ Wo
  rw [if_pos e]
  cases hL : levU t.2.1 [(t.1, -1)] with
  | none =>
    rw [hL] at q1
    cases hE : gx t.2.1 (yM t) with
    | some A => rw [hE] at q1; cases q1
    | none => exact Ev.yes rfl (Ev.pure _)
  | some V =>
    rw [hL] at q1
    cases hE : gx t.2.1 (yM t) with
    | none => rw [hE] at q1; cases q1
    | some A =>
      rw [hE] at q1
      have hlast : V.getLastD [] = A.map Prod.fst := Option.some.inj q1
      obtain ⟨hV, Q, hQ⟩ := PG t.2.1 [(t.1, -1)] V hs.2 (UU e) (by simp) (by simp) hL
      have hVl := hV.len
      have hA3 := bB _ _ A (by simp [yM]) hE
      have hAo := YJ t.2.1 (yM t) A hs.2 (bO e) hE
      have hAS : SAll t.1.length (A.map Prod.fst) := fun c hc => by
       obtain ⟨d, hd, rfl⟩ := List.mem_map.1 hc
       exact hAo d hd
      have hlst : V.getD (V.length - 1) [] = A.map Prod.fst := by
       rw [← hlast]
       cases V with
       | nil => simp at hVl
       | cons a L => rw [List.getLastD_cons, List.getD, ← List.getLast?_eq_getElem?, List.getLast?_cons]; simp [List.getLastD_eq_getLast?]
      have ew : IntKind.i64.wrap ((V.length : Int) - 1) = ((V.length - 1 : Nat) : Int) := by rw [zj (by omega) (by omega)]; omega
      have h0 : V.getD 0 [] = [(t.1, -1)] := by rw [hQ]; rfl
      have hbad : ∀ w ∈ A, (!jh t w.1) = zk t w.1 := fun w hw => by
       have harr := UB e w.1 (by
        unfold WA Wo
        rw [if_pos e, hE]
        exact List.mem_map_of_mem hw)
       unfold zk jn
       rw [e, harr]; rfl
      have hfind : A.find? (fun w => !jh t w.1) = A.find? (fun w => zk t w.1) := by
       have : ∀ (l : List Way), (∀ w ∈ l, (!jh t w.1) = zk t w.1) → l.find? (fun w => !jh t w.1) = l.find? (fun w => zk t w.1) := by
        intro l
        induction l with
        | nil => intro _; rfl
        | cons w l ih => intro h; rw [List.find?_cons, List.find?_cons, h w (by simp), ih (fun u hu => h u (by simp [hu]))]
       exact this A hbad
      have hef := T3 (zk t) t.2.1 (yM t) A hE
      have hany : (A.map Prod.fst).any (zk t) = canF (zk t) t.2.1 (t.1, -1) := by
       have h1 : (A.map Prod.fst).any (zk t) = (A.find? (fun w => zk t w.1)).isSome := by
        rw [List.any_map, Bool.eq_iff_iff, List.find?_isSome, List.any_eq_true]
        rfl
       rw [h1, hef]
       show (((yM t).find? (fun w => canF (zk t) t.2.1 w.1)).map (firstW (zk t) t.2.1)).isSome = _
       unfold yM
       rw [List.find?_cons]
       cases canF (zk t) t.2.1 (t.1, -1) <;> rfl
      simp only [outU, List.nil_append, ew, Int.toNat_natCast, h0, hlst]
      refine Ev.no rfl (Ev.yes (decide_eq_true (by omega)) (Ev.yes (decide_eq_true (by omega)) (Ev.yes (by simp) (Ev.yes (decide_eq_true (by omega)) (Ev.yes (decide_eq_true (by omega)) (Ev.yes (decide_eq_true (by omega)) ?_))))))
      have hcont : Ev (fun k => zw k (A.map Prod.fst, t)) ((A.map Prod.fst).any (zk t)) :=
       Ev.step (fun k => yE k _ _) (Ev.bind (Ev.step (fun k => yS k _ _) (TN t hn a1 ai h12 (A.map Prod.fst) (by rw [List.length_map]; omega) hAS _ 0 rfl)) (Ev.some (PP _ _ _)))
      refine Ev.bind hcont ?_
      rw [hany, hfind, hef]
      cases hF : canF (zk t) t.2.1 (t.1, -1) with
      | false =>
        have : (yM t).find? (fun w => canF (zk t) t.2.1 w.1) = none := by unfold yM; rw [List.find?_cons, hF]; rfl
        rw [this]
        exact Ev.yes rfl (Ev.pure _)
      | true =>
        have : (yM t).find? (fun w => canF (zk t) t.2.1 w.1) = some ((t.1, -1), []) := by unfold yM; rw [List.find?_cons, hF]
        rw [this]
        refine Ev.no rfl (Ev.bind (TQ t h1n hn a1 ai h12 rfl V hV) ?_)
        exact Ye t h1n hn h12 V hV 0 0 0 t.2.1 0 (t.1, -1) [] rfl ⟨[(t.1, -1)], Q, by rw [hQ]; rfl, by simp⟩ hF (by simp)
end Qq
namespace Qq
open Go Go.Vt Pt
set_option linter.unusedVariables false
set_option linter.unusedSimpArgs false
set_option linter.unnecessarySimpa false
theorem T4 : ∀ (r : List zG) (l A : List Way) (m : Nat), bG m l → gx r l = some A → bG (m + r.length) A
 | [], l, A, m, h, e => by cases e; exact h
 | s :: r, l, A, m, h, e => by
   rw [vC] at e
   split at e
   ·have := T4 r _ A (m + 1) (P6 l [] h (fun c hc => by cases hc)) e
    rw [show m + (s :: r).length = m + 1 + r.length by simp; omega]
    exact this
   ·cases e
theorem Q1 (t : xa) : (cQ t).2.1.length ≤ 12 ∧ (cQ t).2.2.1.length ≤ 12 := by
 unfold cQ
 split
 ·rename_i h
  cases hE : Wo t with
  | none => exact ⟨by simp, by simp⟩
  | some A =>
    obtain ⟨h1, h2, h3, h4⟩ := xX h
    have hs := xx h
    have hw := T4 t.2.1 (yM t) A 0 (W7 t) hE
    have ho := YJ t.2.1 (yM t) A hs.2 (bO h) hE
    show (Ra (A.find? (fun w => !jh t w.1))).2.1.length ≤ 12 ∧ (Ra (A.find? (fun w => !jh t w.1))).2.2.1.length ≤ 12
    cases hf : A.find? (fun w => !jh t w.1) with
    | none => exact ⟨Nat.zero_le _, Nat.zero_le _⟩
    | some w =>
      have hm := List.mem_of_find?_eq_some hf
      exact ⟨by have := hw w hm; show w.2.length ≤ 12; omega, by show w.1.1.length ≤ 12; rw [(ho w hm).len]; exact h3⟩
 ·exact ⟨by simp, by simp⟩
theorem T2 (c n : Int) (ps p : List Int) (h1 : ps.length ≤ 12) (h2 : p.length ≤ 12) : Ev (fun k => vD k ((c, ps, p, n), (c, ps, p, n))) true := by
 refine Ev.step (fun k => WL k _ _) (Ev.no (by simp) (Ev.bind (Wn ps ps (by rw [ze]; omega) (by rw [ze]; omega)) (Ev.no (by simp) (Ev.bind (QP (p, n) (p, n) (by show p.length ≤ _; rw [ze]; omega) (by show p.length ≤ _; rw [ze]; omega)) (Ev.no (by simp) (Ev.pure _))))))
theorem WO (c n : Int) (ps p : List Int) (h1 : ps.length ≤ 12) (h2 : p.length ≤ 12) : Ev (fun k => ju k ((c, ps, p, n), (1 : Int))) (1 + ps.length + p.length, ww 1 ps.length, ww (1 + ps.length) p.length) := by
 have te := ZM
 exact Ev.step (fun k => Yk k _ _) (Ev.bind (br ps 1 (by rw [ze]; omega) (by omega) (by omega)) (Ev.bind (TD (p, n) _ (by show p.length ≤ _; omega) (by dsimp only; omega) (by dsimp only; omega)) (Ev.pure _)))
theorem WZ (c n : Int) (a b : Nat) (h1 : a ≤ 12) (h2 : b ≤ 12) : Ev (fun k => vp k ((c, ww 1 a, ww (1 + a) b, n), (1 : Int))) (1 + a + b) := by
 have te := ZM
 exact Ev.step (fun k => Yl k _ _) (Ev.bind (Wj a 1 (by rw [ze]; omega) (by omega) (by omega)) (Ev.no (by simp; omega) (Ev.bind (TY b (1 + a) n (by omega) (by omega) (by omega)) (Ev.no (by simp; omega) (Ev.pure _)))))
theorem eX (t : xa) (f0 : Fits TrickTy t) : Ev (fun k => vE k t) true := by
 obtain ⟨a1, ai, a2⟩ := Ph f0
 refine Ev.step (fun k => gv k t) (Ev.bind (Ql t 1048576 a1 a2 (by omega) (by omega)) (Ev.ite (fun h => Ev.pure _) (fun h => ?_)))
 obtain ⟨c1, c2, c3, c4⟩ := Sx (t := t) (n := 1048576) (by omega) (by simpa using h)
 have hl := Q1 t
 have es := Xn t a1 a2
 have ei := Wg t a1 ai a2
 revert hl es ei
 generalize cQ t = y
 obtain ⟨c, ps, p, n, ok⟩ := y
 intro hl es ei
 have l1 : ps.length ≤ 12 := hl.1
 have l2 : p.length ≤ 12 := hl.2
 have ee := T2 c n ps p l1 l2
 have em := WO c n ps p l1 l2
 have eh := WZ c n ps.length p.length l1 l2
 have et := Qh t c1 c2
 refine Ev.bind et (Ev.bind es (Ev.bind et (Ev.bind ei (Ev.bind ee (Ev.no (by simp) (Ev.no (by simp) ?_))))))
 refine Ev.bind et (Ev.bind (QN t t a1 a2 a1 a2) (Ev.no (by simp) (Ev.bind (TB t 1 c1 c2 (by omega) (by omega)) (Ev.no (by simp; omega) (Ev.bind ee (Ev.no (by simp) (Ev.no (by simp) ?_)))))))
 refine Ev.bind em (Ev.bind eh (Ev.no (by simp; omega) (Ev.no (by simp) ?_)))
 refine Ev.bind et (Ev.bind ei (Ev.bind ee (Ev.no (by simp) (Ev.no (by simp) ?_))))
 exact Ev.bind eh (Ev.no (by simp; omega) (Ev.no (by simp) (Ev.pure _)))
end Qq
