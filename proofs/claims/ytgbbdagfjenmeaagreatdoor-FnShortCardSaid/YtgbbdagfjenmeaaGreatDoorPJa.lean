/-
  What the laws lean on: what the functions come to.
  Conditions: numbers and lengths are such as a machine bears.
-/
import Derived.Test.YtgbbdagfjenmeaaGreatDoorPt
import Derived.Test.YtgbbdagfjenmeaaGreatDoorVd
import Derived.Laws.BitsLemmas
import Derived.Test.YtgbbdagfjenmeaaGreatDoorCmf
import Derived.Lib.ItoaLen
namespace Go.Vt
end Go.Vt
namespace Qq
open Go Go.Vt
set_option linter.unusedVariables false
set_option linter.unusedSimpArgs false
theorem zd : maxLen = 9223372036854775807 := by unfold maxLen; decide
theorem za : rowMax = 4294967296 := rfl
theorem zf {x : Int} (h1 : -9223372036854775808 ≤ x) (h2 : x ≤ 9223372036854775807) : IntKind.i64.wrap x = x := by
 rw [IntKind.wrap_i64]; omega
def In (x : Int) : Prop := -9223372036854775808 ≤ x ∧ x ≤ 9223372036854775807
theorem In.of_fits {x : Int} (h : Fits (.int .i64) x) : In x := by
 have h' : IntKind.i64.min ≤ x ∧ x ≤ IntKind.i64.max := h
 have e1 : IntKind.i64.min = -9223372036854775808 := by decide
 have e2 : IntKind.i64.max = 9223372036854775807 := by decide
 unfold In; rw [e1, e2] at h'; exact h'
def Ins (xs : List Int) : Prop := ∀ x ∈ xs, In x
structure AtCons {α : Type} (xs : List α) (i : Nat) (y : α) (rest : List α) : Prop where
 lt : i < xs.length
 g : decide ((i : Int) < (xs.length : Int)) = true
 z : decide ((0 : Int) ≤ (i : Int)) = true
 n : decide ((i : Int).toNat < xs.length) = true
 get : ∀ d, xs.getD (i : Int).toNat d = y
 w : IntKind.i64.wrap ((i : Int) + 1) = ((i + 1 : Nat) : Int)
 next : xs.drop (i + 1) = rest
 mem : y ∈ xs
 gt : ∀ d, xs.getD i d = y
 le : decide ((i : Int) ≤ (xs.length : Int)) = true
theorem zl {α : Type} {xs : List α} {i : Nat} {y : α} {rest : List α} (h : xs.drop i = y :: rest) (hm : xs.length ≤ maxLen) : AtCons xs i y rest := by
 rw [zd] at hm
 have lt : i < xs.length := by
  rcases Nat.lt_or_ge i xs.length with h1 | h1
  ·exact h1
  ·rw [List.drop_eq_nil_of_le h1] at h; cases h
 have e := List.drop_eq_getElem_cons lt
 rw [e] at h
 have hy : xs[i] = y := by injection h
 refine ⟨lt, by simp; omega, by simp, by simp; omega, fun d => by simp [List.getD, lt, hy], by rw [zf (by omega) (by omega)]; simp, by injection h, by rw [← hy]; exact List.getElem_mem lt, fun d => by simp [List.getD, lt, hy], by simp; omega⟩
structure AtNil {α : Type} (xs : List α) (i : Nat) : Prop where
 ge : xs.length ≤ i
 g : decide ((i : Int) < (xs.length : Int)) = false
theorem zO {α : Type} {xs : List α} {i : Nat} (h : xs.drop i = []) : AtNil xs i := by
 have ge : xs.length ≤ i := List.drop_eq_nil_iff.1 h
 exact ⟨ge, by simp; omega⟩
structure AtUp (n : Int) (i : Nat) : Prop where
 lt : (i : Int) < n
 g : decide ((i : Int) < n) = true
 z : decide ((0 : Int) ≤ (i : Int)) = true
 w : IntKind.i64.wrap ((i : Int) + 1) = ((i + 1 : Nat) : Int)
theorem HR {n : Int} {i : Nat} (h : (i : Int) < n) (hn : n ≤ 9223372036854775807) : AtUp n i :=
 ⟨h, by simp [h], by simp, by rw [zf (by omega) (by omega)]; simp⟩
theorem HD {n : Int} {i : Nat} (h : n ≤ (i : Int)) : decide ((i : Int) < n) = false := by simp [h]
end Qq
namespace Qq
open Go Go.Vt Pt
set_option linter.unusedVariables false
set_option linter.unusedSimpArgs false
abbrev Cur : Type := List Int × Int × Int
def xg (c : Cur) : Prop := c.1.length ≤ 9223372036854775807 ∧ 0 ≤ c.2.1 ∧ c.2.1 ≤ c.1.length
theorem and255 (x : BitVec 64) : (x &&& BitVec.ofInt 64 255).toNat ≤ 255 := by
 rw [BitVec.toNat_and]
 exact Nat.and_le_right
theorem wrap255 (x : BitVec IntKind.i64.bits) : 0 ≤ IntKind.i64.wrap (((x &&& BitVec.ofInt IntKind.i64.bits (255 : Int)).toNat : Nat) : Int) ∧ IntKind.i64.wrap (((x &&& BitVec.ofInt IntKind.i64.bits (255 : Int)).toNat : Nat) : Int) ≤ 255 := by
 have h : (x &&& BitVec.ofInt IntKind.i64.bits (255 : Int)).toNat ≤ 255 := and255 x
 rw [zf (by omega) (by omega)]
 omega
theorem gF (c : Cur) (h : xg c) : ∃ (y : Int) (c' : Cur), Ev (fun k => uU k c) (y, c') ∧ 0 ≤ y ∧ y ≤ 255 ∧ xg c' := by
 obtain ⟨h1, h2, h3⟩ := h
 by_cases hl : c.2.1 < c.1.length
 ·refine ⟨_, _, Ev.step (fun k => XO k c) (Ev.yes (decide_eq_true hl) (Ev.yes (decide_eq_true h2) (Ev.yes (decide_eq_true hl) (Ev.pure _)))), (wrap255 _).1, (wrap255 _).2, ?_⟩
  refine ⟨h1, ?_, ?_⟩ <;> (dsimp only; rw [zf (by omega) (by omega)]; omega)
 ·exact ⟨_, _, Ev.step (fun k => XO k c) (Ev.no (decide_eq_false hl) (Ev.pure _)), (wrap255 _).1, (wrap255 _).2, ⟨h1, h2, h3⟩⟩
theorem Tk {a n : Int} (ha : 0 ≤ a) (hn : 0 < n) : 0 ≤ a.tmod n ∧ a.tmod n < n := by
 rw [Int.tmod_eq_emod_of_nonneg ha]
 exact ⟨Int.emod_nonneg _ (by omega), Int.emod_lt_of_pos _ hn⟩
theorem zM (c : Cur) (h : xg c) (n : Int) : ∃ (y : Int) (c' : Cur), Ev (fun k => zh k (c, n)) (y, c') ∧ 0 ≤ y ∧ (0 < n → y < n) ∧ xg c' := by
 by_cases h0 : n ≤ 0
 ·exact ⟨0, c, Ev.step (fun k => ff k c n) (Ev.yes (decide_eq_true h0) (Ev.pure _)), Int.le_refl _, fun h => by omega, h⟩
 ·have hn : 0 < n := by omega
  by_cases h1 : n ≤ 256
  ·obtain ⟨y, c', e, a1, a2, a3⟩ := gF c h
   have hb := Tk a1 hn
   exact ⟨_, _, Ev.step (fun k => ff k c n) (Ev.no (decide_eq_false h0) (Ev.yes (decide_eq_true h1) (Ev.bind e (Ev.yes (by simp; omega) (Ev.pure _))))), hb.1, fun _ => hb.2, a3⟩
  ·obtain ⟨y, c1, e, a1, a2, a3⟩ := gF c h
   obtain ⟨z, c2, f, b1, b2, b3⟩ := gF c1 a3
   obtain ⟨u, c3, g, d1, d2, d3⟩ := gF c2 b3
   obtain ⟨v, c4, i, f1, f2, f3⟩ := gF c3 d3
   have w1 : IntKind.i64.wrap (y * (16777216 : Int)) = y * 16777216 := zf (by omega) (by omega)
   have w2 : IntKind.i64.wrap (z * (65536 : Int)) = z * 65536 := zf (by omega) (by omega)
   have w3 : IntKind.i64.wrap (u * (256 : Int)) = u * 256 := zf (by omega) (by omega)
   have hnn : 0 ≤ IntKind.i64.wrap ((IntKind.i64.wrap ((IntKind.i64.wrap ((IntKind.i64.wrap (y * (16777216 : Int))) + (IntKind.i64.wrap (z * (65536 : Int))))) + (IntKind.i64.wrap (u * (256 : Int))))) + v) := by
    rw [w1, w2, w3, zf (x := y * 16777216 + z * 65536) (by omega) (by omega), zf (x := y * 16777216 + z * 65536 + u * 256) (by omega) (by omega), zf (by omega) (by omega)]
    omega
   have hb := Tk hnn hn
   exact ⟨_, _, Ev.step (fun k => ff k c n) (Ev.no (decide_eq_false h0) (Ev.no (decide_eq_false h1) (Ev.bind e (Ev.bind f (Ev.bind g (Ev.bind i (Ev.yes (by simp; omega) (Ev.pure _)))))))), hb.1, fun _ => hb.2, f3⟩
theorem bX (c : Cur) (h : xg c) (n : Int) : ∃ (b : Bool) (c' : Cur), Ev (fun k => ue k (c, n)) (b, c') ∧ xg c' := by
 obtain ⟨y, c', e, _, _, a3⟩ := zM c h n
 exact ⟨_, _, Ev.step (fun k => RU k c n) (Ev.bind e (Ev.pure _)), a3⟩
theorem XW (code : List Int) (hm : code.length ≤ 9223372036854775807) : ∀ (r : List Int) (i : Nat) (h : Int), code.drop i = r → ∃ h' : Int, Ev (fun k => fe k code h (i : Int)) (code, ((0 : Int), h'))
 | [], i, h, hr => by
   have a := zO hr
   exact ⟨h, Ev.step (fun k => j9 k _ _ _) (Ev.no a.g (Ev.pure _))⟩
 | x :: r, i, h, hr => by
   have a := zl hr (by rw [zd]; exact hm)
   by_cases h4 : (i : Int) < 4000
   ·obtain ⟨h', ih⟩ := XW code hm r (i + 1) _ a.next
    refine ⟨h', Ev.step (fun k => j9 k _ _ _) (Ev.yes a.g (Ev.yes (decide_eq_true h4) (Ev.yes a.z (Ev.yes a.g ?_))))⟩
    rw [a.w]
    exact ih
   ·exact ⟨h, Ev.step (fun k => j9 k _ _ _) (Ev.yes a.g (Ev.no (decide_eq_false h4) (Ev.pure _)))⟩
theorem Lp (code : List Int) (hm : code.length ≤ 9223372036854775807) : ∃ c : Cur, Ev (fun k => Sl k code) c ∧ xg c := by
 obtain ⟨h', e⟩ := XW code hm _ 0 (IntKind.i64.wrap ((2070 : Int) + (code.length : Int))) rfl
 exact ⟨_, Ev.step (fun k => Pb k code) e, hm, Int.le_refl _, by simp⟩
end Qq
namespace Qq
open Go Go.Vt Pt
set_option linter.unusedVariables false
set_option linter.unusedSimpArgs false
theorem wg (x lo hi : Int) : Ev (fun k => xc k (x, lo, hi)) (decide (lo ≤ x) && decide (x ≤ hi)) := by
 refine Ev.step (fun k => N2 k x lo hi) (Ev.ite (fun h => ?_) (fun h => ?_))
 ·have h' : lo ≤ x := by simpa using h
  exact Ev.some (by simp [h'])
 ·have h' : ¬ lo ≤ x := by simpa using h
  exact Ev.some (by simp [h'])
end Qq
namespace Qq
open Go Go.Vt Pt
set_option linter.unusedVariables false
set_option linter.unusedSimpArgs false
theorem XV (x : Int) (xs : List Int) (hm : xs.length ≤ maxLen) : ∀ (r : List Int) (i : Nat), xs.drop i = r → Ev (fun k => fd k x xs (xs.length : Int) (i : Int)) (r.contains x)
 | [], i, h => by
   have a := zO h
   refine Ev.step (fun k => ar k x xs _ i) ?_
   simp only [a.g, cond_false]
   exact Ev.pure _
 | y :: r, i, h => by
   have a := zl h hm
   refine Ev.step (fun k => ar k x xs _ i) ?_
   simp only [a.g, a.z, a.get, a.w, cond_true]
   refine Ev.ite (fun h => Ev.some ?_) (fun h => (XV x xs hm r (i + 1) a.next).to ?_)
   ·have : y = x := by simpa using h
    simp [this]
   ·have : ¬ y = x := by simpa using h
    have h2 : ¬ x = y := fun e => this e.symm
    simp [h2]
theorem Lo (xs : List Int) (x : Int) (hm : xs.length ≤ maxLen) : Ev (fun k => Sj k (xs, x)) (xs.contains x) :=
 Ev.step (fun k => Q9 k xs x) (XV x xs hm xs 0 rfl)
end Qq
namespace Qq
open Go Go.Vt Pt
set_option linter.unusedVariables false
set_option linter.unusedSimpArgs false
theorem MW {α : Type} {xs : List α} {i : Nat} {y : α} {r : List α} (h : xs.drop i = y :: r) : xs.take (i + 1) = xs.take i ++ [y] := by
 have lt : i < xs.length := by
  rcases Nat.lt_or_ge i xs.length with h1 | h1
  ·exact h1
  ·rw [List.drop_eq_nil_of_le h1] at h; cases h
 rw [List.drop_eq_getElem_cons lt] at h
 rw [List.take_succ_eq_append_getElem lt]
 injection h with h1 h2
 rw [h1]
theorem Qf : ∀ (n : Nat) (l : List Int), l.Nodup → (∀ x ∈ l, 0 ≤ x ∧ x < (n : Int)) → l.length ≤ n
 | 0, l, _, h => by
   cases l with
   | nil => simp
   | cons x l => have := h x (by simp); omega
 | n + 1, l, hd, h => by
   have h1 := Qf n (l.erase (n : Int)) (hd.erase _) (fun x hx => by
    have hx' := (hd.mem_erase_iff).1 hx
    have := h x hx'.2
    have : x ≠ (n : Int) := hx'.1
    omega)
   have h2 := List.length_erase (a := (n : Int)) (l := l)
   split at h2 <;> omega
end Qq
namespace Qq
open Go Go.Vt Pt
set_option linter.unusedVariables false
set_option linter.unusedSimpArgs false
def card (x : Int) : Int := if 0 ≤ x ∧ x ≤ 11 then x else if -12 ≤ x ∧ x ≤ -1 then -1 - x else -1
theorem Rc (x : Int) : -1 ≤ card x ∧ card x ≤ 11 := by unfold card; split; · omega
                                                       split <;> omega
theorem vt (x : Int) : Ev (fun k => fh k x) (card x) := by
 refine Ev.step (fun k => Ph k x) (Ev.bind (wg _ _ _) (Ev.ite (fun h => Ev.some ?_) (fun h => Ev.bind (wg _ _ _) (Ev.ite (fun h' => ?_) (fun h' => Ev.some ?_)))))
 ·have : 0 ≤ x ∧ x ≤ 11 := by simpa using h
  simp [card, this]
 ·have h1 : ¬ (0 ≤ x ∧ x ≤ 11) := by simp at h; omega
  have h2 : -12 ≤ x ∧ x ≤ -1 := by simpa using h'
  rw [zf (by omega) (by omega)]
  exact Ev.some (by unfold card; rw [if_neg h1, if_pos h2])
 ·have h1 : ¬ (0 ≤ x ∧ x ≤ 11) := by simp at h; omega
  have h2 : ¬ (-12 ≤ x ∧ x ≤ -1) := by simp at h'; omega
  unfold card; rw [if_neg h1, if_neg h2]
theorem xY (x : Int) (hx : In x) : Ev (fun k => vQ k x) (card x) := by
 obtain ⟨a, b⟩ := hx
 refine Ev.step (fun k => PD k x) ?_
 refine Ev.ite (fun h => ?_) (fun h => ?_)
 ·have h1 : x < 0 := by simpa using h
  rw [zf (by omega) (by omega)]
  have h2 : ¬ (0 ≤ x ∧ x ≤ 11) := by omega
  refine Ev.ite (fun h' => Ev.some ?_) (fun h' => Ev.some ?_)
  ·have h3 : ¬ (-12 ≤ x ∧ x ≤ -1) := by simp at h'; omega
   unfold card; rw [if_neg h2, if_neg h3]
  ·have h3 : (-12 ≤ x ∧ x ≤ -1) := by simp at h'; omega
   unfold card; rw [if_neg h2, if_pos h3]
 ·have h1 : ¬ x < 0 := by simpa using h
  have h3 : ¬ (-12 ≤ x ∧ x ≤ -1) := by omega
  refine Ev.ite (fun h' => Ev.some ?_) (fun h' => Ev.some ?_)
  ·have h2 : ¬ (0 ≤ x ∧ x ≤ 11) := by simp at h'; omega
   unfold card; rw [if_neg h2, if_neg h3]
  ·have h2 : (0 ≤ x ∧ x ≤ 11) := by simp at h'; omega
   unfold card; rw [if_pos h2]
def pk : List Int → List Int → Bool
 | _, [] => true
 | done, x :: r => decide (0 ≤ card x) && (!(done.contains (card x)) && pk (done ++ [card x]) r)
def zw (p : List Int) : Bool := pk [] p
theorem Nb : ∀ (r done : List Int), done.Nodup → pk done r = true → (done ++ r.map card).Nodup ∧ ∀ x ∈ r, 0 ≤ card x
 | [], done, hd, h => by simp [hd]
 | x :: r, done, hd, h => by
   unfold pk at h
   simp only [Bool.and_eq_true, decide_eq_true_eq, Bool.not_eq_true'] at h
   obtain ⟨h1, h3, h4⟩ := h
   have hx : card x ∉ done := by simpa using h3
   obtain ⟨k1, k2⟩ := Nb r (done ++ [card x]) (by
    rw [List.nodup_append]
    exact ⟨hd, by simp, fun a ha b hb e => by simp at hb; subst hb; subst e; exact hx ha⟩) h4
   refine ⟨by simpa using k1, fun y hy => ?_⟩
   rcases List.mem_cons.1 hy with rfl | hy
   ·exact h1
   ·exact k2 y hy
theorem yw {p : List Int} (h : zw p = true) : (p.map card).Nodup ∧ (∀ x ∈ p, 0 ≤ card x ∧ card x ≤ 11) ∧ p.length ≤ 12 := by
 obtain ⟨k1, k2⟩ := Nb p [] (by simp) h
 have k1' : (p.map card).Nodup := by simpa using k1
 have k3 := Qf 12 (p.map card) k1' (fun x hx => by
  obtain ⟨y, hy, rfl⟩ := List.mem_map.1 hx
  have := k2 y hy
  have := Rc y
  omega)
 exact ⟨k1', fun x hx => ⟨k2 x hx, (Rc x).2⟩, by simpa using k3⟩
theorem fV (xs : List Int) (hm : xs.length ≤ 12) : ∀ (r : List Int) (i : Nat) (done : List Int), xs.drop i = r → done.length = i → Ev (fun k => uI k xs (xs.length : Int) (i : Int) done) (pk done r)
 | [], i, done, h, hd => by
   have a := zO h
   refine Ev.step (fun k => fW k _ _ _ _) ?_
   simp only [a.g, cond_false]
   exact Ev.pure _
 | x :: r, i, done, h, hd => by
   have a := zl h (by rw [zd]; omega)
   have hlt := a.lt
   refine Ev.step (fun k => fW k _ _ _ _) ?_
   simp only [a.g, a.z, a.get, a.w, cond_true]
   unfold pk
   refine Ev.bind (vt x) (Ev.ite (fun c => Ev.some ?_) (fun c => Ev.bind (Lo done (card x) (by rw [zd]; omega)) (Ev.ite (fun c2 => Ev.some ?_) (fun c2 => Ev.yes (by rw [za]; simp; omega) ?_))))
   ·have : ¬ 0 ≤ card x := by simpa using c
    simp [this]
   ·simp only [c2, Bool.not_true, Bool.false_and, Bool.and_false]
   ·have e1 : decide (0 ≤ card x) = true := by simpa using c
    rw [e1, c2]
    exact fV xs hm r (i + 1) _ a.next (by simp [hd])
theorem Sp (p : List Int) (hm : p.length ≤ maxLen) : Ev (fun k => Y6 k p) (zw p) := by
 refine Ev.step (fun k => Sq k p) (Ev.ite (fun h => Ev.some ?_) (fun h => ?_))
 ·symm
  rw [Bool.eq_false_iff]
  intro hp
  have := (yw hp).2.2
  simp at h; omega
 ·exact fV p (by simp at h; omega) p 0 [] rfl rfl
def metL (done : List Int) : List Bool := (List.range 12).map fun (c : Nat) => done.contains (c : Int)
theorem Z8 (done : List Int) : (metL done).length = 12 := by simp [metL]
theorem KP (done : List Int) (c : Nat) (h : c < 12) (d : Bool) : (metL done).getD c d = done.contains (c : Int) := by
 simp [metL, List.getD, h]
theorem KO (done : List Int) (c : Nat) (h : c < 12) : (metL done).set c true = metL (done ++ [(c : Int)]) := by
 apply List.ext_getElem?
 intro x
 rw [List.getElem?_set]
 by_cases hx : x < 12
 ·by_cases e : c = x
  ·subst e; simp [metL, h]
  ·have : ¬ x = c := fun h => e h.symm
   simp [metL, hx, e, this]; intro h; omega
 ·rw [if_neg (by omega), List.getElem?_eq_none (by rw [Z8]; omega), List.getElem?_eq_none (by rw [Z8]; omega)]
theorem f8 (xs : List Int) (hm : xs.length ≤ maxLen) (hi : Ins xs) : ∀ (r : List Int) (i : Nat) (done : List Int), xs.drop i = r → Ev (fun k => uK k xs (xs.length : Int) (i : Int) (metL done)) (pk done r)
 | [], i, done, h => by
   have a := zO h
   refine Ev.step (fun k => f9 k _ _ _ _) ?_
   simp only [a.g, cond_false]
   exact Ev.pure _
 | x :: r, i, done, h => by
   have a := zl h hm
   refine Ev.step (fun k => f9 k _ _ _ _) ?_
   simp only [a.g, a.z, a.get, a.w, cond_true]
   unfold pk
   refine Ev.bind (xY x (hi x a.mem)) (Ev.ite (fun c => Ev.some ?_) (fun c => ?_))
   ·have : ¬ 0 ≤ card x := by simpa using c
    simp [this]
   ·have hc : 0 ≤ card x := by simpa using c
    have hc2 := (Rc x).2
    have en : card x = ((card x).toNat : Int) := by omega
    have g1 : decide (0 ≤ card x) = true := by simp [hc]
    have g2 : decide (card x < ((metL done).length : Int)) = true := by rw [Z8]; simp; omega
    have g3 : decide ((card x).toNat < (metL done).length) = true := by rw [Z8]; simp; omega
    have g4 : (Nat.beq (metL done).length 12 && true) = true := by rw [Z8]; rfl
    have g5 := KP done (card x).toNat (by omega) false
    rw [← en] at g5
    have g6 := KO done (card x).toNat (by omega)
    rw [← en] at g6
    simp only [g1, g2, g3, g4, g5, g6, cond_true, Bool.true_and]
    refine Ev.ite (fun c2 => Ev.some ?_) (fun c2 => ?_)
    ·rw [c2]; rfl
    ·rw [c2]
     exact f8 xs hm hi r (i + 1) _ a.next
theorem ve (p : List Int) (hm : p.length ≤ maxLen) (hi : Ins p) : Ev (fun k => vw k p) (zw p) :=
 Ev.step (fun k => SL k p) (f8 p hm hi p 0 [] rfl)
def posF (c : Int) : Nat → List Int → Int
 | _, [] => -1
 | i, y :: r => if card y = c then (i : Int) else posF c (i + 1) r
def pos (p : List Int) (c : Int) : Int := if c < 0 then -1 else posF c 0 p
theorem uX (c : Int) (xs : List Int) (hm : xs.length ≤ maxLen) (hc : c < 0) : ∀ (r : List Int) (i : Nat), xs.drop i = r → Ev (fun k => xq k c xs (xs.length : Int) (i : Int)) (-1)
 | [], i, h => by
   have a := zO h
   refine Ev.step (fun k => xQ k _ _ _ _) ?_
   simp only [a.g, cond_false]
   exact Ev.pure _
 | x :: r, i, h => by
   have a := zl h hm
   have ih := uX c xs hm hc r (i + 1) a.next
   refine Ev.step (fun k => xQ k _ _ _ _) ?_
   simp only [a.g, a.z, a.get, a.w, cond_true]
   exact Ev.bind (vt x) (Ev.ite (fun _ => Ev.no (by simp; omega) ih) (fun _ => ih))
theorem jM (c : Int) (xs : List Int) (hm : xs.length ≤ maxLen) (hc : 0 ≤ c) : ∀ (r : List Int) (i : Nat), xs.drop i = r → Ev (fun k => xq k c xs (xs.length : Int) (i : Int)) (posF c i r)
 | [], i, h => by
   have a := zO h
   refine Ev.step (fun k => xQ k _ _ _ _) ?_
   simp only [a.g, cond_false]
   exact Ev.pure _
 | x :: r, i, h => by
   have a := zl h hm
   have ih := jM c xs hm hc r (i + 1) a.next
   refine Ev.step (fun k => xQ k _ _ _ _) ?_
   simp only [a.g, a.z, a.get, a.w, cond_true]
   unfold posF
   refine Ev.bind (vt x) (Ev.ite (fun h => Ev.yes (by simp; omega) (Ev.some ?_)) (fun h => ih.to ?_))
   ·have : card x = c := by simpa using h
    rw [if_pos this]
   ·have : ¬ card x = c := by simpa using h
    rw [if_neg this]
theorem uZ (p : List Int) (c : Int) (hm : p.length ≤ maxLen) : Ev (fun k => uh k (p, c)) (pos p c) := by
 refine Ev.step (fun k => Vo k p c) ?_
 unfold pos
 by_cases hc : c < 0
 ·rw [if_pos hc]; exact uX c p hm hc p 0 rfl
 ·rw [if_neg hc]; exact jM c p hm (by omega) p 0 rfl
theorem bu (c : Int) (xs : List Int) (hm : xs.length ≤ maxLen) (hi : Ins xs) : ∀ (r : List Int) (i : Nat), xs.drop i = r → Ev (fun k => zv k xs c (xs.length : Int) (i : Int)) (posF c i r)
 | [], i, h => by
   have a := zO h
   refine Ev.step (fun k => yk k _ _ _ _) ?_
   simp only [a.g, cond_false]
   exact Ev.pure _
 | x :: r, i, h => by
   have a := zl h hm
   have ih := bu c xs hm hi r (i + 1) a.next
   refine Ev.step (fun k => yk k _ _ _ _) ?_
   simp only [a.g, a.z, a.get, a.w, cond_true]
   unfold posF
   have h1 : Ev (fun k => gh k (x, c)) (card x == c) := Ev.step (fun k => Xi k x c) (Ev.bind (xY x (hi x a.mem)) (Ev.pure _))
   refine Ev.bind h1 (Ev.ite (fun h => Ev.some ?_) (fun h => ih.to ?_))
   ·have : card x = c := by simpa using h
    rw [if_pos this]
   ·have : ¬ card x = c := by simpa using h
    rw [if_neg this]
theorem bt (p : List Int) (c : Int) (hm : p.length ≤ maxLen) (hi : Ins p) : Ev (fun k => jT k (p, c)) (pos p c) := by
 refine Ev.step (fun k => Uj k p c) ?_
 unfold pos
 refine Ev.ite (fun h => Ev.some ?_) (fun h => Ev.bind (Ev.step (fun k => xJ k p c) (bu c p hm hi p 0 rfl)) (Ev.some ?_))
 ·have : c < 0 := by simpa using h
  rw [if_pos this]
 ·have : ¬ c < 0 := by simpa using h
  rw [if_neg this]
def U2 (p q : List Int) : Bool := zw p && (zw q && (p.length == q.length && p.all fun x => decide (0 ≤ pos q (card x))))
def noPos (q : List Int) : Nat → List Int → Int
 | _, [] => -1
 | i, x :: r => if pos q (card x) < 0 then (i : Int) else noPos q (i + 1) r
theorem Qg (q : List Int) : ∀ (r : List Int) (i : Nat), (!(decide (noPos q i r ≥ 0))) = r.all fun x => decide (0 ≤ pos q (card x))
 | [], i => by simp [noPos]
 | x :: r, i => by
   unfold noPos
   by_cases h : pos q (card x) < 0
   ·rw [if_pos h]
    have : ¬ 0 ≤ pos q (card x) := by omega
    simp [this]
   ·rw [if_neg h, Qg q r (i + 1)]
    have : 0 ≤ pos q (card x) := by omega
    simp [this]
theorem bC (q xs : List Int) (hm : xs.length ≤ maxLen) (hi : Ins xs) (hq : q.length ≤ maxLen) (hiq : Ins q) : ∀ (r : List Int) (i : Nat), xs.drop i = r → Ev (fun k => zq k xs q (xs.length : Int) (i : Int)) (noPos q i r)
 | [], i, h => by
   have a := zO h
   refine Ev.step (fun k => zZ k _ _ _ _) ?_
   simp only [a.g, cond_false]
   exact Ev.pure _
 | x :: r, i, h => by
   have a := zl h hm
   have ih := bC q xs hm hi hq hiq r (i + 1) a.next
   refine Ev.step (fun k => zZ k _ _ _ _) ?_
   simp only [a.g, a.z, a.get, a.w, cond_true]
   unfold noPos
   have h1 : Ev (fun k => vB k (x, q)) (decide (pos q (card x) < 0)) := Ev.step (fun k => al k x q) (Ev.bind (xY x (hi x a.mem)) (Ev.bind (bt q _ hq hiq) (Ev.pure _)))
   refine Ev.bind h1 (Ev.ite (fun h => Ev.some ?_) (fun h => ih.to ?_))
   ·have : pos q (card x) < 0 := by simpa using h
    rw [if_pos this]
   ·have : ¬ pos q (card x) < 0 := by simpa using h
    rw [if_neg this]
theorem Yw (p q : List Int) (hp : p.length ≤ maxLen) (hip : Ins p) (hq : q.length ≤ maxLen) (hiq : Ins q) : Ev (fun k => jo k (p, q)) (U2 p q) := by
 unfold U2
 refine Ev.step (fun k => Yx k p q) (Ev.bind (ve p hp hip) (Ev.ite (fun h => Ev.some ?_) (fun h => Ev.bind (ve q hq hiq) (Ev.ite (fun h2 => Ev.some ?_) (fun h2 => Ev.ite (fun h3 => Ev.some ?_) (fun h3 => ?_))))))
 ·have : zw p = false := by simpa using h
  rw [this]; rfl
 ·have : zw q = false := by simpa using h2
  rw [this]; simp
 ·have : (p.length == q.length) = false := by simp at h3 ⊢; omega
  rw [this]; simp
 ·have e1 : zw p = true := by simpa using h
  have e2 : zw q = true := by simpa using h2
  have e3 : (p.length == q.length) = true := by simp at h3 ⊢; omega
  rw [e1, e2, e3, ← Qg q p 0]
  exact Ev.bind (Ev.step (fun k => xb k p q) (Ev.bind (Ev.step (fun k => xw k p q) (bC q p hp hip hq hiq p 0 rfl)) (Ev.pure _))) (Ev.some (by simp))
end Qq
namespace Qq
open Go Go.Vt Pt
set_option linter.unusedVariables false
set_option linter.unusedSimpArgs false
def bits : Nat → Nat → List Bool
 | 0, _ => []
 | n + 1, w => (w % 2 == 1) :: bits n (w / 2)
theorem Rd (w i : Nat) (hi : i < 64) (hw : w < 9223372036854775808) : IntKind.i64.wrap (((BitVec.ofInt IntKind.i64.bits (((w : Int)).fdiv (2 ^ (min ((i : Int)).toNat IntKind.i64.bits))) &&& BitVec.ofInt IntKind.i64.bits (1 : Int)).toNat : Int)) = ((w / 2 ^ i % 2 : Nat) : Int) := by
 have hb : IntKind.i64.bits = 64 := by decide
 rw [hb, Int.toNat_natCast, Nat.min_eq_left (by omega)]
 have e1 : ((w : Int)).fdiv (2 ^ i) = ((w / 2 ^ i : Nat) : Int) := by
  rw [Int.fdiv_eq_ediv_of_nonneg _ (by exact Int.le_of_lt (Int.pow_pos (by decide)))]
  norm_cast
 have e2 : (BitVec.ofInt 64 ((w / 2 ^ i : Nat) : Int) &&& BitVec.ofInt 64 (1 : Int)).toNat = w / 2 ^ i % 2 := by
  have h1 : (1 : Int) = ((1 : Nat) : Int) := rfl
  rw [h1, BitVec.ofInt_natCast, BitVec.ofInt_natCast, BitVec.toNat_and, BitVec.toNat_ofNat, BitVec.toNat_ofNat]
  have hlt : w / 2 ^ i < 2 ^ 64 := by
   have := Nat.div_le_self w (2 ^ i)
   omega
  rw [Nat.mod_eq_of_lt hlt]
  exact Nat.and_one_is_mod _
 rw [e1, e2, zf (by omega) (by omega)]
def upTo (n : Nat) : List Int := (List.range n).map fun (i : Nat) => (i : Int)
theorem T5 (n : Nat) : (upTo n).length = n := by simp [upTo]
theorem MU (n : Nat) : upTo (n + 1) = upTo n ++ [(n : Int)] := by simp [upTo, List.range_succ]
end Qq
namespace Qq
open Go Go.Vt Pt
set_option linter.unusedVariables false
set_option linter.unusedSimpArgs false
theorem fZ (n : Nat) (hn : n ≤ 12) : ∀ (m i : Nat) (out : List Int) (c : Cur), i + m = n → out.length = i → out.Perm (upTo i) → xg c →
 ∃ (p : List Int) (c' : Cur), Ev (fun k => wY k (n : Int) (i : Int) out c.1 c.2.1 c.2.2) (p, c') ∧ p.Perm (upTo n) ∧ xg c'
 | 0, i, out, c, h, hl, hp, hc => by
   have hi : i = n := by omega
   subst hi
   exact ⟨out, c, Ev.step (fun k => jK k _ _ _ _ _ _) (Ev.no (decide_eq_false (by omega)) (Ev.pure _)), hp, hc⟩
 | m + 1, i, out, c, h, hl, hp, hc => by
   have hw : IntKind.i64.wrap ((i : Int) + (1 : Int)) = ((i + 1 : Nat) : Int) := by rw [zf (by omega) (by omega)]; simp
   obtain ⟨y, c1, e, a1, a2, a3⟩ := zM c hc ((i + 1 : Nat) : Int)
   have hy := a2 (by omega)
   obtain ⟨j, rfl⟩ : ∃ j : Nat, y = (j : Int) := ⟨y.toNat, by omega⟩
   have hj : j < i + 1 := by omega
   have hvl : (out ++ [(i : Int)]).length = i + 1 := by simp [hl]
   have hi' : i < (out ++ [(i : Int)]).length := by omega
   have hj' : j < (out ++ [(i : Int)]).length := by omega
   have hvi : (out ++ [(i : Int)])[i] = (i : Int) := by rw [List.getElem_append_right (by omega)]; simp
   have hgd : (out ++ [(i : Int)]).getD j 0 = (out ++ [(i : Int)])[j] := by rw [List.getD, List.getElem?_eq_getElem hj']; rfl
   have hperm := List.set_set_perm hi' hj'
   rw [hvi] at hperm
   have hperm2 : (((out ++ [(i : Int)]).set i ((out ++ [(i : Int)]).getD j 0)).set j (i : Int)).Perm (upTo (i + 1)) := by
    rw [hgd, MU]
    exact hperm.trans (hp.append_right _)
   obtain ⟨p, c2, e2, b1, b2⟩ := fZ n hn m (i + 1) _ c1 (by omega) (by simp [hl]) hperm2 a3
   refine ⟨p, c2, Ev.step (fun k => jK k _ _ _ _ _ _) (Ev.yes (decide_eq_true (by omega)) ?_), b1, b2⟩
   rw [hw]
   refine Ev.bind e ?_
   simp only [Int.toNat_natCast]
   refine Ev.yes (by rw [za]; simp; omega) (Ev.yes (by simp) (Ev.yes (by rw [hvl]; simp; omega) (Ev.yes (by rw [hvl]; simp; omega) (Ev.yes (by simp) (Ev.yes (by rw [hvl]; simp; omega) (Ev.yes (by rw [hvl]; simp) (Ev.yes (by simp) (Ev.yes (by simp [hl]; omega) (Ev.yes (by simp [hl]; omega) e2)))))))))
theorem SC (c : Cur) (hc : xg c) (n : Nat) (hn : n ≤ 12) : ∃ (p : List Int) (c' : Cur), Ev (fun k => cK k (c, (n : Int))) (p, c') ∧ p.Perm (upTo n) ∧ xg c' := by
 obtain ⟨p, c', e, h1, h2⟩ := fZ n hn n 0 [] c (by omega) rfl (by simp [upTo]) hc
 exact ⟨p, c', Ev.step (fun k => Vj k _ _) e, h1, h2⟩
theorem Jv : ∀ (r done : List Int), (done ++ r.map card).Nodup → (∀ x ∈ r, 0 ≤ card x) → pk done r = true
 | [], done, _, _ => rfl
 | x :: r, done, hn, h0 => by
   unfold pk
   have hx : card x ∉ done := fun hm => by
    rw [List.map_cons, List.nodup_append] at hn
    exact hn.2.2 _ hm _ (by simp) rfl
   have hc : done.contains (card x) = false := by simpa using hx
   rw [hc, Jv r (done ++ [card x]) (by simpa using hn) (fun y hy => h0 y (List.mem_cons_of_mem _ hy))]
   simp [h0 x (by simp)]
theorem Pl {p : List Int} (hn : (p.map card).Nodup) (h0 : ∀ x ∈ p, 0 ≤ card x) : zw p = true := Jv p [] (by simpa using hn) h0
structure PkI (q p : List Int) : Prop where
 m : p.map card = q
 b : ∀ x ∈ p, -12 ≤ x ∧ x ≤ 11
theorem Kl {x : Int} (h1 : -12 ≤ x) (h2 : x ≤ 11) : card (-1 - x) = card x := by
 unfold card
 by_cases h : 0 ≤ x
 ·rw [if_neg (by omega), if_pos (by omega), if_pos (by omega)]; omega
 ·rw [if_pos (by omega), if_neg (by omega), if_pos (by omega)]
theorem PkI.flip {q p : List Int} (h : PkI q p) {i : Nat} (hi : i < p.length) : PkI q (p.set i (-1 - p.getD i 0)) := by
 have hg : p.getD i 0 = p[i] := by rw [List.getD, List.getElem?_eq_getElem hi]; rfl
 have hb := h.b p[i] (List.getElem_mem hi)
 refine ⟨?_, fun x hx => ?_⟩
 ·rw [hg, List.map_set, Kl hb.1 hb.2, ← h.m]
  have : card p[i] = (p.map card)[i]'(by simpa using hi) := by simp
  rw [this, List.set_getElem_self]
 ·rcases List.mem_or_eq_of_mem_set hx with h1 | h1
  ·exact h.b x h1
  ·rw [h1, hg]; omega
theorem fr (q : List Int) (n : Nat) (hn : n ≤ 12) : ∀ (m i : Nat) (p : List Int) (c : Cur), i + m = n → p.length = n → PkI q p → xg c →
 ∃ (p' : List Int) (c' : Cur), Ev (fun k => ud k (n : Int) (i : Int) p c.1 c.2.1 c.2.2) (p', c') ∧ PkI q p' ∧ p'.length = n ∧ xg c'
 | 0, i, p, c, h, hl, hp, hc => by
   exact ⟨p, c, Ev.step (fun k => uT k _ _ _ _ _ _) (Ev.no (decide_eq_false (by omega)) (Ev.pure _)), hp, hl, hc⟩
 | m + 1, i, p, c, h, hl, hp, hc => by
   have hw : IntKind.i64.wrap ((i : Int) + (1 : Int)) = ((i + 1 : Nat) : Int) := by rw [zf (by omega) (by omega)]; simp
   obtain ⟨b, c1, e, a3⟩ := bX c hc 3
   have hi : i < p.length := by omega
   cases b with
   | true =>
     have hf := hp.flip hi
     have hg : p.getD i 0 = p[i] := by rw [List.getD, List.getElem?_eq_getElem hi]; rfl
     have hb := hp.b p[i] (List.getElem_mem hi)
     obtain ⟨p', c2, e2, b1, b2, b3⟩ := fr q n hn m (i + 1) _ c1 (by omega) (by simpa using hl) hf a3
     refine ⟨p', c2, Ev.step (fun k => uT k _ _ _ _ _ _) (Ev.yes (decide_eq_true (by omega)) (Ev.bind e ?_)), b1, b2, b3⟩
     simp only [Int.toNat_natCast]
     have hw2 : IntKind.i64.wrap ((-1 : Int) - p.getD i 0) = -1 - p.getD i 0 := by rw [hg]; exact zf (by omega) (by omega)
     rw [hw, hw2]
     exact Ev.yes rfl (Ev.yes (by simp) (Ev.yes (by simp; omega) (Ev.yes (by simp; omega) (Ev.yes (by simp) (Ev.yes (by simp; omega) (Ev.yes (by simp; omega) e2))))))
   | false =>
     obtain ⟨p', c2, e2, b1, b2, b3⟩ := fr q n hn m (i + 1) p c1 (by omega) hl hp a3
     refine ⟨p', c2, Ev.step (fun k => uT k _ _ _ _ _ _) (Ev.yes (decide_eq_true (by omega)) (Ev.bind e ?_)), b1, b2, b3⟩
     rw [hw]
     exact Ev.no rfl e2
theorem PZ {n : Nat} {x : Int} (h : x ∈ upTo n) : 0 ≤ x ∧ x < n := by
 unfold upTo at h
 obtain ⟨i, hi, rfl⟩ := List.mem_map.1 h
 have := List.mem_range.1 hi
 omega
theorem NI (n : Nat) : (upTo n).Nodup := by
 unfold upTo
 exact List.Pairwise.map _ (fun a b h e => h (by omega)) List.nodup_range
theorem KK {n : Nat} (hn : n ≤ 12) {p : List Int} (h : p.Perm (upTo n)) : PkI p p := by
 have hb : ∀ x ∈ p, 0 ≤ x ∧ x ≤ 11 := fun x hx => by have := PZ (h.mem_iff.1 hx); omega
 refine ⟨?_, fun x hx => by have := hb x hx; omega⟩
 conv => rhs; rw [← List.map_id p]
 exact List.map_congr_left fun x hx => by unfold card; rw [if_pos (hb x hx)]; rfl
structure Drawn (most : Nat) (p : List Int) : Prop where
 ok : zw p = true
 pos : 1 ≤ p.length
 le : p.length ≤ most
theorem TF (c : Cur) (hc : xg c) (most : Nat) (h1 : 1 ≤ most) (h12 : most ≤ 12) : ∃ (p : List Int) (c' : Cur), Ev (fun k => cM k (c, (most : Int))) (p, c') ∧ Drawn most p ∧ xg c' := by
 obtain ⟨y, c1, e1, a1, a2, a3⟩ := zM c hc (most : Int)
 have hy := a2 (by omega)
 obtain ⟨j, rfl⟩ : ∃ j : Nat, y = (j : Int) := ⟨y.toNat, by omega⟩
 have hw : IntKind.i64.wrap ((1 : Int) + (j : Int)) = ((j + 1 : Nat) : Int) := by rw [zf (by omega) (by omega)]; omega
 obtain ⟨p, c2, e2, b1, b2⟩ := SC c1 a3 (j + 1) (by omega)
 have hl : p.length = j + 1 := by rw [b1.length_eq, T5]
 obtain ⟨b, c3, e3, d3⟩ := bX c2 b2 2
 have hI := KK (by omega) b1
 have hnd : p.Nodup := b1.nodup_iff.2 (NI _)
 have h0 : ∀ x ∈ p, 0 ≤ x := fun x hx => (PZ (b1.mem_iff.1 hx)).1
 have fin : ∀ p', PkI p p' → p'.length = j + 1 → Drawn most p' := fun p' hp' hl' => by
  refine ⟨Pl (by rw [hp'.m]; exact hnd) (fun x hx => h0 _ ?_), by omega, by omega⟩
  rw [← hp'.m]; exact List.mem_map_of_mem hx
 cases b with
 | true =>
   obtain ⟨p', c4, e4, f1, f2, f3⟩ := fr p (j + 1) (by omega) (j + 1) 0 p c3 (by omega) hl hI d3
   refine ⟨p', c4, Ev.step (fun k => XI k _ _) (Ev.bind e1 ?_), fin p' f1 f2, f3⟩
   dsimp only
   rw [hw]
   refine Ev.bind e2 (Ev.bind e3 (Ev.yes rfl ?_))
   dsimp only
   rw [hl]
   exact e4
 | false =>
   refine ⟨p, c3, Ev.step (fun k => XI k _ _) (Ev.bind e1 ?_), fin p hI hl, d3⟩
   dsimp only
   rw [hw]
   exact Ev.bind e2 (Ev.bind e3 (Ev.no rfl (Ev.pure _)))
end Qq
namespace Qq
open Go Go.Vt Pt
set_option linter.unusedVariables false
set_option linter.unusedSimpArgs false
def vb (n : Int) (m : Int × Int) : Bool :=
 decide (1 ≤ n) && (decide (n ≤ 12) && (decide (0 ≤ m.2) &&
  (if m.1 = 1 then decide (m.2 ≤ n) else if m.1 = 2 then decide (m.2 ≤ n) else if m.1 = 3 then decide (m.2 ≤ n) else
   if m.1 = 4 then decide (m.2 ≤ 1) else if m.1 = 5 then decide (m.2 ≤ 1) else if m.1 = 7 then decide (m.2 ≤ 1) else
   if m.1 = 6 then m.2 == 0 else if m.1 = 8 then decide (m.2 < n) else if m.1 = 9 then decide (m.2 < n) else false)))
theorem PA (n : Int) (m : Int × Int) : Ev (fun k => SM k (n, m)) (vb n m) := by
 obtain ⟨a, b⟩ := m
 refine Ev.step (fun k => PB k n (a, b)) ?_
 unfold vb
 refine Ev.ite (fun h => Ev.some ?_) (fun h => ?_)
 ·have : ¬ 1 ≤ n := by simpa using h
  simp [this]
 have h1 : 1 ≤ n := by simpa using h
 refine Ev.ite (fun h => Ev.some ?_) (fun h => ?_)
 ·have : ¬ n ≤ 12 := by simpa using h
  simp [this]
 have h2 : n ≤ 12 := by simpa using h
 refine Ev.ite (fun h => Ev.some ?_) (fun h => ?_)
 ·have : ¬ 0 ≤ b := by simpa using h
  simp [this]
 have h3 : 0 ≤ b := by simpa using h
 clear h
 simp only [h1, h2, h3, decide_true, Bool.true_and]
 iterate 9 (refine Ev.ite (fun h => ?_) (fun h => ?_); · exact Ev.some (by simp at *; simp [*]))
 exact Ev.some (by simp at *; simp [*])
theorem Pf (n : Int) (m : Int × Int) : Ev (fun k => Sr k (n, m)) (vb n m) := by
 obtain ⟨a, b⟩ := m
 refine Ev.step (fun k => Pg k n (a, b)) (Ev.bind (wg _ _ _) ?_)
 unfold vb
 refine Ev.ite (fun h => ?_) (fun h => ?_)
 ·exact Ev.some (by rw [Bool.eq_iff_iff]; simp at *; omega)
 have hn : 1 ≤ n ∧ n ≤ 12 := by simpa using h
 iterate 6 (refine Ev.ite (fun h => ?_) (fun h => ?_); · exact Ev.bind (wg _ _ _) (Ev.some (by rw [Bool.eq_iff_iff]; simp at *; try simp [*]; try (intros; omega))))
 refine Ev.ite (fun h => ?_) (fun h => ?_)
 ·exact Ev.some (by rw [Bool.eq_iff_iff]; simp at *; try simp [*]; try (intros; omega))
 rw [zf (by omega) (by omega)]
 iterate 2 (refine Ev.ite (fun h => ?_) (fun h => ?_); · exact Ev.bind (wg _ _ _) (Ev.some (by rw [Bool.eq_iff_iff]; simp at *; try simp [*]; try (intros; omega))))
 exact Ev.some (by rw [Bool.eq_iff_iff]; simp at *; try simp [*]; try (intros; omega))
def zx (n : Int) (s : Int × (Int × Int) × Int) : Bool :=
 decide (1 ≤ n) && (decide (n ≤ 12) &&
  (if s.1 = 1 then vb n s.2.1 && s.2.2 == 0 else
   if s.1 = 2 then s.2.1.1 == 0 && (s.2.1.2 == 0 && (decide (0 ≤ s.2.2) && (decide (s.2.2 ≤ 4) && ((!(s.2.2 == 3) || decide (2 ≤ n)) && (!(s.2.2 == 2) || decide (n ≤ 7)))))) else
   if s.1 = 3 then s.2.1.1 == 0 && (s.2.1.2 == 0 && (decide (0 ≤ s.2.2) && decide (s.2.2 < n))) else false))
theorem Uh (n : Int) (s : Int × (Int × Int) × Int) : Ev (fun k => WK k (n, s)) (zx n s) := by
 obtain ⟨t, ⟨a, b⟩, c⟩ := s
 refine Ev.step (fun k => Pz k n (t, (a, b), c)) ?_
 unfold zx
 refine Ev.ite (fun h => Ev.some ?_) (fun h => ?_)
 ·have : ¬ 1 ≤ n := by simpa using h
  simp [this]
 have h1 : 1 ≤ n := by simpa using h
 refine Ev.ite (fun h => Ev.some ?_) (fun h => ?_)
 ·have : ¬ n ≤ 12 := by simpa using h
  simp [this]
 have h2 : n ≤ 12 := by simpa using h
 clear h
 simp only [h1, h2, decide_true, Bool.true_and]
 refine Ev.ite (fun h => ?_) (fun h => ?_)
 ·have e : t = 1 := by simpa using h
  subst e
  exact Ev.bind (PA n (a, b)) (Ev.ite (fun h => Ev.some (by simp at *; simp [*])) (fun h => Ev.some (by simp at *; simp [*])))
 have t1 : ¬ t = 1 := by simpa using h
 simp only [t1, if_false]
 repeat (first | (refine Ev.ite (fun h => ?_) (fun h => ?_)) | focus (refine Ev.some ?_; simp_all; done) | focus (refine Ev.some ?_; simp_all; omega) | focus (refine Ev.some ?_; rw [Bool.eq_iff_iff]; simp at *; omega))
theorem Qm (n c : Int) : Ev (fun k => Zg k (n, c)) (decide (0 ≤ c) && (decide (c ≤ 4) && ((!(c == 3) || decide (2 ≤ n)) && (!(c == 2) || decide (n ≤ 7))))) := by
 refine Ev.step (fun k => UW k n c) (Ev.bind (wg _ _ _) ?_)
 repeat (first | (refine Ev.ite (fun h => ?_) (fun h => ?_)) | focus (refine Ev.some ?_; simp_all; done) | focus (refine Ev.some ?_; simp_all; omega) | focus (refine Ev.some ?_; rw [Bool.eq_iff_iff]; simp at *; omega))
theorem Pd (n : Int) (s : Int × (Int × Int) × Int) : Ev (fun k => So k (n, s)) (zx n s) := by
 obtain ⟨t, ⟨a, b⟩, c⟩ := s
 refine Ev.step (fun k => Pe k n (t, (a, b), c)) (Ev.bind (wg _ _ _) ?_)
 unfold zx
 refine Ev.ite (fun h => Ev.some ?_) (fun h => ?_)
 ·rcases Int.lt_or_le n 1 with h1 | h1
  ·have : ¬ 1 ≤ n := by omega
   simp [this]
  ·have : ¬ n ≤ 12 := by simp at h; omega
   simp [this]
 have hn : 1 ≤ n ∧ n ≤ 12 := by simpa using h
 clear h
 simp only [hn.1, hn.2, decide_true, Bool.true_and]
 refine Ev.ite (fun h => ?_) (fun h => ?_)
 ·have e : t = 1 := by simpa using h
  subst e
  exact Ev.bind (Pf n (a, b)) (Ev.ite (fun h => Ev.some (by simp at *; simp [*])) (fun h => Ev.some (by simp at *; simp [*])))
 have t1 : ¬ t = 1 := by simpa using h
 simp only [t1, if_false]
 clear h
 rw [zf (by omega) (by omega)]
 refine Ev.ite (fun h => ?_) (fun h => ?_)
 ·have e : t = 2 := by simpa using h
  subst e
  refine Ev.ite (fun h => ?_) (fun h => Ev.some ?_)
  ·exact Ev.bind (Qm n c) (Ev.some (by simp at *; simp [*]))
  ·cases ha : (a == 0) <;> cases hb : (b == 0) <;> simp_all
 have t2 : ¬ t = 2 := by simpa using h
 simp only [t2, if_false]
 clear h
 refine Ev.ite (fun h => ?_) (fun h => ?_)
 ·have e : t = 3 := by simpa using h
  subst e
  refine Ev.ite (fun h => ?_) (fun h => Ev.some ?_)
  ·refine Ev.bind (wg _ _ _) (Ev.some ?_)
   have e2 : decide (c ≤ n - 1) = decide (c < n) := by rw [Bool.eq_iff_iff]; simp; omega
   simp at h
   simp [h, e2]
  ·cases ha : (a == 0) <;> cases hb : (b == 0) <;> simp_all
 ·have t3 : ¬ t = 3 := by simpa using h
  exact Ev.some (by simp [t3])
end Qq
namespace Qq
open Go Go.Vt Pt
set_option linter.unusedVariables false
set_option linter.unusedSimpArgs false
theorem yL (xs : List Int) (hm : xs.length ≤ 1048576) : Ev (fun k => zA k xs) xs := by
 refine Ev.step (fun k => Zf k xs) (Ev.ite (fun h => ?_) (fun h => ?_))
 ·exact Ev.yes (by rw [za]; simp; omega) (Ev.some (by simp))
 ·have : xs = [] := by simpa using h
  subst this
  exact Ev.both (Ev.pure _) (Ev.yes (by simp) (Ev.some rfl))
end Qq
namespace Qq
open Go Go.Vt Pt
set_option linter.unusedVariables false
set_option linter.unusedSimpArgs false
set_option linter.unnecessarySimpa false
theorem xh {α : Type} (l : List α) : l.take ((l.length : Int)).toNat = l := by simp
def turn (x : Int) : Int := if card x < 0 then x else -1 - x
theorem J1 {x : Int} (h : In x) : In (turn x) := by
 unfold turn
 unfold In at *
 split
 ·exact h
 ·omega
theorem ZY (x : Int) (hx : In x) : Ev (fun k => bS k x) (turn x) := by
 have h1 := hx.1
 have h2 := hx.2
 refine Ev.step (fun k => Sn k x) (Ev.bind (vt x) ?_)
 rw [zf (by omega) (by omega)]
 refine Ev.ite (fun h => Ev.some ?_) (fun h => Ev.some ?_)
 ·have : card x < 0 := by simpa using h
  simp [turn, this]
 ·have : ¬ card x < 0 := by simpa using h
  simp only [turn, if_neg this]
theorem Yu (x : Int) (hx : In x) : Ev (fun k => b5 k x) (turn x) := by
 have h1 := hx.1
 have h2 := hx.2
 refine Ev.step (fun k => SK k x) (Ev.bind (xY x hx) ?_)
 rw [zf (by omega) (by omega)]
 refine Ev.ite (fun h => Ev.some ?_) (fun h => Ev.some ?_)
 ·have : card x < 0 := by simpa using h
  simp [turn, this]
 ·have : ¬ card x < 0 := by simpa using h
  simp only [turn, if_neg this]
theorem MX {α : Type} (p : List α) (i : Nat) (h : i < p.length) : (p.take (i + 1)).reverse = p[i] :: (p.take i).reverse := by
 rw [List.take_add_one, List.getElem?_eq_getElem h]; simp
theorem cF (p : List Int) (hp : p.length ≤ 12) (hi : Ins p) (n : Nat) (hn : n ≤ p.length) (up : Bool) : ∀ (i : Nat) (out : List Int), i ≤ n → out.length + i ≤ 12 →
 Ev (fun k => uc k p (n : Int) up ((i : Int) - 1) out) (out ++ (p.take i).reverse.map (fun x => bif up then turn x else x) ++ p.drop n)
 | 0, out, h, ho => by
   refine Ev.step (fun k => cG k _ _ _ _ _) ?_
   simp only [xh, Int.toNat_natCast]
   refine Ev.no (by simp) (Ev.yes (by (first | (simp [za]; done) | (simp [za]; omega) | omega)) (Ev.yes (by (first | (simp [za]; done) | (simp [za]; omega) | omega)) (Ev.yes (by (first | (simp [za]; done) | (simp [za]; omega) | omega)) (Ev.yes (by (first | (simp [za]; done) | (simp [za]; omega) | omega)) (Ev.some ?_)))))
   simp
 | i + 1, out, h, ho => by
   have hlt : i < p.length := by omega
   have e0 : ((i + 1 : Nat) : Int) - 1 = (i : Int) := by omega
   have hg : p.getD (i : Int).toNat 0 = p[i] := by simp [List.getD, hlt]
   have hin : In p[i] := hi _ (List.getElem_mem hlt)
   refine Ev.step (fun k => cG k _ _ _ _ _) ?_
   simp only [e0, hg, zf (x := (i : Int) - 1) (by omega) (by omega)]
   have ih := fun o (ho : o.length + i ≤ 12) => cF p hp hi n hn up i o (by omega) ho
   rw [MX p i hlt]
   cases up with
   | true =>
     refine Ev.yes (by simp) (Ev.yes rfl (Ev.yes (by simp) (Ev.yes (by (first | (simp [za]; done) | (simp [za]; omega) | omega)) (Ev.bind (ZY _ hin) (Ev.yes (by (first | (simp [za]; done) | (simp [za]; omega) | omega)) ?_)))))
     exact (ih _ (by simp; omega)).to (by simp)
   | false =>
     refine Ev.yes (by simp) (Ev.no rfl (Ev.yes (by simp) (Ev.yes (by (first | (simp [za]; done) | (simp [za]; omega) | omega)) (Ev.yes (by (first | (simp [za]; done) | (simp [za]; omega) | omega)) ?_))))
     exact (ih _ (by simp; omega)).to (by simp)
theorem cI (p : List Int) (hp : p.length ≤ 12) (hi : Ins p) (n : Nat) (hn : n ≤ p.length) (up : Bool) :
 Ev (fun k => cJ k (p, (n : Int), up)) ((p.take n).reverse.map (fun x => bif up then turn x else x) ++ p.drop n) := by
 refine Ev.step (fun k => RT k _ _ _) ?_
 rw [zf (x := (n : Int) - 1) (by omega) (by omega)]
 exact (cF p hp hi n hn up n [] (Nat.le_refl _) (by simp; omega)).to (by simp)
def fz : Bool → List Int → List Int → List Int
 | _, [], [] => []
 | f, x :: a, [] => x :: fz (!f) a []
 | f, [], y :: b => y :: fz (!f) [] b
 | true, x :: a, y :: b => x :: fz false a (y :: b)
 | false, x :: a, y :: b => y :: fz true (x :: a) b
termination_by _ a b => a.length + b.length
theorem parity (k : Int) (hk : k = 0 ∨ k = 1) (n : Nat) : (((n + 1 : Nat) : Int).tmod 2 == k) = !(((n : Nat) : Int).tmod 2 == k) := by
 rw [show ((n + 1 : Nat) : Int) = (n : Int) + 1 by omega, Int.tmod_eq_emod_of_nonneg (by omega), Int.tmod_eq_emod_of_nonneg (by omega)]
 by_cases h : (n : Int) % 2 = k
 ·have h2 : ¬ ((n : Int) + 1) % 2 = k := by omega
  rw [beq_iff_eq.2 h, beq_eq_false_iff_ne.2 h2]; rfl
 ·have h2 : ((n : Int) + 1) % 2 = k := by omega
  rw [beq_iff_eq.2 h2, beq_eq_false_iff_ne.2 h]; rfl
theorem cz (k : Int) (hk : k = 0 ∨ k = 1) : ∀ (n : Nat) (a b out : List Int), a.length + b.length = n → out.length + n ≤ 12 →
 Ev (fun f => yA f k a b out) (out ++ fz ((out.length : Int).tmod 2 == k) a b)
 | 0, a, b, out, h, ho => by
   have ea : a = [] := List.length_eq_zero_iff.1 (by omega)
   have eb : b = [] := List.length_eq_zero_iff.1 (by omega)
   subst ea eb
   refine Ev.step (fun f => cA f _ _ _ _) (Ev.no (by simp) (Ev.no (by simp) (Ev.some ?_)))
   unfold fz; simp
 | n + 1, a, b, out, h, ho => by
   have ih := fun a b out h1 h2 => cz k hk n a b out h1 h2
   refine Ev.step (fun f => cA f _ _ _ _) ?_
   simp only [xh]
   cases a with
   | nil =>
     cases b with
     | nil => simp at h
     | cons y b =>
       simp at h
       refine Ev.no (by simp) (Ev.yes (by (first | (simp [za]; done) | (simp [za]; omega) | omega)) (Ev.no (by (first | (simp [za]; done) | (simp [za]; omega) | omega)) (Ev.no (by simp) ?_)))
       (repeat (first | refine Ev.yes (by (first | (simp [za]; done) | (simp [za]; omega) | omega)) ?_ | refine Ev.no (by (first | (simp [za]; done) | (simp [za]; omega) | omega)) ?_))
       refine (ih [] b (out ++ [y]) (by simp; omega) (by simp; omega)).to ?_
       rw [List.length_append, List.length_singleton, parity k hk]
       conv => rhs; unfold fz
       simp
   | cons x a =>
     refine Ev.yes (by (first | (simp [za]; done) | (simp [za]; omega) | omega)) ?_
     cases b with
     | nil =>
       simp at h
       refine Ev.yes (by simp) ?_
       (repeat (first | refine Ev.yes (by (first | (simp [za]; done) | (simp [za]; omega) | omega)) ?_ | refine Ev.no (by (first | (simp [za]; done) | (simp [za]; omega) | omega)) ?_))
       refine (ih a [] (out ++ [x]) (by simp; omega) (by simp; omega)).to ?_
       rw [List.length_append, List.length_singleton, parity k hk]
       conv => rhs; unfold fz
       simp
     | cons y b =>
       simp at h
       refine Ev.no (by (first | (simp [za]; done) | (simp [za]; omega) | omega)) (Ev.yes (by (first | (simp [za]; done) | (simp [za]; omega) | omega)) ?_)
       refine Ev.ite (fun hf => ?_) (fun hf => ?_)
       ·(repeat (first | refine Ev.yes (by (first | (simp [za]; done) | (simp [za]; omega) | omega)) ?_ | refine Ev.no (by (first | (simp [za]; done) | (simp [za]; omega) | omega)) ?_))
        refine (ih a (y :: b) (out ++ [x]) (by simp; omega) (by simp; omega)).to ?_
        rw [List.length_append, List.length_singleton, parity k hk, hf]
        conv => rhs; unfold fz
        simp
       ·(repeat (first | refine Ev.yes (by (first | (simp [za]; done) | (simp [za]; omega) | omega)) ?_ | refine Ev.no (by (first | (simp [za]; done) | (simp [za]; omega) | omega)) ?_))
        refine (ih (x :: a) b (out ++ [y]) (by simp; omega) (by simp; omega)).to ?_
        rw [List.length_append, List.length_singleton, parity k hk, hf]
        conv => rhs; unfold fz
        simp
theorem X5 : ∀ (n : Nat) (f : Bool) (a b out : List Int), a.length + b.length = n → out.length + n ≤ 12 → Ev (fun k => xt k a b f out) (out ++ fz f a b)
 | 0, f, a, b, out, h, ho => by
   have ea : a = [] := List.length_eq_zero_iff.1 (by omega)
   have eb : b = [] := List.length_eq_zero_iff.1 (by omega)
   subst ea eb
   refine Ev.step (fun k => X6 k _ _ _ _) (Ev.no (by simp) (Ev.no (by simp) (Ev.some ?_)))
   unfold fz; simp
 | n + 1, f, a, b, out, h, ho => by
   have ih := fun f a b out h1 h2 => X5 n f a b out h1 h2
   refine Ev.step (fun k => X6 k _ _ _ _) ?_
   simp only [xh]
   cases a with
   | nil =>
     cases b with
     | nil => simp at h
     | cons y b =>
       simp at h
       refine Ev.no (by simp) (Ev.yes (by (first | (simp [za]; done) | (simp [za]; omega) | omega)) ?_)
       cases f with
       | true =>
         refine Ev.yes rfl (Ev.no (by simp) ?_)
         (repeat (first | refine Ev.yes (by (first | (simp [za]; done) | (simp [za]; omega) | omega)) ?_ | refine Ev.no (by (first | (simp [za]; done) | (simp [za]; omega) | omega)) ?_))
         refine (ih false [] b (out ++ [y]) (by simp; omega) (by simp; omega)).to ?_
         conv => rhs; unfold fz
         simp
       | false =>
         refine Ev.no rfl (Ev.no (by (first | (simp [za]; done) | (simp [za]; omega) | omega)) ?_)
         (repeat (first | refine Ev.yes (by (first | (simp [za]; done) | (simp [za]; omega) | omega)) ?_ | refine Ev.no (by (first | (simp [za]; done) | (simp [za]; omega) | omega)) ?_))
         refine (ih true [] b (out ++ [y]) (by simp; omega) (by simp; omega)).to ?_
         conv => rhs; unfold fz
         simp
   | cons x a =>
     refine Ev.yes (by (first | (simp [za]; done) | (simp [za]; omega) | omega)) ?_
     cases f with
     | true =>
       refine Ev.yes rfl ?_
       (repeat (first | refine Ev.yes (by (first | (simp [za]; done) | (simp [za]; omega) | omega)) ?_ | refine Ev.no (by (first | (simp [za]; done) | (simp [za]; omega) | omega)) ?_))
       refine (ih false a b (out ++ [x]) (by simp at h ⊢; omega) (by simp; omega)).to ?_
       cases b with
       | nil => conv => rhs; unfold fz
                simp
       | cons y b => conv => rhs; unfold fz
                     simp
     | false =>
       refine Ev.no rfl ?_
       cases b with
       | nil =>
         simp at h
         refine Ev.yes (by simp) ?_
         (repeat (first | refine Ev.yes (by (first | (simp [za]; done) | (simp [za]; omega) | omega)) ?_ | refine Ev.no (by (first | (simp [za]; done) | (simp [za]; omega) | omega)) ?_))
         refine (ih true a [] (out ++ [x]) (by simp; omega) (by simp; omega)).to ?_
         conv => rhs; unfold fz
         simp
       | cons y b =>
         simp at h
         refine Ev.no (by (first | (simp [za]; done) | (simp [za]; omega) | omega)) ?_
         (repeat (first | refine Ev.yes (by (first | (simp [za]; done) | (simp [za]; omega) | omega)) ?_ | refine Ev.no (by (first | (simp [za]; done) | (simp [za]; omega) | omega)) ?_))
         refine (ih true (x :: a) b (out ++ [y]) (by simp; omega) (by simp; omega)).to ?_
         conv => rhs; unfold fz
         simp
def SY (p : List Int) (k : Int) : List Int := fz (k == 0) (p.take (p.length / 2)) (p.drop (p.length / 2))
theorem half (n : Nat) (h : n ≤ 4194304) : IntKind.i64.wrap ((n : Int).tdiv 2) = ((n / 2 : Nat) : Int) := by
 have : (n : Int).tdiv 2 = ((n / 2 : Nat) : Int) := by rw [Int.tdiv_eq_ediv_of_nonneg (by omega)]; omega
 rw [this, zf (by omega) (by omega)]
theorem RO (p : List Int) (hp : p.length ≤ 12) (k : Int) (hk : k = 0 ∨ k = 1) : Ev (fun f => Vh f (p, k)) (SY p k) := by
 refine Ev.step (fun f => RP f _ _) ?_
 simp only [half p.length (by omega), xh, Int.toNat_natCast, List.take_length, List.drop_zero]
 (repeat (first | refine Ev.yes (by (first | (simp [za]; done) | (simp [za]; omega) | omega)) ?_ | refine Ev.no (by (first | (simp [za]; done) | (simp [za]; omega) | omega)) ?_))
 refine (cz k hk p.length _ _ [] (by simp; omega) (by simp; omega)).to ?_
 rw [List.nil_append]
 unfold SY
 congr 1
 rcases hk with rfl | rfl <;> rfl
theorem LE (p : List Int) (hp : p.length ≤ 12) (k : Int) : Ev (fun f => LG f (p, k)) (SY p k) := by
 refine Ev.step (fun f => LF f _ _) ?_
 simp only [half p.length (by omega), xh, Int.toNat_natCast, List.take_length, List.drop_zero]
 (repeat (first | refine Ev.yes (by (first | (simp [za]; done) | (simp [za]; omega) | omega)) ?_ | refine Ev.no (by (first | (simp [za]; done) | (simp [za]; omega) | omega)) ?_))
 refine (X5 p.length (k == 0) _ _ [] (by simp; omega) (by simp; omega)).to ?_
 rw [List.nil_append]
 rfl
def mz (k : Int) : Nat → List Int → List Int → List Int
 | _, [], out => out
 | i, x :: r, out => if i = 0 ∨ (i : Int) % 2 = k then mz k (i + 1) r (out ++ [x]) else mz k (i + 1) r (x :: out)
theorem fS (p : List Int) (hp : p.length ≤ 12) (k : Int) (hk : k = 0 ∨ k = 1) : ∀ (r : List Int) (i : Nat) (out : List Int), p.drop i = r → out.length = i → Ev (fun f => wc f k p (p.length : Int) (i : Int) out) (mz k i r out)
 | [], i, out, h, ho => by
   have a := zO h
   refine Ev.step (fun f => fT f _ _ _ _ _) ?_
   simp only [a.g, cond_false]
   exact Ev.pure _
 | x :: r, i, out, h, ho => by
   have a := zl h (by rw [zd]; omega)
   have hlt := a.lt
   have ih := fun out ho => fS p hp k hk r (i + 1) out a.next ho
   refine Ev.step (fun f => fT f _ _ _ _ _) ?_
   simp only [a.g, a.z, a.get, a.w, cond_true]
   rw [Int.tmod_eq_emod_of_nonneg (by omega)]
   unfold mz
   refine Ev.ite (fun c => ?_) (fun c => Ev.ite (fun c2 => ?_) (fun c2 => ?_))
   ·have : i = 0 := by have : (i : Int) = 0 := by simpa using c
                       omega
    rw [if_pos (.inl this)]
    exact Ev.yes (by (first | (simp [za]; done) | (simp [za]; omega) | omega)) (ih _ (by simp; omega))
   ·have : (i : Int) % 2 = k := by simpa using c2
    rw [if_pos (.inr this)]
    exact Ev.yes (by (first | (simp [za]; done) | (simp [za]; omega) | omega)) (ih _ (by simp; omega))
   ·have h1 : ¬ i = 0 := by have : ¬ (i : Int) = 0 := by simpa using c
                            omega
    have h2 : ¬ (i : Int) % 2 = k := by simpa using c2
    rw [if_neg (by rintro (h | h); exact h1 h; exact h2 h)]
    exact Ev.yes (by (first | (simp [za]; done) | (simp [za]; omega) | omega)) (ih _ (by simp; omega))
theorem Yl (p : List Int) (hp : p.length ≤ 12) (k : Int) (hk : k = 0 ∨ k = 1) : ∀ (r : List Int) (i : Nat) (out : List Int), p.drop i = r → out.length = i → Ev (fun f => uO f k p (p.length : Int) (i : Int) out) (mz k i r out)
 | [], i, out, h, ho => by
   have a := zO h
   refine Ev.step (fun f => Ym f _ _ _ _ _) ?_
   simp only [a.g, cond_false]
   exact Ev.pure _
 | x :: r, i, out, h, ho => by
   have a := zl h (by rw [zd]; omega)
   have hlt := a.lt
   have ih := fun out ho => Yl p hp k hk r (i + 1) out a.next ho
   refine Ev.step (fun f => Ym f _ _ _ _ _) ?_
   simp only [a.g, a.z, a.get, a.w, cond_true]
   rw [zf (x := (i : Int) + k) (by omega) (by omega), Int.tmod_eq_emod_of_nonneg (by omega)]
   unfold mz
   refine Ev.ite (fun c => Ev.ite (fun c2 => ?_) (fun c2 => ?_)) (fun c => ?_)
   ·have h1 : (i : Int) > 0 := by simpa using c
    have h2 : ((i : Int) + k) % 2 = 1 := by simpa using c2
    rw [if_neg (by rintro (h | h) <;> omega)]
    exact Ev.yes (by (first | (simp [za]; done) | (simp [za]; omega) | omega)) (ih _ (by simp; omega))
   ·have h1 : (i : Int) > 0 := by simpa using c
    have h2 : ¬ ((i : Int) + k) % 2 = 1 := by simpa using c2
    rw [if_pos (.inr (by omega))]
    exact Ev.yes (by (first | (simp [za]; done) | (simp [za]; omega) | omega)) (ih _ (by simp; omega))
   ·have h1 : ¬ (i : Int) > 0 := by simpa using c
    rw [if_pos (.inl (by omega))]
    exact Ev.yes (by (first | (simp [za]; done) | (simp [za]; omega) | omega)) (ih _ (by simp; omega))
def kz : Nat → List Int → List Int → List Int
 | 0, p, out => p ++ out
 | n + 1, p, out => if 1 < p.length then kz n ((p.take (p.length - 1)).drop 1) (p.getD 0 0 :: p.getD (p.length - 1) 0 :: out) else p ++ out
theorem cr : ∀ (n : Nat) (p out : List Int), p.length ≤ n → p.length + out.length ≤ 12 → Ev (fun f => jJ f p out) (kz n p out)
 | n, p, out, h, ho => by
   refine Ev.step (fun f => Vg f _ _) ?_
   by_cases c : 1 < p.length
   ·match n, h with
    | 0, h => exact absurd c (by omega)
    | n + 1, h =>
    have e : ((p.length : Int) - 1) = ((p.length - 1 : Nat) : Int) := by omega
    unfold kz
    rw [if_pos c]
    simp only [e, zf (x := ((p.length - 1 : Nat) : Int)) (by omega) (by omega), Int.toNat_natCast]
    refine Ev.yes (by simp; omega) ?_
    (repeat (first | refine Ev.yes (by (first | (simp [za]; done) | (simp [za]; omega) | omega)) ?_ | refine Ev.no (by (first | (simp [za]; done) | (simp [za]; omega) | omega)) ?_))
    exact cr n _ _ (by simp; omega) (by simp; omega)
   ·have : kz n p out = p ++ out := by cases n <;> simp [kz, c]
    rw [this]
    refine Ev.no (by simp; omega) (Ev.yes (by (first | (simp [za]; done) | (simp [za]; omega) | omega)) ?_)
    rw [List.nil_append]
    refine Ev.yes (by rw [za]; exact decide_eq_true (by omega)) (Ev.some rfl)
theorem X4 : ∀ (n : Nat) (p out : List Int), p.length ≤ n → p.length + out.length ≤ 12 → Ev (fun f => Yn f p out) (kz n p out)
 | n, p, out, h, ho => by
   refine Ev.step (fun f => Qu f _ _) ?_
   by_cases c : 1 < p.length
   ·match n, h with
    | 0, h => exact absurd c (by omega)
    | n + 1, h =>
    have e : ((p.length : Int) - 1) = ((p.length - 1 : Nat) : Int) := by omega
    unfold kz
    rw [if_pos c]
    simp only [e, zf (x := ((p.length - 1 : Nat) : Int)) (by omega) (by omega), Int.toNat_natCast]
    refine Ev.yes (by simp; omega) ?_
    (repeat (first | refine Ev.yes (by (first | (simp [za]; done) | (simp [za]; omega) | omega)) ?_ | refine Ev.no (by (first | (simp [za]; done) | (simp [za]; omega) | omega)) ?_))
    exact X4 n _ _ (by simp; omega) (by simp; omega)
   ·have : kz n p out = p ++ out := by cases n <;> simp [kz, c]
    rw [this]
    refine Ev.no (by simp; omega) (Ev.bind (yL p (by omega)) (Ev.yes (by rw [za]; exact decide_eq_true (by omega)) (Ev.some rfl)))
def dz : Nat → Bool → List Int → List Int → List Int
 | 0, _, q, out => q.getD 0 0 :: out
 | n + 1, f, q, out => if 1 < q.length then (bif f then dz n false (q.drop 1) (q.getD 0 0 :: out) else dz n true (q.drop 1 ++ [q.getD 0 0]) out) else q.getD 0 0 :: out
theorem KM (s : Nat) : (((s + 1 : Nat) : Int).tmod 2 == 1) = !(((s : Nat) : Int).tmod 2 == 1) := parity 1 (.inr rfl) s
theorem cC : ∀ (n : Nat) (s : Nat) (q out : List Int), 1 ≤ q.length → 2 * q.length + (bif ((s : Int).tmod 2 == 1) then 0 else 1) ≤ n → q.length + out.length ≤ 12 → s + n ≤ 1000 →
 Ev (fun f => ub f (s : Int) q out) (dz n ((s : Int).tmod 2 == 1) q out)
 | 0, s, q, out, h1, h, ho, hs => by omega
 | n + 1, s, q, out, h1, h, ho, hs => by
   have ih := fun q out h1 h ho => cC n (s + 1) q out h1 h ho (by omega)
   rw [KM] at ih
   refine Ev.step (fun f => Vi f _ _ _) ?_
   have ew : IntKind.i64.wrap ((s : Int) + 1) = ((s + 1 : Nat) : Int) := by rw [zf (by omega) (by omega)]; omega
   simp only [ew, xh]
   unfold dz
   by_cases c : 1 < q.length
   ·rw [if_pos c]
    refine Ev.yes (by simp; omega) ?_
    cases hf : ((s : Int).tmod 2 == 1) with
    | true =>
      rw [hf] at h ih
      refine Ev.yes (by (first | (simp [za]; done) | (simp [za]; omega) | omega)) (Ev.yes (by (first | (simp [za]; done) | (simp [za]; omega) | omega)) (Ev.yes (by (first | (simp [za]; done) | (simp [za]; omega) | omega)) (Ev.yes (by (first | (simp [za]; done) | (simp [za]; omega) | omega)) (Ev.yes rfl ?_))))
      refine Ev.yes (by (first | (simp [za]; done) | (simp [za]; omega) | omega)) ?_
      exact ih (q.drop 1) (q.getD 0 0 :: out) (by simp; omega) (by simp at h ⊢; omega) (by simp; omega)
    | false =>
      rw [hf] at h ih
      refine Ev.yes (by (first | (simp [za]; done) | (simp [za]; omega) | omega)) (Ev.yes (by (first | (simp [za]; done) | (simp [za]; omega) | omega)) (Ev.yes (by (first | (simp [za]; done) | (simp [za]; omega) | omega)) (Ev.yes (by (first | (simp [za]; done) | (simp [za]; omega) | omega)) (Ev.no rfl ?_))))
      refine Ev.yes (by (first | (simp [za]; done) | (simp [za]; omega) | omega)) ?_
      exact ih (q.drop 1 ++ [q.getD 0 0]) out (by simp) (by simp at h ⊢; omega) (by simp; omega)
   ·rw [if_neg c]
    refine Ev.no (by simp; omega) ?_
    (repeat (first | refine Ev.yes (by (first | (simp [za]; done) | (simp [za]; omega) | omega)) ?_ | refine Ev.no (by (first | (simp [za]; done) | (simp [za]; omega) | omega)) ?_))
    exact Ev.pure _
theorem Yq : ∀ (n : Nat) (f : Bool) (q out : List Int), 1 ≤ q.length → 2 * q.length + (bif f then 0 else 1) ≤ n → q.length + out.length ≤ 12 →
 ∃ y, Ev (fun k => gI k f out q) y ∧ y.reverse = dz n f q out.reverse ∧ y.length = q.length + out.length
 | 0, f, q, out, h1, h, ho => by omega
 | n + 1, f, q, out, h1, h, ho => by
   have ih := fun f q out h1 h ho => Yq n f q out h1 h ho
   unfold dz
   by_cases c : 1 < q.length
   ·rw [if_pos c]
    cases f with
    | true =>
      obtain ⟨y, e1, e2, e3⟩ := ih false (q.drop 1) (out ++ [q.getD 0 0]) (by simp; omega) (by simp at h ⊢; omega) (by simp; omega)
      refine ⟨y, Ev.step (fun k => fy k _ _ _) ?_, ?_, by simp at e3; omega⟩
      ·simp only [xh]
       refine Ev.yes (by simp; omega) (Ev.yes rfl ?_)
       (repeat (first | refine Ev.yes (by (first | (simp [za]; done) | (simp [za]; omega) | omega)) ?_ | refine Ev.no (by (first | (simp [za]; done) | (simp [za]; omega) | omega)) ?_))
       exact e1
      ·rw [e2]; simp
    | false =>
      obtain ⟨y, e1, e2, e3⟩ := ih true (q.drop 1 ++ [q.getD 0 0]) out (by simp) (by simp at h ⊢; omega) (by simp; omega)
      refine ⟨y, Ev.step (fun k => fy k _ _ _) ?_, ?_, by simp at e3; omega⟩
      ·have ed : (q ++ [q.getD 0 0]).drop 1 = q.drop 1 ++ [q.getD 0 0] := List.drop_append_of_le_length h1
       simp only [xh, ed]
       refine Ev.yes (by simp; omega) (Ev.no rfl ?_)
       (repeat (first | refine Ev.yes (by (first | (simp [za]; done) | (simp [za]; omega) | omega)) ?_ | refine Ev.no (by (first | (simp [za]; done) | (simp [za]; omega) | omega)) ?_))
       exact e1
      ·rw [e2]; rfl
   ·rw [if_neg c]
    match q, h1, c with
    | [x], _, _ =>
      refine ⟨out ++ [x], Ev.step (fun k => fy k _ _ _) (Ev.no (by simp) (Ev.yes (by (first | (simp [za]; done) | (simp [za]; omega) | omega)) (Ev.some rfl))), by simp, by simp; omega⟩
    | _ :: _ :: _, _, c => simp at c
end Qq
namespace Qq
open Go Go.Vt Pt
set_option linter.unusedVariables false
set_option linter.unusedSimpArgs false
def Wr : List Int → List Int → Bool
 | [], b => decide (0 < b.length)
 | _ :: _, [] => false
 | x :: a, y :: b => if x = y then Wr a b else decide (x < y)
def cmpL : List Int → List Int → Int
 | [], b => if 0 < b.length then -1 else 0
 | _ :: _, [] => 1
 | x :: a, y :: b => if x = y then cmpL a b else if x < y then -1 else 1
theorem QS : ∀ a b, decide (cmpL a b ≥ 0) = !Wr a b
 | [], [] => rfl
 | [], _ :: _ => by simp [cmpL, Wr]
 | _ :: _, [] => rfl
 | x :: a, y :: b => by
   unfold cmpL Wr
   by_cases h : x = y
   ·rw [if_pos h, if_pos h, QS a b]
   ·rw [if_neg h, if_neg h]
    by_cases h2 : x < y
    ·simp [h2]
    ·simp [h2]
theorem S8 {α : Type} {xs r : List α} {i : Nat} (h : xs.drop i = r) : xs.length - i = r.length := by rw [← h, List.length_drop]
theorem ce (xs ys : List Int) (hm : xs.length ≤ maxLen) (hy : ys.length ≤ maxLen) : ∀ (r s : List Int) (i : Nat), i ≤ xs.length → xs.drop i = r → ys.drop i = s → Ev (fun k => jH k xs ys xs (xs.length : Int) (i : Int)) (Wr r s)
 | [], s, i, hi, h, h2 => by
   have a := zO h
   have := a.ge
   have hl := S8 h2
   refine Ev.step (fun k => uR k _ _ _ _ _) ?_
   simp only [a.g, cond_false]
   refine Ev.some ?_
   unfold Wr
   rw [Bool.eq_iff_iff]; simp; omega
 | x :: r, [], i, hi, h, h2 => by
   have a := zl h hm
   have b := zO h2
   refine Ev.step (fun k => uR k _ _ _ _ _) ?_
   simp only [a.g, a.z, cond_true]
   refine Ev.yes (by have := b.ge; simp; omega) (Ev.some rfl)
 | x :: r, y :: s, i, hi, h, h2 => by
   have a := zl h hm
   have b := zl h2 hy
   have hlt := a.lt
   have ih := ce xs ys hm hy r s (i + 1) (by omega) a.next b.next
   refine Ev.step (fun k => uR k _ _ _ _ _) ?_
   simp only [a.g, a.z, a.get, a.w, cond_true]
   refine Ev.no (by have := b.lt; simp; omega) ?_
   simp only [b.g, b.get, cond_true]
   unfold Wr
   refine Ev.ite (fun c => Ev.some ?_) (fun c => ih.to ?_)
   ·have : ¬ x = y := by simpa using c
    rw [if_neg this]
   ·have : x = y := by simpa using c
    rw [if_pos this]
theorem RJ (xs ys : List Int) (hm : xs.length ≤ maxLen) (hy : ys.length ≤ maxLen) : Ev (fun k => ZU k (xs, ys)) (Wr xs ys) :=
 Ev.step (fun k => RK k xs ys) (ce xs ys hm hy xs ys 0 (by omega) rfl rfl)
abbrev Packs : Type := List (List Int)
def FitS (l : Packs) : Prop := l.length ≤ maxLen ∧ ∀ p ∈ l, p.length ≤ maxLen ∧ Ins p
theorem FitS.of {l : Packs} (h : Fits (.slice (.slice (.int .i64))) l) : FitS l :=
 ⟨h.1, fun p hp => ⟨(h.2 p hp).1, fun x hx => In.of_fits ((h.2 p hp).2 x hx)⟩⟩
end Qq
namespace Qq
open Go Go.Vt Pt
set_option linter.unusedVariables false
set_option linter.unusedSimpArgs false
theorem LZ {p : List Int} (h : Ins p) (i : Nat) : In (p.getD i 0) := by
 rw [List.getD]
 cases hi : p[i]? with
 | none => exact ⟨by decide, by decide⟩
 | some x => exact h x (List.mem_of_getElem? hi)
end Qq
namespace Qq
open Go Go.Vt Pt
set_option linter.unusedVariables false
set_option linter.unusedSimpArgs false
set_option linter.unnecessarySimpa false
theorem YX (ls : List (List Int)) (hl : ls.length ≤ maxLen) : ∀ (r : List (List Int)) (i : Nat) (out : List Int), ls.drop i = r → out.length + r.flatten.length ≤ 1048576 → Ev (fun k => yW k ls (ls.length : Int) (i : Int) out) (out ++ r.flatten)
 | [], i, out, h, ho => by
   have a := zO h
   refine Ev.step (fun k => wJ k _ _ _ _) ?_
   simp only [a.g, cond_false]
   exact Ev.some (by simp)
 | x :: r, i, out, h, ho => by
   have a := zl h hl
   have hlt := a.lt
   simp only [List.flatten_cons, List.length_append] at ho
   refine Ev.step (fun k => wJ k _ _ _ _) ?_
   simp only [a.g, a.z, a.get, a.w, cond_true]
   refine Ev.yes (by rw [za]; exact decide_eq_true (by omega)) ?_
   exact (YX ls hl r (i + 1) (out ++ x) a.next (by simp; simp at ho; omega)).to (by simp)
theorem Wk (ls : List (List Int)) (hl : ls.length ≤ maxLen) (ht : ls.flatten.length ≤ 1048576) : ∀ (r : List (List Int)) (i : Nat) (n : Nat), ls.drop i = r → n + r.flatten.length ≤ 1048576 → Ev (fun k => xi k ls (n : Int) ls (ls.length : Int) (i : Int)) ls.flatten
 | [], i, n, h, hn => by
   have a := zO h
   refine Ev.step (fun k => wU k _ _ _ _ _) ?_
   simp only [a.g, cond_false]
   have hg : Ev (fun k => uP k ([], (n : Int))) [] := Ev.congr (fun k => ZI k [] (n : Int)) (by
    show Ev (fun _ => PF (n : Int)) []
    unfold PF
    simp at hn
    exact Ev.yes (by simp; omega) (Ev.pure _))
   exact Ev.bind hg ((YX ls hl ls 0 [] rfl (by simpa using ht)).to (by simp))
 | x :: r, i, n, h, hn => by
   have a := zl h hl
   have hlt := a.lt
   simp only [List.flatten_cons, List.length_append] at hn
   refine Ev.step (fun k => wU k _ _ _ _ _) ?_
   have e : (n : Int) + (x.length : Int) = ((n + x.length : Nat) : Int) := by omega
   simp only [a.g, a.z, a.get, a.w, cond_true, e, zf (x := ((n + x.length : Nat) : Int)) (by omega) (by omega)]
   refine Ev.no (by simp; omega) ?_
   exact Wk ls hl ht r (i + 1) (n + x.length) a.next (by omega)
theorem US (ls : List (List Int)) (hl : ls.length ≤ maxLen) (ht : ls.flatten.length ≤ 1048576) : Ev (fun k => yf k ls) ls.flatten :=
 Ev.step (fun k => aj k _) (Wk ls hl ht ls 0 0 rfl (by omega))
theorem Zk (p : List Int) (hp : p.length ≤ 1048576) : Ev (fun k => gG k p) p.reverse := by
 have hr : Ev (fun k => wT k p) ((), p.reverse) := Ev.congr (fun k => eN k p) (by
  unfold reverseF
  exact Ev.yes (by simp; omega) (Ev.pure _))
 exact Ev.step (fun k => SI k _) (Ev.bind (yL p hp) (Ev.bind hr (Ev.pure _)))
theorem aG (K : Nat) : ∀ (m : Nat) (pre r : List Int), m ≤ r.length → pre.length + m = K → pre.length + r.length ≤ 12 → Ins r → Ev (fun k => fv k (K : Int) (pre.length : Int) (pre ++ r)) (pre ++ (r.take m).map turn ++ r.drop m)
 | 0, pre, r, hm, hK, h12, hi => by
   refine Ev.step (fun k => aH k _ _ _) (Ev.no (by simp; omega) (Ev.some (by simp)))
 | m + 1, pre, [], hm, hK, h12, hi => by simp at hm
 | m + 1, pre, x :: r, hm, hK, h12, hi => by
   simp at hm h12
   have hx : In x := hi x (by simp)
   have hg : (pre ++ x :: r).getD (pre.length : Int).toNat 0 = x := by simp [List.getD]
   have hs : (pre ++ x :: r).set (pre.length : Int).toNat (turn x) = pre ++ turn x :: r := by simp
   have ew : IntKind.i64.wrap ((pre.length : Int) + 1) = ((pre.length + 1 : Nat) : Int) := by rw [zf (by omega) (by omega)]; omega
   refine Ev.step (fun k => aH k _ _ _) ?_
   simp only [hg, hs, ew]
   refine Ev.yes (by simp; omega) (Ev.yes (by simp) (Ev.yes (by (first | (simp [za]; done) | (simp [za]; omega) | omega)) (Ev.yes (by (first | (simp [za]; done) | (simp [za]; omega) | omega)) (Ev.bind (Yu x hx) ?_))))
   simp only [hs]
   refine Ev.yes (by simp) (Ev.yes (by (first | (simp [za]; done) | (simp [za]; omega) | omega)) (Ev.yes (by (first | (simp [za]; done) | (simp [za]; omega) | omega)) ?_))
   have := aG K m (pre ++ [turn x]) r hm (by simp; omega) (by simp; omega) (fun y hy => hi y (by simp [hy]))
   simp only [List.length_append, List.length_singleton, List.append_assoc, List.singleton_append] at this
   exact this.to (by simp)
def xf (p : List Int) (m : Int × Int) : List Int :=
 if m.1 = 1 then p.drop m.2.toNat ++ p.take m.2.toNat
 else if m.1 = 2 then (p.take m.2.toNat).reverse ++ p.drop m.2.toNat
 else if m.1 = 3 then (p.take m.2.toNat).reverse.map turn ++ p.drop m.2.toNat
 else if m.1 = 4 then SY p m.2
 else if m.1 = 5 then mz m.2 0 p []
 else if m.1 = 6 then kz p.length p []
 else if m.1 = 7 then dz (2 * p.length + 1) (m.2 == 1) p []
 else if m.1 = 8 then p.set m.2.toNat (turn (p.getD m.2.toNat 0))
 else p.take m.2.toNat ++ p.drop (m.2.toNat + 1) ++ [p.getD m.2.toNat 0]
structure MoveFit (n : Nat) (m : Int × Int) : Prop where
 n1 : 1 ≤ n
 n12 : n ≤ 12
 k0 : 0 ≤ m.2
 kn : m.2 ≤ n ∨ m.2 ≤ 1
 c : m.1 = 1 ∨ m.1 = 2 ∨ m.1 = 3 → m.2 ≤ n
 f : m.1 = 4 ∨ m.1 = 5 ∨ m.1 = 7 → m.2 = 0 ∨ m.2 = 1
 t : m.1 ≠ 1 → m.1 ≠ 2 → m.1 ≠ 3 → m.1 ≠ 4 → m.1 ≠ 5 → m.1 ≠ 6 → m.1 ≠ 7 → m.2 < n
theorem Tx {n : Nat} {m : Int × Int} (h : vb (n : Int) m = true) : MoveFit n m := by
 unfold vb at h
 simp only [Bool.and_eq_true, decide_eq_true_eq] at h
 obtain ⟨h1, h2, h3, h4⟩ := h
 have key : (m.1 = 1 ∧ m.2 ≤ n) ∨ (m.1 = 2 ∧ m.2 ≤ n) ∨ (m.1 = 3 ∧ m.2 ≤ n) ∨ (m.1 = 4 ∧ m.2 ≤ 1) ∨ (m.1 = 5 ∧ m.2 ≤ 1) ∨ (m.1 = 7 ∧ m.2 ≤ 1) ∨ (m.1 = 6 ∧ m.2 = 0) ∨ (m.1 = 8 ∧ m.2 < n) ∨ (m.1 = 9 ∧ m.2 < n) := by
  repeat' (split at h4)
  all_goals simp at h4
  all_goals simp [*]
 exact ⟨by omega, by omega, h3, by omega, by omega, by omega, by omega⟩
theorem Tr (p : List Int) (m : Int × Int) (h : MoveFit p.length m) (hi : Ins p) : Ev (fun k => Si k (p, m)) (xf p m) := by
 have hp := h.n12
 have hp1 := h.n1
 obtain ⟨a, b⟩ := m
 have h0 := h.k0
 obtain ⟨j, rfl⟩ : ∃ j : Nat, b = (j : Int) := ⟨b.toNat, by have := h0; simp at this; omega⟩
 have hc := h.c
 have hf := h.f
 have ht := h.t
 dsimp only at hc hf ht
 clear h h0
 refine Ev.step (fun k => N1 k p (a, (j : Int))) ?_
 unfold xf
 simp only [xh, Int.toNat_natCast, List.take_length, List.drop_zero, List.nil_append]
 refine Ev.ite (fun c => ?_) (fun c1 => Ev.ite (fun c => ?_) (fun c2 => Ev.ite (fun c => ?_) (fun c3 => Ev.ite (fun c => ?_) (fun c4 => Ev.ite (fun c => ?_) (fun c5 => Ev.ite (fun c => ?_) (fun c6 => Ev.ite (fun c => ?_) (fun c7 => Ev.ite (fun c => ?_) (fun c8 => ?_))))))))
 all_goals simp only [beq_iff_eq, beq_eq_false_iff_ne, ne_eq] at *
 ·have := hc (by omega)
  rw [if_pos c]
  (repeat (first | refine Ev.yes (by (first | (simp [za]; done) | (simp [za]; omega) | omega)) ?_ | refine Ev.no (by (first | (simp [za]; done) | (simp [za]; omega) | omega)) ?_))
  exact Ev.pure _
 ·have := hc (by omega)
  rw [if_neg c1, if_pos c]
  exact Ev.bind (cI p hp hi j (by omega) false) (Ev.some (by simp))
 ·have := hc (by omega)
  rw [if_neg c1, if_neg c2, if_pos c]
  exact Ev.bind (cI p hp hi j (by omega) true) (Ev.some (by simp))
 ·rw [if_neg c1, if_neg c2, if_neg c3, if_pos c]
  exact Ev.bind (RO p hp _ (hf (by omega))) (Ev.pure _)
 ·rw [if_neg c1, if_neg c2, if_neg c3, if_neg c4, if_pos c]
  exact Ev.bind (Ev.step (fun k => Sh k _ _) (fS p hp _ (hf (by omega)) p 0 [] rfl rfl)) (Ev.pure _)
 ·rw [if_neg c1, if_neg c2, if_neg c3, if_neg c4, if_neg c5, if_pos c]
  exact Ev.bind (Ev.step (fun k => RM k _) (cr p.length p [] (Nat.le_refl _) (by simp; omega))) (Ev.pure _)
 ·rw [if_neg c1, if_neg c2, if_neg c3, if_neg c4, if_neg c5, if_neg c6, if_pos c]
  have hj := hf (by omega)
  have e : ((j : Int).tmod 2 == 1) = ((j : Int) == 1) := by rcases hj with hj | hj <;> rw [hj] <;> rfl
  have hd := cC (2 * p.length + 1) j p [] hp1 (by cases ((j : Int).tmod 2 == 1) <;> simp) (by simp; omega) (by omega)
  rw [e] at hd
  refine Ev.bind (Ev.step (fun k => RQ k _ _) (Ev.yes (by (first | (simp [za]; done) | (simp [za]; omega) | omega)) ?_)) (Ev.pure _)
  rw [List.nil_append]
  exact hd
 ·rw [if_neg c1, if_neg c2, if_neg c3, if_neg c4, if_neg c5, if_neg c6, if_neg c7, if_pos c]
  have := ht c1 c2 c3 c4 c5 c6 c7
  have hin : In (p.getD j 0) := LZ hi _
  (repeat (first | refine Ev.yes (by (first | (simp [za]; done) | (simp [za]; omega) | omega)) ?_ | refine Ev.no (by (first | (simp [za]; done) | (simp [za]; omega) | omega)) ?_))
  refine Ev.bind (ZY _ hin) ?_
  (repeat (first | refine Ev.yes (by (first | (simp [za]; done) | (simp [za]; omega) | omega)) ?_ | refine Ev.no (by (first | (simp [za]; done) | (simp [za]; omega) | omega)) ?_))
  exact Ev.pure _
 ·rw [if_neg c1, if_neg c2, if_neg c3, if_neg c4, if_neg c5, if_neg c6, if_neg c7, if_neg c8]
  have := ht c1 c2 c3 c4 c5 c6 c7
  have e : IntKind.i64.wrap ((j : Int) + 1) = ((j + 1 : Nat) : Int) := by rw [zf (by omega) (by omega)]; omega
  simp only [e, Int.toNat_natCast]
  (repeat (first | refine Ev.yes (by (first | (simp [za]; done) | (simp [za]; omega) | omega)) ?_ | refine Ev.no (by (first | (simp [za]; done) | (simp [za]; omega) | omega)) ?_))
  exact Ev.pure _
theorem Xd (p : List Int) (m : Int × Int) (h : MoveFit p.length m) (hi : Ins p) : Ev (fun k => V8 k (p, m)) (xf p m) := by
 have hp := h.n12
 have hp1 := h.n1
 obtain ⟨a, b⟩ := m
 have h0 := h.k0
 obtain ⟨j, rfl⟩ : ∃ j : Nat, b = (j : Int) := ⟨b.toNat, by have := h0; simp at this; omega⟩
 have hc := h.c
 have hf := h.f
 have ht := h.t
 dsimp only at hc hf ht
 clear h h0
 refine Ev.step (fun k => Mh k p (a, (j : Int))) ?_
 unfold xf
 simp only [xh, Int.toNat_natCast, List.take_length, List.drop_zero, List.nil_append]
 have hlen2 : ∀ (x y : List Int), x.length + y.length ≤ 1048576 → Ev (fun k => yf k [x, y]) (x ++ y) := fun x y hxy => (US [x, y] (by rw [zd]; simp) (by simpa using hxy)).to (by simp)
 refine Ev.ite (fun c => ?_) (fun c1 => Ev.ite (fun c => ?_) (fun c2 => Ev.ite (fun c => ?_) (fun c3 => Ev.ite (fun c => ?_) (fun c4 => Ev.ite (fun c => ?_) (fun c5 => Ev.ite (fun c => ?_) (fun c6 => Ev.ite (fun c => ?_) (fun c7 => Ev.ite (fun c => ?_) (fun c8 => ?_))))))))
 all_goals simp only [beq_iff_eq, beq_eq_false_iff_ne, ne_eq] at *
 ·have := hc (by omega)
  rw [if_pos c]
  (repeat (first | refine Ev.yes (by (first | (simp [za]; done) | (simp [za]; omega) | omega)) ?_ | refine Ev.no (by (first | (simp [za]; done) | (simp [za]; omega) | omega)) ?_))
  exact Ev.bind (hlen2 _ _ (by simp; omega)) (Ev.pure _)
 ·have := hc (by omega)
  rw [if_neg c1, if_pos c]
  (repeat (first | refine Ev.yes (by (first | (simp [za]; done) | (simp [za]; omega) | omega)) ?_ | refine Ev.no (by (first | (simp [za]; done) | (simp [za]; omega) | omega)) ?_))
  refine Ev.bind (Zk _ (by simp; omega)) ?_
  (repeat (first | refine Ev.yes (by (first | (simp [za]; done) | (simp [za]; omega) | omega)) ?_ | refine Ev.no (by (first | (simp [za]; done) | (simp [za]; omega) | omega)) ?_))
  exact Ev.bind (hlen2 _ _ (by simp; omega)) (Ev.pure _)
 ·have := hc (by omega)
  rw [if_neg c1, if_neg c2, if_pos c]
  (repeat (first | refine Ev.yes (by (first | (simp [za]; done) | (simp [za]; omega) | omega)) ?_ | refine Ev.no (by (first | (simp [za]; done) | (simp [za]; omega) | omega)) ?_))
  refine Ev.bind (Zk _ (by simp; omega)) ?_
  (repeat (first | refine Ev.yes (by (first | (simp [za]; done) | (simp [za]; omega) | omega)) ?_ | refine Ev.no (by (first | (simp [za]; done) | (simp [za]; omega) | omega)) ?_))
  refine Ev.bind (hlen2 _ _ (by simp; omega)) ?_
  have hr : (p.take j).reverse.length = j := by simp; omega
  have := aG j j [] ((p.take j).reverse ++ p.drop j) (by simp; omega) (by simp) (by simp; omega) (fun x hx => by
   rcases List.mem_append.1 hx with h | h
   ·exact hi x (List.mem_of_mem_take (List.mem_reverse.1 h))
   ·exact hi x (List.mem_of_mem_drop h))
  refine this.to ?_
  rw [List.nil_append, List.take_append_of_le_length (by omega), List.drop_append_of_le_length (by omega), List.take_of_length_le (by omega), List.drop_eq_nil_of_le (by omega), List.nil_append]
 ·rw [if_neg c1, if_neg c2, if_neg c3, if_pos c]
  exact Ev.bind (LE p hp _) (Ev.pure _)
 ·rw [if_neg c1, if_neg c2, if_neg c3, if_neg c4, if_pos c]
  exact Ev.bind (Ev.step (fun k => Mi k _ _) (Yl p hp _ (hf (by omega)) p 0 [] rfl rfl)) (Ev.pure _)
 ·rw [if_neg c1, if_neg c2, if_neg c3, if_neg c4, if_neg c5, if_pos c]
  exact Ev.bind (Ev.step (fun k => LD k _) (X4 p.length p [] (Nat.le_refl _) (by simp; omega))) (Ev.pure _)
 ·rw [if_neg c1, if_neg c2, if_neg c3, if_neg c4, if_neg c5, if_neg c6, if_pos c]
  obtain ⟨y, e1, e2, e3⟩ := Yq (2 * p.length + 1) ((j : Int) == 1) p [] hp1 (by cases ((j : Int) == 1) <;> simp) (by simp; omega)
  refine Ev.bind (Ev.step (fun k => Ml k _ _) (Ev.bind (yL p (by omega)) e1)) (Ev.bind (Zk y (by simp at e3; omega)) (Ev.some ?_))
  rw [e2]; rfl
 ·rw [if_neg c1, if_neg c2, if_neg c3, if_neg c4, if_neg c5, if_neg c6, if_neg c7, if_pos c]
  have := ht c1 c2 c3 c4 c5 c6 c7
  have hin : In (p.getD j 0) := LZ hi _
  refine Ev.bind (yL p (by omega)) ?_
  (repeat (first | refine Ev.yes (by (first | (simp [za]; done) | (simp [za]; omega) | omega)) ?_ | refine Ev.no (by (first | (simp [za]; done) | (simp [za]; omega) | omega)) ?_))
  refine Ev.bind (Yu _ hin) ?_
  (repeat (first | refine Ev.yes (by (first | (simp [za]; done) | (simp [za]; omega) | omega)) ?_ | refine Ev.no (by (first | (simp [za]; done) | (simp [za]; omega) | omega)) ?_))
  exact Ev.pure _
 ·rw [if_neg c1, if_neg c2, if_neg c3, if_neg c4, if_neg c5, if_neg c6, if_neg c7, if_neg c8]
  have := ht c1 c2 c3 c4 c5 c6 c7
  have hjl : j < p.length := by omega
  have e : IntKind.i64.wrap ((j : Int) + 1) = ((j + 1 : Nat) : Int) := by rw [zf (by omega) (by omega)]; omega
  simp only [e, Int.toNat_natCast]
  (repeat (first | refine Ev.yes (by (first | (simp [za]; done) | (simp [za]; omega) | omega)) ?_ | refine Ev.no (by (first | (simp [za]; done) | (simp [za]; omega) | omega)) ?_))
  refine Ev.bind ((US [p.take j, p.drop (j + 1), (p.take (j + 1)).drop j] (by rw [zd]; simp) (by simp; omega)).to ?_) (Ev.pure _)
  have : (p.take (j + 1)).drop j = [p.getD j 0] := by
   rw [List.take_add_one, List.getElem?_eq_getElem hjl, List.drop_append_of_le_length (by simp; omega), List.drop_eq_nil_of_le (by simp; omega)]
   simp [List.getD, hjl]
  rw [this]
  simp
end Qq
namespace Qq
open Go Go.Vt Pt
set_option linter.unusedVariables false
set_option linter.unusedSimpArgs false
theorem eB (xs ys : List Int) (hx : xs.length ≤ maxLen) (hy : ys.length ≤ maxLen) : ∀ (r s : List Int) (i : Nat), xs.drop i = r → ys.drop i = s → s.length = r.length → Ev (fun k => xT k ys xs (xs.length : Int) (i : Int)) (r == s)
 | [], [], i, h1, h2, hl => by
   have a := zO h1
   refine Ev.step (fun k => xP k ys xs _ i) ?_
   simp only [a.g, cond_false]
   exact Ev.pure _
 | x :: r, y :: s, i, h1, h2, hl => by
   have a := zl h1 hx
   have b := zl h2 hy
   refine Ev.step (fun k => xP k ys xs _ i) ?_
   simp only [a.g, a.z, b.g, a.get, b.get, a.w, cond_true]
   have ih := eB xs ys hx hy r s (i + 1) a.next b.next (by simpa using hl)
   refine Ev.ite (fun h => Ev.some ?_) (fun h => ih.to ?_)
   ·have : ¬ x = y := by simpa using h
    simp [this]
   ·have : x = y := by simpa using h
    simp [this]
 | [], _ :: _, _, _, _, hl => by simp at hl
 | _ :: _, [], _, _, _, hl => by simp at hl
theorem YV (xs ys : List Int) (hx : xs.length ≤ maxLen) (hy : ys.length ≤ maxLen) : Ev (fun k => zW k (xs, ys)) (xs == ys) := by
 refine Ev.step (fun k => cP k xs ys) (Ev.ite (fun h => Ev.some ?_) (fun h => eB xs ys hx hy xs ys 0 rfl rfl ?_))
 ·have h' : ¬ xs.length = ys.length := by simp at h; omega
  have : ¬ xs = ys := fun e => h' (by rw [e])
  simp [this]
 ·simp at h; omega
theorem x7 (xs ys : List Int) (hx : xs.length ≤ maxLen) (hy : ys.length ≤ maxLen) : ∀ (r s : List Int) (i : Nat), xs.drop i = r → ys.drop i = s → s.length = r.length → Ev (fun k => zG k xs ys (xs.length : Int) (i : Int)) (r == s)
 | [], [], i, h1, h2, hl => by
   have a := zO h1
   refine Ev.step (fun k => yy k xs ys _ i) ?_
   simp only [a.g, cond_false]
   exact Ev.pure _
 | x :: r, y :: s, i, h1, h2, hl => by
   have a := zl h1 hx
   have b := zl h2 hy
   refine Ev.step (fun k => yy k xs ys _ i) ?_
   simp only [a.g, a.z, b.g, a.get, b.get, a.w, cond_true]
   have ih := x7 xs ys hx hy r s (i + 1) a.next b.next (by simpa using hl)
   refine Ev.ite (fun h => Ev.some ?_) (fun h => ih.to ?_)
   ·have : ¬ x = y := by simpa using h
    simp [this]
   ·have : x = y := by simpa using h
    simp [this]
 | [], _ :: _, _, _, _, hl => by simp at hl
 | _ :: _, [], _, _, _, hl => by simp at hl
theorem uv (xs ys : List Int) (hx : xs.length ≤ maxLen) (hy : ys.length ≤ maxLen) : Ev (fun k => yb k (xs, ys)) (xs == ys) := by
 refine Ev.step (fun k => wE k xs ys) (Ev.ite (fun h => Ev.some ?_) (fun h => x7 xs ys hx hy xs ys 0 rfl rfl ?_))
 ·have h' : ¬ xs.length = ys.length := by simp at h; omega
  have : ¬ xs = ys := fun e => h' (by rw [e])
  simp [this]
 ·simp at h; omega
end Qq
namespace Qq
open Go Go.Vt Pt
set_option linter.unusedVariables false
set_option linter.unusedSimpArgs false
set_option linter.unnecessarySimpa false
theorem JB : ∀ a b, cmpL a b = cmpI a b
 | [], _ => rfl
 | _ :: _, [] => rfl
 | x :: a, y :: b => by unfold cmpL cmpI; rw [JB a b]
theorem Lm (a b : List Int) : Wr a b = decide (cmpI a b < 0) := by
 have := QS a b
 rw [JB] at this
 by_cases h : cmpI a b < 0
 ·rw [decide_eq_false (by omega)] at this; rw [decide_eq_true h]; simpa using this.symm
 ·rw [decide_eq_true (by omega)] at this; rw [decide_eq_false h]; simpa using this.symm
theorem Pn {a b : List Int} : leI a b = true ↔ ¬ cmpI b a < 0 := by unfold leI; simp
theorem VS {a b : List Int} (h : leI a b = true) (hn : a ≠ b) : cmpI a b < 0 := by
 by_cases k : cmpI a b < 0
 ·exact k
 ·exact (hn (UE a b k (Pn.1 h))).elim
theorem le_of_lt {a b : List Int} (h : cmpI a b < 0) : leI a b = true := Pn.2 fun k => wH a (vF a b a h k)
def SS (l : Packs) : Prop := l.Pairwise fun a b => cmpI a b < 0
theorem Rw : ∀ {l m : Packs}, SS l → SS m → (∀ x, x ∈ l ↔ x ∈ m) → l = m
 | [], [], _, _, _ => rfl
 | [], y :: m, _, _, h => by have := (h y).2 (by simp); simp at this
 | x :: l, [], _, _, h => by have := (h x).1 (by simp); simp at this
 | x :: l, y :: m, hl, hm, h => by
   obtain ⟨hl1, hl2⟩ := List.pairwise_cons.1 hl
   obtain ⟨hm1, hm2⟩ := List.pairwise_cons.1 hm
   have e : x = y := by
    rcases List.mem_cons.1 ((h x).1 (by simp)) with e | hx
    ·exact e
    ·rcases List.mem_cons.1 ((h y).2 (by simp)) with e | hy
     ·exact e.symm
     ·exact (wH x (vF x y x (hl1 y hy) (hm1 x hx))).elim
   subst e
   have : l = m := Rw hl2 hm2 fun z => by
    constructor
    ·intro hz
     rcases List.mem_cons.1 ((h z).1 (List.mem_cons_of_mem _ hz)) with e | hz2
     ·subst e; exact (wH _ (hl1 _ hz)).elim
     ·exact hz2
    ·intro hz
     rcases List.mem_cons.1 ((h z).2 (List.mem_cons_of_mem _ hz)) with e | hz2
     ·subst e; exact (wH _ (hm1 _ hz)).elim
     ·exact hz2
   rw [this]
theorem We : ∀ (r : Packs) (p : List Int), (p :: r).Pairwise (fun a b => leI a b = true) → SS (p :: yD p r) ∧ ∀ z, z ∈ p :: yD p r ↔ z ∈ p :: r
 | [], p, _ => ⟨List.pairwise_singleton _ _, fun z => Iff.rfl⟩
 | y :: r, p, h => by
   obtain ⟨h1, h2⟩ := List.pairwise_cons.1 h
   obtain ⟨i1, i2⟩ := We r y h2
   unfold yD
   by_cases e : y = p
   ·subst e
    rw [if_pos rfl]
    refine ⟨i1, fun z => ?_⟩
    rw [i2]; simp
   ·rw [if_neg e]
    have hlt : cmpI p y < 0 := VS (h1 y (by simp)) (Ne.symm e)
    refine ⟨List.pairwise_cons.2 ⟨fun z hz => ?_, i1⟩, fun z => ?_⟩
    ·rcases List.mem_cons.1 hz with rfl | hz
     ·exact hlt
     ·exact vF _ _ _ hlt ((List.pairwise_cons.1 i1).1 z hz)
    ·rw [List.mem_cons, i2, ← List.mem_cons]
theorem Ny {l : Packs} (h : l.Pairwise (fun a b => leI a b = true)) : SS (aT l) ∧ ∀ z, z ∈ aT l ↔ z ∈ l := by
 cases l with
 | nil => exact ⟨List.Pairwise.nil, fun _ => Iff.rfl⟩
 | cons x r => exact We r x h
def setL (l : Packs) : Packs := aT (ZG l)
theorem Vb (l : Packs) : SS (setL l) := (Ny (eL l)).1
theorem wW (l : Packs) (z : List Int) : z ∈ setL l ↔ z ∈ l := ((Ny (eL l)).2 z).trans (gq l).mem_iff
theorem Sa {l m : Packs} (h : SS m) (hm : ∀ z, z ∈ m ↔ z ∈ l) : m = setL l := Rw h (Vb l) fun z => (hm z).trans (wW l z).symm
theorem YI : ∀ (r : Packs) (p : List Int), (yD p r).length ≤ r.length
 | [], _ => Nat.le_refl _
 | y :: r, p => by unfold yD; have := YI r y; split <;> simp <;> omega
theorem gY (l : Packs) : (setL l).length ≤ l.length := by
 have h1 : (ZG l).length = l.length := (gq l).length_eq
 unfold setL
 rw [← h1]
 cases ZG l with
 | nil => exact Nat.le_refl _
 | cons x r => have := YI r x; simp [aT]; omega
theorem jg (l : Packs) (hl : l.length ≤ 16777216) (h12 : ∀ p ∈ l, p.length ≤ 1048576) : ∀ (r : Packs) (i : Nat), l.drop i = r → Ev (fun k => wA k l (l.length : Int) (i : Int) (l.take i)) (setL l)
 | [], i, h => by
   have a := zO h
   refine Ev.step (fun k => jh k _ _ _ _) ?_
   simp only [a.g, cond_false]
   rw [List.take_of_length_le a.ge]
   have small : ∀ m : Packs, m.length ≤ 16777216 → (∀ p ∈ m, p.length ≤ 1048576) → XC m = true := fun m hm hp => by
    unfold XC
    rw [Bool.and_eq_true]
    exact ⟨decide_eq_true (by omega), List.all_eq_true.2 fun p hpm => decide_eq_true (by have := hp p hpm; omega)⟩
   have e1 : Ev (fun k => xz k (l, false)) ((), ZG l) := Ev.congr (fun k => jC k l false) (by
    show Ev (fun _ => Q6 l) _
    unfold Q6
    exact Ev.yes (small l hl h12) (Ev.pure _))
   have e2 : Ev (fun k => yR k (ZG l, false)) (setL l) := Ev.congr (fun k => uy k (ZG l) false) (by
    show Ev (fun _ => fJ (ZG l)) _
    unfold fJ
    exact Ev.yes (small _ (by rw [(gq l).length_eq]; exact hl) (fun p hp => h12 p ((gq l).mem_iff.1 hp))) (Ev.pure _))
   exact Ev.bind e1 (Ev.bind e2 (Ev.pure _))
 | p :: r, i, h => by
   have a := zl h (by rw [zd]; omega)
   have hlt := a.lt
   have hp := h12 p a.mem
   have ih := jg l hl h12 r (i + 1) a.next
   have et : l.take (i + 1) = l.take i ++ [p] := by
    rw [List.take_add_one, List.getElem?_eq_getElem hlt]
    have := a.gt []
    simp [List.getD, hlt] at this
    rw [this]; rfl
   rw [et] at ih
   refine Ev.step (fun k => jh k _ _ _ _) ?_
   simp only [a.g, a.z, a.get, a.w, cond_true]
   exact Ev.bind (yL p hp) (Ev.yes (by rw [za]; exact decide_eq_true (by simp; omega)) ih)
theorem f7 (l : Packs) (hl : l.length ≤ 16777216) (h12 : ∀ p ∈ l, p.length ≤ 1048576) : Ev (fun k => fA k l) (setL l) :=
 Ev.step (fun k => Ws k l) (jg l hl h12 l 0 rfl)
def gb (out : Packs) (x : List Int) : Packs := if out.length = 0 then [x] else if out.getD (out.length - 1) [] = x then out else out ++ [x]
theorem Z3 (out : Packs) (x : List Int) : (gb out x).length ≤ out.length + 1 := by
 unfold gb
 split
 ·simp
 ·split <;> simp
theorem WF {out : Packs} {x : List Int} (h : SS out) (hx : ∀ o ∈ out, leI o x = true) : SS (gb out x) ∧ ∀ z, z ∈ gb out x ↔ z ∈ out ∨ z = x := by
 unfold gb
 split
 ·rename_i h0
  have : out = [] := List.length_eq_zero_iff.1 h0
  subst this
  exact ⟨List.pairwise_singleton _ _, fun z => by simp⟩
 ·rename_i h0
  obtain ⟨init, l, rfl⟩ : ∃ init l, out = init ++ [l] := by
   rcases List.eq_nil_or_concat out with h | ⟨i, l, h⟩
   ·subst h; simp at h0
   ·exact ⟨i, l, by rw [h]; simp⟩
  have el : (init ++ [l]).getD ((init ++ [l]).length - 1) [] = l := by simp [List.getD]
  rw [el]
  split
  ·rename_i e
   subst e
   exact ⟨h, fun z => ⟨.inl, fun hz => hz.elim id fun e => by simp [e]⟩⟩
  ·rename_i e
   have hlt : cmpI l x < 0 := VS (hx l (by simp)) e
   refine ⟨?_, fun z => by simp [or_assoc]⟩
   refine List.pairwise_append.2 ⟨h, List.pairwise_singleton _ _, fun o ho y hy => ?_⟩
   have : y = x := by simpa using hy
   subst this
   rcases List.mem_append.1 ho with ho | ho
   ·exact vF _ _ _ ((List.pairwise_append.1 h).2.2 o ho l (by simp)) hlt
   ·have : o = l := by simpa using ho
    subst this; exact hlt
def ul : Packs → Packs → Packs → Packs
 | [], [], out => out
 | x :: a, [], out => ul a [] (gb out x)
 | [], y :: b, out => ul [] b (gb out y)
 | x :: a, y :: b, out => if Wr y x then ul (x :: a) b (gb out y) else ul a (y :: b) (gb out x)
termination_by a b => a.length + b.length
theorem cX : ∀ (n : Nat) (a b out : Packs), a.length + b.length = n → a.Pairwise (fun x y => leI x y = true) → b.Pairwise (fun x y => leI x y = true) → SS out → (∀ o ∈ out, ∀ z, z ∈ a ∨ z ∈ b → leI o z = true) →
 SS (ul a b out) ∧ ∀ z, z ∈ ul a b out ↔ z ∈ out ∨ z ∈ a ∨ z ∈ b
 | n, a, b, out, hn, ha, hb, ho, hz => by
   match a, b, n, hn, ha, hb with
   | [], [], _, _, _, _ => unfold ul; exact ⟨ho, fun z => by simp⟩
   | x :: a, [], n + 1, hn, ha, hb =>
     obtain ⟨a1, a2⟩ := List.pairwise_cons.1 ha
     obtain ⟨p1, p2⟩ := WF ho (fun o h => hz o h x (by simp))
     unfold ul
     obtain ⟨q1, q2⟩ := cX n a [] (gb out x) (by simp at hn ⊢; omega) a2 hb p1 (fun o h z hz' => by
      rcases (p2 o).1 h with h | rfl
      ·exact hz o h z (by rcases hz' with h | h; exact .inl (by simp [h]); exact .inr h)
      ·rcases hz' with h | h
       ·exact a1 z h
       ·cases h)
     exact ⟨q1, fun z => by rw [q2, p2]; simp [or_assoc]⟩
   | [], y :: b, n + 1, hn, ha, hb =>
     obtain ⟨b1, b2⟩ := List.pairwise_cons.1 hb
     obtain ⟨p1, p2⟩ := WF ho (fun o h => hz o h y (by simp))
     unfold ul
     obtain ⟨q1, q2⟩ := cX n [] b (gb out y) (by simp at hn ⊢; omega) ha b2 p1 (fun o h z hz' => by
      rcases (p2 o).1 h with h | rfl
      ·exact hz o h z (by rcases hz' with h | h; exact .inl h; exact .inr (by simp [h]))
      ·rcases hz' with h | h
       ·cases h
       ·exact b1 z h)
     exact ⟨q1, fun z => by rw [q2, p2]; simp [or_assoc]⟩
   | x :: a, y :: b, n + 1, hn, ha, hb =>
     obtain ⟨a1, a2⟩ := List.pairwise_cons.1 ha
     obtain ⟨b1, b2⟩ := List.pairwise_cons.1 hb
     unfold ul
     split
     ·rename_i c
      rw [Lm] at c
      have hyx : leI y x = true := le_of_lt (of_decide_eq_true c)
      obtain ⟨p1, p2⟩ := WF ho (fun o h => hz o h y (by simp))
      obtain ⟨q1, q2⟩ := cX n (x :: a) b (gb out y) (by simp at hn ⊢; omega) ha b2 p1 (fun o h z hz' => by
       rcases (p2 o).1 h with h | rfl
       ·exact hz o h z (by rcases hz' with h | h; exact .inl h; exact .inr (by simp [h]))
       ·rcases hz' with h | h
        ·rcases List.mem_cons.1 h with rfl | h
         ·exact hyx
         ·exact VW _ _ _ hyx (a1 z h)
        ·exact b1 z h)
      refine ⟨q1, fun z => ?_⟩
      rw [q2, p2]
      simp only [List.mem_cons]
      constructor
      ·rintro ((h | h) | (h | h) | h) <;> simp [h]
      ·rintro (h | (h | h) | h | h) <;> simp [h]
     ·rename_i c
      rw [Lm] at c
      have hxy : leI x y = true := Pn.2 (by simpa using c)
      obtain ⟨p1, p2⟩ := WF ho (fun o h => hz o h x (by simp))
      obtain ⟨q1, q2⟩ := cX n a (y :: b) (gb out x) (by simp at hn ⊢; omega) a2 hb p1 (fun o h z hz' => by
       rcases (p2 o).1 h with h | rfl
       ·exact hz o h z (by rcases hz' with h | h; exact .inl (by simp [h]); exact .inr h)
       ·rcases hz' with h | h
        ·exact a1 z h
        ·rcases List.mem_cons.1 h with rfl | h
         ·exact hxy
         ·exact VW _ _ _ hxy (b1 z h))
      refine ⟨q1, fun z => ?_⟩
      rw [q2, p2]
      simp only [List.mem_cons]
      constructor
      ·rintro ((h | h) | h | h | h) <;> simp [h]
      ·rintro (h | (h | h) | h | h) <;> simp [h]
theorem Hs {l : Packs} (h : SS l) : l.Pairwise (fun x y => leI x y = true) := h.imp fun h => le_of_lt h
theorem Tz {a b : Packs} (ha : SS a) (hb : SS b) : ul a b [] = setL (a ++ b) := by
 obtain ⟨h1, h2⟩ := cX _ a b [] rfl (Hs ha) (Hs hb) List.Pairwise.nil (fun o h => by cases h)
 exact Sa h1 fun z => by rw [h2]; simp
theorem KI (out : Packs) : out.set (out.length - 1) (out.getD (out.length - 1) []) = out := by
 apply List.ext_getElem
 ·simp
 ·intro i h1 h2
  rw [List.getElem_set]
  split
  ·rename_i e
   subst e
   simp [List.getD, h2]
  ·rfl
theorem Sv {C : Nat → Packs → Option Packs} {z : Packs} (out : Packs) (x : List Int) (hx : x.length ≤ 1048576) (ho : out.length ≤ 4194304) (h12 : ∀ p ∈ out, p.length ≤ 1048576) (h : Ev (fun k => C k (gb out x)) z) :
 Ev (fun k => bif ((out.length : Int) == (0 : Int)) then
     (bif decide (([] : List Int).length + x.length ≤ rowMax) then
       (bif decide (out.length + ([(([] : List Int) ++ x)]).length ≤ rowMax) then C k (out ++ ([(([] : List Int) ++ x)])) else none) else none)
  else (bif decide (0 ≤ (IntKind.i64.wrap ((out.length : Int) - (1 : Int)))) then
   (bif decide ((IntKind.i64.wrap ((out.length : Int) - (1 : Int))) < (out.length : Int)) then
     (bif decide ((IntKind.i64.wrap ((out.length : Int) - (1 : Int))).toNat < out.length) then
       ((zW k ((out.getD (IntKind.i64.wrap ((out.length : Int) - (1 : Int))).toNat []), x)).bind fun y =>
         bif (!y) then
          (bif decide (([] : List Int).length + x.length ≤ rowMax) then
            (bif decide ((out.set (IntKind.i64.wrap ((out.length : Int) - (1 : Int))).toNat (out.getD (IntKind.i64.wrap ((out.length : Int) - (1 : Int))).toNat [])).length + ([(([] : List Int) ++ x)]).length ≤ rowMax) then
              C k ((out.set (IntKind.i64.wrap ((out.length : Int) - (1 : Int))).toNat (out.getD (IntKind.i64.wrap ((out.length : Int) - (1 : Int))).toNat [])) ++ ([(([] : List Int) ++ x)])) else none) else none)
         else C k (out.set (IntKind.i64.wrap ((out.length : Int) - (1 : Int))).toNat (out.getD (IntKind.i64.wrap ((out.length : Int) - (1 : Int))).toNat []))) else none) else none) else none)) z := by
 unfold gb at h
 refine Ev.ite (fun c => ?_) (fun c => ?_)
 ·have h0 : out.length = 0 := by have : (out.length : Int) = 0 := by simpa using c
                                 omega
  rw [if_pos h0] at h
  have e : out = [] := List.length_eq_zero_iff.1 h0
  subst e
  exact Ev.yes (by rw [za]; exact decide_eq_true (by simp; omega)) (Ev.yes (by rw [za]; simp) h)
 ·have h0 : ¬ out.length = 0 := by have : ¬ (out.length : Int) = 0 := by simpa using c
                                   omega
  rw [if_neg h0] at h
  have e : ((out.length : Int) - 1) = ((out.length - 1 : Nat) : Int) := by omega
  have hl : (out.getD (out.length - 1) []).length ≤ 1048576 := by
   have : out.length - 1 < out.length := by omega
   rw [List.getD, List.getElem?_eq_getElem this]
   exact h12 _ (List.getElem_mem this)
  simp only [e, zf (x := ((out.length - 1 : Nat) : Int)) (by omega) (by omega), Int.toNat_natCast, KI]
  refine Ev.yes (by simp) (Ev.yes (by simp; omega) (Ev.yes (by simp; omega) (Ev.bind (YV _ x (by rw [zd]; omega) (by rw [zd]; omega)) (Ev.ite (fun c2 => ?_) (fun c2 => ?_)))))
  ·have : ¬ out.getD (out.length - 1) [] = x := by simpa using c2
   rw [if_neg this] at h
   exact Ev.yes (by rw [za]; exact decide_eq_true (by simp; omega)) (Ev.yes (by rw [za]; exact decide_eq_true (by simp; omega)) h)
  ·have : out.getD (out.length - 1) [] = x := by simpa using c2
   rw [if_pos this] at h
   exact h
theorem fj {out : Packs} {x : List Int} (hx : x.length ≤ 1048576) (h12 : ∀ p ∈ out, p.length ≤ 1048576) : ∀ p ∈ gb out x, p.length ≤ 1048576 := fun p hp => by
 unfold gb at hp
 split at hp
 ·have : p = x := by simpa using hp
  subst this; exact hx
 ·split at hp
  ·exact h12 p hp
  ·rcases List.mem_append.1 hp with h | h
   ·exact h12 p h
   ·have : p = x := by simpa using h
    subst this; exact hx
theorem ZF {α : Type} (l : List α) : l.take ((l.length : Int)).toNat = l := by simp
theorem xE : ∀ (n : Nat) (a b out : Packs), a.length + b.length = n → out.length + n ≤ 4194304 → (∀ p ∈ a, p.length ≤ 1048576) → (∀ p ∈ b, p.length ≤ 1048576) → (∀ p ∈ out, p.length ≤ 1048576) →
 Ev (fun k => zg k a b out) (ul a b out)
 | 0, a, b, out, hn, hl, h1, h2, h3 => by
   have ea : a = [] := List.length_eq_zero_iff.1 (by omega)
   have eb : b = [] := List.length_eq_zero_iff.1 (by omega)
   subst ea eb
   unfold ul
   exact Ev.step (fun k => wz k _ _ _) (Ev.no (by (first | (simp; done) | (simp; omega) | omega)) (Ev.no (by (first | (simp; done) | (simp; omega) | omega)) (Ev.pure _)))
 | n + 1, [], [], out, hn, hl, h1, h2, h3 => by simp at hn
 | n + 1, x :: a, [], out, hn, hl, h1, h2, h3 => by
   have hx := h1 x (by simp)
   have hp := Z3 out x
   have ih := xE n a [] (gb out x) (by simp at hn ⊢; omega) (by omega) (fun p hp => h1 p (by simp [hp])) h2 (fj hx h3)
   unfold ul
   refine Ev.step (fun k => wz k _ _ _) ?_
   simp only [ZF, List.getD_cons_zero, List.drop_succ_cons, List.drop_zero]
   refine Ev.yes (by (first | (simp; done) | (simp; omega) | omega)) (Ev.yes (by (first | (simp; done) | (simp; omega) | omega)) (Ev.yes (by (first | (simp; done) | (simp; omega) | omega)) (Ev.yes (by (first | (simp; done) | (simp; omega) | omega)) (Ev.yes (by (first | (simp; done) | (simp; omega) | omega)) ?_))))
   exact Sv (C := fun k o => zg k a [] o) out x hx (by omega) h3 ih
 | n + 1, [], y :: b, out, hn, hl, h1, h2, h3 => by
   have hy := h2 y (by simp)
   have hp := Z3 out y
   have ih := xE n [] b (gb out y) (by simp at hn ⊢; omega) (by omega) h1 (fun p hp => h2 p (by simp [hp])) (fj hy h3)
   unfold ul
   refine Ev.step (fun k => wz k _ _ _) ?_
   simp only [ZF, List.getD_cons_zero, List.drop_succ_cons, List.drop_zero]
   refine Ev.no (by (first | (simp; done) | (simp; omega) | omega)) (Ev.yes (by (first | (simp; done) | (simp; omega) | omega)) (Ev.no (by (first | (simp; done) | (simp; omega) | omega)) (Ev.no (by (first | (simp; done) | (simp; omega) | omega)) (Ev.yes (by (first | (simp; done) | (simp; omega) | omega)) (Ev.yes (by (first | (simp; done) | (simp; omega) | omega)) (Ev.yes (by (first | (simp; done) | (simp; omega) | omega)) ?_))))))
   exact Sv (C := fun k o => zg k [] b o) out y hy (by omega) h3 ih
 | n + 1, x :: a, y :: b, out, hn, hl, h1, h2, h3 => by
   have hx := h1 x (by simp)
   have hy := h2 y (by simp)
   have hp := Z3 out x
   have hp2 := Z3 out y
   have ihx := xE n a (y :: b) (gb out x) (by simp at hn ⊢; omega) (by omega) (fun p hp => h1 p (by simp [hp])) h2 (fj hx h3)
   have ihy := xE n (x :: a) b (gb out y) (by simp at hn ⊢; omega) (by omega) h1 (fun p hp => h2 p (by simp [hp])) (fj hy h3)
   unfold ul
   refine Ev.step (fun k => wz k _ _ _) ?_
   simp only [ZF, List.getD_cons_zero, List.drop_succ_cons, List.drop_zero]
   refine Ev.yes (by (first | (simp; done) | (simp; omega) | omega)) (Ev.no (by (first | (simp; done) | (simp; omega) | omega)) (Ev.yes (by (first | (simp; done) | (simp; omega) | omega)) (Ev.yes (by (first | (simp; done) | (simp; omega) | omega)) (Ev.yes (by (first | (simp; done) | (simp; omega) | omega)) (Ev.bind (RJ y x (by rw [zd]; omega) (by rw [zd]; omega)) (Ev.ite (fun c => ?_) (fun c => ?_)))))))
   ·have : Wr y x = false := by simpa using c
    rw [this, if_neg (by simp)]
    refine Ev.yes (by (first | (simp; done) | (simp; omega) | omega)) (Ev.yes (by (first | (simp; done) | (simp; omega) | omega)) (Ev.yes (by (first | (simp; done) | (simp; omega) | omega)) ?_))
    exact Sv (C := fun k o => zg k a (y :: b) o) out x hx (by omega) h3 ihx
   ·have : Wr y x = true := by simpa using c
    rw [this, if_pos rfl]
    refine Ev.yes (by (first | (simp; done) | (simp; omega) | omega)) (Ev.yes (by (first | (simp; done) | (simp; omega) | omega)) (Ev.yes (by (first | (simp; done) | (simp; omega) | omega)) ?_))
    exact Sv (C := fun k o => zg k (x :: a) b o) out y hy (by omega) h3 ihy
theorem ZT (a b : Packs) (hl : a.length + b.length ≤ 4194304) (h1 : ∀ p ∈ a, p.length ≤ 1048576) (h2 : ∀ p ∈ b, p.length ≤ 1048576) : Ev (fun k => bR k (a, b)) (ul a b []) :=
 Ev.step (fun k => Sg k a b) (xE _ a b [] rfl (by simpa using hl) h1 h2 (fun p hp => by cases hp))
theorem half2 (n : Nat) (h : n ≤ 4194304) : IntKind.i64.wrap ((n : Int).tdiv 2) = ((n / 2 : Nat) : Int) := by
 have : (n : Int).tdiv 2 = ((n / 2 : Nat) : Int) := by rw [Int.tdiv_eq_ediv_of_nonneg (by omega)]; omega
 rw [this, zf (by omega) (by omega)]
theorem uz : ∀ (n : Nat) (l : Packs), l.length ≤ n → l.length ≤ 1048576 → (∀ p ∈ l, p.length ≤ 1048576) → Ev (fun k => wZ k l) (setL l)
 | n, l, hn, hl, h12 => by
   refine Ev.step (fun k => Wl k l) ?_
   refine Ev.ite (fun c => ?_) (fun c => ?_)
   ·have hlt : l.length < 2 := by have : (l.length : Int) < 2 := by simpa using c
                                  omega
    have hs : SS l := by
     match l, hlt with
     | [], _ => exact List.Pairwise.nil
     | [x], _ => exact List.pairwise_singleton _ _
    refine Ev.bind (ZT l [] (by simp; omega) h12 (fun p hp => by cases hp)) (Ev.some ?_)
    rw [Tz hs List.Pairwise.nil, List.append_nil]
   ·have hge : ¬ l.length < 2 := by have : ¬ (l.length : Int) < 2 := by simpa using c
                                    omega
    match n, hn with
    | 0, hn => omega
    | n + 1, hn =>
    have hA := uz n (l.take (l.length / 2)) (by simp; omega) (by simp; omega) (fun p hp => h12 p (List.mem_of_mem_take hp))
    have hB := uz n (l.drop (l.length / 2)) (by simp; omega) (by simp; omega) (fun p hp => h12 p (List.mem_of_mem_drop hp))
    have lA := gY (l.take (l.length / 2))
    have lB := gY (l.drop (l.length / 2))
    simp at lA lB
    simp only [half2 l.length (by omega), ZF, Int.toNat_natCast, List.drop_zero, List.take_length]
    refine Ev.yes (by (first | (simp; done) | (simp; omega) | omega)) (Ev.yes (by (first | (simp; done) | (simp; omega) | omega)) (Ev.bind hA (Ev.yes (by (first | (simp; done) | (simp; omega) | omega)) (Ev.yes (by (first | (simp; done) | (simp; omega) | omega)) (Ev.yes (by (first | (simp; done) | (simp; omega) | omega)) (Ev.bind hB (Ev.bind (ZT _ _ (by omega) (fun p hp => ?_) (fun p hp => ?_)) (Ev.some ?_))))))))
    ·exact h12 p (List.mem_of_mem_take ((wW _ p).1 hp))
    ·exact h12 p (List.mem_of_mem_drop ((wW _ p).1 hp))
    ·rw [Tz (Vb _) (Vb _)]
     refine Sa (Vb _) fun z => ?_
     rw [wW, List.mem_append, wW, wW, ← List.mem_append, List.take_append_drop]
end Qq
namespace Qq
open Go Go.Vt Pt
set_option linter.unusedVariables false
set_option linter.unusedSimpArgs false
end Qq
namespace Qq
open Go Go.Vt Pt
set_option linter.unusedVariables false
set_option linter.unusedSimpArgs false
end Qq
namespace Qq
open Go Go.Vt Pt
set_option linter.unusedVariables false
set_option linter.unusedSimpArgs false
abbrev Step : Type := Int × (Int × Int) × Int
abbrev Trick : Type := List Int × List Step × Int × Int × Int
abbrev Scene : Type := List Int × Int
end Qq
namespace Qq
open Go Go.Vt Pt
set_option linter.unusedVariables false
set_option linter.unusedSimpArgs false
def x6 (n : Int) (p : List Int) (noted : Bool) (c a b : Int) : Bool :=
 if c = 0 then a == 0 && b == 0 else
 if c = 4 then a == 0 && b == 0 else
 if c = 1 then noted && (decide (0 ≤ a) && (decide (a < n) && b == 0)) else
 if c = 2 then decide (0 ≤ a) && (decide (a ≤ n) && b == 0) else
 if c = 3 then decide (0 ≤ pos p a) && (decide (0 ≤ b) && decide (b < n)) else false
def vo (n : Int) (l : List Step) : Bool := l.all (zx n)
def yS (l : List Step) : Bool := l.any fun s => s.1 == 3
def zi (t : Trick) : Bool :=
 zw t.1 && (!(t.1.length == 0) && (decide (t.2.1.length ≤ 12) && (vo t.1.length t.2.1 && x6 t.1.length t.1 (yS t.2.1) t.2.2.1 t.2.2.2.1 t.2.2.2.2)))
theorem Hi (p : List Int) (st : List Step) (c a b n : Int) (nt : Bool) (hp : p.length ≤ maxLen) (hn : n = p.length) : Ev (fun k => Y5 k ((p, st, c, a, b), n, nt)) (x6 n p nt c a b) := by
 have hw : IntKind.i64.wrap (n - 1) = n - 1 := by rw [zd] at hp; exact zf (by omega) (by omega)
 refine Ev.step (fun k => Se k _ n nt) ?_
 unfold x6
 dsimp only
 rw [hw]
 refine Ev.ite (fun h => ?_) (fun h => ?_)
 ·have e : c = 0 := by simpa using h
  rw [if_pos e]
  refine Ev.ite (fun h => Ev.some ?_) (fun h => Ev.some ?_) <;> simp [h]
 have e0 : ¬ c = 0 := by simpa using h
 rw [if_neg e0]
 refine Ev.ite (fun h => ?_) (fun h => ?_)
 ·have e : c = 4 := by simpa using h
  rw [if_pos e]
  refine Ev.ite (fun h => Ev.some ?_) (fun h => Ev.some ?_) <;> simp [h]
 have e4 : ¬ c = 4 := by simpa using h
 rw [if_neg e4]
 refine Ev.ite (fun h => ?_) (fun h => ?_)
 ·have e : c = 1 := by simpa using h
  rw [if_pos e]
  refine Ev.ite (fun h => Ev.bind (wg _ _ _) (Ev.ite (fun h' => Ev.some ?_) (fun h' => Ev.some ?_))) (fun h => Ev.some ?_)
  ·have : 0 ≤ a ∧ a ≤ n - 1 := by simpa using h'
   have h2 : a < n := by omega
   simp [h, this.1, h2]
  ·rw [Bool.eq_iff_iff]; simp at h' ⊢; intros; omega
  ·simp [h]
 have e1 : ¬ c = 1 := by simpa using h
 rw [if_neg e1]
 refine Ev.ite (fun h => ?_) (fun h => ?_)
 ·have e : c = 2 := by simpa using h
  rw [if_pos e]
  refine Ev.bind (wg _ _ _) (Ev.ite (fun h' => Ev.some ?_) (fun h' => Ev.some ?_))
  ·have : 0 ≤ a ∧ a ≤ n := by simpa using h'
   simp [this.1, this.2]
  ·rw [Bool.eq_iff_iff]; simp at h' ⊢; intros; omega
 have e2 : ¬ c = 2 := by simpa using h
 rw [if_neg e2]
 refine Ev.ite (fun h => ?_) (fun h => Ev.some ?_)
 ·have e : c = 3 := by simpa using h
  rw [if_pos e]
  refine Ev.bind (uZ p a hp) (Ev.ite (fun h' => Ev.bind (wg _ _ _) (Ev.some ?_)) (fun h' => Ev.some ?_))
  ·have h3 : 0 ≤ pos p a := by simpa using h'
   rw [Bool.eq_iff_iff]; simp [h3]; intros; omega
  ·have h3 : ¬ 0 ≤ pos p a := by simpa using h'
   simp [h3]
 ·have e3 : ¬ c = 3 := by simpa using h
  rw [if_neg e3]
theorem uV (p : List Int) (c a b n : Int) (hp : p.length ≤ maxLen) (hn : n = p.length) (xs : List Step) (hm : xs.length ≤ maxLen) : ∀ (r : List Step) (i : Nat) (nt : Bool), xs.drop i = r →
 Ev (fun k => ug k n nt xs (xs.length : Int) (i : Int) p xs c a b) (vo n r && x6 n p (nt || yS r) c a b)
 | [], i, nt, h => by
   have q := zO h
   refine Ev.step (fun k => cN k _ _ _ _ _ _ _ _ _ _) ?_
   simp only [q.g, cond_false]
   exact Ev.bind (Hi p xs c a b n nt hp hn) (Ev.some (by simp [vo, yS]))
 | s :: r, i, nt, h => by
   have q := zl h hm
   refine Ev.step (fun k => cN k _ _ _ _ _ _ _ _ _ _) ?_
   simp only [q.g, q.z, q.get, q.w, cond_true]
   refine Ev.bind (Pd n s) (Ev.ite (fun h => Ev.some ?_) (fun h => Ev.ite (fun h2 => ?_) (fun h2 => ?_)))
   ·have : zx n s = false := by simpa using h
    simp [vo, this]
   ·have e : zx n s = true := by simpa using h
    refine (uV p c a b n hp hn xs hm r (i + 1) true q.next).to ?_
    simp [vo, e, h2]
   ·have e : zx n s = true := by simpa using h
    refine (uV p c a b n hp hn xs hm r (i + 1) (s.1 == 3) q.next).to ?_
    simp [vo, e, h2, yS]
theorem RW (t : Trick) (h1 : t.1.length ≤ maxLen) (h2 : t.2.1.length ≤ maxLen) : Ev (fun k => Vl k t) (zi t) := by
 obtain ⟨p, st, c, a, b⟩ := t
 unfold zi
 refine Ev.step (fun k => RX k _) (Ev.bind (Sp p h1) (Ev.ite (fun h => Ev.some ?_) (fun h => Ev.ite (fun h' => Ev.some ?_) (fun h' => Ev.ite (fun h3 => Ev.some ?_) (fun h3 => ?_)))))
 ·have : zw p = false := by simpa using h
  simp [this]
 ·have : p.length = 0 := by simp at h'; simp [h']
  simp [this]
 ·have : ¬ st.length ≤ 12 := by simp at h3; omega
  simp [this]
 ·refine (uV p c a b _ h1 rfl st h2 st 0 false rfl).to ?_
  have e1 : zw p = true := by simpa using h
  have e2 : (p.length == 0) = false := by simp at h' ⊢; exact h'
  have e3 : st.length ≤ 12 := by simp at h3; omega
  simp [e1, e3, e2]
theorem PQ (xs : List Step) (hm : xs.length ≤ maxLen) (p : List Int) (hp : p.length ≤ maxLen) (hi : Ins p) (c a b n : Int) (hn : n = p.length) : ∀ (r : List Step) (i : Nat) (nt : Bool), xs.drop i = r →
 Ev (fun k => uq k n nt xs (xs.length : Int) (i : Int) p xs c a b) (vo n r && x6 n p (nt || yS r) c a b)
 | [], i, nt, h => by
   have q := zO h
   refine Ev.step (fun k => bm k _ _ _ _ _ _ _ _ _ _) ?_
   simp only [q.g, cond_false]
   have e : (vo n [] && x6 n p (nt || yS []) c a b) = x6 n p nt c a b := by simp [vo, yS]
   rw [e]
   unfold x6
   refine Ev.ite (fun h => ?_) (fun h => ?_)
   ·have e : c = 0 := by simpa using h
    rw [if_pos e]
    refine Ev.ite (fun h => Ev.some ?_) (fun h => Ev.some ?_) <;> simp [h]
   have e0 : ¬ c = 0 := by simpa using h
   rw [if_neg e0]
   refine Ev.ite (fun h => ?_) (fun h => ?_)
   ·have e : c = 4 := by simpa using h
    rw [if_pos e]
    refine Ev.ite (fun h => Ev.some ?_) (fun h => Ev.some ?_) <;> simp [h]
   have e4 : ¬ c = 4 := by simpa using h
   rw [if_neg e4]
   refine Ev.ite (fun h => ?_) (fun h => ?_)
   ·have e : c = 1 := by simpa using h
    rw [if_pos e]
    repeat (first | (refine Ev.ite (fun h => ?_) (fun h => ?_)) | focus (refine Ev.some ?_; simp_all; done) | focus (refine Ev.some ?_; simp_all; omega))
   have e1 : ¬ c = 1 := by simpa using h
   rw [if_neg e1]
   refine Ev.ite (fun h => ?_) (fun h => ?_)
   ·have e : c = 2 := by simpa using h
    rw [if_pos e]
    repeat (first | (refine Ev.ite (fun h => ?_) (fun h => ?_)) | focus (refine Ev.some ?_; simp_all; done) | focus (refine Ev.some ?_; simp_all; omega))
   have e2 : ¬ c = 2 := by simpa using h
   rw [if_neg e2]
   refine Ev.ite (fun h => ?_) (fun h => Ev.some ?_)
   ·have e : c = 3 := by simpa using h
    rw [if_pos e]
    refine Ev.bind (bt p a hp hi) (Ev.ite (fun h' => Ev.ite (fun h2 => Ev.some ?_) (fun h2 => Ev.some ?_)) (fun h' => Ev.some ?_))
    ·have h3 : 0 ≤ pos p a := by simpa using h'
     have h4 : 0 ≤ b := by simpa using h2
     simp [h3, h4]
    ·have h4 : ¬ 0 ≤ b := by simpa using h2
     simp [h4]
    ·have h3 : ¬ 0 ≤ pos p a := by simpa using h'
     simp [h3]
   ·have e3 : ¬ c = 3 := by simpa using h
    rw [if_neg e3]
 | s :: r, i, nt, h => by
   have q := zl h hm
   refine Ev.step (fun k => bm k _ _ _ _ _ _ _ _ _ _) ?_
   simp only [q.g, q.z, q.get, q.w, cond_true]
   refine Ev.bind (Uh n s) (Ev.ite (fun h => Ev.some ?_) (fun h => Ev.ite (fun h2 => ?_) (fun h2 => ?_)))
   ·have : zx n s = false := by simpa using h
    simp [vo, this]
   ·have e : zx n s = true := by simpa using h
    refine (PQ xs hm p hp hi c a b n hn r (i + 1) true q.next).to ?_
    simp [vo, e, h2]
   ·have e : zx n s = true := by simpa using h
    refine (PQ xs hm p hp hi c a b n hn r (i + 1) (s.1 == 3) q.next).to ?_
    simp [vo, e, h2, yS]
theorem xa (t : Trick) (h1 : t.1.length ≤ maxLen) (hi : Ins t.1) (h2 : t.2.1.length ≤ maxLen) : Ev (fun k => xW k t) (zi t) := by
 obtain ⟨p, st, c, a, b⟩ := t
 unfold zi
 refine Ev.step (fun k => Qy k _) (Ev.bind (ve p h1 hi) (Ev.ite (fun h => Ev.some ?_) (fun h => Ev.ite (fun h' => Ev.some ?_) (fun h' => Ev.ite (fun h3 => Ev.some ?_) (fun h3 => ?_)))))
 ·have : zw p = false := by simpa using h
  simp [this]
 ·have : p.length = 0 := by simp at h'; simp [h']
  simp [this]
 ·have : ¬ st.length ≤ 12 := by simp at h3; omega
  simp [this]
 ·refine (PQ st h2 p h1 hi c a b _ rfl st 0 false rfl).to ?_
  have e1 : zw p = true := by simpa using h
  have e2 : (p.length == 0) = false := by simp at h' ⊢; exact h'
  have e3 : st.length ≤ 12 := by simp at h3; omega
  simp [e1, e3, e2]
def countK (b : Int → Bool) (l : List Step) : Nat := l.countP fun s => b s.1
theorem x5 (b : Int → Bool) (s : Step) (l : List Step) : countK b (s :: l) = countK b l + (if b s.1 then 1 else 0) := by unfold countK; rw [List.countP_cons]
theorem zy {t : Trick} (h : zi t = true) : t.2.1.length ≤ 12 ∧ 1 ≤ t.1.length ∧ t.1.length ≤ 12 ∧ zw t.1 = true := by
 unfold zi at h
 simp only [Bool.and_eq_true, decide_eq_true_eq] at h
 have := yw h.1
 have h2 := h.2.1
 refine ⟨h.2.2.1, ?_, this.2.2, h.1⟩
 have : ¬ t.1.length = 0 := by simpa using h2
 omega
end Qq
namespace Qq
open Go Go.Vt Pt
set_option linter.unusedVariables false
set_option linter.unusedSimpArgs false
def isUp (x : Int) : Bool := decide (-12 ≤ x) && decide (x ≤ -1)
theorem M0 (x : Int) : Ev (fun k => M4 k x) (isUp x) := Ev.step (fun k => M3 k x) (Ev.bind (wg _ _ _) (Ev.pure _))
theorem LN (x : Int) (hx : In x) : Ev (fun k => LP k x) (isUp x) := by
 refine Ev.step (fun k => LO k x) (Ev.ite (fun h => Ev.bind (xY x hx) (Ev.some ?_)) (fun h => Ev.some ?_))
 ·have h' : x < 0 := by simpa using h
  unfold isUp card
  rw [Bool.eq_iff_iff, if_neg (by omega)]
  by_cases h2 : -12 ≤ x ∧ x ≤ -1
  ·rw [if_pos h2]; simp; omega
  ·rw [if_neg h2]; simp; omega
 ·have h' : ¬ x < 0 := by simpa using h
  unfold isUp
  symm; simp; omega
def jy (p : List Int) : Nat := p.countP isUp
theorem u5 (xs : List Int) (hm : xs.length ≤ maxLen) : ∀ (r : List Int) (i : Nat) (v : Nat), xs.drop i = r → v ≤ i → Ev (fun k => ui k (v : Int) xs (xs.length : Int) (i : Int)) ((v : Int) + jy r)
 | [], i, v, h, hv => by
   have q := zO h
   refine Ev.step (fun k => cQ k _ _ _ _) ?_
   simp only [q.g, cond_false]
   exact Ev.some (by simp [jy])
 | s :: r, i, v, h, hv => by
   have q := zl h hm
   have := q.lt
   rw [zd] at hm
   refine Ev.step (fun k => cQ k _ _ _ _) ?_
   simp only [q.g, q.z, q.get, q.w, cond_true]
   have e : jy (s :: r) = jy r + (if isUp s then 1 else 0) := by unfold jy; rw [List.countP_cons]
   rw [e]
   refine Ev.bind (M0 s) (Ev.ite (fun h => ?_) (fun h => ?_))
   ·rw [zf (by omega) (by omega)]
    refine (u5 xs (by rw [zd]; exact hm) r (i + 1) (v + 1) q.next (by omega)).to ?_
    rw [if_pos h]; omega
   ·refine (u5 xs (by rw [zd]; exact hm) r (i + 1) v q.next (by omega)).to ?_
    rw [h]; simp
theorem jq (xs : List Int) (hi : Ins xs) (hm : xs.length ≤ maxLen) : ∀ (r : List Int) (i : Nat) (v : Nat), xs.drop i = r → v ≤ i → Ev (fun k => ur k (v : Int) xs (xs.length : Int) (i : Int)) ((v : Int) + jy r)
 | [], i, v, h, hv => by
   have q := zO h
   refine Ev.step (fun k => bw k _ _ _ _) ?_
   simp only [q.g, cond_false]
   exact Ev.some (by simp [jy])
 | s :: r, i, v, h, hv => by
   have q := zl h hm
   have := q.lt
   have hs : In s := hi s (List.mem_of_mem_drop (h ▸ List.mem_cons_self))
   rw [zd] at hm
   refine Ev.step (fun k => bw k _ _ _ _) ?_
   simp only [q.g, q.z, q.get, q.w, cond_true]
   have e : jy (s :: r) = jy r + (if isUp s then 1 else 0) := by unfold jy; rw [List.countP_cons]
   rw [e]
   refine Ev.bind (LN s hs) (Ev.ite (fun h => ?_) (fun h => ?_))
   ·rw [zf (by omega) (by omega)]
    refine (jq xs hi (by rw [zd]; exact hm) r (i + 1) (v + 1) q.next (by omega)).to ?_
    rw [if_pos h]; omega
   ·refine (jq xs hi (by rw [zd]; exact hm) r (i + 1) v q.next (by omega)).to ?_
    rw [h]; simp
theorem Lc (c : Int) : ∀ (r : List Int) (i a : Nat), (r.map card).Nodup → i ≤ a → a < i + r.length → (posF c i r = (a : Int) ↔ card (r.getD (a - i) 0) = c)
 | [], i, a, _, h1, h2 => by simp at h2; omega
 | y :: r, i, a, hn, h1, h2 => by
   rw [List.map_cons, List.nodup_cons] at hn
   unfold posF
   by_cases e : a = i
   ·subst e
    simp only [Nat.sub_self, List.getD_cons_zero]
    by_cases hc : card y = c
    ·simp [hc]
    ·rw [if_neg hc]
     constructor
     ·intro h
      exfalso
      have : ∀ (r : List Int) (j : Nat), a < j → posF c j r ≠ (a : Int) := by
       intro r
       induction r with
       | nil => intro j hj; show (-1 : Int) ≠ _; omega
       | cons z r ih =>
         intro j hj
         unfold posF
         split
         ·omega
         ·exact ih (j + 1) (by omega)
      exact this r (a + 1) (by omega) h
     ·intro h; exact absurd h hc
   ·have g : (y :: r).getD (a - i) 0 = r.getD (a - (i + 1)) 0 := by
     have : a - i = (a - (i + 1)) + 1 := by omega
     rw [this, List.getD_cons_succ]
    rw [g]
    have hlt : a - (i + 1) < r.length := by rw [List.length_cons] at h2; omega
    by_cases hc : card y = c
    ·rw [if_pos hc]
     constructor
     ·intro h; omega
     ·intro h
      exfalso
      apply hn.1
      rw [hc, ← h]
      rw [List.getD, List.getElem?_eq_getElem hlt]
      exact List.mem_map_of_mem (List.getElem_mem hlt)
    ·rw [if_neg hc]
     exact Lc c r (i + 1) a hn.2 (by omega) (by rw [List.length_cons] at h2; omega)
theorem Ju {p : List Int} {c a : Int} (hp : zw p = true) (hc : 0 ≤ c) (h0 : 0 ≤ a) (h1 : a < p.length) : (pos p c == a) = (card (p.getD a.toNat 0) == c) := by
 have hf := yw hp
 have := Lc c p 0 a.toNat hf.1 (by omega) (by omega)
 have e : ((a.toNat : Nat) : Int) = a := by omega
 rw [e, Nat.sub_zero] at this
 unfold pos
 rw [if_neg (by omega), Bool.eq_iff_iff]
 simpa using this
def wt (t : Trick) (c : Scene) : Bool :=
 if t.2.2.1 = 1 then decide (c.2 ≥ 0) && pos c.1 c.2 == t.2.2.2.1 else
 if t.2.2.1 = 2 then (jy c.1 : Int) == t.2.2.2.1 else
 if t.2.2.1 = 3 then pos c.1 t.2.2.2.1 == t.2.2.2.2 else
 if t.2.2.1 = 4 then c.1 == t.1 else true
theorem Po (t : Trick) (c : Scene) (a1 : t.1.length ≤ maxLen) (b1 : c.1.length ≤ maxLen) : Ev (fun k => Y4 k (t, c)) (wt t c) := by
 unfold wt
 refine Ev.step (fun k => Sd k t c) (Ev.ite (fun h => ?_) (fun h => ?_))
 ·have e : t.2.2.1 = 1 := by simpa using h
  rw [if_pos e]
  exact Ev.ite (fun h => Ev.bind (uZ c.1 c.2 b1) (Ev.some (by rw [h]; rfl))) (fun h => Ev.some (by rw [h]; rfl))
 ·have e : ¬ t.2.2.1 = 1 := by simpa using h
  rw [if_neg e]
  refine Ev.ite (fun h => ?_) (fun h => ?_)
  ·have e : t.2.2.1 = 2 := by simpa using h
   rw [if_pos e]
   refine Ev.bind (Ev.step (fun k => RZ k c.1) (u5 c.1 b1 c.1 0 0 rfl (by omega))) (Ev.some (by simp))
  ·have e : ¬ t.2.2.1 = 2 := by simpa using h
   rw [if_neg e]
   refine Ev.ite (fun h => ?_) (fun h => ?_)
   ·have e : t.2.2.1 = 3 := by simpa using h
    rw [if_pos e]
    exact Ev.bind (uZ c.1 _ b1) (Ev.pure _)
   ·have e : ¬ t.2.2.1 = 3 := by simpa using h
    rw [if_neg e]
    refine Ev.ite (fun h => ?_) (fun h => ?_)
    ·have e : t.2.2.1 = 4 := by simpa using h
     rw [if_pos e]
     exact Ev.bind (YV c.1 t.1 b1 a1) (Ev.pure _)
    ·have e : ¬ t.2.2.1 = 4 := by simpa using h
     rw [if_neg e]
     exact Ev.pure _
def xI (t : Trick) (c : Scene) : Bool := zi t && (U2 t.1 c.1 && wt t c)
theorem Lz {p q : List Int} (h : U2 p q = true) : zw q = true ∧ q.length = p.length := by
 unfold U2 at h
 simp only [Bool.and_eq_true, beq_iff_eq] at h
 exact ⟨h.2.1, h.2.2.1.symm⟩
theorem bA (t : Trick) (c : Scene) (a1 : t.1.length ≤ maxLen) (ai : Ins t.1) (a2 : t.2.1.length ≤ maxLen) (b1 : c.1.length ≤ maxLen) (bi : Ins c.1) : Ev (fun k => jW k (t, c)) (xI t c) := by
 unfold xI
 refine Ev.step (fun k => Uo k t c) (Ev.bind (xa t a1 ai a2) (Ev.ite (fun h => Ev.some ?_) (fun h => ?_)))
 ·have : zi t = false := by simpa using h
  rw [this]; rfl
 have e : zi t = true := by simpa using h
 rw [e, Bool.true_and]
 refine Ev.bind (Yw t.1 c.1 a1 ai b1 bi) (Ev.ite (fun h => Ev.some ?_) (fun h => ?_))
 ·have : U2 t.1 c.1 = false := by simpa using h
  rw [this]; rfl
 have e2 : U2 t.1 c.1 = true := by simpa using h
 rw [e2, Bool.true_and]
 obtain ⟨hq, hlen⟩ := Lz e2
 have hclaim : x6 t.1.length t.1 (yS t.2.1) t.2.2.1 t.2.2.2.1 t.2.2.2.2 = true := by
  unfold zi at e
  simp only [Bool.and_eq_true] at e
  exact e.2.2.2.2
 unfold wt
 refine Ev.ite (fun h => ?_) (fun h => ?_)
 ·have ec : t.2.2.1 = 1 := by simpa using h
  rw [if_pos ec]
  unfold x6 at hclaim
  rw [if_neg (by omega), if_neg (by omega), if_pos ec] at hclaim
  simp only [Bool.and_eq_true, decide_eq_true_eq, beq_iff_eq] at hclaim
  refine Ev.ite (fun h => ?_) (fun h => Ev.some (by rw [h]; rfl))
  have hc : 0 ≤ c.2 := by simpa using h
  have hlt : t.2.2.2.1 < (c.1.length : Int) := by rw [hlen]; exact hclaim.2.2.1
  refine Ev.yes (by simpa using hclaim.2.1) (Ev.yes (by simpa using hlt) ?_)
  have hin : In (c.1.getD t.2.2.2.1.toNat 0) := by
   have : t.2.2.2.1.toNat < c.1.length := by have := hclaim.2.1; omega
   rw [List.getD, List.getElem?_eq_getElem this]
   exact bi _ (List.getElem_mem this)
  refine Ev.bind (xY _ hin) (Ev.some ?_)
  rw [h, Bool.true_and, Ju hq hc hclaim.2.1 hlt]
 ·have e1 : ¬ t.2.2.1 = 1 := by simpa using h
  rw [if_neg e1]
  refine Ev.ite (fun h => ?_) (fun h => ?_)
  ·have e : t.2.2.1 = 2 := by simpa using h
   rw [if_pos e]
   refine Ev.bind (Ev.step (fun k => QB k c.1) (jq c.1 bi b1 c.1 0 0 rfl (by omega))) (Ev.some (by simp))
  ·have e2 : ¬ t.2.2.1 = 2 := by simpa using h
   rw [if_neg e2]
   refine Ev.ite (fun h => ?_) (fun h => ?_)
   ·have ec : t.2.2.1 = 3 := by simpa using h
    rw [if_pos ec]
    unfold x6 at hclaim
    rw [if_neg (by omega), if_neg (by omega), if_neg (by omega), if_neg (by omega), if_pos ec] at hclaim
    simp only [Bool.and_eq_true, decide_eq_true_eq] at hclaim
    have hc : 0 ≤ t.2.2.2.1 := by
     have := hclaim.1
     unfold pos at this
     split at this
     ·omega
     ·omega
    have hlt : t.2.2.2.2 < (c.1.length : Int) := by rw [hlen]; exact hclaim.2.2
    refine Ev.yes (by simpa using hclaim.2.1) (Ev.yes (by simpa using hlt) ?_)
    have hin : In (c.1.getD t.2.2.2.2.toNat 0) := by
     have : t.2.2.2.2.toNat < c.1.length := by have := hclaim.2.1; omega
     rw [List.getD, List.getElem?_eq_getElem this]
     exact bi _ (List.getElem_mem this)
    refine Ev.bind (xY _ hin) (Ev.some ?_)
    rw [Ju hq hc hclaim.2.1 hlt]
   ·have e3 : ¬ t.2.2.1 = 3 := by simpa using h
    rw [if_neg e3]
    refine Ev.ite (fun h => ?_) (fun h => ?_)
    ·have e : t.2.2.1 = 4 := by simpa using h
     rw [if_pos e]
     exact Ev.bind (uv c.1 t.1 b1 a1) (Ev.pure _)
    ·have e : ¬ t.2.2.1 = 4 := by simpa using h
     rw [if_neg e]
     exact Ev.pure _
end Qq
namespace Qq
open Go Go.Vt Pt
set_option linter.unusedVariables false
set_option linter.unusedSimpArgs false
end Qq
namespace Qq
open Go Go.Vt Pt
set_option linter.unusedVariables false
set_option linter.unusedSimpArgs false
set_option linter.unnecessarySimpa false
end Qq
namespace Qq
open Go Go.Vt Pt
set_option linter.unusedVariables false
set_option linter.unusedSimpArgs false
set_option linter.unnecessarySimpa false
def cutL (p : List Int) (k : Nat) : List Int := p.drop k ++ p.take k
def bG (p : List Int) : Packs := (List.range p.length).map (cutL p)
theorem Kf {p : List Int} {i : Nat} (hp : p.length ≤ 12) (hi : i < p.length) : MoveFit p.length (1, (i : Int)) :=
 ⟨by omega, hp, by simp, .inl (by simp; omega), fun _ => by simp; omega, fun h => by simp at h, fun h => by simp at h⟩
theorem TT (p : List Int) (i : Nat) : xf p (1, (i : Int)) = cutL p i := by simp [xf, cutL]
theorem gB (n : Nat) (f : Nat → List Int) : (List.range (n + 1)).map f = (List.range n).map f ++ [f n] := by rw [List.range_succ, List.map_append]; rfl
theorem cg (p : List Int) (hp : p.length ≤ 12) (hi : Ins p) : ∀ (m i : Nat), i + m = p.length → Ev (fun k => jI k p (p.length : Int) (i : Int) ((List.range i).map (cutL p))) (bG p)
 | 0, i, h => by
   refine Ev.step (fun k => cj k _ _ _ _) (Ev.no (by simp; omega) (Ev.some ?_))
   have : i = p.length := by omega
   rw [this]; rfl
 | m + 1, i, h => by
   have ih := cg p hp hi m (i + 1) (by omega)
   rw [gB] at ih
   have ew : IntKind.i64.wrap ((i : Int) + 1) = ((i + 1 : Nat) : Int) := by rw [zf (by omega) (by omega)]; omega
   refine Ev.step (fun k => cj k _ _ _ _) ?_
   simp only [ew]
   refine Ev.yes (by simp; omega) (Ev.bind (Tr p _ (Kf hp (by omega)) hi) ?_)
   rw [TT]
   exact Ev.yes (by rw [za]; exact decide_eq_true (by simp; omega)) ih
theorem XG (p : List Int) (hp : p.length ≤ 12) (hi : Ins p) : Ev (fun k => ZV k p) (bG p) :=
 Ev.step (fun k => RL k _) (cg p hp hi p.length 0 (by omega))
theorem X7 (p : List Int) (hp : p.length ≤ 12) (hi : Ins p) : ∀ (m i : Nat), i + m = p.length → Ev (fun k => Yr k p (p.length : Int) (i : Int) ((List.range i).map (cutL p))) (bG p)
 | 0, i, h => by
   refine Ev.step (fun k => X8 k _ _ _ _) (Ev.no (by simp; omega) (Ev.some ?_))
   have : i = p.length := by omega
   rw [this]; rfl
 | m + 1, i, h => by
   have ih := X7 p hp hi m (i + 1) (by omega)
   rw [gB] at ih
   have ew : IntKind.i64.wrap ((i : Int) + 1) = ((i + 1 : Nat) : Int) := by rw [zf (by omega) (by omega)]; omega
   refine Ev.step (fun k => X8 k _ _ _ _) ?_
   simp only [ew]
   refine Ev.yes (by simp; omega) (Ev.bind (Xd p _ (Kf hp (by omega)) hi) ?_)
   rw [TT]
   exact Ev.yes (by rw [za]; exact decide_eq_true (by simp; omega)) ih
theorem Qx (p : List Int) (hp : p.length ≤ 12) (hi : Ins p) : Ev (fun k => Nq k p) (bG p) :=
 Ev.step (fun k => LI k _) (X7 p hp hi p.length 0 (by omega))
def Pj (p : List Int) (i : Nat) : List Int := [p.getD i 0] ++ (p.take i ++ p.drop (i + 1))
def XR (p : List Int) : Packs := (List.range p.length).map (Pj p)
theorem ap (p : List Int) (hp : p.length ≤ 12) : ∀ (m i : Nat), i + m = p.length → Ev (fun k => fa k p p (p.length : Int) (i : Int) ((List.range i).map (Pj p))) (XR p)
 | 0, i, h => by
   refine Ev.step (fun k => aq k _ _ _ _ _) (Ev.no (by simp; omega) (Ev.some ?_))
   have : i = p.length := by omega
   rw [this]; rfl
 | m + 1, i, h => by
   have ih := ap p hp m (i + 1) (by omega)
   rw [gB] at ih
   have ew : IntKind.i64.wrap ((i : Int) + 1) = ((i + 1 : Nat) : Int) := by rw [zf (by omega) (by omega)]; omega
   refine Ev.step (fun k => aq k _ _ _ _ _) ?_
   simp only [ew, xh, Int.toNat_natCast, List.take_length, List.drop_zero, List.nil_append]
   refine Ev.yes (by simp; omega) ?_
   (repeat (first | refine Ev.yes (by (first | (simp [za]; done) | (simp [za]; omega) | omega)) ?_ | refine Ev.no (by (first | (simp [za]; done) | (simp [za]; omega) | omega)) ?_))
   exact ih
theorem X9 (p : List Int) (hp : p.length ≤ 12) : ∀ (m i : Nat), i + m = p.length → Ev (fun k => Ys k p (p.length : Int) (i : Int) ((List.range i).map (Pj p))) (XR p, true)
 | 0, i, h => by
   refine Ev.step (fun k => Wa k _ _ _ _) (Ev.no (by simp; omega) (Ev.some ?_))
   have : i = p.length := by omega
   rw [this]; rfl
 | m + 1, i, h => by
   have ih := X9 p hp m (i + 1) (by omega)
   rw [gB] at ih
   have hil : i < p.length := by omega
   have ew : IntKind.i64.wrap ((i : Int) + 1) = ((i + 1 : Nat) : Int) := by rw [zf (by omega) (by omega)]; omega
   refine Ev.step (fun k => Wa k _ _ _ _) ?_
   simp only [ew, xh, Int.toNat_natCast, List.take_length, List.drop_zero, List.nil_append]
   refine Ev.yes (by simp; omega) ?_
   (repeat (first | refine Ev.yes (by (first | (simp [za]; done) | (simp [za]; omega) | omega)) ?_ | refine Ev.no (by (first | (simp [za]; done) | (simp [za]; omega) | omega)) ?_))
   have e1 : (p.take (i + 1)).drop i = [p.getD i 0] := by
    rw [List.take_add_one, List.getElem?_eq_getElem hil, List.drop_append_of_le_length (by simp; omega), List.drop_eq_nil_of_le (by simp; omega)]
    simp [List.getD, hil]
   refine Ev.bind ((US [(p.take (i + 1)).drop i, p.take i, p.drop (i + 1)] (by rw [zd]; simp) (by simp; omega)).to (show _ = Pj p i by rw [e1]; simp [Pj])) ?_
   exact Ev.yes (by rw [za]; exact decide_eq_true (by simp; omega)) ih
def wv : List Int → List Int → List Int → Packs
 | d, [], [] => [d]
 | d, x :: a, [] => wv (d ++ [x]) a []
 | d, [], y :: b => wv (d ++ [y]) [] b
 | d, x :: a, y :: b => wv (d ++ [x]) a (y :: b) ++ wv (d ++ [y]) (x :: a) b
termination_by _ a b => a.length + b.length
theorem Tj : ∀ (n : Nat) (d a b : List Int), a.length + b.length = n → (wv d a b).length ≤ 2 ^ n
 | n, d, [], [], h => by unfold wv; simp; exact Nat.one_le_two_pow
 | n + 1, d, x :: a, [], h => by
   unfold wv
   have := Tj n (d ++ [x]) a [] (by simp at h ⊢; omega)
   rw [Nat.pow_succ]; omega
 | n + 1, d, [], y :: b, h => by
   unfold wv
   have := Tj n (d ++ [y]) [] b (by simp at h ⊢; omega)
   rw [Nat.pow_succ]; omega
 | n + 1, d, x :: a, y :: b, h => by
   unfold wv
   have h1 := Tj n (d ++ [x]) a (y :: b) (by simp at h ⊢; omega)
   have h2 := Tj n (d ++ [y]) (x :: a) b (by simp at h ⊢; omega)
   rw [List.length_append, Nat.pow_succ]; omega
 | 0, d, x :: a, _, h => by simp at h
 | 0, d, [], y :: b, h => by simp at h
theorem wX : ∀ (n : Nat) (out : Packs) (d a b : List Int), a.length + b.length = n → d.length + n ≤ 100 → out.length + 2 ^ n ≤ 1048576 → Ev (fun k => wb k (out, d, a, b)) (out ++ wv d a b)
 | n, out, d, [], [], h, hd, ho => by
   have : 1 ≤ 2 ^ n := Nat.one_le_two_pow
   unfold wv
   refine Ev.step (fun k => uH k _ _ _ _) (Ev.yes (by (first | (simp [za]; done) | (simp [za]; omega) | omega)) (Ev.yes (by (first | (simp [za]; done) | (simp [za]; omega) | omega)) (Ev.yes (by rw [za]; exact decide_eq_true (by simp; omega)) (Ev.pure _))))
 | n + 1, out, d, x :: a, [], h, hd, ho => by
   rw [Nat.pow_succ] at ho
   have ih := wX n out (d ++ [x]) a [] (by simp at h ⊢; omega) (by simp; omega) (by omega)
   unfold wv
   refine Ev.step (fun k => uH k _ _ _ _) ?_
   simp only [xh, List.nil_append, List.getD_cons_zero, List.drop_succ_cons, List.drop_zero]
   refine Ev.no (by (first | (simp [za]; done) | (simp [za]; omega) | omega)) (Ev.yes (by (first | (simp [za]; done) | (simp [za]; omega) | omega)) (Ev.yes (by (first | (simp [za]; done) | (simp [za]; omega) | omega)) (Ev.yes (by (first | (simp [za]; done) | (simp [za]; omega) | omega)) (Ev.yes (by (first | (simp [za]; done) | (simp [za]; omega) | omega)) (Ev.yes (by (first | (simp [za]; done) | (simp [za]; omega) | omega)) (Ev.yes (by (first | (simp [za]; done) | (simp [za]; omega) | omega)) (Ev.bind ih (Ev.no (by (first | (simp [za]; done) | (simp [za]; omega) | omega)) (Ev.pure _)))))))))
 | n + 1, out, d, [], y :: b, h, hd, ho => by
   rw [Nat.pow_succ] at ho
   have ih := wX n out (d ++ [y]) [] b (by simp at h ⊢; omega) (by simp; omega) (by omega)
   unfold wv
   refine Ev.step (fun k => uH k _ _ _ _) ?_
   simp only [xh, List.nil_append, List.getD_cons_zero, List.drop_succ_cons, List.drop_zero]
   refine Ev.yes (by (first | (simp [za]; done) | (simp [za]; omega) | omega)) (Ev.no (by (first | (simp [za]; done) | (simp [za]; omega) | omega)) (Ev.no (by (first | (simp [za]; done) | (simp [za]; omega) | omega)) (Ev.yes (by (first | (simp [za]; done) | (simp [za]; omega) | omega)) (Ev.yes (by (first | (simp [za]; done) | (simp [za]; omega) | omega)) (Ev.yes (by (first | (simp [za]; done) | (simp [za]; omega) | omega)) (Ev.yes (by (first | (simp [za]; done) | (simp [za]; omega) | omega)) (Ev.yes (by (first | (simp [za]; done) | (simp [za]; omega) | omega)) (Ev.yes (by (first | (simp [za]; done) | (simp [za]; omega) | omega)) (Ev.bind ih (Ev.pure _))))))))))
 | n + 1, out, d, x :: a, y :: b, h, hd, ho => by
   rw [Nat.pow_succ] at ho
   have hl := Tj n (d ++ [x]) a (y :: b) (by simp at h ⊢; omega)
   have i1 := wX n out (d ++ [x]) a (y :: b) (by simp at h ⊢; omega) (by simp; omega) (by omega)
   have i2 := wX n (out ++ wv (d ++ [x]) a (y :: b)) (d ++ [y]) (x :: a) b (by simp at h ⊢; omega) (by simp; omega) (by simp; omega)
   unfold wv
   refine Ev.step (fun k => uH k _ _ _ _) ?_
   simp only [xh, List.nil_append, List.getD_cons_zero, List.drop_succ_cons, List.drop_zero]
   refine Ev.no (by (first | (simp [za]; done) | (simp [za]; omega) | omega)) (Ev.yes (by (first | (simp [za]; done) | (simp [za]; omega) | omega)) (Ev.yes (by (first | (simp [za]; done) | (simp [za]; omega) | omega)) (Ev.yes (by (first | (simp [za]; done) | (simp [za]; omega) | omega)) (Ev.yes (by (first | (simp [za]; done) | (simp [za]; omega) | omega)) (Ev.yes (by (first | (simp [za]; done) | (simp [za]; omega) | omega)) (Ev.yes (by (first | (simp [za]; done) | (simp [za]; omega) | omega)) (Ev.bind i1 ?_)))))))
   refine Ev.yes (by (first | (simp [za]; done) | (simp [za]; omega) | omega)) (Ev.yes (by (first | (simp [za]; done) | (simp [za]; omega) | omega)) (Ev.yes (by (first | (simp [za]; done) | (simp [za]; omega) | omega)) (Ev.yes (by (first | (simp [za]; done) | (simp [za]; omega) | omega)) (Ev.yes (by (first | (simp [za]; done) | (simp [za]; omega) | omega)) (Ev.yes (by (first | (simp [za]; done) | (simp [za]; omega) | omega)) (Ev.bind i2 (Ev.some (by simp))))))))
 | 0, out, d, x :: a, _, h, hd, ho => by simp at h
 | 0, out, d, [], y :: b, h, hd, ho => by simp at h
end Qq
namespace Qq
open Go Go.Vt Pt
set_option linter.unusedVariables false
set_option linter.unusedSimpArgs false
def rfi : Nat → Nat → List Bool → List Nat
 | _, _, [] => []
 | f, s, true :: r => s :: rfi f (s + 1) r
 | f, s, false :: r => f :: rfi (f + 1) s r
def zP : List Bool → Nat
 | [] => 0 | true :: r => zP r | false :: r => zP r + 1
def wq : List Bool → Nat
 | [] => 0 | true :: r => wq r + 1 | false :: r => wq r
def xM : Nat → Nat → List Bool
 | 0, _ => [] | m + 1, w => Nat.beq (w % 2) 1 :: xM m (w / 2)
def Pi (n w : Nat) : List Nat := rfi 0 (zP (xM n w)) (xM n w)
def decGo : Nat → Option Nat → List Nat → Nat
 | _, _, [] => 0
 | i, none, x :: r => bif Nat.beq x i then decGo (i + 1) none r else 2 ^ i + decGo (i + 1) (some x) r
 | i, some s, x :: r => (bif Nat.ble s x then 2 ^ i else 0) + decGo (i + 1) (some s) r
def isIdB : Nat → List Nat → Bool
 | _, [] => true | i, x :: r => Nat.beq x i && isIdB (i + 1) r
def wellW (w : Nat) : Bool := !isIdB 0 (Pi 12 w)
theorem riff12 : ((List.range 4096).all fun w => isIdB 0 (Pi 12 w) || Nat.beq (decGo 0 none (Pi 12 w)) w) = true := by kernel_rfl
theorem R5 : ((List.range 4096).filter wellW).length = 4083 := by kernel_rfl
theorem Qe {α : Type} [DecidableEq α] : ∀ {l m : List α}, l.Nodup → (∀ x ∈ l, x ∈ m) → l.length ≤ m.length
 | [], m, _, _ => Nat.zero_le _
 | x :: l, m, h, hs => by
   obtain ⟨h1, h2⟩ := List.nodup_cons.1 h
   have hx := hs x (by simp)
   have := Qe (l := l) (m := m.erase x) h2 fun y hy => (List.mem_erase_of_ne (fun e => h1 (by rw [e] at hy; exact hy))).2 (hs y (by simp [hy]))
   rw [List.length_erase_of_mem hx] at this
   have : 0 < m.length := List.length_pos_of_mem hx
   simp; omega
end Qq
namespace Qq
open Go Go.Vt Pt
set_option linter.unusedVariables false
set_option linter.unusedSimpArgs false
set_option linter.unnecessarySimpa false
theorem gS : ∀ (m w : Nat), (xM m w).length = m
 | 0, _ => rfl
 | m + 1, w => by rw [xM, List.length_cons, gS]
theorem Xx : ∀ l : List Bool, zP l + wq l = l.length
 | [] => rfl
 | true :: r => by have := Xx r; simp [zP, wq]; omega
 | false :: r => by have := Xx r; simp [zP, wq]; omega
def rfp (p : List Int) : Nat → Nat → List Bool → List Int
 | _, _, [] => []
 | f, s, true :: r => p.getD s 0 :: rfp p f (s + 1) r
 | f, s, false :: r => p.getD f 0 :: rfp p (f + 1) s r
def VB (p : List Int) (w : Nat) : List Int := rfp p 0 (zP (xM p.length w)) (xM p.length w)
theorem Jd (w i : Nat) : w / 2 ^ i / 2 = w / 2 ^ (i + 1) := by rw [Nat.div_div_eq_div_mul, Nat.pow_succ]
theorem TZ (m w i : Nat) : xM (m + 1) (w / 2 ^ i) = Nat.beq (w / 2 ^ i % 2) 1 :: xM m (w / 2 ^ (i + 1)) := by rw [xM, Jd]
theorem f5 (p : List Int) (hp : p.length ≤ 12) (w : Nat) (hw : w ≤ 4096) : ∀ (m i f s : Nat) (out : List Int), i + m = p.length → f + zP (xM m (w / 2 ^ i)) ≤ p.length → s + wq (xM m (w / 2 ^ i)) ≤ p.length → out.length ≤ i →
 Ev (fun k => um k p (w : Int) (f : Int) (s : Int) (p.length : Int) (i : Int) out) (out ++ rfp p f s (xM m (w / 2 ^ i)))
 | 0, i, f, s, out, h, hf, hs, ho => by
   refine Ev.step (fun k => bf k _ _ _ _ _ _ _) (Ev.no (by simp; omega) (Ev.some ?_))
   simp [xM, rfp]
 | m + 1, i, f, s, out, h, hf, hs, ho => by
   have ih := fun f s out => f5 p hp w hw m (i + 1) f s out (by omega)
   have ew : ∀ j : Nat, j ≤ 12 → IntKind.i64.wrap ((j : Int) + 1) = ((j + 1 : Nat) : Int) := fun j hj => by rw [zf (by omega) (by omega)]; omega
   rw [TZ] at hf hs ⊢
   refine Ev.step (fun k => bf k _ _ _ _ _ _ _) ?_
   simp only [Rd w i (by omega) (by omega), ew i (by omega)]
   simp only [Int.toNat_natCast]
   refine Ev.yes (by simp; omega) (Ev.yes (by simp) ?_)
   cases hb : Nat.beq (w / 2 ^ i % 2) 1 with
   | true =>
     rw [hb] at hf hs
     have hb' := Nat.eq_of_beq_eq_true hb
     simp only [zP, wq] at hf hs
     rw [ew s (by omega)]
     refine Ev.yes (by rw [hb']; rfl) (Ev.yes (by simp) (Ev.yes (by simp; omega) (Ev.yes (by rw [za]; exact decide_eq_true (by simp; omega)) ?_)))
     exact (ih f (s + 1) (out ++ [p.getD s 0]) (by omega) (by omega) (by simp; omega)).to (by simp [rfp])
   | false =>
     rw [hb] at hf hs
     have hb' : ¬ w / 2 ^ i % 2 = 1 := fun e => by rw [e] at hb; cases hb
     simp only [zP, wq] at hf hs
     rw [ew f (by omega)]
     have h0 : w / 2 ^ i % 2 = 0 := by omega
     refine Ev.no (by rw [h0]; rfl) (Ev.yes (by simp) (Ev.yes (by simp; omega) (Ev.yes (by rw [za]; exact decide_eq_true (by simp; omega)) ?_)))
     exact (ih (f + 1) s (out ++ [p.getD f 0]) (by omega) (by omega) (by simp; omega)).to (by simp [rfp])
theorem uA (p : List Int) (hp : p.length ≤ 12) (w : Nat) (hw : w ≤ 4096) : ∀ (m i z : Nat), i + m = p.length → z ≤ i →
 Ev (fun k => jQ k p (w : Int) 0 (z : Int) (p.length : Int) (i : Int)) (rfp p 0 (z + zP (xM m (w / 2 ^ i))) (xM p.length w)) ∨ z + zP (xM m (w / 2 ^ i)) ≠ zP (xM p.length w)
 | 0, i, z, h, hz => by
   by_cases hzz : z + zP (xM 0 (w / 2 ^ i)) = zP (xM p.length w)
   ·left
    refine Ev.step (fun k => jb k _ _ _ _ _ _) (Ev.no (by simp; omega) ?_)
    have e : zP (xM 0 (w / 2 ^ i)) = 0 := rfl
    rw [e] at hzz ⊢
    have hl := Xx (xM p.length w)
    rw [gS] at hl
    have := f5 p hp w hw p.length 0 0 z [] (by omega) (by rw [Nat.pow_zero, Nat.div_one]; omega) (by rw [Nat.pow_zero, Nat.div_one]; omega) (Nat.le_refl _)
    rw [Nat.pow_zero, Nat.div_one, List.nil_append] at this
    exact this
   ·exact .inr hzz
 | m + 1, i, z, h, hz => by
   rw [TZ]
   have ew : IntKind.i64.wrap ((i : Int) + 1) = ((i + 1 : Nat) : Int) := by rw [zf (by omega) (by omega)]; omega
   cases hb : Nat.beq (w / 2 ^ i % 2) 1 with
   | true =>
     have hb' := Nat.eq_of_beq_eq_true hb
     simp only [zP]
     refine (uA p hp w hw m (i + 1) z (by omega) (by omega)).imp_left fun ih => ?_
     refine Ev.step (fun k => jb k _ _ _ _ _ _) ?_
     simp only [Rd w i (by omega) (by omega), ew, hb']
     refine Ev.yes (by simp; omega) (Ev.yes (by simp) ?_)
     have e2 : IntKind.i64.wrap ((z : Int) + IntKind.i64.wrap (1 - ((1 : Nat) : Int))) = (z : Int) := by rw [zf (x := 1 - ((1 : Nat) : Int)) (by omega) (by omega), zf (by omega) (by omega)]; omega
     rw [e2]
     exact ih
   | false =>
     have hb' : w / 2 ^ i % 2 = 0 := by
      have : ¬ w / 2 ^ i % 2 = 1 := fun e => by rw [e] at hb; cases hb
      omega
     simp only [zP]
     rw [show z + (zP (xM m (w / 2 ^ (i + 1))) + 1) = (z + 1) + zP (xM m (w / 2 ^ (i + 1))) by omega]
     refine (uA p hp w hw m (i + 1) (z + 1) (by omega) (by omega)).imp_left fun ih => ?_
     refine Ev.step (fun k => jb k _ _ _ _ _ _) ?_
     simp only [Rd w i (by omega) (by omega), ew, hb']
     refine Ev.yes (by simp; omega) (Ev.yes (by simp) ?_)
     have e2 : IntKind.i64.wrap ((z : Int) + IntKind.i64.wrap (1 - ((0 : Nat) : Int))) = ((z + 1 : Nat) : Int) := by rw [zf (x := 1 - ((0 : Nat) : Int)) (by omega) (by omega), zf (by omega) (by omega)]; omega
     rw [e2]
     exact ih
theorem SH (p : List Int) (hp : p.length ≤ 12) (w : Nat) (hw : w ≤ 4096) : Ev (fun k => V7 k (p, (w : Int))) (VB p w) := by
 refine Ev.step (fun k => Qt k _ _) ?_
 have := uA p hp w hw p.length 0 0 (by omega) (Nat.le_refl _)
 rw [Nat.pow_zero, Nat.div_one, Nat.zero_add] at this
 exact this.resolve_right (fun h => h rfl)
def cT (p : List Int) : Packs := (List.range (2 ^ p.length)).map (VB p)
theorem P0 {n : Nat} (h : n ≤ 12) : 2 ^ n ≤ 4096 := Nat.pow_le_pow_right (by decide) h
theorem Uf (p : List Int) (hp : p.length ≤ 12) : ∀ (m i : Nat), i + m = 2 ^ p.length → Ev (fun k => WI k p (i : Int) ((List.range i).map (VB p))) (cT p, true)
 | m, i, h => by
   have h2 := P0 hp
   have e : IntKind.i64.wrap ((1 : Int) * 2 ^ (min (p.length : Int).toNat IntKind.i64.bits)) = ((2 ^ p.length : Nat) : Int) := by
    have hm : min (p.length : Int).toNat IntKind.i64.bits = p.length := by
     have : IntKind.i64.bits = 64 := rfl
     rw [this, Int.toNat_natCast]; omega
    rw [hm, Int.one_mul, show (2 : Int) ^ p.length = ((2 ^ p.length : Nat) : Int) by simp, zf (by omega) (by omega)]
   refine Ev.step (fun k => Py k _ _ _) (Ev.yes (by simp) ?_)
   rw [e]
   match m, h with
   | 0, h =>
     refine Ev.no (by simp only [decide_eq_false_iff_not]; omega) (Ev.some ?_)
     have : i = 2 ^ p.length := by omega
     rw [this]; rfl
   | m + 1, h =>
     have ih := Uf p hp m (i + 1) (by omega)
     rw [gB] at ih
     have ew : IntKind.i64.wrap ((i : Int) + 1) = ((i + 1 : Nat) : Int) := by rw [zf (by omega) (by omega)]; omega
     rw [ew]
     refine Ev.yes (by simp only [decide_eq_true_eq]; omega) (Ev.bind (SH p hp i (by omega)) (Ev.yes (by rw [za]; exact decide_eq_true (by simp; omega)) ih))
def riffsW (p : List Int) : Packs := (List.range (p.length + 1)).flatMap fun k => wv [] (p.take k) (p.drop k)
theorem SX : ∀ (n i : Nat) (p : List Int), p.length = n → ((List.range i).flatMap fun k => wv [] (p.take k) (p.drop k)).length ≤ i * 2 ^ n
 | n, 0, p, h => by simp
 | n, i + 1, p, h => by
   have h1 := SX n i p h
   have h2 := Tj n [] (p.take i) (p.drop i) (by simp; omega)
   rw [List.range_succ, List.flatMap_append, List.length_append, Nat.add_mul, Nat.one_mul]
   simp only [List.flatMap_cons, List.flatMap_nil, List.append_nil]
   omega
theorem ZR (p : List Int) (hp : p.length ≤ 12) : ∀ (m i : Nat), i + m = p.length + 1 → Ev (fun k => bP k p (i : Int) ((List.range i).flatMap fun k => wv [] (p.take k) (p.drop k))) (riffsW p)
 | 0, i, h => by
   refine Ev.step (fun k => ZS k _ _ _) (Ev.no (by simp; omega) (Ev.some ?_))
   have : i = p.length + 1 := by omega
   rw [this]; rfl
 | m + 1, i, h => by
   have ih := ZR p hp m (i + 1) (by omega)
   have e : (List.range (i + 1)).flatMap (fun k => wv [] (p.take k) (p.drop k)) = ((List.range i).flatMap fun k => wv [] (p.take k) (p.drop k)) ++ wv [] (p.take i) (p.drop i) := by
    rw [List.range_succ, List.flatMap_append]; simp
   rw [e] at ih
   have ew : IntKind.i64.wrap ((i : Int) + 1) = ((i + 1 : Nat) : Int) := by rw [zf (by omega) (by omega)]; omega
   have h2 := P0 hp
   have hl := SX p.length i p rfl
   have hl2 : i * 2 ^ p.length ≤ 13 * 4096 := Nat.mul_le_mul (by omega) h2
   refine Ev.step (fun k => ZS k _ _ _) ?_
   simp only [ew, xh, Int.toNat_natCast, List.take_length, List.drop_zero]
   refine Ev.yes (by simp; omega) ?_
   (repeat (first | refine Ev.yes (by (first | (simp [za]; done) | (simp [za]; omega) | omega)) ?_ | refine Ev.no (by (first | (simp [za]; done) | (simp [za]; omega) | omega)) ?_))
   exact Ev.bind (wX p.length _ [] _ _ (by simp; omega) (by simp; omega) (by omega)) ih
def vT : List Bool → List Int → List Int → List Int
 | true :: r, a, y :: b => y :: vT r a b
 | false :: r, x :: a, b => x :: vT r a b
 | _, _, _ => []
theorem Ti : ∀ (n : Nat) (d a b q : List Int), a.length + b.length = n → (q ∈ wv d a b ↔ ∃ bits, zP bits = a.length ∧ wq bits = b.length ∧ q = d ++ vT bits a b)
 | n, d, [], [], q, h => by
   unfold wv
   constructor
   ·intro hq
    exact ⟨[], rfl, rfl, by simpa [vT] using hq⟩
   ·rintro ⟨bits, h1, h2, rfl⟩
    have : bits = [] := by
     have := Xx bits
     simp at h1 h2
     exact List.length_eq_zero_iff.1 (by omega)
    subst this
    simp [vT]
 | n + 1, d, x :: a, [], q, h => by
   unfold wv
   rw [Ti n (d ++ [x]) a [] q (by simp at h ⊢; omega)]
   constructor
   ·rintro ⟨bits, h1, h2, rfl⟩
    exact ⟨false :: bits, by simp [zP, h1], by simpa [wq] using h2, by simp [vT]⟩
   ·rintro ⟨bits, h1, h2, rfl⟩
    match bits, h1, h2 with
    | false :: bits, h1, h2 => exact ⟨bits, by simpa [zP] using h1, by simpa [wq] using h2, by simp [vT]⟩
    | true :: bits, h1, h2 => simp [wq] at h2
    | [], h1, h2 => simp [zP] at h1
 | n + 1, d, [], y :: b, q, h => by
   unfold wv
   rw [Ti n (d ++ [y]) [] b q (by simp at h ⊢; omega)]
   constructor
   ·rintro ⟨bits, h1, h2, rfl⟩
    exact ⟨true :: bits, by simpa [zP] using h1, by simp [wq, h2], by simp [vT]⟩
   ·rintro ⟨bits, h1, h2, rfl⟩
    match bits, h1, h2 with
    | true :: bits, h1, h2 => exact ⟨bits, by simpa [zP] using h1, by simpa [wq] using h2, by simp [vT]⟩
    | false :: bits, h1, h2 => simp [zP] at h1
    | [], h1, h2 => simp [wq] at h2
 | n + 1, d, x :: a, y :: b, q, h => by
   unfold wv
   rw [List.mem_append, Ti n (d ++ [x]) a (y :: b) q (by simp at h ⊢; omega), Ti n (d ++ [y]) (x :: a) b q (by simp at h ⊢; omega)]
   constructor
   ·rintro (⟨bits, h1, h2, rfl⟩ | ⟨bits, h1, h2, rfl⟩)
    ·exact ⟨false :: bits, by simp [zP, h1], by simpa [wq] using h2, by simp [vT]⟩
    ·exact ⟨true :: bits, by simpa [zP] using h1, by simp [wq, h2], by simp [vT]⟩
   ·rintro ⟨bits, h1, h2, rfl⟩
    match bits, h1, h2 with
    | true :: bits, h1, h2 => exact .inr ⟨bits, by simpa [zP] using h1, by simpa [wq] using h2, by simp [vT]⟩
    | false :: bits, h1, h2 => exact .inl ⟨bits, by simpa [zP] using h1, by simpa [wq] using h2, by simp [vT]⟩
    | [], h1, h2 => simp [wq] at h2
 | 0, d, x :: a, _, q, h => by simp at h
 | 0, d, [], y :: b, q, h => by simp at h
theorem Z0 (p : List Int) (k : Nat) (hk : k ≤ p.length) : ∀ (bits : List Bool) (f s : Nat), f + zP bits = k → s + wq bits = p.length → rfp p f s bits = vT bits ((p.take k).drop f) (p.drop s)
 | [], f, s, h1, h2 => by unfold rfp vT; rfl
 | true :: r, f, s, h1, h2 => by
   simp only [zP, wq] at h1 h2
   have hs : s < p.length := by omega
   rw [List.drop_eq_getElem_cons hs]
   unfold rfp vT
   rw [Z0 p k hk r f (s + 1) h1 (by omega)]
   simp [List.getD, hs]
 | false :: r, f, s, h1, h2 => by
   simp only [zP, wq] at h1 h2
   have hf : f < (p.take k).length := by simp; omega
   rw [List.drop_eq_getElem_cons hf]
   unfold rfp vT
   rw [Z0 p k hk r (f + 1) s (by omega) h2]
   have : f < p.length := by omega
   simp [List.getD, this]
def nb : List Bool → Nat
 | [] => 0 | b :: r => (bif b then 1 else 0) + 2 * nb r
theorem NB : ∀ l : List Bool, xM l.length (nb l) = l ∧ nb l < 2 ^ l.length
 | [] => ⟨rfl, by decide⟩
 | b :: r => by
   obtain ⟨h1, h2⟩ := NB r
   rw [List.length_cons, xM, nb, Nat.pow_succ]
   have e1 : ((bif b then 1 else 0) + 2 * nb r) / 2 = nb r := by cases b <;> simp <;> omega
   have e2 : ((bif b then 1 else 0) + 2 * nb r) % 2 = (bif b then 1 else 0) := by cases b <;> simp <;> omega
   rw [e1, e2, h1]
   refine ⟨by cases b <;> rfl, ?_⟩
   cases b <;> simp <;> omega
theorem N4 (p q : List Int) : q ∈ cT p ↔ q ∈ riffsW p := by
 unfold cT riffsW
 rw [List.mem_map, List.mem_flatMap]
 constructor
 ·rintro ⟨w, hw, rfl⟩
  have hl := Xx (xM p.length w)
  rw [gS] at hl
  refine ⟨zP (xM p.length w), by simp; omega, ?_⟩
  rw [Ti p.length [] _ _ _ (by simp; omega)]
  refine ⟨xM p.length w, by simp; omega, by simp; omega, ?_⟩
  unfold VB
  rw [Z0 p (zP (xM p.length w)) (by omega) _ 0 _ (by omega) (by omega)]
  simp
 ·rintro ⟨k, hk, hq⟩
  have hk' : k ≤ p.length := by have := List.mem_range.1 hk; omega
  rw [Ti p.length [] _ _ _ (by simp; omega)] at hq
  obtain ⟨bits, h1, h2, rfl⟩ := hq
  simp at h1 h2
  have hl := Xx bits
  obtain ⟨b1, b2⟩ := NB bits
  have hbl : bits.length = p.length := by omega
  rw [hbl] at b1 b2
  refine ⟨nb bits, List.mem_range.2 b2, ?_⟩
  unfold VB
  rw [b1, Z0 p k hk' bits 0 _ (by omega) (by omega)]
  have : zP bits = k := by omega
  rw [this]
  simp
end Qq
namespace Qq
open Go Go.Vt Pt
set_option linter.unusedVariables false
set_option linter.unusedSimpArgs false
set_option linter.unnecessarySimpa false
theorem VC (p : List Int) : ∀ (bits : List Bool) (f s : Nat), rfp p f s bits = (rfi f s bits).map fun i => p.getD i 0
 | [], _, _ => rfl
 | true :: r, f, s => by unfold rfp rfi; rw [VC p r]; rfl
 | false :: r, f, s => by unfold rfp rfi; rw [VC p r]; rfl
theorem M9 (n : Nat) : ∀ (bits : List Bool) (f s : Nat), f + zP bits ≤ n → s + wq bits ≤ n → ∀ x ∈ rfi f s bits, x < n
 | [], _, _, _, _, x, hx => by cases hx
 | true :: r, f, s, h1, h2, x, hx => by
   simp only [zP, wq] at h1 h2
   rcases List.mem_cons.1 hx with rfl | hx
   ·omega
   ·exact M9 n r f (s + 1) h1 (by omega) x hx
 | false :: r, f, s, h1, h2, x, hx => by
   simp only [zP, wq] at h1 h2
   rcases List.mem_cons.1 hx with rfl | hx
   ·omega
   ·exact M9 n r (f + 1) s (by omega) h2 x hx
theorem TC {g : Nat → Int} {n : Nat} (hg : ∀ i j, i < n → j < n → g i = g j → i = j) : ∀ {l m : List Nat}, (∀ x ∈ l, x < n) → (∀ x ∈ m, x < n) → l.map g = m.map g → l = m
 | [], [], _, _, _ => rfl
 | [], _ :: _, _, _, h => by simp at h
 | _ :: _, [], _, _, h => by simp at h
 | x :: l, y :: m, hl, hm, h => by
   simp only [List.map_cons, List.cons.injEq] at h
   rw [hg x y (hl x (by simp)) (hm y (by simp)) h.1, TC hg (fun z hz => hl z (by simp [hz])) (fun z hz => hm z (by simp [hz])) h.2]
theorem riffs12 {p : List Int} (hl : p.length = 12) (hn : p.Nodup) : 3000 < (setL (cT p)).length := by
 have hg : ∀ i j, i < 12 → j < 12 → p.getD i 0 = p.getD j 0 → i = j := fun i j hi hj e => by
  have h1 : i < p.length := by omega
  have h2 : j < p.length := by omega
  simp only [List.getD, List.getElem?_eq_getElem h1, List.getElem?_eq_getElem h2, Option.getD_some] at e
  have hpw := List.pairwise_iff_getElem.1 (show p.Pairwise (fun a b => a ≠ b) from hn)
  rcases Nat.lt_trichotomy i j with h | h | h
  ·exact (hpw i j h1 h2 h e).elim
  ·exact h
  ·exact (hpw j i h2 h1 h e.symm).elim
 have hlt : ∀ w, ∀ x ∈ Pi 12 w, x < 12 := fun w => by
  have := Xx (xM 12 w)
  rw [gS] at this
  exact M9 12 _ 0 _ (by omega) (by omega)
 have hr : ∀ w, VB p w = (Pi 12 w).map fun i => p.getD i 0 := fun w => by unfold VB Pi; rw [hl, VC]
 have hdec : ∀ w, w < 4096 → wellW w = true → decGo 0 none (Pi 12 w) = w := fun w hw hwell => by
  have := List.all_eq_true.1 riff12 w (List.mem_range.2 hw)
  unfold wellW at hwell
  rw [Bool.not_eq_true'] at hwell
  rw [hwell, Bool.false_or] at this
  exact Nat.eq_of_beq_eq_true this
 have hnd : (((List.range 4096).filter wellW).map (VB p)).Nodup := by
  rw [List.Nodup, List.pairwise_map]
  refine List.Pairwise.imp_of_mem (fun {a b} ha hb hab e => hab ?_) ((List.nodup_range (n := 4096)).filter wellW)
  obtain ⟨a1, a2⟩ := List.mem_filter.1 ha
  obtain ⟨b1, b2⟩ := List.mem_filter.1 hb
  rw [hr, hr] at e
  have := TC hg (hlt a) (hlt b) e
  rw [← hdec a (List.mem_range.1 a1) a2, ← hdec b (List.mem_range.1 b1) b2, this]
 have := Qe hnd (m := setL (cT p)) (fun q hq => by
  obtain ⟨w, hw, rfl⟩ := List.mem_map.1 hq
  rw [wW]
  unfold cT
  rw [hl]
  exact List.mem_map.2 ⟨w, (List.mem_filter.1 hw).1, rfl⟩)
 rw [List.length_map, R5] at this
 omega
theorem M8 {p : List Int} (hp : p.length ≤ 11) : (setL (cT p)).length ≤ 2048 := by
 refine Nat.le_trans (gY _) ?_
 unfold cT
 rw [List.length_map, List.length_range]
 exact Nat.pow_le_pow_right (by decide) hp
def SV (p : List Int) : List Int := (p.take 2).reverse.map turn ++ p.drop 2
def yT (p : List Int) (c : Int) : Packs := if c = 1 then bG p else if c = 2 then cT p else if c = 3 then bG (SV p) else if c = 4 then XR p else [p]
def chOk (p : List Int) (c : Int) : Bool := zw p && (!(p.length == 0) && (decide (0 ≤ c ∧ c ≤ 4) && (!(decide (c = 3) && decide (p.length < 2)) && !(decide (c = 2) && decide (12 ≤ p.length)))))
structure ChFit (p : List Int) (c : Int) : Prop where
 ok : zw p = true
 l1 : 1 ≤ p.length
 l12 : p.length ≤ 12
 c0 : 0 ≤ c
 c4 : c ≤ 4
 c3 : c = 3 → 2 ≤ p.length
 c2 : c = 2 → p.length ≤ 11
theorem ut (p : List Int) : (SV p).length = p.length := by unfold SV; simp; omega
theorem QF {p : List Int} (hi : Ins p) : Ins (SV p) := fun x hx => by
 unfold SV at hx
 rcases List.mem_append.1 hx with h | h
 ·obtain ⟨y, hy, rfl⟩ := List.mem_map.1 h
  exact J1 (hi y (List.mem_of_mem_take (List.mem_reverse.1 hy)))
 ·exact hi x (List.mem_of_mem_drop h)
theorem fL {p : List Int} {c : Int} (hp : p.length ≤ 12) : (yT p c).length ≤ 4096 ∧ ∀ q ∈ yT p c, q.length ≤ 12 := by
 have h2 := P0 hp
 unfold yT
 split
 ·refine ⟨by unfold bG; simp; omega, fun q hq => ?_⟩
  obtain ⟨i, _, rfl⟩ := List.mem_map.1 hq
  unfold cutL; simp; omega
 split
 ·refine ⟨by unfold cT; simpa using h2, fun q hq => ?_⟩
  obtain ⟨w, _, rfl⟩ := List.mem_map.1 hq
  unfold VB
  rw [VC, List.length_map]
  have : ∀ (bits : List Bool) (f s : Nat), (rfi f s bits).length = bits.length := fun bits => by
   induction bits with
   | nil => intro f s; rfl
   | cons b r ih => intro f s; cases b <;> simp [rfi, ih]
  rw [this, gS]; exact hp
 split
 ·refine ⟨by unfold bG; simp [ut]; omega, fun q hq => ?_⟩
  obtain ⟨i, _, rfl⟩ := List.mem_map.1 hq
  unfold cutL; simp [ut]; have := ut p; omega
 split
 ·refine ⟨by unfold XR; simp; omega, fun q hq => ?_⟩
  obtain ⟨i, hi, rfl⟩ := List.mem_map.1 hq
  have := List.mem_range.1 hi
  unfold Pj; simp; omega
 ·exact ⟨by simp, fun q hq => by have : q = p := by simpa using hq
                                 rw [this]; exact hp⟩
theorem Kr {p : List Int} {c : Int} (hp : p.length ≤ 12) (c2 : c ≠ 2) : (yT p c).length ≤ 12 := by
 unfold yT
 split
 ·unfold bG; simpa using hp
 split
 ·unfold bG; simpa [ut] using hp
 split
 ·unfold XR; simpa using hp
 ·simp
theorem N0 (p : List Int) (c : Int) (h : ChFit p c) (hi : Ins p) : ∃ y, Ev (fun k => Q8 k (p, c)) y ∧ y.length ≤ 1048576 ∧ ∀ q, q ∈ y ↔ q ∈ yT p c := by
 have hp := h.l12
 by_cases c1 : c = 1
 ·refine ⟨bG p, Ev.step (fun k => gu k p c) (Ev.yes (by simp [c1]) (Ev.bind (XG p hp hi) (Ev.pure _))), by unfold bG; simp; omega, fun q => by simp [yT, c1]⟩
 by_cases c2 : c = 2
 ·refine ⟨riffsW p, Ev.step (fun k => gu k p c) (Ev.no (by simp [c1]) (Ev.yes (by simp [c2]) (ZR p hp (p.length + 1) 0 (by omega)))), ?_, fun q => by rw [← N4]; simp [yT, c2]⟩
  have := SX p.length (p.length + 1) p rfl
  have h2 := P0 hp
  have h3 : (p.length + 1) * 2 ^ p.length ≤ 13 * 4096 := Nat.mul_le_mul (by omega) h2
  unfold riffsW
  omega
 by_cases c3 : c = 3
 ·have h2 := h.c3 c3
  have hb := cI p hp hi 2 h2 true
  have e : (p.take 2).reverse.map (fun x => bif true then turn x else x) ++ p.drop 2 = SV p := rfl
  rw [e] at hb
  refine ⟨bG (SV p), Ev.step (fun k => gu k p c) (Ev.no (by simp [c1]) (Ev.no (by simp [c2]) (Ev.yes (by simp [c3]) (Ev.bind hb (Ev.bind (XG _ (by rw [ut]; exact hp) (QF hi)) (Ev.pure _)))))), by unfold bG; simp [ut]; omega, fun q => by simp [yT, c3]⟩
 by_cases c4 : c = 4
 ·refine ⟨XR p, Ev.step (fun k => gu k p c) (Ev.no (by simp [c1]) (Ev.no (by simp [c2]) (Ev.no (by simp [c3]) (Ev.yes (by simp [c4]) (ap p hp p.length 0 (by omega)))))), by unfold XR; simp; omega, fun q => by simp [yT, c4]⟩
 ·refine ⟨[p], Ev.step (fun k => gu k p c) (Ev.no (by simp [c1]) (Ev.no (by simp [c2]) (Ev.no (by simp [c3]) (Ev.no (by simp [c4]) (Ev.yes (by rw [za]; simp) (Ev.some rfl)))))), by simp, fun q => by simp [yT, c1, c2, c3, c4]⟩
theorem NY {l m : Packs} (h : ∀ q, q ∈ l ↔ q ∈ m) : setL l = setL m := Sa (Vb l) fun q => (wW l q).trans (h q)
def resOf (p : List Int) (c : Int) : Packs × Bool := if chOk p c then (setL (yT p c), true) else ([], false)
theorem K1 (p : List Int) (c : Int) (hp : p.length ≤ 12) (hi : Ins p) (h0 : 1 ≤ p.length) : Ev (fun k => J2 k (p, c)) (if (0 ≤ c ∧ c ≤ 4) ∧ ¬ (c = 3 ∧ p.length < 2) then (yT p c, true) else ([], false)) := by
 refine Ev.step (fun k => K2 k p c) ?_
 refine Ev.ite (fun e => ?_) (fun n0 => Ev.ite (fun e => ?_) (fun n1 => Ev.ite (fun e => ?_) (fun n2 => Ev.ite (fun e => ?_) (fun n3 => Ev.ite (fun e => ?_) (fun n4 => Ev.some ?_)))))
 all_goals simp only [beq_iff_eq, beq_eq_false_iff_ne, ne_eq] at *
 ·subst e
  exact Ev.bind (yL p (by omega)) (Ev.some (by simp [yT]))
 ·subst e
  exact Ev.bind (Qx p hp hi) (Ev.some (by simp [yT]))
 ·subst e
  exact (Uf p hp (2 ^ p.length) 0 (by omega)).to (by simp [yT])
 ·subst e
  refine Ev.ite (fun h => Ev.some ?_) (fun h => ?_)
  ·have : p.length < 2 := by have : (p.length : Int) < 2 := by simpa using h
                             omega
   simp [this]
  ·have h2 : ¬ p.length < 2 := by have : ¬ (p.length : Int) < 2 := by simpa using h
                                  omega
   have hm := Xd p (3, ((2 : Nat) : Int)) ⟨h0, hp, by simp, .inl (by simp; omega), fun _ => by simp; omega, fun h => by simp at h, fun _ _ h3 => absurd rfl h3⟩ hi
   have ed : xf p (3, ((2 : Nat) : Int)) = SV p := by simp [xf, SV]
   rw [ed] at hm
   exact Ev.bind hm (Ev.bind (Qx _ (by rw [ut]; exact hp) (QF hi)) (Ev.some (by simp [yT, h2])))
 ·subst e
  exact (X9 p hp p.length 0 (by omega)).to (by simp [yT])
 ·rw [if_neg (by omega)]
theorem Ta (p : List Int) (c : Int) (hp : p.length ≤ maxLen) (hi : Ins p) : Ev (fun k => Zs k (p, c)) (resOf p c) := by
 unfold resOf
 refine Ev.step (fun k => Tb k p c) (Ev.bind (ve p hp hi) (Ev.ite (fun h => Ev.some ?_) (fun h => Ev.ite (fun h2 => Ev.some ?_) (fun h2 => ?_))))
 ·have : zw p = false := by simpa using h
  simp [chOk, this]
 ·have : p.length = 0 := by have : (p.length : Int) = 0 := by simpa using h2
                            omega
  simp [chOk, this]
 ·have e1 : zw p = true := by simpa using h
  have e2 : ¬ p.length = 0 := by have : ¬ (p.length : Int) = 0 := by simpa using h2
                                 omega
  have hl := (yw e1).2.2
  have hnd : p.Nodup := by
   have := (yw e1).1
   rw [List.Nodup, List.pairwise_map] at this
   exact this.imp fun h e => h (by rw [e])
  refine Ev.bind (K1 p c hl hi (by omega)) ?_
  by_cases hc : (0 ≤ c ∧ c ≤ 4) ∧ ¬ (c = 3 ∧ p.length < 2)
  ·rw [if_pos hc]
   have hs := fL (c := c) hl
   refine Ev.bind (f7 _ (Nat.le_trans hs.1 (by decide)) (fun q hq => Nat.le_trans (hs.2 q hq) (by decide))) (Ev.no rfl ?_)
   refine Ev.ite (fun h3 => Ev.some ?_) (fun h3 => Ev.some ?_)
   ·have h3' : 3000 < (setL (yT p c)).length := by have : ((setL (yT p c)).length : Int) > 3000 := by simpa using h3
                                                   omega
    have : c = 2 ∧ 12 ≤ p.length := by
     apply Classical.byContradiction
     intro hcon
     have h5 := gY (yT p c)
     by_cases c2 : c = 2
     ·have := M8 (p := p) (by omega)
      rw [c2] at h3'
      simp only [yT] at h3'
      simp at h3'
      omega
     ·have := Kr (p := p) hl c2
      omega
    rw [if_neg]
    unfold chOk
    simp [this.1, this.2]
   ·have h3' : ¬ 3000 < (setL (yT p c)).length := by have : ¬ ((setL (yT p c)).length : Int) > 3000 := by simpa using h3
                                                     omega
    have : ¬ (c = 2 ∧ 12 ≤ p.length) := fun ⟨a, b⟩ => h3' (by
     have := riffs12 (p := p) (by omega) hnd
     rw [a]
     simpa [yT] using this)
    rw [if_pos]
    unfold chOk
    rw [e1, decide_eq_true hc.1]
    have h6 := hc.2
    by_cases x3 : c = 3
    ·have : ¬ p.length < 2 := fun h => h6 ⟨x3, h⟩
     simp [e2, x3, this]
    ·by_cases x2 : c = 2
     ·have : ¬ 12 ≤ p.length := fun h => this ⟨x2, h⟩
      simp [e2, x2, this]
     ·simp [e2, x3, x2]
  ·rw [if_neg hc]
   refine Ev.bind (f7 [] (by simp) (fun q hq => by cases hq)) (Ev.yes rfl (Ev.some ?_))
   rw [if_neg]
   unfold chOk
   by_cases c04 : 0 ≤ c ∧ c ≤ 4
   ·have : c = 3 ∧ p.length < 2 := Classical.byContradiction fun h => hc ⟨c04, h⟩
    simp [this.1, this.2]
   ·rw [decide_eq_false c04]; simp
end Qq
namespace Qq
open Go Go.Vt Pt
set_option linter.unusedVariables false
set_option linter.unusedSimpArgs false
set_option linter.unnecessarySimpa false
theorem UF (x : Int) : card (turn x) = card x := by
 unfold turn
 split
 ·rfl
 ·rename_i h
  unfold card at h ⊢
  split at h
  ·rename_i h1
   rw [if_neg (by omega), if_pos (by omega), if_pos h1]; omega
  ·rename_i h1
   split at h
   ·rename_i h2
    rw [if_pos (by omega), if_neg h1, if_pos h2]
   ·omega
theorem KR (l : List Int) : (l.map turn).map card = l.map card := by rw [List.map_map]; exact List.map_congr_left fun x _ => UF x
abbrev Pm (q p : List Int) : Prop := (q.map card).Perm (p.map card)
theorem Pm.of {q p : List Int} (h : q.Perm p) : Pm q p := h.map card
theorem Xn : ∀ (n : Nat) (f : Bool) (a b : List Int), a.length + b.length = n → (fz f a b).Perm (a ++ b)
 | n, f, [], [], h => by unfold fz; exact .refl _
 | n, f, x :: a, [], h => by
   match n, h with
   | n + 1, h =>
   unfold fz
   exact (Xn n (!f) a [] (by simp at h ⊢; omega)).cons x
 | n, f, [], y :: b, h => by
   match n, h with
   | n + 1, h =>
   unfold fz
   exact (Xn n (!f) [] b (by simp at h ⊢; omega)).cons y
 | n, true, x :: a, y :: b, h => by
   match n, h with
   | n + 1, h =>
   unfold fz
   exact (Xn n false a (y :: b) (by simp at h ⊢; omega)).cons x
 | n, false, x :: a, y :: b, h => by
   match n, h with
   | n + 1, h =>
   unfold fz
   exact ((Xn n true (x :: a) b (by simp at h ⊢; omega)).cons y).trans List.perm_middle.symm
termination_by n => n
theorem Sy (k : Int) : ∀ (r : List Int) (i : Nat) (out : List Int), (mz k i r out).Perm (r ++ out)
 | [], i, out => by unfold mz; exact .refl _
 | x :: r, i, out => by
   unfold mz
   split
   ·refine (Sy k r (i + 1) (out ++ [x])).trans ?_
    rw [← List.append_assoc]
    exact List.perm_append_comm
   ·exact (Sy k r (i + 1) (x :: out)).trans List.perm_middle
theorem ends (p : List Int) (h : 1 < p.length) : p = p.getD 0 0 :: ((p.take (p.length - 1)).drop 1 ++ [p.getD (p.length - 1) 0]) := by
 cases p with
 | nil => simp at h
 | cons x r =>
   simp at h
   have hr : r ≠ [] := by intro e; subst e; simp at h
   have e1 : (x :: r).length - 1 = r.length - 1 + 1 := by simp; omega
   rw [e1, List.take_succ_cons, List.drop_one, List.tail_cons]
   have e2 : (x :: r).getD (r.length - 1 + 1) 0 = r.getLast hr := by
    simp only [List.getD, List.getElem?_cons_succ]
    rw [List.getLast_eq_getElem, List.getElem?_eq_getElem (by omega)]
    rfl
   rw [e2, ← List.dropLast_eq_take, List.dropLast_concat_getLast hr]
   rfl
theorem Pp : ∀ (n : Nat) (p out : List Int), (kz n p out).Perm (p ++ out)
 | 0, p, out => by unfold kz; exact .refl _
 | n + 1, p, out => by
   unfold kz
   split
   ·rename_i h
    refine (Pp n _ _).trans ?_
    have e := ends p h
    generalize p.getD 0 0 = x at *
    generalize p.getD (p.length - 1) 0 = y at *
    generalize (p.take (p.length - 1)).drop 1 = m at *
    rw [e]
    refine List.perm_middle.trans (List.Perm.cons x ?_)
    simp
   ·exact .refl _
theorem S7 : ∀ (n : Nat) (f : Bool) (q out : List Int), 1 ≤ q.length → 2 * q.length + (bif f then 0 else 1) ≤ n → (dz n f q out).Perm (q ++ out)
 | 0, f, q, out, h, hn => by omega
 | n + 1, f, q, out, h, hn => by
   unfold dz
   cases q with
   | nil => simp at h
   | cons x r =>
     split
     ·rename_i h1
      cases f with
      | true =>
        simp at h1 hn
        refine (S7 n false r (x :: out) (by omega) (by simp; omega)).trans ?_
        exact List.perm_middle
      | false =>
        simp at h1 hn
        refine (S7 n true (r ++ [x]) out (by simp) (by simp; omega)).trans ?_
        rw [List.append_assoc]
        exact List.perm_middle
     ·rename_i h1
      simp at h1
      subst h1
      exact .refl _
theorem Sw (p : List Int) (i : Nat) (h : i < p.length) : (p.take i ++ p.drop (i + 1) ++ [p.getD i 0]).Perm p := by
 have e : p = p.take i ++ (p.getD i 0 :: p.drop (i + 1)) := by
  have : p.getD i 0 = p[i] := by simp [List.getD, h]
  rw [this, ← List.drop_eq_getElem_cons h, List.take_append_drop]
 have h1 : (p.take i ++ p.drop (i + 1) ++ [p.getD i 0]).Perm (p.take i ++ (p.getD i 0 :: p.drop (i + 1))) := by
  rw [List.append_assoc]
  exact List.Perm.append_left _ (List.perm_append_comm (l₁ := p.drop (i + 1)) (l₂ := [p.getD i 0]))
 rw [← e] at h1
 exact h1
theorem R7 (p : List Int) (k : Nat) : Pm ((p.take k).reverse.map turn ++ p.drop k) p := by
 show (List.map card _).Perm _
 rw [List.map_append, KR]
 refine (((List.reverse_perm (p.take k)).map card).append_right _).trans ?_
 rw [← List.map_append, List.take_append_drop]
theorem QM {p : List Int} {m : Int × Int} (h : MoveFit p.length m) : Pm (xf p m) p := by
 have h1 := h.n1
 have ht := h.t
 unfold xf
 split
 ·refine Pm.of (List.perm_append_comm.trans ?_)
  rw [List.take_append_drop]
 split
 ·refine Pm.of (((List.reverse_perm (p.take m.2.toNat)).append_right _).trans ?_)
  rw [List.take_append_drop]
 split
 ·exact R7 p _
 split
 ·unfold SY
  refine Pm.of ((Xn _ _ _ _ rfl).trans ?_)
  rw [List.take_append_drop]
 split
 ·exact Pm.of ((Sy m.2 p 0 []).trans (by simp))
 split
 ·exact Pm.of ((Pp p.length p []).trans (by simp))
 split
 ·exact Pm.of ((S7 (2 * p.length + 1) (m.2 == 1) p [] h1 (by cases (m.2 == 1) <;> simp)).trans (by simp))
 split
 ·rename_i a1 a2 a3 a4 a5 a6 a7 a8
  have h5 := ht a1 a2 a3 a4 a5 a6 a7
  have h6 := h.k0
  have hlt : m.2.toNat < p.length := by omega
  show (List.map card _).Perm _
  rw [List.map_set, UF]
  have e : card (p.getD m.2.toNat 0) = (p.map card)[m.2.toNat]'(by simpa using hlt) := by simp [List.getD, hlt]
  rw [e, List.set_getElem_self]
 ·rename_i a1 a2 a3 a4 a5 a6 a7 a8
  have h5 := ht a1 a2 a3 a4 a5 a6 a7
  have h6 := h.k0
  exact Pm.of (Sw p _ (by omega))
theorem Su : ∀ (bits : List Bool) (f s : Nat), (rfi f s bits).Perm (List.range' f (zP bits) ++ List.range' s (wq bits))
 | [], f, s => by simp [rfi, zP, wq]
 | true :: r, f, s => by
   unfold rfi zP wq
   rw [List.range'_succ]
   exact ((Su r f (s + 1)).cons s).trans List.perm_middle.symm
 | false :: r, f, s => by
   unfold rfi zP wq
   rw [List.range'_succ]
   exact (Su r (f + 1) s).cons f
theorem N5 (p : List Int) (w : Nat) : (VB p w).Perm p := by
 unfold VB
 rw [VC]
 have hz := Xx (xM p.length w)
 rw [gS] at hz
 refine ((Su _ _ _).map _).trans ?_
 have e : List.range' 0 (zP (xM p.length w)) ++ List.range' (zP (xM p.length w)) (wq (xM p.length w)) = List.range p.length := by
  have := List.range'_append_1 (s := 0) (m := zP (xM p.length w)) (n := wq (xM p.length w))
  rw [Nat.zero_add] at this
  rw [this, List.range_eq_range']
  congr 1
 rw [e]
 have : (List.range p.length).map (fun i => p.getD i 0) = p := by
  apply List.ext_getElem
  ·simp
  ·intro i h1 h2
   simp [List.getD, h2]
 rw [this]
theorem ND {p : List Int} {c : Int} (q : List Int) (hq : q ∈ yT p c) : Pm q p := by
 have cut : ∀ (p q : List Int), q ∈ bG p → q.Perm p := fun p q hq => by
  obtain ⟨i, _, rfl⟩ := List.mem_map.1 hq
  unfold cutL
  refine List.perm_append_comm.trans ?_
  rw [List.take_append_drop]
 unfold yT at hq
 split at hq
 ·exact Pm.of (cut _ _ hq)
 split at hq
 ·obtain ⟨w, _, rfl⟩ := List.mem_map.1 hq
  exact Pm.of (N5 p w)
 split at hq
 ·exact (Pm.of (cut _ _ hq)).trans (R7 p 2)
 split at hq
 ·obtain ⟨i, hi, rfl⟩ := List.mem_map.1 hq
  have := List.mem_range.1 hi
  unfold Pj
  exact Pm.of (List.perm_append_comm.trans (Sw p i this))
 ·have : q = p := by simpa using hq
  rw [this]
theorem Hv : ∀ (r done : List Int), (done ++ r.map card).Nodup → (∀ x ∈ r, 0 ≤ card x) → pk done r = true
 | [], done, _, _ => rfl
 | x :: r, done, h, h0 => by
   unfold pk
   rw [List.map_cons] at h
   have hx : card x ∉ done := fun hm => (List.nodup_append.1 h).2.2 _ hm _ (by simp) rfl
   rw [decide_eq_true (h0 x (by simp)), Hv r (done ++ [card x]) (by simpa using h) (fun y hy => h0 y (by simp [hy]))]
   simp [hx]
theorem fm {p q : List Int} (h : zw p = true) (hq : Pm q p) : zw q = true ∧ q.length = p.length := by
 obtain ⟨h1, h2, h3⟩ := yw h
 refine ⟨Hv q [] (by simpa using hq.nodup_iff.2 h1) (fun x hx => ?_), by have := hq.length_eq; simpa using this⟩
 have := hq.mem_iff.1 (List.mem_map.2 ⟨x, hx, rfl⟩)
 obtain ⟨y, hy, e⟩ := List.mem_map.1 this
 have := (h2 y hy).1
 omega
theorem zQ {p : List Int} (h : zw p = true) : Ins p := fun x hx => by
 have := ((yw h).2.1 x hx).1
 unfold card at this
 unfold In
 split at this
 ·omega
 ·split at this <;> omega
end Qq
namespace Qq
open Go Go.Vt Pt
set_option linter.unusedVariables false
set_option linter.unusedSimpArgs false
set_option linter.unnecessarySimpa false
end Qq
namespace Qq
open Go Go.Vt Pt
set_option linter.unusedVariables false
set_option linter.unusedSimpArgs false
set_option linter.unnecessarySimpa false
abbrev zz : Type := Int × (Int × Int) × Int
def zm (c : Scene) (s : zz) : List Scene :=
 if s.1 = 1 then [(xf c.1 s.2.1, c.2)] else if s.1 = 3 then [(c.1, card (c.1.getD s.2.2.toNat 0))] else (setL (yT c.1 s.2.2)).map fun q => (q, c.2)
structure SceneOk (n : Nat) (c : Scene) : Prop where
 ok : zw c.1 = true
 len : c.1.length = n
 n0 : -1 ≤ c.2
 n12 : c.2 < 12
inductive StepKind (n : Nat) (s : zz) : Prop
 | mv (h : s.1 = 1) (m : MoveFit n s.2.1)
 | ch (h : s.1 = 2) (c0 : 0 ≤ s.2.2) (c4 : s.2.2 ≤ 4) (c3 : s.2.2 = 3 → 2 ≤ n) (c2 : s.2.2 = 2 → n ≤ 11)
 | nt (h : s.1 = 3) (a0 : 0 ≤ s.2.2) (an : s.2.2 < n)
theorem wD {n : Nat} {s : zz} (h : zx (n : Int) s = true) : 1 ≤ n ∧ n ≤ 12 ∧ StepKind n s := by
 unfold zx at h
 simp only [Bool.and_eq_true, decide_eq_true_eq] at h
 obtain ⟨h1, h2, h3⟩ := h
 refine ⟨by omega, by omega, ?_⟩
 split at h3
 ·rename_i e
  simp only [Bool.and_eq_true] at h3
  exact .mv e (Tx h3.1)
 split at h3
 ·rename_i e
  simp only [Bool.and_eq_true, decide_eq_true_eq, Bool.or_eq_true, Bool.not_eq_true', beq_eq_false_iff_ne, ne_eq] at h3
  obtain ⟨_, _, a, b, c, d⟩ := h3
  exact .ch e a b (fun q => by rcases c with c | c; exact absurd q c; omega) (fun q => by rcases d with d | d; exact absurd q d; omega)
 split at h3
 ·rename_i e
  simp only [Bool.and_eq_true, decide_eq_true_eq] at h3
  exact .nt e h3.2.2.1 h3.2.2.2
 ·cases h3
theorem Kj {n : Nat} {c : Scene} {s : zz} (hc : SceneOk n c) (h1 : 1 ≤ n) (h2 : n ≤ 12) (c0 : 0 ≤ s.2.2) (c4 : s.2.2 ≤ 4) (c3 : s.2.2 = 3 → 2 ≤ n) (c2 : s.2.2 = 2 → n ≤ 11) : ChFit c.1 s.2.2 :=
 ⟨hc.ok, by rw [hc.len]; exact h1, by rw [hc.len]; exact h2, c0, c4, fun e => by rw [hc.len]; exact c3 e, fun e => by rw [hc.len]; exact c2 e⟩
theorem cW {n : Nat} {c : Scene} {s : zz} (hc : SceneOk n c) (hs : zx (n : Int) s = true) : ∀ d ∈ zm c s, SceneOk n d := by
 obtain ⟨h1, h2, hk⟩ := wD hs
 intro d hd
 unfold zm at hd
 rcases hk with ⟨e, m⟩ | ⟨e, c0, c4, c3, c2⟩ | ⟨e, a0, an⟩
 ·rw [if_pos e] at hd
  have hd : d = (xf c.1 s.2.1, c.2) := by simpa using hd
  subst hd
  have := fm hc.ok (QM (by rw [hc.len]; exact m))
  exact ⟨this.1, this.2.trans hc.len, hc.n0, hc.n12⟩
 ·rw [if_neg (by omega), if_neg (by omega)] at hd
  obtain ⟨q, hq, rfl⟩ := List.mem_map.1 hd
  have := fm hc.ok (ND q ((wW _ q).1 hq))
  exact ⟨this.1, this.2.trans hc.len, hc.n0, hc.n12⟩
 ·rw [if_neg (by omega), if_pos e] at hd
  have hd : d = (c.1, card (c.1.getD s.2.2.toNat 0)) := by simpa using hd
  subst hd
  have := Rc (c.1.getD s.2.2.toNat 0)
  exact ⟨hc.ok, hc.len, this.1, by show card _ < 12; omega⟩
theorem Kq {p : List Int} {c : Int} (h : ChFit p c) : yT p c ≠ [] := by
 have h1 := h.l1
 unfold yT
 split
 ·intro e; have := congrArg List.length e; unfold bG at this; rw [List.length_map, List.length_range, List.length_nil] at this; omega
 split
 ·intro e; have := congrArg List.length e; simp [cT] at this
 split
 ·intro e; have := congrArg List.length e; unfold bG at this; rw [List.length_map, List.length_range, List.length_nil, ut] at this; omega
 split
 ·intro e; have := congrArg List.length e; unfold XR at this; rw [List.length_map, List.length_range, List.length_nil] at this; omega
 ·simp
theorem Z7 {n : Nat} {c : Scene} {s : zz} (hc : SceneOk n c) (hs : zx (n : Int) s = true) : 1 ≤ (zm c s).length ∧ (zm c s).length ≤ 4096 := by
 obtain ⟨h1, h2, hk⟩ := wD hs
 unfold zm
 split
 ·simp
 split
 ·simp
 ·rename_i a b
  rcases hk with ⟨e, m⟩ | ⟨e, c0, c4, c3, c2⟩ | ⟨e, a0, an⟩
  ·exact absurd e a
  ·have hf := Kj hc h1 h2 c0 c4 c3 c2
   have hs := (fL (c := s.2.2) hf.l12).1
   have := gY (yT c.1 s.2.2)
   rw [List.length_map]
   refine ⟨?_, by omega⟩
   rcases Nat.eq_zero_or_pos (setL (yT c.1 s.2.2)).length with h0 | h0
   ·exfalso
    have hne := Kq hf
    cases hl : yT c.1 s.2.2 with
    | nil => exact hne hl
    | cons q r =>
      have := (wW (yT c.1 s.2.2) q).2 (by rw [hl]; simp)
      rw [List.eq_nil_of_length_eq_zero h0] at this
      cases this
   ·exact h0
  ·exact absurd e b
theorem jj (p : List Int) (x : Int) (l : List (List Int)) (hl : l.length ≤ 16384) : ∀ (r : List (List Int)) (i : Nat) (out : List Scene), l.drop i = r → out.length = i →
 Ev (fun k => wB k (l.length : Int) (i : Int) p x out l i) (out ++ r.map fun q => (q, x))
 | [], i, out, h, ho => by
   have a := zO h
   refine Ev.step (fun k => jk k _ _ _ _ _ _ _) ?_
   simp only [a.g, cond_false]
   exact Ev.some (by simp)
 | q :: r, i, out, h, ho => by
   have a := zl h (by rw [zd]; omega)
   have hlt := a.lt
   refine Ev.step (fun k => jk k _ _ _ _ _ _ _) ?_
   simp only [a.g, a.z, a.n, a.get, a.w, cond_true]
   refine Ev.yes (by simp) (Ev.yes (by rw [za]; simp; omega) ?_)
   exact (jj p x l hl r (i + 1) (out ++ [(q, x)]) a.next (by simp [ho])).to (by simp)
theorem eY (p : List Int) (x : Int) (l : List (List Int)) (hl : l.length ≤ 16384) : ∀ (r : List (List Int)) (i : Nat) (out : List Scene), l.drop i = r → out.length = i →
 Ev (fun k => jG k (l.length : Int) (i : Int) p x out l) (out ++ r.map fun q => (q, x))
 | [], i, out, h, ho => by
   have a := zO h
   refine Ev.step (fun k => eZ k _ _ _ _ _ _) ?_
   simp only [a.g, cond_false]
   exact Ev.some (by simp)
 | q :: r, i, out, h, ho => by
   have a := zl h (by rw [zd]; omega)
   have hlt := a.lt
   refine Ev.step (fun k => eZ k _ _ _ _ _ _) ?_
   simp only [a.g, a.z, a.n, a.get, a.w, cond_true]
   refine Ev.yes (by rw [za]; simp; omega) ?_
   exact (eY p x l hl r (i + 1) (out ++ [(q, x)]) a.next (by simp [ho])).to (by simp)
theorem RH {n : Nat} {c : Scene} {s : zz} (hc : SceneOk n c) (hs : zx (n : Int) s = true) : Ev (fun k => Vf k (c, s)) (zm c s) := by
 obtain ⟨h1, h2, hk⟩ := wD hs
 have hi := zQ hc.ok
 have hln := hc.len
 obtain ⟨p, x⟩ := c
 refine Ev.step (fun k => RI k (p, x) s) ?_
 unfold zm
 rcases hk with ⟨e, m⟩ | ⟨e, c0, c4, c3, c2⟩ | ⟨e, a0, an⟩
 ·rw [if_pos e]
  exact Ev.yes (by simp [e]) (Ev.bind (Tr p s.2.1 (by rw [hln]; exact m) hi) (Ev.pure _))
 ·rw [if_neg (by omega), if_neg (by omega)]
  have hf := Kj hc h1 h2 c0 c4 c3 c2
  have hsm : (yT p s.2.2).length ≤ 4096 ∧ ∀ q ∈ yT p s.2.2, q.length ≤ 12 := fL (c := s.2.2) hf.l12
  obtain ⟨y, e1, e2, e3⟩ := N0 p s.2.2 hf hi
  have hy12 : ∀ q ∈ y, q.length ≤ 1048576 := fun q hq => Nat.le_trans (hsm.2 q ((e3 q).1 hq)) (by decide)
  have es : setL y = setL (yT p s.2.2) := NY e3
  have hsl := gY (yT p s.2.2)
  refine Ev.no (by simp [e]) (Ev.no (by simp [e]) (Ev.bind e1 (Ev.bind (uz _ y (Nat.le_refl _) e2 hy12) ?_)))
  rw [es]
  exact eY p x _ (by have := hsm.1; show (setL (yT p s.2.2)).length ≤ _; omega) _ 0 [] rfl rfl
 ·rw [if_neg (by omega), if_pos e]
  refine Ev.no (by simp [e]) (Ev.yes (by simp [e]) (Ev.yes (by rw [za]; simp; simp at hln; omega) (Ev.yes (by simpa using a0) (Ev.yes (by simp at hln; simp; omega) (Ev.bind (vt _) (Ev.some ?_))))))
  simp
theorem Uk (c : Scene) (s : zz) (a : c.1.length ≤ maxLen) (hi : Ins c.1) :
 Ev (fun k => wK k (c, s)) (if zw c.1 && (decide (-1 ≤ c.2 ∧ c.2 < 12) && zx (c.1.length : Int) s) then zm c s else []) := by
 obtain ⟨p, x⟩ := c
 refine Ev.step (fun k => Ul k (p, x) s) (Ev.bind (ve p a hi) (Ev.ite (fun h => Ev.some ?_) (fun h => Ev.ite (fun h2 => Ev.some ?_) (fun h2 => Ev.ite (fun h3 => Ev.some ?_) (fun h3 => Ev.bind (Uh _ s) (Ev.ite (fun h4 => Ev.some ?_) (fun h4 => ?_)))))))
 ·have : zw p = false := by simpa using h
  simp [this]
 ·have : ¬ -1 ≤ x := by simpa using h2
  simp [this]
 ·have : ¬ x < 12 := by simpa using h3
  simp [this]
 ·have : zx (p.length : Int) s = false := by simpa using h4
  simp [this]
 ·have e1 : zw p = true := by simpa using h
  have e2 : -1 ≤ x := by have : ¬ x < -1 := by simpa using h2
                         omega
  have e3 : x < 12 := by simpa using h3
  have e4 : zx (p.length : Int) s = true := by simpa using h4
  have hc : SceneOk p.length (p, x) := ⟨e1, rfl, e2, e3⟩
  rw [if_pos (by simp [e1, e2, e3, e4])]
  obtain ⟨h1, h2, hk⟩ := wD e4
  unfold zm
  rcases hk with ⟨e, m⟩ | ⟨e, c0, c4, c3, c2⟩ | ⟨e, a0, an⟩
  ·rw [if_pos e]
   exact Ev.yes (by simp [e]) (Ev.bind (Xd p s.2.1 m hi) (Ev.pure _))
  ·rw [if_neg (by omega), if_neg (by omega)]
   have hf := Kj hc h1 h2 c0 c4 c3 c2
   have hsm : (yT p s.2.2).length ≤ 4096 ∧ ∀ q ∈ yT p s.2.2, q.length ≤ 12 := fL (c := s.2.2) hf.l12
   have hsl := gY (yT p s.2.2)
   have hok : chOk p s.2.2 = true := by
    unfold chOk
    have a3 : ¬ (s.2.2 = 3 ∧ p.length < 2) := fun h => by have := c3 h.1; omega
    have a2 : ¬ (s.2.2 = 2 ∧ 12 ≤ p.length) := fun h => by have := c2 h.1; omega
    rw [e1, decide_eq_true ⟨c0, c4⟩]
    simp only [Bool.true_and, Bool.and_eq_true, Bool.not_eq_true', Bool.and_eq_false_iff, decide_eq_false_iff_not, beq_eq_false_iff_ne]
    refine ⟨by omega, ?_, ?_⟩
    ·by_cases q : s.2.2 = 3
     ·exact .inr fun h => a3 ⟨q, h⟩
     ·exact .inl q
    ·by_cases q : s.2.2 = 2
     ·exact .inr fun h => a2 ⟨q, h⟩
     ·exact .inl q
   have er : resOf p s.2.2 = (setL (yT p s.2.2), true) := by unfold resOf; rw [if_pos hok]
   refine Ev.no (by simp [e]) (Ev.no (by simp [e]) (Ev.bind (Ta p s.2.2 a hi) ?_))
   rw [er]
   exact jj p x _ (by have := hsm.1; show (setL (yT p s.2.2)).length ≤ _; omega) _ 0 [] rfl rfl
  ·rw [if_neg (by omega), if_pos e]
   refine Ev.no (by simp [e]) (Ev.yes (by simp [e]) (Ev.bind (yL p (by omega)) (Ev.yes (by simpa using a0) (Ev.yes (by simpa using an) (Ev.bind (xY _ ?_) (Ev.pure _))))))
   have hlt : s.2.2.toNat < p.length := by omega
   have : p.getD s.2.2.toNat 0 = p[s.2.2.toNat] := by simp [List.getD, hlt]
   rw [this]
   exact hi _ (List.getElem_mem hlt)
theorem ji {n : Nat} {c : Scene} {s : zz} (hc : SceneOk n c) (hs : zx (n : Int) s = true) : Ev (fun k => wK k (c, s)) (zm c s) := by
 obtain ⟨h1, h2, hk⟩ := wD hs
 have := Uk c s (by rw [hc.len, zd]; omega) (zQ hc.ok)
 rw [hc.len, hc.ok, hs, decide_eq_true ⟨hc.n0, hc.n12⟩] at this
 exact this
end Qq
namespace Qq
open Go Go.Vt Pt
set_option linter.unusedVariables false
set_option linter.unusedSimpArgs false
def strB (l : List UInt8) : ByteArray := ⟨l.toArray⟩
theorem P2 (a b : List UInt8) : strB a ++ strB b = strB (a ++ b) := by unfold strB; apply ByteArray.ext; simp
theorem Rt (a : List UInt8) : (strB a).size = a.length := by simp [strB, ByteArray.size]
def Yi (n : Int) : ByteArray := strB (Lib.itoa n)
theorem Kb {u : Nat} (h : u < 10) : Lib.decDigits u = [UInt8.ofNat (48 + u)] := by rw [Lib.decDigits, dif_pos h]
theorem Hc {u : Nat} (h : ¬ u < 10) : Lib.decDigits u = Lib.decDigits (u / 10) ++ [UInt8.ofNat (48 + u % 10)] := by rw [Lib.decDigits, dif_neg h]
theorem Hn (n : Int) (hn : In n) : Ev (fun k => strconv_Itoa k n) (Yi n) := by
 refine Ev.congr (fun k => W4 k n) ?_
 unfold itoaF
 refine Ev.yes ?_ (Ev.pure _)
 unfold In at hn
 simp; exact hn
theorem aR (n : Int) (hn : In n) : Ev (fun k => fD k n) (Yi n) :=
 Ev.step (fun k => Te k n) (Ev.bind (Hn n hn) (Ev.pure _))
theorem TK (n : Int) (hn : In n) : (Yi n).size ≤ 21 := by
 unfold In at hn
 rw [Yi, Rt]
 exact Lib.itoa_length_le n hn.1 hn.2
end Qq
namespace Qq
open Go Go.Vt Pt
set_option linter.unusedVariables false
set_option linter.unusedSimpArgs false
def fK (x : ByteArray) : List UInt8 := x.data.toList
theorem UH (x : ByteArray) : (fK x).length = x.size := by unfold fK; simp
def joinL (l : List ByteArray) (sep : ByteArray) : List UInt8 := Lib.join (l.map fK) (fK sep)
def joinB (l : List ByteArray) (sep : ByteArray) : ByteArray := strB (joinL l sep)
theorem X2 {B S : Nat} (sep : List UInt8) (hs : sep.length ≤ S) : ∀ (r : List ByteArray), (∀ x ∈ r, x.size ≤ B) → (Lib.joinTail sep (r.map fK)).length ≤ r.length * (B + S)
 | [], _ => by simp [Lib.joinTail]
 | x :: r, h => by
   have ih := X2 sep hs r (fun y hy => h y (by simp [hy]))
   have hx := h x (by simp)
   have e : Lib.joinTail sep ((x :: r).map fK) = (sep ++ fK x) ++ Lib.joinTail sep (r.map fK) := by simp [Lib.joinTail]
   rw [e, List.length_append, List.length_append, UH, List.length_cons, Nat.add_mul, Nat.one_mul]
   omega
theorem Nm {B S : Nat} (sep : ByteArray) (hs : sep.size ≤ S) (l : List ByteArray) (h : ∀ x ∈ l, x.size ≤ B) : (joinL l sep).length ≤ l.length * (B + S) := by
 cases l with
 | nil => simp [joinL, Lib.join_nil]
 | cons x r =>
   have hx := h x (by simp)
   have := X2 (B := B) (S := S) (fK sep) (by rw [UH]; exact hs) r (fun y hy => h y (by simp [hy]))
   unfold joinL
   rw [List.map_cons, Lib.join_cons, List.length_append, UH, List.length_cons, Nat.add_mul, Nat.one_mul]
   omega
theorem LJ (l : List ByteArray) (sep : ByteArray) (B : Nat) (hl : l.length ≤ 1048576) (hB : ∀ x ∈ l, x.size ≤ B) (hBB : B ≤ 100) (hs : sep.size ≤ 100) : Ev (fun k => LM k (l, sep)) (joinB l sep) := by
 refine Ev.step (fun k => LK k l sep) (Ev.bind (Ev.congr (fun k => W2 k l sep) ?_) (Ev.pure _))
 unfold joinF
 have jl := Nm (B := B) (S := 100) sep hs l hB
 have hmul : l.length * (B + 100) ≤ 1048576 * 200 := Nat.mul_le_mul hl (by omega)
 refine Ev.yes ?_ (Ev.pure _)
 rw [Bool.and_eq_true, decide_eq_true_eq, decide_eq_true_eq]
 exact ⟨by omega, by show (joinL l sep).length ≤ _; omega⟩
theorem cV (xs : List Int) (hm : xs.length ≤ 1048576) (hi : Ins xs) : ∀ (r : List Int) (i : Nat), xs.drop i = r → Ev (fun k => vN k xs (xs.length : Int) (i : Int) ((xs.take i).map Yi)) (xs.map Yi)
 | [], i, h => by
   have a := zO h
   refine Ev.step (fun k => gH k _ _ _ _) ?_
   simp only [a.g, cond_false]
   exact Ev.some (by rw [List.take_of_length_le a.ge])
 | x :: r, i, h => by
   have a := zl h (by rw [zd]; omega)
   have hlt := a.lt
   have hx : In x := hi x (List.mem_of_mem_drop (h ▸ List.mem_cons_self))
   refine Ev.step (fun k => gH k _ _ _ _) ?_
   simp only [a.g, a.z, a.get, a.w, cond_true]
   refine Ev.bind (aR x hx) (Ev.yes (by rw [za]; simp; omega) ?_)
   have := cV xs hm hi r (i + 1) a.next
   rw [List.take_succ_eq_append_getElem hlt, List.map_append] at this
   have e : xs[i] = x := by have := a.get 0; rw [Int.toNat_natCast, List.getD, List.getElem?_eq_getElem hlt] at this; exact this
   rw [e] at this
   exact this
theorem Qd (xs : List Int) (hm : xs.length ≤ 1048576) (hi : Ins xs) : Ev (fun k => Zo k xs) (xs.map Yi) :=
 Ev.step (fun k => U3 k xs) (cV xs hm hi xs 0 rfl)
theorem aF {xs : List Int} (hi : Ins xs) : ∀ x ∈ xs.map Yi, x.size ≤ 21 := by
 intro x hx
 obtain ⟨n, hn, rfl⟩ := List.mem_map.1 hx
 exact TK n (hi n hn)
end Qq
namespace Qq
open Go Go.Vt Pt
set_option linter.unusedVariables false
set_option linter.unusedSimpArgs false
def vD (xs : List Int) : ByteArray := if xs = [] then ⟨#[45]⟩ else joinB (xs.map Yi) ⟨#[44]⟩
theorem Wt (xs : List Int) (hm : xs.length ≤ 1048576) (hi : Ins xs) : Ev (fun k => fC k xs) (vD xs) := by
 refine Ev.step (fun k => Wu k xs) ?_
 unfold vD
 refine Ev.ite (fun h => Ev.some ?_) (fun h => ?_)
 ·have : xs = [] := by simp at h; exact h
  rw [if_pos this]
 ·have : ¬ xs = [] := by simp at h; exact h
  rw [if_neg this]
  exact Ev.bind (Qd xs hm hi) (Ev.bind (LJ _ _ 21 (by simpa using hm) (aF hi) (by omega) (by show (1 : Nat) ≤ _; omega)) (Ev.pure _))
end Qq
namespace Qq
open Go Go.Vt Pt
set_option linter.unusedVariables false
set_option linter.unusedSimpArgs false
set_option linter.unnecessarySimpa false
def numB (l : List UInt8) : Nat := l.foldl (fun a c => a * 10 + (c.toNat - 48)) 0
theorem byte48 {d : Nat} (h : d < 10) : (UInt8.ofNat (48 + d)).toNat = 48 + d := by
 rw [UInt8.toNat_ofNat']; omega
theorem gO : ∀ (n u : Nat), u ≤ n → numB (Lib.decDigits u) = u ∧ (∀ c ∈ Lib.decDigits u, 48 ≤ c.toNat ∧ c.toNat ≤ 57) ∧ Lib.decDigits u ≠ []
 | n, u, h => by
   by_cases hu : u < 10
   ·rw [Kb hu]
    refine ⟨by simp only [numB, List.foldl_cons, List.foldl_nil, byte48 hu]; omega, fun c hc => ?_, by simp⟩
    have : c = UInt8.ofNat (48 + u) := by simpa using hc
    rw [this, byte48 hu]; omega
   ·match n, h with
    | 0, h => omega
    | n + 1, h =>
    have hd : u % 10 < 10 := Nat.mod_lt _ (by omega)
    obtain ⟨h1, h2, h3⟩ := gO n (u / 10) (by omega)
    rw [Hc hu]
    refine ⟨?_, fun c hc => ?_, by simp⟩
    ·unfold numB at h1 ⊢
     rw [List.foldl_append, h1]
     simp only [List.foldl_cons, List.foldl_nil, byte48 hd]
     omega
    ·rcases List.mem_append.1 hc with hc | hc
     ·exact h2 c hc
     ·have : c = UInt8.ofNat (48 + u % 10) := by simpa using hc
      rw [this, byte48 hd]; omega
theorem Qn (n : Int) : ∀ c ∈ Lib.itoa n, c ≠ 44 ∧ c ≠ 47 := by
 intro c hc
 have key : c = 45 ∨ (48 ≤ c.toNat ∧ c.toNat ≤ 57) := by
  unfold Lib.itoa at hc
  split at hc
  ·rcases List.mem_cons.1 hc with rfl | hc
   ·exact .inl rfl
   ·exact .inr ((gO _ _ (Nat.le_refl _)).2.1 c hc)
  ·exact .inr ((gO _ _ (Nat.le_refl _)).2.1 c hc)
 refine ⟨fun e => ?_, fun e => ?_⟩
 ·subst e
  rcases key with h | h
  ·exact absurd h (by decide)
  ·have : (44 : UInt8).toNat = 44 := rfl
   omega
 ·subst e
  rcases key with h | h
  ·exact absurd h (by decide)
  ·have : (47 : UInt8).toNat = 47 := rfl
   omega
theorem No {a b : Int} (h : Lib.itoa a = Lib.itoa b) : a = b := by
 have pos : ∀ (u : Nat) (l : List UInt8), Lib.decDigits u = 45 :: l → False := fun u l e => by
  have := ((gO _ u (Nat.le_refl _)).2.1 45 (by rw [e]; simp)).1
  exact absurd this (by decide)
 have val : ∀ u v : Nat, Lib.decDigits u = Lib.decDigits v → u = v := fun u v e => by
  rw [← (gO _ u (Nat.le_refl _)).1, ← (gO _ v (Nat.le_refl _)).1, e]
 unfold Lib.itoa at h
 split at h
 ·split at h
  ·have := val _ _ (List.cons.inj h).2
   omega
  ·exact (pos _ _ h.symm).elim
 ·split at h
  ·exact (pos _ _ h).elim
  ·have := val _ _ h
   omega
theorem Kg {s : UInt8} : ∀ {A A' B B' : List UInt8}, s ∉ A → s ∉ A' → A ++ s :: B = A' ++ s :: B' → A = A' ∧ B = B'
 | [], [], B, B', _, _, h => ⟨rfl, (List.cons.inj h).2⟩
 | [], y :: A', B, B', _, h2, h => (h2 (by rw [(List.cons.inj h).1]; simp)).elim
 | x :: A, [], B, B', h1, _, h => (h1 (by rw [← (List.cons.inj h).1]; simp)).elim
 | x :: A, y :: A', B, B', h1, h2, h => by
   have e := List.cons.inj h
   obtain ⟨e1, e2⟩ := Kg (A := A) (A' := A') (fun hm => h1 (by simp [hm])) (fun hm => h2 (by simp [hm])) e.2
   exact ⟨by rw [e.1, e1], e2⟩
theorem tail_cons (s : UInt8) (x : List UInt8) (r : List (List UInt8)) : Lib.joinTail [s] (x :: r) = s :: (x ++ Lib.joinTail [s] r) := by simp [Lib.joinTail]
theorem Nn {s : UInt8} : ∀ {x y : List UInt8} {r q : List (List UInt8)}, (∀ z ∈ x :: r, s ∉ z) → (∀ z ∈ y :: q, s ∉ z) → x ++ Lib.joinTail [s] r = y ++ Lib.joinTail [s] q → x :: r = y :: q
 | x, y, [], [], _, _, h => by simpa [Lib.joinTail] using h
 | x, y, [], z :: q, h1, _, h => by
   rw [tail_cons] at h
   exact (h1 x (by simp) (by have : s ∈ x ++ Lib.joinTail [s] [] := by rw [h]; simp
                             simpa [Lib.joinTail] using this)).elim
 | x, y, z :: r, [], _, h2, h => by
   rw [tail_cons] at h
   exact (h2 y (by simp) (by have : s ∈ y ++ Lib.joinTail [s] [] := by rw [← h]; simp
                             simpa [Lib.joinTail] using this)).elim
 | x, y, z :: r, u :: q, h1, h2, h => by
   rw [tail_cons, tail_cons] at h
   obtain ⟨e1, e2⟩ := Kg (h1 x (by simp)) (h2 y (by simp)) h
   rw [e1, Nn (fun w hw => h1 w (by simp [hw])) (fun w hw => h2 w (by simp [hw])) e2]
def keyB (c : Scene) : ByteArray := (vD c.1 ++ (⟨#[47]⟩ : ByteArray)) ++ Yi c.2
theorem TJ (c : Scene) (h : c.1 ≠ []) : keyB c = strB (Lib.join (c.1.map Lib.itoa) [44] ++ 47 :: Lib.itoa c.2) := by
 unfold keyB vD Yi
 rw [if_neg h]
 have e1 : joinB (c.1.map Yi) ⟨#[44]⟩ = strB (Lib.join (c.1.map Lib.itoa) [44]) := by
  unfold joinB joinL
  rw [List.map_map]
  congr 2
 have e2 : (⟨#[47]⟩ : ByteArray) = strB [47] := rfl
 show joinB (c.1.map Yi) ⟨#[44]⟩ ++ (⟨#[47]⟩ : ByteArray) ++ strB (Lib.itoa c.2) = _
 rw [e1, e2, P2, P2]
 congr 1
 simp
theorem V3 {s : UInt8} (hs : s ≠ 44) : ∀ {x : List UInt8} {r : List (List UInt8)}, (∀ z ∈ x :: r, s ∉ z) → s ∉ x ++ Lib.joinTail [44] r
 | x, [], h => by simpa [Lib.joinTail] using h x (by simp)
 | x, y :: r, h => by
   rw [tail_cons]
   intro hm
   rcases List.mem_append.1 hm with hm | hm
   ·exact h x (by simp) hm
   ·rcases List.mem_cons.1 hm with hm | hm
    ·exact hs hm
    ·exact V3 hs (x := y) (r := r) (fun z hz => h z (by simp at hz ⊢; exact .inr hz)) hm
theorem XU : ∀ {p q : List Int}, p.map Lib.itoa = q.map Lib.itoa → p = q
 | [], [], _ => rfl
 | [], _ :: _, h => by simp at h
 | _ :: _, [], h => by simp at h
 | x :: p, y :: q, h => by
   simp only [List.map_cons, List.cons.injEq] at h
   rw [No h.1, XU h.2]
theorem KY {c d : Scene} (hc : c.1 ≠ []) (hd : d.1 ≠ []) (h : keyB c = keyB d) : c = d := by
 rw [TJ c hc, TJ d hd] at h
 have h' : Lib.join (c.1.map Lib.itoa) [44] ++ 47 :: Lib.itoa c.2 = Lib.join (d.1.map Lib.itoa) [44] ++ 47 :: Lib.itoa d.2 := by
  have := congrArg (fun b => b.data.toList) h
  simpa [strB] using this
 obtain ⟨p, n⟩ := c
 obtain ⟨q, m⟩ := d
 cases p with
 | nil => exact (hc rfl).elim
 | cons x p =>
   cases q with
   | nil => exact (hd rfl).elim
   | cons y q =>
     rw [List.map_cons, List.map_cons, Lib.join_cons, Lib.join_cons] at h'
     have nb : ∀ (x : Int) (p : List Int), ∀ z ∈ Lib.itoa x :: p.map Lib.itoa, (47 : UInt8) ∉ z ∧ (44 : UInt8) ∉ z := fun x p z hz => by
      have : ∃ n, z = Lib.itoa n := by
       rcases List.mem_cons.1 hz with rfl | hz
       ·exact ⟨x, rfl⟩
       ·obtain ⟨n, _, rfl⟩ := List.mem_map.1 hz
        exact ⟨n, rfl⟩
      obtain ⟨n, rfl⟩ := this
      exact ⟨fun hm => (Qn n _ hm).2 rfl, fun hm => (Qn n _ hm).1 rfl⟩
     obtain ⟨e1, e2⟩ := Kg (V3 (by decide) fun z hz => (nb x p z hz).1) (V3 (by decide) fun z hz => (nb y q z hz).1) h'
     have e3 := Nn (fun z hz => (nb x p z hz).2) (fun z hz => (nb y q z hz).2) e1
     have e4 := XU (p := x :: p) (q := y :: q) (by simpa using e3)
     have e5 := No e2
     dsimp only at e5
     rw [e4, e5]
theorem VN {l : List Scene} {x : Scene} (hl : ∀ c ∈ l, c.1 ≠ []) (hx : x.1 ≠ []) : fp (l.map keyB) (keyB x) = decide (x ∈ l) := by
 rw [Bool.eq_iff_iff, decide_eq_true_eq]
 unfold fp
 rw [List.any_eq_true]
 constructor
 ·rintro ⟨k, hk, he⟩
  obtain ⟨c, hc, rfl⟩ := List.mem_map.1 hk
  rw [KY hx (hl c hc) (beqBA he)]
  exact hc
 ·intro hm
  exact ⟨keyB x, List.mem_map.2 ⟨x, hm, rfl⟩, T0 _⟩
theorem TM (c : Scene) (h : c.1.length ≤ 12) (hi : Ins c.1) (hn : In c.2) : Ev (fun k => fw k c) (keyB c) := by
 obtain ⟨p, n⟩ := c
 have h1 : (vD p).size ≤ 1000 := by
  unfold vD
  split
  ·decide
  ·have := Nm (B := 21) (S := 1) (⟨#[44]⟩ : ByteArray) (by decide) (p.map Yi) (aF hi)
   rw [List.length_map] at this
   rw [joinB, Rt]
   have h : p.length ≤ 12 := h
   omega
 have h2 := TK n hn
 have h3 : (⟨#[47]⟩ : ByteArray).size = 1 := rfl
 refine Ev.step (fun k => Mj k (p, n)) (Ev.bind (Wt p (by have h : p.length ≤ 12 := h; omega) hi) (Ev.yes (decide_eq_true (by omega)) (Ev.bind (aR n hn) (Ev.yes (decide_eq_true (by rw [ByteArray.size_append]; omega)) (Ev.some rfl)))))
end Qq
namespace Qq
open Go Go.Vt Pt
set_option linter.unusedVariables false
set_option linter.unusedSimpArgs false
end Qq
namespace Qq
open Go Go.Vt Pt
set_option linter.unusedVariables false
set_option linter.unusedSimpArgs false
def gp (t : Trick) : List Int × Int × Bool := if zi t then (t.1, -1, true) else ([], 0, false)
theorem Rk (t : Trick) (a1 : t.1.length ≤ maxLen) (ai : Ins t.1) (a2 : t.2.1.length ≤ maxLen) : Ev (fun k => bq k t) (gp t) := by
 refine Ev.step (fun k => Ui k t) (Ev.bind (xa t a1 ai a2) (Ev.ite (fun h => Ev.some ?_) (fun h => ?_)))
 ·have : zi t = false := by simpa using h
  simp [gp, this]
 ·have e : zi t = true := by simpa using h
  have hl := zy e
  refine Ev.bind (yL t.1 (by omega)) ?_
  have : (!t.1.isEmpty) = true := by
   cases hx : t.1 with
   | nil => rw [hx] at hl; simp at hl
   | cons => rfl
  rw [this]
  exact Ev.some (by simp [gp, e])
end Qq
namespace Qq
open Go Go.Vt Pt
set_option linter.unusedVariables false
set_option linter.unusedSimpArgs false
end Qq
namespace Qq
open Go Go.Vt Pt
set_option linter.unusedVariables false
set_option linter.unusedSimpArgs false
set_option linter.unnecessarySimpa false
abbrev Way : Type := Scene × List Int
def addP (s : zz) (w : List Int) : Nat → List Scene → List Way → List Way
 | _, [], acc => acc
 | j, x :: r, acc => if x ∈ acc.map Prod.fst then addP s w (j + 1) r acc else addP s w (j + 1) r (acc ++ [(x, if s.1 = 2 then w ++ [(j : Int)] else w)])
def goP (s : zz) : List Way → List Way → List Way
 | [], acc => acc
 | c :: r, acc => goP s r (addP s c.2 0 (zm c.1 s) acc)
def uL : List zz → List Way → Option (List Way)
 | [], l => some l
 | s :: r, l => if (goP s l []).length ≤ 3000 then uL r (goP s l []) else none
theorem WU (s : zz) (w : List Int) : ∀ (r : List Scene) (j : Nat) (acc : List Way), acc.length ≤ (addP s w j r acc).length
 | [], _, _ => Nat.le_refl _
 | x :: r, j, acc => by
   unfold addP
   split
   ·exact WU s w r (j + 1) acc
   ·exact Nat.le_trans (by simp) (WU s w r (j + 1) _)
theorem LW (s : zz) : ∀ (l acc : List Way), acc.length ≤ (goP s l acc).length
 | [], _ => Nat.le_refl _
 | c :: r, acc => Nat.le_trans (WU s c.2 _ 0 acc) (LW s r _)
def bM (n : Nat) (l : List Way) : Prop := ∀ c ∈ l, SceneOk n c.1
theorem PU {n : Nat} (s : zz) (w : List Int) : ∀ (r : List Scene) (j : Nat) (acc : List Way), (∀ x ∈ r, SceneOk n x) → bM n acc → bM n (addP s w j r acc)
 | [], _, _, _, h => h
 | x :: r, j, acc, hr, h => by
   unfold addP
   split
   ·exact PU s w r (j + 1) acc (fun y hy => hr y (by simp [hy])) h
   ·refine PU s w r (j + 1) _ (fun y hy => hr y (by simp [hy])) (fun c hc => ?_)
    rcases List.mem_append.1 hc with hc | hc
    ·exact h c hc
    ·have : c = (x, if s.1 = 2 then w ++ [(j : Int)] else w) := by simpa using hc
     rw [this]; exact hr x (by simp)
theorem LV {n : Nat} {s : zz} (hs : zx (n : Int) s = true) : ∀ (l acc : List Way), bM n l → bM n acc → bM n (goP s l acc)
 | [], _, _, h => h
 | c :: r, acc, hl, h => LV hs r _ (fun d hd => hl d (by simp [hd])) (PU s c.2 _ 0 acc (cW (hl c (by simp)) hs) h)
def Q2 (m : Nat) (l : List Way) : Prop := ∀ c ∈ l, c.2.length ≤ m
def outP : Option (List Way) → List Scene × List (List Int) × Bool
 | some l => (l.map Prod.fst, l.map Prod.snd, true) | none => ([], [], false)
def resP (r : List zz) (A : List Way) : List Scene × List (List Int) × Bool := if A.length ≤ 3000 then outP (uL r A) else outP none
theorem jL (p q : List Int) (hp : p.length ≤ maxLen) (e : q.length = p.length) : ∀ (r r' : List Int) (i : Nat), p.drop i = r → q.drop i = r' → Ev (fun k => xT k q p (p.length : Int) (i : Int)) (decide (r = r'))
 | [], r', i, h, h' => by
   have a := zO h
   have : r' = [] := by rw [← h', List.drop_eq_nil_iff]; have := a.ge; omega
   refine Ev.step (fun k => xP k _ _ _ _) ?_
   simp only [a.g, cond_false]
   exact Ev.some (by simp [this])
 | x :: r, [], i, h, h' => by
   have a := zl h hp
   have := a.lt
   rw [List.drop_eq_nil_iff] at h'
   omega
 | x :: r, y :: r', i, h, h' => by
   have a := zl h hp
   have b := zl h' (by rw [e]; exact hp)
   have hlt := a.lt
   refine Ev.step (fun k => xP k _ _ _ _) ?_
   simp only [a.g, a.z, a.get, a.w, b.g, b.get, cond_true]
   refine Ev.ite (fun h1 => Ev.some ?_) (fun h1 => ?_)
   ·have : ¬ x = y := by simpa using h1
    simp [this]
   ·have : x = y := by simpa using h1
    subst this
    refine (jL p q hp e r r' (i + 1) a.next b.next).to ?_
    simp
theorem Wm (p q : List Int) (hp : p.length ≤ maxLen) : Ev (fun k => zW k (p, q)) (decide (p = q)) := by
 refine Ev.step (fun k => cP k p q) (Ev.ite (fun h => Ev.some ?_) (fun h => ?_))
 ·have : ¬ (p.length : Int) = q.length := by simpa using h
  have : ¬ p = q := fun e => this (by rw [e])
  simp [this]
 ·have : (p.length : Int) = q.length := by simpa using h
  exact jL p q hp (by omega) p q 0 rfl rfl
theorem Vn (c d : Scene) (hc : c.1.length ≤ maxLen) : Ev (fun k => Zj k (c, d)) (decide (c = d)) := by
 obtain ⟨p, n⟩ := c
 obtain ⟨q, m⟩ := d
 refine Ev.step (fun k => UX k (p, n) (q, m)) (Ev.bind (Wm p q hc) (Ev.ite (fun h => Ev.some ?_) (fun h => Ev.some ?_)))
 ·have : p = q := by simpa using h
  subst this
  rw [Bool.eq_iff_iff]; simp
 ·have : ¬ p = q := by simpa using h
  simp [this]
theorem eS (l : List Scene) (x : Scene) (hl : l.length ≤ 16384) (hx : x.1.length ≤ 12) : ∀ (r : List Scene) (i : Nat), l.drop i = r → ∃ y, Ev (fun k => jF k l (l.length : Int) (i : Int) x.1 x.2) y ∧ decide (y ≥ 0) = decide (x ∈ r)
 | [], i, h => by
   have a := zO h
   refine ⟨-1, Ev.step (fun k => uQ k _ _ _ _ _) ?_, by simp⟩
   simp only [a.g, cond_false]
   exact Ev.pure _
 | c :: r, i, h => by
   have a := zl h (by rw [zd]; omega)
   obtain ⟨y, h1, h2⟩ := eS l x hl hx r (i + 1) a.next
   have hs := Vn x c (by rw [zd]; omega)
   by_cases e : x = c
   ·refine ⟨(i : Int), Ev.step (fun k => uQ k _ _ _ _ _) ?_, by simp [e]⟩
    simp only [a.g, a.z, a.get, a.w, cond_true]
    exact Ev.bind hs (Ev.yes (by simp [e]) (Ev.pure _))
   ·refine ⟨y, Ev.step (fun k => uQ k _ _ _ _ _) ?_, by rw [h2]; simp [e]⟩
    simp only [a.g, a.z, a.get, a.w, cond_true]
    exact Ev.bind hs (Ev.no (by simp [e]) h1)
theorem RB (l : List Scene) (x : Scene) (hl : l.length ≤ 16384) (hx : x.1.length ≤ 12) : ∃ y, Ev (fun k => Vd k (l, x)) y ∧ decide (y ≥ 0) = decide (x ∈ l) := by
 obtain ⟨y, h1, h2⟩ := eS l x hl hx l 0 rfl
 exact ⟨y, Ev.step (fun k => RD k l x) h1, h2⟩
theorem fQ {n m : Nat} (hn : n ≤ 12) (hm : m ≤ 12) (steps : List zz) (l : List Way) (hl : l.length ≤ 3000) (s : zz) (si : Nat) (ci : Nat) (c : Way) (hci : ci < l.length) (hc : l[ci] = c) (hcm : c.2.length ≤ m) (rs : List zz) (rc : List Way) (nx : List Scene) (hnx : nx.length ≤ 4096)
 (K : ∀ acc : List Way, acc.length ≤ 3000 → bM n acc → Q2 (m + 1) acc → Ev (fun k => vY k steps (steps.length : Int) (si : Int) (l.length : Int) ((ci + 1 : Nat) : Int) (l.map Prod.snd) s.1 s.2.1.1 s.2.1.2 s.2.2 (acc.map Prod.fst) (acc.map Prod.snd) (l.map Prod.fst)) (resP rs (goP s rc acc))) :
 ∀ (xs : List Scene) (j : Nat) (acc : List Way), nx.drop j = xs → (∀ x ∈ xs, SceneOk n x) → acc.length ≤ 3000 → bM n acc → Q2 (m + 1) acc →
   Ev (fun k => wa k (ci : Int) steps (steps.length : Int) (si : Int) (l.length : Int) (ci : Int) (nx.length : Int) (j : Int) (l.map Prod.snd) s.1 s.2.1.1 s.2.1.2 s.2.2 (acc.map Prod.fst) (acc.map Prod.snd) (l.map Prod.fst) nx) (resP rs (goP s rc (addP s c.2 j xs acc)))
 | [], j, acc, h, hx, ha, hk, hw => by
   have a := zO h
   have ew : IntKind.i64.wrap ((ci : Int) + 1) = ((ci + 1 : Nat) : Int) := by rw [zf (by omega) (by omega)]; omega
   refine Ev.step (fun k => fR k _ _ _ _ _ _ _ _ _ _ _ _ _ _ _ _ _) ?_
   simp only [a.g, cond_false, ew]
   exact K acc ha hk hw
 | x :: xs, j, acc, h, hx, ha, hk, hw => by
   have a := zl h (by rw [zd]; omega)
   have hxo := hx x (by simp)
   have hx12 : x.1.length ≤ 12 := by rw [hxo.len]; exact hn
   have ih := fun acc ha hk hw => fQ hn hm steps l hl s si ci c hci hc hcm rs rc nx hnx K xs (j + 1) acc a.next (fun y hy => hx y (by simp [hy])) ha hk hw
   obtain ⟨y, y1, y2⟩ := RB (acc.map Prod.fst) x (by rw [List.length_map]; omega) hx12
   refine Ev.step (fun k => fR k _ _ _ _ _ _ _ _ _ _ _ _ _ _ _ _ _) ?_
   simp only [a.g, a.z, a.n, a.get, a.w, cond_true]
   unfold addP
   refine Ev.bind y1 (Ev.ite (fun h1 => ?_) (fun h1 => ?_))
   ·rw [y2, decide_eq_true_eq] at h1
    rw [if_pos h1]
    exact ih acc ha hk hw
   ·rw [y2, decide_eq_false_iff_not] at h1
    rw [if_neg h1]
    have hg : (l.map Prod.snd).getD (ci : Int).toNat [] = c.2 := by
     rw [Int.toNat_natCast, List.getD, List.getElem?_map, List.getElem?_eq_getElem hci, hc]; rfl
    have hxx : (x, if s.1 = 2 then c.2 ++ [(j : Int)] else c.2) ∈ [(x, if s.1 = 2 then c.2 ++ [(j : Int)] else c.2)] := by simp
    have hk2 : bM n (acc ++ [(x, if s.1 = 2 then c.2 ++ [(j : Int)] else c.2)]) := fun d hd => by
     rcases List.mem_append.1 hd with hd | hd
     ·exact hk d hd
     ·have : d = (x, if s.1 = 2 then c.2 ++ [(j : Int)] else c.2) := by simpa using hd
      rw [this]; exact hxo
    have hw2 : Q2 (m + 1) (acc ++ [(x, if s.1 = 2 then c.2 ++ [(j : Int)] else c.2)]) := fun d hd => by
     rcases List.mem_append.1 hd with hd | hd
     ·exact hw d hd
     ·have : d = (x, if s.1 = 2 then c.2 ++ [(j : Int)] else c.2) := by simpa using hd
      rw [this]
      dsimp only
      split
      ·simp; omega
      ·omega
    have big : 3000 < (acc ++ [(x, if s.1 = 2 then c.2 ++ [(j : Int)] else c.2)]).length → resP rs (goP s rc (addP s c.2 (j + 1) xs (acc ++ [(x, if s.1 = 2 then c.2 ++ [(j : Int)] else c.2)]))) = ([], [], false) := fun hb => by
     unfold resP
     rw [if_neg]
     ·rfl
     ·have := WU s c.2 xs (j + 1) (acc ++ [(x, if s.1 = 2 then c.2 ++ [(j : Int)] else c.2)])
      have := LW s rc (addP s c.2 (j + 1) xs (acc ++ [(x, if s.1 = 2 then c.2 ++ [(j : Int)] else c.2)]))
      omega
    have te := zd
    simp only [hg, List.nil_append]
    refine Ev.yes (by rw [za]; simp; omega) (Ev.yes (by simp) (Ev.yes (by simp; omega) (Ev.yes (by simp; omega) (Ev.yes (by rw [za]; simp; omega) (Ev.ite (fun h2 => ?_) (fun h2 => ?_))))))
    ·have e2 : s.1 = 2 := by simpa using h2
     simp only [if_pos e2] at hk2 hw2 big ⊢
     refine Ev.yes (by rw [za]; simp; omega) (Ev.yes (by rw [za]; simp; omega) (Ev.ite (fun h3 => Ev.some ?_) (fun h3 => ?_)))
     ·exact (big (by simp at h3 ⊢; omega)).symm
     ·have := ih (acc ++ [(x, c.2 ++ [(j : Int)])]) (by simp at h3 ⊢; omega) hk2 hw2
      simpa using this
    ·have e2 : ¬ s.1 = 2 := by simpa using h2
     simp only [if_neg e2] at hk2 hw2 big ⊢
     refine Ev.yes (by rw [za]; simp; omega) (Ev.ite (fun h3 => Ev.some ?_) (fun h3 => ?_))
     ·exact (big (by simp at h3 ⊢; omega)).symm
     ·have := ih (acc ++ [(x, c.2)]) (by simp at h3 ⊢; omega) hk2 hw2
      simpa using this
end Qq
namespace Qq
open Go Go.Vt Pt
set_option linter.unusedVariables false
set_option linter.unusedSimpArgs false
set_option linter.unnecessarySimpa false
theorem eU {n m : Nat} (hn : n ≤ 12) (hm : m ≤ 12) (steps : List zz) (l : List Way) (hl : l.length ≤ 3000) (hok : bM n l) (hway : Q2 m l) (s : zz) (hs : zx (n : Int) s = true) (si : Nat) (hsi : si < steps.length) (h12 : steps.length ≤ 12) (rs : List zz)
 (K : ∀ acc : List Way, acc.length ≤ 3000 → bM n acc → Q2 (m + 1) acc → Ev (fun k => vZ k steps (steps.length : Int) ((si + 1 : Nat) : Int) (acc.map Prod.fst) (acc.map Prod.snd)) (outP (uL rs acc))) :
 ∀ (rc : List Way) (ci : Nat) (acc : List Way), l.drop ci = rc → acc.length ≤ 3000 → bM n acc → Q2 (m + 1) acc →
   Ev (fun k => vY k steps (steps.length : Int) (si : Int) (l.length : Int) (ci : Int) (l.map Prod.snd) s.1 s.2.1.1 s.2.1.2 s.2.2 (acc.map Prod.fst) (acc.map Prod.snd) (l.map Prod.fst)) (resP rs (goP s rc acc))
 | [], ci, acc, h, ha, hk, hw => by
   have a := zO h
   have ew : IntKind.i64.wrap ((si : Int) + 1) = ((si + 1 : Nat) : Int) := by rw [zf (by omega) (by omega)]; omega
   refine Ev.step (fun k => eV k _ _ _ _ _ _ _ _ _ _ _ _ _) ?_
   simp only [a.g, cond_false, ew]
   unfold goP resP
   rw [if_pos ha]
   exact K acc ha hk hw
 | c :: rc, ci, acc, h, ha, hk, hw => by
   have a := zl h (by rw [zd]; omega)
   have hlt := a.lt
   have hg : l[ci] = c := by have := a.gt ((([], 0), []) : Way); simpa [List.getD, hlt] using this
   have hco := hok c a.mem
   have hgs : (l.map Prod.fst).getD (ci : Int).toNat ([], 0) = c.1 := by
    rw [Int.toNat_natCast, List.getD, List.getElem?_map, List.getElem?_eq_getElem hlt, hg]; rfl
   have e1 : decide ((ci : Int) < ((l.map Prod.fst).length : Int)) = true := decide_eq_true (by rw [List.length_map]; omega)
   have e2 : decide ((ci : Int).toNat < (l.map Prod.fst).length) = true := decide_eq_true (by rw [List.length_map]; omega)
   refine Ev.step (fun k => eV k _ _ _ _ _ _ _ _ _ _ _ _ _) ?_
   simp only [a.g, a.z, e1, e2, hgs, cond_true]
   refine Ev.bind (RH hco hs) ?_
   unfold goP
   exact fQ hn hm steps l hl s si ci c hlt hg (hway c a.mem) rs rc (zm c.1 s) (Z7 hco hs).2
    (fun acc ha hk hw => eU hn hm steps l hl hok hway s hs si hsi h12 rs K rc (ci + 1) acc a.next ha hk hw)
    (zm c.1 s) 0 acc rfl (cW hco hs) ha hk hw
theorem wj (s : zz) (r : List zz) (l : List Way) : uL (s :: r) l = if (goP s l []).length ≤ 3000 then uL r (goP s l []) else none := rfl
theorem eW {n : Nat} (hn : n ≤ 12) (steps : List zz) (h12 : steps.length ≤ 12) : ∀ (rs : List zz) (si : Nat) (l : List Way), steps.drop si = rs → (∀ s ∈ rs, zx (n : Int) s = true) → l.length ≤ 3000 → bM n l → Q2 si l →
 Ev (fun k => vZ k steps (steps.length : Int) (si : Int) (l.map Prod.fst) (l.map Prod.snd)) (outP (uL rs l))
 | [], si, l, h, hs, hl, hok, hw => by
   have a := zO h
   refine Ev.step (fun k => eX k _ _ _ _ _) ?_
   simp only [a.g, cond_false]
   exact Ev.some rfl
 | s :: rs, si, l, h, hs, hl, hok, hw => by
   have a := zl h (by rw [zd]; omega)
   have hlt := a.lt
   have hso := hs s (by simp)
   refine Ev.step (fun k => eX k _ _ _ _ _) ?_
   simp only [a.g, a.z, a.get, cond_true]
   have := eU hn (by omega) steps l hl hok hw s hso si hlt h12 rs (fun acc ha hk hw => eW hn steps h12 rs (si + 1) acc a.next (fun q hq => hs q (by simp [hq])) ha hk hw)
    l 0 [] rfl (by simp) (fun c hc => by cases hc) (fun c hc => by cases hc)
   rw [List.length_map]
   refine this.to ?_
   rw [wj]
   unfold resP
   split
   ·rfl
   ·rfl
def yj (t : Trick) : List Way := [((t.1, -1), [])]
theorem yI {t : Trick} (h : zi t = true) : SceneOk t.1.length (t.1, -1) ∧ (∀ s ∈ t.2.1, zx (t.1.length : Int) s = true) := by
 refine ⟨⟨(zy h).2.2.2, rfl, by show (-1 : Int) ≤ -1; decide, by show (-1 : Int) < 12; decide⟩, ?_⟩
 unfold zi at h
 simp only [Bool.and_eq_true] at h
 exact fun s hs => List.all_eq_true.1 h.2.2.2.1 s hs
theorem eK {t : Trick} (h : zi t = true) : bM t.1.length (yj t) := by
 intro c hc
 have e : c = ((t.1, -1), []) := by simpa [yj] using hc
 rw [e]
 exact (yI h).1
theorem NW (t : Trick) : Q2 0 (yj t) := by
 intro c hc
 have e : c = ((t.1, -1), []) := by simpa [yj] using hc
 rw [e]
 simp
theorem RE (t : Trick) (h : zi t = true) : Ev (fun k => Ve k t) (outP (uL t.2.1 (yj t))) := by
 obtain ⟨h1, h2, h3, h4⟩ := zy h
 have hs := yI h
 refine Ev.step (fun k => RF k t) (Ev.yes (by rw [za]; simp; omega) ?_)
 rw [List.nil_append]
 exact eW h3 t.2.1 h1 t.2.1 0 (yj t) rfl hs.2 (by simp [yj]) (eK h) (NW t)
def addU : List Scene → List Scene → List Scene
 | [], acc => acc | x :: r, acc => if x ∈ acc then addU r acc else addU r (acc ++ [x])
def goU (s : zz) : List Scene → List Scene → List Scene
 | [], acc => acc | c :: r, acc => goU s r (addU (zm c s) acc)
theorem Rf : ∀ (r acc : List Scene), acc.length ≤ (addU r acc).length ∧ (addU r acc).length ≤ acc.length + r.length
 | [], _ => ⟨Nat.le_refl _, Nat.le_refl _⟩
 | x :: r, acc => by
   unfold addU
   split
   ·have := Rf r acc; simp only [List.length_cons]; omega
   ·have := Rf r (acc ++ [x]); simp only [List.length_cons, List.length_append, List.length_nil] at this ⊢; omega
theorem LS (s : zz) : ∀ (l acc : List Scene), acc.length ≤ (goU s l acc).length
 | [], _ => Nat.le_refl _
 | c :: r, acc => Nat.le_trans (Rf _ acc).1 (LS s r _)
theorem Rg (s : zz) (w : List Int) : ∀ (r : List Scene) (j : Nat) (acc : List Way), (addP s w j r acc).map Prod.fst = addU r (acc.map Prod.fst)
 | [], _, _ => rfl
 | x :: r, j, acc => by
   unfold addP addU
   by_cases h : x ∈ acc.map Prod.fst
   ·rw [if_pos h, if_pos h, Rg]
   ·rw [if_neg h, if_neg h, Rg, List.map_append]; rfl
theorem SU (s : zz) : ∀ (l acc : List Way), (goP s l acc).map Prod.fst = goU s (l.map Prod.fst) (acc.map Prod.fst)
 | [], _ => rfl
 | c :: r, acc => by unfold goP goU; rw [SU, Rg]; rfl
def SAll (n : Nat) (l : List Scene) : Prop := ∀ c ∈ l, SceneOk n c
theorem W6 {t : Trick} (h : zi t = true) : SAll t.1.length [(t.1, -1)] := by
 intro c hc
 have e : c = (t.1, -1) := by simpa using hc
 rw [e]
 exact (yI h).1
def levU : List zz → List Scene → Option (List (List Scene))
 | [], l => some [l]
 | s :: r, l => if (goU s l []).length ≤ 3000 then (levU r (goU s l [])).map (l :: ·) else none
theorem VV (s : zz) (r : List zz) (l : List Scene) : levU (s :: r) l = if (goU s l []).length ≤ 3000 then (levU r (goU s l [])).map (l :: ·) else none := rfl
def outU (pre : List (List Scene)) : Option (List (List Scene)) → List (List Scene) × Bool
 | some l => (pre ++ l, true) | none => ([], false)
def resU (pre : List (List Scene)) (r : List zz) (A : List Scene) : List (List Scene) × Bool := if A.length ≤ 3000 then outU pre (levU r A) else outU pre none
theorem TH {n : Nat} (h1 : 1 ≤ n) {c : Scene} (hc : SceneOk n c) : c.1 ≠ [] := fun e => by have := hc.len; rw [e] at this; simp at this; omega
theorem SB : ∀ (r : List zz) (l : List Way), (levU r (l.map Prod.fst)).map (fun L => L.getLastD []) = (uL r l).map (fun A => A.map Prod.fst) ∧ (∀ L, levU r (l.map Prod.fst) = some L → L.length = r.length + 1)
 | [], l => ⟨rfl, fun L h => by cases h; rfl⟩
 | s :: r, l => by
   have e : goU s (l.map Prod.fst) [] = (goP s l []).map Prod.fst := by rw [SU]; rfl
   have hlen : (goU s (l.map Prod.fst) []).length = (goP s l []).length := by rw [e, List.length_map]
   obtain ⟨h1, h2⟩ := SB r (goP s l [])
   rw [VV, wj, hlen, e]
   by_cases hc : (goP s l []).length ≤ 3000
   ·rw [if_pos hc, if_pos hc]
    constructor
    ·rw [← h1]
     cases hL : levU r ((goP s l []).map Prod.fst) with
     | none => rfl
     | some L =>
       have := h2 L hL
       cases L with
       | nil => simp at this
       | cons a L => simp [List.getLastD]
    ·intro L hL
     obtain ⟨L', hL', rfl⟩ := Option.map_eq_some_iff.1 hL
     rw [List.length_cons, h2 L' hL', List.length_cons]
   ·rw [if_neg hc, if_neg hc]
    exact ⟨rfl, fun L hL => by cases hL⟩
def wu (t : Trick) : Option (List Way) := uL t.2.1 (yj t)
def ya (t : Trick) : List Scene × Bool :=
 if zi t then (match wu t with | some A => (A.map Prod.fst, true) | none => ([], false)) else ([], false)
theorem fH : ∀ (r : List zz) (l : List Way) (A : List Way), l.length ≤ 3000 → uL r l = some A → A.length ≤ 3000
 | [], l, A, hl, h => by cases h; exact hl
 | s :: r, l, A, hl, h => by
   rw [wj] at h
   split at h
   ·rename_i hc; exact fH r _ A hc h
   ·cases h
theorem WM {n : Nat} : ∀ (r : List zz) (l : List Way) (A : List Way), (∀ s ∈ r, zx (n : Int) s = true) → bM n l → uL r l = some A → bM n A
 | [], l, A, _, hl, h => by cases h; exact hl
 | s :: r, l, A, hs, hl, h => by
   rw [wj] at h
   split at h
   ·exact WM r _ A (fun q hq => hs q (by simp [hq])) (LV (hs s (by simp)) l [] hl (fun c hc => by cases hc)) h
   ·cases h
end Qq
namespace Qq
open Go Go.Vt Pt
set_option linter.unusedVariables false
set_option linter.unusedSimpArgs false
set_option linter.unnecessarySimpa false
theorem JT {n : Nat} {p0 : List Int} {c : Scene} {s : zz} (hc : SceneOk n c) (hp : Pm c.1 p0) (hs : zx (n : Int) s = true) : ∀ d ∈ zm c s, Pm d.1 p0 := by
 obtain ⟨h1, h2, hk⟩ := wD hs
 intro d hd
 unfold zm at hd
 rcases hk with ⟨e, m⟩ | ⟨e, c0, c4, c3, c2⟩ | ⟨e, a0, an⟩
 ·rw [if_pos e] at hd
  have hd : d = (xf c.1 s.2.1, c.2) := by simpa using hd
  subst hd
  exact (QM (by rw [hc.len]; exact m)).trans hp
 ·rw [if_neg (by omega), if_neg (by omega)] at hd
  obtain ⟨q, hq, rfl⟩ := List.mem_map.1 hd
  exact (ND q ((wW _ q).1 hq)).trans hp
 ·rw [if_neg (by omega), if_pos e] at hd
  have hd : d = (c.1, card (c.1.getD s.2.2.toNat 0)) := by simpa using hd
  subst hd
  exact hp
theorem Rh {Q : Scene → Prop} (s : zz) (w : List Int) : ∀ (r : List Scene) (j : Nat) (acc : List Way), (∀ x ∈ r, Q x) → (∀ c ∈ acc, Q c.1) → ∀ c ∈ addP s w j r acc, Q c.1
 | [], _, _, _, h => h
 | x :: r, j, acc, hr, h => by
   unfold addP
   split
   ·exact Rh s w r (j + 1) acc (fun y hy => hr y (by simp [hy])) h
   ·refine Rh s w r (j + 1) _ (fun y hy => hr y (by simp [hy])) (fun c hc => ?_)
    rcases List.mem_append.1 hc with hc | hc
    ·exact h c hc
    ·have : c = (x, if s.1 = 2 then w ++ [(j : Int)] else w) := by simpa using hc
     rw [this]; exact hr x (by simp)
theorem LX {Q : Scene → Prop} {s : zz} (hQ : ∀ c, Q c → ∀ d ∈ zm c s, Q d) : ∀ (l acc : List Way), (∀ c ∈ l, Q c.1) → (∀ c ∈ acc, Q c.1) → ∀ c ∈ goP s l acc, Q c.1
 | [], _, _, h => h
 | c :: r, acc, hl, h => LX hQ r _ (fun d hd => hl d (by simp [hd])) (Rh s c.2 _ 0 acc (hQ c.1 (hl c (by simp))) h)
theorem QK {Q : Scene → Prop} : ∀ (r : List zz) (l : List Way) (A : List Way), (∀ s ∈ r, ∀ c, Q c → ∀ d ∈ zm c s, Q d) → (∀ c ∈ l, Q c.1) → uL r l = some A → ∀ c ∈ A, Q c.1
 | [], l, A, _, hl, h => by cases h; exact hl
 | s :: r, l, A, hs, hl, h => by
   rw [wj] at h
   split at h
   ·exact QK r _ A (fun q hq => hs q (by simp [hq])) (LX (hs s (by simp)) l [] hl (fun c hc => by cases hc)) h
   ·cases h
theorem Na (c : Int) : ∀ (q : List Int) (i : Nat), c ∈ q.map card → 0 ≤ posF c i q
 | [], _, h => by simp at h
 | x :: q, i, h => by
   unfold posF
   split
   ·omega
   ·rename_i hne
    refine Na c q (i + 1) ?_
    rw [List.map_cons, List.mem_cons] at h
    rcases h with h | h
    ·exact (hne h.symm).elim
    ·exact h
theorem K0 {p q : List Int} (h : zw p = true) (hq : Pm q p) : U2 p q = true := by
 have h2 := fm h hq
 unfold U2
 rw [h, h2.1, h2.2]
 simp only [Bool.true_and, Bool.and_eq_true, beq_self_eq_true, List.all_eq_true, decide_eq_true_eq, true_and]
 intro x hx
 have hc := ((yw h).2.1 x hx).1
 unfold pos
 rw [if_neg (by omega)]
 exact Na _ q 0 (hq.mem_iff.2 (List.mem_map.2 ⟨x, hx, rfl⟩))
theorem YQ {t : Trick} (h : zi t = true) : ∀ c ∈ (ya t).1, U2 t.1 c.1 = true := by
 unfold ya
 rw [if_pos h]
 cases hE : wu t with
 | none => intro c hc; cases hc
 | some A =>
   intro c hc
   obtain ⟨d, hd, rfl⟩ := List.mem_map.1 (show c ∈ A.map Prod.fst from hc)
   have hs := yI h
   have := QK (Q := fun c => SceneOk t.1.length c ∧ Pm c.1 t.1) t.2.1 (yj t) A (fun s hss c hc d hd => ⟨cW hc.1 (hs.2 s hss) d hd, JT hc.1 hc.2 (hs.2 s hss) d hd⟩) (fun c hc => by
    have e : c = ((t.1, -1), []) := by simpa [yj] using hc
    rw [e]
    exact ⟨hs.1, List.Perm.refl _⟩) hE d hd
   exact K0 (zy h).2.2.2 this.2
def Zu (t : Trick) : Int := if (ya t).2 = true then (((ya t).1.countP (wt t) : Nat) : Int) else -1
end Qq
namespace Qq
open Go Go.Vt Pt
set_option linter.unusedVariables false
set_option linter.unusedSimpArgs false
structure KL (l : Packs) : Prop where
 ne : l ≠ []
 len : l.length ≤ 3000
 ss : SS l
 arr : ∃ p, zw p = true ∧ 1 ≤ p.length ∧ ∀ q ∈ l, Pm q p
theorem KL.pm {l : Packs} (h : KL l) {q q' : List Int} (hq : q ∈ l) (hq' : q' ∈ l) : Pm q q' := by
 obtain ⟨p, _, _, h3⟩ := h.arr
 exact (h3 q hq).trans (h3 q' hq').symm
theorem KL.ok {l : Packs} (h : KL l) {q : List Int} (hq : q ∈ l) : zw q = true ∧ 1 ≤ q.length ∧ q.length ≤ 12 := by
 obtain ⟨p, h1, h2, h3⟩ := h.arr
 obtain ⟨k1, k2⟩ := fm h1 (h3 q hq)
 exact ⟨k1, by omega, (yw k1).2.2⟩
theorem KL.filter {l : Packs} (h : KL l) (f : List Int → Bool) (hne : l.filter f ≠ []) : KL (l.filter f) := by
 obtain ⟨p, h1, h2, h3⟩ := h.arr
 exact ⟨hne, Nat.le_trans (List.length_filter_le _ _) h.len, List.Pairwise.filter _ h.ss, p, h1, h2, fun q hq => h3 q (List.mem_filter.1 hq).1⟩
end Qq
namespace Qq
open Go Go.Vt Pt
set_option linter.unusedVariables false
set_option linter.unusedSimpArgs false
theorem jY {g : Int → Int} {p : List Int} {k : Nat} (h : k < p.length) : (p.map g).getD k 0 = g (p.getD k 0) := by simp [List.getD, h]
theorem QE (g : Int → Int) : ∀ (n : Nat) (f : Bool) (a b : List Int), a.length + b.length = n → fz f (a.map g) (b.map g) = (fz f a b).map g
 | _, f, [], [], _ => by simp [fz]
 | n + 1, f, x :: a, [], h => by
   have := QE g n (!f) a [] (by simpa using h)
   simp only [List.map_cons, List.map_nil] at this ⊢
   rw [fz, fz, List.map_cons, ← this]
 | n + 1, f, [], y :: b, h => by
   have := QE g n (!f) [] b (by simpa using h)
   simp only [List.map_cons, List.map_nil] at this ⊢
   rw [fz, fz, List.map_cons, ← this]
 | n + 1, true, x :: a, y :: b, h => by
   have := QE g n false a (y :: b) (by simp at h ⊢; omega)
   simp only [List.map_cons] at this ⊢
   rw [fz, fz, List.map_cons, ← this]
 | n + 1, false, x :: a, y :: b, h => by
   have := QE g n true (x :: a) b (by simp at h ⊢; omega)
   simp only [List.map_cons] at this ⊢
   rw [fz, fz, List.map_cons, ← this]
 | 0, _, _ :: _, _, h => by simp at h
 | 0, _, [], _ :: _, h => by simp at h
theorem Lh (g : Int → Int) (k : Int) : ∀ (r : List Int) (i : Nat) (out : List Int), mz k i (r.map g) (out.map g) = (mz k i r out).map g
 | [], i, out => rfl
 | x :: r, i, out => by
   simp only [List.map_cons]
   unfold mz
   split
   ·have := Lh g k r (i + 1) (out ++ [x])
    rw [List.map_append] at this
    exact this
   ·exact Lh g k r (i + 1) (x :: out)
theorem Jy (g : Int → Int) : ∀ (n : Nat) (p out : List Int), kz n (p.map g) (out.map g) = (kz n p out).map g
 | 0, p, out => by simp [kz]
 | n + 1, p, out => by
   unfold kz
   rw [List.length_map]
   split
   ·rename_i h
    rw [jY (by omega), jY (by omega)]
    have := Jy g n ((p.take (p.length - 1)).drop 1) (p.getD 0 0 :: p.getD (p.length - 1) 0 :: out)
    simp only [List.map_cons, List.map_drop, List.map_take] at this ⊢
    exact this
   ·simp
theorem L5 (g : Int → Int) : ∀ (n : Nat) (f : Bool) (q out : List Int), 1 ≤ q.length → dz n f (q.map g) (out.map g) = (dz n f q out).map g
 | 0, f, q, out, h => by
   unfold dz
   rw [jY (by omega)]; simp
 | n + 1, f, q, out, h => by
   unfold dz
   rw [List.length_map, jY (by omega)]
   split
   ·rename_i h1
    cases f with
    | true =>
      simp only [cond_true]
      have := L5 g n false (q.drop 1) (q.getD 0 0 :: out) (by simp; omega)
      simp only [List.map_cons, List.map_drop] at this ⊢
      exact this
    | false =>
      simp only [cond_false]
      have := L5 g n true (q.drop 1 ++ [q.getD 0 0]) out (by simp)
      simp only [List.map_append, List.map_cons, List.map_nil, List.map_drop] at this ⊢
      exact this
   ·simp
theorem JC (p : List Int) : p = (upTo p.length).map (fun i => p.getD i.toNat 0) := by
 apply List.ext_getElem
 ·simp [T5]
 ·intro i h1 h2
  simp [upTo, List.getD, h1]
theorem JU {n : Nat} (F : List Int → List Int) (hmap : ∀ (g : Int → Int), F ((upTo n).map g) = (F (upTo n)).map g) (hperm : (F (upTo n)).Perm (upTo n)) {p q : List Int} (hp : p.length = n) (hq : q.length = n) (h : F p = F q) : p = q := by
 have ep := JC p
 have eq := JC q
 rw [hp] at ep
 rw [hq] at eq
 rw [ep, eq, hmap, hmap] at h
 have hg := List.map_inj_left.1 h
 rw [ep, eq]
 exact List.map_congr_left fun x hx => hg x (hperm.mem_iff.2 hx)
theorem ZC {x : Int} (h : 0 ≤ card x) : turn (turn x) = x := by
 have h1 := UF x
 have e : turn x = -1 - x := by unfold turn; rw [if_neg (by omega)]
 unfold turn at h1 ⊢
 rw [if_neg (by omega : ¬ card x < 0)] at h1 ⊢
 rw [if_neg (by omega)]
 omega
theorem Qi {a b : List Int} (ha : ∀ x ∈ a, 0 ≤ card x) (hb : ∀ x ∈ b, 0 ≤ card x) (h : a.map turn = b.map turn) : a = b := by
 have := congrArg (List.map turn) h
 rw [List.map_map, List.map_map] at this
 have e1 : a.map (turn ∘ turn) = a := by
  conv => rhs; rw [← List.map_id a]
  exact List.map_congr_left fun x hx => ZC (ha x hx)
 have e2 : b.map (turn ∘ turn) = b := by
  conv => rhs; rw [← List.map_id b]
  exact List.map_congr_left fun x hx => ZC (hb x hx)
 rw [e1, e2] at this
 exact this
theorem Mr {m : Int × Int} {p q : List Int} (hm : MoveFit p.length m) (hl : q.length = p.length) (hp : ∀ x ∈ p, 0 ≤ card x) (hq : ∀ x ∈ q, 0 ≤ card x) (h : xf p m = xf q m) : p = q := by
 have h1 := hm.n1
 have h6 := hm.k0
 have ht := hm.t
 have hu := T5 p.length
 have hmu : MoveFit (upTo p.length).length m := by rw [hu]; exact hm
 have pm : ∀ (F : List Int → List Int), (∀ g : Int → Int, F ((upTo p.length).map g) = (F (upTo p.length)).map g) → (F (upTo p.length)).Perm (upTo p.length) → F p = F q → p = q := fun F a b c => JU F a b rfl hl c
 unfold xf at h
 split at h
 ·exact pm (fun p => p.drop m.2.toNat ++ p.take m.2.toNat) (fun g => by simp [List.map_drop, List.map_take]) (List.perm_append_comm.trans (by rw [List.take_append_drop])) h
 split at h
 ·exact pm (fun p => (p.take m.2.toNat).reverse ++ p.drop m.2.toNat) (fun g => by simp [List.map_drop, List.map_take, List.map_reverse]) (((List.reverse_perm _).append_right _).trans (by rw [List.take_append_drop])) h
 split at h
 ·have hh := List.append_inj h (by simp [hl])
  have h3 := Qi (fun x hx => hp x (List.mem_of_mem_take (List.mem_reverse.1 hx))) (fun x hx => hq x (List.mem_of_mem_take (List.mem_reverse.1 hx))) hh.1
  have h4 := congrArg List.reverse h3
  rw [List.reverse_reverse, List.reverse_reverse] at h4
  rw [← List.take_append_drop m.2.toNat p, ← List.take_append_drop m.2.toNat q, h4, hh.2]
 split at h
 ·refine pm (fun p => SY p m.2) (fun g => ?_) ?_ h
  ·unfold SY
   rw [List.length_map, ← List.map_take, ← List.map_drop, QE g _ _ _ _ rfl]
  ·unfold SY
   exact (Xn _ _ _ _ rfl).trans (by rw [List.take_append_drop])
 split at h
 ·exact pm (fun p => mz m.2 0 p []) (fun g => Lh g m.2 _ 0 []) ((Sy m.2 _ 0 []).trans (by simp)) h
 split at h
 ·exact pm (fun p => kz p.length p []) (fun g => by show kz ((upTo p.length).map g).length _ [] = _; rw [List.length_map]; exact Jy g _ _ []) ((Pp _ _ []).trans (by simp)) h
 split at h
 ·exact pm (fun p => dz (2 * p.length + 1) (m.2 == 1) p []) (fun g => by show dz (2 * ((upTo p.length).map g).length + 1) _ _ [] = _; rw [List.length_map]; exact L5 g _ _ _ [] (by rw [hu]; exact h1)) ((S7 (2 * (upTo p.length).length + 1) (m.2 == 1) _ [] (by rw [hu]; exact h1) (by cases (m.2 == 1) <;> simp)).trans (by simp)) h
 split at h
 ·rename_i a1 a2 a3 a4 a5 a6 a7 a8
  have h5 := ht a1 a2 a3 a4 a5 a6 a7
  have hlt : m.2.toNat < p.length := by omega
  have hlq : m.2.toNat < q.length := by omega
  apply List.ext_getElem hl.symm
  intro i i1 i2
  have hi := congrArg (fun l : List Int => l[i]?) h
  simp only [List.getElem?_set] at hi
  by_cases e : m.2.toNat = i
  ·subst e
   simp [i1, i2, List.getD] at hi
   have t1 := ZC (hp _ (List.getElem_mem i1))
   have t2 := ZC (hq _ (List.getElem_mem i2))
   rw [← t1, hi, t2]
  ·simp [e] at hi
   rw [List.getElem?_eq_getElem i1, List.getElem?_eq_getElem i2] at hi
   exact Option.some.inj hi
 ·rename_i a1 a2 a3 a4 a5 a6 a7 a8
  have h5 := ht a1 a2 a3 a4 a5 a6 a7
  have hlt : m.2.toNat < p.length := by omega
  refine pm (fun p => p.take m.2.toNat ++ p.drop (m.2.toNat + 1) ++ [p.getD m.2.toNat 0]) (fun g => ?_) (Sw _ _ (by rw [hu]; exact hlt)) h
  rw [jY (by rw [hu]; exact hlt)]
  simp [List.map_drop, List.map_take]
end Qq
namespace Qq
open Go Go.Vt Pt
set_option linter.unusedVariables false
set_option linter.unusedSimpArgs false
end Qq
namespace Qq
open Go Go.Vt Pt
set_option linter.unusedVariables false
set_option linter.unusedSimpArgs false
theorem Me (c : Cur) (hc : xg c) (n : Nat) (h1 : 1 ≤ n) (h12 : n ≤ 12) : ∃ (m : Int × Int) (c' : Cur), Ev (fun k => cE k (c, (n : Int))) (m, c') ∧ vb (n : Int) m = true ∧ xg c' := by
 obtain ⟨y, c1, e1, a1, a2, a3⟩ := zM c hc 9
 have hy := a2 (by omega)
 have hw : IntKind.i64.wrap ((1 : Int) + y) = 1 + y := zf (by omega) (by omega)
 have hw2 : IntKind.i64.wrap ((n : Int) + (1 : Int)) = (n : Int) + 1 := zf (by omega) (by omega)
 obtain ⟨u, cu, eu, u1, u2, u3⟩ := zM c1 a3 ((n : Int) + 1)
 obtain ⟨v, cv, ev, v1, v2, v3⟩ := zM c1 a3 2
 obtain ⟨w, cw, ew, w1, w2, w3⟩ := zM c1 a3 (n : Int)
 have hu := u2 (by omega)
 have hv := v2 (by omega)
 have hww := w2 (by omega)
 have dn : decide ((1 : Int) ≤ (n : Int)) = true := decide_eq_true (by omega)
 have dm : decide ((n : Int) ≤ (12 : Int)) = true := decide_eq_true (by omega)
 have st : ∀ {z : (Int × Int) × Cur}, Ev (fun k => (zh k (c, (9 : Int))).bind fun y1 =>
  bif ((IntKind.i64.wrap ((1 : Int) + y1.1)) == (1 : Int)) then ((zh k (y1.2, (IntKind.i64.wrap ((n : Int) + (1 : Int))))).bind fun y2 => some (((IntKind.i64.wrap ((1 : Int) + y1.1)), y2.1), y2.2))
  else (bif ((IntKind.i64.wrap ((1 : Int) + y1.1)) == (2 : Int)) then ((zh k (y1.2, (IntKind.i64.wrap ((n : Int) + (1 : Int))))).bind fun y3 => some (((IntKind.i64.wrap ((1 : Int) + y1.1)), y3.1), y3.2))
  else (bif ((IntKind.i64.wrap ((1 : Int) + y1.1)) == (3 : Int)) then ((zh k (y1.2, (IntKind.i64.wrap ((n : Int) + (1 : Int))))).bind fun y4 => some (((IntKind.i64.wrap ((1 : Int) + y1.1)), y4.1), y4.2))
  else (bif ((IntKind.i64.wrap ((1 : Int) + y1.1)) == (4 : Int)) then ((zh k (y1.2, (2 : Int))).bind fun y5 => some (((IntKind.i64.wrap ((1 : Int) + y1.1)), y5.1), y5.2))
  else (bif ((IntKind.i64.wrap ((1 : Int) + y1.1)) == (5 : Int)) then ((zh k (y1.2, (2 : Int))).bind fun y6 => some (((IntKind.i64.wrap ((1 : Int) + y1.1)), y6.1), y6.2))
  else (bif ((IntKind.i64.wrap ((1 : Int) + y1.1)) == (7 : Int)) then ((zh k (y1.2, (2 : Int))).bind fun y7 => some (((IntKind.i64.wrap ((1 : Int) + y1.1)), y7.1), y7.2))
  else (bif ((IntKind.i64.wrap ((1 : Int) + y1.1)) == (8 : Int)) then ((zh k (y1.2, (n : Int))).bind fun y8 => some (((IntKind.i64.wrap ((1 : Int) + y1.1)), y8.1), y8.2))
  else (bif ((IntKind.i64.wrap ((1 : Int) + y1.1)) == (9 : Int)) then ((zh k (y1.2, (n : Int))).bind fun y9 => some (((IntKind.i64.wrap ((1 : Int) + y1.1)), y9.1), y9.2))
  else (some (((IntKind.i64.wrap ((1 : Int) + y1.1)), (0 : Int)), y1.2)))))))))) z → Ev (fun k => cE k (c, (n : Int))) z := fun h => Ev.step (fun k => RS k c (n : Int)) h
 have hcase : y = 0 ∨ y = 1 ∨ y = 2 ∨ y = 3 ∨ y = 4 ∨ y = 5 ∨ y = 6 ∨ y = 7 ∨ y = 8 := by omega
 rcases hcase with rfl | rfl | rfl | rfl | rfl | rfl | rfl | rfl | rfl
 ·refine ⟨(1, u), cu, st (Ev.bind e1 (Ev.yes rfl ?_)), ?_, u3⟩
  ·rw [hw2]; exact Ev.bind eu (Ev.some rfl)
  ·unfold vb; simp [dn, dm]; omega
 ·refine ⟨(2, u), cu, st (Ev.bind e1 (Ev.no rfl (Ev.yes rfl ?_))), ?_, u3⟩
  ·rw [hw2]; exact Ev.bind eu (Ev.some rfl)
  ·unfold vb; simp [dn, dm]; omega
 ·refine ⟨(3, u), cu, st (Ev.bind e1 (Ev.no rfl (Ev.no rfl (Ev.yes rfl ?_)))), ?_, u3⟩
  ·rw [hw2]; exact Ev.bind eu (Ev.some rfl)
  ·unfold vb; simp [dn, dm]; omega
 ·refine ⟨(4, v), cv, st (Ev.bind e1 (Ev.no rfl (Ev.no rfl (Ev.no rfl (Ev.yes rfl ?_))))), ?_, v3⟩
  ·exact Ev.bind ev (Ev.some rfl)
  ·unfold vb; simp [dn, dm]; omega
 ·refine ⟨(5, v), cv, st (Ev.bind e1 (Ev.no rfl (Ev.no rfl (Ev.no rfl (Ev.no rfl (Ev.yes rfl ?_)))))), ?_, v3⟩
  ·exact Ev.bind ev (Ev.some rfl)
  ·unfold vb; simp [dn, dm]; omega
 ·refine ⟨(6, 0), c1, st (Ev.bind e1 (Ev.no rfl (Ev.no rfl (Ev.no rfl (Ev.no rfl (Ev.no rfl (Ev.no rfl (Ev.no rfl (Ev.no rfl ?_))))))))), ?_, a3⟩
  ·exact Ev.some rfl
  ·unfold vb; simp [dn, dm] <;> omega
 ·refine ⟨(7, v), cv, st (Ev.bind e1 (Ev.no rfl (Ev.no rfl (Ev.no rfl (Ev.no rfl (Ev.no rfl (Ev.yes rfl ?_))))))), ?_, v3⟩
  ·exact Ev.bind ev (Ev.some rfl)
  ·unfold vb; simp [dn, dm]; omega
 ·refine ⟨(8, w), cw, st (Ev.bind e1 (Ev.no rfl (Ev.no rfl (Ev.no rfl (Ev.no rfl (Ev.no rfl (Ev.no rfl (Ev.yes rfl ?_)))))))), ?_, w3⟩
  ·exact Ev.bind ew (Ev.some rfl)
  ·unfold vb; simp [dn, dm]; omega
 ·refine ⟨(9, w), cw, st (Ev.bind e1 (Ev.no rfl (Ev.no rfl (Ev.no rfl (Ev.no rfl (Ev.no rfl (Ev.no rfl (Ev.no rfl (Ev.yes rfl ?_))))))))), ?_, w3⟩
  ·exact Ev.bind ew (Ev.some rfl)
  ·unfold vb; simp [dn, dm]; omega
theorem To (xs ys : List Int) (hx : xs.length ≤ 9223372036854775807) (hl : xs.length = ys.length) : ∀ (r : List Int) (i : Nat), xs.drop i = r → xs.take i = ys.take i → Ev (fun k => ZA k ys xs (xs.length : Int) (i : Int)) (decide (xs = ys))
 | [], i, h, ht => by
   have a := zO h
   have e : xs = ys := by
    rw [List.take_of_length_le a.ge, List.take_of_length_le (by rw [← hl]; exact a.ge)] at ht
    exact ht
   exact Ev.step (fun k => Xy k _ _ _ _) (Ev.no a.g (Ev.some (by simp [e])))
 | x :: r, i, h, ht => by
   have a := zl h (by rw [zd]; exact hx)
   have lt := a.lt
   have gy : decide ((i : Int) < (ys.length : Int)) = true := decide_eq_true (by omega)
   refine Ev.step (fun k => Xy k _ _ _ _) ?_
   simp only [a.g, a.z, a.get, a.w, gy, cond_true, Int.toNat_natCast]
   have hg : xs.getD i 0 = x := a.gt 0
   have hy : i < ys.length := by omega
   have hgy : ys.getD i 0 = ys[i] := by simp [List.getD, hy]
   by_cases e : x = ys.getD i 0
   ·refine Ev.no (by rw [hg, e]; simp) (To xs ys hx hl r (i + 1) a.next ?_)
    rw [MW h, ht, List.take_add_one, List.getElem?_eq_getElem hy, e, hgy]; rfl
   ·refine Ev.yes (by rw [hg]; simp at e ⊢; exact e) (Ev.some ?_)
    have : xs ≠ ys := fun h2 => e (by rw [← hg, h2])
    simp [this]
theorem JK (xs ys : List Int) (hx : xs.length ≤ 9223372036854775807) : Ev (fun k => MT k (xs, ys)) (decide (xs = ys)) := by
 refine Ev.step (fun k => MS k xs ys) ?_
 by_cases h : xs.length = ys.length
 ·exact Ev.no (by simp [h]) (To xs ys hx h _ 0 rfl (by simp))
 ·have : xs ≠ ys := fun e => h (by rw [e])
  exact Ev.yes (by simp; omega) (Ev.some (by simp [this]))
end Qq
namespace Qq
open Go Go.Vt Pt
set_option linter.unusedVariables false
set_option linter.unusedSimpArgs false
theorem gx (n : Nat) (hn : 1 ≤ n) (hm : n ≤ 12) : ∀ (d i : Nat), i + d = n → Ev (fun k => vK k (n : Int) (i : Int) (upTo i)) (upTo n)
 | 0, i, h => by
   have e : i = n := by omega
   subst e
   refine Ev.step (fun k => gz k _ _ _) ?_
   rw [HD (by omega)]
   refine Ev.no rfl (Ev.yes ?_ (Ev.pure _))
   have : (upTo i).length = i := by simp [upTo]
   cases hx : upTo i with
   | nil => rw [hx] at this; simp at this; omega
   | cons => rfl
 | d + 1, i, h => by
   have u := HR (n := (n : Int)) (i := i) (by omega) (by omega)
   refine Ev.step (fun k => gz k _ _ _) ?_
   simp only [u.g, u.w, cond_true]
   refine Ev.yes (by rw [za]; simp [upTo]; omega) ?_
   have := gx n hn hm d (i + 1) (by omega)
   have e : upTo (i + 1) = upTo i ++ [(i : Int)] := by simp [upTo, List.range_succ]
   rw [e] at this
   exact this
theorem yB : Ev (fun k => vr k 4) (upTo 4) := by
 refine Ev.step (fun k => UY k _) (Ev.bind (wg _ _ _) (Ev.no rfl ?_))
 exact gx 4 (by omega) (by omega) 4 0 rfl
end Qq
namespace Qq
open Go Go.Vt Pt
set_option linter.unusedVariables false
set_option linter.unusedSimpArgs false
set_option linter.unnecessarySimpa false
theorem Mc (c : Cur) (hc : xg c) (n : Nat) (h1 : 1 ≤ n) (h7 : n ≤ 7) : ∃ (s : Step) (c' : Cur), Ev (fun k => gr k (c, (n : Int))) ((s.1, (s.2.1.1, (s.2.1.2, s.2.2))), c') ∧ zx (n : Int) s = true ∧ xg c' := by
 obtain ⟨y, c1, e1, a1, a2, a3⟩ := zM c hc 4
 have hy := a2 (by omega)
 have dn : decide ((1 : Int) ≤ (n : Int)) = true := decide_eq_true (by omega)
 have dm : decide ((n : Int) ≤ (12 : Int)) = true := decide_eq_true (by omega)
 have st : ∀ {z : (Int × Int × Int × Int) × Cur}, Ev (fun k => (zh k (c, (4 : Int))).bind fun y1 =>
  bif (y1.1 == (0 : Int)) then
   ((gv k (y1.2, [(0 : Int), (1 : Int), (1 : Int), (3 : Int), (4 : Int)])).bind fun y2 =>
   bif (y2.1 == (3 : Int)) then
    (bif decide ((n : Int) < (2 : Int)) then
      (some (((2 : Int), ((0 : Int), ((0 : Int), (1 : Int)))), y2.2))
    else (some (((2 : Int), ((0 : Int), ((0 : Int), y2.1))), y2.2)))
   else (some (((2 : Int), ((0 : Int), ((0 : Int), y2.1))), y2.2)))
  else (bif (y1.1 == (1 : Int)) then
   ((zh k (y1.2, (n : Int))).bind fun y3 =>
   some (((3 : Int), ((0 : Int), ((0 : Int), y3.1))), y3.2))
   else ((cE k (y1.2, (n : Int))).bind fun y4 =>
    some (((1 : Int), (y4.1.1, (y4.1.2, (0 : Int)))), y4.2)))) z → Ev (fun k => gr k (c, (n : Int))) z := fun h => Ev.step (fun k => RG k c (n : Int)) h
 have hcase : y = 0 ∨ y = 1 ∨ 2 ≤ y := by omega
 rcases hcase with rfl | rfl | h2
 ·obtain ⟨u, cu, eu, u1, u2, u3⟩ := zM c1 a3 5
  have hu := u2 (by omega)
  have ep : Ev (fun k => gv k (c1, [(0 : Int), (1 : Int), (1 : Int), (3 : Int), (4 : Int)])) (([(0 : Int), (1 : Int), (1 : Int), (3 : Int), (4 : Int)].getD u.toNat 0), cu) := by
   refine Ev.step (fun k => XK k c1 _) (Ev.bind eu (Ev.yes (decide_eq_true u1) (Ev.yes (decide_eq_true (by simpa using hu)) (Ev.pure _))))
  have hcu : u = 0 ∨ u = 1 ∨ u = 2 ∨ u = 3 ∨ u = 4 := by omega
  have one : Ev (fun k => gr k (c, (n : Int))) (((2 : Int), ((0 : Int), ((0 : Int), (1 : Int)))), cu) → ∃ (s : Step) (c' : Cur), Ev (fun k => gr k (c, (n : Int))) ((s.1, (s.2.1.1, (s.2.1.2, s.2.2))), c') ∧ zx (n : Int) s = true ∧ xg c' := fun h => ⟨(2, (0, 0), 1), cu, h, by unfold zx; simp [dn, dm], u3⟩
  rcases hcu with rfl | rfl | rfl | rfl | rfl
  ·exact ⟨(2, (0, 0), 0), cu, st (Ev.bind e1 (Ev.yes rfl (Ev.bind ep (Ev.no rfl (Ev.pure _))))), by unfold zx; simp [dn, dm], u3⟩
  ·exact one (st (Ev.bind e1 (Ev.yes rfl (Ev.bind ep (Ev.no rfl (Ev.pure _))))))
  ·exact one (st (Ev.bind e1 (Ev.yes rfl (Ev.bind ep (Ev.no rfl (Ev.pure _))))))
  ·by_cases h2 : (n : Int) < 2
   ·exact one (st (Ev.bind e1 (Ev.yes rfl (Ev.bind ep (Ev.yes rfl (Ev.yes (decide_eq_true h2) (Ev.pure _)))))))
   ·exact ⟨(2, (0, 0), 3), cu, st (Ev.bind e1 (Ev.yes rfl (Ev.bind ep (Ev.yes rfl (Ev.no (decide_eq_false h2) (Ev.pure _)))))), by unfold zx; simp [dn, dm]; omega, u3⟩
  ·exact ⟨(2, (0, 0), 4), cu, st (Ev.bind e1 (Ev.yes rfl (Ev.bind ep (Ev.no rfl (Ev.pure _))))), by unfold zx; simp [dn, dm], u3⟩
 ·obtain ⟨u, cu, eu, u1, u2, u3⟩ := zM c1 a3 (n : Int)
  have hu := u2 (by omega)
  exact ⟨(3, (0, 0), u), cu, st (Ev.bind e1 (Ev.no rfl (Ev.yes rfl (Ev.bind eu (Ev.pure _))))), by unfold zx; simp [dn, dm]; omega, u3⟩
 ·obtain ⟨m, cm, em, m1, m2⟩ := Me c1 a3 n h1 (by omega)
  refine ⟨(1, m, 0), cm, st (Ev.bind e1 (Ev.no (by simp; omega) (Ev.no (by simp; omega) (Ev.bind em (Ev.pure _))))), ?_, m2⟩
  unfold zx
  rw [dn, dm]
  simp [m1]
theorem Lb {p : List Int} (h : zw p = true) (h1 : 1 ≤ p.length) : 0 ≤ pos p (card (p.getD 0 0)) := by
 cases p with
 | nil => simp at h1
 | cons x r =>
   have := ((yw h).2.1 x (by simp)).1
   show 0 ≤ pos (x :: r) (card x)
   unfold pos
   rw [if_neg (by omega)]
   unfold posF
   rw [if_pos rfl]
   omega
structure Made (t : Trick) : Prop where
 ok : zi t = true
 le : t.1.length ≤ 4
 st : t.2.1.length ≤ 4
theorem QD (st : List Step) (s : Step) : yS (st ++ [s]) = (yS st || s.1 == 3) := by unfold yS; simp
theorem VQ {p : List Int} {st : List Step} {c a b : Int} (hp : zw p = true) (h1 : 1 ≤ p.length) (h4 : p.length ≤ 4) (hs : st.length ≤ 4) (hk : ∀ s ∈ st, zx (p.length : Int) s = true) (hc : x6 p.length p (yS st) c a b = true) : Made (p, st, c, a, b) := by
 refine ⟨?_, h4, hs⟩
 unfold zi
 have hz : (p.length == 0) = false := by simp; intro e; rw [e] at h1; simp at h1
 have e12 : decide (st.length ≤ 12) = true := decide_eq_true (by omega)
 simp only [hp, hz, e12, Bool.true_and, Bool.not_false]
 rw [hc, Bool.and_true]
 exact List.all_eq_true.2 hk
theorem Yc (p : List Int) (hp : zw p = true) (h1 : 1 ≤ p.length) (h4 : p.length ≤ 4) : ∀ (m : Nat) (st : List Step) (c : Cur), st.length + m ≤ 4 → (∀ s ∈ st, zx (p.length : Int) s = true) → xg c →
 ∃ (t : Trick) (c' : Cur), Ev (fun k => xS k (p.length : Int) (yS st) (m : Int) 0 0 0 0 0 0 p st c.1 c.2.1 c.2.2) (t, c') ∧ Made t ∧ xg c'
 | 0, st, c, hl, hs, hc => by
   obtain ⟨y, c1, e1, a1, a2, a3⟩ := zM c hc 4
   have hy := a2 (by omega)
   have hw : IntKind.i64.wrap ((p.length : Int) + (1 : Int)) = (p.length : Int) + 1 := zf (by omega) (by omega)
   have st0 : ∀ {z : Trick × Cur} {f : Nat → Option (Trick × Cur)}, (∀ k, xS (k + 1) (p.length : Int) (yS st) ((0 : Nat) : Int) 0 0 0 0 0 0 p st c.1 c.2.1 c.2.2 = f k) → Ev f z → Ev (fun k => xS k (p.length : Int) (yS st) ((0 : Nat) : Int) 0 0 0 0 0 0 p st c.1 c.2.1 c.2.2) z := fun h1 h2 => Ev.step h1 h2
   have hcase : y = 0 ∨ y = 1 ∨ y = 2 ∨ y = 3 := by omega
   rcases hcase with rfl | rfl | rfl | rfl
   ·cases hn : yS st with
    | true =>
      obtain ⟨u, cu, eu, u1, u2, u3⟩ := zM c1 a3 (p.length : Int)
      have hu := u2 (by omega)
      refine ⟨(p, st, 1, u, 0), cu, Ev.step (fun k => xp k _ _ _ _ _ _ _ _ _ _ _ _ _ _) (Ev.no rfl (Ev.bind e1 (Ev.yes rfl (Ev.yes rfl (Ev.bind eu (Ev.pure _)))))), VQ hp h1 h4 (by omega) hs ?_, u3⟩
      unfold x6
      rw [hn]
      simp; omega
    | false =>
      refine ⟨(p, st, 0, 0, 0), c1, Ev.step (fun k => xp k _ _ _ _ _ _ _ _ _ _ _ _ _ _) (Ev.no rfl (Ev.bind e1 (Ev.yes rfl (Ev.no rfl (Ev.pure _))))), VQ hp h1 h4 (by omega) hs ?_, a3⟩
      unfold x6
      simp
   ·obtain ⟨u, cu, eu, u1, u2, u3⟩ := zM c1 a3 ((p.length : Int) + 1)
    have hu := u2 (by omega)
    refine ⟨(p, st, 2, u, 0), cu, Ev.step (fun k => xp k _ _ _ _ _ _ _ _ _ _ _ _ _ _) (Ev.no rfl (Ev.bind e1 (Ev.no rfl (Ev.yes rfl ?_)))), VQ hp h1 h4 (by omega) hs ?_, u3⟩
    ·rw [hw]; exact Ev.bind eu (Ev.pure _)
    ·unfold x6
     simp; omega
   ·obtain ⟨u, cu, eu, u1, u2, u3⟩ := zM c1 a3 (p.length : Int)
    have hu := u2 (by omega)
    refine ⟨(p, st, 3, card (p.getD 0 0), u), cu, Ev.step (fun k => xp k _ _ _ _ _ _ _ _ _ _ _ _ _ _) (Ev.no rfl (Ev.bind e1 (Ev.no rfl (Ev.no rfl (Ev.yes rfl (Ev.yes (decide_eq_true (by omega)) (Ev.yes (decide_eq_true (by omega)) (Ev.bind (vt _) (Ev.bind eu (Ev.pure _)))))))))), VQ hp h1 h4 (by omega) hs ?_, u3⟩
    have := Lb hp h1
    unfold x6
    simp only [this]
    simp; omega
   ·refine ⟨(p, st, 4, 0, 0), c1, Ev.step (fun k => xp k _ _ _ _ _ _ _ _ _ _ _ _ _ _) (Ev.no rfl (Ev.bind e1 (Ev.no rfl (Ev.no rfl (Ev.no rfl (Ev.pure _)))))), VQ hp h1 h4 (by omega) hs ?_, a3⟩
    unfold x6
    simp
 | m + 1, st, c, hl, hs, hc => by
   obtain ⟨s, c1, e1, s1, hc1⟩ := Mc c hc p.length h1 (by omega)
   obtain ⟨t, c2, e2, ht, hc2⟩ := Yc p hp h1 h4 m (st ++ [s]) c1 (by simp; omega) (fun q hq => by
    rcases List.mem_append.1 hq with hq | hq
    ·exact hs q hq
    ·have : q = s := by simpa using hq
     rw [this]; exact s1) hc1
   have hw : IntKind.i64.wrap (((m + 1 : Nat) : Int) - (1 : Int)) = (m : Int) := by rw [zf (by omega) (by omega)]; omega
   refine ⟨t, c2, Ev.step (fun k => xp k _ _ _ _ _ _ _ _ _ _ _ _ _ _) (Ev.yes (decide_eq_true (by omega)) (Ev.bind e1 ?_)), ht, hc2⟩
   rw [hw]
   rw [QD] at e2
   cases hn : yS st with
   | true =>
     rw [hn, Bool.true_or] at e2
     exact Ev.yes rfl (Ev.yes (by rw [za]; simp; omega) e2)
   | false =>
     rw [hn, Bool.false_or] at e2
     exact Ev.no rfl (Ev.yes (by rw [za]; simp; omega) e2)
theorem VY (c : Cur) (hc : xg c) : ∃ (t : Trick) (c' : Cur), Ev (fun k => vp k c) (t, c') ∧ Made t ∧ xg c' := by
 obtain ⟨y, c1, e1, a1, a2, a3⟩ := zM c hc 4
 have hy := a2 (by omega)
 have hcase : y = 0 ∨ y = 1 ∨ y = 2 ∨ y = 3 := by omega
 rcases hcase with rfl | rfl | rfl | rfl
 ·exact ⟨_, c1, Ev.step (fun k => yY k c) (Ev.bind e1 (Ev.yes rfl (Ev.bind yB (Ev.pure _)))), ⟨by decide, by decide, by decide⟩, a3⟩
 ·exact ⟨_, c1, Ev.step (fun k => yY k c) (Ev.bind e1 (Ev.no rfl (Ev.yes rfl (Ev.bind yB (Ev.pure _))))), ⟨by decide, by decide, by decide⟩, a3⟩
 ·exact ⟨_, c1, Ev.step (fun k => yY k c) (Ev.bind e1 (Ev.no rfl (Ev.no rfl (Ev.yes rfl (Ev.bind yB (Ev.pure _)))))), ⟨by decide, by decide, by decide⟩, a3⟩
 ·exact ⟨_, c1, Ev.step (fun k => yY k c) (Ev.bind e1 (Ev.no rfl (Ev.no rfl (Ev.no rfl (Ev.bind yB (Ev.pure _)))))), ⟨by decide, by decide, by decide⟩, a3⟩
theorem Md (c : Cur) (hc : xg c) : ∃ (t : Trick) (c' : Cur), Ev (fun k => ZO k c) (t, c') ∧ Made t ∧ xg c' := by
 obtain ⟨b, c1, e1, hc1⟩ := bX c hc 3
 cases b with
 | true =>
   obtain ⟨t, c2, e2, ht, hc2⟩ := VY c1 hc1
   exact ⟨t, c2, Ev.step (fun k => XF k c) (Ev.bind e1 (Ev.yes rfl (Ev.bind e2 (Ev.pure _)))), ht, hc2⟩
 | false =>
   obtain ⟨p, c2, e2, hp, hc2⟩ := TF c1 hc1 4 (by omega) (by omega)
   obtain ⟨y, c3, e3, a1, a2, hc3⟩ := zM c2 hc2 5
   have hy := a2 (by omega)
   obtain ⟨j, rfl⟩ : ∃ j : Nat, y = (j : Int) := ⟨y.toNat, by omega⟩
   obtain ⟨t, c4, e4, ht, hc4⟩ := Yc p hp.ok hp.pos hp.le j [] c3 (by simp; omega) (fun s hs => by cases hs) hc3
   exact ⟨t, c4, Ev.step (fun k => XF k c) (Ev.bind e1 (Ev.no rfl (Ev.bind e2 (Ev.bind e3 e4)))), ht, hc4⟩
end Qq
namespace Qq
open Go Go.Vt Pt
set_option linter.unusedVariables false
set_option linter.unusedSimpArgs false
set_option linter.unnecessarySimpa false
def canF (bad : Scene → Bool) : List zz → Scene → Bool
 | [], c => bad c
 | s :: r, c => (zm c s).any (canF bad r)
def T7 (F : Scene → Bool) (s : zz) (w : Way) : Way :=
 let k := (zm w.1 s).findIdx F
 ((zm w.1 s).getD k ([], 0), if s.1 = 2 then w.2 ++ [(k : Int)] else w.2)
def firstW (bad : Scene → Bool) : List zz → Way → Way
 | [], w => w
 | s :: r, w => firstW bad r (T7 (canF bad r) s w)
theorem WT (s : zz) (w : List Int) : ∀ (r : List Scene) (j : Nat) (acc : List Way), ∃ m, addP s w j r acc = acc ++ m
 | [], _, acc => ⟨[], by simp [addP]⟩
 | x :: r, j, acc => by
   unfold addP
   split
   ·exact WT s w r (j + 1) acc
   ·obtain ⟨m, hm⟩ := WT s w r (j + 1) (acc ++ [(x, if s.1 = 2 then w ++ [(j : Int)] else w)])
    exact ⟨_, by rw [hm, List.append_assoc]⟩
theorem LU (s : zz) : ∀ (l acc : List Way), ∃ m, goP s l acc = acc ++ m
 | [], acc => ⟨[], by simp [goP]⟩
 | c :: r, acc => by
   unfold goP
   obtain ⟨m1, h1⟩ := WT s c.2 (zm c.1 s) 0 acc
   obtain ⟨m2, h2⟩ := LU s r (addP s c.2 0 (zm c.1 s) acc)
   exact ⟨m1 ++ m2, by rw [h2, h1, List.append_assoc]⟩
theorem Nv {α : Type} {p : α → Bool} {acc m : List α} {y : α} (h : acc.find? p = some y) : (acc ++ m).find? p = some y := by rw [List.find?_append, h]; rfl
theorem L3 {α : Type} {p : α → Bool} {acc : List α} (h : ∀ a ∈ acc, p a = false) : acc.find? p = none := by
 rw [List.find?_eq_none]
 intro a ha
 rw [h a ha]; simp
theorem QX (F : Scene → Bool) (s : zz) (w : List Int) : ∀ (xs : List Scene) (j : Nat) (acc : List Way), (∀ a ∈ acc, F a.1 = false) →
 (xs.any F = true → (addP s w j xs acc).find? (fun a => F a.1) = some (xs.getD (xs.findIdx F) ([], 0), if s.1 = 2 then w ++ [((j + xs.findIdx F : Nat) : Int)] else w)) ∧
 (xs.any F = false → ∀ a ∈ addP s w j xs acc, F a.1 = false)
 | [], j, acc, h => ⟨fun e => (by simp at e), fun _ => h⟩
 | x :: r, j, acc, h => by
   have jump : ∀ acc' : List Way, (∀ a ∈ acc', F a.1 = false) → F x = false → addP s w j (x :: r) acc = addP s w (j + 1) r acc' →
    ((x :: r).any F = true → (addP s w j (x :: r) acc).find? (fun a => F a.1) = some ((x :: r).getD ((x :: r).findIdx F) ([], 0), if s.1 = 2 then w ++ [((j + (x :: r).findIdx F : Nat) : Int)] else w)) ∧
    ((x :: r).any F = false → ∀ a ∈ addP s w j (x :: r) acc, F a.1 = false) := fun acc' ha hx e => by
    obtain ⟨i1, i2⟩ := QX F s w r (j + 1) acc' ha
    have ei : (x :: r).findIdx F = r.findIdx F + 1 := by rw [List.findIdx_cons, hx]; rfl
    rw [List.any_cons, hx, Bool.false_or, e, ei]
    refine ⟨fun q => ?_, i2⟩
    rw [i1 q]
    have e1 : j + 1 + r.findIdx F = j + (r.findIdx F + 1) := by omega
    rw [e1]
    rfl
   by_cases hm : x ∈ acc.map Prod.fst
   ·obtain ⟨a, ha, rfl⟩ := List.mem_map.1 hm
    exact jump acc h (h a ha) (by rw [addP, if_pos hm])
   ·have e : addP s w j (x :: r) acc = addP s w (j + 1) r (acc ++ [(x, if s.1 = 2 then w ++ [(j : Int)] else w)]) := by rw [addP, if_neg hm]
    cases hx : F x with
    | false =>
      refine jump _ (fun a ha => ?_) hx e
      rcases List.mem_append.1 ha with ha | ha
      ·exact h a ha
      ·have : a = (x, if s.1 = 2 then w ++ [(j : Int)] else w) := by simpa using ha
       rw [this]; exact hx
    | true =>
      refine ⟨fun _ => ?_, fun q => (by rw [List.any_cons, hx] at q; cases q)⟩
      obtain ⟨m, hm2⟩ := WT s w r (j + 1) (acc ++ [(x, if s.1 = 2 then w ++ [(j : Int)] else w)])
      have ei : (x :: r).findIdx F = 0 := by rw [List.findIdx_cons, hx]; rfl
      rw [e, hm2, ei]
      refine Nv ?_
      rw [List.find?_append, L3 h]
      simp [hx]
theorem Nt (F : Scene → Bool) (s : zz) : ∀ (l acc : List Way), (∀ a ∈ acc, F a.1 = false) →
 (goP s l acc).find? (fun a => F a.1) = (l.find? (fun c => (zm c.1 s).any F)).map (T7 F s)
 | [], acc, h => by
   show acc.find? _ = none
   exact L3 h
 | c :: r, acc, h => by
   obtain ⟨i1, i2⟩ := QX F s c.2 (zm c.1 s) 0 acc h
   unfold goP
   rw [List.find?_cons]
   cases hc : (zm c.1 s).any F with
   | true =>
     obtain ⟨m, hm⟩ := LU s r (addP s c.2 0 (zm c.1 s) acc)
     rw [hm, Nv (i1 hc)]
     unfold T7
     simp
   | false => exact Nt F s r _ (i2 hc)
theorem QH (bad : Scene → Bool) : ∀ (r : List zz) (l A : List Way), uL r l = some A → A.find? (fun w => bad w.1) = (l.find? (fun w => canF bad r w.1)).map (firstW bad r)
 | [], l, A, h => by
   cases h
   show _ = (l.find? (fun w => bad w.1)).map (fun w => w)
   simp
 | s :: r, l, A, h => by
   unfold uL at h
   split at h
   ·rw [QH bad r _ A h, Nt (canF bad r) s l [] (fun a ha => by cases ha)]
    rw [Option.map_map]
    rfl
   ·cases h
end Qq
namespace Qq
open Go Go.Vt Pt
set_option linter.unusedVariables false
theorem wm (xs : List Step) (hm : xs.length ≤ 12) : ∀ (r : List Step) (i : Nat) (v : Nat), xs.drop i = r → v ≤ i → Ev (fun k => xv k (v : Int) xs (xs.length : Int) (i : Int)) ((v : Int) + countK (· == 2) r)
 | [], i, v, h, hv => by
   have q := zO h
   refine Ev.step (fun k => uG k _ _ _ _) ?_
   simp only [q.g, cond_false]
   exact Ev.some (by simp [countK])
 | s :: r, i, v, h, hv => by
   have q := zl h (by rw [zd]; omega)
   have := q.lt
   refine Ev.step (fun k => uG k _ _ _ _) ?_
   simp only [q.g, q.z, q.get, q.w, cond_true]
   rw [x5]
   refine Ev.ite (fun h => ?_) (fun h => ?_)
   ·rw [zf (by omega) (by omega)]
    refine (wm xs hm r (i + 1) (v + 1) q.next (by omega)).to ?_
    rw [if_pos h]; omega
   ·refine (wm xs hm r (i + 1) v q.next (by omega)).to ?_
    rw [h]; simp
def xy (t : Trick) : Int := if zi t then (countK (· == 2) t.2.1 : Int) else -1
theorem gL (t : Trick) (a1 : t.1.length ≤ maxLen) (ai : Ins t.1) (a2 : t.2.1.length ≤ maxLen) : Ev (fun k => vP k t) (xy t) := by
 refine Ev.step (fun k => Xk k t) (Ev.bind (xa t a1 ai a2) (Ev.ite (fun h => Ev.some ?_) (fun h => ?_)))
 ·have : zi t = false := by simpa using h
  simp [xy, this]
 ·have e : zi t = true := by simpa using h
  refine (wm t.2.1 (zy e).1 t.2.1 0 0 rfl (by omega)).to ?_
  simp [xy, e]
end Qq
namespace Qq
open Go Go.Vt Pt
set_option linter.unusedVariables false
set_option linter.unusedSimpArgs false
set_option linter.unnecessarySimpa false
def runL : List Step → Scene → List Int → List Int × Int × Bool
 | [], c, _ => (c.1, c.2, true)
 | s :: r, c, ps =>
   let k := if s.1 = 2 then ps.getD 0 0 else 0
   if 0 ≤ k ∧ k < (zm c s).length then runL r ((zm c s).getD k.toNat ([], 0)) (if s.1 = 2 then ps.drop 1 else ps) else ([], 0, false)
def runTrick (t : Trick) (ps : List Int) : List Int × Int × Bool :=
 if zi t = true ∧ (ps.length : Int) = xy t then runL t.2.1 (t.1, -1) ps else ([], 0, false)
end Qq
namespace Qq
open Go Go.Vt Pt
set_option linter.unusedVariables false
set_option linter.unusedSimpArgs false
set_option linter.unnecessarySimpa false
theorem Re (d : Scene) : ∀ (r acc : List Scene), d ∈ addU r acc ↔ (d ∈ r ∨ d ∈ acc)
 | [], acc => by simp [addU]
 | x :: r, acc => by
   unfold addU
   by_cases h : x ∈ acc
   ·rw [if_pos h, Re d r acc, List.mem_cons]
    constructor
    ·rintro (h1 | h1); exact .inl (.inr h1); exact .inr h1
    ·rintro ((h1 | h1) | h1); exact .inr (h1 ▸ h); exact .inl h1; exact .inr h1
   ·rw [if_neg h, Re d r _, List.mem_cons, List.mem_append, List.mem_singleton]
    constructor
    ·rintro (h1 | h1 | h1); exact .inl (.inr h1); exact .inr h1; exact .inl (.inl h1)
    ·rintro ((h1 | h1) | h1); exact .inr (.inr h1); exact .inl h1; exact .inr (.inl h1)
theorem Xt : ∀ (r acc : List Scene), acc.Nodup → (addU r acc).Nodup
 | [], acc, h => h
 | x :: r, acc, h => by
   unfold addU
   by_cases hx : x ∈ acc
   ·rw [if_pos hx]; exact Xt r acc h
   ·rw [if_neg hx]
    refine Xt r _ ?_
    rw [List.nodup_append]
    refine ⟨h, by simp, fun a ha b hb e => hx ?_⟩
    have : b = x := by simpa using hb
    rw [← this, ← e]; exact ha
theorem Us (s : zz) (d : Scene) : ∀ (l acc : List Scene), d ∈ goU s l acc ↔ ((∃ c ∈ l, d ∈ zm c s) ∨ d ∈ acc)
 | [], acc => by simp [goU]
 | c :: r, acc => by
   unfold goU
   rw [Us s d r, Re]
   constructor
   ·rintro (⟨c', h1, h2⟩ | h1 | h1)
    ·exact .inl ⟨c', by simp [h1], h2⟩
    ·exact .inl ⟨c, by simp, h1⟩
    ·exact .inr h1
   ·rintro (⟨c', h1, h2⟩ | h1)
    ·rcases List.mem_cons.1 h1 with h1 | h1
     ·exact .inr (.inl (h1 ▸ h2))
     ·exact .inl ⟨c', h1, h2⟩
    ·exact .inr (.inr h1)
theorem Ur (s : zz) : ∀ (l acc : List Scene), acc.Nodup → (goU s l acc).Nodup
 | [], acc, h => h
 | c :: r, acc, h => Ur s r _ (Xt _ _ h)
end Qq
namespace Qq
open Go Go.Vt Pt
set_option linter.unusedVariables false
set_option linter.unusedSimpArgs false
set_option linter.unnecessarySimpa false
end Qq
namespace Qq
open Go Go.Vt Pt
set_option linter.unusedVariables false
set_option linter.unusedSimpArgs false
set_option linter.unnecessarySimpa false
theorem ZK {α : Type} {l : List α} {i : Nat} {d : α} (h : i < l.length) : l.set i (l.getD i d) = l := by
 rw [List.getD, List.getElem?_eq_getElem h]; simp
theorem bd {n : Nat} (h1n : 1 ≤ n) (hn : n ≤ 12) (steps : List zz) (si : Nat) (l : List Scene) (hl : l.length ≤ 3000) (ci : Nat) (s : zz) (out : List (List Scene)) (rs : List zz) (rc : List Scene) (nx : List Scene) (hnx : nx.length ≤ 4096)
 (K : ∀ acc : List Scene, acc.length ≤ 3000 → SAll n acc → Ev (fun k => jc k steps (steps.length : Int) (si : Int) (l.length : Int) ((ci + 1 : Nat) : Int) out si s.1 s.2.1.1 s.2.1.2 s.2.2 (acc.map keyB) acc l) (resU out rs (goU s rc acc))) :
 ∀ (xs : List Scene) (j : Nat) (acc : List Scene), nx.drop j = xs → SAll n xs → acc.length + xs.length ≤ 8000 → SAll n acc → ci < 3000 →
   Ev (fun k => un k steps (steps.length : Int) (si : Int) (l.length : Int) (ci : Int) (nx.length : Int) (j : Int) out si s.1 s.2.1.1 s.2.1.2 s.2.2 (acc.map keyB) acc l nx j) (resU out rs (goU s rc (addU xs acc)))
 | [], j, acc, h, hx, ha, hk, hci => by
   have a := zO h
   have ew : IntKind.i64.wrap ((ci : Int) + 1) = ((ci + 1 : Nat) : Int) := by rw [zf (by omega) (by omega)]; omega
   refine Ev.step (fun k => bg k _ _ _ _ _ _ _ _ _ _ _ _ _ _ _ _ _ _) ?_
   simp only [a.g, cond_false, ew]
   unfold addU
   refine Ev.ite (fun h2 => Ev.some ?_) (fun h2 => ?_)
   ·unfold resU
    rw [if_neg]
    ·rfl
    ·have := LS s rc acc
     have h3 : (acc.length : Int) > 3000 := by simpa using h2
     omega
   ·have h3 : ¬ (acc.length : Int) > 3000 := by simpa using h2
    exact K acc (by omega) hk
 | x :: xs, j, acc, h, hx, ha, hk, hci => by
   have a := zl h (by rw [zd]; omega)
   have hxo := hx x (by simp)
   have hxi := zQ hxo.ok
   have hx0 := hxo.n0
   have hx12 := hxo.n12
   have hkx := TM x (by rw [hxo.len]; exact hn) hxi (by unfold In; omega)
   have hmp := VN (l := acc) (x := x) (fun c hc => TH h1n (hk c hc)) (TH h1n hxo)
   have hbeq : Nat.beq (j : Int).toNat j = true := by simp
   rw [List.length_cons] at ha
   have ih := fun acc ha hk => bd h1n hn steps si l hl ci s out rs rc nx hnx K xs (j + 1) acc a.next (fun y hy => hx y (by simp [hy])) ha hk hci
   refine Ev.step (fun k => bg k _ _ _ _ _ _ _ _ _ _ _ _ _ _ _ _ _ _) ?_
   simp only [a.g, a.z, a.n, a.get, a.w, hbeq, cond_true]
   unfold addU
   refine Ev.bind hkx ?_
   rw [hmp]
   by_cases hm : x ∈ acc
   ·rw [if_pos hm, decide_eq_true hm]
    exact Ev.no rfl (ih acc (by omega) hk)
   ·rw [if_neg hm, decide_eq_false hm]
    refine Ev.yes rfl (Ev.yes (by rw [za]; simp; omega) ?_)
    have := ih (acc ++ [x]) (by simp; omega) (fun c hc => by
     rcases List.mem_append.1 hc with hc | hc
     ·exact hk c hc
     ·have : c = x := by simpa using hc
      rw [this]; exact hxo)
    simpa using this
theorem aB {n : Nat} (h1n : 1 ≤ n) (hn : n ≤ 12) (steps : List zz) (h12 : steps.length ≤ 12) (si : Nat) (hsi : si < steps.length) (l : List Scene) (hl : l.length ≤ 3000) (hok : SAll n l) (s : zz) (hs : zx (n : Int) s = true) (out : List (List Scene)) (hout : out.length = si + 1) (hoi : out.set si l = out) (rs : List zz)
 (K : ∀ acc : List Scene, acc.length ≤ 3000 → SAll n acc → Ev (fun k => jd k steps (steps.length : Int) ((si + 1 : Nat) : Int) (out ++ [acc])) (outU out (levU rs acc))) :
 ∀ (rc : List Scene) (ci : Nat) (acc : List Scene), l.drop ci = rc → acc.length ≤ 3000 → SAll n acc →
   Ev (fun k => jc k steps (steps.length : Int) (si : Int) (l.length : Int) (ci : Int) out si s.1 s.2.1.1 s.2.1.2 s.2.2 (acc.map keyB) acc l) (resU out rs (goU s rc acc))
 | [], ci, acc, h, ha, hk => by
   have a := zO h
   have ew : IntKind.i64.wrap ((si : Int) + 1) = ((si + 1 : Nat) : Int) := by rw [zf (by omega) (by omega)]; omega
   refine Ev.step (fun k => aI k _ _ _ _ _ _ _ _ _ _ _ _ _ _) ?_
   simp only [a.g, cond_false, ew, hoi]
   unfold goU resU
   rw [if_pos ha]
   exact Ev.yes (by rw [za]; simp; omega) (K acc ha hk)
 | c :: rc, ci, acc, h, ha, hk => by
   have a := zl h (by rw [zd]; omega)
   have hlt := a.lt
   have hco := hok c a.mem
   have hnl := Z7 hco hs
   have hst : l.set (ci : Int).toNat c = l := by
    have := ZK (d := (([], 0) : Scene)) hlt
    rw [a.gt] at this
    simpa using this
   refine Ev.step (fun k => aI k _ _ _ _ _ _ _ _ _ _ _ _ _ _) ?_
   simp only [a.g, a.z, a.n, a.get, hst, cond_true]
   refine Ev.bind (ji hco hs) ?_
   unfold goU
   exact bd h1n hn steps si l hl ci s out rs rc (zm c s) hnl.2
    (fun acc ha hk => aB h1n hn steps h12 si hsi l hl hok s hs out hout hoi rs K rc (ci + 1) acc a.next ha hk)
    (zm c s) 0 acc rfl (cW hco hs) (by omega) hk (by omega)
theorem aC {n : Nat} (h1n : 1 ≤ n) (hn : n ≤ 12) (steps : List zz) (h12 : steps.length ≤ 12) : ∀ (rs : List zz) (si : Nat) (pre : List (List Scene)) (l : List Scene), steps.drop si = rs → (∀ s ∈ rs, zx (n : Int) s = true) → pre.length = si → l.length ≤ 3000 → SAll n l →
 Ev (fun k => jd k steps (steps.length : Int) (si : Int) (pre ++ [l])) (outU pre (levU rs l))
 | [], si, pre, l, h, hs, hp, hl, hok => by
   have a := zO h
   refine Ev.step (fun k => aJ k _ _ _ _) ?_
   simp only [a.g, cond_false]
   exact Ev.some rfl
 | s :: rs, si, pre, l, h, hs, hp, hl, hok => by
   have a := zl h (by rw [zd]; omega)
   have hlt := a.lt
   have hso := hs s (by simp)
   have g1 : decide ((si : Int) < ((pre ++ [l]).length : Int)) = true := decide_eq_true (by simp; omega)
   have g2 : decide ((si : Int).toNat < (pre ++ [l]).length) = true := decide_eq_true (by simp; omega)
   have hg : (pre ++ [l]).getD (si : Int).toNat [] = l := by
    rw [Int.toNat_natCast, List.getD, ← hp, List.getElem?_append_right (Nat.le_refl _)]; simp
   have hoi : (pre ++ [l]).set si l = pre ++ [l] := by
    have h1 : si < (pre ++ [l]).length := by simp; omega
    have := ZK (d := ([] : List Scene)) h1
    rw [show (pre ++ [l]).getD si [] = l by simpa using hg] at this
    exact this
   refine Ev.step (fun k => aJ k _ _ _ _) ?_
   simp only [a.g, a.z, a.get, g1, g2, hg, cond_true]
   simp only [Int.toNat_natCast]
   have := aB h1n hn steps h12 si hlt l hl hok s hso (pre ++ [l]) (by simp [hp]) hoi rs (fun acc ha hk => aC h1n hn steps h12 rs (si + 1) (pre ++ [l]) acc a.next (fun q hq => hs q (by simp [hq])) (by simp [hp]) ha hk)
    l 0 [] rfl (by simp) (fun c hc => by cases hc)
   refine this.to ?_
   rw [VV]
   unfold resU
   split
   ·cases levU rs (goU s l []) with
    | none => rfl
    | some L => simp [outU]
   ·rfl
theorem V4 (t : Trick) (h : zi t = true) (a1 : t.1.length ≤ maxLen) (ai : Ins t.1) (a2 : t.2.1.length ≤ maxLen) : Ev (fun k => WH k t) (outU [] (levU t.2.1 [(t.1, -1)])) := by
 obtain ⟨h1, h2, h3, h4⟩ := zy h
 have hs := yI h
 refine Ev.step (fun k => Px k t) (Ev.bind (Rk t a1 ai a2) ?_)
 have e : gp t = (t.1, -1, true) := by unfold gp; rw [if_pos h]
 rw [e]
 exact aC h2 h3 t.2.1 h1 t.2.1 0 [] [(t.1, -1)] rfl hs.2 rfl (by simp) (W6 h)
theorem aD (t : Trick) (a1 : t.1.length ≤ maxLen) (ai : Ins t.1) (a2 : t.2.1.length ≤ maxLen) : Ev (fun k => fE k t) (ya t) := by
 refine Ev.step (fun k => Tf k t) (Ev.bind (xa t a1 ai a2) (Ev.ite (fun h => Ev.some ?_) (fun h => ?_)))
 ·have : zi t = false := by simpa using h
  simp [ya, this]
 ·have e : zi t = true := by simpa using h
  obtain ⟨h1, h2⟩ := SB t.2.1 (yj t)
  have hst : (yj t).map Prod.fst = [(t.1, -1)] := rfl
  rw [hst] at h1 h2
  refine Ev.bind (V4 t e a1 ai a2) ?_
  unfold ya wu
  rw [if_pos e]
  cases hL : levU t.2.1 [(t.1, -1)] with
  | none =>
    rw [hL] at h1
    cases hE : uL t.2.1 (yj t) with
    | some A => rw [hE] at h1; cases h1
    | none => exact Ev.yes rfl (Ev.pure _)
  | some L =>
    rw [hL] at h1
    cases hE : uL t.2.1 (yj t) with
    | none => rw [hE] at h1; cases h1
    | some A =>
      rw [hE] at h1
      have hlast : L.getLastD [] = A.map Prod.fst := Option.some.inj h1
      have hlen := h2 L hL
      have h12 := (zy e).1
      have ew : IntKind.i64.wrap ((L.length : Int) - 1) = ((L.length - 1 : Nat) : Int) := by rw [zf (by omega) (by omega)]; omega
      simp only [outU, List.nil_append, ew]
      refine Ev.no rfl (Ev.yes (by simp) (Ev.yes (by simp; omega) (Ev.yes (by simp; omega) (Ev.some ?_))))
      show (L.getD ((L.length - 1 : Nat) : Int).toNat [], true) = (A.map Prod.fst, true)
      rw [← hlast, Int.toNat_natCast]
      congr 1
      cases L with
      | nil => simp at hlen
      | cons a L => rw [List.getLastD_cons, List.getD, ← List.getLast?_eq_getElem?, List.getLast?_cons]; simp [List.getLastD_eq_getLast?]
end Qq
namespace Qq
open Go Go.Vt Pt
set_option linter.unusedVariables false
set_option linter.unusedSimpArgs false
set_option linter.unnecessarySimpa false
abbrev VdR : Type := Int × List Int × List Int × Int × Bool
def found (o : Option Way) : VdR := match o with | some w => (2, w.2, w.1.1, w.1.2, true) | none => (1, [], [], 0, true)
def vl (t : Trick) : VdR :=
 if zi t then (match wu t with | none => (3, [], [], 0, true) | some A => found (A.find? (fun w => !wt t w.1))) else (0, [], [], 0, false)
theorem jO (t : Trick) (a1 : t.1.length ≤ maxLen) (A : List Way) (hA : A.length ≤ 3000) (ho : bM t.1.length A) (z1 z2 : Int) : ∀ (r : List Way) (i : Nat), A.drop i = r →
 Ev (fun k => w7 k (A.map Prod.snd) ((A.map Prod.fst).length : Int) (i : Int) t.1 t.2.1 t.2.2.1 t.2.2.2.1 t.2.2.2.2 z1 z2 (A.map Prod.fst)) (found (r.find? (fun w => !wt t w.1)))
 | [], i, h => by
   have a := zO h
   have g : decide ((i : Int) < ((A.map Prod.fst).length : Int)) = false := by rw [List.length_map]; exact a.g
   exact Ev.step (fun k => jP k _ _ _ _ _ _ _ _ _ _ _) (Ev.no g (Ev.some rfl))
 | w :: r, i, h => by
   have a := zl h (by rw [zd]; omega)
   have hlt := a.lt
   have hw := ho w a.mem
   have g : decide ((i : Int) < ((A.map Prod.fst).length : Int)) = true := by rw [List.length_map]; exact a.g
   have g2 : decide ((i : Int).toNat < (A.map Prod.fst).length) = true := by rw [List.length_map]; exact a.n
   have g3 : decide ((i : Int) < ((A.map Prod.snd).length : Int)) = true := by rw [List.length_map]; exact a.g
   have hg : A[i] = w := by have := a.gt ((([], 0), []) : Way); simpa [List.getD, hlt] using this
   have e1 : (A.map Prod.fst).getD (i : Int).toNat ([], 0) = w.1 := by
    rw [Int.toNat_natCast, List.getD, List.getElem?_map, List.getElem?_eq_getElem hlt, hg]; rfl
   have e2 : (A.map Prod.snd).getD (i : Int).toNat [] = w.2 := by
    rw [Int.toNat_natCast, List.getD, List.getElem?_map, List.getElem?_eq_getElem hlt, hg]; rfl
   have ih := jO t a1 A hA ho z1 z2 r (i + 1) a.next
   refine Ev.step (fun k => jP k _ _ _ _ _ _ _ _ _ _ _) ?_
   simp only [g, g2, g3, e1, e2, a.z, a.w, cond_true]
   refine Ev.bind (Po t w.1 a1 (by rw [hw.len]; exact a1)) (Ev.ite (fun h1 => Ev.some ?_) (fun h1 => ?_))
   ·rw [List.find?_cons, h1]; rfl
   ·rw [List.find?_cons, h1]; exact ih
theorem Vr (t : Trick) (a1 : t.1.length ≤ maxLen) (a2 : t.2.1.length ≤ maxLen) : Ev (fun k => cS k t) (vl t) := by
 refine Ev.step (fun k => Vs k t) (Ev.bind (RW t a1 a2) (Ev.ite (fun h => Ev.some ?_) (fun h => ?_)))
 ·have : zi t = false := by simpa using h
  simp [vl, this]
 ·have e : zi t = true := by simpa using h
  refine Ev.bind (RE t e) ?_
  unfold vl wu
  rw [if_pos e]
  cases hE : uL t.2.1 (yj t) with
  | none => exact Ev.yes rfl (Ev.pure _)
  | some A =>
    have hs := yI e
    exact Ev.no rfl (jO t a1 A (fH _ _ A (by simp [yj]) hE) (WM t.2.1 (yj t) A hs.2 (eK e) hE) 0 0 A 0 rfl)
def LevOk (n : Nat) : List zz → List (List Scene) → Prop
 | [], [L] => SAll n L ∧ L.Nodup ∧ L.length ≤ 3000
 | s :: r, L :: L2 :: Ls => (SAll n L ∧ L.Nodup ∧ L.length ≤ 3000) ∧ zx (n : Int) s = true ∧ (∀ c ∈ L, ∀ d ∈ zm c s, d ∈ L2) ∧ LevOk n r (L2 :: Ls)
 | _, _ => False
theorem Ll {n : Nat} : ∀ (r : List zz) (l : List Scene) (Ls : List (List Scene)), (∀ s ∈ r, zx (n : Int) s = true) → SAll n l → l.Nodup → l.length ≤ 3000 → levU r l = some Ls → LevOk n r Ls ∧ ∃ q, Ls = l :: q
 | [], l, Ls, _, ho, hn, hl, h => by cases h; exact ⟨⟨ho, hn, hl⟩, _, rfl⟩
 | s :: r, l, Ls, hs, ho, hn, hl, h => by
   rw [VV] at h
   split at h
   ·rename_i hc
    obtain ⟨L', hL', rfl⟩ := Option.map_eq_some_iff.1 h
    have ho2 : SAll n (goU s l []) := fun d hd => by
     rw [Us] at hd
     rcases hd with ⟨c, h1, h2⟩ | hd
     ·exact cW (ho c h1) (hs s (by simp)) d h2
     ·cases hd
    obtain ⟨h1, q, rfl⟩ := Ll r _ L' (fun u hu => hs u (by simp [hu])) ho2 (Ur s l [] List.nodup_nil) hc hL'
    exact ⟨⟨⟨ho, hn, hl⟩, hs s (by simp), fun c hcl d hd => (Us s d l []).2 (.inl ⟨c, hcl, hd⟩), h1⟩, _, rfl⟩
   ·cases h
theorem LevOk.len {n : Nat} : ∀ {r : List zz} {Ls : List (List Scene)}, LevOk n r Ls → Ls.length = r.length + 1
 | [], [L], _ => rfl
 | s :: r, L :: L2 :: Ls, h => by have := LevOk.len h.2.2.2; simp at this ⊢; omega
 | [], [], h => h.elim
 | [], _ :: _ :: _, h => h.elim
 | _ :: _, [], h => h.elim
 | _ :: _, [_], h => h.elim
def rowM (bad : Scene → Bool) : List zz → List (List Scene) → List (Option (List ByteArray))
 | r, L :: Ls => some ((L.filter (canF bad r)).map keyB) :: rowM bad (r.drop 1) Ls
 | _, [] => []
theorem WD (bad : Scene → Bool) : ∀ (r : List zz) (Ls : List (List Scene)), (rowM bad r Ls).length = Ls.length
 | r, [] => rfl
 | r, L :: Ls => by unfold rowM; rw [List.length_cons, WD, List.length_cons]
theorem J6 {n : Nat} (h1 : 1 ≤ n) {l : List Scene} (hl : SAll n l) {x : Scene} (hx : SceneOk n x) : setHas (some (l.map keyB)) (keyB x) = decide (x ∈ l) :=
 VN (fun c hc => TH h1 (hl c hc)) (TH h1 hx)
theorem Lt {n : Nat} (hn : n ≤ 12) {x : Scene} (hx : SceneOk n x) : Ev (fun k => fw k x) (keyB x) :=
 TM x (by rw [hx.len]; exact hn) (zQ hx.ok) (by have := hx.n0; have := hx.n12; unfold In; omega)
def gc (M : List (Option (List ByteArray))) (i : Nat) (x : Scene) : Bool := setHas (M.getD (i + 1) none) (keyB x)
theorem QG {n : Nat} (hn : n ≤ 12) {x : Scene} (hx : SceneOk n x) (M : List (Option (List ByteArray))) (i : Nat) (hi : i + 1 < M.length) (hM : M.length ≤ 3000) : Ev (fun k => Zp k (x, M, (i : Int))) (gc M i x) := by
 have ew : IntKind.i64.wrap ((i : Int) + 1) = ((i + 1 : Nat) : Int) := by rw [zf (by omega) (by omega)]; omega
 refine Ev.step (fun k => U4 k x M (i : Int)) ?_
 rw [ew]
 exact Ev.yes (decide_eq_true (by omega)) (Ev.yes (decide_eq_true (by omega)) (Ev.bind (Lt hn hx) (Ev.some rfl)))
theorem MC {n : Nat} (hn : n ≤ 12) {x : Scene} (hx : SceneOk n x) (M : List (Option (List ByteArray))) (i : Nat) (hi : i + 1 < M.length) (hM : M.length ≤ 3000) : Ev (fun k => gk k (x, M, (i : Int))) (gc M i x) := by
 have ew : IntKind.i64.wrap ((i : Int) + 1) = ((i + 1 : Nat) : Int) := by rw [zf (by omega) (by omega)]; omega
 refine Ev.step (fun k => Xl k x M (i : Int)) ?_
 rw [ew]
 exact Ev.yes (decide_eq_true (by omega)) (Ev.yes (decide_eq_true (by omega)) (Ev.bind (Lt hn hx) (Ev.some rfl)))
def idxF (F : Scene → Bool) (i : Nat) (r : List Scene) : Int := if r.any F then ((i + r.findIdx F : Nat) : Int) else -1
theorem V6 {F : Scene → Bool} {i : Nat} {x : Scene} {r : List Scene} : idxF F i (x :: r) = if F x then (i : Int) else idxF F (i + 1) r := by
 unfold idxF
 rw [List.any_cons, List.findIdx_cons]
 cases F x with
 | true => simp
 | false =>
   simp only [Bool.false_or, cond_false]
   have : i + (r.findIdx F + 1) = i + 1 + r.findIdx F := by omega
   rw [this]; rfl
theorem Qp {n : Nat} (hn : n ≤ 12) (l : List Scene) (hl : l.length ≤ 16384) (ho : SAll n l) (M : List (Option (List ByteArray))) (j : Nat) (hj : j + 1 < M.length) (hM : M.length ≤ 3000) : ∀ (r : List Scene) (i : Nat), l.drop i = r →
 Ev (fun k => zu k l M (j : Int) (l.length : Int) (i : Int)) (idxF (gc M j) i r)
 | [], i, h => Ev.step (fun k => yd k _ _ _ _ _) (Ev.no (zO h).g (Ev.some rfl))
 | x :: r, i, h => by
   have a := zl h (by rw [zd]; omega)
   refine Ev.step (fun k => yd k _ _ _ _ _) ?_
   simp only [a.g, a.z, a.get, a.w, cond_true]
   rw [V6]
   refine Ev.bind (QG hn (ho x a.mem) M j hj hM) (Ev.ite (fun h1 => Ev.some ?_) (fun h1 => ?_))
   ·rw [if_pos h1]
   ·rw [if_neg (by rw [h1]; simp)]; exact Qp hn l hl ho M j hj hM r (i + 1) a.next
theorem Qr {n : Nat} (hn : n ≤ 12) (l : List Scene) (hl : l.length ≤ 16384) (ho : SAll n l) (M : List (Option (List ByteArray))) (j : Nat) (hj : j + 1 < M.length) (hM : M.length ≤ 3000) : ∀ (r : List Scene) (i : Nat), l.drop i = r →
 Ev (fun k => zo k l M (j : Int) (l.length : Int) (i : Int)) (idxF (gc M j) i r)
 | [], i, h => Ev.step (fun k => zT k _ _ _ _ _) (Ev.no (zO h).g (Ev.some rfl))
 | x :: r, i, h => by
   have a := zl h (by rw [zd]; omega)
   refine Ev.step (fun k => zT k _ _ _ _ _) ?_
   simp only [a.g, a.z, a.get, a.w, cond_true]
   rw [V6]
   refine Ev.bind (MC hn (ho x a.mem) M j hj hM) (Ev.ite (fun h1 => Ev.some ?_) (fun h1 => ?_))
   ·rw [if_pos h1]
   ·rw [if_neg (by rw [h1]; simp)]; exact Qr hn l hl ho M j hj hM r (i + 1) a.next
theorem LB (F : Scene → Bool) (i : Nat) (r : List Scene) : decide (idxF F i r ≥ 0) = r.any F := by
 unfold idxF
 cases r.any F with
 | true => simp; omega
 | false => simp
theorem Mz {n : Nat} (hn : n ≤ 12) (l : List Scene) (hl : l.length ≤ 16384) (ho : SAll n l) (M : List (Option (List ByteArray))) (j : Nat) (hj : j + 1 < M.length) (hM : M.length ≤ 3000) :
 Ev (fun k => zJ k (l, (M, (j : Int)))) (l.any (gc M j)) := by
 refine Ev.step (fun k => xn k l (M, (j : Int))) (Ev.bind (Ev.step (fun k => xD k l (M, (j : Int))) (Qp hn l hl ho M j hj hM l 0 rfl)) (Ev.some ?_))
 exact LB _ _ _
end Qq
