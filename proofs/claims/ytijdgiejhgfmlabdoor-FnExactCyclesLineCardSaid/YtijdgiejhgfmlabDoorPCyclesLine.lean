/-
  The law FnExactCyclesLine comes to true.
  Conditions: numbers and lengths are such as a machine bears.
-/
import Derived.Test.YtijdgiejhgfmlabDoorPt
import Derived.Test.YtijdgiejhgfmlabDoorXvzd
import Derived.Laws.BitsLemmas
import Derived.Lib.ItoaLen
namespace Go.Vt
theorem Ev.some {α : Type} {x y : α} (e : x = y) : Ev (fun _ => Option.some x) y := by subst e; exact Ev.pure _
theorem Ev.to {α : Type} {g : Nat → Option α} {x y : α} (h : Ev g x) (e : x = y) : Ev g y := e ▸ h
end Go.Vt
namespace Qq
open Go Go.Vt
set_option linter.unusedVariables false
set_option linter.unusedSimpArgs false
theorem maxLen_eq : maxLen = 9223372036854775807 := by unfold maxLen; decide
theorem rowMax_eq : rowMax = 4294967296 := rfl
theorem wrap_id {x : Int} (h1 : -9223372036854775808 ≤ x) (h2 : x ≤ 9223372036854775807) : IntKind.i64.wrap x = x := by
  rw [IntKind.wrap_i64]; omega
/-- Numbers of a machine's kind. -/
def In (x : Int) : Prop := -9223372036854775808 ≤ x ∧ x ≤ 9223372036854775807
def Ins (xs : List Int) : Prop := ∀ x ∈ xs, In x
structure AtCons {α : Type} (xs : List α) (i : Nat) (y : α) (rest : List α) : Prop where
  lt : i < xs.length
  g : decide ((i : Int) < (xs.length : Int)) = true
  z : decide ((0 : Int) ≤ (i : Int)) = true
  n : decide ((i : Int).toNat < xs.length) = true
  get : ∀ d, xs.getD (i : Int).toNat d = y
  w : IntKind.i64.wrap ((i : Int) + 1) = ((i + 1 : Nat) : Int)
  next : xs.drop (i + 1) = rest
  mem : y ∈ xs
  gt : ∀ d, xs.getD i d = y
  le : decide ((i : Int) ≤ (xs.length : Int)) = true
theorem at_cons {α : Type} {xs : List α} {i : Nat} {y : α} {rest : List α} (h : xs.drop i = y :: rest) (hm : xs.length ≤ maxLen) : AtCons xs i y rest := by
  rw [maxLen_eq] at hm
  have lt : i < xs.length := by
    rcases Nat.lt_or_ge i xs.length with h1 | h1
    · exact h1
    · rw [List.drop_eq_nil_of_le h1] at h; cases h
  have e := List.drop_eq_getElem_cons lt
  rw [e] at h
  have hy : xs[i] = y := by injection h
  refine ⟨lt, by simp; omega, by simp, by simp; omega, fun d => by simp [List.getD, lt, hy], by rw [wrap_id (by omega) (by omega)]; simp, by injection h, by rw [← hy]; exact List.getElem_mem lt, fun d => by simp [List.getD, lt, hy], by simp; omega⟩
structure AtNil {α : Type} (xs : List α) (i : Nat) : Prop where
  ge : xs.length ≤ i
  g : decide ((i : Int) < (xs.length : Int)) = false
theorem at_nil {α : Type} {xs : List α} {i : Nat} (h : xs.drop i = []) : AtNil xs i := by
  have ge : xs.length ≤ i := List.drop_eq_nil_iff.1 h
  exact ⟨ge, by simp; omega⟩
/-- Counting from i up to n. -/
structure AtUp (n : Int) (i : Nat) : Prop where
  lt : (i : Int) < n
  g : decide ((i : Int) < n) = true
  z : decide ((0 : Int) ≤ (i : Int)) = true
  w : IntKind.i64.wrap ((i : Int) + 1) = ((i + 1 : Nat) : Int)
theorem at_up {n : Int} {i : Nat} (h : (i : Int) < n) (hn : n ≤ 9223372036854775807) : AtUp n i :=
  ⟨h, by simp [h], by simp, by rw [wrap_id (by omega) (by omega)]; simp⟩
theorem at_end {n : Int} {i : Nat} (h : n ≤ (i : Int)) : decide ((i : Int) < n) = false := by simp [h]
end Qq
namespace Qq
open Go Go.Vt Pt
set_option linter.unusedVariables false
set_option linter.unusedSimpArgs false
theorem l01In_ev (x lo hi : Int) : Ev (fun k => s_l01In k (x, lo, hi)) (decide (lo ≤ x) && decide (x ≤ hi)) := by
  refine Ev.step (fun k => s_l01In_eq k x lo hi) (Ev.ite (fun h => ?_) (fun h => ?_))
  · have h' : lo ≤ x := by simpa using h
    exact Ev.some (by simp [h'])
  · have h' : ¬ lo ≤ x := by simpa using h
    exact Ev.some (by simp [h'])
theorem eqIntS_l4_ev (xs ys : List Int) (hx : xs.length ≤ maxLen) (hy : ys.length ≤ maxLen) : ∀ (r s : List Int) (i : Nat), xs.drop i = r → ys.drop i = s → s.length = r.length → Ev (fun k => w_eqIntS_l4 k xs ys (i : Int)) (r == s)
  | [], [], i, h1, h2, hl => by
    have a := at_nil h1
    refine Ev.step (fun k => w_eqIntS_l4_eq k xs ys i) ?_
    simp only [a.g, cond_false]
    exact Ev.pure _
  | x :: r, y :: s, i, h1, h2, hl => by
    have a := at_cons h1 hx
    have b := at_cons h2 hy
    refine Ev.step (fun k => w_eqIntS_l4_eq k xs ys i) ?_
    simp only [a.g, a.z, b.g, a.get, b.get, a.w, cond_true]
    have ih := eqIntS_l4_ev xs ys hx hy r s (i + 1) a.next b.next (by simpa using hl)
    refine Ev.ite (fun h => Ev.some ?_) (fun h => ih.to ?_)
    · have : ¬ x = y := by simpa using h
      simp [this]
    · have : x = y := by simpa using h
      simp [this]
  | [], _ :: _, _, _, _, hl => by simp at hl
  | _ :: _, [], _, _, _, hl => by simp at hl
theorem eqIntS_ev (xs ys : List Int) (hx : xs.length ≤ maxLen) (hy : ys.length ≤ maxLen) : Ev (fun k => w_eqIntS k (xs, ys)) (xs == ys) := by
  refine Ev.step (fun k => w_eqIntS_eq k xs ys) (Ev.ite (fun h => Ev.some ?_) (fun h => eqIntS_l4_ev xs ys hx hy xs ys 0 rfl rfl ?_))
  · have h' : ¬ xs.length = ys.length := by simp at h; omega
    have : ¬ xs = ys := fun e => h' (by rw [e])
    simp [this]
  · simp at h; omega
theorem set_get {α : Type} {n : Nat} {xs ys : List α} {i : Nat} {d : α} (hi : i < xs.length) (hl : ys.length = xs.length) (h : ys.take i = xs.take i) : (ys.set i (xs.getD i d)).take (i + 1) = xs.take (i + 1) := by
  have g1 : xs.getD i d = xs[i] := by simp [List.getD, hi]
  rw [g1, List.take_succ_eq_append_getElem (by simp; omega), List.take_succ_eq_append_getElem hi, List.take_set_of_le (by omega), h]
  simp
theorem toIntS_l3_ev (xs : List Int) (hm : xs.length ≤ maxLen) : ∀ (r : List Int) (i : Nat) (ys : List Int), xs.drop i = r → ys.length = xs.length → ys.take i = xs.take i → Ev (fun k => w_toIntS_l3 k xs (i : Int) ys) xs
  | [], i, ys, h, hl, ht => by
    have a := at_nil h
    refine Ev.step (fun k => w_toIntS_l3_eq k xs i ys) ?_
    simp only [a.g, cond_false]
    have e : ys = xs := by
      have := a.ge
      rwa [List.take_of_length_le (by omega), List.take_of_length_le (by omega)] at ht
    exact Ev.some e
  | x :: r, i, ys, h, hl, ht => by
    have a := at_cons h hm
    have b1 : decide ((i : Int) < (ys.length : Int)) = true := by rw [hl]; exact a.g
    have b2 : decide ((i : Int).toNat < ys.length) = true := by rw [hl]; exact a.n
    refine Ev.step (fun k => w_toIntS_l3_eq k xs i ys) ?_
    simp only [a.g, a.z, b1, b2, a.w, cond_true]
    have hs := set_get (n := 0) (d := 0) a.lt hl ht
    exact toIntS_l3_ev xs hm r (i + 1) _ a.next (by simp [hl]) (by simpa using hs)
theorem toIntS_ev (xs : List Int) (hm : xs.length ≤ 1048576) : Ev (fun k => w_toIntS k xs) xs := by
  refine Ev.step (fun k => w_toIntS_eq k xs) (Ev.yes (by simp) (Ev.yes (by rw [rowMax_eq]; simp; omega) (Ev.yes (by simp) ?_)))
  exact toIntS_l3_ev xs (by rw [maxLen_eq]; omega) xs 0 _ rfl (by simp) (by simp)
end Qq
namespace Qq
open Go Go.Vt Pt
set_option linter.unusedVariables false
set_option linter.unusedSimpArgs false
theorem l02Has_l2_ev (x : Int) (xs : List Int) (hm : xs.length ≤ maxLen) : ∀ (r : List Int) (i : Nat), xs.drop i = r → Ev (fun k => s_l02Has_l2 k x xs (xs.length : Int) (i : Int)) (r.contains x)
  | [], i, h => by
    have a := at_nil h
    refine Ev.step (fun k => s_l02Has_l2_eq k x xs _ i) ?_
    simp only [a.g, cond_false]
    exact Ev.pure _
  | y :: r, i, h => by
    have a := at_cons h hm
    refine Ev.step (fun k => s_l02Has_l2_eq k x xs _ i) ?_
    simp only [a.g, a.z, a.get, a.w, cond_true]
    refine Ev.ite (fun h => Ev.some ?_) (fun h => (l02Has_l2_ev x xs hm r (i + 1) a.next).to ?_)
    · have : y = x := by simpa using h
      simp [this]
    · have : ¬ y = x := by simpa using h
      have h2 : ¬ x = y := fun e => this e.symm
      simp [h2]
theorem l02Has_ev (xs : List Int) (x : Int) (hm : xs.length ≤ maxLen) : Ev (fun k => s_l02Has k (xs, x)) (xs.contains x) :=
  Ev.step (fun k => s_l02Has_eq k xs x) (l02Has_l2_ev x xs hm xs 0 rfl)
/-- Where x lies first, or -1. -/
def idx (x : Int) : Nat → List Int → Int
  | _, [] => -1
  | i, y :: r => if x = y then (i : Int) else idx x (i + 1) r
theorem idx_has (x : Int) : ∀ (r : List Int) (i : Nat), decide (idx x i r ≥ 0) = r.contains x
  | [], i => by simp [idx]
  | y :: r, i => by
    unfold idx
    by_cases h : x = y
    · simp [h]
    · rw [if_neg h, idx_has x r (i + 1)]; simp [h]
theorem Index_int_l2_ev (x : Int) (xs : List Int) (hm : xs.length ≤ maxLen) : ∀ (r : List Int) (i : Nat), xs.drop i = r → Ev (fun k => slices_Index_int_l2 k xs x (xs.length : Int) (i : Int)) (idx x i r)
  | [], i, h => by
    have a := at_nil h
    refine Ev.step (fun k => slices_Index_int_l2_eq k xs x _ i) ?_
    simp only [a.g, cond_false]
    exact Ev.pure _
  | y :: r, i, h => by
    have a := at_cons h hm
    refine Ev.step (fun k => slices_Index_int_l2_eq k xs x _ i) ?_
    simp only [a.g, a.z, a.get, a.w, cond_true]
    unfold idx
    refine Ev.ite (fun h => Ev.some ?_) (fun h => (Index_int_l2_ev x xs hm r (i + 1) a.next).to ?_)
    · have : x = y := by simpa using h
      simp [this]
    · have : ¬ x = y := by simpa using h
      rw [if_neg this]
theorem Index_int_ev (xs : List Int) (x : Int) (hm : xs.length ≤ maxLen) : Ev (fun k => slices_Index_int k (xs, x)) (idx x 0 xs) :=
  Ev.step (fun k => slices_Index_int_eq k xs x) (Index_int_l2_ev x xs hm xs 0 rfl)
theorem Contains_int_ev (xs : List Int) (x : Int) (hm : xs.length ≤ maxLen) : Ev (fun k => slices_Contains_int k (xs, x)) (xs.contains x) :=
  Ev.step (fun k => slices_Contains_int_eq k xs x) (Ev.bind (Index_int_ev xs x hm) (Ev.some (idx_has x xs 0)))
end Qq
namespace Qq
open Go Go.Vt Pt
set_option linter.unusedVariables false
set_option linter.unusedSimpArgs false
/-- The numbers are from 0 up to n, and none comes twice. -/
def preOk (n : Int) : List Int → List Int → Bool
  | _, [] => true
  | done, x :: r => decide (0 ≤ x) && (decide (x < n) && (!(done.contains x) && preOk n (done ++ [x]) r))
theorem preOk_nodup (n : Int) : ∀ (r done : List Int), done.Nodup → preOk n done r = true → (done ++ r).Nodup ∧ ∀ x ∈ r, 0 ≤ x ∧ x < n
  | [], done, hd, h => by simp [hd]
  | x :: r, done, hd, h => by
    unfold preOk at h
    simp only [Bool.and_eq_true, decide_eq_true_eq, Bool.not_eq_true'] at h
    obtain ⟨h1, h2, h3, h4⟩ := h
    have hx : x ∉ done := by simpa using h3
    obtain ⟨k1, k2⟩ := preOk_nodup n r (done ++ [x]) (by
      rw [List.nodup_append]
      exact ⟨hd, by simp, fun a ha b hb e => by simp at hb; subst hb; subst e; exact hx ha⟩) h4
    refine ⟨by simpa using k1, fun y hy => ?_⟩
    rcases List.mem_cons.1 hy with rfl | hy
    · exact ⟨h1, h2⟩
    · exact k2 y hy
end Qq
namespace Qq
open Go Go.Vt Pt
set_option linter.unusedVariables false
set_option linter.unusedSimpArgs false
end Qq
namespace Qq
open Go Go.Vt Pt
set_option linter.unusedVariables false
set_option linter.unusedSimpArgs false
def permOk (a : List Int) : Bool := decide (a.length ≤ 12) && preOk a.length [] a
theorem take_at {xs : List Int} {i : Nat} {x : Int} {r : List Int} (a : AtCons xs i x r) : xs.take (i + 1) = xs.take i ++ [x] := by
  have hlt := a.lt
  have e : xs[i] = x := by have := a.get 0; rw [Int.toNat_natCast, List.getD, List.getElem?_eq_getElem hlt] at this; exact this
  rw [List.take_succ_eq_append_getElem hlt, e]
theorem s_PermOk_l4_ev (xs : List Int) (hm : xs.length ≤ 12) : ∀ (r : List Int) (i : Nat), xs.drop i = r → Ev (fun k => s_PermOk_l4 k xs xs (xs.length : Int) (i : Int)) (preOk xs.length (xs.take i) r)
  | [], i, h => by
    have a := at_nil h
    refine Ev.step (fun k => s_PermOk_l4_eq k _ _ _ _) ?_
    simp only [a.g, cond_false]
    exact Ev.pure _
  | x :: r, i, h => by
    have a := at_cons h (by rw [maxLen_eq]; omega)
    have hlt := a.lt
    have ih := s_PermOk_l4_ev xs hm r (i + 1) a.next
    rw [take_at a] at ih
    refine Ev.step (fun k => s_PermOk_l4_eq k _ _ _ _) ?_
    simp only [a.g, a.z, a.get, a.w, cond_true]
    rw [wrap_id (x := (xs.length : Int) - 1) (by omega) (by omega)]
    unfold preOk
    refine Ev.bind (l01In_ev _ _ _) (Ev.ite (fun h => Ev.some ?_) (fun h => ?_))
    · rcases Int.lt_or_le x 0 with h1 | h1
      · have : ¬ 0 ≤ x := by omega
        simp [this]
      · have : ¬ x < (xs.length : Int) := by simp at h; omega
        simp [this]
    · have hx : 0 ≤ x ∧ x ≤ (xs.length : Int) - 1 := by simpa using h
      refine Ev.yes (by simp; omega) ?_
      rw [List.drop_zero, Int.toNat_natCast]
      have e1 : decide (0 ≤ x) = true := by simp [hx.1]
      have e2 : decide (x < (xs.length : Int)) = true := by simp; omega
      rw [e1, e2]
      refine Ev.bind (l02Has_ev _ x (by rw [maxLen_eq, List.length_take]; omega)) (Ev.ite (fun h => Ev.some ?_) (fun h => ih.to ?_))
      · rw [h]; rfl
      · rw [h]; rfl
theorem s_PermOk_ev (a : List Int) (hm : a.length ≤ maxLen) : Ev (fun k => s_PermOk k a) (permOk a) := by
  unfold permOk
  refine Ev.step (fun k => s_PermOk_eq k a) (Ev.ite (fun h => Ev.some ?_) (fun h => ?_))
  · have : ¬ a.length ≤ 12 := by simp at h; omega
    simp [this]
  · have : a.length ≤ 12 := by simp at h; omega
    rw [decide_eq_true this]
    exact s_PermOk_l4_ev a this a 0 rfl
theorem i_PermOk_l2_ev (xs : List Int) (hm : xs.length ≤ maxLen) : ∀ (r : List Int) (i : Nat), xs.drop i = r → Ev (fun k => i_PermOk_l2 k xs xs (xs.length : Int) (i : Int)) (decide (xs.length ≤ 12) && preOk xs.length (xs.take i) r)
  | [], i, h => by
    have a := at_nil h
    refine Ev.step (fun k => i_PermOk_l2_eq k _ _ _ _) ?_
    simp only [a.g, cond_false]
    exact Ev.some (by unfold preOk; rw [Bool.and_true, Bool.eq_iff_iff]; simp; omega)
  | x :: r, i, h => by
    have a := at_cons h hm
    have hlt := a.lt
    have ih := i_PermOk_l2_ev xs hm r (i + 1) a.next
    rw [take_at a] at ih
    refine Ev.step (fun k => i_PermOk_l2_eq k _ _ _ _) ?_
    simp only [a.g, a.z, a.get, a.w, cond_true]
    unfold preOk
    refine Ev.ite (fun h => Ev.some ?_) (fun h => Ev.ite (fun h2 => Ev.some ?_) (fun h2 => ?_))
    · have : ¬ 0 ≤ x := by simp at h; omega
      simp [this]
    · have : ¬ x < (xs.length : Int) := by simp at h2; omega
      simp [this]
    · have hx : 0 ≤ x ∧ x < (xs.length : Int) := by simp at h h2; omega
      refine Ev.yes (by simp; omega) ?_
      rw [List.drop_zero, Int.toNat_natCast]
      have e1 : decide (0 ≤ x) = true := by simp [hx.1]
      have e2 : decide (x < (xs.length : Int)) = true := by simp [hx.2]
      rw [e1, e2]
      refine Ev.bind (Contains_int_ev _ x (Nat.le_trans (by rw [List.length_take]; omega) hm)) (Ev.ite (fun h => Ev.some ?_) (fun h => ih.to ?_))
      · rw [h]; simp
      · rw [h]; rfl
theorem i_PermOk_ev (a : List Int) (hm : a.length ≤ maxLen) : Ev (fun k => i_PermOk k a) (permOk a) :=
  Ev.step (fun k => i_PermOk_eq k a) (i_PermOk_l2_ev a hm a 0 rfl)
/-- A permutation: different numbers below its length, at most 12. -/
theorem perm_fit {a : List Int} (h : permOk a = true) : a.length ≤ 12 ∧ a.Nodup ∧ (∀ x ∈ a, 0 ≤ x ∧ x < (a.length : Int)) := by
  unfold permOk at h
  rw [Bool.and_eq_true, decide_eq_true_eq] at h
  obtain ⟨k1, k2⟩ := preOk_nodup a.length a [] List.nodup_nil h.2
  exact ⟨h.1, by simpa using k1, k2⟩
end Qq
namespace Qq
open Go Go.Vt Pt
set_option linter.unusedVariables false
set_option linter.unusedSimpArgs false
def strB (l : List UInt8) : ByteArray := ⟨l.toArray⟩
theorem strB_add (a b : List UInt8) : strB a ++ strB b = strB (a ++ b) := by unfold strB; apply ByteArray.ext; simp
theorem strB_size (a : List UInt8) : (strB a).size = a.length := by simp [strB, ByteArray.size]
theorem strB_one (x : Int) : bytesStr [x] = strB [UInt8.ofNat x.toNat] := rfl
def itoaB (n : Int) : ByteArray := strB (Lib.itoa n)
theorem dec_small {u : Nat} (h : u < 10) : Lib.decDigits u = [UInt8.ofNat (48 + u)] := by rw [Lib.decDigits, dif_pos h]
theorem dec_big {u : Nat} (h : ¬ u < 10) : Lib.decDigits u = Lib.decDigits (u / 10) ++ [UInt8.ofNat (48 + u % 10)] := by rw [Lib.decDigits, dif_neg h]
theorem dig (d : Nat) (h : d < 10) : bytesStr [IntKind.u8.wrap (IntKind.i64.wrap ((48 : Int) + (d : Int)))] = strB [UInt8.ofNat (48 + d)] := by
  rw [wrap_id (by omega) (by omega), strB_one]
  have : IntKind.u8.wrap ((48 : Int) + d) = ((48 + d : Nat) : Int) := by
    have h2 : (48 : Int) + d < 256 := by omega
    unfold IntKind.wrap
    have e : (2 ^ IntKind.u8.bits : Int) = 256 := by decide
    have e2 : IntKind.u8.signed = false := rfl
    simp only [e, e2, Bool.false_and, Bool.false_eq_true, if_false]
    omega
  rw [this, Int.toNat_natCast]
theorem s_FormatInt_l6_ev : ∀ (n : Nat) (s : List UInt8), (n : Int) ≤ 9223372036854775807 → s.length + n ≤ 9223372036854775807 + 1000 → (Lib.decDigits n).length + s.length ≤ 1000 → Ev (fun k => s_FormatInt_l6 k (n : Int) (strB s)) (strB (Lib.decDigits n ++ s)) := by
  intro n
  induction n using Nat.strongRecOn with
  | _ n ih =>
    intro s hn _ hl
    refine Ev.step (fun k => s_FormatInt_l6_eq k _ _) (Ev.ite (fun h => ?_) (fun h => ?_))
    · have h10 : ¬ n < 10 := by simp at h; omega
      have e1 : ((n : Int).tmod 10) = ((n % 10 : Nat) : Int) := by rw [Int.tmod_eq_emod_of_nonneg (by omega)]; omega
      have e2 : ((n : Int).tdiv 10) = ((n / 10 : Nat) : Int) := by rw [Int.tdiv_eq_ediv_of_nonneg (by omega)]; omega
      rw [dec_big h10] at hl ⊢
      simp only [List.length_append, List.length_singleton] at hl
      rw [e1, e2, dig _ (Nat.mod_lt _ (by omega)), strB_add, wrap_id (x := ((n / 10 : Nat) : Int)) (by omega) (by omega)]
      refine Ev.yes (by rw [strB_size, strB_size]; simp; omega) ?_
      rw [List.append_assoc]
      exact ih (n / 10) (by omega) _ (by omega) (by simp; omega) (by simp; omega)
    · have h10 : n < 10 := by simp at h; omega
      rw [dec_small h10] at hl ⊢
      rw [dig n h10, strB_add]
      exact Ev.yes (by rw [strB_size, strB_size]; simp at hl ⊢; omega) (Ev.pure _)
theorem dec_len (u : Nat) (h : (u : Int) ≤ 9223372036854775808) : (Lib.decDigits u).length ≤ 20 := by
  have := Lib.nDigits_le20 u (by omega)
  rw [Lib.decDigits_length]; exact this
theorem s_FormatInt_neg : ∀ (u : Nat), 1 ≤ u → (u : Int) ≤ 9223372036854775808 → Ev (fun k => s_FormatInt k (-(u : Int))) (strB (45 :: Lib.decDigits u)) := by
  intro u
  induction u using Nat.strongRecOn with
  | _ u ih =>
    intro h1 hu
    have hl := dec_len u hu
    have e1 : ((-(u : Int)).tmod 10) = -((u % 10 : Nat) : Int) := by rw [Int.neg_tmod, Int.tmod_eq_emod_of_nonneg (by omega)]; omega
    have e2 : ((-(u : Int)).tdiv 10) = -((u / 10 : Nat) : Int) := by rw [Int.neg_tdiv, Int.tdiv_eq_ediv_of_nonneg (by omega)]; omega
    refine Ev.step (fun k => s_FormatInt_eq k _) (Ev.yes (by simp; omega) ?_)
    rw [e1, e2, wrap_id (x := -((u / 10 : Nat) : Int)) (by omega) (by omega)]
    refine Ev.ite (fun h => ?_) (fun h => ?_)
    · have h10 : u < 10 := by simp at h; omega
      have e3 : (48 : Int) - (-(u : Int)) = 48 + (u : Int) := by omega
      have e4 : (⟨#[45]⟩ : ByteArray) = strB [45] := rfl
      rw [e3, dig u h10, e4, strB_add, dec_small h10]
      exact Ev.yes (by rw [strB_size, strB_size]; rfl) (Ev.pure _)
    · have h10 : ¬ u < 10 := by simp at h; omega
      have e3 : (48 : Int) - (-((u % 10 : Nat) : Int)) = 48 + ((u % 10 : Nat) : Int) := by omega
      rw [dec_big h10] at hl ⊢
      simp only [List.length_append, List.length_singleton] at hl
      refine Ev.bind (ih (u / 10) (by omega) (by omega) (by omega)) ?_
      rw [e3, dig _ (Nat.mod_lt _ (by omega)), strB_add]
      exact Ev.yes (by rw [strB_size, strB_size]; simp; omega) (Ev.pure _)
theorem s_FormatInt_ev (n : Int) (hn : In n) : Ev (fun k => s_FormatInt k n) (itoaB n) := by
  unfold In at hn
  by_cases h : n < 0
  · have := s_FormatInt_neg n.natAbs (by omega) (by omega)
    have e : (-((n.natAbs : Nat) : Int)) = n := by omega
    rw [e] at this
    refine this.to ?_
    unfold itoaB Lib.itoa
    rw [if_pos h]
  · have hl := dec_len n.toNat (by omega)
    have := s_FormatInt_l6_ev n.toNat [] (by omega) (by simp; omega) (by simp; omega)
    have e : ((n.toNat : Nat) : Int) = n := by omega
    rw [e] at this
    refine Ev.step (fun k => s_FormatInt_eq k n) (Ev.no (by simpa using h) (this.to ?_))
    unfold itoaB Lib.itoa
    rw [if_neg h, List.append_nil]
theorem Itoa_ev (n : Int) (hn : In n) : Ev (fun k => strconv_Itoa k n) (itoaB n) := by
  refine Ev.congr (fun k => strconv_Itoa_eq k n) ?_
  unfold itoaF
  refine Ev.yes ?_ (Ev.pure _)
  unfold In at hn
  simp; exact hn
theorem i_FormatInt_ev (n : Int) (hn : In n) : Ev (fun k => i_FormatInt k n) (itoaB n) :=
  Ev.step (fun k => i_FormatInt_eq k n) (Ev.bind (Itoa_ev n hn) (Ev.pure _))
theorem itoaB_size (n : Int) (hn : In n) : (itoaB n).size ≤ 21 := by
  unfold In at hn
  rw [itoaB, strB_size]
  exact Lib.itoa_length_le n hn.1 hn.2
end Qq
namespace Qq
open Go Go.Vt Pt
set_option linter.unusedVariables false
set_option linter.unusedSimpArgs false
def bytesOf (x : ByteArray) : List UInt8 := x.data.toList
theorem strB_bytes (x : ByteArray) : strB (bytesOf x) = x := by unfold strB bytesOf; apply ByteArray.ext; simp
theorem bytes_len (x : ByteArray) : (bytesOf x).length = x.size := by unfold bytesOf; simp
def joinL (l : List ByteArray) (sep : ByteArray) : List UInt8 := Lib.join (l.map bytesOf) (bytesOf sep)
def joinB (l : List ByteArray) (sep : ByteArray) : ByteArray := strB (joinL l sep)
theorem joinTail_len {B S : Nat} (sep : List UInt8) (hs : sep.length ≤ S) : ∀ (r : List ByteArray), (∀ x ∈ r, x.size ≤ B) → (Lib.joinTail sep (r.map bytesOf)).length ≤ r.length * (B + S)
  | [], _ => by simp [Lib.joinTail]
  | x :: r, h => by
    have ih := joinTail_len sep hs r (fun y hy => h y (by simp [hy]))
    have hx := h x (by simp)
    have e : Lib.joinTail sep ((x :: r).map bytesOf) = (sep ++ bytesOf x) ++ Lib.joinTail sep (r.map bytesOf) := by simp [Lib.joinTail]
    rw [e, List.length_append, List.length_append, bytes_len, List.length_cons, Nat.add_mul, Nat.one_mul]
    omega
theorem join_len {B S : Nat} (sep : ByteArray) (hs : sep.size ≤ S) (l : List ByteArray) (h : ∀ x ∈ l, x.size ≤ B) : (joinL l sep).length ≤ l.length * (B + S) := by
  cases l with
  | nil => simp [joinL, Lib.join_nil]
  | cons x r =>
    have hx := h x (by simp)
    have := joinTail_len (B := B) (S := S) (bytesOf sep) (by rw [bytes_len]; exact hs) r (fun y hy => h y (by simp [hy]))
    unfold joinL
    rw [List.map_cons, Lib.join_cons, List.length_append, bytes_len, List.length_cons, Nat.add_mul, Nat.one_mul]
    omega
theorem s_Join_l3_ev (sep : ByteArray) (xs : List ByteArray) (hm : xs.length ≤ maxLen) : ∀ (r : List ByteArray) (i : Nat) (acc : List UInt8), xs.drop i = r → 1 ≤ i → acc.length + (Lib.joinTail (bytesOf sep) (r.map bytesOf)).length ≤ 9223372036854775807 →
    Ev (fun k => s_Join_l3 k sep (strB acc) xs (xs.length : Int) (i : Int)) (strB (acc ++ Lib.joinTail (bytesOf sep) (r.map bytesOf)))
  | [], i, acc, h, hi, hl => by
    have a := at_nil h
    refine Ev.step (fun k => s_Join_l3_eq k _ _ _ _ _) ?_
    simp only [a.g, cond_false]
    exact Ev.some (by simp [Lib.joinTail])
  | x :: r, i, acc, h, hi, hl => by
    have a := at_cons h hm
    have e : Lib.joinTail (bytesOf sep) ((x :: r).map bytesOf) = (bytesOf sep ++ bytesOf x) ++ Lib.joinTail (bytesOf sep) (r.map bytesOf) := by simp [Lib.joinTail]
    rw [e, List.length_append, List.length_append] at hl
    refine Ev.step (fun k => s_Join_l3_eq k _ _ _ _ _) ?_
    simp only [a.g, a.z, a.get, a.w, cond_true]
    have e1 : strB acc ++ sep = strB (acc ++ bytesOf sep) := by rw [← strB_add, strB_bytes]
    have e2 : strB (acc ++ bytesOf sep) ++ x = strB (acc ++ bytesOf sep ++ bytesOf x) := by rw [← strB_add (acc ++ bytesOf sep), strB_bytes]
    have l1 := bytes_len sep
    have l2 := bytes_len x
    refine Ev.yes (by simp; omega) (Ev.yes (by rw [strB_size]; simp; omega) ?_)
    rw [e1]
    refine Ev.yes (by rw [strB_size, List.length_append]; simp; omega) ?_
    rw [e2]
    have := s_Join_l3_ev sep xs hm r (i + 1) (acc ++ bytesOf sep ++ bytesOf x) a.next (by omega) (by rw [List.length_append, List.length_append]; omega)
    rw [e, ← List.append_assoc, ← List.append_assoc]
    exact this
theorem s_Join_ev (l : List ByteArray) (sep : ByteArray) (B : Nat) (hl : l.length ≤ 1048576) (hB : ∀ x ∈ l, x.size ≤ B) (hBB : B ≤ 100) (hs : sep.size ≤ 100) : Ev (fun k => s_Join k (l, sep)) (joinB l sep) := by
  refine Ev.step (fun k => s_Join_eq k l sep) ?_
  cases l with
  | nil =>
    refine Ev.step (fun k => s_Join_l3_eq k _ _ _ _ _) (Ev.no (by simp) (Ev.some ?_))
    rfl
  | cons x r =>
    have a := at_cons (xs := x :: r) (i := 0) rfl (by rw [maxLen_eq]; omega)
    refine Ev.step (fun k => s_Join_l3_eq k _ _ _ _ _) ?_
    have hx := hB x (by simp)
    refine Ev.yes a.g (Ev.yes (by simp) (Ev.yes a.g (Ev.no (by simp) ?_)))
    have e0 : (x :: r).getD (0 : Int).toNat (⟨#[]⟩ : ByteArray) = x := rfl
    have e1 : (⟨#[]⟩ : ByteArray) ++ x = strB (bytesOf x) := by rw [strB_bytes]; apply ByteArray.ext; simp
    have e2 : IntKind.i64.wrap ((0 : Int) + 1) = ((1 : Nat) : Int) := wrap_id (by omega) (by omega)
    rw [e0, e1, e2]
    refine Ev.yes (by show decide (0 + x.size ≤ _) = true; simp; omega) ?_
    have jl := joinTail_len (B := B) (S := 100) (bytesOf sep) (by rw [bytes_len]; exact hs) r (fun y hy => hB y (by simp [hy]))
    rw [List.length_cons] at hl
    have hmul : r.length * (B + 100) ≤ 1048576 * 200 := Nat.mul_le_mul (by omega) (by omega)
    refine (s_Join_l3_ev sep (x :: r) (by rw [maxLen_eq]; simp; omega) r 1 (bytesOf x) rfl (Nat.le_refl _) (by rw [bytes_len]; omega)).to ?_
    unfold joinB joinL
    rw [List.map_cons, Lib.join_cons]
theorem i_Join_ev (l : List ByteArray) (sep : ByteArray) (B : Nat) (hl : l.length ≤ 1048576) (hB : ∀ x ∈ l, x.size ≤ B) (hBB : B ≤ 100) (hs : sep.size ≤ 100) : Ev (fun k => i_Join k (l, sep)) (joinB l sep) := by
  refine Ev.step (fun k => i_Join_eq k l sep) (Ev.bind (Ev.congr (fun k => strings_Join_eq k l sep) ?_) (Ev.pure _))
  unfold joinF
  have jl := join_len (B := B) (S := 100) sep hs l hB
  have hmul : l.length * (B + 100) ≤ 1048576 * 200 := Nat.mul_le_mul hl (by omega)
  refine Ev.yes ?_ (Ev.pure _)
  rw [Bool.and_eq_true, decide_eq_true_eq, decide_eq_true_eq]
  exact ⟨by omega, by show (joinL l sep).length ≤ _; omega⟩
theorem numbersOf_l3_ev (xs : List Int) (hm : xs.length ≤ 1048576) (hi : Ins xs) : ∀ (r : List Int) (i : Nat), xs.drop i = r → Ev (fun k => i_numbersOf_l3 k xs (xs.length : Int) (i : Int) ((xs.take i).map itoaB)) (xs.map itoaB)
  | [], i, h => by
    have a := at_nil h
    refine Ev.step (fun k => i_numbersOf_l3_eq k _ _ _ _) ?_
    simp only [a.g, cond_false]
    exact Ev.some (by rw [List.take_of_length_le a.ge])
  | x :: r, i, h => by
    have a := at_cons h (by rw [maxLen_eq]; omega)
    have hlt := a.lt
    have hx : In x := hi x (List.mem_of_mem_drop (h ▸ List.mem_cons_self))
    refine Ev.step (fun k => i_numbersOf_l3_eq k _ _ _ _) ?_
    simp only [a.g, a.z, a.get, a.w, cond_true]
    refine Ev.bind (i_FormatInt_ev x hx) (Ev.yes (by rw [rowMax_eq]; simp; omega) ?_)
    have := numbersOf_l3_ev xs hm hi r (i + 1) a.next
    rw [List.take_succ_eq_append_getElem hlt, List.map_append] at this
    have e : xs[i] = x := by have := a.get 0; rw [Int.toNat_natCast, List.getD, List.getElem?_eq_getElem hlt] at this; exact this
    rw [e] at this
    exact this
theorem numbersOf_ev (xs : List Int) (hm : xs.length ≤ 1048576) (hi : Ins xs) : Ev (fun k => i_numbersOf k xs) (xs.map itoaB) :=
  Ev.step (fun k => i_numbersOf_eq k xs) (numbersOf_l3_ev xs hm hi xs 0 rfl)
theorem itoaB_map_size {xs : List Int} (hi : Ins xs) : ∀ x ∈ xs.map itoaB, x.size ≤ 21 := by
  intro x hx
  obtain ⟨n, hn, rfl⟩ := List.mem_map.1 hx
  exact itoaB_size n (hi n hn)
end Qq
namespace Qq
open Go Go.Vt Pt
set_option linter.unusedVariables false
set_option linter.unusedSimpArgs false
end Qq
namespace Qq
open Go Go.Vt Pt
set_option linter.unusedVariables false
set_option linter.unusedSimpArgs false
end Qq
namespace Qq
open Go Go.Vt Pt
set_option linter.unusedVariables false
set_option linter.unusedSimpArgs false
end Qq
namespace Qq
open Go Go.Vt Pt
set_option linter.unusedVariables false
set_option linter.unusedSimpArgs false
end Qq
namespace Qq
open Go Go.Vt Pt
set_option linter.unusedVariables false
set_option linter.unusedSimpArgs false
end Qq
namespace Qq
open Go Go.Vt Pt
set_option linter.unusedVariables false
set_option linter.unusedSimpArgs false
/-- The lengths add up to something small. -/
theorem sz_add {a b : ByteArray} {m n : Nat} (ha : a.size ≤ m) (hb : b.size ≤ n) : (a ++ b).size ≤ m + n := by rw [ByteArray.size_append]; omega
theorem sz_ok {a b : ByteArray} {m n : Nat} (ha : a.size ≤ m) (hb : b.size ≤ n) (h : m + n ≤ 9223372036854775807) : decide (a.size + b.size ≤ 9223372036854775807) = true := decide_eq_true (by omega)
end Qq
namespace Qq
open Go Go.Vt Pt
set_option linter.unusedVariables false
set_option linter.unusedSimpArgs false
/-- On from x until a number that was met. -/
def cycF (a : List Int) : Nat → Nat → List Bool → List Int → List Bool × List Int
  | 0, _, met, c => (met, c)
  | f + 1, x, met, c => if met.getD x false = true then (met, c) else cycF a f (a.getD x 0).toNat (met.set x true) (c ++ [(x : Int)])
def outF (a : List Int) : Nat → Nat → List (List Int) → List Bool → List (List Int)
  | 0, _, out, _ => out
  | d + 1, i, out, met => if met.getD i false = true then outF a d (i + 1) out met else outF a d (i + 1) (out ++ [(cycF a a.length i met []).2]) (cycF a a.length i met []).1
theorem cycF_stop {a : List Int} {f x : Nat} {met : List Bool} {c : List Int} (hm : met.getD x false = true) : cycF a f x met c = (met, c) := by
  cases f with
  | zero => rfl
  | succ f => show (if met.getD x false = true then _ else _) = _; rw [if_pos hm]
theorem cycF_step {a : List Int} {f x : Nat} {met : List Bool} {c : List Int} (hm : met.getD x false = false) : cycF a (f + 1) x met c = cycF a f (a.getD x 0).toNat (met.set x true) (c ++ [(x : Int)]) := by
  show (if met.getD x false = true then _ else _) = _
  rw [hm]; rfl
theorem outF_skip {a : List Int} {d i : Nat} {out : List (List Int)} {met : List Bool} (hm : met.getD i false = true) : outF a (d + 1) i out met = outF a d (i + 1) out met := by
  show (if met.getD i false = true then _ else _) = _
  rw [if_pos hm]
theorem outF_add {a : List Int} {d i : Nat} {out : List (List Int)} {met : List Bool} (hm : met.getD i false = false) : outF a (d + 1) i out met = outF a d (i + 1) (out ++ [(cycF a a.length i met []).2]) (cycF a a.length i met []).1 := by
  show (if met.getD i false = true then _ else _) = _
  rw [hm]; rfl
def cycles (a : List Int) : List (List Int) := if permOk a then outF a a.length 0 [] (List.replicate a.length false) else []
theorem unmet_set : ∀ (met : List Bool) (x : Nat), x < met.length → met.getD x false = false → (met.set x true).countP (fun b => !b) + 1 = met.countP (fun b => !b)
  | [], x, h, _ => by simp at h
  | b :: r, 0, h, e => by
    have : b = false := by simpa using e
    subst this
    simp [List.countP_cons]
  | b :: r, x + 1, h, e => by
    have := unmet_set r x (by simpa using h) (by simpa using e)
    rw [List.set_cons_succ, List.countP_cons, List.countP_cons]
    omega
theorem unmet_none {met : List Bool} {x : Nat} (h : met.countP (fun b => !b) = 0) (hx : x < met.length) : met.getD x false = true := by
  rw [List.countP_eq_zero] at h
  have := h met[x] (List.getElem_mem hx)
  rw [List.getD, List.getElem?_eq_getElem hx]
  simpa using this
structure CycFit (a : List Int) (n : Nat) (p : List Bool × List Int) : Prop where
  len : p.1.length = a.length
  clen : p.2.length ≤ n
  ins : Ins p.2
theorem cycF_fit {a : List Int} (h : permOk a = true) : ∀ (f x : Nat) (met : List Bool) (c : List Int), met.length = a.length → x < a.length → Ins c → CycFit a (c.length + f) (cycF a f x met c) ∧ c.length ≤ (cycF a f x met c).2.length
  | 0, x, met, c, hl, hx, hc => ⟨⟨hl, Nat.le_refl _, hc⟩, Nat.le_refl _⟩
  | f + 1, x, met, c, hl, hx, hc => by
    obtain ⟨h1, _, h3⟩ := perm_fit h
    unfold cycF
    split
    · exact ⟨⟨hl, by show c.length ≤ _; omega, hc⟩, Nat.le_refl _⟩
    · have hax : 0 ≤ a.getD x 0 ∧ a.getD x 0 < (a.length : Int) := by
        rw [List.getD, List.getElem?_eq_getElem hx]; exact h3 _ (List.getElem_mem hx)
      obtain ⟨⟨k1, k2, k3⟩, k4⟩ := cycF_fit h f (a.getD x 0).toNat (met.set x true) (c ++ [(x : Int)]) (by rw [List.length_set]; exact hl) (by omega) (fun y hy => by
        rcases List.mem_append.1 hy with hy | hy
        · exact hc y hy
        · simp at hy; subst hy; unfold In; omega)
      rw [List.length_append, List.length_singleton] at k2 k4
      exact ⟨⟨k1, by omega, k3⟩, by omega⟩
theorem cyc_first {a : List Int} (h : permOk a = true) {i : Nat} {met : List Bool} (hl : met.length = a.length) (hi : i < a.length) (hm : ¬ met.getD i false = true) : 1 ≤ (cycF a a.length i met []).2.length := by
  obtain ⟨h1, _, h3⟩ := perm_fit h
  obtain ⟨n, hn⟩ : ∃ n, a.length = n + 1 := ⟨a.length - 1, by omega⟩
  rw [hn]
  unfold cycF
  rw [if_neg hm]
  have hax : 0 ≤ a.getD i 0 ∧ a.getD i 0 < (a.length : Int) := by
    rw [List.getD, List.getElem?_eq_getElem hi]; exact h3 _ (List.getElem_mem hi)
  have := (cycF_fit h n (a.getD i 0).toNat (met.set i true) ([] ++ [(i : Int)]) (by rw [List.length_set]; exact hl) (by omega) (fun y hy => by simp at hy; subst hy; unfold In; omega)).2
  simpa using this
theorem s_cyc_ev {a : List Int} (h : permOk a = true) (y : List (List Int)) (i : Nat) (out : List (List Int)) (ho : out.length ≤ 12) : ∀ (f x : Nat) (met : List Bool) (c : List Int), met.length = a.length → x < a.length → met.countP (fun b => !b) ≤ f → c.length ≤ 1000 →
    Ev (fun k => s_CyclesOf_l6 k a (a.length : Int) ((i + 1 : Nat) : Int) (out ++ [(cycF a f x met c).2]) (cycF a f x met c).1) y → i < a.length → c.length + f ≤ 1000 →
    Ev (fun k => s_CyclesOf_l11 k a (x : Int) (a.length : Int) (i : Int) out met c) y := by
  obtain ⟨h1, _, h3⟩ := perm_fit h
  intro f
  induction f with
  | zero =>
    intro x met c hl hx hu hc hy hi hcf
    have hm := unmet_none (met := met) (x := x) (by omega) (by omega)
    refine Ev.step (fun k => s_CyclesOf_l11_eq k _ _ _ _ _ _ _) ?_
    rw [Int.toNat_natCast, hm, wrap_id (x := (i : Int) + 1) (by omega) (by omega)]
    refine Ev.yes (by simp) (Ev.yes (by rw [hl]; simp; omega) (Ev.yes (by rw [hl]; simp; omega) (Ev.no rfl (Ev.yes (by rw [rowMax_eq]; simp; omega) ?_))))
    exact_mod_cast hy
  | succ f ih =>
    intro x met c hl hx hu hc hy hi hcf
    have hax : 0 ≤ a.getD x 0 ∧ a.getD x 0 < (a.length : Int) := by
      rw [List.getD, List.getElem?_eq_getElem hx]; exact h3 _ (List.getElem_mem hx)
    refine Ev.step (fun k => s_CyclesOf_l11_eq k _ _ _ _ _ _ _) ?_
    rw [Int.toNat_natCast, wrap_id (x := (i : Int) + 1) (by omega) (by omega)]
    refine Ev.yes (by simp) (Ev.yes (by rw [hl]; simp; omega) (Ev.yes (by rw [hl]; simp; omega) ?_))
    unfold cycF at hy
    cases hm : met.getD x false with
    | true =>
      rw [hm, if_pos rfl] at hy
      refine Ev.no rfl (Ev.yes (by rw [rowMax_eq]; simp; omega) ?_)
      exact_mod_cast hy
    | false =>
      rw [hm, if_neg (by simp)] at hy
      refine Ev.yes rfl (Ev.yes (by simp) (Ev.yes (by rw [hl]; simp; omega) (Ev.yes (by rw [hl]; simp; omega) (Ev.yes (by rw [rowMax_eq]; simp; omega) (Ev.yes (by simp) (Ev.yes (by simp; omega) ?_))))))
      have hu' := unmet_set met x (by omega) hm
      have := ih (a.getD x 0).toNat (met.set x true) (c ++ [(x : Int)]) (by rw [List.length_set]; exact hl) (by omega) (by omega) (by simp; omega) hy hi (by simp; omega)
      have e : (((a.getD x 0).toNat : Nat) : Int) = a.getD x 0 := by omega
      rw [e] at this
      exact this
theorem i_cyc_ev {a : List Int} (h : permOk a = true) (y : List (List Int)) (i : Nat) (out : List (List Int)) (ho : out.length ≤ 12) : ∀ (f x : Nat) (met : List Bool) (c : List Int), met.length = a.length → x < a.length → met.countP (fun b => !b) ≤ f → c.length ≤ 1000 →
    Ev (fun k => i_CyclesOf_l6 k a (a.length : Int) ((i + 1 : Nat) : Int) (if (cycF a f x met c).2 = [] then out else out ++ [(cycF a f x met c).2]) (cycF a f x met c).1) y → i < a.length → c.length + f ≤ 1000 →
    Ev (fun k => i_CyclesOf_l10 k a (x : Int) (a.length : Int) (i : Int) out met c) y := by
  obtain ⟨h1, _, h3⟩ := perm_fit h
  intro f
  have fin : ∀ (x : Nat) (met : List Bool) (c : List Int), met.length = a.length → x < a.length → met.getD x false = true →
      Ev (fun k => i_CyclesOf_l6 k a (a.length : Int) ((i + 1 : Nat) : Int) (if c = [] then out else out ++ [c]) met) y → i < a.length → Ev (fun k => i_CyclesOf_l10 k a (x : Int) (a.length : Int) (i : Int) out met c) y := by
    intro x met c hl hx hm hy hi
    refine Ev.step (fun k => i_CyclesOf_l10_eq k _ _ _ _ _ _ _) ?_
    rw [Int.toNat_natCast, hm, wrap_id (x := (i : Int) + 1) (by omega) (by omega)]
    refine Ev.yes (by simp) (Ev.yes (by rw [hl]; simp; omega) (Ev.yes (by rw [hl]; simp; omega) (Ev.no rfl ?_)))
    cases c with
    | nil =>
      rw [if_pos rfl] at hy
      exact Ev.no rfl (by exact_mod_cast hy)
    | cons z r =>
      rw [if_neg (by simp)] at hy
      exact Ev.yes rfl (Ev.yes (by rw [rowMax_eq]; simp; omega) (by exact_mod_cast hy))
  induction f with
  | zero =>
    intro x met c hl hx hu hc hy hi hcf
    exact fin x met c hl hx (unmet_none (met := met) (x := x) (by omega) (by omega)) hy hi
  | succ f ih =>
    intro x met c hl hx hu hc hy hi hcf
    have hax : 0 ≤ a.getD x 0 ∧ a.getD x 0 < (a.length : Int) := by
      rw [List.getD, List.getElem?_eq_getElem hx]; exact h3 _ (List.getElem_mem hx)
    cases hm : met.getD x false with
    | true =>
      rw [cycF_stop hm] at hy
      exact fin x met c hl hx hm hy hi
    | false =>
      rw [cycF_step hm] at hy
      refine Ev.step (fun k => i_CyclesOf_l10_eq k _ _ _ _ _ _ _) ?_
      rw [Int.toNat_natCast, hm]
      refine Ev.yes (by simp) (Ev.yes (by rw [hl]; simp; omega) (Ev.yes (by rw [hl]; simp; omega) ?_))
      refine Ev.yes rfl (Ev.yes (by simp) (Ev.yes (by rw [hl]; simp; omega) (Ev.yes (by rw [hl]; simp; omega) (Ev.yes (by rw [rowMax_eq]; simp; omega) (Ev.yes (by simp) (Ev.yes (by simp; omega) ?_))))))
      have hu' := unmet_set met x (by omega) hm
      have := ih (a.getD x 0).toNat (met.set x true) (c ++ [(x : Int)]) (by rw [List.length_set]; exact hl) (by omega) (by omega) (by simp; omega) hy hi (by simp; omega)
      have e : (((a.getD x 0).toNat : Nat) : Int) = a.getD x 0 := by omega
      rw [e] at this
      exact this
theorem s_out_ev {a : List Int} (h : permOk a = true) : ∀ (d i : Nat) (out : List (List Int)) (met : List Bool), i + d = a.length → out.length ≤ i → met.length = a.length → Ev (fun k => s_CyclesOf_l6 k a (a.length : Int) (i : Int) out met) (outF a d i out met)
  | 0, i, out, met, hd, ho, hl => by
    refine Ev.step (fun k => s_CyclesOf_l6_eq k _ _ _ _ _) ?_
    rw [at_end (by omega)]
    exact Ev.pure _
  | d + 1, i, out, met, hd, ho, hl => by
    obtain ⟨h1, _, h3⟩ := perm_fit h
    have u := at_up (n := (a.length : Int)) (i := i) (by omega) (by omega)
    refine Ev.step (fun k => s_CyclesOf_l6_eq k _ _ _ _ _) ?_
    simp only [u.g, u.z, u.w, cond_true]
    rw [Int.toNat_natCast]
    unfold outF
    refine Ev.yes (by rw [hl]; simp; omega) (Ev.yes (by rw [hl]; simp; omega) (Ev.ite (fun hm => ?_) (fun hm => ?_)))
    · rw [if_pos hm]
      exact s_out_ev h d (i + 1) out met (by omega) (by omega) hl
    · have hm' : ¬ met.getD i false = true := by rw [hm]; simp
      rw [if_neg hm']
      obtain ⟨⟨k1, k2, k3⟩, _⟩ := cycF_fit h a.length i met [] hl (by omega) (fun x hx => by cases hx)
      exact s_cyc_ev h _ i out (by omega) a.length i met [] hl (by omega) (by rw [← hl]; exact List.countP_le_length) (by simp) (s_out_ev h d (i + 1) _ _ (by omega) (by simp; omega) k1) (by omega) (by simp; omega)
theorem i_out_ev {a : List Int} (h : permOk a = true) : ∀ (d i : Nat) (out : List (List Int)) (met : List Bool), i + d = a.length → out.length ≤ i → met.length = a.length → Ev (fun k => i_CyclesOf_l6 k a (a.length : Int) (i : Int) out met) (outF a d i out met)
  | 0, i, out, met, hd, ho, hl => by
    refine Ev.step (fun k => i_CyclesOf_l6_eq k _ _ _ _ _) ?_
    rw [at_end (by omega)]
    exact Ev.pure _
  | d + 1, i, out, met, hd, ho, hl => by
    obtain ⟨h1, _, h3⟩ := perm_fit h
    have u := at_up (n := (a.length : Int)) (i := i) (by omega) (by omega)
    refine Ev.step (fun k => i_CyclesOf_l6_eq k _ _ _ _ _) (Ev.yes u.g ?_)
    obtain ⟨⟨k1, k2, k3⟩, _⟩ := cycF_fit h a.length i met [] hl (by omega) (fun x hx => by cases hx)
    refine i_cyc_ev h _ i out (by omega) a.length i met [] hl (by omega) (by rw [← hl]; exact List.countP_le_length) (by simp) ?_ (by omega) (by simp; omega)
    cases hm : met.getD i false with
    | true =>
      rw [cycF_stop hm, outF_skip hm, if_pos rfl]
      exact i_out_ev h d (i + 1) out met (by omega) (by omega) hl
    | false =>
      have hf := cyc_first h hl (by omega : i < a.length) (by rw [hm]; exact Bool.false_ne_true)
      have hne : ¬ (cycF a a.length i met []).2 = [] := by intro e; rw [e] at hf; simp at hf
      rw [outF_add hm, if_neg hne]
      exact i_out_ev h d (i + 1) _ _ (by omega) (by simp; omega) k1
theorem s_CyclesOf_ev (a : List Int) (hm : a.length ≤ maxLen) : Ev (fun k => s_CyclesOf k a) (cycles a) := by
  unfold cycles
  refine Ev.step (fun k => s_CyclesOf_eq k a) (Ev.bind (s_PermOk_ev a hm) (Ev.ite (fun h => Ev.some ?_) (fun h => ?_)))
  · have : permOk a = false := by simpa using h
    rw [this]; rfl
  · have e : permOk a = true := by simpa using h
    have h1 := (perm_fit e).1
    rw [if_pos e]
    refine Ev.yes (by simp) (Ev.yes (by rw [rowMax_eq]; simp; omega) (Ev.yes (by simp) ?_))
    rw [Int.toNat_natCast]
    exact s_out_ev e a.length 0 [] _ (by omega) (by simp) (by simp)
theorem i_CyclesOf_ev (a : List Int) (hm : a.length ≤ maxLen) : Ev (fun k => i_CyclesOf k a) (cycles a) := by
  unfold cycles
  refine Ev.step (fun k => i_CyclesOf_eq k a) (Ev.bind (i_PermOk_ev a hm) (Ev.ite (fun h => Ev.some ?_) (fun h => ?_)))
  · have : permOk a = false := by simpa using h
    rw [this]; rfl
  · have e : permOk a = true := by simpa using h
    have h1 := (perm_fit e).1
    rw [if_pos e]
    refine Ev.yes (by simp) (Ev.yes (by rw [rowMax_eq]; simp; omega) (Ev.yes (by simp) ?_))
    rw [Int.toNat_natCast]
    exact i_out_ev e a.length 0 [] _ (by omega) (by simp) (by simp)
theorem outF_fit {a : List Int} (h : permOk a = true) : ∀ (d i : Nat) (out : List (List Int)) (met : List Bool), i + d = a.length → out.length ≤ i → met.length = a.length → (∀ c ∈ out, c.length ≤ 12 ∧ Ins c) →
    (outF a d i out met).length ≤ a.length ∧ out.length ≤ (outF a d i out met).length ∧ ∀ c ∈ outF a d i out met, c.length ≤ 12 ∧ Ins c
  | 0, i, out, met, hd, ho, hl, hg => ⟨by show out.length ≤ _; omega, Nat.le_refl _, hg⟩
  | d + 1, i, out, met, hd, ho, hl, hg => by
    obtain ⟨h1, _, h3⟩ := perm_fit h
    unfold outF
    split
    · exact outF_fit h d (i + 1) out met (by omega) (by omega) hl hg
    · obtain ⟨⟨k1, k2, k3⟩, _⟩ := cycF_fit h a.length i met [] hl (by omega) (fun x hx => by cases hx)
      obtain ⟨q1, q2, q3⟩ := outF_fit h d (i + 1) (out ++ [(cycF a a.length i met []).2]) _ (by omega) (by simp; omega) k1 (fun c hc => by
        rcases List.mem_append.1 hc with hc | hc
        · exact hg c hc
        · simp at hc; subst hc; exact ⟨by simp at k2; omega, k3⟩)
      rw [List.length_append, List.length_singleton] at q2
      exact ⟨q1, by omega, q3⟩
theorem cycles_fit (a : List Int) : (cycles a).length ≤ 12 ∧ ∀ c ∈ cycles a, c.length ≤ 12 ∧ Ins c := by
  unfold cycles
  split
  · rename_i h
    have h1 := (perm_fit h).1
    obtain ⟨q1, _, q3⟩ := outF_fit h a.length 0 [] (List.replicate a.length false) (by omega) (by simp) (by simp) (fun c hc => by cases hc)
    exact ⟨by omega, q3⟩
  · exact ⟨by simp, fun c hc => by cases hc⟩
theorem cycles_ne {a : List Int} (h : permOk a = true) (hn : 1 ≤ a.length) : 1 ≤ (cycles a).length := by
  unfold cycles
  rw [if_pos h]
  obtain ⟨n, hn'⟩ : ∃ n, a.length = n + 1 := ⟨a.length - 1, by omega⟩
  have hm0 : (List.replicate a.length false).getD 0 false = false := by rw [hn']; rfl
  have hu : outF a a.length 0 [] (List.replicate a.length false) = outF a n 1 ([] ++ [(cycF a a.length 0 (List.replicate a.length false) []).2]) (cycF a a.length 0 (List.replicate a.length false) []).1 :=
    (congrArg (fun d => outF a d 0 [] (List.replicate a.length false)) hn').trans (outF_add hm0)
  rw [hu]
  obtain ⟨⟨k1, k2, k3⟩, _⟩ := cycF_fit h a.length 0 (List.replicate a.length false) [] (by simp) (by omega) (fun x hx => by cases hx)
  have h1 := (perm_fit h).1
  have := (outF_fit h n 1 ([] ++ [(cycF a a.length 0 (List.replicate a.length false) []).2]) _ (by omega) (by simp) k1 (fun c hc => by
    simp at hc; subst hc; exact ⟨by simp at k2; omega, k3⟩)).2.1
  simpa using this
def cycB (c : List Int) : ByteArray := ((⟨#[40]⟩ : ByteArray) ++ joinB (c.map itoaB) ⟨#[32]⟩) ++ ⟨#[41]⟩
def lineF : List (List Int) → ByteArray → ByteArray
  | [], acc => acc
  | c :: r, acc => lineF r (acc ++ cycB c)
theorem joinC_size {c : List Int} (h : c.length ≤ 12 ∧ Ins c) : (joinB (c.map itoaB) ⟨#[32]⟩).size ≤ 264 := by
  have := join_len (B := 21) (S := 1) (⟨#[32]⟩ : ByteArray) (by decide) (c.map itoaB) (itoaB_map_size h.2)
  rw [List.length_map] at this
  rw [joinB, strB_size]
  omega
theorem cycB_size {c : List Int} (h : c.length ≤ 12 ∧ Ins c) : (cycB c).size ≤ 266 := by
  have h1 := sz_add (a := (⟨#[40]⟩ : ByteArray)) (m := 1) (by decide) (joinC_size h)
  exact sz_add h1 (n := 1) (by decide)
theorem s_l9_ev (y : ByteArray) (acc : ByteArray) (cs : List (List Int)) (n i : Nat) (c : List Int) (hc : c.length ≤ 12 ∧ Ins c) (hs : acc.size ≤ 100000)
    (hy : Ev (fun k => s_CyclesLine_l5 k (acc ++ cycB c) (n : Int) ((i + 1 : Nat) : Int) cs) y) (hi : (i : Int) + 1 ≤ 1000) : ∀ (r : List Int) (j : Nat), c.drop j = r → Ev (fun k => s_CyclesLine_l9 k acc (n : Int) (i : Int) c (c.length : Int) (j : Int) ((c.take j).map itoaB) cs) y
  | [], j, h => by
    have q := at_nil h
    have sj := joinC_size hc
    refine Ev.step (fun k => s_CyclesLine_l9_eq k _ _ _ _ _ _ _ _) ?_
    simp only [q.g, cond_false]
    rw [List.take_of_length_le q.ge, wrap_id (x := (i : Int) + 1) (by omega) (by omega)]
    have s1 := sz_add (b := (⟨#[40]⟩ : ByteArray)) (n := 1) hs (by decide)
    have s2 := sz_add s1 sj
    have e : ((acc ++ (⟨#[40]⟩ : ByteArray)) ++ joinB (c.map itoaB) ⟨#[32]⟩) ++ (⟨#[41]⟩ : ByteArray) = acc ++ cycB c := by
      unfold cycB
      rw [ByteArray.append_assoc, ByteArray.append_assoc, ByteArray.append_assoc]
    refine Ev.yes (sz_ok hs (n := 1) (by decide) (by decide)) (Ev.bind (s_Join_ev _ _ 21 (by simp; omega) (itoaB_map_size hc.2) (by omega) (by decide)) (Ev.yes (sz_ok s1 sj (by decide)) (Ev.yes (sz_ok s2 (n := 1) (by decide) (by decide)) ?_)))
    rw [e]
    exact_mod_cast hy
  | x :: r, j, h => by
    have q := at_cons h (by rw [maxLen_eq]; omega)
    have hlt := q.lt
    have hx : In x := hc.2 x (List.mem_of_mem_drop (h ▸ List.mem_cons_self))
    have ih := s_l9_ev y acc cs n i c hc hs hy hi r (j + 1) q.next
    rw [take_at q, List.map_append] at ih
    refine Ev.step (fun k => s_CyclesLine_l9_eq k _ _ _ _ _ _ _ _) ?_
    simp only [q.g, q.z, q.get, q.w, cond_true]
    exact Ev.bind (s_FormatInt_ev x hx) (Ev.yes (by rw [rowMax_eq]; simp; omega) ih)
theorem getD_elem {α : Type} {xs : List α} {i : Nat} {x : α} {r : List α} (q : AtCons xs i x r) (d : α) : xs.getD i d = x := by have := q.get d; rwa [Int.toNat_natCast] at this
theorem s_line_ev (cs : List (List Int)) (hl : cs.length ≤ 12) (hg : ∀ c ∈ cs, c.length ≤ 12 ∧ Ins c) (y : ByteArray) : ∀ (r : List (List Int)) (i : Nat) (acc : ByteArray), cs.drop i = r → acc.size ≤ 300 * i →
    y = (if (lineF r acc).toList = (⟨#[]⟩ : ByteArray).toList then ⟨#[40, 41]⟩ else lineF r acc) → Ev (fun k => s_CyclesLine_l5 k acc (cs.length : Int) (i : Int) cs) y
  | [], i, acc, h, hs, hy => by
    have q := at_nil h
    refine Ev.step (fun k => s_CyclesLine_l5_eq k _ _ _ _) ?_
    simp only [q.g, cond_false]
    subst hy
    refine Ev.ite (fun c => Ev.some ?_) (fun c => Ev.some ?_)
    · have : acc.toList = (⟨#[]⟩ : ByteArray).toList := by simpa using c
      rw [show lineF [] acc = acc from rfl, if_pos this]
    · have : ¬ acc.toList = (⟨#[]⟩ : ByteArray).toList := by simpa using c
      rw [show lineF [] acc = acc from rfl, if_neg this]
  | c :: r, i, acc, h, hs, hy => by
    have q := at_cons h (by rw [maxLen_eq]; omega)
    have hlt := q.lt
    have hc := hg c (List.mem_of_mem_drop (h ▸ List.mem_cons_self))
    refine Ev.step (fun k => s_CyclesLine_l5_eq k _ _ _ _) ?_
    simp only [q.g, q.z, q.n, q.get, cond_true]
    have s1 := sz_add hs (cycB_size hc)
    exact s_l9_ev y acc cs cs.length i c hc (by omega) (s_line_ev cs hl hg y r (i + 1) (acc ++ cycB c) q.next (by omega) hy) (by omega) c 0 rfl
theorem i_line_ev (cs : List (List Int)) (hl : cs.length ≤ 12) (hg : ∀ c ∈ cs, c.length ≤ 12 ∧ Ins c) : ∀ (r : List (List Int)) (i : Nat) (acc : ByteArray), cs.drop i = r → acc.size ≤ 300 * i → Ev (fun k => i_CyclesLine_l7 k acc (cs.length : Int) (i : Int) cs) (lineF r acc)
  | [], i, acc, h, hs => by
    have q := at_nil h
    refine Ev.step (fun k => i_CyclesLine_l7_eq k _ _ _ _) ?_
    simp only [q.g, cond_false]
    exact Ev.pure _
  | c :: r, i, acc, h, hs => by
    have q := at_cons h (by rw [maxLen_eq]; omega)
    have hlt := q.lt
    have hc := hg c (List.mem_of_mem_drop (h ▸ List.mem_cons_self))
    have sj := joinC_size hc
    have sc := cycB_size hc
    have s0 := sz_add (a := (⟨#[40]⟩ : ByteArray)) (m := 1) (by decide) sj
    have s1 := sz_add hs sc
    refine Ev.step (fun k => i_CyclesLine_l7_eq k _ _ _ _) ?_
    simp only [q.g, q.z, q.n, q.get, q.w, cond_true]
    refine Ev.bind (numbersOf_ev c (by omega) hc.2) (Ev.bind (i_Join_ev _ _ 21 (by simp; omega) (itoaB_map_size hc.2) (by omega) (by decide)) (Ev.yes (sz_ok (m := 1) (by decide) sj (by decide)) (Ev.yes (sz_ok s0 (n := 1) (by decide) (by decide)) (Ev.yes (sz_ok hs sc (by omega)) ?_))))
    exact i_line_ev cs hl hg r (i + 1) (acc ++ cycB c) q.next (by omega)
def cyclesLine (a : List Int) : ByteArray := if permOk a then (if a = [] then ⟨#[40, 41]⟩ else lineF (cycles a) ⟨#[]⟩) else ⟨#[]⟩
theorem lineF_size : ∀ (r : List (List Int)) (acc : ByteArray), acc.size ≤ (lineF r acc).size
  | [], acc => Nat.le_refl _
  | c :: r, acc => by
    have := lineF_size r (acc ++ cycB c)
    rw [ByteArray.size_append] at this
    show _ ≤ (lineF r (acc ++ cycB c)).size
    omega
theorem s_CyclesLine_ev (a : List Int) (hm : a.length ≤ maxLen) : Ev (fun k => s_CyclesLine k a) (cyclesLine a) := by
  unfold cyclesLine
  obtain ⟨f1, f2⟩ := cycles_fit a
  refine Ev.step (fun k => s_CyclesLine_eq k a) (Ev.bind (s_PermOk_ev a hm) (Ev.ite (fun h => Ev.some ?_) (fun h => Ev.bind (s_CyclesOf_ev a hm) ?_)))
  · have : permOk a = false := by simpa using h
    rw [this]; rfl
  · have e : permOk a = true := by simpa using h
    rw [if_pos e]
    refine s_line_ev (cycles a) f1 f2 _ (cycles a) 0 ⟨#[]⟩ rfl (by decide) ?_
    cases a with
    | nil =>
      have e0 : cycles [] = [] := by unfold cycles; split <;> rfl
      rw [if_pos rfl, e0, show lineF [] ⟨#[]⟩ = ⟨#[]⟩ from rfl, if_pos rfl]
    | cons x r =>
      rw [if_neg (by simp), if_neg]
      intro hh
      have h1 := cycles_ne e (by simp)
      cases hc : cycles (x :: r) with
      | nil => rw [hc] at h1; simp at h1
      | cons c0 r0 =>
        rw [hc, ByteArray.toList_eq, ByteArray.toList_eq] at hh
        have h2 := lineF_size r0 ((⟨#[]⟩ : ByteArray) ++ cycB c0)
        have h3 : (bytesOf (lineF (c0 :: r0) ⟨#[]⟩)).length = 0 := by unfold bytesOf; rw [hh]; rfl
        rw [bytes_len] at h3
        have h4 : 1 ≤ (cycB c0).size := by unfold cycB; rw [ByteArray.size_append, ByteArray.size_append]; show 1 ≤ 1 + _ + _; omega
        rw [ByteArray.size_append] at h2
        have h5 : (lineF (c0 :: r0) ⟨#[]⟩).size = (lineF r0 ((⟨#[]⟩ : ByteArray) ++ cycB c0)).size := rfl
        omega
theorem i_CyclesLine_ev (a : List Int) (hm : a.length ≤ maxLen) : Ev (fun k => i_CyclesLine k a) (cyclesLine a) := by
  unfold cyclesLine
  obtain ⟨f1, f2⟩ := cycles_fit a
  refine Ev.step (fun k => i_CyclesLine_eq k a) (Ev.bind (i_PermOk_ev a hm) (Ev.ite (fun h => Ev.some ?_) (fun h => Ev.ite (fun h2 => Ev.some ?_) (fun h2 => ?_))))
  · have : permOk a = false := by simpa using h
    rw [this]; rfl
  · have e : permOk a = true := by simpa using h
    have : a = [] := by simp at h2; exact h2
    rw [if_pos e, if_pos this]
  · have e : permOk a = true := by simpa using h
    have : ¬ a = [] := by simp at h2; exact h2
    rw [if_pos e, if_neg this]
    exact Ev.bind (i_CyclesOf_ev a hm) (i_line_ev (cycles a) f1 f2 (cycles a) 0 ⟨#[]⟩ rfl (by decide))
theorem FnExactCyclesLine_ev (a : List Int) (f0 : Fits (.slice (.int .i64)) a) : Ev (fun k => w_FnExactCyclesLine k a) true := by
  have hm : a.length ≤ maxLen := f0.1
  refine Ev.step (fun k => w_FnExactCyclesLine_eq k a) (Ev.ite (fun h => Ev.pure _) (fun h => ?_))
  have hp : a.length ≤ 1048576 := by simp at h; omega
  refine Ev.bind (toIntS_ev a hp) (Ev.bind (s_CyclesLine_ev a hm) (Ev.bind (toIntS_ev a hp) (Ev.bind (i_CyclesLine_ev a hm) (Ev.no (by simp) ?_))))
  exact Ev.bind (toIntS_ev a hp) (Ev.bind (eqIntS_ev a a hm hm) (Ev.no (by simp) (Ev.pure _)))
end Qq
