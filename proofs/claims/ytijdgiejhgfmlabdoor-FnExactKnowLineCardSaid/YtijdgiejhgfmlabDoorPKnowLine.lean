/-
  The law FnExactKnowLine comes to true.
  Conditions: numbers and lengths are such as a machine bears.
-/
import Derived.Test.YtijdgiejhgfmlabDoorPt
import Derived.Test.YtijdgiejhgfmlabDoorXvzd
import Derived.Laws.BitsLemmas
import Derived.Lib.ItoaLen
namespace Go.Vt
theorem Ev.some {α : Type} {x y : α} (e : x = y) : Ev (fun _ => Option.some x) y := by subst e; exact Ev.pure _
theorem Ev.to {α : Type} {g : Nat → Option α} {x y : α} (h : Ev g x) (e : x = y) : Ev g y := e ▸ h
end Go.Vt
namespace Qq
open Go Go.Vt
set_option linter.unusedVariables false
set_option linter.unusedSimpArgs false
theorem maxLen_eq : maxLen = 9223372036854775807 := by unfold maxLen; decide
theorem rowMax_eq : rowMax = 4294967296 := rfl
theorem wrap_id {x : Int} (h1 : -9223372036854775808 ≤ x) (h2 : x ≤ 9223372036854775807) : IntKind.i64.wrap x = x := by
  rw [IntKind.wrap_i64]; omega
/-- Numbers of a machine's kind. -/
def In (x : Int) : Prop := -9223372036854775808 ≤ x ∧ x ≤ 9223372036854775807
theorem In.of_fits {x : Int} (h : Fits (.int .i64) x) : In x := by
  have h' : IntKind.i64.min ≤ x ∧ x ≤ IntKind.i64.max := h
  have e1 : IntKind.i64.min = -9223372036854775808 := by decide
  have e2 : IntKind.i64.max = 9223372036854775807 := by decide
  unfold In; rw [e1, e2] at h'; exact h'
def Ins (xs : List Int) : Prop := ∀ x ∈ xs, In x
structure AtCons {α : Type} (xs : List α) (i : Nat) (y : α) (rest : List α) : Prop where
  lt : i < xs.length
  g : decide ((i : Int) < (xs.length : Int)) = true
  z : decide ((0 : Int) ≤ (i : Int)) = true
  n : decide ((i : Int).toNat < xs.length) = true
  get : ∀ d, xs.getD (i : Int).toNat d = y
  w : IntKind.i64.wrap ((i : Int) + 1) = ((i + 1 : Nat) : Int)
  next : xs.drop (i + 1) = rest
  mem : y ∈ xs
  gt : ∀ d, xs.getD i d = y
  le : decide ((i : Int) ≤ (xs.length : Int)) = true
theorem at_cons {α : Type} {xs : List α} {i : Nat} {y : α} {rest : List α} (h : xs.drop i = y :: rest) (hm : xs.length ≤ maxLen) : AtCons xs i y rest := by
  rw [maxLen_eq] at hm
  have lt : i < xs.length := by
    rcases Nat.lt_or_ge i xs.length with h1 | h1
    · exact h1
    · rw [List.drop_eq_nil_of_le h1] at h; cases h
  have e := List.drop_eq_getElem_cons lt
  rw [e] at h
  have hy : xs[i] = y := by injection h
  refine ⟨lt, by simp; omega, by simp, by simp; omega, fun d => by simp [List.getD, lt, hy], by rw [wrap_id (by omega) (by omega)]; simp, by injection h, by rw [← hy]; exact List.getElem_mem lt, fun d => by simp [List.getD, lt, hy], by simp; omega⟩
structure AtNil {α : Type} (xs : List α) (i : Nat) : Prop where
  ge : xs.length ≤ i
  g : decide ((i : Int) < (xs.length : Int)) = false
theorem at_nil {α : Type} {xs : List α} {i : Nat} (h : xs.drop i = []) : AtNil xs i := by
  have ge : xs.length ≤ i := List.drop_eq_nil_iff.1 h
  exact ⟨ge, by simp; omega⟩
/-- Counting from i up to n. -/
structure AtUp (n : Int) (i : Nat) : Prop where
  lt : (i : Int) < n
  g : decide ((i : Int) < n) = true
  z : decide ((0 : Int) ≤ (i : Int)) = true
  w : IntKind.i64.wrap ((i : Int) + 1) = ((i + 1 : Nat) : Int)
theorem at_up {n : Int} {i : Nat} (h : (i : Int) < n) (hn : n ≤ 9223372036854775807) : AtUp n i :=
  ⟨h, by simp [h], by simp, by rw [wrap_id (by omega) (by omega)]; simp⟩
theorem at_end {n : Int} {i : Nat} (h : n ≤ (i : Int)) : decide ((i : Int) < n) = false := by simp [h]
end Qq
namespace Qq
open Go Go.Vt Pt
set_option linter.unusedVariables false
set_option linter.unusedSimpArgs false
theorem l01In_ev (x lo hi : Int) : Ev (fun k => s_l01In k (x, lo, hi)) (decide (lo ≤ x) && decide (x ≤ hi)) := by
  refine Ev.step (fun k => s_l01In_eq k x lo hi) (Ev.ite (fun h => ?_) (fun h => ?_))
  · have h' : lo ≤ x := by simpa using h
    exact Ev.some (by simp [h'])
  · have h' : ¬ lo ≤ x := by simpa using h
    exact Ev.some (by simp [h'])
theorem szIntS_ev (xs : List Int) (n : Int) (hx : xs.length ≤ maxLen) (hn : 0 ≤ n) (hn2 : n ≤ 1048576) :
    Ev (fun k => w_szIntS k (xs, n)) (if n - (xs.length : Int) < 0 then -1 else n - xs.length) := by
  rw [maxLen_eq] at hx
  refine Ev.step (fun k => w_szIntS_eq k xs n) ?_
  rw [wrap_id (by omega) (by omega)]
  split
  · rename_i h; exact Ev.yes (by simpa using h) (Ev.pure _)
  · rename_i h; exact Ev.no (by simpa using h) (Ev.pure _)
theorem eqIntS_l4_ev (xs ys : List Int) (hx : xs.length ≤ maxLen) (hy : ys.length ≤ maxLen) : ∀ (r s : List Int) (i : Nat), xs.drop i = r → ys.drop i = s → s.length = r.length → Ev (fun k => w_eqIntS_l4 k xs ys (i : Int)) (r == s)
  | [], [], i, h1, h2, hl => by
    have a := at_nil h1
    refine Ev.step (fun k => w_eqIntS_l4_eq k xs ys i) ?_
    simp only [a.g, cond_false]
    exact Ev.pure _
  | x :: r, y :: s, i, h1, h2, hl => by
    have a := at_cons h1 hx
    have b := at_cons h2 hy
    refine Ev.step (fun k => w_eqIntS_l4_eq k xs ys i) ?_
    simp only [a.g, a.z, b.g, a.get, b.get, a.w, cond_true]
    have ih := eqIntS_l4_ev xs ys hx hy r s (i + 1) a.next b.next (by simpa using hl)
    refine Ev.ite (fun h => Ev.some ?_) (fun h => ih.to ?_)
    · have : ¬ x = y := by simpa using h
      simp [this]
    · have : x = y := by simpa using h
      simp [this]
  | [], _ :: _, _, _, _, hl => by simp at hl
  | _ :: _, [], _, _, _, hl => by simp at hl
theorem eqIntS_ev (xs ys : List Int) (hx : xs.length ≤ maxLen) (hy : ys.length ≤ maxLen) : Ev (fun k => w_eqIntS k (xs, ys)) (xs == ys) := by
  refine Ev.step (fun k => w_eqIntS_eq k xs ys) (Ev.ite (fun h => Ev.some ?_) (fun h => eqIntS_l4_ev xs ys hx hy xs ys 0 rfl rfl ?_))
  · have h' : ¬ xs.length = ys.length := by simp at h; omega
    have : ¬ xs = ys := fun e => h' (by rw [e])
    simp [this]
  · simp at h; omega
theorem set_get {α : Type} {n : Nat} {xs ys : List α} {i : Nat} {d : α} (hi : i < xs.length) (hl : ys.length = xs.length) (h : ys.take i = xs.take i) : (ys.set i (xs.getD i d)).take (i + 1) = xs.take (i + 1) := by
  have g1 : xs.getD i d = xs[i] := by simp [List.getD, hi]
  rw [g1, List.take_succ_eq_append_getElem (by simp; omega), List.take_succ_eq_append_getElem hi, List.take_set_of_le (by omega), h]
  simp
theorem toIntS_l3_ev (xs : List Int) (hm : xs.length ≤ maxLen) : ∀ (r : List Int) (i : Nat) (ys : List Int), xs.drop i = r → ys.length = xs.length → ys.take i = xs.take i → Ev (fun k => w_toIntS_l3 k xs (i : Int) ys) xs
  | [], i, ys, h, hl, ht => by
    have a := at_nil h
    refine Ev.step (fun k => w_toIntS_l3_eq k xs i ys) ?_
    simp only [a.g, cond_false]
    have e : ys = xs := by
      have := a.ge
      rwa [List.take_of_length_le (by omega), List.take_of_length_le (by omega)] at ht
    exact Ev.some e
  | x :: r, i, ys, h, hl, ht => by
    have a := at_cons h hm
    have b1 : decide ((i : Int) < (ys.length : Int)) = true := by rw [hl]; exact a.g
    have b2 : decide ((i : Int).toNat < ys.length) = true := by rw [hl]; exact a.n
    refine Ev.step (fun k => w_toIntS_l3_eq k xs i ys) ?_
    simp only [a.g, a.z, b1, b2, a.w, cond_true]
    have hs := set_get (n := 0) (d := 0) a.lt hl ht
    exact toIntS_l3_ev xs hm r (i + 1) _ a.next (by simp [hl]) (by simpa using hs)
theorem toIntS_ev (xs : List Int) (hm : xs.length ≤ 1048576) : Ev (fun k => w_toIntS k xs) xs := by
  refine Ev.step (fun k => w_toIntS_eq k xs) (Ev.yes (by simp) (Ev.yes (by rw [rowMax_eq]; simp; omega) (Ev.yes (by simp) ?_)))
  exact toIntS_l3_ev xs (by rw [maxLen_eq]; omega) xs 0 _ rfl (by simp) (by simp)
end Qq
namespace Qq
open Go Go.Vt Pt
set_option linter.unusedVariables false
set_option linter.unusedSimpArgs false
def strB (l : List UInt8) : ByteArray := ⟨l.toArray⟩
theorem strB_add (a b : List UInt8) : strB a ++ strB b = strB (a ++ b) := by unfold strB; apply ByteArray.ext; simp
theorem strB_size (a : List UInt8) : (strB a).size = a.length := by simp [strB, ByteArray.size]
theorem strB_one (x : Int) : bytesStr [x] = strB [UInt8.ofNat x.toNat] := rfl
def itoaB (n : Int) : ByteArray := strB (Lib.itoa n)
theorem dec_small {u : Nat} (h : u < 10) : Lib.decDigits u = [UInt8.ofNat (48 + u)] := by rw [Lib.decDigits, dif_pos h]
theorem dec_big {u : Nat} (h : ¬ u < 10) : Lib.decDigits u = Lib.decDigits (u / 10) ++ [UInt8.ofNat (48 + u % 10)] := by rw [Lib.decDigits, dif_neg h]
theorem dig (d : Nat) (h : d < 10) : bytesStr [IntKind.u8.wrap (IntKind.i64.wrap ((48 : Int) + (d : Int)))] = strB [UInt8.ofNat (48 + d)] := by
  rw [wrap_id (by omega) (by omega), strB_one]
  have : IntKind.u8.wrap ((48 : Int) + d) = ((48 + d : Nat) : Int) := by
    have h2 : (48 : Int) + d < 256 := by omega
    unfold IntKind.wrap
    have e : (2 ^ IntKind.u8.bits : Int) = 256 := by decide
    have e2 : IntKind.u8.signed = false := rfl
    simp only [e, e2, Bool.false_and, Bool.false_eq_true, if_false]
    omega
  rw [this, Int.toNat_natCast]
theorem s_FormatInt_l6_ev : ∀ (n : Nat) (s : List UInt8), (n : Int) ≤ 9223372036854775807 → s.length + n ≤ 9223372036854775807 + 1000 → (Lib.decDigits n).length + s.length ≤ 1000 → Ev (fun k => s_FormatInt_l6 k (n : Int) (strB s)) (strB (Lib.decDigits n ++ s)) := by
  intro n
  induction n using Nat.strongRecOn with
  | _ n ih =>
    intro s hn _ hl
    refine Ev.step (fun k => s_FormatInt_l6_eq k _ _) (Ev.ite (fun h => ?_) (fun h => ?_))
    · have h10 : ¬ n < 10 := by simp at h; omega
      have e1 : ((n : Int).tmod 10) = ((n % 10 : Nat) : Int) := by rw [Int.tmod_eq_emod_of_nonneg (by omega)]; omega
      have e2 : ((n : Int).tdiv 10) = ((n / 10 : Nat) : Int) := by rw [Int.tdiv_eq_ediv_of_nonneg (by omega)]; omega
      rw [dec_big h10] at hl ⊢
      simp only [List.length_append, List.length_singleton] at hl
      rw [e1, e2, dig _ (Nat.mod_lt _ (by omega)), strB_add, wrap_id (x := ((n / 10 : Nat) : Int)) (by omega) (by omega)]
      refine Ev.yes (by rw [strB_size, strB_size]; simp; omega) ?_
      rw [List.append_assoc]
      exact ih (n / 10) (by omega) _ (by omega) (by simp; omega) (by simp; omega)
    · have h10 : n < 10 := by simp at h; omega
      rw [dec_small h10] at hl ⊢
      rw [dig n h10, strB_add]
      exact Ev.yes (by rw [strB_size, strB_size]; simp at hl ⊢; omega) (Ev.pure _)
theorem dec_len (u : Nat) (h : (u : Int) ≤ 9223372036854775808) : (Lib.decDigits u).length ≤ 20 := by
  have := Lib.nDigits_le20 u (by omega)
  rw [Lib.decDigits_length]; exact this
theorem s_FormatInt_neg : ∀ (u : Nat), 1 ≤ u → (u : Int) ≤ 9223372036854775808 → Ev (fun k => s_FormatInt k (-(u : Int))) (strB (45 :: Lib.decDigits u)) := by
  intro u
  induction u using Nat.strongRecOn with
  | _ u ih =>
    intro h1 hu
    have hl := dec_len u hu
    have e1 : ((-(u : Int)).tmod 10) = -((u % 10 : Nat) : Int) := by rw [Int.neg_tmod, Int.tmod_eq_emod_of_nonneg (by omega)]; omega
    have e2 : ((-(u : Int)).tdiv 10) = -((u / 10 : Nat) : Int) := by rw [Int.neg_tdiv, Int.tdiv_eq_ediv_of_nonneg (by omega)]; omega
    refine Ev.step (fun k => s_FormatInt_eq k _) (Ev.yes (by simp; omega) ?_)
    rw [e1, e2, wrap_id (x := -((u / 10 : Nat) : Int)) (by omega) (by omega)]
    refine Ev.ite (fun h => ?_) (fun h => ?_)
    · have h10 : u < 10 := by simp at h; omega
      have e3 : (48 : Int) - (-(u : Int)) = 48 + (u : Int) := by omega
      have e4 : (⟨#[45]⟩ : ByteArray) = strB [45] := rfl
      rw [e3, dig u h10, e4, strB_add, dec_small h10]
      exact Ev.yes (by rw [strB_size, strB_size]; rfl) (Ev.pure _)
    · have h10 : ¬ u < 10 := by simp at h; omega
      have e3 : (48 : Int) - (-((u % 10 : Nat) : Int)) = 48 + ((u % 10 : Nat) : Int) := by omega
      rw [dec_big h10] at hl ⊢
      simp only [List.length_append, List.length_singleton] at hl
      refine Ev.bind (ih (u / 10) (by omega) (by omega) (by omega)) ?_
      rw [e3, dig _ (Nat.mod_lt _ (by omega)), strB_add]
      exact Ev.yes (by rw [strB_size, strB_size]; simp; omega) (Ev.pure _)
theorem s_FormatInt_ev (n : Int) (hn : In n) : Ev (fun k => s_FormatInt k n) (itoaB n) := by
  unfold In at hn
  by_cases h : n < 0
  · have := s_FormatInt_neg n.natAbs (by omega) (by omega)
    have e : (-((n.natAbs : Nat) : Int)) = n := by omega
    rw [e] at this
    refine this.to ?_
    unfold itoaB Lib.itoa
    rw [if_pos h]
  · have hl := dec_len n.toNat (by omega)
    have := s_FormatInt_l6_ev n.toNat [] (by omega) (by simp; omega) (by simp; omega)
    have e : ((n.toNat : Nat) : Int) = n := by omega
    rw [e] at this
    refine Ev.step (fun k => s_FormatInt_eq k n) (Ev.no (by simpa using h) (this.to ?_))
    unfold itoaB Lib.itoa
    rw [if_neg h, List.append_nil]
theorem Itoa_ev (n : Int) (hn : In n) : Ev (fun k => strconv_Itoa k n) (itoaB n) := by
  refine Ev.congr (fun k => strconv_Itoa_eq k n) ?_
  unfold itoaF
  refine Ev.yes ?_ (Ev.pure _)
  unfold In at hn
  simp; exact hn
theorem i_FormatInt_ev (n : Int) (hn : In n) : Ev (fun k => i_FormatInt k n) (itoaB n) :=
  Ev.step (fun k => i_FormatInt_eq k n) (Ev.bind (Itoa_ev n hn) (Ev.pure _))
theorem itoaB_size (n : Int) (hn : In n) : (itoaB n).size ≤ 21 := by
  unfold In at hn
  rw [itoaB, strB_size]
  exact Lib.itoa_length_le n hn.1 hn.2
end Qq
namespace Qq
open Go Go.Vt Pt
set_option linter.unusedVariables false
set_option linter.unusedSimpArgs false
end Qq
namespace Qq
open Go Go.Vt Pt
set_option linter.unusedVariables false
set_option linter.unusedSimpArgs false
end Qq
namespace Qq
open Go Go.Vt Pt
set_option linter.unusedVariables false
set_option linter.unusedSimpArgs false
end Qq
namespace Qq
open Go Go.Vt Pt
set_option linter.unusedVariables false
set_option linter.unusedSimpArgs false
theorem l02Has_l2_ev (x : Int) (xs : List Int) (hm : xs.length ≤ maxLen) : ∀ (r : List Int) (i : Nat), xs.drop i = r → Ev (fun k => s_l02Has_l2 k x xs (xs.length : Int) (i : Int)) (r.contains x)
  | [], i, h => by
    have a := at_nil h
    refine Ev.step (fun k => s_l02Has_l2_eq k x xs _ i) ?_
    simp only [a.g, cond_false]
    exact Ev.pure _
  | y :: r, i, h => by
    have a := at_cons h hm
    refine Ev.step (fun k => s_l02Has_l2_eq k x xs _ i) ?_
    simp only [a.g, a.z, a.get, a.w, cond_true]
    refine Ev.ite (fun h => Ev.some ?_) (fun h => (l02Has_l2_ev x xs hm r (i + 1) a.next).to ?_)
    · have : y = x := by simpa using h
      simp [this]
    · have : ¬ y = x := by simpa using h
      have h2 : ¬ x = y := fun e => this e.symm
      simp [h2]
theorem l02Has_ev (xs : List Int) (x : Int) (hm : xs.length ≤ maxLen) : Ev (fun k => s_l02Has k (xs, x)) (xs.contains x) :=
  Ev.step (fun k => s_l02Has_eq k xs x) (l02Has_l2_ev x xs hm xs 0 rfl)
end Qq
namespace Qq
open Go Go.Vt Pt
set_option linter.unusedVariables false
set_option linter.unusedSimpArgs false
theorem nodup_len : ∀ (n : Nat) (l : List Int), l.Nodup → (∀ x ∈ l, 0 ≤ x ∧ x < (n : Int)) → l.length ≤ n
  | 0, l, _, h => by
    cases l with
    | nil => simp
    | cons x l => have := h x (by simp); omega
  | n + 1, l, hd, h => by
    have h1 := nodup_len n (l.erase (n : Int)) (hd.erase _) (fun x hx => by
      have hx' := (hd.mem_erase_iff).1 hx
      have := h x hx'.2
      have : x ≠ (n : Int) := hx'.1
      omega)
    have h2 := List.length_erase (a := (n : Int)) (l := l)
    split at h2 <;> omega
end Qq
namespace Qq
open Go Go.Vt Pt
set_option linter.unusedVariables false
set_option linter.unusedSimpArgs false
def card (x : Int) : Int := if 0 ≤ x ∧ x ≤ 11 then x else if -12 ≤ x ∧ x ≤ -1 then -1 - x else -1
theorem card_lt (x : Int) : -1 ≤ card x ∧ card x ≤ 11 := by unfold card; split; · omega
                                                            split <;> omega
theorem s_CardOf_ev (x : Int) : Ev (fun k => s_CardOf k x) (card x) := by
  refine Ev.step (fun k => s_CardOf_eq k x) (Ev.bind (l01In_ev _ _ _) (Ev.ite (fun h => Ev.some ?_) (fun h => Ev.bind (l01In_ev _ _ _) (Ev.ite (fun h' => ?_) (fun h' => Ev.some ?_)))))
  · have : 0 ≤ x ∧ x ≤ 11 := by simpa using h
    simp [card, this]
  · have h1 : ¬ (0 ≤ x ∧ x ≤ 11) := by simp at h; omega
    have h2 : -12 ≤ x ∧ x ≤ -1 := by simpa using h'
    rw [wrap_id (by omega) (by omega)]
    exact Ev.some (by unfold card; rw [if_neg h1, if_pos h2])
  · have h1 : ¬ (0 ≤ x ∧ x ≤ 11) := by simp at h; omega
    have h2 : ¬ (-12 ≤ x ∧ x ≤ -1) := by simp at h'; omega
    unfold card; rw [if_neg h1, if_neg h2]
theorem i_CardOf_ev (x : Int) (hx : In x) : Ev (fun k => i_CardOf k x) (card x) := by
  obtain ⟨a, b⟩ := hx
  refine Ev.step (fun k => i_CardOf_eq k x) ?_
  refine Ev.ite (fun h => ?_) (fun h => ?_)
  · have h1 : x < 0 := by simpa using h
    rw [wrap_id (by omega) (by omega)]
    have h2 : ¬ (0 ≤ x ∧ x ≤ 11) := by omega
    refine Ev.ite (fun h' => Ev.some ?_) (fun h' => Ev.some ?_)
    · have h3 : ¬ (-12 ≤ x ∧ x ≤ -1) := by simp at h'; omega
      unfold card; rw [if_neg h2, if_neg h3]
    · have h3 : (-12 ≤ x ∧ x ≤ -1) := by simp at h'; omega
      unfold card; rw [if_neg h2, if_pos h3]
  · have h1 : ¬ x < 0 := by simpa using h
    have h3 : ¬ (-12 ≤ x ∧ x ≤ -1) := by omega
    refine Ev.ite (fun h' => Ev.some ?_) (fun h' => Ev.some ?_)
    · have h2 : ¬ (0 ≤ x ∧ x ≤ 11) := by simp at h'; omega
      unfold card; rw [if_neg h2, if_neg h3]
    · have h2 : (0 ≤ x ∧ x ≤ 11) := by simp at h'; omega
      unfold card; rw [if_pos h2]
def pk : List Int → List Int → Bool
  | _, [] => true
  | done, x :: r => decide (0 ≤ card x) && (!(done.contains (card x)) && pk (done ++ [card x]) r)
def packetOk (p : List Int) : Bool := pk [] p
theorem pk_nodup : ∀ (r done : List Int), done.Nodup → pk done r = true → (done ++ r.map card).Nodup ∧ ∀ x ∈ r, 0 ≤ card x
  | [], done, hd, h => by simp [hd]
  | x :: r, done, hd, h => by
    unfold pk at h
    simp only [Bool.and_eq_true, decide_eq_true_eq, Bool.not_eq_true'] at h
    obtain ⟨h1, h3, h4⟩ := h
    have hx : card x ∉ done := by simpa using h3
    obtain ⟨k1, k2⟩ := pk_nodup r (done ++ [card x]) (by
      rw [List.nodup_append]
      exact ⟨hd, by simp, fun a ha b hb e => by simp at hb; subst hb; subst e; exact hx ha⟩) h4
    refine ⟨by simpa using k1, fun y hy => ?_⟩
    rcases List.mem_cons.1 hy with rfl | hy
    · exact h1
    · exact k2 y hy
theorem packetOk_fit {p : List Int} (h : packetOk p = true) : (p.map card).Nodup ∧ (∀ x ∈ p, 0 ≤ card x ∧ card x ≤ 11) ∧ p.length ≤ 12 := by
  obtain ⟨k1, k2⟩ := pk_nodup p [] (by simp) h
  have k1' : (p.map card).Nodup := by simpa using k1
  have k3 := nodup_len 12 (p.map card) k1' (fun x hx => by
    obtain ⟨y, hy, rfl⟩ := List.mem_map.1 hx
    have := k2 y hy
    have := card_lt y
    omega)
  exact ⟨k1', fun x hx => ⟨k2 x hx, (card_lt x).2⟩, by simpa using k3⟩
theorem s_PacketOk_l5_ev (xs : List Int) (hm : xs.length ≤ 12) : ∀ (r : List Int) (i : Nat) (done : List Int), xs.drop i = r → done.length = i → Ev (fun k => s_PacketOk_l5 k xs (xs.length : Int) (i : Int) done) (pk done r)
  | [], i, done, h, hd => by
    have a := at_nil h
    refine Ev.step (fun k => s_PacketOk_l5_eq k _ _ _ _) ?_
    simp only [a.g, cond_false]
    exact Ev.pure _
  | x :: r, i, done, h, hd => by
    have a := at_cons h (by rw [maxLen_eq]; omega)
    have hlt := a.lt
    refine Ev.step (fun k => s_PacketOk_l5_eq k _ _ _ _) ?_
    simp only [a.g, a.z, a.get, a.w, cond_true]
    unfold pk
    refine Ev.bind (s_CardOf_ev x) (Ev.ite (fun c => Ev.some ?_) (fun c => Ev.bind (l02Has_ev done (card x) (by rw [maxLen_eq]; omega)) (Ev.ite (fun c2 => Ev.some ?_) (fun c2 => Ev.yes (by rw [rowMax_eq]; simp; omega) ?_))))
    · have : ¬ 0 ≤ card x := by simpa using c
      simp [this]
    · simp only [c2, Bool.not_true, Bool.false_and, Bool.and_false]
    · have e1 : decide (0 ≤ card x) = true := by simpa using c
      rw [e1, c2]
      exact s_PacketOk_l5_ev xs hm r (i + 1) _ a.next (by simp [hd])
theorem s_PacketOk_ev (p : List Int) (hm : p.length ≤ maxLen) : Ev (fun k => s_PacketOk k p) (packetOk p) := by
  refine Ev.step (fun k => s_PacketOk_eq k p) (Ev.ite (fun h => Ev.some ?_) (fun h => ?_))
  · symm
    rw [Bool.eq_false_iff]
    intro hp
    have := (packetOk_fit hp).2.2
    simp at h; omega
  · exact s_PacketOk_l5_ev p (by simp at h; omega) p 0 [] rfl rfl
/-- The cards that were met. -/
def metL (done : List Int) : List Bool := (List.range 12).map fun (c : Nat) => done.contains (c : Int)
theorem metL_len (done : List Int) : (metL done).length = 12 := by simp [metL]
theorem metL_get (done : List Int) (c : Nat) (h : c < 12) (d : Bool) : (metL done).getD c d = done.contains (c : Int) := by
  simp [metL, List.getD, h]
theorem metL_set (done : List Int) (c : Nat) (h : c < 12) : (metL done).set c true = metL (done ++ [(c : Int)]) := by
  apply List.ext_getElem?
  intro x
  rw [List.getElem?_set]
  by_cases hx : x < 12
  · by_cases e : c = x
    · subst e; simp [metL, h]
    · have : ¬ x = c := fun h => e h.symm
      simp [metL, hx, e, this]; intro h; omega
  · rw [if_neg (by omega), List.getElem?_eq_none (by rw [metL_len]; omega), List.getElem?_eq_none (by rw [metL_len]; omega)]
theorem i_PacketOk_l3_ev (xs : List Int) (hm : xs.length ≤ maxLen) (hi : Ins xs) : ∀ (r : List Int) (i : Nat) (done : List Int), xs.drop i = r → Ev (fun k => i_PacketOk_l3 k xs (xs.length : Int) (i : Int) (metL done)) (pk done r)
  | [], i, done, h => by
    have a := at_nil h
    refine Ev.step (fun k => i_PacketOk_l3_eq k _ _ _ _) ?_
    simp only [a.g, cond_false]
    exact Ev.pure _
  | x :: r, i, done, h => by
    have a := at_cons h hm
    refine Ev.step (fun k => i_PacketOk_l3_eq k _ _ _ _) ?_
    simp only [a.g, a.z, a.get, a.w, cond_true]
    unfold pk
    refine Ev.bind (i_CardOf_ev x (hi x a.mem)) (Ev.ite (fun c => Ev.some ?_) (fun c => ?_))
    · have : ¬ 0 ≤ card x := by simpa using c
      simp [this]
    · have hc : 0 ≤ card x := by simpa using c
      have hc2 := (card_lt x).2
      have en : card x = ((card x).toNat : Int) := by omega
      have g1 : decide (0 ≤ card x) = true := by simp [hc]
      have g2 : decide (card x < ((metL done).length : Int)) = true := by rw [metL_len]; simp; omega
      have g3 : decide ((card x).toNat < (metL done).length) = true := by rw [metL_len]; simp; omega
      have g4 : (Nat.beq (metL done).length 12 && true) = true := by rw [metL_len]; rfl
      have g5 := metL_get done (card x).toNat (by omega) false
      rw [← en] at g5
      have g6 := metL_set done (card x).toNat (by omega)
      rw [← en] at g6
      simp only [g1, g2, g3, g4, g5, g6, cond_true, Bool.true_and]
      refine Ev.ite (fun c2 => Ev.some ?_) (fun c2 => ?_)
      · rw [c2]; rfl
      · rw [c2]
        exact i_PacketOk_l3_ev xs hm hi r (i + 1) _ a.next
theorem i_PacketOk_ev (p : List Int) (hm : p.length ≤ maxLen) (hi : Ins p) : Ev (fun k => i_PacketOk k p) (packetOk p) :=
  Ev.step (fun k => i_PacketOk_eq k p) (i_PacketOk_l3_ev p hm hi p 0 [] rfl)
def posF (c : Int) : Nat → List Int → Int
  | _, [] => -1
  | i, y :: r => if card y = c then (i : Int) else posF c (i + 1) r
/-- Where a card lies, or -1. -/
def pos (p : List Int) (c : Int) : Int := if c < 0 then -1 else posF c 0 p
theorem s_PositionOf_l2_neg (c : Int) (xs : List Int) (hm : xs.length ≤ maxLen) (hc : c < 0) : ∀ (r : List Int) (i : Nat), xs.drop i = r → Ev (fun k => s_PositionOf_l2 k c xs (xs.length : Int) (i : Int)) (-1)
  | [], i, h => by
    have a := at_nil h
    refine Ev.step (fun k => s_PositionOf_l2_eq k _ _ _ _) ?_
    simp only [a.g, cond_false]
    exact Ev.pure _
  | x :: r, i, h => by
    have a := at_cons h hm
    have ih := s_PositionOf_l2_neg c xs hm hc r (i + 1) a.next
    refine Ev.step (fun k => s_PositionOf_l2_eq k _ _ _ _) ?_
    simp only [a.g, a.z, a.get, a.w, cond_true]
    exact Ev.bind (s_CardOf_ev x) (Ev.ite (fun _ => Ev.no (by simp; omega) ih) (fun _ => ih))
theorem s_PositionOf_l2_ev (c : Int) (xs : List Int) (hm : xs.length ≤ maxLen) (hc : 0 ≤ c) : ∀ (r : List Int) (i : Nat), xs.drop i = r → Ev (fun k => s_PositionOf_l2 k c xs (xs.length : Int) (i : Int)) (posF c i r)
  | [], i, h => by
    have a := at_nil h
    refine Ev.step (fun k => s_PositionOf_l2_eq k _ _ _ _) ?_
    simp only [a.g, cond_false]
    exact Ev.pure _
  | x :: r, i, h => by
    have a := at_cons h hm
    have ih := s_PositionOf_l2_ev c xs hm hc r (i + 1) a.next
    refine Ev.step (fun k => s_PositionOf_l2_eq k _ _ _ _) ?_
    simp only [a.g, a.z, a.get, a.w, cond_true]
    unfold posF
    refine Ev.bind (s_CardOf_ev x) (Ev.ite (fun h => Ev.yes (by simp; omega) (Ev.some ?_)) (fun h => ih.to ?_))
    · have : card x = c := by simpa using h
      rw [if_pos this]
    · have : ¬ card x = c := by simpa using h
      rw [if_neg this]
theorem s_PositionOf_ev (p : List Int) (c : Int) (hm : p.length ≤ maxLen) : Ev (fun k => s_PositionOf k (p, c)) (pos p c) := by
  refine Ev.step (fun k => s_PositionOf_eq k p c) ?_
  unfold pos
  by_cases hc : c < 0
  · rw [if_pos hc]; exact s_PositionOf_l2_neg c p hm hc p 0 rfl
  · rw [if_neg hc]; exact s_PositionOf_l2_ev c p hm (by omega) p 0 rfl
theorem i_PosFunc_l2_ev (c : Int) (xs : List Int) (hm : xs.length ≤ maxLen) (hi : Ins xs) : ∀ (r : List Int) (i : Nat), xs.drop i = r → Ev (fun k => slices_IndexFunc_int_of_i_PositionOf_1_l2 k xs c (xs.length : Int) (i : Int)) (posF c i r)
  | [], i, h => by
    have a := at_nil h
    refine Ev.step (fun k => slices_IndexFunc_int_of_i_PositionOf_1_l2_eq k _ _ _ _) ?_
    simp only [a.g, cond_false]
    exact Ev.pure _
  | x :: r, i, h => by
    have a := at_cons h hm
    have ih := i_PosFunc_l2_ev c xs hm hi r (i + 1) a.next
    refine Ev.step (fun k => slices_IndexFunc_int_of_i_PositionOf_1_l2_eq k _ _ _ _) ?_
    simp only [a.g, a.z, a.get, a.w, cond_true]
    unfold posF
    have h1 : Ev (fun k => i_PositionOf_1 k (x, c)) (card x == c) := Ev.step (fun k => i_PositionOf_1_eq k x c) (Ev.bind (i_CardOf_ev x (hi x a.mem)) (Ev.pure _))
    refine Ev.bind h1 (Ev.ite (fun h => Ev.some ?_) (fun h => ih.to ?_))
    · have : card x = c := by simpa using h
      rw [if_pos this]
    · have : ¬ card x = c := by simpa using h
      rw [if_neg this]
theorem i_PositionOf_ev (p : List Int) (c : Int) (hm : p.length ≤ maxLen) (hi : Ins p) : Ev (fun k => i_PositionOf k (p, c)) (pos p c) := by
  refine Ev.step (fun k => i_PositionOf_eq k p c) ?_
  unfold pos
  refine Ev.ite (fun h => Ev.some ?_) (fun h => Ev.bind (Ev.step (fun k => slices_IndexFunc_int_of_i_PositionOf_1_eq k p c) (i_PosFunc_l2_ev c p hm hi p 0 rfl)) (Ev.some ?_))
  · have : c < 0 := by simpa using h
    rw [if_pos this]
  · have : ¬ c < 0 := by simpa using h
    rw [if_neg this]
def isArr (p q : List Int) : Bool := packetOk p && (packetOk q && (p.length == q.length && p.all fun x => decide (0 ≤ pos q (card x))))
theorem s_IsArrangement_l4_ev (q xs : List Int) (hm : xs.length ≤ maxLen) (hq : q.length ≤ maxLen) : ∀ (r : List Int) (i : Nat), xs.drop i = r → Ev (fun k => s_IsArrangement_l4 k q xs (xs.length : Int) (i : Int)) (r.all fun x => decide (0 ≤ pos q (card x)))
  | [], i, h => by
    have a := at_nil h
    refine Ev.step (fun k => s_IsArrangement_l4_eq k _ _ _ _) ?_
    simp only [a.g, cond_false]
    exact Ev.pure _
  | x :: r, i, h => by
    have a := at_cons h hm
    have ih := s_IsArrangement_l4_ev q xs hm hq r (i + 1) a.next
    refine Ev.step (fun k => s_IsArrangement_l4_eq k _ _ _ _) ?_
    simp only [a.g, a.z, a.get, a.w, cond_true]
    refine Ev.bind (s_CardOf_ev x) (Ev.bind (s_PositionOf_ev q (card x) hq) (Ev.ite (fun h => Ev.some ?_) (fun h => ih.to ?_)))
    · have : ¬ 0 ≤ pos q (card x) := by simpa using h
      simp [this]
    · have : 0 ≤ pos q (card x) := by simpa using h
      simp [this]
theorem s_IsArrangement_ev (p q : List Int) (hp : p.length ≤ maxLen) (hq : q.length ≤ maxLen) : Ev (fun k => s_IsArrangement k (p, q)) (isArr p q) := by
  unfold isArr
  refine Ev.step (fun k => s_IsArrangement_eq k p q) (Ev.bind (s_PacketOk_ev p hp) (Ev.ite (fun h => Ev.some ?_) (fun h => Ev.bind (s_PacketOk_ev q hq) (Ev.ite (fun h2 => Ev.some ?_) (fun h2 => Ev.ite (fun h3 => Ev.some ?_) (fun h3 => ?_))))))
  · have : packetOk p = false := by simpa using h
    rw [this]; rfl
  · have : packetOk q = false := by simpa using h2
    rw [this]; simp
  · have : (p.length == q.length) = false := by simp at h3 ⊢; omega
    rw [this]; simp
  · have e1 : packetOk p = true := by simpa using h
    have e2 : packetOk q = true := by simpa using h2
    have e3 : (p.length == q.length) = true := by simp at h3 ⊢; omega
    rw [e1, e2, e3]
    exact s_IsArrangement_l4_ev q p hp hq p 0 rfl
def noPos (q : List Int) : Nat → List Int → Int
  | _, [] => -1
  | i, x :: r => if pos q (card x) < 0 then (i : Int) else noPos q (i + 1) r
theorem noPos_all (q : List Int) : ∀ (r : List Int) (i : Nat), (!(decide (noPos q i r ≥ 0))) = r.all fun x => decide (0 ≤ pos q (card x))
  | [], i => by simp [noPos]
  | x :: r, i => by
    unfold noPos
    by_cases h : pos q (card x) < 0
    · rw [if_pos h]
      have : ¬ 0 ≤ pos q (card x) := by omega
      simp [this]
    · rw [if_neg h, noPos_all q r (i + 1)]
      have : 0 ≤ pos q (card x) := by omega
      simp [this]
theorem i_ArrFunc_l2_ev (q xs : List Int) (hm : xs.length ≤ maxLen) (hi : Ins xs) (hq : q.length ≤ maxLen) (hiq : Ins q) : ∀ (r : List Int) (i : Nat), xs.drop i = r → Ev (fun k => slices_IndexFunc_int_of_i_IsArrangement_1_l2 k xs q (xs.length : Int) (i : Int)) (noPos q i r)
  | [], i, h => by
    have a := at_nil h
    refine Ev.step (fun k => slices_IndexFunc_int_of_i_IsArrangement_1_l2_eq k _ _ _ _) ?_
    simp only [a.g, cond_false]
    exact Ev.pure _
  | x :: r, i, h => by
    have a := at_cons h hm
    have ih := i_ArrFunc_l2_ev q xs hm hi hq hiq r (i + 1) a.next
    refine Ev.step (fun k => slices_IndexFunc_int_of_i_IsArrangement_1_l2_eq k _ _ _ _) ?_
    simp only [a.g, a.z, a.get, a.w, cond_true]
    unfold noPos
    have h1 : Ev (fun k => i_IsArrangement_1 k (x, q)) (decide (pos q (card x) < 0)) := Ev.step (fun k => i_IsArrangement_1_eq k x q) (Ev.bind (i_CardOf_ev x (hi x a.mem)) (Ev.bind (i_PositionOf_ev q _ hq hiq) (Ev.pure _)))
    refine Ev.bind h1 (Ev.ite (fun h => Ev.some ?_) (fun h => ih.to ?_))
    · have : pos q (card x) < 0 := by simpa using h
      rw [if_pos this]
    · have : ¬ pos q (card x) < 0 := by simpa using h
      rw [if_neg this]
theorem i_IsArrangement_ev (p q : List Int) (hp : p.length ≤ maxLen) (hip : Ins p) (hq : q.length ≤ maxLen) (hiq : Ins q) : Ev (fun k => i_IsArrangement k (p, q)) (isArr p q) := by
  unfold isArr
  refine Ev.step (fun k => i_IsArrangement_eq k p q) (Ev.bind (i_PacketOk_ev p hp hip) (Ev.ite (fun h => Ev.some ?_) (fun h => Ev.bind (i_PacketOk_ev q hq hiq) (Ev.ite (fun h2 => Ev.some ?_) (fun h2 => Ev.ite (fun h3 => Ev.some ?_) (fun h3 => ?_))))))
  · have : packetOk p = false := by simpa using h
    rw [this]; rfl
  · have : packetOk q = false := by simpa using h2
    rw [this]; simp
  · have : (p.length == q.length) = false := by simp at h3 ⊢; omega
    rw [this]; simp
  · have e1 : packetOk p = true := by simpa using h
    have e2 : packetOk q = true := by simpa using h2
    have e3 : (p.length == q.length) = true := by simp at h3 ⊢; omega
    rw [e1, e2, e3, ← noPos_all q p 0]
    exact Ev.bind (Ev.step (fun k => slices_ContainsFunc_int_of_i_IsArrangement_1_eq k p q) (Ev.bind (Ev.step (fun k => slices_IndexFunc_int_of_i_IsArrangement_1_eq k p q) (i_ArrFunc_l2_ev q p hp hip hq hiq p 0 rfl)) (Ev.pure _))) (Ev.some (by simp))
end Qq
namespace Qq
open Go Go.Vt Pt
set_option linter.unusedVariables false
set_option linter.unusedSimpArgs false
end Qq
namespace Qq
open Go Go.Vt Pt
set_option linter.unusedVariables false
set_option linter.unusedSimpArgs false
end Qq
namespace Qq
open Go Go.Vt Pt
set_option linter.unusedVariables false
set_option linter.unusedSimpArgs false
end Qq
namespace Qq
open Go Go.Vt Pt
set_option linter.unusedVariables false
set_option linter.unusedSimpArgs false
/-- The lengths add up to something small. -/
theorem sz_add {a b : ByteArray} {m n : Nat} (ha : a.size ≤ m) (hb : b.size ≤ n) : (a ++ b).size ≤ m + n := by rw [ByteArray.size_append]; omega
theorem sz_ok {a b : ByteArray} {m n : Nat} (ha : a.size ≤ m) (hb : b.size ≤ n) (h : m + n ≤ 9223372036854775807) : decide (a.size + b.size ≤ 9223372036854775807) = true := decide_eq_true (by omega)
theorem In_card (x : Int) : In (card x) := by have := card_lt x; unfold In; omega
end Qq
namespace Qq
open Go Go.Vt Pt
set_option linter.unusedVariables false
set_option linter.unusedSimpArgs false
def szL : List (List Int) → Int → Int
  | [], n => n
  | x :: r, n => if n - (x.length : Int) < 0 then -1 else szL r (n - x.length)
def szSS (l : List (List Int)) (n : Int) : Int := if n - (l.length : Int) < 0 then -1 else szL l (n - l.length)
theorem szIntSS_l5_ev (l : List (List Int)) (hl : l.length ≤ maxLen) (hi : ∀ p ∈ l, p.length ≤ maxLen) : ∀ (r : List (List Int)) (i : Nat) (n : Int), l.drop i = r → 0 ≤ n → n ≤ 1048576 → Ev (fun k => w_szIntSS_l5 k l n (i : Int)) (szL r n)
  | [], i, n, h, h1, h2 => by
    have a := at_nil h
    refine Ev.step (fun k => w_szIntSS_l5_eq k _ _ _) ?_
    simp only [a.g, cond_false]
    exact Ev.pure _
  | x :: r, i, n, h, h1, h2 => by
    have a := at_cons h hl
    refine Ev.step (fun k => w_szIntSS_l5_eq k _ _ _) ?_
    simp only [a.g, a.z, a.get, a.w, cond_true]
    unfold szL
    refine Ev.bind (szIntS_ev x n (hi x a.mem) h1 h2) ?_
    by_cases c : n - (x.length : Int) < 0
    · rw [if_pos c, if_pos c]; exact Ev.yes rfl (Ev.pure _)
    · rw [if_neg c, if_neg c]
      exact Ev.no (by simpa using c) (szIntSS_l5_ev l hl hi r (i + 1) _ a.next (by omega) (by omega))
theorem szIntSS_ev (l : List (List Int)) (n : Int) (hl : l.length ≤ maxLen) (hi : ∀ p ∈ l, p.length ≤ maxLen) (hn : 0 ≤ n) (hn2 : n ≤ 1048576) : Ev (fun k => w_szIntSS k (l, n)) (szSS l n) := by
  have hl' := hl
  rw [maxLen_eq] at hl'
  refine Ev.step (fun k => w_szIntSS_eq k l n) ?_
  rw [wrap_id (by omega) (by omega)]
  unfold szSS
  by_cases c : n - (l.length : Int) < 0
  · rw [if_pos c]; exact Ev.yes (by simpa using c) (Ev.pure _)
  · rw [if_neg c]; exact Ev.no (by simpa using c) (szIntSS_l5_ev l hl hi l 0 _ rfl (by omega) (by omega))
theorem szL_fit : ∀ (l : List (List Int)) (n : Int), 0 ≤ n → ¬ szL l n < 0 → szL l n ≤ n ∧ ∀ p ∈ l, (p.length : Int) ≤ n
  | [], n, h0, h => by simp [szL]
  | x :: r, n, h0, h => by
    unfold szL at *
    by_cases c : n - (x.length : Int) < 0
    · rw [if_pos c] at h; exact absurd (by decide) h
    · rw [if_neg c] at h ⊢
      obtain ⟨h1, h2⟩ := szL_fit r _ (by omega) h
      refine ⟨by omega, fun p hp => ?_⟩
      rcases List.mem_cons.1 hp with rfl | hp
      · omega
      · have := h2 p hp; omega
theorem szSS_fit {l : List (List Int)} {n : Int} (hn : n ≤ 1048576) (h0 : 0 ≤ n) (h : ¬ szSS l n < 0) : l.length ≤ 1048576 ∧ (∀ p ∈ l, p.length ≤ 1048576) ∧ 0 ≤ szSS l n ∧ szSS l n ≤ n := by
  unfold szSS at *
  by_cases c : n - (l.length : Int) < 0
  · rw [if_pos c] at h; exact absurd (by decide) h
  · rw [if_neg c] at h ⊢
    obtain ⟨h1, h2⟩ := szL_fit l _ (by omega) h
    exact ⟨by omega, fun p hp => by have := h2 p hp; omega, by omega, by omega⟩
theorem toIntSS_l3_ev (xs : List (List Int)) (hm : xs.length ≤ maxLen) (hi : ∀ p ∈ xs, p.length ≤ 1048576) : ∀ (r : List (List Int)) (i : Nat) (ys : List (List Int)), xs.drop i = r → ys.length = xs.length → ys.take i = xs.take i → Ev (fun k => w_toIntSS_l3 k xs (i : Int) ys) xs
  | [], i, ys, h, hl, ht => by
    have a := at_nil h
    refine Ev.step (fun k => w_toIntSS_l3_eq k xs i ys) ?_
    simp only [a.g, cond_false]
    have e : ys = xs := by
      have := a.ge
      rwa [List.take_of_length_le (by omega), List.take_of_length_le (by omega)] at ht
    exact Ev.some e
  | x :: r, i, ys, h, hl, ht => by
    have a := at_cons h hm
    have b1 : decide ((i : Int) < (ys.length : Int)) = true := by rw [hl]; exact a.g
    have b2 : decide ((i : Int).toNat < ys.length) = true := by rw [hl]; exact a.n
    refine Ev.step (fun k => w_toIntSS_l3_eq k xs i ys) ?_
    simp only [a.g, a.z, a.get, cond_true]
    refine Ev.bind (toIntS_ev x (hi x a.mem)) ?_
    simp only [b1, b2, a.w, cond_true]
    have hs := set_get (n := 0) (d := []) a.lt hl ht
    rw [a.gt] at hs
    exact toIntSS_l3_ev xs hm hi r (i + 1) _ a.next (by simp [hl]) (by simpa using hs)
theorem toIntSS_ev (xs : List (List Int)) (hm : xs.length ≤ 1048576) (hi : ∀ p ∈ xs, p.length ≤ 1048576) : Ev (fun k => w_toIntSS k xs) xs := by
  refine Ev.step (fun k => w_toIntSS_eq k xs) (Ev.yes (by simp) (Ev.yes (by rw [rowMax_eq]; simp; omega) (Ev.yes (by simp) ?_)))
  exact toIntSS_l3_ev xs (by rw [maxLen_eq]; omega) hi xs 0 _ rfl (by simp) (by simp)
theorem eqIntSS_l4_ev (xs ys : List (List Int)) (hx : xs.length ≤ maxLen) (hy : ys.length ≤ maxLen) (ix : ∀ p ∈ xs, p.length ≤ maxLen) (iy : ∀ p ∈ ys, p.length ≤ maxLen) : ∀ (r s : List (List Int)) (i : Nat), xs.drop i = r → ys.drop i = s → s.length = r.length → Ev (fun k => w_eqIntSS_l4 k xs ys (i : Int)) (r == s)
  | [], [], i, h1, h2, hl => by
    have a := at_nil h1
    refine Ev.step (fun k => w_eqIntSS_l4_eq k xs ys i) ?_
    simp only [a.g, cond_false]
    exact Ev.pure _
  | x :: r, y :: s, i, h1, h2, hl => by
    have a := at_cons h1 hx
    have b := at_cons h2 hy
    refine Ev.step (fun k => w_eqIntSS_l4_eq k xs ys i) ?_
    simp only [a.g, a.z, b.g, a.get, b.get, a.w, cond_true]
    have ih := eqIntSS_l4_ev xs ys hx hy ix iy r s (i + 1) a.next b.next (by simpa using hl)
    refine Ev.bind (eqIntS_ev x y (ix x a.mem) (iy y b.mem)) (Ev.ite (fun h => Ev.some ?_) (fun h => ih.to ?_))
    · have : ¬ x = y := by simpa using h
      simp [this]
    · have : x = y := by simpa using h
      simp [this]
  | [], _ :: _, _, _, _, hl => by simp at hl
  | _ :: _, [], _, _, _, hl => by simp at hl
theorem eqIntSS_ev (xs ys : List (List Int)) (hx : xs.length ≤ maxLen) (hy : ys.length ≤ maxLen) (ix : ∀ p ∈ xs, p.length ≤ maxLen) (iy : ∀ p ∈ ys, p.length ≤ maxLen) : Ev (fun k => w_eqIntSS k (xs, ys)) (xs == ys) := by
  refine Ev.step (fun k => w_eqIntSS_eq k xs ys) (Ev.ite (fun h => Ev.some ?_) (fun h => eqIntSS_l4_ev xs ys hx hy ix iy xs ys 0 rfl rfl ?_))
  · have h' : ¬ xs.length = ys.length := by simp at h; omega
    have : ¬ xs = ys := fun e => h' (by rw [e])
    simp [this]
  · simp at h; omega
end Qq
namespace Qq
open Go Go.Vt Pt
set_option linter.unusedVariables false
set_option linter.unusedSimpArgs false
def lessL : List Int → List Int → Bool
  | [], b => decide (0 < b.length)
  | _ :: _, [] => false
  | x :: a, y :: b => if x = y then lessL a b else decide (x < y)
def cmpL : List Int → List Int → Int
  | [], b => if 0 < b.length then -1 else 0
  | _ :: _, [] => 1
  | x :: a, y :: b => if x = y then cmpL a b else if x < y then -1 else 1
theorem cmpL_less : ∀ a b, decide (cmpL a b ≥ 0) = !lessL a b
  | [], [] => rfl
  | [], _ :: _ => by simp [cmpL, lessL]
  | _ :: _, [] => rfl
  | x :: a, y :: b => by
    unfold cmpL lessL
    by_cases h : x = y
    · rw [if_pos h, if_pos h, cmpL_less a b]
    · rw [if_neg h, if_neg h]
      by_cases h2 : x < y
      · simp [h2]
      · simp [h2]
theorem drop_len {α : Type} {xs r : List α} {i : Nat} (h : xs.drop i = r) : xs.length - i = r.length := by rw [← h, List.length_drop]
theorem s_l05Less_l2_ev (xs ys : List Int) (hm : xs.length ≤ maxLen) (hy : ys.length ≤ maxLen) : ∀ (r s : List Int) (i : Nat), i ≤ xs.length → xs.drop i = r → ys.drop i = s → Ev (fun k => s_l05Less_l2 k xs ys xs (xs.length : Int) (i : Int)) (lessL r s)
  | [], s, i, hi, h, h2 => by
    have a := at_nil h
    have := a.ge
    have hl := drop_len h2
    refine Ev.step (fun k => s_l05Less_l2_eq k _ _ _ _ _) ?_
    simp only [a.g, cond_false]
    refine Ev.some ?_
    unfold lessL
    rw [Bool.eq_iff_iff]; simp; omega
  | x :: r, [], i, hi, h, h2 => by
    have a := at_cons h hm
    have b := at_nil h2
    refine Ev.step (fun k => s_l05Less_l2_eq k _ _ _ _ _) ?_
    simp only [a.g, a.z, cond_true]
    refine Ev.yes (by have := b.ge; simp; omega) (Ev.some rfl)
  | x :: r, y :: s, i, hi, h, h2 => by
    have a := at_cons h hm
    have b := at_cons h2 hy
    have hlt := a.lt
    have ih := s_l05Less_l2_ev xs ys hm hy r s (i + 1) (by omega) a.next b.next
    refine Ev.step (fun k => s_l05Less_l2_eq k _ _ _ _ _) ?_
    simp only [a.g, a.z, a.get, a.w, cond_true]
    refine Ev.no (by have := b.lt; simp; omega) ?_
    simp only [b.g, b.get, cond_true]
    unfold lessL
    refine Ev.ite (fun c => Ev.some ?_) (fun c => ih.to ?_)
    · have : ¬ x = y := by simpa using c
      rw [if_neg this]
    · have : x = y := by simpa using c
      rw [if_pos this]
theorem s_l05Less_ev (xs ys : List Int) (hm : xs.length ≤ maxLen) (hy : ys.length ≤ maxLen) : Ev (fun k => s_l05Less k (xs, ys)) (lessL xs ys) :=
  Ev.step (fun k => s_l05Less_eq k xs ys) (s_l05Less_l2_ev xs ys hm hy xs ys 0 (by omega) rfl rfl)
theorem cmp_int_ev (x y : Int) : Ev (fun k => cmp_Compare_int k (x, y)) (if x < y then -1 else if x > y then 1 else 0) := by
  have hn : ∀ z : Int, Ev (fun k => cmp_isNaN_int k z) false := fun z => Ev.step (fun k => cmp_isNaN_int_eq k z) (Ev.some (by simp))
  refine Ev.step (fun k => cmp_Compare_int_eq k x y) (Ev.bind (hn x) (Ev.bind (hn y) (Ev.no rfl (Ev.no rfl (Ev.ite (fun c => Ev.some ?_) (fun c => Ev.ite (fun c2 => Ev.some ?_) (fun c2 => Ev.some ?_)))))))
  · have : x < y := by simpa using c
    rw [if_pos this]
  · have h1 : ¬ x < y := by simpa using c
    have h2 : x > y := by simpa using c2
    rw [if_neg h1, if_pos h2]
  · have h1 : ¬ x < y := by simpa using c
    have h2 : ¬ x > y := by simpa using c2
    rw [if_neg h1, if_neg h2]
theorem Compare_l2_ev (xs ys : List Int) (hm : xs.length ≤ maxLen) (hy : ys.length ≤ maxLen) : ∀ (r s : List Int) (i : Nat), i ≤ xs.length → xs.drop i = r → ys.drop i = s → Ev (fun k => slices_Compare_int_l2 k xs ys xs (xs.length : Int) (i : Int)) (cmpL r s)
  | [], s, i, hi, h, h2 => by
    have a := at_nil h
    have := a.ge
    have hl := drop_len h2
    refine Ev.step (fun k => slices_Compare_int_l2_eq k _ _ _ _ _) ?_
    simp only [a.g, cond_false]
    unfold cmpL
    refine Ev.ite (fun c => Ev.some ?_) (fun c => Ev.some ?_)
    · rw [if_pos (by simp at c; omega)]
    · rw [if_neg (by simp at c; omega)]
  | x :: r, [], i, hi, h, h2 => by
    have a := at_cons h hm
    have b := at_nil h2
    refine Ev.step (fun k => slices_Compare_int_l2_eq k _ _ _ _ _) ?_
    simp only [a.g, a.z, cond_true]
    refine Ev.yes (by have := b.ge; simp; omega) (Ev.some rfl)
  | x :: r, y :: s, i, hi, h, h2 => by
    have a := at_cons h hm
    have b := at_cons h2 hy
    have hlt := a.lt
    have ih := Compare_l2_ev xs ys hm hy r s (i + 1) (by omega) a.next b.next
    refine Ev.step (fun k => slices_Compare_int_l2_eq k _ _ _ _ _) ?_
    simp only [a.g, a.z, a.get, a.w, cond_true]
    refine Ev.no (by have := b.lt; simp; omega) ?_
    simp only [b.g, b.get, cond_true]
    unfold cmpL
    refine Ev.bind (cmp_int_ev x y) (Ev.ite (fun c => Ev.some ?_) (fun c => ih.to ?_))
    · by_cases h3 : x < y
      · rw [if_pos h3, if_neg (by omega), if_pos h3]
      · by_cases h4 : x > y
        · rw [if_neg h3, if_pos h4, if_neg (by omega), if_neg h3]
        · rw [if_neg h3, if_neg h4] at c; simp at c
    · have : x = y := by
        by_cases h3 : x < y
        · rw [if_pos h3] at c; simp at c
        · by_cases h4 : x > y
          · rw [if_neg h3, if_pos h4] at c; simp at c
          · omega
      rw [if_pos this]
theorem Compare_ev (xs ys : List Int) (hm : xs.length ≤ maxLen) (hy : ys.length ≤ maxLen) : Ev (fun k => slices_Compare_int k (xs, ys)) (cmpL xs ys) :=
  Ev.step (fun k => slices_Compare_int_eq k xs ys) (Compare_l2_ev xs ys hm hy xs ys 0 (by omega) rfl rfl)
abbrev Packs : Type := List (List Int)
/-- Numbers and lengths are such as a machine bears. -/
def FitS (l : Packs) : Prop := l.length ≤ maxLen ∧ ∀ p ∈ l, p.length ≤ maxLen ∧ Ins p
theorem FitS.of {l : Packs} (h : Fits (.slice (.slice (.int .i64))) l) : FitS l :=
  ⟨h.1, fun p hp => ⟨(h.2 p hp).1, fun x hx => In.of_fits ((h.2 p hp).2 x hx)⟩⟩
def kF (p0 : List Int) : Option (List Int) → Packs → Bool
  | _, [] => true
  | pv, q :: r => isArr p0 q && ((match pv with | none => true | some p => lessL p q) && kF p0 (some q) r)
def knowOk (l : Packs) : Bool := match l with
  | [] => false
  | p0 :: _ => decide (l.length ≤ 3000) && (!(p0.length == 0) && kF p0 none l)
def prev (l : Packs) (i : Nat) : Option (List Int) := if i = 0 then none else some (l.getD (i - 1) [])
theorem prev_next {l : Packs} {i : Nat} {q : List Int} {r : Packs} (a : AtCons l i q r) : prev l (i + 1) = some q := by
  unfold prev
  rw [if_neg (by omega), show i + 1 - 1 = i by omega, a.gt]
theorem prev_get {l : Packs} {i : Nat} (h : 0 < i) (hi : (i : Int) ≤ 9223372036854775807) : prev l i = some (l.getD (IntKind.i64.wrap ((i : Int) - 1)).toNat []) := by
  unfold prev
  rw [if_neg (by omega), wrap_id (by omega) (by omega), show ((i : Int) - 1).toNat = i - 1 by omega]
theorem s_KnowOk_l4_ev (l : Packs) (p0 : List Int) (hf : FitS l) (h0 : l.getD 0 [] = p0) (hl : 0 < l.length) : ∀ (r : Packs) (i : Nat), l.drop i = r → Ev (fun k => s_KnowOk_l4 k l l (l.length : Int) (i : Int)) (kF p0 (prev l i) r)
  | [], i, h => by
    have a := at_nil h
    refine Ev.step (fun k => s_KnowOk_l4_eq k _ _ _ _) ?_
    simp only [a.g, cond_false]
    exact Ev.pure _
  | q :: r, i, h => by
    have a := at_cons h hf.1
    have hlt := a.lt
    have hm1 := hf.1
    rw [maxLen_eq] at hm1
    have ih := s_KnowOk_l4_ev l p0 hf h0 hl r (i + 1) a.next
    rw [prev_next a] at ih
    have hp0 : p0 ∈ l := by rw [← h0]; simp [List.getD, hl]
    refine Ev.step (fun k => s_KnowOk_l4_eq k _ _ _ _) ?_
    simp only [a.g, a.z, a.get, a.w, h0, cond_true]
    refine Ev.yes (by simp; omega) ?_
    unfold kF
    refine Ev.bind (s_IsArrangement_ev p0 q (hf.2 p0 hp0).1 (hf.2 q a.mem).1) (Ev.ite (fun c => Ev.some ?_) (fun c => Ev.ite (fun c2 => ?_) (fun c2 => ih.to ?_)))
    · have : isArr p0 q = false := by simpa using c
      rw [this]; rfl
    · have c1 : isArr p0 q = true := by simpa using c
      have hi : 0 < i := by simp at c2; omega
      rw [prev_get hi (by omega)]
      have w1 : IntKind.i64.wrap ((i : Int) - 1) = ((i - 1 : Nat) : Int) := by rw [wrap_id (by omega) (by omega)]; omega
      rw [w1]
      refine Ev.yes (by simp) (Ev.yes (by simp; omega) ?_)
      rw [Int.toNat_natCast]
      have hmem : l.getD (i - 1) [] ∈ l := by
        have : i - 1 < l.length := by omega
        simp [List.getD, this]
      refine Ev.bind (s_l05Less_ev _ q (hf.2 _ hmem).1 (hf.2 q a.mem).1) (Ev.ite (fun c3 => Ev.some ?_) (fun c3 => ih.to ?_))
      · have : lessL (l.getD (i - 1) []) q = false := by simpa using c3
        simp only [this, Bool.false_and, Bool.and_false]
      · have : lessL (l.getD (i - 1) []) q = true := by simpa using c3
        simp only [c1, this, Bool.true_and]
    · have c1 : isArr p0 q = true := by simpa using c
      have hi : i = 0 := by simp at c2; omega
      subst hi
      simp [prev, c1]
theorem i_KnowOk_l4_ev (l : Packs) (p0 : List Int) (hf : FitS l) (h0 : l.getD 0 [] = p0) (hl : 0 < l.length) : ∀ (r : Packs) (i : Nat), l.drop i = r → Ev (fun k => i_KnowOk_l4 k l l (l.length : Int) (i : Int)) (kF p0 (prev l i) r)
  | [], i, h => by
    have a := at_nil h
    refine Ev.step (fun k => i_KnowOk_l4_eq k _ _ _ _) ?_
    simp only [a.g, cond_false]
    exact Ev.pure _
  | q :: r, i, h => by
    have a := at_cons h hf.1
    have hlt := a.lt
    have hm1 := hf.1
    rw [maxLen_eq] at hm1
    have ih := i_KnowOk_l4_ev l p0 hf h0 hl r (i + 1) a.next
    rw [prev_next a] at ih
    have hp0 : p0 ∈ l := by rw [← h0]; simp [List.getD, hl]
    refine Ev.step (fun k => i_KnowOk_l4_eq k _ _ _ _) ?_
    simp only [a.g, a.z, a.get, a.w, h0, cond_true]
    refine Ev.yes (by simp; omega) ?_
    unfold kF
    refine Ev.bind (i_IsArrangement_ev p0 q (hf.2 p0 hp0).1 (hf.2 p0 hp0).2 (hf.2 q a.mem).1 (hf.2 q a.mem).2) (Ev.ite (fun c => Ev.some ?_) (fun c => Ev.ite (fun c2 => ?_) (fun c2 => ih.to ?_)))
    · have : isArr p0 q = false := by simpa using c
      rw [this]; rfl
    · have c1 : isArr p0 q = true := by simpa using c
      have hi : 0 < i := by simp at c2; omega
      rw [prev_get hi (by omega)]
      have w1 : IntKind.i64.wrap ((i : Int) - 1) = ((i - 1 : Nat) : Int) := by rw [wrap_id (by omega) (by omega)]; omega
      rw [w1]
      refine Ev.yes (by simp) (Ev.yes (by simp; omega) ?_)
      rw [Int.toNat_natCast]
      have hmem : l.getD (i - 1) [] ∈ l := by
        have : i - 1 < l.length := by omega
        simp [List.getD, this]
      refine Ev.bind (Compare_ev _ q (hf.2 _ hmem).1 (hf.2 q a.mem).1) (Ev.ite (fun c3 => Ev.some ?_) (fun c3 => ih.to ?_))
      · rw [cmpL_less] at c3
        have : lessL (l.getD (i - 1) []) q = false := by simpa using c3
        simp only [this, Bool.false_and, Bool.and_false]
      · rw [cmpL_less] at c3
        have : lessL (l.getD (i - 1) []) q = true := by simpa using c3
        simp only [c1, this, Bool.true_and]
    · have c1 : isArr p0 q = true := by simpa using c
      have hi : i = 0 := by simp at c2; omega
      subst hi
      simp [prev, c1]
theorem s_KnowOk_ev (l : Packs) (hf : FitS l) : Ev (fun k => s_KnowOk k l) (knowOk l) := by
  refine Ev.step (fun k => s_KnowOk_eq k l) (Ev.bind (l01In_ev _ _ _) ?_)
  cases l with
  | nil => exact Ev.yes (by simp) (Ev.some rfl)
  | cons p0 r =>
    unfold knowOk
    refine Ev.ite (fun c => Ev.some ?_) (fun c => Ev.yes (by simp) (Ev.ite (fun c2 => Ev.some ?_) (fun c2 => ?_)))
    · have : ¬ (p0 :: r).length ≤ 3000 := by simp at c ⊢; omega
      simp only [this, decide_false, Bool.false_and]
    · have : (p0.length == 0) = true := by simpa using c2
      simp [this]
    · have e1 : (p0 :: r).length ≤ 3000 := by simp at c ⊢; omega
      have e2 : (p0.length == 0) = false := by simpa using c2
      simp only [e1, e2, decide_true, Bool.true_and, Bool.not_false]
      exact s_KnowOk_l4_ev (p0 :: r) p0 hf rfl (by simp) (p0 :: r) 0 rfl
theorem i_KnowOk_ev (l : Packs) (hf : FitS l) : Ev (fun k => i_KnowOk k l) (knowOk l) := by
  refine Ev.step (fun k => i_KnowOk_eq k l) ?_
  cases l with
  | nil => exact Ev.yes (by simp) (Ev.some rfl)
  | cons p0 r =>
    unfold knowOk
    refine Ev.no (by simp; omega) (Ev.ite (fun c => Ev.some ?_) (fun c => Ev.yes (by simp) (Ev.ite (fun c2 => Ev.some ?_) (fun c2 => ?_))))
    · have : ¬ (p0 :: r).length ≤ 3000 := by simp at c ⊢; omega
      simp only [this, decide_false, Bool.false_and]
    · have : (p0.length == 0) = true := by simpa using c2
      simp [this]
    · have e1 : (p0 :: r).length ≤ 3000 := by simp at c ⊢; omega
      have e2 : (p0.length == 0) = false := by simpa using c2
      simp only [e1, e2, decide_true, Bool.true_and, Bool.not_false]
      exact i_KnowOk_l4_ev (p0 :: r) p0 hf rfl (by simp) (p0 :: r) 0 rfl
theorem kF_arr (p0 : List Int) : ∀ (r : Packs) (pv : Option (List Int)), kF p0 pv r = true → ∀ q ∈ r, isArr p0 q = true
  | [], _, _, q, h => by cases h
  | p :: r, pv, h, q, hq => by
    unfold kF at h
    simp only [Bool.and_eq_true] at h
    rcases List.mem_cons.1 hq with rfl | hq
    · exact h.1
    · exact kF_arr p0 r _ h.2.2 q hq
theorem isArr_fit {p q : List Int} (h : isArr p q = true) : packetOk p = true ∧ packetOk q = true ∧ p.length = q.length ∧ ∀ x ∈ p, 0 ≤ pos q (card x) := by
  unfold isArr at h
  simp only [Bool.and_eq_true, beq_iff_eq, List.all_eq_true, decide_eq_true_eq] at h
  exact ⟨h.1, h.2.1, h.2.2.1, h.2.2.2⟩
/-- All have as many cards as the first, at most 12 and at least one. -/
theorem know_fit {p0 : List Int} {r : Packs} (h : knowOk (p0 :: r) = true) : (p0 :: r).length ≤ 3000 ∧ 1 ≤ p0.length ∧ p0.length ≤ 12 ∧ ∀ q ∈ p0 :: r, packetOk q = true ∧ q.length = p0.length := by
  unfold knowOk at h
  simp only [Bool.and_eq_true, decide_eq_true_eq] at h
  have hk := kF_arr p0 _ _ h.2.2
  have h1 := isArr_fit (hk p0 (by simp))
  have h2 := (packetOk_fit h1.1).2.2
  refine ⟨h.1, ?_, h2, fun q hq => ?_⟩
  · have := h.2.1
    simp at this
    exact List.length_pos_iff.2 this
  · have := isArr_fit (hk q hq)
    exact ⟨this.2.1, this.2.2.1.symm⟩
end Qq
namespace Qq
open Go Go.Vt Pt
set_option linter.unusedVariables false
set_option linter.unusedSimpArgs false
/-- The card at a place, if it is the same in all packets. -/
def knownAt (l : Packs) (at_ : Int) : Int := match l with
  | [] => -1
  | p0 :: _ => if knowOk l && (decide (0 ≤ at_) && decide (at_ < p0.length)) then (if l.all (fun p => card (p.getD at_.toNat 0) == card (p0.getD at_.toNat 0)) then card (p0.getD at_.toNat 0) else -1) else -1
theorem getD_in {p : List Int} (h : Ins p) (i : Nat) : In (p.getD i 0) := by
  rw [List.getD]
  cases hi : p[i]? with
  | none => exact ⟨by decide, by decide⟩
  | some x => exact h x (List.mem_of_getElem? hi)
theorem s_KnownAt_l4_ev (p0 : List Int) (r0 : Packs) (j : Nat) (hf : FitS (p0 :: r0)) (hk : knowOk (p0 :: r0) = true) (hj : j < p0.length) : ∀ (r : Packs) (i : Nat), (p0 :: r0).drop i = r → Ev (fun k => s_KnownAt_l4 k (p0 :: r0) (j : Int) (p0 :: r0) ((p0 :: r0).length : Int) (i : Int)) (if r.all (fun p => card (p.getD j 0) == card (p0.getD j 0)) then card (p0.getD j 0) else -1)
  | [], i, h => by
    have a := at_nil h
    refine Ev.step (fun k => s_KnownAt_l4_eq k _ _ _ _ _) ?_
    simp only [a.g, cond_false]
    refine Ev.yes (by simp) (Ev.yes (by simp) (Ev.yes (by simp; omega) ?_))
    exact Ev.bind (s_CardOf_ev _) (Ev.pure _)
  | q :: r, i, h => by
    have a := at_cons h hf.1
    have ih := s_KnownAt_l4_ev p0 r0 j hf hk hj r (i + 1) a.next
    have hq := (know_fit hk).2.2.2 q a.mem
    refine Ev.step (fun k => s_KnownAt_l4_eq k _ _ _ _ _) ?_
    simp only [a.g, a.z, a.get, a.w, cond_true]
    refine Ev.yes (by simp) (Ev.yes (by simp; omega) (Ev.bind (s_CardOf_ev _) (Ev.yes (by simp) (Ev.yes (by simp) (Ev.yes (by simp; omega) (Ev.bind (s_CardOf_ev _) ?_))))))
    have e0 : List.getD (p0 :: r0) 0 [] = p0 := rfl
    rw [e0, Int.toNat_natCast]
    refine Ev.ite (fun c => Ev.some ?_) (fun c => ih.to ?_)
    · have : (card (q.getD j 0) == card (p0.getD j 0)) = false := by simpa using c
      rw [List.all_cons, this, Bool.false_and]; rfl
    · have : (card (q.getD j 0) == card (p0.getD j 0)) = true := by simpa using c
      rw [List.all_cons, this, Bool.true_and]
theorem s_KnownAt_ev (l : Packs) (j : Int) (hf : FitS l) : Ev (fun k => s_KnownAt k (l, j)) (knownAt l j) := by
  refine Ev.step (fun k => s_KnownAt_eq k l j) (Ev.bind (s_KnowOk_ev l hf) ?_)
  cases l with
  | nil => exact Ev.yes rfl (Ev.some rfl)
  | cons p0 r =>
    unfold knownAt
    dsimp only
    refine Ev.ite (fun c => Ev.some ?_) (fun c => Ev.yes (by simp) ?_)
    · have : knowOk (p0 :: r) = false := by simpa using c
      simp [this]
    · have hk : knowOk (p0 :: r) = true := by simpa using c
      have kf := know_fit hk
      have e0 : List.getD (p0 :: r) 0 [] = p0 := rfl
      rw [e0, wrap_id (by omega) (by omega)]
      refine Ev.bind (l01In_ev _ _ _) (Ev.ite (fun c2 => Ev.some ?_) (fun c2 => ?_))
      · have : (decide (0 ≤ j) && decide (j < (p0.length : Int))) = false := by simp at c2 ⊢; omega
        simp [this]
      · have h1 : 0 ≤ j ∧ j < (p0.length : Int) := by simp at c2; omega
        have ej : j = ((j.toNat : Nat) : Int) := by omega
        have e2 : (knowOk (p0 :: r) && (decide (0 ≤ j) && decide (j < (p0.length : Int)))) = true := by simp [hk, h1]
        rw [if_pos e2]
        have := s_KnownAt_l4_ev p0 r j.toNat hf hk (by omega) (p0 :: r) 0 rfl
        rw [← ej] at this
        exact this
/-- What the program asks of one packet. -/
def atB (p : List Int) (j : Int) : Int := if 0 ≤ j ∧ j < (p.length : Int) then card (p.getD j.toNat 0) else -1
theorem i_KnownAt_1_ev (p : List Int) (j : Int) (hi : Ins p) : Ev (fun k => i_KnownAt_1 k (p, j)) (atB p j) := by
  unfold atB
  refine Ev.step (fun k => i_KnownAt_1_eq k p j) (Ev.ite (fun c => Ev.some ?_) (fun c => Ev.ite (fun c2 => Ev.some ?_) (fun c2 => Ev.yes (by simp at c ⊢; omega) (Ev.yes (by simp at c2 ⊢; omega) (Ev.bind (i_CardOf_ev _ (getD_in hi _)) (Ev.some ?_))))))
  · rw [if_neg (by simp at c; omega)]
  · rw [if_neg (by simp at c2; omega)]
  · rw [if_pos (by simp at c c2; omega)]
theorem i_common_l5_ev (l : Packs) (j v : Int) (hf : FitS l) : ∀ (r : Packs) (i : Nat), l.drop i = r → Ev (fun k => i_common_of_i_KnownAt_1_l5 k j v l (l.length : Int) (i : Int)) (if r.all (fun p => atB p j == v) then v else -1)
  | [], i, h => by
    have a := at_nil h
    refine Ev.step (fun k => i_common_of_i_KnownAt_1_l5_eq k _ _ _ _ _) ?_
    simp only [a.g, cond_false]
    exact Ev.pure _
  | q :: r, i, h => by
    have a := at_cons h hf.1
    have ih := i_common_l5_ev l j v hf r (i + 1) a.next
    refine Ev.step (fun k => i_common_of_i_KnownAt_1_l5_eq k _ _ _ _ _) ?_
    simp only [a.g, a.z, a.get, a.w, cond_true]
    refine Ev.bind (i_KnownAt_1_ev q j (hf.2 q a.mem).2) (Ev.ite (fun c => Ev.some ?_) (fun c => ih.to ?_))
    · have : (atB q j == v) = false := by simpa using c
      rw [List.all_cons, this, Bool.false_and]; rfl
    · have : (atB q j == v) = true := by simpa using c
      rw [List.all_cons, this, Bool.true_and]
theorem i_KnownAt_ev (l : Packs) (j : Int) (hf : FitS l) : Ev (fun k => i_KnownAt k (l, j)) (knownAt l j) := by
  refine Ev.step (fun k => i_KnownAt_eq k l j) (Ev.bind (x := knownAt l j) (Ev.step (fun k => i_common_of_i_KnownAt_1_eq k l j) (Ev.bind (i_KnowOk_ev l hf) ?_)) (Ev.pure _))
  cases l with
  | nil => exact Ev.yes rfl (Ev.some rfl)
  | cons p0 r =>
    unfold knownAt
    dsimp only
    refine Ev.ite (fun c => Ev.some ?_) (fun c => Ev.yes (by simp) ?_)
    · have : knowOk (p0 :: r) = false := by simpa using c
      simp [this]
    · have hk : knowOk (p0 :: r) = true := by simpa using c
      have kf := know_fit hk
      have e0 : List.getD (p0 :: r) 0 [] = p0 := rfl
      rw [e0]
      refine Ev.bind (i_KnownAt_1_ev p0 j (hf.2 p0 (by simp)).2) ((i_common_l5_ev (p0 :: r) j _ hf (p0 :: r) 0 rfl).to ?_)
      by_cases h1 : 0 ≤ j ∧ j < (p0.length : Int)
      · have e2 : (knowOk (p0 :: r) && (decide (0 ≤ j) && decide (j < (p0.length : Int)))) = true := by simp [hk, h1]
        have e3 : atB p0 j = card (p0.getD j.toNat 0) := by unfold atB; rw [if_pos h1]
        have e4 : (p0 :: r).all (fun p => atB p j == card (p0.getD j.toNat 0)) = (p0 :: r).all (fun p => card (p.getD j.toNat 0) == card (p0.getD j.toNat 0)) := by
          rw [Bool.eq_iff_iff, List.all_eq_true, List.all_eq_true]
          have : ∀ p ∈ p0 :: r, atB p j = card (p.getD j.toNat 0) := fun p hp => by
            have := (kf.2.2.2 p hp).2
            unfold atB; rw [if_pos (by omega)]
          constructor
          · intro h p hp; rw [← this p hp]; exact h p hp
          · intro h p hp; rw [this p hp]; exact h p hp
        rw [if_pos e2, e3, e4]
      · have e2 : ¬ (knowOk (p0 :: r) && (decide (0 ≤ j) && decide (j < (p0.length : Int)))) = true := by simp; omega
        have e3 : atB p0 j = -1 := by unfold atB; rw [if_neg h1]
        rw [if_neg e2, e3, ite_self]
end Qq
namespace Qq
open Go Go.Vt Pt
set_option linter.unusedVariables false
set_option linter.unusedSimpArgs false
def klF (l : Packs) : Nat → Nat → ByteArray → ByteArray
  | 0, _, acc => acc
  | d + 1, i, acc => klF l d (i + 1) (if 0 ≤ knownAt l (i : Int) then (acc ++ ⟨#[32]⟩) ++ itoaB (knownAt l (i : Int)) else acc ++ ⟨#[32, 63]⟩)
def knowLine (l : Packs) : ByteArray := if knowOk l then klF l (l.getD 0 []).length 0 (itoaB (l.length : Int) ++ ⟨#[32, 112, 111, 115, 115, 105, 98, 108, 101, 44, 32, 107, 110, 111, 119, 110]⟩) else ⟨#[]⟩
theorem knownAt_in (l : Packs) (j : Int) : In (knownAt l j) := by
  unfold knownAt
  split
  · unfold In; omega
  · split
    · split
      · exact In_card _
      · unfold In; omega
    · unfold In; omega
theorem s_KnowLine_l5_ev (l : Packs) (hf : FitS l) (n : Nat) (hn : n ≤ 12) : ∀ (d i : Nat) (acc : ByteArray), i + d = n → acc.size ≤ 40 + 22 * i → Ev (fun k => s_KnowLine_l5 k l acc (n : Int) (i : Int)) (klF l d i acc)
  | 0, i, acc, h, hs => by
    refine Ev.step (fun k => s_KnowLine_l5_eq k _ _ _ _) ?_
    rw [at_end (by omega)]
    exact Ev.pure _
  | d + 1, i, acc, h, hs => by
    have u := at_up (n := (n : Int)) (i := i) (by omega) (by omega)
    have hin := knownAt_in l (i : Int)
    have hsz := itoaB_size _ hin
    refine Ev.step (fun k => s_KnowLine_l5_eq k _ _ _ _) ?_
    simp only [u.g, u.w, cond_true]
    unfold klF
    refine Ev.bind (s_KnownAt_ev l (i : Int) hf) (Ev.ite (fun h => ?_) (fun h => ?_))
    · have : ¬ 0 ≤ knownAt l (i : Int) := by simp at h; omega
      rw [if_neg this]
      have s1 := sz_add (b := (⟨#[32, 63]⟩ : ByteArray)) (n := 2) hs (by decide)
      exact Ev.yes (sz_ok hs (n := 2) (by decide) (by omega)) (s_KnowLine_l5_ev l hf n hn d (i + 1) _ (by omega) (by omega))
    · have : 0 ≤ knownAt l (i : Int) := by simp at h; omega
      rw [if_pos this]
      have s1 := sz_add (b := (⟨#[32]⟩ : ByteArray)) (n := 1) hs (by decide)
      have s2 := sz_add s1 hsz
      exact Ev.yes (sz_ok hs (n := 1) (by decide) (by omega)) (Ev.bind (s_FormatInt_ev _ hin) (Ev.yes (sz_ok s1 hsz (by omega)) (s_KnowLine_l5_ev l hf n hn d (i + 1) _ (by omega) (by omega))))
theorem i_KnowLine_l5_ev (l : Packs) (hf : FitS l) (n : Nat) (hn : n ≤ 12) : ∀ (d i : Nat) (acc : ByteArray), i + d = n → acc.size ≤ 40 + 22 * i → Ev (fun k => i_KnowLine_l5 k l acc (n : Int) (i : Int)) (klF l d i acc)
  | 0, i, acc, h, hs => by
    refine Ev.step (fun k => i_KnowLine_l5_eq k _ _ _ _) ?_
    rw [at_end (by omega)]
    exact Ev.pure _
  | d + 1, i, acc, h, hs => by
    have u := at_up (n := (n : Int)) (i := i) (by omega) (by omega)
    have hin := knownAt_in l (i : Int)
    have hsz := itoaB_size _ hin
    refine Ev.step (fun k => i_KnowLine_l5_eq k _ _ _ _) ?_
    simp only [u.g, u.w, cond_true]
    unfold klF
    refine Ev.bind (i_KnownAt_ev l (i : Int) hf) (Ev.ite (fun h => ?_) (fun h => ?_))
    · have : 0 ≤ knownAt l (i : Int) := by simpa using h
      rw [if_pos this]
      have s0 := sz_add (a := (⟨#[32]⟩ : ByteArray)) (m := 1) (by decide) hsz
      have s2 := sz_add hs s0
      refine Ev.bind (i_FormatInt_ev _ hin) (Ev.yes (sz_ok (m := 1) (by decide) hsz (by omega)) (Ev.yes (sz_ok hs s0 (by omega)) ?_))
      have e : (acc ++ (⟨#[32]⟩ : ByteArray)) ++ itoaB (knownAt l (i : Int)) = acc ++ ((⟨#[32]⟩ : ByteArray) ++ itoaB (knownAt l (i : Int))) := ByteArray.append_assoc
      rw [e]
      exact i_KnowLine_l5_ev l hf n hn d (i + 1) _ (by omega) (by omega)
    · have : ¬ 0 ≤ knownAt l (i : Int) := by simpa using h
      rw [if_neg this]
      have s1 := sz_add (b := (⟨#[32, 63]⟩ : ByteArray)) (n := 2) hs (by decide)
      exact Ev.yes (sz_ok hs (n := 2) (by decide) (by omega)) (i_KnowLine_l5_ev l hf n hn d (i + 1) _ (by omega) (by omega))
theorem s_KnowLine_ev (l : Packs) (hf : FitS l) : Ev (fun k => s_KnowLine k l) (knowLine l) := by
  unfold knowLine
  refine Ev.step (fun k => s_KnowLine_eq k l) (Ev.bind (s_KnowOk_ev l hf) (Ev.ite (fun h => Ev.some ?_) (fun h => ?_)))
  · have : knowOk l = false := by simpa using h
    rw [this]; rfl
  · have e : knowOk l = true := by simpa using h
    rw [if_pos e]
    cases l with
    | nil => simp [knowOk] at e
    | cons p0 r0 =>
      obtain ⟨h1, h2, h3, h4⟩ := know_fit e
      have hin : In ((p0 :: r0).length : Int) := by unfold In; omega
      have hsz := itoaB_size _ hin
      have s1 := sz_add (b := (⟨#[32, 112, 111, 115, 115, 105, 98, 108, 101, 44, 32, 107, 110, 111, 119, 110]⟩ : ByteArray)) (n := 16) hsz (by decide)
      exact Ev.bind (s_FormatInt_ev _ hin) (Ev.yes (sz_ok hsz (n := 16) (by decide) (by decide)) (Ev.yes (by simp) (s_KnowLine_l5_ev _ hf p0.length h3 p0.length 0 _ (by omega) (by omega))))
theorem i_KnowLine_ev (l : Packs) (hf : FitS l) : Ev (fun k => i_KnowLine k l) (knowLine l) := by
  unfold knowLine
  refine Ev.step (fun k => i_KnowLine_eq k l) (Ev.bind (i_KnowOk_ev l hf) (Ev.ite (fun h => Ev.some ?_) (fun h => ?_)))
  · have : knowOk l = false := by simpa using h
    rw [this]; rfl
  · have e : knowOk l = true := by simpa using h
    rw [if_pos e]
    cases l with
    | nil => simp [knowOk] at e
    | cons p0 r0 =>
      obtain ⟨h1, h2, h3, h4⟩ := know_fit e
      have hin : In ((p0 :: r0).length : Int) := by unfold In; omega
      have hsz := itoaB_size _ hin
      have s1 := sz_add (b := (⟨#[32, 112, 111, 115, 115, 105, 98, 108, 101, 44, 32, 107, 110, 111, 119, 110]⟩ : ByteArray)) (n := 16) hsz (by decide)
      exact Ev.bind (i_FormatInt_ev _ hin) (Ev.yes (sz_ok hsz (n := 16) (by decide) (by decide)) (Ev.yes (by simp) (i_KnowLine_l5_ev _ hf p0.length h3 p0.length 0 _ (by omega) (by omega))))
theorem FnExactKnowLine_ev (l : Packs) (f0 : Fits (.slice (.slice (.int .i64))) l) : Ev (fun k => w_FnExactKnowLine k l) true := by
  have hf : FitS l := FitS.of f0
  have hll := hf.1
  have hlp : ∀ p ∈ l, p.length ≤ maxLen := fun p hp => (hf.2 p hp).1
  refine Ev.step (fun k => w_FnExactKnowLine_eq k l) (Ev.bind (szIntSS_ev l 1048576 hll hlp (by omega) (by omega)) (Ev.ite (fun h => Ev.pure _) (fun h => ?_)))
  obtain ⟨c1, c2, _, _⟩ := szSS_fit (l := l) (n := 1048576) (by omega) (by omega) (by simpa using h)
  have ec := toIntSS_ev l c1 c2
  refine Ev.bind ec (Ev.bind (s_KnowLine_ev l hf) (Ev.bind ec (Ev.bind (i_KnowLine_ev l hf) (Ev.no (by simp) ?_))))
  exact Ev.bind ec (Ev.bind (eqIntSS_ev l l hll hll hlp hlp) (Ev.no (by simp) (Ev.pure _)))
end Qq
