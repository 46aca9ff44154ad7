/-
  The law FnExactSceneLine comes to true.
  Conditions: numbers and lengths are such as a machine bears.
-/
import Derived.Test.YtijdgiejhgfmlabDoorPt
import Derived.Test.YtijdgiejhgfmlabDoorXvzd
import Derived.Laws.BitsLemmas
import Derived.Lib.ItoaLen
namespace Go.Vt
theorem Ev.some {α : Type} {x y : α} (e : x = y) : Ev (fun _ => Option.some x) y := by subst e; exact Ev.pure _
theorem Ev.to {α : Type} {g : Nat → Option α} {x y : α} (h : Ev g x) (e : x = y) : Ev g y := e ▸ h
end Go.Vt
namespace Qq
open Go Go.Vt
set_option linter.unusedVariables false
set_option linter.unusedSimpArgs false
theorem maxLen_eq : maxLen = 9223372036854775807 := by unfold maxLen; decide
theorem rowMax_eq : rowMax = 4294967296 := rfl
theorem wrap_id {x : Int} (h1 : -9223372036854775808 ≤ x) (h2 : x ≤ 9223372036854775807) : IntKind.i64.wrap x = x := by
  rw [IntKind.wrap_i64]; omega
/-- Numbers of a machine's kind. -/
def In (x : Int) : Prop := -9223372036854775808 ≤ x ∧ x ≤ 9223372036854775807
theorem In.of_fits {x : Int} (h : Fits (.int .i64) x) : In x := by
  have h' : IntKind.i64.min ≤ x ∧ x ≤ IntKind.i64.max := h
  have e1 : IntKind.i64.min = -9223372036854775808 := by decide
  have e2 : IntKind.i64.max = 9223372036854775807 := by decide
  unfold In; rw [e1, e2] at h'; exact h'
def Ins (xs : List Int) : Prop := ∀ x ∈ xs, In x
structure AtCons {α : Type} (xs : List α) (i : Nat) (y : α) (rest : List α) : Prop where
  lt : i < xs.length
  g : decide ((i : Int) < (xs.length : Int)) = true
  z : decide ((0 : Int) ≤ (i : Int)) = true
  n : decide ((i : Int).toNat < xs.length) = true
  get : ∀ d, xs.getD (i : Int).toNat d = y
  w : IntKind.i64.wrap ((i : Int) + 1) = ((i + 1 : Nat) : Int)
  next : xs.drop (i + 1) = rest
  mem : y ∈ xs
  gt : ∀ d, xs.getD i d = y
  le : decide ((i : Int) ≤ (xs.length : Int)) = true
theorem at_cons {α : Type} {xs : List α} {i : Nat} {y : α} {rest : List α} (h : xs.drop i = y :: rest) (hm : xs.length ≤ maxLen) : AtCons xs i y rest := by
  rw [maxLen_eq] at hm
  have lt : i < xs.length := by
    rcases Nat.lt_or_ge i xs.length with h1 | h1
    · exact h1
    · rw [List.drop_eq_nil_of_le h1] at h; cases h
  have e := List.drop_eq_getElem_cons lt
  rw [e] at h
  have hy : xs[i] = y := by injection h
  refine ⟨lt, by simp; omega, by simp, by simp; omega, fun d => by simp [List.getD, lt, hy], by rw [wrap_id (by omega) (by omega)]; simp, by injection h, by rw [← hy]; exact List.getElem_mem lt, fun d => by simp [List.getD, lt, hy], by simp; omega⟩
structure AtNil {α : Type} (xs : List α) (i : Nat) : Prop where
  ge : xs.length ≤ i
  g : decide ((i : Int) < (xs.length : Int)) = false
theorem at_nil {α : Type} {xs : List α} {i : Nat} (h : xs.drop i = []) : AtNil xs i := by
  have ge : xs.length ≤ i := List.drop_eq_nil_iff.1 h
  exact ⟨ge, by simp; omega⟩
end Qq
namespace Qq
open Go Go.Vt Pt
set_option linter.unusedVariables false
set_option linter.unusedSimpArgs false
theorem l01In_ev (x lo hi : Int) : Ev (fun k => s_l01In k (x, lo, hi)) (decide (lo ≤ x) && decide (x ≤ hi)) := by
  refine Ev.step (fun k => s_l01In_eq k x lo hi) (Ev.ite (fun h => ?_) (fun h => ?_))
  · have h' : lo ≤ x := by simpa using h
    exact Ev.some (by simp [h'])
  · have h' : ¬ lo ≤ x := by simpa using h
    exact Ev.some (by simp [h'])
theorem szIntS_ev (xs : List Int) (n : Int) (hx : xs.length ≤ maxLen) (hn : 0 ≤ n) (hn2 : n ≤ 1048576) :
    Ev (fun k => w_szIntS k (xs, n)) (if n - (xs.length : Int) < 0 then -1 else n - xs.length) := by
  rw [maxLen_eq] at hx
  refine Ev.step (fun k => w_szIntS_eq k xs n) ?_
  rw [wrap_id (by omega) (by omega)]
  split
  · rename_i h; exact Ev.yes (by simpa using h) (Ev.pure _)
  · rename_i h; exact Ev.no (by simpa using h) (Ev.pure _)
theorem eqIntS_l4_ev (xs ys : List Int) (hx : xs.length ≤ maxLen) (hy : ys.length ≤ maxLen) : ∀ (r s : List Int) (i : Nat), xs.drop i = r → ys.drop i = s → s.length = r.length → Ev (fun k => w_eqIntS_l4 k xs ys (i : Int)) (r == s)
  | [], [], i, h1, h2, hl => by
    have a := at_nil h1
    refine Ev.step (fun k => w_eqIntS_l4_eq k xs ys i) ?_
    simp only [a.g, cond_false]
    exact Ev.pure _
  | x :: r, y :: s, i, h1, h2, hl => by
    have a := at_cons h1 hx
    have b := at_cons h2 hy
    refine Ev.step (fun k => w_eqIntS_l4_eq k xs ys i) ?_
    simp only [a.g, a.z, b.g, a.get, b.get, a.w, cond_true]
    have ih := eqIntS_l4_ev xs ys hx hy r s (i + 1) a.next b.next (by simpa using hl)
    refine Ev.ite (fun h => Ev.some ?_) (fun h => ih.to ?_)
    · have : ¬ x = y := by simpa using h
      simp [this]
    · have : x = y := by simpa using h
      simp [this]
  | [], _ :: _, _, _, _, hl => by simp at hl
  | _ :: _, [], _, _, _, hl => by simp at hl
theorem eqIntS_ev (xs ys : List Int) (hx : xs.length ≤ maxLen) (hy : ys.length ≤ maxLen) : Ev (fun k => w_eqIntS k (xs, ys)) (xs == ys) := by
  refine Ev.step (fun k => w_eqIntS_eq k xs ys) (Ev.ite (fun h => Ev.some ?_) (fun h => eqIntS_l4_ev xs ys hx hy xs ys 0 rfl rfl ?_))
  · have h' : ¬ xs.length = ys.length := by simp at h; omega
    have : ¬ xs = ys := fun e => h' (by rw [e])
    simp [this]
  · simp at h; omega
theorem set_get {α : Type} {n : Nat} {xs ys : List α} {i : Nat} {d : α} (hi : i < xs.length) (hl : ys.length = xs.length) (h : ys.take i = xs.take i) : (ys.set i (xs.getD i d)).take (i + 1) = xs.take (i + 1) := by
  have g1 : xs.getD i d = xs[i] := by simp [List.getD, hi]
  rw [g1, List.take_succ_eq_append_getElem (by simp; omega), List.take_succ_eq_append_getElem hi, List.take_set_of_le (by omega), h]
  simp
theorem toIntS_l3_ev (xs : List Int) (hm : xs.length ≤ maxLen) : ∀ (r : List Int) (i : Nat) (ys : List Int), xs.drop i = r → ys.length = xs.length → ys.take i = xs.take i → Ev (fun k => w_toIntS_l3 k xs (i : Int) ys) xs
  | [], i, ys, h, hl, ht => by
    have a := at_nil h
    refine Ev.step (fun k => w_toIntS_l3_eq k xs i ys) ?_
    simp only [a.g, cond_false]
    have e : ys = xs := by
      have := a.ge
      rwa [List.take_of_length_le (by omega), List.take_of_length_le (by omega)] at ht
    exact Ev.some e
  | x :: r, i, ys, h, hl, ht => by
    have a := at_cons h hm
    have b1 : decide ((i : Int) < (ys.length : Int)) = true := by rw [hl]; exact a.g
    have b2 : decide ((i : Int).toNat < ys.length) = true := by rw [hl]; exact a.n
    refine Ev.step (fun k => w_toIntS_l3_eq k xs i ys) ?_
    simp only [a.g, a.z, b1, b2, a.w, cond_true]
    have hs := set_get (n := 0) (d := 0) a.lt hl ht
    exact toIntS_l3_ev xs hm r (i + 1) _ a.next (by simp [hl]) (by simpa using hs)
theorem toIntS_ev (xs : List Int) (hm : xs.length ≤ 1048576) : Ev (fun k => w_toIntS k xs) xs := by
  refine Ev.step (fun k => w_toIntS_eq k xs) (Ev.yes (by simp) (Ev.yes (by rw [rowMax_eq]; simp; omega) (Ev.yes (by simp) ?_)))
  exact toIntS_l3_ev xs (by rw [maxLen_eq]; omega) xs 0 _ rfl (by simp) (by simp)
end Qq
namespace Qq
open Go Go.Vt Pt
set_option linter.unusedVariables false
set_option linter.unusedSimpArgs false
def strB (l : List UInt8) : ByteArray := ⟨l.toArray⟩
theorem strB_add (a b : List UInt8) : strB a ++ strB b = strB (a ++ b) := by unfold strB; apply ByteArray.ext; simp
theorem strB_size (a : List UInt8) : (strB a).size = a.length := by simp [strB, ByteArray.size]
theorem strB_one (x : Int) : bytesStr [x] = strB [UInt8.ofNat x.toNat] := rfl
def itoaB (n : Int) : ByteArray := strB (Lib.itoa n)
theorem dec_small {u : Nat} (h : u < 10) : Lib.decDigits u = [UInt8.ofNat (48 + u)] := by rw [Lib.decDigits, dif_pos h]
theorem dec_big {u : Nat} (h : ¬ u < 10) : Lib.decDigits u = Lib.decDigits (u / 10) ++ [UInt8.ofNat (48 + u % 10)] := by rw [Lib.decDigits, dif_neg h]
theorem dig (d : Nat) (h : d < 10) : bytesStr [IntKind.u8.wrap (IntKind.i64.wrap ((48 : Int) + (d : Int)))] = strB [UInt8.ofNat (48 + d)] := by
  rw [wrap_id (by omega) (by omega), strB_one]
  have : IntKind.u8.wrap ((48 : Int) + d) = ((48 + d : Nat) : Int) := by
    have h2 : (48 : Int) + d < 256 := by omega
    unfold IntKind.wrap
    have e : (2 ^ IntKind.u8.bits : Int) = 256 := by decide
    have e2 : IntKind.u8.signed = false := rfl
    simp only [e, e2, Bool.false_and, Bool.false_eq_true, if_false]
    omega
  rw [this, Int.toNat_natCast]
theorem s_FormatInt_l6_ev : ∀ (n : Nat) (s : List UInt8), (n : Int) ≤ 9223372036854775807 → s.length + n ≤ 9223372036854775807 + 1000 → (Lib.decDigits n).length + s.length ≤ 1000 → Ev (fun k => s_FormatInt_l6 k (n : Int) (strB s)) (strB (Lib.decDigits n ++ s)) := by
  intro n
  induction n using Nat.strongRecOn with
  | _ n ih =>
    intro s hn _ hl
    refine Ev.step (fun k => s_FormatInt_l6_eq k _ _) (Ev.ite (fun h => ?_) (fun h => ?_))
    · have h10 : ¬ n < 10 := by simp at h; omega
      have e1 : ((n : Int).tmod 10) = ((n % 10 : Nat) : Int) := by rw [Int.tmod_eq_emod_of_nonneg (by omega)]; omega
      have e2 : ((n : Int).tdiv 10) = ((n / 10 : Nat) : Int) := by rw [Int.tdiv_eq_ediv_of_nonneg (by omega)]; omega
      rw [dec_big h10] at hl ⊢
      simp only [List.length_append, List.length_singleton] at hl
      rw [e1, e2, dig _ (Nat.mod_lt _ (by omega)), strB_add, wrap_id (x := ((n / 10 : Nat) : Int)) (by omega) (by omega)]
      refine Ev.yes (by rw [strB_size, strB_size]; simp; omega) ?_
      rw [List.append_assoc]
      exact ih (n / 10) (by omega) _ (by omega) (by simp; omega) (by simp; omega)
    · have h10 : n < 10 := by simp at h; omega
      rw [dec_small h10] at hl ⊢
      rw [dig n h10, strB_add]
      exact Ev.yes (by rw [strB_size, strB_size]; simp at hl ⊢; omega) (Ev.pure _)
theorem dec_len (u : Nat) (h : (u : Int) ≤ 9223372036854775808) : (Lib.decDigits u).length ≤ 20 := by
  have := Lib.nDigits_le20 u (by omega)
  rw [Lib.decDigits_length]; exact this
theorem s_FormatInt_neg : ∀ (u : Nat), 1 ≤ u → (u : Int) ≤ 9223372036854775808 → Ev (fun k => s_FormatInt k (-(u : Int))) (strB (45 :: Lib.decDigits u)) := by
  intro u
  induction u using Nat.strongRecOn with
  | _ u ih =>
    intro h1 hu
    have hl := dec_len u hu
    have e1 : ((-(u : Int)).tmod 10) = -((u % 10 : Nat) : Int) := by rw [Int.neg_tmod, Int.tmod_eq_emod_of_nonneg (by omega)]; omega
    have e2 : ((-(u : Int)).tdiv 10) = -((u / 10 : Nat) : Int) := by rw [Int.neg_tdiv, Int.tdiv_eq_ediv_of_nonneg (by omega)]; omega
    refine Ev.step (fun k => s_FormatInt_eq k _) (Ev.yes (by simp; omega) ?_)
    rw [e1, e2, wrap_id (x := -((u / 10 : Nat) : Int)) (by omega) (by omega)]
    refine Ev.ite (fun h => ?_) (fun h => ?_)
    · have h10 : u < 10 := by simp at h; omega
      have e3 : (48 : Int) - (-(u : Int)) = 48 + (u : Int) := by omega
      have e4 : (⟨#[45]⟩ : ByteArray) = strB [45] := rfl
      rw [e3, dig u h10, e4, strB_add, dec_small h10]
      exact Ev.yes (by rw [strB_size, strB_size]; rfl) (Ev.pure _)
    · have h10 : ¬ u < 10 := by simp at h; omega
      have e3 : (48 : Int) - (-((u % 10 : Nat) : Int)) = 48 + ((u % 10 : Nat) : Int) := by omega
      rw [dec_big h10] at hl ⊢
      simp only [List.length_append, List.length_singleton] at hl
      refine Ev.bind (ih (u / 10) (by omega) (by omega) (by omega)) ?_
      rw [e3, dig _ (Nat.mod_lt _ (by omega)), strB_add]
      exact Ev.yes (by rw [strB_size, strB_size]; simp; omega) (Ev.pure _)
theorem s_FormatInt_ev (n : Int) (hn : In n) : Ev (fun k => s_FormatInt k n) (itoaB n) := by
  unfold In at hn
  by_cases h : n < 0
  · have := s_FormatInt_neg n.natAbs (by omega) (by omega)
    have e : (-((n.natAbs : Nat) : Int)) = n := by omega
    rw [e] at this
    refine this.to ?_
    unfold itoaB Lib.itoa
    rw [if_pos h]
  · have hl := dec_len n.toNat (by omega)
    have := s_FormatInt_l6_ev n.toNat [] (by omega) (by simp; omega) (by simp; omega)
    have e : ((n.toNat : Nat) : Int) = n := by omega
    rw [e] at this
    refine Ev.step (fun k => s_FormatInt_eq k n) (Ev.no (by simpa using h) (this.to ?_))
    unfold itoaB Lib.itoa
    rw [if_neg h, List.append_nil]
theorem Itoa_ev (n : Int) (hn : In n) : Ev (fun k => strconv_Itoa k n) (itoaB n) := by
  refine Ev.congr (fun k => strconv_Itoa_eq k n) ?_
  unfold itoaF
  refine Ev.yes ?_ (Ev.pure _)
  unfold In at hn
  simp; exact hn
theorem i_FormatInt_ev (n : Int) (hn : In n) : Ev (fun k => i_FormatInt k n) (itoaB n) :=
  Ev.step (fun k => i_FormatInt_eq k n) (Ev.bind (Itoa_ev n hn) (Ev.pure _))
theorem itoaB_size (n : Int) (hn : In n) : (itoaB n).size ≤ 21 := by
  unfold In at hn
  rw [itoaB, strB_size]
  exact Lib.itoa_length_le n hn.1 hn.2
end Qq
namespace Qq
open Go Go.Vt Pt
set_option linter.unusedVariables false
set_option linter.unusedSimpArgs false
def bytesOf (x : ByteArray) : List UInt8 := x.data.toList
theorem strB_bytes (x : ByteArray) : strB (bytesOf x) = x := by unfold strB bytesOf; apply ByteArray.ext; simp
theorem bytes_len (x : ByteArray) : (bytesOf x).length = x.size := by unfold bytesOf; simp
def joinL (l : List ByteArray) (sep : ByteArray) : List UInt8 := Lib.join (l.map bytesOf) (bytesOf sep)
def joinB (l : List ByteArray) (sep : ByteArray) : ByteArray := strB (joinL l sep)
theorem joinTail_len {B S : Nat} (sep : List UInt8) (hs : sep.length ≤ S) : ∀ (r : List ByteArray), (∀ x ∈ r, x.size ≤ B) → (Lib.joinTail sep (r.map bytesOf)).length ≤ r.length * (B + S)
  | [], _ => by simp [Lib.joinTail]
  | x :: r, h => by
    have ih := joinTail_len sep hs r (fun y hy => h y (by simp [hy]))
    have hx := h x (by simp)
    have e : Lib.joinTail sep ((x :: r).map bytesOf) = (sep ++ bytesOf x) ++ Lib.joinTail sep (r.map bytesOf) := by simp [Lib.joinTail]
    rw [e, List.length_append, List.length_append, bytes_len, List.length_cons, Nat.add_mul, Nat.one_mul]
    omega
theorem join_len {B S : Nat} (sep : ByteArray) (hs : sep.size ≤ S) (l : List ByteArray) (h : ∀ x ∈ l, x.size ≤ B) : (joinL l sep).length ≤ l.length * (B + S) := by
  cases l with
  | nil => simp [joinL, Lib.join_nil]
  | cons x r =>
    have hx := h x (by simp)
    have := joinTail_len (B := B) (S := S) (bytesOf sep) (by rw [bytes_len]; exact hs) r (fun y hy => h y (by simp [hy]))
    unfold joinL
    rw [List.map_cons, Lib.join_cons, List.length_append, bytes_len, List.length_cons, Nat.add_mul, Nat.one_mul]
    omega
theorem s_Join_l3_ev (sep : ByteArray) (xs : List ByteArray) (hm : xs.length ≤ maxLen) : ∀ (r : List ByteArray) (i : Nat) (acc : List UInt8), xs.drop i = r → 1 ≤ i → acc.length + (Lib.joinTail (bytesOf sep) (r.map bytesOf)).length ≤ 9223372036854775807 →
    Ev (fun k => s_Join_l3 k sep (strB acc) xs (xs.length : Int) (i : Int)) (strB (acc ++ Lib.joinTail (bytesOf sep) (r.map bytesOf)))
  | [], i, acc, h, hi, hl => by
    have a := at_nil h
    refine Ev.step (fun k => s_Join_l3_eq k _ _ _ _ _) ?_
    simp only [a.g, cond_false]
    exact Ev.some (by simp [Lib.joinTail])
  | x :: r, i, acc, h, hi, hl => by
    have a := at_cons h hm
    have e : Lib.joinTail (bytesOf sep) ((x :: r).map bytesOf) = (bytesOf sep ++ bytesOf x) ++ Lib.joinTail (bytesOf sep) (r.map bytesOf) := by simp [Lib.joinTail]
    rw [e, List.length_append, List.length_append] at hl
    refine Ev.step (fun k => s_Join_l3_eq k _ _ _ _ _) ?_
    simp only [a.g, a.z, a.get, a.w, cond_true]
    have e1 : strB acc ++ sep = strB (acc ++ bytesOf sep) := by rw [← strB_add, strB_bytes]
    have e2 : strB (acc ++ bytesOf sep) ++ x = strB (acc ++ bytesOf sep ++ bytesOf x) := by rw [← strB_add (acc ++ bytesOf sep), strB_bytes]
    have l1 := bytes_len sep
    have l2 := bytes_len x
    refine Ev.yes (by simp; omega) (Ev.yes (by rw [strB_size]; simp; omega) ?_)
    rw [e1]
    refine Ev.yes (by rw [strB_size, List.length_append]; simp; omega) ?_
    rw [e2]
    have := s_Join_l3_ev sep xs hm r (i + 1) (acc ++ bytesOf sep ++ bytesOf x) a.next (by omega) (by rw [List.length_append, List.length_append]; omega)
    rw [e, ← List.append_assoc, ← List.append_assoc]
    exact this
theorem s_Join_ev (l : List ByteArray) (sep : ByteArray) (B : Nat) (hl : l.length ≤ 1048576) (hB : ∀ x ∈ l, x.size ≤ B) (hBB : B ≤ 100) (hs : sep.size ≤ 100) : Ev (fun k => s_Join k (l, sep)) (joinB l sep) := by
  refine Ev.step (fun k => s_Join_eq k l sep) ?_
  cases l with
  | nil =>
    refine Ev.step (fun k => s_Join_l3_eq k _ _ _ _ _) (Ev.no (by simp) (Ev.some ?_))
    rfl
  | cons x r =>
    have a := at_cons (xs := x :: r) (i := 0) rfl (by rw [maxLen_eq]; omega)
    refine Ev.step (fun k => s_Join_l3_eq k _ _ _ _ _) ?_
    have hx := hB x (by simp)
    refine Ev.yes a.g (Ev.yes (by simp) (Ev.yes a.g (Ev.no (by simp) ?_)))
    have e0 : (x :: r).getD (0 : Int).toNat (⟨#[]⟩ : ByteArray) = x := rfl
    have e1 : (⟨#[]⟩ : ByteArray) ++ x = strB (bytesOf x) := by rw [strB_bytes]; apply ByteArray.ext; simp
    have e2 : IntKind.i64.wrap ((0 : Int) + 1) = ((1 : Nat) : Int) := wrap_id (by omega) (by omega)
    rw [e0, e1, e2]
    refine Ev.yes (by show decide (0 + x.size ≤ _) = true; simp; omega) ?_
    have jl := joinTail_len (B := B) (S := 100) (bytesOf sep) (by rw [bytes_len]; exact hs) r (fun y hy => hB y (by simp [hy]))
    rw [List.length_cons] at hl
    have hmul : r.length * (B + 100) ≤ 1048576 * 200 := Nat.mul_le_mul (by omega) (by omega)
    refine (s_Join_l3_ev sep (x :: r) (by rw [maxLen_eq]; simp; omega) r 1 (bytesOf x) rfl (Nat.le_refl _) (by rw [bytes_len]; omega)).to ?_
    unfold joinB joinL
    rw [List.map_cons, Lib.join_cons]
theorem i_Join_ev (l : List ByteArray) (sep : ByteArray) (B : Nat) (hl : l.length ≤ 1048576) (hB : ∀ x ∈ l, x.size ≤ B) (hBB : B ≤ 100) (hs : sep.size ≤ 100) : Ev (fun k => i_Join k (l, sep)) (joinB l sep) := by
  refine Ev.step (fun k => i_Join_eq k l sep) (Ev.bind (Ev.congr (fun k => strings_Join_eq k l sep) ?_) (Ev.pure _))
  unfold joinF
  have jl := join_len (B := B) (S := 100) sep hs l hB
  have hmul : l.length * (B + 100) ≤ 1048576 * 200 := Nat.mul_le_mul hl (by omega)
  refine Ev.yes ?_ (Ev.pure _)
  rw [Bool.and_eq_true, decide_eq_true_eq, decide_eq_true_eq]
  exact ⟨by omega, by show (joinL l sep).length ≤ _; omega⟩
end Qq
namespace Qq
open Go Go.Vt Pt
set_option linter.unusedVariables false
set_option linter.unusedSimpArgs false
end Qq
namespace Qq
open Go Go.Vt Pt
set_option linter.unusedVariables false
set_option linter.unusedSimpArgs false
abbrev Scene : Type := List Int × Int
end Qq
namespace Qq
open Go Go.Vt Pt
set_option linter.unusedVariables false
set_option linter.unusedSimpArgs false
theorem l02Has_l2_ev (x : Int) (xs : List Int) (hm : xs.length ≤ maxLen) : ∀ (r : List Int) (i : Nat), xs.drop i = r → Ev (fun k => s_l02Has_l2 k x xs (xs.length : Int) (i : Int)) (r.contains x)
  | [], i, h => by
    have a := at_nil h
    refine Ev.step (fun k => s_l02Has_l2_eq k x xs _ i) ?_
    simp only [a.g, cond_false]
    exact Ev.pure _
  | y :: r, i, h => by
    have a := at_cons h hm
    refine Ev.step (fun k => s_l02Has_l2_eq k x xs _ i) ?_
    simp only [a.g, a.z, a.get, a.w, cond_true]
    refine Ev.ite (fun h => Ev.some ?_) (fun h => (l02Has_l2_ev x xs hm r (i + 1) a.next).to ?_)
    · have : y = x := by simpa using h
      simp [this]
    · have : ¬ y = x := by simpa using h
      have h2 : ¬ x = y := fun e => this e.symm
      simp [h2]
theorem l02Has_ev (xs : List Int) (x : Int) (hm : xs.length ≤ maxLen) : Ev (fun k => s_l02Has k (xs, x)) (xs.contains x) :=
  Ev.step (fun k => s_l02Has_eq k xs x) (l02Has_l2_ev x xs hm xs 0 rfl)
end Qq
namespace Qq
open Go Go.Vt Pt
set_option linter.unusedVariables false
set_option linter.unusedSimpArgs false
theorem nodup_len : ∀ (n : Nat) (l : List Int), l.Nodup → (∀ x ∈ l, 0 ≤ x ∧ x < (n : Int)) → l.length ≤ n
  | 0, l, _, h => by
    cases l with
    | nil => simp
    | cons x l => have := h x (by simp); omega
  | n + 1, l, hd, h => by
    have h1 := nodup_len n (l.erase (n : Int)) (hd.erase _) (fun x hx => by
      have hx' := (hd.mem_erase_iff).1 hx
      have := h x hx'.2
      have : x ≠ (n : Int) := hx'.1
      omega)
    have h2 := List.length_erase (a := (n : Int)) (l := l)
    split at h2 <;> omega
end Qq
namespace Qq
open Go Go.Vt Pt
set_option linter.unusedVariables false
set_option linter.unusedSimpArgs false
def card (x : Int) : Int := if 0 ≤ x ∧ x ≤ 11 then x else if -12 ≤ x ∧ x ≤ -1 then -1 - x else -1
theorem card_lt (x : Int) : -1 ≤ card x ∧ card x ≤ 11 := by unfold card; split; · omega
                                                            split <;> omega
theorem s_CardOf_ev (x : Int) : Ev (fun k => s_CardOf k x) (card x) := by
  refine Ev.step (fun k => s_CardOf_eq k x) (Ev.bind (l01In_ev _ _ _) (Ev.ite (fun h => Ev.some ?_) (fun h => Ev.bind (l01In_ev _ _ _) (Ev.ite (fun h' => ?_) (fun h' => Ev.some ?_)))))
  · have : 0 ≤ x ∧ x ≤ 11 := by simpa using h
    simp [card, this]
  · have h1 : ¬ (0 ≤ x ∧ x ≤ 11) := by simp at h; omega
    have h2 : -12 ≤ x ∧ x ≤ -1 := by simpa using h'
    rw [wrap_id (by omega) (by omega)]
    exact Ev.some (by unfold card; rw [if_neg h1, if_pos h2])
  · have h1 : ¬ (0 ≤ x ∧ x ≤ 11) := by simp at h; omega
    have h2 : ¬ (-12 ≤ x ∧ x ≤ -1) := by simp at h'; omega
    unfold card; rw [if_neg h1, if_neg h2]
theorem i_CardOf_ev (x : Int) (hx : In x) : Ev (fun k => i_CardOf k x) (card x) := by
  obtain ⟨a, b⟩ := hx
  refine Ev.step (fun k => i_CardOf_eq k x) ?_
  refine Ev.ite (fun h => ?_) (fun h => ?_)
  · have h1 : x < 0 := by simpa using h
    rw [wrap_id (by omega) (by omega)]
    have h2 : ¬ (0 ≤ x ∧ x ≤ 11) := by omega
    refine Ev.ite (fun h' => Ev.some ?_) (fun h' => Ev.some ?_)
    · have h3 : ¬ (-12 ≤ x ∧ x ≤ -1) := by simp at h'; omega
      unfold card; rw [if_neg h2, if_neg h3]
    · have h3 : (-12 ≤ x ∧ x ≤ -1) := by simp at h'; omega
      unfold card; rw [if_neg h2, if_pos h3]
  · have h1 : ¬ x < 0 := by simpa using h
    have h3 : ¬ (-12 ≤ x ∧ x ≤ -1) := by omega
    refine Ev.ite (fun h' => Ev.some ?_) (fun h' => Ev.some ?_)
    · have h2 : ¬ (0 ≤ x ∧ x ≤ 11) := by simp at h'; omega
      unfold card; rw [if_neg h2, if_neg h3]
    · have h2 : (0 ≤ x ∧ x ≤ 11) := by simp at h'; omega
      unfold card; rw [if_pos h2]
def pk : List Int → List Int → Bool
  | _, [] => true
  | done, x :: r => decide (0 ≤ card x) && (!(done.contains (card x)) && pk (done ++ [card x]) r)
def packetOk (p : List Int) : Bool := pk [] p
theorem pk_nodup : ∀ (r done : List Int), done.Nodup → pk done r = true → (done ++ r.map card).Nodup ∧ ∀ x ∈ r, 0 ≤ card x
  | [], done, hd, h => by simp [hd]
  | x :: r, done, hd, h => by
    unfold pk at h
    simp only [Bool.and_eq_true, decide_eq_true_eq, Bool.not_eq_true'] at h
    obtain ⟨h1, h3, h4⟩ := h
    have hx : card x ∉ done := by simpa using h3
    obtain ⟨k1, k2⟩ := pk_nodup r (done ++ [card x]) (by
      rw [List.nodup_append]
      exact ⟨hd, by simp, fun a ha b hb e => by simp at hb; subst hb; subst e; exact hx ha⟩) h4
    refine ⟨by simpa using k1, fun y hy => ?_⟩
    rcases List.mem_cons.1 hy with rfl | hy
    · exact h1
    · exact k2 y hy
theorem packetOk_fit {p : List Int} (h : packetOk p = true) : (p.map card).Nodup ∧ (∀ x ∈ p, 0 ≤ card x ∧ card x ≤ 11) ∧ p.length ≤ 12 := by
  obtain ⟨k1, k2⟩ := pk_nodup p [] (by simp) h
  have k1' : (p.map card).Nodup := by simpa using k1
  have k3 := nodup_len 12 (p.map card) k1' (fun x hx => by
    obtain ⟨y, hy, rfl⟩ := List.mem_map.1 hx
    have := k2 y hy
    have := card_lt y
    omega)
  exact ⟨k1', fun x hx => ⟨k2 x hx, (card_lt x).2⟩, by simpa using k3⟩
theorem s_PacketOk_l5_ev (xs : List Int) (hm : xs.length ≤ 12) : ∀ (r : List Int) (i : Nat) (done : List Int), xs.drop i = r → done.length = i → Ev (fun k => s_PacketOk_l5 k xs (xs.length : Int) (i : Int) done) (pk done r)
  | [], i, done, h, hd => by
    have a := at_nil h
    refine Ev.step (fun k => s_PacketOk_l5_eq k _ _ _ _) ?_
    simp only [a.g, cond_false]
    exact Ev.pure _
  | x :: r, i, done, h, hd => by
    have a := at_cons h (by rw [maxLen_eq]; omega)
    have hlt := a.lt
    refine Ev.step (fun k => s_PacketOk_l5_eq k _ _ _ _) ?_
    simp only [a.g, a.z, a.get, a.w, cond_true]
    unfold pk
    refine Ev.bind (s_CardOf_ev x) (Ev.ite (fun c => Ev.some ?_) (fun c => Ev.bind (l02Has_ev done (card x) (by rw [maxLen_eq]; omega)) (Ev.ite (fun c2 => Ev.some ?_) (fun c2 => Ev.yes (by rw [rowMax_eq]; simp; omega) ?_))))
    · have : ¬ 0 ≤ card x := by simpa using c
      simp [this]
    · simp only [c2, Bool.not_true, Bool.false_and, Bool.and_false]
    · have e1 : decide (0 ≤ card x) = true := by simpa using c
      rw [e1, c2]
      exact s_PacketOk_l5_ev xs hm r (i + 1) _ a.next (by simp [hd])
theorem s_PacketOk_ev (p : List Int) (hm : p.length ≤ maxLen) : Ev (fun k => s_PacketOk k p) (packetOk p) := by
  refine Ev.step (fun k => s_PacketOk_eq k p) (Ev.ite (fun h => Ev.some ?_) (fun h => ?_))
  · symm
    rw [Bool.eq_false_iff]
    intro hp
    have := (packetOk_fit hp).2.2
    simp at h; omega
  · exact s_PacketOk_l5_ev p (by simp at h; omega) p 0 [] rfl rfl
/-- The cards that were met. -/
def metL (done : List Int) : List Bool := (List.range 12).map fun (c : Nat) => done.contains (c : Int)
theorem metL_len (done : List Int) : (metL done).length = 12 := by simp [metL]
theorem metL_get (done : List Int) (c : Nat) (h : c < 12) (d : Bool) : (metL done).getD c d = done.contains (c : Int) := by
  simp [metL, List.getD, h]
theorem metL_set (done : List Int) (c : Nat) (h : c < 12) : (metL done).set c true = metL (done ++ [(c : Int)]) := by
  apply List.ext_getElem?
  intro x
  rw [List.getElem?_set]
  by_cases hx : x < 12
  · by_cases e : c = x
    · subst e; simp [metL, h]
    · have : ¬ x = c := fun h => e h.symm
      simp [metL, hx, e, this]; intro h; omega
  · rw [if_neg (by omega), List.getElem?_eq_none (by rw [metL_len]; omega), List.getElem?_eq_none (by rw [metL_len]; omega)]
theorem i_PacketOk_l3_ev (xs : List Int) (hm : xs.length ≤ maxLen) (hi : Ins xs) : ∀ (r : List Int) (i : Nat) (done : List Int), xs.drop i = r → Ev (fun k => i_PacketOk_l3 k xs (xs.length : Int) (i : Int) (metL done)) (pk done r)
  | [], i, done, h => by
    have a := at_nil h
    refine Ev.step (fun k => i_PacketOk_l3_eq k _ _ _ _) ?_
    simp only [a.g, cond_false]
    exact Ev.pure _
  | x :: r, i, done, h => by
    have a := at_cons h hm
    refine Ev.step (fun k => i_PacketOk_l3_eq k _ _ _ _) ?_
    simp only [a.g, a.z, a.get, a.w, cond_true]
    unfold pk
    refine Ev.bind (i_CardOf_ev x (hi x a.mem)) (Ev.ite (fun c => Ev.some ?_) (fun c => ?_))
    · have : ¬ 0 ≤ card x := by simpa using c
      simp [this]
    · have hc : 0 ≤ card x := by simpa using c
      have hc2 := (card_lt x).2
      have en : card x = ((card x).toNat : Int) := by omega
      have g1 : decide (0 ≤ card x) = true := by simp [hc]
      have g2 : decide (card x < ((metL done).length : Int)) = true := by rw [metL_len]; simp; omega
      have g3 : decide ((card x).toNat < (metL done).length) = true := by rw [metL_len]; simp; omega
      have g4 : (Nat.beq (metL done).length 12 && true) = true := by rw [metL_len]; rfl
      have g5 := metL_get done (card x).toNat (by omega) false
      rw [← en] at g5
      have g6 := metL_set done (card x).toNat (by omega)
      rw [← en] at g6
      simp only [g1, g2, g3, g4, g5, g6, cond_true, Bool.true_and]
      refine Ev.ite (fun c2 => Ev.some ?_) (fun c2 => ?_)
      · rw [c2]; rfl
      · rw [c2]
        exact i_PacketOk_l3_ev xs hm hi r (i + 1) _ a.next
theorem i_PacketOk_ev (p : List Int) (hm : p.length ≤ maxLen) (hi : Ins p) : Ev (fun k => i_PacketOk k p) (packetOk p) :=
  Ev.step (fun k => i_PacketOk_eq k p) (i_PacketOk_l3_ev p hm hi p 0 [] rfl)
end Qq
namespace Qq
open Go Go.Vt Pt
set_option linter.unusedVariables false
set_option linter.unusedSimpArgs false
end Qq
namespace Qq
open Go Go.Vt Pt
set_option linter.unusedVariables false
set_option linter.unusedSimpArgs false
end Qq
namespace Qq
open Go Go.Vt Pt
set_option linter.unusedVariables false
set_option linter.unusedSimpArgs false
abbrev SceneTy : Ty := .pair (.slice (.int .i64)) (.int .i64)
theorem toScene_ev (c : Scene) (h : c.1.length ≤ 1048576) : Ev (fun k => w_toScene k c) c :=
  Ev.step (fun k => w_toScene_eq k c) (Ev.bind (toIntS_ev _ h) (Ev.pure _))
theorem szScene_ev (c : Scene) (n : Int) (h1 : c.1.length ≤ maxLen) (hn : 0 ≤ n) (hn2 : n ≤ 1048576) : Ev (fun k => w_szScene k (c, n)) (if n - (c.1.length : Int) < 0 then -1 else n - c.1.length) := by
  refine Ev.step (fun k => w_szScene_eq k c n) (Ev.bind (szIntS_ev c.1 n h1 hn hn2) ?_)
  split
  · exact Ev.yes rfl (Ev.pure _)
  · rename_i h; exact Ev.no (by simpa using h) (Ev.pure _)
def isUp (x : Int) : Bool := decide (-12 ≤ x) && decide (x ≤ -1)
theorem s_IsUp_ev (x : Int) : Ev (fun k => s_IsUp k x) (isUp x) := Ev.step (fun k => s_IsUp_eq k x) (Ev.bind (l01In_ev _ _ _) (Ev.pure _))
theorem i_IsUp_ev (x : Int) (hx : In x) : Ev (fun k => i_IsUp k x) (isUp x) := by
  refine Ev.step (fun k => i_IsUp_eq k x) (Ev.ite (fun h => Ev.bind (i_CardOf_ev x hx) (Ev.some ?_)) (fun h => Ev.some ?_))
  · have h' : x < 0 := by simpa using h
    unfold isUp card
    rw [Bool.eq_iff_iff, if_neg (by omega)]
    by_cases h2 : -12 ≤ x ∧ x ≤ -1
    · rw [if_pos h2]; simp; omega
    · rw [if_neg h2]; simp; omega
  · have h' : ¬ x < 0 := by simpa using h
    unfold isUp
    symm; simp; omega
end Qq
namespace Qq
open Go Go.Vt Pt
set_option linter.unusedVariables false
set_option linter.unusedSimpArgs false
/-- The lengths add up to something small. -/
theorem sz_add {a b : ByteArray} {m n : Nat} (ha : a.size ≤ m) (hb : b.size ≤ n) : (a ++ b).size ≤ m + n := by rw [ByteArray.size_append]; omega
theorem sz_ok {a b : ByteArray} {m n : Nat} (ha : a.size ≤ m) (hb : b.size ≤ n) (h : m + n ≤ 9223372036854775807) : decide (a.size + b.size ≤ 9223372036854775807) = true := decide_eq_true (by omega)
def cardB (x : Int) : ByteArray := if isUp x then itoaB (card x) ++ ⟨#[94]⟩ else itoaB (card x)
theorem In_card (x : Int) : In (card x) := by have := card_lt x; unfold In; omega
theorem cardB_size (x : Int) : (cardB x).size ≤ 22 := by
  have h := itoaB_size (card x) (In_card x)
  unfold cardB
  split
  · exact sz_add h (n := 1) (by decide)
  · omega
def formatPacket (p : List Int) : ByteArray := if packetOk p then (if p = [] then ⟨#[101, 109, 112, 116, 121]⟩ else joinB (p.map cardB) ⟨#[32]⟩) else ⟨#[]⟩
theorem cardB_map_size (p : List Int) : ∀ x ∈ p.map cardB, x.size ≤ 22 := by
  intro x hx
  obtain ⟨n, _, rfl⟩ := List.mem_map.1 hx
  exact cardB_size n
theorem at_elem {xs : List Int} {i : Nat} {x : Int} {r : List Int} (a : AtCons xs i x r) : (xs.take (i + 1)).map cardB = (xs.take i).map cardB ++ [cardB x] := by
  have hlt := a.lt
  have e : xs[i] = x := by have := a.get 0; rw [Int.toNat_natCast, List.getD, List.getElem?_eq_getElem hlt] at this; exact this
  rw [List.take_succ_eq_append_getElem hlt, List.map_append, e]; rfl
theorem s_FormatPacket_l5_ev (xs : List Int) (hm : xs.length ≤ 12) : ∀ (r : List Int) (i : Nat), xs.drop i = r → Ev (fun k => s_FormatPacket_l5 k xs (xs.length : Int) (i : Int) ((xs.take i).map cardB)) (if xs = [] then ⟨#[101, 109, 112, 116, 121]⟩ else joinB (xs.map cardB) ⟨#[32]⟩)
  | [], i, h => by
    have a := at_nil h
    refine Ev.step (fun k => s_FormatPacket_l5_eq k _ _ _ _) ?_
    simp only [a.g, cond_false]
    rw [List.take_of_length_le a.ge]
    refine Ev.ite (fun h => Ev.some ?_) (fun h => ?_)
    · have : xs = [] := by simp at h; exact h
      rw [if_pos this]
    · have : ¬ xs = [] := by simp at h; exact h
      rw [if_neg this]
      exact Ev.bind (s_Join_ev _ _ 22 (by simp; omega) (cardB_map_size xs) (by omega) (by decide)) (Ev.pure _)
  | x :: r, i, h => by
    have a := at_cons h (by rw [maxLen_eq]; omega)
    have ih := s_FormatPacket_l5_ev xs hm r (i + 1) a.next
    rw [at_elem a] at ih
    refine Ev.step (fun k => s_FormatPacket_l5_eq k _ _ _ _) ?_
    simp only [a.g, a.z, a.get, a.w, cond_true]
    have hs := itoaB_size (card x) (In_card x)
    refine Ev.bind (s_CardOf_ev x) (Ev.bind (s_FormatInt_ev _ (In_card x)) (Ev.bind (s_IsUp_ev x) (Ev.ite (fun h => ?_) (fun h => ?_))))
    · have e : cardB x = itoaB (card x) ++ ⟨#[94]⟩ := by unfold cardB; rw [if_pos h]
      rw [e] at ih
      exact Ev.yes (sz_ok hs (n := 1) (by decide) (by decide)) (Ev.yes (by rw [rowMax_eq]; simp; omega) ih)
    · have e : cardB x = itoaB (card x) := by unfold cardB; rw [h]; rfl
      rw [e] at ih
      exact Ev.yes (by rw [rowMax_eq]; simp; omega) ih
theorem s_FormatPacket_ev (p : List Int) (hm : p.length ≤ maxLen) : Ev (fun k => s_FormatPacket k p) (formatPacket p) := by
  unfold formatPacket
  refine Ev.step (fun k => s_FormatPacket_eq k p) (Ev.bind (s_PacketOk_ev p hm) (Ev.ite (fun h => Ev.some ?_) (fun h => ?_)))
  · have : packetOk p = false := by simpa using h
    rw [this]; rfl
  · have e : packetOk p = true := by simpa using h
    rw [if_pos e]
    exact s_FormatPacket_l5_ev p (packetOk_fit e).2.2 p 0 rfl
theorem i_FormatPacket_l7_ev (xs : List Int) (hm : xs.length ≤ 12) (hi : Ins xs) : ∀ (r : List Int) (i : Nat), xs.drop i = r → Ev (fun k => i_FormatPacket_l7 k xs (xs.length : Int) (i : Int) ((xs.take i).map cardB)) (joinB (xs.map cardB) ⟨#[32]⟩)
  | [], i, h => by
    have a := at_nil h
    refine Ev.step (fun k => i_FormatPacket_l7_eq k _ _ _ _) ?_
    simp only [a.g, cond_false]
    rw [List.take_of_length_le a.ge]
    exact Ev.bind (i_Join_ev _ _ 22 (by simp; omega) (cardB_map_size xs) (by omega) (by decide)) (Ev.pure _)
  | x :: r, i, h => by
    have a := at_cons h (by rw [maxLen_eq]; omega)
    have hx : In x := hi x (List.mem_of_mem_drop (h ▸ List.mem_cons_self))
    have ih := i_FormatPacket_l7_ev xs hm hi r (i + 1) a.next
    rw [at_elem a] at ih
    refine Ev.step (fun k => i_FormatPacket_l7_eq k _ _ _ _) ?_
    simp only [a.g, a.z, a.get, a.w, cond_true]
    have hs := itoaB_size (card x) (In_card x)
    refine Ev.bind (i_CardOf_ev x hx) (Ev.bind (i_FormatInt_ev _ (In_card x)) (Ev.bind (i_IsUp_ev x hx) (Ev.ite (fun h => ?_) (fun h => ?_))))
    · have e : cardB x = itoaB (card x) ++ ⟨#[94]⟩ := by unfold cardB; rw [if_pos h]
      rw [e] at ih
      exact Ev.yes (sz_ok hs (n := 1) (by decide) (by decide)) (Ev.yes (by rw [rowMax_eq]; simp; omega) ih)
    · have e : cardB x = itoaB (card x) := by unfold cardB; rw [h]; rfl
      rw [e] at ih
      exact Ev.yes (by rw [rowMax_eq]; simp; omega) ih
theorem i_FormatPacket_ev (p : List Int) (hm : p.length ≤ maxLen) (hi : Ins p) : Ev (fun k => i_FormatPacket k p) (formatPacket p) := by
  unfold formatPacket
  refine Ev.step (fun k => i_FormatPacket_eq k p) (Ev.bind (i_PacketOk_ev p hm hi) (Ev.ite (fun h => Ev.some ?_) (fun h => ?_)))
  · have : packetOk p = false := by simpa using h
    rw [this]; rfl
  · have e : packetOk p = true := by simpa using h
    rw [if_pos e]
    refine Ev.ite (fun h => Ev.some ?_) (fun h => ?_)
    · have : p = [] := by simp at h; exact h
      rw [if_pos this]
    · have : ¬ p = [] := by simp at h; exact h
      rw [if_neg this]
      exact i_FormatPacket_l7_ev p (packetOk_fit e).2.2 hi p 0 rfl
theorem formatPacket_size (p : List Int) : (formatPacket p).size ≤ 2000 := by
  unfold formatPacket
  split
  · rename_i h
    split
    · decide
    · have h12 := (packetOk_fit h).2.2
      have := join_len (B := 22) (S := 1) (⟨#[32]⟩ : ByteArray) (by decide) (p.map cardB) (cardB_map_size p)
      rw [List.length_map] at this
      rw [joinB, strB_size]
      omega
  · decide
end Qq
namespace Qq
open Go Go.Vt Pt
set_option linter.unusedVariables false
set_option linter.unusedSimpArgs false
end Qq
namespace Qq
open Go Go.Vt Pt
set_option linter.unusedVariables false
set_option linter.unusedSimpArgs false
theorem eqScene_ev (c d : Scene) (h1 : c.1.length ≤ maxLen) (h2 : d.1.length ≤ maxLen) : Ev (fun k => w_eqScene k (c, d)) (c == d) := by
  obtain ⟨p, a⟩ := c
  obtain ⟨q, b⟩ := d
  refine Ev.step (fun k => w_eqScene_eq k _ _) (Ev.bind (eqIntS_ev _ _ h1 h2) (Ev.ite (fun h => Ev.some ?_) (fun h => Ev.ite (fun h' => Ev.some ?_) (fun h' => Ev.some ?_)))) <;> simp_all
end Qq
namespace Qq
open Go Go.Vt Pt
set_option linter.unusedVariables false
set_option linter.unusedSimpArgs false
def sceneLine (c : Scene) : ByteArray := if packetOk c.1 then (if 0 ≤ c.2 ∧ c.2 ≤ 11 then (formatPacket c.1 ++ ⟨#[32, 110, 111, 116, 101, 100, 32]⟩) ++ itoaB c.2 else formatPacket c.1) else ⟨#[]⟩
theorem itoa_ne (n : Int) : 1 ≤ (Lib.itoa n).length := by
  have h : ∀ u : Nat, 1 ≤ (Lib.decDigits u).length := by
    intro u
    by_cases h : u < 10
    · rw [dec_small h]; simp
    · rw [dec_big h]; simp
  unfold Lib.itoa
  split
  · simp
  · exact h _
theorem cardB_ne (x : Int) : 1 ≤ (cardB x).size := by
  have := itoa_ne (card x)
  unfold cardB
  split
  · rw [ByteArray.size_append, itoaB, strB_size]; omega
  · rw [itoaB, strB_size]; exact this
theorem formatPacket_ne {p : List Int} (h : packetOk p = true) : 1 ≤ (formatPacket p).size := by
  unfold formatPacket
  rw [if_pos h]
  cases p with
  | nil => rw [if_pos rfl]; decide
  | cons x r =>
    rw [if_neg (by simp), joinB, strB_size, joinL, List.map_cons, List.map_cons, Lib.join_cons, List.length_append, bytes_len]
    have := cardB_ne x
    omega
theorem s_SceneLine_ev (c : Scene) (b1 : c.1.length ≤ maxLen) : Ev (fun k => s_SceneLine k c) (sceneLine c) := by
  unfold sceneLine
  refine Ev.step (fun k => s_SceneLine_eq k c) (Ev.bind (s_PacketOk_ev c.1 b1) (Ev.ite (fun h => Ev.some ?_) (fun h => ?_)))
  · have : packetOk c.1 = false := by simpa using h
    rw [this]; rfl
  · have e : packetOk c.1 = true := by simpa using h
    rw [if_pos e]
    have sp := formatPacket_size c.1
    refine Ev.bind (s_FormatPacket_ev c.1 b1) (Ev.bind (l01In_ev _ _ _) (Ev.ite (fun h => ?_) (fun h => Ev.some ?_)))
    · have hc : 0 ≤ c.2 ∧ c.2 ≤ 11 := by simpa using h
      rw [if_pos hc]
      have hin : In c.2 := by unfold In; omega
      exact Ev.yes (sz_ok sp (n := 7) (by decide) (by decide)) (Ev.bind (s_FormatInt_ev _ hin) (Ev.yes (sz_ok (sz_add sp (n := 7) (by decide)) (itoaB_size _ hin) (by decide)) (Ev.pure _)))
    · rw [if_neg (by simp at h; omega)]
theorem i_SceneLine_ev (c : Scene) (b1 : c.1.length ≤ maxLen) (bi : Ins c.1) : Ev (fun k => i_SceneLine k c) (sceneLine c) := by
  unfold sceneLine
  have sp := formatPacket_size c.1
  refine Ev.step (fun k => i_SceneLine_eq k c) (Ev.bind (i_FormatPacket_ev c.1 b1 bi) (Ev.ite (fun h => ?_) (fun h => Ev.some ?_)))
  · have e : packetOk c.1 = true := by
      cases hp : packetOk c.1 with
      | true => rfl
      | false =>
        unfold formatPacket at h
        rw [hp] at h
        simp at h
    rw [if_pos e]
    refine Ev.ite (fun h1 => Ev.ite (fun h2 => ?_) (fun h2 => Ev.some ?_)) (fun h1 => Ev.some ?_)
    · have hc : 0 ≤ c.2 ∧ c.2 ≤ 11 := by simp at h1 h2; omega
      rw [if_pos hc]
      have hin : In c.2 := by unfold In; omega
      have s1 := itoaB_size _ hin
      refine Ev.bind (i_FormatInt_ev _ hin) (Ev.yes (sz_ok (m := 7) (by decide) s1 (by decide)) (Ev.yes (sz_ok sp (sz_add (m := 7) (by decide) s1) (by decide)) (Ev.some ?_)))
      rw [ByteArray.append_assoc]
    · rw [if_neg (by simp at h1 h2; omega)]
    · rw [if_neg (by simp at h1; omega)]
  · cases hp : packetOk c.1 with
    | true =>
      have h1 := formatPacket_ne hp
      have h2 : (formatPacket c.1).toList = (⟨#[]⟩ : ByteArray).toList := by simpa using h
      rw [ByteArray.toList_eq, ByteArray.toList_eq] at h2
      have h3 : (bytesOf (formatPacket c.1)).length = 0 := by unfold bytesOf; rw [h2]; rfl
      rw [bytes_len] at h3
      omega
    | false =>
      unfold formatPacket
      rw [hp]; rfl
theorem FnExactSceneLine_ev (c : Scene) (f0 : Fits SceneTy c) : Ev (fun k => w_FnExactSceneLine k c) true := by
  have b1 : c.1.length ≤ maxLen := f0.1.1
  have bi : Ins c.1 := fun x hx => In.of_fits (f0.1.2 x hx)
  refine Ev.step (fun k => w_FnExactSceneLine_eq k c) (Ev.bind (szScene_ev c 1048576 b1 (by omega) (by omega)) (Ev.ite (fun h => Ev.pure _) (fun h => ?_)))
  have d1 : c.1.length ≤ 1048576 := by
    split at h
    · exact absurd h (by decide)
    · omega
  refine Ev.bind (toScene_ev c d1) (Ev.bind (s_SceneLine_ev c b1) (Ev.bind (toScene_ev c d1) (Ev.bind (i_SceneLine_ev c b1 bi) (Ev.no (by simp) ?_))))
  exact Ev.bind (toScene_ev c d1) (Ev.bind (eqScene_ev c c b1 b1) (Ev.no (by simp) (Ev.pure _)))
end Qq
