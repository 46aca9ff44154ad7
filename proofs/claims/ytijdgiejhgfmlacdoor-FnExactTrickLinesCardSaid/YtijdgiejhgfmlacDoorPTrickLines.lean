/-
  The law FnExactTrickLines comes to true.
  Conditions: numbers and lengths are such as a machine bears.
-/
import Derived.Test.YtijdgiejhgfmlacDoorPt
import Derived.Test.YtijdgiejhgfmlacDoorXvzd
import Derived.Laws.BitsLemmas
import Derived.Lib.ItoaLen
namespace Go.Vt
theorem Ev.some {α : Type} {x y : α} (e : x = y) : Ev (fun _ => Option.some x) y := by subst e; exact Ev.pure _
theorem Ev.to {α : Type} {g : Nat → Option α} {x y : α} (h : Ev g x) (e : x = y) : Ev g y := e ▸ h
end Go.Vt
namespace Qq
open Go Go.Vt
set_option linter.unusedVariables false
set_option linter.unusedSimpArgs false
theorem maxLen_eq : maxLen = 9223372036854775807 := by unfold maxLen; decide
theorem rowMax_eq : rowMax = 4294967296 := rfl
theorem wrap_id {x : Int} (h1 : -9223372036854775808 ≤ x) (h2 : x ≤ 9223372036854775807) : IntKind.i64.wrap x = x := by
  rw [IntKind.wrap_i64]; omega
/-- Numbers of a machine's kind. -/
def In (x : Int) : Prop := -9223372036854775808 ≤ x ∧ x ≤ 9223372036854775807
theorem In.of_fits {x : Int} (h : Fits (.int .i64) x) : In x := by
  have h' : IntKind.i64.min ≤ x ∧ x ≤ IntKind.i64.max := h
  have e1 : IntKind.i64.min = -9223372036854775808 := by decide
  have e2 : IntKind.i64.max = 9223372036854775807 := by decide
  unfold In; rw [e1, e2] at h'; exact h'
def Ins (xs : List Int) : Prop := ∀ x ∈ xs, In x
structure AtCons {α : Type} (xs : List α) (i : Nat) (y : α) (rest : List α) : Prop where
  lt : i < xs.length
  g : decide ((i : Int) < (xs.length : Int)) = true
  z : decide ((0 : Int) ≤ (i : Int)) = true
  n : decide ((i : Int).toNat < xs.length) = true
  get : ∀ d, xs.getD (i : Int).toNat d = y
  w : IntKind.i64.wrap ((i : Int) + 1) = ((i + 1 : Nat) : Int)
  next : xs.drop (i + 1) = rest
  mem : y ∈ xs
  gt : ∀ d, xs.getD i d = y
  le : decide ((i : Int) ≤ (xs.length : Int)) = true
theorem at_cons {α : Type} {xs : List α} {i : Nat} {y : α} {rest : List α} (h : xs.drop i = y :: rest) (hm : xs.length ≤ maxLen) : AtCons xs i y rest := by
  rw [maxLen_eq] at hm
  have lt : i < xs.length := by
    rcases Nat.lt_or_ge i xs.length with h1 | h1
    · exact h1
    · rw [List.drop_eq_nil_of_le h1] at h; cases h
  have e := List.drop_eq_getElem_cons lt
  rw [e] at h
  have hy : xs[i] = y := by injection h
  refine ⟨lt, by simp; omega, by simp, by simp; omega, fun d => by simp [List.getD, lt, hy], by rw [wrap_id (by omega) (by omega)]; simp, by injection h, by rw [← hy]; exact List.getElem_mem lt, fun d => by simp [List.getD, lt, hy], by simp; omega⟩
structure AtNil {α : Type} (xs : List α) (i : Nat) : Prop where
  ge : xs.length ≤ i
  g : decide ((i : Int) < (xs.length : Int)) = false
theorem at_nil {α : Type} {xs : List α} {i : Nat} (h : xs.drop i = []) : AtNil xs i := by
  have ge : xs.length ≤ i := List.drop_eq_nil_iff.1 h
  exact ⟨ge, by simp; omega⟩
end Qq
namespace Qq
open Go Go.Vt Pt
set_option linter.unusedVariables false
set_option linter.unusedSimpArgs false
theorem l01In_ev (x lo hi : Int) : Ev (fun k => s_l01In k (x, lo, hi)) (decide (lo ≤ x) && decide (x ≤ hi)) := by
  refine Ev.step (fun k => s_l01In_eq k x lo hi) (Ev.ite (fun h => ?_) (fun h => ?_))
  · have h' : lo ≤ x := by simpa using h
    exact Ev.some (by simp [h'])
  · have h' : ¬ lo ≤ x := by simpa using h
    exact Ev.some (by simp [h'])
theorem szIntS_ev (xs : List Int) (n : Int) (hx : xs.length ≤ maxLen) (hn : 0 ≤ n) (hn2 : n ≤ 1048576) :
    Ev (fun k => w_szIntS k (xs, n)) (if n - (xs.length : Int) < 0 then -1 else n - xs.length) := by
  rw [maxLen_eq] at hx
  refine Ev.step (fun k => w_szIntS_eq k xs n) ?_
  rw [wrap_id (by omega) (by omega)]
  split
  · rename_i h; exact Ev.yes (by simpa using h) (Ev.pure _)
  · rename_i h; exact Ev.no (by simpa using h) (Ev.pure _)
theorem eqIntS_l4_ev (xs ys : List Int) (hx : xs.length ≤ maxLen) (hy : ys.length ≤ maxLen) : ∀ (r s : List Int) (i : Nat), xs.drop i = r → ys.drop i = s → s.length = r.length → Ev (fun k => w_eqIntS_l4 k xs ys (i : Int)) (r == s)
  | [], [], i, h1, h2, hl => by
    have a := at_nil h1
    refine Ev.step (fun k => w_eqIntS_l4_eq k xs ys i) ?_
    simp only [a.g, cond_false]
    exact Ev.pure _
  | x :: r, y :: s, i, h1, h2, hl => by
    have a := at_cons h1 hx
    have b := at_cons h2 hy
    refine Ev.step (fun k => w_eqIntS_l4_eq k xs ys i) ?_
    simp only [a.g, a.z, b.g, a.get, b.get, a.w, cond_true]
    have ih := eqIntS_l4_ev xs ys hx hy r s (i + 1) a.next b.next (by simpa using hl)
    refine Ev.ite (fun h => Ev.some ?_) (fun h => ih.to ?_)
    · have : ¬ x = y := by simpa using h
      simp [this]
    · have : x = y := by simpa using h
      simp [this]
  | [], _ :: _, _, _, _, hl => by simp at hl
  | _ :: _, [], _, _, _, hl => by simp at hl
theorem eqIntS_ev (xs ys : List Int) (hx : xs.length ≤ maxLen) (hy : ys.length ≤ maxLen) : Ev (fun k => w_eqIntS k (xs, ys)) (xs == ys) := by
  refine Ev.step (fun k => w_eqIntS_eq k xs ys) (Ev.ite (fun h => Ev.some ?_) (fun h => eqIntS_l4_ev xs ys hx hy xs ys 0 rfl rfl ?_))
  · have h' : ¬ xs.length = ys.length := by simp at h; omega
    have : ¬ xs = ys := fun e => h' (by rw [e])
    simp [this]
  · simp at h; omega
theorem set_get {α : Type} {n : Nat} {xs ys : List α} {i : Nat} {d : α} (hi : i < xs.length) (hl : ys.length = xs.length) (h : ys.take i = xs.take i) : (ys.set i (xs.getD i d)).take (i + 1) = xs.take (i + 1) := by
  have g1 : xs.getD i d = xs[i] := by simp [List.getD, hi]
  rw [g1, List.take_succ_eq_append_getElem (by simp; omega), List.take_succ_eq_append_getElem hi, List.take_set_of_le (by omega), h]
  simp
theorem toIntS_l3_ev (xs : List Int) (hm : xs.length ≤ maxLen) : ∀ (r : List Int) (i : Nat) (ys : List Int), xs.drop i = r → ys.length = xs.length → ys.take i = xs.take i → Ev (fun k => w_toIntS_l3 k xs (i : Int) ys) xs
  | [], i, ys, h, hl, ht => by
    have a := at_nil h
    refine Ev.step (fun k => w_toIntS_l3_eq k xs i ys) ?_
    simp only [a.g, cond_false]
    have e : ys = xs := by
      have := a.ge
      rwa [List.take_of_length_le (by omega), List.take_of_length_le (by omega)] at ht
    exact Ev.some e
  | x :: r, i, ys, h, hl, ht => by
    have a := at_cons h hm
    have b1 : decide ((i : Int) < (ys.length : Int)) = true := by rw [hl]; exact a.g
    have b2 : decide ((i : Int).toNat < ys.length) = true := by rw [hl]; exact a.n
    refine Ev.step (fun k => w_toIntS_l3_eq k xs i ys) ?_
    simp only [a.g, a.z, b1, b2, a.w, cond_true]
    have hs := set_get (n := 0) (d := 0) a.lt hl ht
    exact toIntS_l3_ev xs hm r (i + 1) _ a.next (by simp [hl]) (by simpa using hs)
theorem toIntS_ev (xs : List Int) (hm : xs.length ≤ 1048576) : Ev (fun k => w_toIntS k xs) xs := by
  refine Ev.step (fun k => w_toIntS_eq k xs) (Ev.yes (by simp) (Ev.yes (by rw [rowMax_eq]; simp; omega) (Ev.yes (by simp) ?_)))
  exact toIntS_l3_ev xs (by rw [maxLen_eq]; omega) xs 0 _ rfl (by simp) (by simp)
end Qq
namespace Qq
open Go Go.Vt Pt
set_option linter.unusedVariables false
set_option linter.unusedSimpArgs false
def strB (l : List UInt8) : ByteArray := ⟨l.toArray⟩
theorem strB_add (a b : List UInt8) : strB a ++ strB b = strB (a ++ b) := by unfold strB; apply ByteArray.ext; simp
theorem strB_size (a : List UInt8) : (strB a).size = a.length := by simp [strB, ByteArray.size]
theorem strB_one (x : Int) : bytesStr [x] = strB [UInt8.ofNat x.toNat] := rfl
def itoaB (n : Int) : ByteArray := strB (Lib.itoa n)
theorem dec_small {u : Nat} (h : u < 10) : Lib.decDigits u = [UInt8.ofNat (48 + u)] := by rw [Lib.decDigits, dif_pos h]
theorem dec_big {u : Nat} (h : ¬ u < 10) : Lib.decDigits u = Lib.decDigits (u / 10) ++ [UInt8.ofNat (48 + u % 10)] := by rw [Lib.decDigits, dif_neg h]
theorem dig (d : Nat) (h : d < 10) : bytesStr [IntKind.u8.wrap (IntKind.i64.wrap ((48 : Int) + (d : Int)))] = strB [UInt8.ofNat (48 + d)] := by
  rw [wrap_id (by omega) (by omega), strB_one]
  have : IntKind.u8.wrap ((48 : Int) + d) = ((48 + d : Nat) : Int) := by
    have h2 : (48 : Int) + d < 256 := by omega
    unfold IntKind.wrap
    have e : (2 ^ IntKind.u8.bits : Int) = 256 := by decide
    have e2 : IntKind.u8.signed = false := rfl
    simp only [e, e2, Bool.false_and, Bool.false_eq_true, if_false]
    omega
  rw [this, Int.toNat_natCast]
theorem s_FormatInt_l6_ev : ∀ (n : Nat) (s : List UInt8), (n : Int) ≤ 9223372036854775807 → s.length + n ≤ 9223372036854775807 + 1000 → (Lib.decDigits n).length + s.length ≤ 1000 → Ev (fun k => s_FormatInt_l6 k (n : Int) (strB s)) (strB (Lib.decDigits n ++ s)) := by
  intro n
  induction n using Nat.strongRecOn with
  | _ n ih =>
    intro s hn _ hl
    refine Ev.step (fun k => s_FormatInt_l6_eq k _ _) (Ev.ite (fun h => ?_) (fun h => ?_))
    · have h10 : ¬ n < 10 := by simp at h; omega
      have e1 : ((n : Int).tmod 10) = ((n % 10 : Nat) : Int) := by rw [Int.tmod_eq_emod_of_nonneg (by omega)]; omega
      have e2 : ((n : Int).tdiv 10) = ((n / 10 : Nat) : Int) := by rw [Int.tdiv_eq_ediv_of_nonneg (by omega)]; omega
      rw [dec_big h10] at hl ⊢
      simp only [List.length_append, List.length_singleton] at hl
      rw [e1, e2, dig _ (Nat.mod_lt _ (by omega)), strB_add, wrap_id (x := ((n / 10 : Nat) : Int)) (by omega) (by omega)]
      refine Ev.yes (by rw [strB_size, strB_size]; simp; omega) ?_
      rw [List.append_assoc]
      exact ih (n / 10) (by omega) _ (by omega) (by simp; omega) (by simp; omega)
    · have h10 : n < 10 := by simp at h; omega
      rw [dec_small h10] at hl ⊢
      rw [dig n h10, strB_add]
      exact Ev.yes (by rw [strB_size, strB_size]; simp at hl ⊢; omega) (Ev.pure _)
theorem dec_len (u : Nat) (h : (u : Int) ≤ 9223372036854775808) : (Lib.decDigits u).length ≤ 20 := by
  have := Lib.nDigits_le20 u (by omega)
  rw [Lib.decDigits_length]; exact this
theorem s_FormatInt_neg : ∀ (u : Nat), 1 ≤ u → (u : Int) ≤ 9223372036854775808 → Ev (fun k => s_FormatInt k (-(u : Int))) (strB (45 :: Lib.decDigits u)) := by
  intro u
  induction u using Nat.strongRecOn with
  | _ u ih =>
    intro h1 hu
    have hl := dec_len u hu
    have e1 : ((-(u : Int)).tmod 10) = -((u % 10 : Nat) : Int) := by rw [Int.neg_tmod, Int.tmod_eq_emod_of_nonneg (by omega)]; omega
    have e2 : ((-(u : Int)).tdiv 10) = -((u / 10 : Nat) : Int) := by rw [Int.neg_tdiv, Int.tdiv_eq_ediv_of_nonneg (by omega)]; omega
    refine Ev.step (fun k => s_FormatInt_eq k _) (Ev.yes (by simp; omega) ?_)
    rw [e1, e2, wrap_id (x := -((u / 10 : Nat) : Int)) (by omega) (by omega)]
    refine Ev.ite (fun h => ?_) (fun h => ?_)
    · have h10 : u < 10 := by simp at h; omega
      have e3 : (48 : Int) - (-(u : Int)) = 48 + (u : Int) := by omega
      have e4 : (⟨#[45]⟩ : ByteArray) = strB [45] := rfl
      rw [e3, dig u h10, e4, strB_add, dec_small h10]
      exact Ev.yes (by rw [strB_size, strB_size]; rfl) (Ev.pure _)
    · have h10 : ¬ u < 10 := by simp at h; omega
      have e3 : (48 : Int) - (-((u % 10 : Nat) : Int)) = 48 + ((u % 10 : Nat) : Int) := by omega
      rw [dec_big h10] at hl ⊢
      simp only [List.length_append, List.length_singleton] at hl
      refine Ev.bind (ih (u / 10) (by omega) (by omega) (by omega)) ?_
      rw [e3, dig _ (Nat.mod_lt _ (by omega)), strB_add]
      exact Ev.yes (by rw [strB_size, strB_size]; simp; omega) (Ev.pure _)
theorem s_FormatInt_ev (n : Int) (hn : In n) : Ev (fun k => s_FormatInt k n) (itoaB n) := by
  unfold In at hn
  by_cases h : n < 0
  · have := s_FormatInt_neg n.natAbs (by omega) (by omega)
    have e : (-((n.natAbs : Nat) : Int)) = n := by omega
    rw [e] at this
    refine this.to ?_
    unfold itoaB Lib.itoa
    rw [if_pos h]
  · have hl := dec_len n.toNat (by omega)
    have := s_FormatInt_l6_ev n.toNat [] (by omega) (by simp; omega) (by simp; omega)
    have e : ((n.toNat : Nat) : Int) = n := by omega
    rw [e] at this
    refine Ev.step (fun k => s_FormatInt_eq k n) (Ev.no (by simpa using h) (this.to ?_))
    unfold itoaB Lib.itoa
    rw [if_neg h, List.append_nil]
theorem Itoa_ev (n : Int) (hn : In n) : Ev (fun k => strconv_Itoa k n) (itoaB n) := by
  refine Ev.congr (fun k => strconv_Itoa_eq k n) ?_
  unfold itoaF
  refine Ev.yes ?_ (Ev.pure _)
  unfold In at hn
  simp; exact hn
theorem i_FormatInt_ev (n : Int) (hn : In n) : Ev (fun k => i_FormatInt k n) (itoaB n) :=
  Ev.step (fun k => i_FormatInt_eq k n) (Ev.bind (Itoa_ev n hn) (Ev.pure _))
theorem itoaB_size (n : Int) (hn : In n) : (itoaB n).size ≤ 21 := by
  unfold In at hn
  rw [itoaB, strB_size]
  exact Lib.itoa_length_le n hn.1 hn.2
end Qq
namespace Qq
open Go Go.Vt Pt
set_option linter.unusedVariables false
set_option linter.unusedSimpArgs false
def bytesOf (x : ByteArray) : List UInt8 := x.data.toList
theorem strB_bytes (x : ByteArray) : strB (bytesOf x) = x := by unfold strB bytesOf; apply ByteArray.ext; simp
theorem bytes_len (x : ByteArray) : (bytesOf x).length = x.size := by unfold bytesOf; simp
def joinL (l : List ByteArray) (sep : ByteArray) : List UInt8 := Lib.join (l.map bytesOf) (bytesOf sep)
def joinB (l : List ByteArray) (sep : ByteArray) : ByteArray := strB (joinL l sep)
theorem joinTail_len {B S : Nat} (sep : List UInt8) (hs : sep.length ≤ S) : ∀ (r : List ByteArray), (∀ x ∈ r, x.size ≤ B) → (Lib.joinTail sep (r.map bytesOf)).length ≤ r.length * (B + S)
  | [], _ => by simp [Lib.joinTail]
  | x :: r, h => by
    have ih := joinTail_len sep hs r (fun y hy => h y (by simp [hy]))
    have hx := h x (by simp)
    have e : Lib.joinTail sep ((x :: r).map bytesOf) = (sep ++ bytesOf x) ++ Lib.joinTail sep (r.map bytesOf) := by simp [Lib.joinTail]
    rw [e, List.length_append, List.length_append, bytes_len, List.length_cons, Nat.add_mul, Nat.one_mul]
    omega
theorem join_len {B S : Nat} (sep : ByteArray) (hs : sep.size ≤ S) (l : List ByteArray) (h : ∀ x ∈ l, x.size ≤ B) : (joinL l sep).length ≤ l.length * (B + S) := by
  cases l with
  | nil => simp [joinL, Lib.join_nil]
  | cons x r =>
    have hx := h x (by simp)
    have := joinTail_len (B := B) (S := S) (bytesOf sep) (by rw [bytes_len]; exact hs) r (fun y hy => h y (by simp [hy]))
    unfold joinL
    rw [List.map_cons, Lib.join_cons, List.length_append, bytes_len, List.length_cons, Nat.add_mul, Nat.one_mul]
    omega
theorem s_Join_l3_ev (sep : ByteArray) (xs : List ByteArray) (hm : xs.length ≤ maxLen) : ∀ (r : List ByteArray) (i : Nat) (acc : List UInt8), xs.drop i = r → 1 ≤ i → acc.length + (Lib.joinTail (bytesOf sep) (r.map bytesOf)).length ≤ 9223372036854775807 →
    Ev (fun k => s_Join_l3 k sep (strB acc) xs (xs.length : Int) (i : Int)) (strB (acc ++ Lib.joinTail (bytesOf sep) (r.map bytesOf)))
  | [], i, acc, h, hi, hl => by
    have a := at_nil h
    refine Ev.step (fun k => s_Join_l3_eq k _ _ _ _ _) ?_
    simp only [a.g, cond_false]
    exact Ev.some (by simp [Lib.joinTail])
  | x :: r, i, acc, h, hi, hl => by
    have a := at_cons h hm
    have e : Lib.joinTail (bytesOf sep) ((x :: r).map bytesOf) = (bytesOf sep ++ bytesOf x) ++ Lib.joinTail (bytesOf sep) (r.map bytesOf) := by simp [Lib.joinTail]
    rw [e, List.length_append, List.length_append] at hl
    refine Ev.step (fun k => s_Join_l3_eq k _ _ _ _ _) ?_
    simp only [a.g, a.z, a.get, a.w, cond_true]
    have e1 : strB acc ++ sep = strB (acc ++ bytesOf sep) := by rw [← strB_add, strB_bytes]
    have e2 : strB (acc ++ bytesOf sep) ++ x = strB (acc ++ bytesOf sep ++ bytesOf x) := by rw [← strB_add (acc ++ bytesOf sep), strB_bytes]
    have l1 := bytes_len sep
    have l2 := bytes_len x
    refine Ev.yes (by simp; omega) (Ev.yes (by rw [strB_size]; simp; omega) ?_)
    rw [e1]
    refine Ev.yes (by rw [strB_size, List.length_append]; simp; omega) ?_
    rw [e2]
    have := s_Join_l3_ev sep xs hm r (i + 1) (acc ++ bytesOf sep ++ bytesOf x) a.next (by omega) (by rw [List.length_append, List.length_append]; omega)
    rw [e, ← List.append_assoc, ← List.append_assoc]
    exact this
theorem s_Join_ev (l : List ByteArray) (sep : ByteArray) (B : Nat) (hl : l.length ≤ 1048576) (hB : ∀ x ∈ l, x.size ≤ B) (hBB : B ≤ 100) (hs : sep.size ≤ 100) : Ev (fun k => s_Join k (l, sep)) (joinB l sep) := by
  refine Ev.step (fun k => s_Join_eq k l sep) ?_
  cases l with
  | nil =>
    refine Ev.step (fun k => s_Join_l3_eq k _ _ _ _ _) (Ev.no (by simp) (Ev.some ?_))
    rfl
  | cons x r =>
    have a := at_cons (xs := x :: r) (i := 0) rfl (by rw [maxLen_eq]; omega)
    refine Ev.step (fun k => s_Join_l3_eq k _ _ _ _ _) ?_
    have hx := hB x (by simp)
    refine Ev.yes a.g (Ev.yes (by simp) (Ev.yes a.g (Ev.no (by simp) ?_)))
    have e0 : (x :: r).getD (0 : Int).toNat (⟨#[]⟩ : ByteArray) = x := rfl
    have e1 : (⟨#[]⟩ : ByteArray) ++ x = strB (bytesOf x) := by rw [strB_bytes]; apply ByteArray.ext; simp
    have e2 : IntKind.i64.wrap ((0 : Int) + 1) = ((1 : Nat) : Int) := wrap_id (by omega) (by omega)
    rw [e0, e1, e2]
    refine Ev.yes (by show decide (0 + x.size ≤ _) = true; simp; omega) ?_
    have jl := joinTail_len (B := B) (S := 100) (bytesOf sep) (by rw [bytes_len]; exact hs) r (fun y hy => hB y (by simp [hy]))
    rw [List.length_cons] at hl
    have hmul : r.length * (B + 100) ≤ 1048576 * 200 := Nat.mul_le_mul (by omega) (by omega)
    refine (s_Join_l3_ev sep (x :: r) (by rw [maxLen_eq]; simp; omega) r 1 (bytesOf x) rfl (Nat.le_refl _) (by rw [bytes_len]; omega)).to ?_
    unfold joinB joinL
    rw [List.map_cons, Lib.join_cons]
theorem i_Join_ev (l : List ByteArray) (sep : ByteArray) (B : Nat) (hl : l.length ≤ 1048576) (hB : ∀ x ∈ l, x.size ≤ B) (hBB : B ≤ 100) (hs : sep.size ≤ 100) : Ev (fun k => i_Join k (l, sep)) (joinB l sep) := by
  refine Ev.step (fun k => i_Join_eq k l sep) (Ev.bind (Ev.congr (fun k => strings_Join_eq k l sep) ?_) (Ev.pure _))
  unfold joinF
  have jl := join_len (B := B) (S := 100) sep hs l hB
  have hmul : l.length * (B + 100) ≤ 1048576 * 200 := Nat.mul_le_mul hl (by omega)
  refine Ev.yes ?_ (Ev.pure _)
  rw [Bool.and_eq_true, decide_eq_true_eq, decide_eq_true_eq]
  exact ⟨by omega, by show (joinL l sep).length ≤ _; omega⟩
end Qq
namespace Qq
open Go Go.Vt Pt
set_option linter.unusedVariables false
set_option linter.unusedSimpArgs false
def moveOk (n : Int) (m : Int × Int) : Bool :=
  decide (1 ≤ n) && (decide (n ≤ 12) && (decide (0 ≤ m.2) &&
    (if m.1 = 1 then decide (m.2 ≤ n) else if m.1 = 2 then decide (m.2 ≤ n) else if m.1 = 3 then decide (m.2 ≤ n) else
     if m.1 = 4 then decide (m.2 ≤ 1) else if m.1 = 5 then decide (m.2 ≤ 1) else if m.1 = 7 then decide (m.2 ≤ 1) else
     if m.1 = 6 then m.2 == 0 else if m.1 = 8 then decide (m.2 < n) else if m.1 = 9 then decide (m.2 < n) else false)))
theorem i_MoveOk_ev (n : Int) (m : Int × Int) : Ev (fun k => i_MoveOk k (n, m)) (moveOk n m) := by
  obtain ⟨a, b⟩ := m
  refine Ev.step (fun k => i_MoveOk_eq k n (a, b)) ?_
  unfold moveOk
  refine Ev.ite (fun h => Ev.some ?_) (fun h => ?_)
  · have : ¬ 1 ≤ n := by simpa using h
    simp [this]
  have h1 : 1 ≤ n := by simpa using h
  refine Ev.ite (fun h => Ev.some ?_) (fun h => ?_)
  · have : ¬ n ≤ 12 := by simpa using h
    simp [this]
  have h2 : n ≤ 12 := by simpa using h
  refine Ev.ite (fun h => Ev.some ?_) (fun h => ?_)
  · have : ¬ 0 ≤ b := by simpa using h
    simp [this]
  have h3 : 0 ≤ b := by simpa using h
  clear h
  simp only [h1, h2, h3, decide_true, Bool.true_and]
  iterate 9 (refine Ev.ite (fun h => ?_) (fun h => ?_); · exact Ev.some (by simp at *; simp [*]))
  exact Ev.some (by simp at *; simp [*])
theorem s_MoveOk_ev (n : Int) (m : Int × Int) : Ev (fun k => s_MoveOk k (n, m)) (moveOk n m) := by
  obtain ⟨a, b⟩ := m
  refine Ev.step (fun k => s_MoveOk_eq k n (a, b)) (Ev.bind (l01In_ev _ _ _) ?_)
  unfold moveOk
  refine Ev.ite (fun h => ?_) (fun h => ?_)
  · exact Ev.some (by rw [Bool.eq_iff_iff]; simp at *; omega)
  have hn : 1 ≤ n ∧ n ≤ 12 := by simpa using h
  iterate 6 (refine Ev.ite (fun h => ?_) (fun h => ?_); · exact Ev.bind (l01In_ev _ _ _) (Ev.some (by rw [Bool.eq_iff_iff]; simp at *; try simp [*]; try (intros; omega))))
  refine Ev.ite (fun h => ?_) (fun h => ?_)
  · exact Ev.some (by rw [Bool.eq_iff_iff]; simp at *; try simp [*]; try (intros; omega))
  rw [wrap_id (by omega) (by omega)]
  iterate 2 (refine Ev.ite (fun h => ?_) (fun h => ?_); · exact Ev.bind (l01In_ev _ _ _) (Ev.some (by rw [Bool.eq_iff_iff]; simp at *; try simp [*]; try (intros; omega))))
  exact Ev.some (by rw [Bool.eq_iff_iff]; simp at *; try simp [*]; try (intros; omega))
def stepOk (n : Int) (s : Int × (Int × Int) × Int) : Bool :=
  decide (1 ≤ n) && (decide (n ≤ 12) &&
    (if s.1 = 1 then moveOk n s.2.1 && s.2.2 == 0 else
     if s.1 = 2 then s.2.1.1 == 0 && (s.2.1.2 == 0 && (decide (0 ≤ s.2.2) && (decide (s.2.2 ≤ 4) && ((!(s.2.2 == 3) || decide (2 ≤ n)) && (!(s.2.2 == 2) || decide (n ≤ 7)))))) else
     if s.1 = 3 then s.2.1.1 == 0 && (s.2.1.2 == 0 && (decide (0 ≤ s.2.2) && decide (s.2.2 < n))) else false))
theorem i_StepOk_ev (n : Int) (s : Int × (Int × Int) × Int) : Ev (fun k => i_StepOk k (n, s)) (stepOk n s) := by
  obtain ⟨t, ⟨a, b⟩, c⟩ := s
  refine Ev.step (fun k => i_StepOk_eq k n (t, (a, b), c)) ?_
  unfold stepOk
  refine Ev.ite (fun h => Ev.some ?_) (fun h => ?_)
  · have : ¬ 1 ≤ n := by simpa using h
    simp [this]
  have h1 : 1 ≤ n := by simpa using h
  refine Ev.ite (fun h => Ev.some ?_) (fun h => ?_)
  · have : ¬ n ≤ 12 := by simpa using h
    simp [this]
  have h2 : n ≤ 12 := by simpa using h
  clear h
  simp only [h1, h2, decide_true, Bool.true_and]
  refine Ev.ite (fun h => ?_) (fun h => ?_)
  · have e : t = 1 := by simpa using h
    subst e
    exact Ev.bind (i_MoveOk_ev n (a, b)) (Ev.ite (fun h => Ev.some (by simp at *; simp [*])) (fun h => Ev.some (by simp at *; simp [*])))
  have t1 : ¬ t = 1 := by simpa using h
  simp only [t1, if_false]
  repeat (first | (refine Ev.ite (fun h => ?_) (fun h => ?_)) | focus (refine Ev.some ?_; simp_all; done) | focus (refine Ev.some ?_; simp_all; omega) | focus (refine Ev.some ?_; rw [Bool.eq_iff_iff]; simp at *; omega))
theorem l16Choice_ev (n c : Int) : Ev (fun k => s_l16Choice k (n, c)) (decide (0 ≤ c) && (decide (c ≤ 4) && ((!(c == 3) || decide (2 ≤ n)) && (!(c == 2) || decide (n ≤ 7))))) := by
  refine Ev.step (fun k => s_l16Choice_eq k n c) (Ev.bind (l01In_ev _ _ _) ?_)
  repeat (first | (refine Ev.ite (fun h => ?_) (fun h => ?_)) | focus (refine Ev.some ?_; simp_all; done) | focus (refine Ev.some ?_; simp_all; omega) | focus (refine Ev.some ?_; rw [Bool.eq_iff_iff]; simp at *; omega))
theorem s_StepOk_ev (n : Int) (s : Int × (Int × Int) × Int) : Ev (fun k => s_StepOk k (n, s)) (stepOk n s) := by
  obtain ⟨t, ⟨a, b⟩, c⟩ := s
  refine Ev.step (fun k => s_StepOk_eq k n (t, (a, b), c)) (Ev.bind (l01In_ev _ _ _) ?_)
  unfold stepOk
  refine Ev.ite (fun h => Ev.some ?_) (fun h => ?_)
  · rcases Int.lt_or_le n 1 with h1 | h1
    · have : ¬ 1 ≤ n := by omega
      simp [this]
    · have : ¬ n ≤ 12 := by simp at h; omega
      simp [this]
  have hn : 1 ≤ n ∧ n ≤ 12 := by simpa using h
  clear h
  simp only [hn.1, hn.2, decide_true, Bool.true_and]
  refine Ev.ite (fun h => ?_) (fun h => ?_)
  · have e : t = 1 := by simpa using h
    subst e
    exact Ev.bind (s_MoveOk_ev n (a, b)) (Ev.ite (fun h => Ev.some (by simp at *; simp [*])) (fun h => Ev.some (by simp at *; simp [*])))
  have t1 : ¬ t = 1 := by simpa using h
  simp only [t1, if_false]
  clear h
  rw [wrap_id (by omega) (by omega)]
  refine Ev.ite (fun h => ?_) (fun h => ?_)
  · have e : t = 2 := by simpa using h
    subst e
    refine Ev.ite (fun h => ?_) (fun h => Ev.some ?_)
    · exact Ev.bind (l16Choice_ev n c) (Ev.some (by simp at *; simp [*]))
    · cases ha : (a == 0) <;> cases hb : (b == 0) <;> simp_all
  have t2 : ¬ t = 2 := by simpa using h
  simp only [t2, if_false]
  clear h
  refine Ev.ite (fun h => ?_) (fun h => ?_)
  · have e : t = 3 := by simpa using h
    subst e
    refine Ev.ite (fun h => ?_) (fun h => Ev.some ?_)
    · refine Ev.bind (l01In_ev _ _ _) (Ev.some ?_)
      have e2 : decide (c ≤ n - 1) = decide (c < n) := by rw [Bool.eq_iff_iff]; simp; omega
      simp at h
      simp [h, e2]
    · cases ha : (a == 0) <;> cases hb : (b == 0) <;> simp_all
  · have t3 : ¬ t = 3 := by simpa using h
    exact Ev.some (by simp [t3])
theorem toMove_ev (m : Int × Int) : Ev (fun k => w_toMove k m) m := Ev.step (fun k => w_toMove_eq k m) (Ev.pure _)
theorem toStep_ev (s : Int × (Int × Int) × Int) : Ev (fun k => w_toStep k s) (s.1, (s.2.1.1, (s.2.1.2, s.2.2))) := Ev.step (fun k => w_toStep_eq k s) (Ev.bind (toMove_ev _) (Ev.pure _))
end Qq
namespace Qq
open Go Go.Vt Pt
set_option linter.unusedVariables false
set_option linter.unusedSimpArgs false
abbrev Step : Type := Int × (Int × Int) × Int
abbrev Trick : Type := List Int × List Step × Int × Int × Int
theorem szStepS_ev (xs : List Step) (n : Int) (hx : xs.length ≤ maxLen) (hn : 0 ≤ n) (hn2 : n ≤ 1048576) :
    Ev (fun k => w_szStepS k (xs, n)) (if n - (xs.length : Int) < 0 then -1 else n - xs.length) := by
  rw [maxLen_eq] at hx
  refine Ev.step (fun k => w_szStepS_eq k xs n) ?_
  rw [wrap_id (by omega) (by omega)]
  split
  · rename_i h; exact Ev.yes (by simpa using h) (Ev.pure _)
  · rename_i h; exact Ev.no (by simpa using h) (Ev.pure _)
/-- What is left behind a trick; below 0: it's too great. -/
def szTrick (t : Trick) (n : Int) : Int := if n - (t.1.length : Int) < 0 then -1 else if n - (t.1.length : Int) - (t.2.1.length : Int) < 0 then -1 else n - (t.1.length : Int) - (t.2.1.length : Int)
theorem szTrick_ev (t : Trick) (n : Int) (h1 : t.1.length ≤ maxLen) (h2 : t.2.1.length ≤ maxLen) (hn : 0 ≤ n) (hn2 : n ≤ 1048576) : Ev (fun k => w_szTrick k (t, n)) (szTrick t n) := by
  refine Ev.step (fun k => w_szTrick_eq k t n) (Ev.bind (szIntS_ev t.1 n h1 hn hn2) ?_)
  unfold szTrick
  split
  · exact Ev.yes rfl (Ev.pure _)
  · rename_i h
    refine Ev.no (by simpa using h) (Ev.bind (szStepS_ev t.2.1 _ h2 (by omega) (by omega)) ?_)
    split
    · exact Ev.yes rfl (Ev.pure _)
    · rename_i h'; exact Ev.no (by simpa using h') (Ev.pure _)
theorem szTrick_fit {t : Trick} {n : Int} (hn : n ≤ 1048576) (h : ¬ szTrick t n < 0) : t.1.length ≤ 1048576 ∧ t.2.1.length ≤ 1048576 ∧ 0 ≤ szTrick t n ∧ szTrick t n ≤ n := by
  unfold szTrick at *
  split at h <;> rename_i h1
  · exact absurd (by decide) h
  · split at h <;> rename_i h2
    · exact absurd (by decide) h
    · rw [if_neg h1, if_neg h2]; omega
theorem toStepS_l3_ev (xs : List Step) (hm : xs.length ≤ maxLen) : ∀ (r : List Step) (i : Nat) (ys : List Step), xs.drop i = r → ys.length = xs.length → ys.take i = xs.take i → Ev (fun k => w_toStepS_l3 k xs (i : Int) ys) xs
  | [], i, ys, h, hl, ht => by
    have a := at_nil h
    refine Ev.step (fun k => w_toStepS_l3_eq k xs i ys) ?_
    simp only [a.g, cond_false]
    have e : ys = xs := by
      have := a.ge
      rwa [List.take_of_length_le (by omega), List.take_of_length_le (by omega)] at ht
    exact Ev.some e
  | x :: r, i, ys, h, hl, ht => by
    have a := at_cons h hm
    have b1 : decide ((i : Int) < (ys.length : Int)) = true := by rw [hl]; exact a.g
    have b2 : decide ((i : Int).toNat < ys.length) = true := by rw [hl]; exact a.n
    refine Ev.step (fun k => w_toStepS_l3_eq k xs i ys) ?_
    simp only [a.g, a.z, cond_true]
    refine Ev.bind (toStep_ev _) ?_
    simp only [b1, b2, a.w, a.get, cond_true]
    have hs := set_get (n := 0) (d := (0, ((0, 0), 0))) a.lt hl ht
    have g := a.get (0, ((0, 0), 0))
    rw [Int.toNat_natCast] at g
    rw [g] at hs
    exact toStepS_l3_ev xs hm r (i + 1) _ a.next (by simp [hl]) (by simpa using hs)
theorem toStepS_ev (xs : List Step) (hm : xs.length ≤ 1048576) : Ev (fun k => w_toStepS k xs) xs := by
  refine Ev.step (fun k => w_toStepS_eq k xs) (Ev.yes (by simp) (Ev.yes (by rw [rowMax_eq]; simp; omega) (Ev.yes (by simp) ?_)))
  exact toStepS_l3_ev xs (by rw [maxLen_eq]; omega) xs 0 _ rfl (by simp) (by simp)
theorem toTrick_ev (t : Trick) (h1 : t.1.length ≤ 1048576) (h2 : t.2.1.length ≤ 1048576) : Ev (fun k => w_toTrick k t) t :=
  Ev.step (fun k => w_toTrick_eq k t) (Ev.bind (toIntS_ev _ h1) (Ev.bind (toStepS_ev _ h2) (Ev.pure _)))
theorem eqStep_ev (s t : Step) : Ev (fun k => w_eqStep k (s, t)) (s == t) := by
  obtain ⟨a, ⟨b, c⟩, d⟩ := s
  obtain ⟨a', ⟨b', c'⟩, d'⟩ := t
  refine Ev.step (fun k => w_eqStep_eq k _ _) ?_
  have hm : Ev (fun k => w_eqMove k ((b, c), (b', c'))) ((b, c) == (b', c')) := by
    refine Ev.step (fun k => w_eqMove_eq k _ _) ?_
    repeat (first | (refine Ev.ite (fun h => ?_) (fun h => ?_)) | focus (refine Ev.some ?_; simp_all; done))
  refine Ev.ite (fun h => Ev.some ?_) (fun h => Ev.bind hm ?_)
  · have : ¬ a = a' := by simpa using h
    simp [this]
  · repeat (first | (refine Ev.ite (fun h => ?_) (fun h => ?_)) | focus (refine Ev.some ?_; simp_all; done))
theorem eqStepS_l4_ev (xs ys : List Step) (hx : xs.length ≤ maxLen) (hy : ys.length ≤ maxLen) : ∀ (r s : List Step) (i : Nat), xs.drop i = r → ys.drop i = s → s.length = r.length → Ev (fun k => w_eqStepS_l4 k xs ys (i : Int)) (r == s)
  | [], [], i, h1, h2, hl => by
    have a := at_nil h1
    refine Ev.step (fun k => w_eqStepS_l4_eq k xs ys i) ?_
    simp only [a.g, cond_false]
    exact Ev.pure _
  | x :: r, y :: s, i, h1, h2, hl => by
    have a := at_cons h1 hx
    have b := at_cons h2 hy
    refine Ev.step (fun k => w_eqStepS_l4_eq k xs ys i) ?_
    simp only [a.g, a.z, b.g, a.get, b.get, a.w, cond_true]
    have ih := eqStepS_l4_ev xs ys hx hy r s (i + 1) a.next b.next (by simpa using hl)
    refine Ev.bind (eqStep_ev x y) (Ev.ite (fun h => Ev.some ?_) (fun h => ih.to ?_))
    · have : ¬ x = y := by simpa using h
      simp [this]
    · have : x = y := by simpa using h
      simp [this]
  | [], _ :: _, _, _, _, hl => by simp at hl
  | _ :: _, [], _, _, _, hl => by simp at hl
theorem eqStepS_ev (xs ys : List Step) (hx : xs.length ≤ maxLen) (hy : ys.length ≤ maxLen) : Ev (fun k => w_eqStepS k (xs, ys)) (xs == ys) := by
  refine Ev.step (fun k => w_eqStepS_eq k xs ys) (Ev.ite (fun h => Ev.some ?_) (fun h => eqStepS_l4_ev xs ys hx hy xs ys 0 rfl rfl ?_))
  · have h' : ¬ xs.length = ys.length := by simp at h; omega
    have : ¬ xs = ys := fun e => h' (by rw [e])
    simp [this]
  · simp at h; omega
theorem eqTrick_ev (t u : Trick) (h1 : t.1.length ≤ maxLen) (h2 : t.2.1.length ≤ maxLen) (h3 : u.1.length ≤ maxLen) (h4 : u.2.1.length ≤ maxLen) : Ev (fun k => w_eqTrick k (t, u)) (t == u) := by
  obtain ⟨a, b, c, d, e⟩ := t
  obtain ⟨a', b', c', d', e'⟩ := u
  refine Ev.step (fun k => w_eqTrick_eq k _ _) (Ev.bind (eqIntS_ev _ _ h1 h3) ?_)
  refine Ev.ite (fun h => Ev.some ?_) (fun h => Ev.bind (eqStepS_ev _ _ h2 h4) ?_)
  · have : ¬ a = a' := by simpa using h
    simp [this]
  · have ea : a = a' := by simpa using h
    subst ea
    refine Ev.ite (fun h => Ev.some ?_) (fun h => ?_)
    · have : ¬ b = b' := by simpa using h
      simp [this]
    · have eb : b = b' := by simpa using h
      subst eb
      repeat (first | (refine Ev.ite (fun h => ?_) (fun h => ?_)) | focus (refine Ev.some ?_; simp_all; done))
end Qq
namespace Qq
open Go Go.Vt Pt
set_option linter.unusedVariables false
set_option linter.unusedSimpArgs false
theorem l02Has_l2_ev (x : Int) (xs : List Int) (hm : xs.length ≤ maxLen) : ∀ (r : List Int) (i : Nat), xs.drop i = r → Ev (fun k => s_l02Has_l2 k x xs (xs.length : Int) (i : Int)) (r.contains x)
  | [], i, h => by
    have a := at_nil h
    refine Ev.step (fun k => s_l02Has_l2_eq k x xs _ i) ?_
    simp only [a.g, cond_false]
    exact Ev.pure _
  | y :: r, i, h => by
    have a := at_cons h hm
    refine Ev.step (fun k => s_l02Has_l2_eq k x xs _ i) ?_
    simp only [a.g, a.z, a.get, a.w, cond_true]
    refine Ev.ite (fun h => Ev.some ?_) (fun h => (l02Has_l2_ev x xs hm r (i + 1) a.next).to ?_)
    · have : y = x := by simpa using h
      simp [this]
    · have : ¬ y = x := by simpa using h
      have h2 : ¬ x = y := fun e => this e.symm
      simp [h2]
theorem l02Has_ev (xs : List Int) (x : Int) (hm : xs.length ≤ maxLen) : Ev (fun k => s_l02Has k (xs, x)) (xs.contains x) :=
  Ev.step (fun k => s_l02Has_eq k xs x) (l02Has_l2_ev x xs hm xs 0 rfl)
end Qq
namespace Qq
open Go Go.Vt Pt
set_option linter.unusedVariables false
set_option linter.unusedSimpArgs false
theorem nodup_len : ∀ (n : Nat) (l : List Int), l.Nodup → (∀ x ∈ l, 0 ≤ x ∧ x < (n : Int)) → l.length ≤ n
  | 0, l, _, h => by
    cases l with
    | nil => simp
    | cons x l => have := h x (by simp); omega
  | n + 1, l, hd, h => by
    have h1 := nodup_len n (l.erase (n : Int)) (hd.erase _) (fun x hx => by
      have hx' := (hd.mem_erase_iff).1 hx
      have := h x hx'.2
      have : x ≠ (n : Int) := hx'.1
      omega)
    have h2 := List.length_erase (a := (n : Int)) (l := l)
    split at h2 <;> omega
end Qq
namespace Qq
open Go Go.Vt Pt
set_option linter.unusedVariables false
set_option linter.unusedSimpArgs false
def card (x : Int) : Int := if 0 ≤ x ∧ x ≤ 11 then x else if -12 ≤ x ∧ x ≤ -1 then -1 - x else -1
theorem card_lt (x : Int) : -1 ≤ card x ∧ card x ≤ 11 := by unfold card; split; · omega
                                                            split <;> omega
theorem s_CardOf_ev (x : Int) : Ev (fun k => s_CardOf k x) (card x) := by
  refine Ev.step (fun k => s_CardOf_eq k x) (Ev.bind (l01In_ev _ _ _) (Ev.ite (fun h => Ev.some ?_) (fun h => Ev.bind (l01In_ev _ _ _) (Ev.ite (fun h' => ?_) (fun h' => Ev.some ?_)))))
  · have : 0 ≤ x ∧ x ≤ 11 := by simpa using h
    simp [card, this]
  · have h1 : ¬ (0 ≤ x ∧ x ≤ 11) := by simp at h; omega
    have h2 : -12 ≤ x ∧ x ≤ -1 := by simpa using h'
    rw [wrap_id (by omega) (by omega)]
    exact Ev.some (by unfold card; rw [if_neg h1, if_pos h2])
  · have h1 : ¬ (0 ≤ x ∧ x ≤ 11) := by simp at h; omega
    have h2 : ¬ (-12 ≤ x ∧ x ≤ -1) := by simp at h'; omega
    unfold card; rw [if_neg h1, if_neg h2]
theorem i_CardOf_ev (x : Int) (hx : In x) : Ev (fun k => i_CardOf k x) (card x) := by
  obtain ⟨a, b⟩ := hx
  refine Ev.step (fun k => i_CardOf_eq k x) ?_
  refine Ev.ite (fun h => ?_) (fun h => ?_)
  · have h1 : x < 0 := by simpa using h
    rw [wrap_id (by omega) (by omega)]
    have h2 : ¬ (0 ≤ x ∧ x ≤ 11) := by omega
    refine Ev.ite (fun h' => Ev.some ?_) (fun h' => Ev.some ?_)
    · have h3 : ¬ (-12 ≤ x ∧ x ≤ -1) := by simp at h'; omega
      unfold card; rw [if_neg h2, if_neg h3]
    · have h3 : (-12 ≤ x ∧ x ≤ -1) := by simp at h'; omega
      unfold card; rw [if_neg h2, if_pos h3]
  · have h1 : ¬ x < 0 := by simpa using h
    have h3 : ¬ (-12 ≤ x ∧ x ≤ -1) := by omega
    refine Ev.ite (fun h' => Ev.some ?_) (fun h' => Ev.some ?_)
    · have h2 : ¬ (0 ≤ x ∧ x ≤ 11) := by simp at h'; omega
      unfold card; rw [if_neg h2, if_neg h3]
    · have h2 : (0 ≤ x ∧ x ≤ 11) := by simp at h'; omega
      unfold card; rw [if_pos h2]
def pk : List Int → List Int → Bool
  | _, [] => true
  | done, x :: r => decide (0 ≤ card x) && (!(done.contains (card x)) && pk (done ++ [card x]) r)
def packetOk (p : List Int) : Bool := pk [] p
theorem pk_nodup : ∀ (r done : List Int), done.Nodup → pk done r = true → (done ++ r.map card).Nodup ∧ ∀ x ∈ r, 0 ≤ card x
  | [], done, hd, h => by simp [hd]
  | x :: r, done, hd, h => by
    unfold pk at h
    simp only [Bool.and_eq_true, decide_eq_true_eq, Bool.not_eq_true'] at h
    obtain ⟨h1, h3, h4⟩ := h
    have hx : card x ∉ done := by simpa using h3
    obtain ⟨k1, k2⟩ := pk_nodup r (done ++ [card x]) (by
      rw [List.nodup_append]
      exact ⟨hd, by simp, fun a ha b hb e => by simp at hb; subst hb; subst e; exact hx ha⟩) h4
    refine ⟨by simpa using k1, fun y hy => ?_⟩
    rcases List.mem_cons.1 hy with rfl | hy
    · exact h1
    · exact k2 y hy
theorem packetOk_fit {p : List Int} (h : packetOk p = true) : (p.map card).Nodup ∧ (∀ x ∈ p, 0 ≤ card x ∧ card x ≤ 11) ∧ p.length ≤ 12 := by
  obtain ⟨k1, k2⟩ := pk_nodup p [] (by simp) h
  have k1' : (p.map card).Nodup := by simpa using k1
  have k3 := nodup_len 12 (p.map card) k1' (fun x hx => by
    obtain ⟨y, hy, rfl⟩ := List.mem_map.1 hx
    have := k2 y hy
    have := card_lt y
    omega)
  exact ⟨k1', fun x hx => ⟨k2 x hx, (card_lt x).2⟩, by simpa using k3⟩
theorem s_PacketOk_l5_ev (xs : List Int) (hm : xs.length ≤ 12) : ∀ (r : List Int) (i : Nat) (done : List Int), xs.drop i = r → done.length = i → Ev (fun k => s_PacketOk_l5 k xs (xs.length : Int) (i : Int) done) (pk done r)
  | [], i, done, h, hd => by
    have a := at_nil h
    refine Ev.step (fun k => s_PacketOk_l5_eq k _ _ _ _) ?_
    simp only [a.g, cond_false]
    exact Ev.pure _
  | x :: r, i, done, h, hd => by
    have a := at_cons h (by rw [maxLen_eq]; omega)
    have hlt := a.lt
    refine Ev.step (fun k => s_PacketOk_l5_eq k _ _ _ _) ?_
    simp only [a.g, a.z, a.get, a.w, cond_true]
    unfold pk
    refine Ev.bind (s_CardOf_ev x) (Ev.ite (fun c => Ev.some ?_) (fun c => Ev.bind (l02Has_ev done (card x) (by rw [maxLen_eq]; omega)) (Ev.ite (fun c2 => Ev.some ?_) (fun c2 => Ev.yes (by rw [rowMax_eq]; simp; omega) ?_))))
    · have : ¬ 0 ≤ card x := by simpa using c
      simp [this]
    · simp only [c2, Bool.not_true, Bool.false_and, Bool.and_false]
    · have e1 : decide (0 ≤ card x) = true := by simpa using c
      rw [e1, c2]
      exact s_PacketOk_l5_ev xs hm r (i + 1) _ a.next (by simp [hd])
theorem s_PacketOk_ev (p : List Int) (hm : p.length ≤ maxLen) : Ev (fun k => s_PacketOk k p) (packetOk p) := by
  refine Ev.step (fun k => s_PacketOk_eq k p) (Ev.ite (fun h => Ev.some ?_) (fun h => ?_))
  · symm
    rw [Bool.eq_false_iff]
    intro hp
    have := (packetOk_fit hp).2.2
    simp at h; omega
  · exact s_PacketOk_l5_ev p (by simp at h; omega) p 0 [] rfl rfl
/-- The cards that were met. -/
def metL (done : List Int) : List Bool := (List.range 12).map fun (c : Nat) => done.contains (c : Int)
theorem metL_len (done : List Int) : (metL done).length = 12 := by simp [metL]
theorem metL_get (done : List Int) (c : Nat) (h : c < 12) (d : Bool) : (metL done).getD c d = done.contains (c : Int) := by
  simp [metL, List.getD, h]
theorem metL_set (done : List Int) (c : Nat) (h : c < 12) : (metL done).set c true = metL (done ++ [(c : Int)]) := by
  apply List.ext_getElem?
  intro x
  rw [List.getElem?_set]
  by_cases hx : x < 12
  · by_cases e : c = x
    · subst e; simp [metL, h]
    · have : ¬ x = c := fun h => e h.symm
      simp [metL, hx, e, this]; intro h; omega
  · rw [if_neg (by omega), List.getElem?_eq_none (by rw [metL_len]; omega), List.getElem?_eq_none (by rw [metL_len]; omega)]
theorem i_PacketOk_l3_ev (xs : List Int) (hm : xs.length ≤ maxLen) (hi : Ins xs) : ∀ (r : List Int) (i : Nat) (done : List Int), xs.drop i = r → Ev (fun k => i_PacketOk_l3 k xs (xs.length : Int) (i : Int) (metL done)) (pk done r)
  | [], i, done, h => by
    have a := at_nil h
    refine Ev.step (fun k => i_PacketOk_l3_eq k _ _ _ _) ?_
    simp only [a.g, cond_false]
    exact Ev.pure _
  | x :: r, i, done, h => by
    have a := at_cons h hm
    refine Ev.step (fun k => i_PacketOk_l3_eq k _ _ _ _) ?_
    simp only [a.g, a.z, a.get, a.w, cond_true]
    unfold pk
    refine Ev.bind (i_CardOf_ev x (hi x a.mem)) (Ev.ite (fun c => Ev.some ?_) (fun c => ?_))
    · have : ¬ 0 ≤ card x := by simpa using c
      simp [this]
    · have hc : 0 ≤ card x := by simpa using c
      have hc2 := (card_lt x).2
      have en : card x = ((card x).toNat : Int) := by omega
      have g1 : decide (0 ≤ card x) = true := by simp [hc]
      have g2 : decide (card x < ((metL done).length : Int)) = true := by rw [metL_len]; simp; omega
      have g3 : decide ((card x).toNat < (metL done).length) = true := by rw [metL_len]; simp; omega
      have g4 : (Nat.beq (metL done).length 12 && true) = true := by rw [metL_len]; rfl
      have g5 := metL_get done (card x).toNat (by omega) false
      rw [← en] at g5
      have g6 := metL_set done (card x).toNat (by omega)
      rw [← en] at g6
      simp only [g1, g2, g3, g4, g5, g6, cond_true, Bool.true_and]
      refine Ev.ite (fun c2 => Ev.some ?_) (fun c2 => ?_)
      · rw [c2]; rfl
      · rw [c2]
        exact i_PacketOk_l3_ev xs hm hi r (i + 1) _ a.next
theorem i_PacketOk_ev (p : List Int) (hm : p.length ≤ maxLen) (hi : Ins p) : Ev (fun k => i_PacketOk k p) (packetOk p) :=
  Ev.step (fun k => i_PacketOk_eq k p) (i_PacketOk_l3_ev p hm hi p 0 [] rfl)
def posF (c : Int) : Nat → List Int → Int
  | _, [] => -1
  | i, y :: r => if card y = c then (i : Int) else posF c (i + 1) r
/-- Where a card lies, or -1. -/
def pos (p : List Int) (c : Int) : Int := if c < 0 then -1 else posF c 0 p
theorem s_PositionOf_l2_neg (c : Int) (xs : List Int) (hm : xs.length ≤ maxLen) (hc : c < 0) : ∀ (r : List Int) (i : Nat), xs.drop i = r → Ev (fun k => s_PositionOf_l2 k c xs (xs.length : Int) (i : Int)) (-1)
  | [], i, h => by
    have a := at_nil h
    refine Ev.step (fun k => s_PositionOf_l2_eq k _ _ _ _) ?_
    simp only [a.g, cond_false]
    exact Ev.pure _
  | x :: r, i, h => by
    have a := at_cons h hm
    have ih := s_PositionOf_l2_neg c xs hm hc r (i + 1) a.next
    refine Ev.step (fun k => s_PositionOf_l2_eq k _ _ _ _) ?_
    simp only [a.g, a.z, a.get, a.w, cond_true]
    exact Ev.bind (s_CardOf_ev x) (Ev.ite (fun _ => Ev.no (by simp; omega) ih) (fun _ => ih))
theorem s_PositionOf_l2_ev (c : Int) (xs : List Int) (hm : xs.length ≤ maxLen) (hc : 0 ≤ c) : ∀ (r : List Int) (i : Nat), xs.drop i = r → Ev (fun k => s_PositionOf_l2 k c xs (xs.length : Int) (i : Int)) (posF c i r)
  | [], i, h => by
    have a := at_nil h
    refine Ev.step (fun k => s_PositionOf_l2_eq k _ _ _ _) ?_
    simp only [a.g, cond_false]
    exact Ev.pure _
  | x :: r, i, h => by
    have a := at_cons h hm
    have ih := s_PositionOf_l2_ev c xs hm hc r (i + 1) a.next
    refine Ev.step (fun k => s_PositionOf_l2_eq k _ _ _ _) ?_
    simp only [a.g, a.z, a.get, a.w, cond_true]
    unfold posF
    refine Ev.bind (s_CardOf_ev x) (Ev.ite (fun h => Ev.yes (by simp; omega) (Ev.some ?_)) (fun h => ih.to ?_))
    · have : card x = c := by simpa using h
      rw [if_pos this]
    · have : ¬ card x = c := by simpa using h
      rw [if_neg this]
theorem s_PositionOf_ev (p : List Int) (c : Int) (hm : p.length ≤ maxLen) : Ev (fun k => s_PositionOf k (p, c)) (pos p c) := by
  refine Ev.step (fun k => s_PositionOf_eq k p c) ?_
  unfold pos
  by_cases hc : c < 0
  · rw [if_pos hc]; exact s_PositionOf_l2_neg c p hm hc p 0 rfl
  · rw [if_neg hc]; exact s_PositionOf_l2_ev c p hm (by omega) p 0 rfl
theorem i_PosFunc_l2_ev (c : Int) (xs : List Int) (hm : xs.length ≤ maxLen) (hi : Ins xs) : ∀ (r : List Int) (i : Nat), xs.drop i = r → Ev (fun k => slices_IndexFunc_int_of_i_PositionOf_1_l2 k xs c (xs.length : Int) (i : Int)) (posF c i r)
  | [], i, h => by
    have a := at_nil h
    refine Ev.step (fun k => slices_IndexFunc_int_of_i_PositionOf_1_l2_eq k _ _ _ _) ?_
    simp only [a.g, cond_false]
    exact Ev.pure _
  | x :: r, i, h => by
    have a := at_cons h hm
    have ih := i_PosFunc_l2_ev c xs hm hi r (i + 1) a.next
    refine Ev.step (fun k => slices_IndexFunc_int_of_i_PositionOf_1_l2_eq k _ _ _ _) ?_
    simp only [a.g, a.z, a.get, a.w, cond_true]
    unfold posF
    have h1 : Ev (fun k => i_PositionOf_1 k (x, c)) (card x == c) := Ev.step (fun k => i_PositionOf_1_eq k x c) (Ev.bind (i_CardOf_ev x (hi x a.mem)) (Ev.pure _))
    refine Ev.bind h1 (Ev.ite (fun h => Ev.some ?_) (fun h => ih.to ?_))
    · have : card x = c := by simpa using h
      rw [if_pos this]
    · have : ¬ card x = c := by simpa using h
      rw [if_neg this]
theorem i_PositionOf_ev (p : List Int) (c : Int) (hm : p.length ≤ maxLen) (hi : Ins p) : Ev (fun k => i_PositionOf k (p, c)) (pos p c) := by
  refine Ev.step (fun k => i_PositionOf_eq k p c) ?_
  unfold pos
  refine Ev.ite (fun h => Ev.some ?_) (fun h => Ev.bind (Ev.step (fun k => slices_IndexFunc_int_of_i_PositionOf_1_eq k p c) (i_PosFunc_l2_ev c p hm hi p 0 rfl)) (Ev.some ?_))
  · have : c < 0 := by simpa using h
    rw [if_pos this]
  · have : ¬ c < 0 := by simpa using h
    rw [if_neg this]
end Qq
namespace Qq
open Go Go.Vt Pt
set_option linter.unusedVariables false
set_option linter.unusedSimpArgs false
abbrev TrickTy : Ty := .pair (.slice (.int .i64)) (.pair (.slice (.pair (.int .i64) (.pair (.pair (.int .i64) (.int .i64)) (.int .i64)))) (.pair (.int .i64) (.pair (.int .i64) (.int .i64))))
def claimOk (n : Int) (p : List Int) (noted : Bool) (c a b : Int) : Bool :=
  if c = 0 then a == 0 && b == 0 else
  if c = 4 then a == 0 && b == 0 else
  if c = 1 then noted && (decide (0 ≤ a) && (decide (a < n) && b == 0)) else
  if c = 2 then decide (0 ≤ a) && (decide (a ≤ n) && b == 0) else
  if c = 3 then decide (0 ≤ pos p a) && (decide (0 ≤ b) && decide (b < n)) else false
def stepsOk (n : Int) (l : List Step) : Bool := l.all (stepOk n)
def hasNote (l : List Step) : Bool := l.any fun s => s.1 == 3
def trickOk (t : Trick) : Bool :=
  packetOk t.1 && (!(t.1.length == 0) && (decide (t.2.1.length ≤ 12) && (stepsOk t.1.length t.2.1 && claimOk t.1.length t.1 (hasNote t.2.1) t.2.2.1 t.2.2.2.1 t.2.2.2.2)))
theorem claim_s (p : List Int) (st : List Step) (c a b n : Int) (nt : Bool) (hp : p.length ≤ maxLen) (hn : n = p.length) : Ev (fun k => s_l16Claim k ((p, st, c, a, b), n, nt)) (claimOk n p nt c a b) := by
  have hw : IntKind.i64.wrap (n - 1) = n - 1 := by rw [maxLen_eq] at hp; exact wrap_id (by omega) (by omega)
  refine Ev.step (fun k => s_l16Claim_eq k _ n nt) ?_
  unfold claimOk
  dsimp only
  rw [hw]
  refine Ev.ite (fun h => ?_) (fun h => ?_)
  · have e : c = 0 := by simpa using h
    rw [if_pos e]
    refine Ev.ite (fun h => Ev.some ?_) (fun h => Ev.some ?_) <;> simp [h]
  have e0 : ¬ c = 0 := by simpa using h
  rw [if_neg e0]
  refine Ev.ite (fun h => ?_) (fun h => ?_)
  · have e : c = 4 := by simpa using h
    rw [if_pos e]
    refine Ev.ite (fun h => Ev.some ?_) (fun h => Ev.some ?_) <;> simp [h]
  have e4 : ¬ c = 4 := by simpa using h
  rw [if_neg e4]
  refine Ev.ite (fun h => ?_) (fun h => ?_)
  · have e : c = 1 := by simpa using h
    rw [if_pos e]
    refine Ev.ite (fun h => Ev.bind (l01In_ev _ _ _) (Ev.ite (fun h' => Ev.some ?_) (fun h' => Ev.some ?_))) (fun h => Ev.some ?_)
    · have : 0 ≤ a ∧ a ≤ n - 1 := by simpa using h'
      have h2 : a < n := by omega
      simp [h, this.1, h2]
    · rw [Bool.eq_iff_iff]; simp at h' ⊢; intros; omega
    · simp [h]
  have e1 : ¬ c = 1 := by simpa using h
  rw [if_neg e1]
  refine Ev.ite (fun h => ?_) (fun h => ?_)
  · have e : c = 2 := by simpa using h
    rw [if_pos e]
    refine Ev.bind (l01In_ev _ _ _) (Ev.ite (fun h' => Ev.some ?_) (fun h' => Ev.some ?_))
    · have : 0 ≤ a ∧ a ≤ n := by simpa using h'
      simp [this.1, this.2]
    · rw [Bool.eq_iff_iff]; simp at h' ⊢; intros; omega
  have e2 : ¬ c = 2 := by simpa using h
  rw [if_neg e2]
  refine Ev.ite (fun h => ?_) (fun h => Ev.some ?_)
  · have e : c = 3 := by simpa using h
    rw [if_pos e]
    refine Ev.bind (s_PositionOf_ev p a hp) (Ev.ite (fun h' => Ev.bind (l01In_ev _ _ _) (Ev.some ?_)) (fun h' => Ev.some ?_))
    · have h3 : 0 ≤ pos p a := by simpa using h'
      rw [Bool.eq_iff_iff]; simp [h3]; intros; omega
    · have h3 : ¬ 0 ≤ pos p a := by simpa using h'
      simp [h3]
  · have e3 : ¬ c = 3 := by simpa using h
    rw [if_neg e3]
theorem s_TrickOk_l6_ev (p : List Int) (c a b n : Int) (hp : p.length ≤ maxLen) (hn : n = p.length) (xs : List Step) (hm : xs.length ≤ maxLen) : ∀ (r : List Step) (i : Nat) (nt : Bool), xs.drop i = r →
    Ev (fun k => s_TrickOk_l6 k n nt xs (xs.length : Int) (i : Int) p xs c a b) (stepsOk n r && claimOk n p (nt || hasNote r) c a b)
  | [], i, nt, h => by
    have q := at_nil h
    refine Ev.step (fun k => s_TrickOk_l6_eq k _ _ _ _ _ _ _ _ _ _) ?_
    simp only [q.g, cond_false]
    exact Ev.bind (claim_s p xs c a b n nt hp hn) (Ev.some (by simp [stepsOk, hasNote]))
  | s :: r, i, nt, h => by
    have q := at_cons h hm
    refine Ev.step (fun k => s_TrickOk_l6_eq k _ _ _ _ _ _ _ _ _ _) ?_
    simp only [q.g, q.z, q.get, q.w, cond_true]
    refine Ev.bind (s_StepOk_ev n s) (Ev.ite (fun h => Ev.some ?_) (fun h => Ev.ite (fun h2 => ?_) (fun h2 => ?_)))
    · have : stepOk n s = false := by simpa using h
      simp [stepsOk, this]
    · have e : stepOk n s = true := by simpa using h
      refine (s_TrickOk_l6_ev p c a b n hp hn xs hm r (i + 1) true q.next).to ?_
      simp [stepsOk, e, h2]
    · have e : stepOk n s = true := by simpa using h
      refine (s_TrickOk_l6_ev p c a b n hp hn xs hm r (i + 1) (s.1 == 3) q.next).to ?_
      simp [stepsOk, e, h2, hasNote]
theorem s_TrickOk_ev (t : Trick) (h1 : t.1.length ≤ maxLen) (h2 : t.2.1.length ≤ maxLen) : Ev (fun k => s_TrickOk k t) (trickOk t) := by
  obtain ⟨p, st, c, a, b⟩ := t
  unfold trickOk
  refine Ev.step (fun k => s_TrickOk_eq k _) (Ev.bind (s_PacketOk_ev p h1) (Ev.ite (fun h => Ev.some ?_) (fun h => Ev.ite (fun h' => Ev.some ?_) (fun h' => Ev.ite (fun h3 => Ev.some ?_) (fun h3 => ?_)))))
  · have : packetOk p = false := by simpa using h
    simp [this]
  · have : p.length = 0 := by simp at h'; simp [h']
    simp [this]
  · have : ¬ st.length ≤ 12 := by simp at h3; omega
    simp [this]
  · refine (s_TrickOk_l6_ev p c a b _ h1 rfl st h2 st 0 false rfl).to ?_
    have e1 : packetOk p = true := by simpa using h
    have e2 : (p.length == 0) = false := by simp at h' ⊢; exact h'
    have e3 : st.length ≤ 12 := by simp at h3; omega
    simp [e1, e3, e2]
theorem claim_i (xs : List Step) (hm : xs.length ≤ maxLen) (p : List Int) (hp : p.length ≤ maxLen) (hi : Ins p) (c a b n : Int) (hn : n = p.length) : ∀ (r : List Step) (i : Nat) (nt : Bool), xs.drop i = r →
    Ev (fun k => i_TrickOk_l6 k n nt xs (xs.length : Int) (i : Int) p xs c a b) (stepsOk n r && claimOk n p (nt || hasNote r) c a b)
  | [], i, nt, h => by
    have q := at_nil h
    refine Ev.step (fun k => i_TrickOk_l6_eq k _ _ _ _ _ _ _ _ _ _) ?_
    simp only [q.g, cond_false]
    have e : (stepsOk n [] && claimOk n p (nt || hasNote []) c a b) = claimOk n p nt c a b := by simp [stepsOk, hasNote]
    rw [e]
    unfold claimOk
    refine Ev.ite (fun h => ?_) (fun h => ?_)
    · have e : c = 0 := by simpa using h
      rw [if_pos e]
      refine Ev.ite (fun h => Ev.some ?_) (fun h => Ev.some ?_) <;> simp [h]
    have e0 : ¬ c = 0 := by simpa using h
    rw [if_neg e0]
    refine Ev.ite (fun h => ?_) (fun h => ?_)
    · have e : c = 4 := by simpa using h
      rw [if_pos e]
      refine Ev.ite (fun h => Ev.some ?_) (fun h => Ev.some ?_) <;> simp [h]
    have e4 : ¬ c = 4 := by simpa using h
    rw [if_neg e4]
    refine Ev.ite (fun h => ?_) (fun h => ?_)
    · have e : c = 1 := by simpa using h
      rw [if_pos e]
      repeat (first | (refine Ev.ite (fun h => ?_) (fun h => ?_)) | focus (refine Ev.some ?_; simp_all; done) | focus (refine Ev.some ?_; simp_all; omega))
    have e1 : ¬ c = 1 := by simpa using h
    rw [if_neg e1]
    refine Ev.ite (fun h => ?_) (fun h => ?_)
    · have e : c = 2 := by simpa using h
      rw [if_pos e]
      repeat (first | (refine Ev.ite (fun h => ?_) (fun h => ?_)) | focus (refine Ev.some ?_; simp_all; done) | focus (refine Ev.some ?_; simp_all; omega))
    have e2 : ¬ c = 2 := by simpa using h
    rw [if_neg e2]
    refine Ev.ite (fun h => ?_) (fun h => Ev.some ?_)
    · have e : c = 3 := by simpa using h
      rw [if_pos e]
      refine Ev.bind (i_PositionOf_ev p a hp hi) (Ev.ite (fun h' => Ev.ite (fun h2 => Ev.some ?_) (fun h2 => Ev.some ?_)) (fun h' => Ev.some ?_))
      · have h3 : 0 ≤ pos p a := by simpa using h'
        have h4 : 0 ≤ b := by simpa using h2
        simp [h3, h4]
      · have h4 : ¬ 0 ≤ b := by simpa using h2
        simp [h4]
      · have h3 : ¬ 0 ≤ pos p a := by simpa using h'
        simp [h3]
    · have e3 : ¬ c = 3 := by simpa using h
      rw [if_neg e3]
  | s :: r, i, nt, h => by
    have q := at_cons h hm
    refine Ev.step (fun k => i_TrickOk_l6_eq k _ _ _ _ _ _ _ _ _ _) ?_
    simp only [q.g, q.z, q.get, q.w, cond_true]
    refine Ev.bind (i_StepOk_ev n s) (Ev.ite (fun h => Ev.some ?_) (fun h => Ev.ite (fun h2 => ?_) (fun h2 => ?_)))
    · have : stepOk n s = false := by simpa using h
      simp [stepsOk, this]
    · have e : stepOk n s = true := by simpa using h
      refine (claim_i xs hm p hp hi c a b n hn r (i + 1) true q.next).to ?_
      simp [stepsOk, e, h2]
    · have e : stepOk n s = true := by simpa using h
      refine (claim_i xs hm p hp hi c a b n hn r (i + 1) (s.1 == 3) q.next).to ?_
      simp [stepsOk, e, h2, hasNote]
theorem i_TrickOk_ev (t : Trick) (h1 : t.1.length ≤ maxLen) (hi : Ins t.1) (h2 : t.2.1.length ≤ maxLen) : Ev (fun k => i_TrickOk k t) (trickOk t) := by
  obtain ⟨p, st, c, a, b⟩ := t
  unfold trickOk
  refine Ev.step (fun k => i_TrickOk_eq k _) (Ev.bind (i_PacketOk_ev p h1 hi) (Ev.ite (fun h => Ev.some ?_) (fun h => Ev.ite (fun h' => Ev.some ?_) (fun h' => Ev.ite (fun h3 => Ev.some ?_) (fun h3 => ?_)))))
  · have : packetOk p = false := by simpa using h
    simp [this]
  · have : p.length = 0 := by simp at h'; simp [h']
    simp [this]
  · have : ¬ st.length ≤ 12 := by simp at h3; omega
    simp [this]
  · refine (claim_i st h2 p h1 hi c a b _ rfl st 0 false rfl).to ?_
    have e1 : packetOk p = true := by simpa using h
    have e2 : (p.length == 0) = false := by simp at h' ⊢; exact h'
    have e3 : st.length ≤ 12 := by simp at h3; omega
    simp [e1, e3, e2]
/-- What fits a trick. -/
theorem trick_fit {t : Trick} (f : Fits TrickTy t) : t.1.length ≤ maxLen ∧ Ins t.1 ∧ t.2.1.length ≤ maxLen := ⟨f.1.1, fun x hx => In.of_fits (f.1.2 x hx), f.2.1.1⟩
theorem trickOk_len {t : Trick} (h : trickOk t = true) : t.2.1.length ≤ 12 ∧ 1 ≤ t.1.length ∧ t.1.length ≤ 12 ∧ packetOk t.1 = true := by
  unfold trickOk at h
  simp only [Bool.and_eq_true, decide_eq_true_eq] at h
  have := packetOk_fit h.1
  have h2 := h.2.1
  refine ⟨h.2.2.1, ?_, this.2.2, h.1⟩
  have : ¬ t.1.length = 0 := by simpa using h2
  omega
end Qq
namespace Qq
open Go Go.Vt Pt
set_option linter.unusedVariables false
set_option linter.unusedSimpArgs false
end Qq
namespace Qq
open Go Go.Vt Pt
set_option linter.unusedVariables false
set_option linter.unusedSimpArgs false
def isUp (x : Int) : Bool := decide (-12 ≤ x) && decide (x ≤ -1)
theorem s_IsUp_ev (x : Int) : Ev (fun k => s_IsUp k x) (isUp x) := Ev.step (fun k => s_IsUp_eq k x) (Ev.bind (l01In_ev _ _ _) (Ev.pure _))
theorem i_IsUp_ev (x : Int) (hx : In x) : Ev (fun k => i_IsUp k x) (isUp x) := by
  refine Ev.step (fun k => i_IsUp_eq k x) (Ev.ite (fun h => Ev.bind (i_CardOf_ev x hx) (Ev.some ?_)) (fun h => Ev.some ?_))
  · have h' : x < 0 := by simpa using h
    unfold isUp card
    rw [Bool.eq_iff_iff, if_neg (by omega)]
    by_cases h2 : -12 ≤ x ∧ x ≤ -1
    · rw [if_pos h2]; simp; omega
    · rw [if_neg h2]; simp; omega
  · have h' : ¬ x < 0 := by simpa using h
    unfold isUp
    symm; simp; omega
end Qq
namespace Qq
open Go Go.Vt Pt
set_option linter.unusedVariables false
set_option linter.unusedSimpArgs false
def formatClaim (c a b : Int) : ByteArray :=
  if c = 0 then ⟨#[110, 111, 116, 104, 105, 110, 103]⟩ else
  if c = 1 then (⟨#[110, 111, 116, 101, 100, 32, 97, 116, 32]⟩ : ByteArray) ++ itoaB a else
  if c = 2 then (⟨#[117, 112, 32]⟩ : ByteArray) ++ itoaB a else
  if c = 3 then (((⟨#[99, 97, 114, 100, 32]⟩ : ByteArray) ++ itoaB a) ++ (⟨#[32, 97, 116, 32]⟩ : ByteArray)) ++ itoaB b else
  if c = 4 then ⟨#[111, 114, 100, 101, 114]⟩ else ⟨#[]⟩
/-- The lengths add up to something small. -/
theorem sz_add {a b : ByteArray} {m n : Nat} (ha : a.size ≤ m) (hb : b.size ≤ n) : (a ++ b).size ≤ m + n := by rw [ByteArray.size_append]; omega
theorem sz_ok {a b : ByteArray} {m n : Nat} (ha : a.size ≤ m) (hb : b.size ≤ n) (h : m + n ≤ 9223372036854775807) : decide (a.size + b.size ≤ 9223372036854775807) = true := decide_eq_true (by omega)
theorem s_FormatClaim_ev (p : List Int) (st : List Step) (c a b : Int) (ha : In a) (hb : In b) : Ev (fun k => s_FormatClaim k (p, st, c, a, b)) (formatClaim c a b) := by
  have sa := itoaB_size a ha
  have sb := itoaB_size b hb
  unfold formatClaim
  refine Ev.step (fun k => s_FormatClaim_eq k _) (Ev.ite (fun h => ?_) (fun h => ?_))
  · rw [if_pos (by simpa using h)]; exact Ev.pure _
  rw [if_neg (by simpa using h)]
  refine Ev.ite (fun h => ?_) (fun h => ?_)
  · rw [if_pos (by simpa using h)]
    exact Ev.bind (s_FormatInt_ev a ha) (Ev.yes (sz_ok (m := 9) (by decide) sa (by decide)) (Ev.pure _))
  rw [if_neg (by simpa using h)]
  refine Ev.ite (fun h => ?_) (fun h => ?_)
  · rw [if_pos (by simpa using h)]
    exact Ev.bind (s_FormatInt_ev a ha) (Ev.yes (sz_ok (m := 3) (by decide) sa (by decide)) (Ev.pure _))
  rw [if_neg (by simpa using h)]
  refine Ev.ite (fun h => ?_) (fun h => ?_)
  · rw [if_pos (by simpa using h)]
    have s1 := sz_add (a := (⟨#[99, 97, 114, 100, 32]⟩ : ByteArray)) (m := 5) (by decide) sa
    have s2 := sz_add (b := (⟨#[32, 97, 116, 32]⟩ : ByteArray)) (n := 4) s1 (by decide)
    exact Ev.bind (s_FormatInt_ev a ha) (Ev.yes (sz_ok (m := 5) (by decide) sa (by decide)) (Ev.yes (sz_ok s1 (n := 4) (by decide) (by decide)) (Ev.bind (s_FormatInt_ev b hb) (Ev.yes (sz_ok s2 sb (by decide)) (Ev.pure _)))))
  rw [if_neg (by simpa using h)]
  refine Ev.ite (fun h => ?_) (fun h => ?_)
  · rw [if_pos (by simpa using h)]; exact Ev.pure _
  · rw [if_neg (by simpa using h)]; exact Ev.pure _
theorem i_FormatClaim_ev (p : List Int) (st : List Step) (c a b : Int) (ha : In a) (hb : In b) : Ev (fun k => i_FormatClaim k (p, st, c, a, b)) (formatClaim c a b) := by
  have sa := itoaB_size a ha
  have sb := itoaB_size b hb
  unfold formatClaim
  refine Ev.step (fun k => i_FormatClaim_eq k _) (Ev.ite (fun h => ?_) (fun h => ?_))
  · rw [if_pos (by simpa using h)]; exact Ev.pure _
  rw [if_neg (by simpa using h)]
  refine Ev.ite (fun h => ?_) (fun h => ?_)
  · rw [if_pos (by simpa using h)]
    exact Ev.bind (i_FormatInt_ev a ha) (Ev.yes (sz_ok (m := 9) (by decide) sa (by decide)) (Ev.pure _))
  rw [if_neg (by simpa using h)]
  refine Ev.ite (fun h => ?_) (fun h => ?_)
  · rw [if_pos (by simpa using h)]
    exact Ev.bind (i_FormatInt_ev a ha) (Ev.yes (sz_ok (m := 3) (by decide) sa (by decide)) (Ev.pure _))
  rw [if_neg (by simpa using h)]
  refine Ev.ite (fun h => ?_) (fun h => ?_)
  · rw [if_pos (by simpa using h)]
    have s1 := sz_add (a := (⟨#[99, 97, 114, 100, 32]⟩ : ByteArray)) (m := 5) (by decide) sa
    have s2 := sz_add (b := (⟨#[32, 97, 116, 32]⟩ : ByteArray)) (n := 4) s1 (by decide)
    exact Ev.bind (i_FormatInt_ev a ha) (Ev.yes (sz_ok (m := 5) (by decide) sa (by decide)) (Ev.yes (sz_ok s1 (n := 4) (by decide) (by decide)) (Ev.bind (i_FormatInt_ev b hb) (Ev.yes (sz_ok s2 sb (by decide)) (Ev.pure _)))))
  rw [if_neg (by simpa using h)]
  refine Ev.ite (fun h => ?_) (fun h => ?_)
  · rw [if_pos (by simpa using h)]; exact Ev.pure _
  · rw [if_neg (by simpa using h)]; exact Ev.pure _
theorem trick_nums {t : Trick} (f : Fits TrickTy t) : In t.2.2.1 ∧ In t.2.2.2.1 ∧ In t.2.2.2.2 := ⟨In.of_fits f.2.2.1, In.of_fits f.2.2.2.1, In.of_fits f.2.2.2.2⟩
def cardB (x : Int) : ByteArray := if isUp x then itoaB (card x) ++ ⟨#[94]⟩ else itoaB (card x)
theorem In_card (x : Int) : In (card x) := by have := card_lt x; unfold In; omega
theorem cardB_size (x : Int) : (cardB x).size ≤ 22 := by
  have h := itoaB_size (card x) (In_card x)
  unfold cardB
  split
  · exact sz_add h (n := 1) (by decide)
  · omega
def formatPacket (p : List Int) : ByteArray := if packetOk p then (if p = [] then ⟨#[101, 109, 112, 116, 121]⟩ else joinB (p.map cardB) ⟨#[32]⟩) else ⟨#[]⟩
theorem cardB_map_size (p : List Int) : ∀ x ∈ p.map cardB, x.size ≤ 22 := by
  intro x hx
  obtain ⟨n, _, rfl⟩ := List.mem_map.1 hx
  exact cardB_size n
theorem at_elem {xs : List Int} {i : Nat} {x : Int} {r : List Int} (a : AtCons xs i x r) : (xs.take (i + 1)).map cardB = (xs.take i).map cardB ++ [cardB x] := by
  have hlt := a.lt
  have e : xs[i] = x := by have := a.get 0; rw [Int.toNat_natCast, List.getD, List.getElem?_eq_getElem hlt] at this; exact this
  rw [List.take_succ_eq_append_getElem hlt, List.map_append, e]; rfl
theorem s_FormatPacket_l5_ev (xs : List Int) (hm : xs.length ≤ 12) : ∀ (r : List Int) (i : Nat), xs.drop i = r → Ev (fun k => s_FormatPacket_l5 k xs (xs.length : Int) (i : Int) ((xs.take i).map cardB)) (if xs = [] then ⟨#[101, 109, 112, 116, 121]⟩ else joinB (xs.map cardB) ⟨#[32]⟩)
  | [], i, h => by
    have a := at_nil h
    refine Ev.step (fun k => s_FormatPacket_l5_eq k _ _ _ _) ?_
    simp only [a.g, cond_false]
    rw [List.take_of_length_le a.ge]
    refine Ev.ite (fun h => Ev.some ?_) (fun h => ?_)
    · have : xs = [] := by simp at h; exact h
      rw [if_pos this]
    · have : ¬ xs = [] := by simp at h; exact h
      rw [if_neg this]
      exact Ev.bind (s_Join_ev _ _ 22 (by simp; omega) (cardB_map_size xs) (by omega) (by decide)) (Ev.pure _)
  | x :: r, i, h => by
    have a := at_cons h (by rw [maxLen_eq]; omega)
    have ih := s_FormatPacket_l5_ev xs hm r (i + 1) a.next
    rw [at_elem a] at ih
    refine Ev.step (fun k => s_FormatPacket_l5_eq k _ _ _ _) ?_
    simp only [a.g, a.z, a.get, a.w, cond_true]
    have hs := itoaB_size (card x) (In_card x)
    refine Ev.bind (s_CardOf_ev x) (Ev.bind (s_FormatInt_ev _ (In_card x)) (Ev.bind (s_IsUp_ev x) (Ev.ite (fun h => ?_) (fun h => ?_))))
    · have e : cardB x = itoaB (card x) ++ ⟨#[94]⟩ := by unfold cardB; rw [if_pos h]
      rw [e] at ih
      exact Ev.yes (sz_ok hs (n := 1) (by decide) (by decide)) (Ev.yes (by rw [rowMax_eq]; simp; omega) ih)
    · have e : cardB x = itoaB (card x) := by unfold cardB; rw [h]; rfl
      rw [e] at ih
      exact Ev.yes (by rw [rowMax_eq]; simp; omega) ih
theorem s_FormatPacket_ev (p : List Int) (hm : p.length ≤ maxLen) : Ev (fun k => s_FormatPacket k p) (formatPacket p) := by
  unfold formatPacket
  refine Ev.step (fun k => s_FormatPacket_eq k p) (Ev.bind (s_PacketOk_ev p hm) (Ev.ite (fun h => Ev.some ?_) (fun h => ?_)))
  · have : packetOk p = false := by simpa using h
    rw [this]; rfl
  · have e : packetOk p = true := by simpa using h
    rw [if_pos e]
    exact s_FormatPacket_l5_ev p (packetOk_fit e).2.2 p 0 rfl
theorem i_FormatPacket_l7_ev (xs : List Int) (hm : xs.length ≤ 12) (hi : Ins xs) : ∀ (r : List Int) (i : Nat), xs.drop i = r → Ev (fun k => i_FormatPacket_l7 k xs (xs.length : Int) (i : Int) ((xs.take i).map cardB)) (joinB (xs.map cardB) ⟨#[32]⟩)
  | [], i, h => by
    have a := at_nil h
    refine Ev.step (fun k => i_FormatPacket_l7_eq k _ _ _ _) ?_
    simp only [a.g, cond_false]
    rw [List.take_of_length_le a.ge]
    exact Ev.bind (i_Join_ev _ _ 22 (by simp; omega) (cardB_map_size xs) (by omega) (by decide)) (Ev.pure _)
  | x :: r, i, h => by
    have a := at_cons h (by rw [maxLen_eq]; omega)
    have hx : In x := hi x (List.mem_of_mem_drop (h ▸ List.mem_cons_self))
    have ih := i_FormatPacket_l7_ev xs hm hi r (i + 1) a.next
    rw [at_elem a] at ih
    refine Ev.step (fun k => i_FormatPacket_l7_eq k _ _ _ _) ?_
    simp only [a.g, a.z, a.get, a.w, cond_true]
    have hs := itoaB_size (card x) (In_card x)
    refine Ev.bind (i_CardOf_ev x hx) (Ev.bind (i_FormatInt_ev _ (In_card x)) (Ev.bind (i_IsUp_ev x hx) (Ev.ite (fun h => ?_) (fun h => ?_))))
    · have e : cardB x = itoaB (card x) ++ ⟨#[94]⟩ := by unfold cardB; rw [if_pos h]
      rw [e] at ih
      exact Ev.yes (sz_ok hs (n := 1) (by decide) (by decide)) (Ev.yes (by rw [rowMax_eq]; simp; omega) ih)
    · have e : cardB x = itoaB (card x) := by unfold cardB; rw [h]; rfl
      rw [e] at ih
      exact Ev.yes (by rw [rowMax_eq]; simp; omega) ih
theorem i_FormatPacket_ev (p : List Int) (hm : p.length ≤ maxLen) (hi : Ins p) : Ev (fun k => i_FormatPacket k p) (formatPacket p) := by
  unfold formatPacket
  refine Ev.step (fun k => i_FormatPacket_eq k p) (Ev.bind (i_PacketOk_ev p hm hi) (Ev.ite (fun h => Ev.some ?_) (fun h => ?_)))
  · have : packetOk p = false := by simpa using h
    rw [this]; rfl
  · have e : packetOk p = true := by simpa using h
    rw [if_pos e]
    refine Ev.ite (fun h => Ev.some ?_) (fun h => ?_)
    · have : p = [] := by simp at h; exact h
      rw [if_pos this]
    · have : ¬ p = [] := by simp at h; exact h
      rw [if_neg this]
      exact i_FormatPacket_l7_ev p (packetOk_fit e).2.2 hi p 0 rfl
theorem formatPacket_size (p : List Int) : (formatPacket p).size ≤ 2000 := by
  unfold formatPacket
  split
  · rename_i h
    split
    · decide
    · have h12 := (packetOk_fit h).2.2
      have := join_len (B := 22) (S := 1) (⟨#[32]⟩ : ByteArray) (by decide) (p.map cardB) (cardB_map_size p)
      rw [List.length_map] at this
      rw [joinB, strB_size]
      omega
  · decide
end Qq
namespace Qq
open Go Go.Vt Pt
set_option linter.unusedVariables false
set_option linter.unusedSimpArgs false
def moveNames : List ByteArray := [⟨#[99, 117, 116]⟩, ⟨#[100, 101, 97, 108]⟩, ⟨#[102, 108, 105, 112]⟩, ⟨#[102, 97, 114, 111]⟩, ⟨#[109, 111, 110, 103, 101]⟩, ⟨#[109, 105, 108, 107]⟩, ⟨#[100, 117, 99, 107]⟩, ⟨#[116, 117, 114, 110]⟩, ⟨#[117, 110, 100, 101, 114]⟩]
def moveName (kind : Int) : ByteArray := if 1 ≤ kind ∧ kind ≤ 9 then moveNames.getD (kind - 1).toNat ⟨#[]⟩ else ⟨#[]⟩
theorem moveName_size (kind : Int) : (moveName kind).size ≤ 5 := by
  unfold moveName
  split
  · rename_i h
    obtain ⟨n, hn⟩ : ∃ n : Nat, (kind - 1).toNat = n := ⟨_, rfl⟩
    have : n < 9 := by omega
    rw [hn]
    clear hn h
    revert n
    decide
  · decide
theorem s_MoveName_ev (kind : Int) : Ev (fun k => s_MoveName k kind) (moveName kind) := by
  refine Ev.step (fun k => s_MoveName_eq k kind) (Ev.bind (l01In_ev _ _ _) (Ev.ite (fun h => Ev.some ?_) (fun h => ?_)))
  · have : ¬ (1 ≤ kind ∧ kind ≤ 9) := by simp at h; omega
    rw [moveName, if_neg this]
  · have : 1 ≤ kind ∧ kind ≤ 9 := by simpa using h
    refine Ev.bind (Ev.step (fun k => s_l04Names_eq k) (Ev.pure _)) ?_
    refine Ev.yes (by simp; omega) (Ev.yes (by simp; omega) (Ev.yes (by simp; omega) (Ev.some ?_)))
    rw [moveName, if_pos this]
    obtain ⟨n, rfl⟩ : ∃ n : Nat, kind = (n : Int) + 1 := ⟨(kind - 1).toNat, by omega⟩
    have e1 : ((n : Int) + 1).toNat = n + 1 := by omega
    have e2 : ((n : Int) + 1 - 1).toNat = n := by omega
    rw [e1, e2, List.getD_cons_succ]
    rfl
theorem i_MoveName_ev (kind : Int) : Ev (fun k => i_MoveName k kind) (moveName kind) := by
  refine Ev.step (fun k => i_MoveName_eq k kind) (Ev.ite (fun h => Ev.some ?_) (fun h => Ev.ite (fun h2 => Ev.some ?_) (fun h2 => ?_)))
  · have : ¬ (1 ≤ kind ∧ kind ≤ 9) := by simp at h; omega
    rw [moveName, if_neg this]
  · have : ¬ (1 ≤ kind ∧ kind ≤ 9) := by simp at h2; omega
    rw [moveName, if_neg this]
  · have : 1 ≤ kind ∧ kind ≤ 9 := by simp at h h2; omega
    refine Ev.bind (Ev.step (fun k => i_moveNames_eq k) (Ev.pure _)) ?_
    rw [wrap_id (by omega) (by omega)]
    refine Ev.yes (by simp; omega) (Ev.yes (by simp; omega) (Ev.yes (by simp; omega) (Ev.some ?_)))
    rw [moveName, if_pos this]
    rfl
def formatMove (m : Int × Int) : ByteArray := if moveOk 12 m then (moveName m.1 ++ ⟨#[32]⟩) ++ itoaB m.2 else ⟨#[]⟩
theorem moveOk_fit {n : Int} {m : Int × Int} (h : moveOk n m = true) (hn : n = 12) : 0 ≤ m.2 ∧ m.2 ≤ 12 := by
  subst hn
  unfold moveOk at h
  simp only [Bool.and_eq_true, decide_eq_true_eq] at h
  obtain ⟨_, _, h3, h4⟩ := h
  refine ⟨h3, ?_⟩
  repeat (first | (split at h4) | (simp at h4; omega) | (simp at h4))
theorem s_FormatMove_ev (m : Int × Int) : Ev (fun k => s_FormatMove k m) (formatMove m) := by
  refine Ev.step (fun k => s_FormatMove_eq k m) (Ev.bind (s_MoveOk_ev 12 m) (Ev.ite (fun h => Ev.some ?_) (fun h => ?_)))
  · have : moveOk 12 m = false := by simpa using h
    simp [formatMove, this]
  · have e : moveOk 12 m = true := by simpa using h
    have hf := moveOk_fit e rfl
    have hi : In m.2 := by unfold In; omega
    have h1 := moveName_size m.1
    have h2 := itoaB_size m.2 hi
    refine Ev.bind (s_MoveName_ev m.1) (Ev.yes (by show decide ((moveName m.1).size + 1 ≤ _) = true; simp; omega) (Ev.bind (s_FormatInt_ev m.2 hi) (Ev.yes ?_ (Ev.some ?_))))
    · rw [ByteArray.size_append]
      show decide ((moveName m.1).size + 1 + _ ≤ _) = true
      simp; omega
    · simp [formatMove, e]
theorem i_FormatMove_ev (m : Int × Int) : Ev (fun k => i_FormatMove k m) (formatMove m) := by
  refine Ev.step (fun k => i_FormatMove_eq k m) (Ev.bind (i_MoveOk_ev 12 m) (Ev.ite (fun h => Ev.some ?_) (fun h => ?_)))
  · have : moveOk 12 m = false := by simpa using h
    simp [formatMove, this]
  · have e : moveOk 12 m = true := by simpa using h
    have hf := moveOk_fit e rfl
    have hi : In m.2 := by unfold In; omega
    have h1 := moveName_size m.1
    have h2 := itoaB_size m.2 hi
    refine Ev.bind (i_MoveName_ev m.1) (Ev.yes (by show decide ((moveName m.1).size + 1 ≤ _) = true; simp; omega) (Ev.bind (i_FormatInt_ev m.2 hi) (Ev.yes ?_ (Ev.some ?_))))
    · rw [ByteArray.size_append]
      show decide ((moveName m.1).size + 1 + _ ≤ _) = true
      simp; omega
    · simp [formatMove, e]
end Qq
namespace Qq
open Go Go.Vt Pt
set_option linter.unusedVariables false
set_option linter.unusedSimpArgs false
def choiceNames : List ByteArray := [⟨#[102, 105, 120, 101, 100]⟩, ⟨#[97, 110, 121, 99, 117, 116]⟩, ⟨#[114, 105, 102, 102, 108, 101]⟩, ⟨#[97, 110, 121, 112, 97, 105, 114]⟩, ⟨#[112, 105, 99, 107]⟩]
def choiceName (kind : Int) : ByteArray := if 0 ≤ kind ∧ kind ≤ 4 then choiceNames.getD kind.toNat ⟨#[]⟩ else ⟨#[]⟩
theorem s_ChoiceName_ev (kind : Int) : Ev (fun k => s_ChoiceName k kind) (choiceName kind) := by
  refine Ev.step (fun k => s_ChoiceName_eq k kind) (Ev.bind (l01In_ev _ _ _) (Ev.ite (fun h => Ev.some ?_) (fun h => ?_)))
  · have : ¬ (0 ≤ kind ∧ kind ≤ 4) := by simp at h; omega
    rw [choiceName, if_neg this]
  · have : 0 ≤ kind ∧ kind ≤ 4 := by simpa using h
    refine Ev.yes (by simp; omega) (Ev.yes (by simp; omega) (Ev.yes (by simp; omega) (Ev.some ?_)))
    rw [choiceName, if_pos this]
    rfl
theorem i_ChoiceName_ev (kind : Int) : Ev (fun k => i_ChoiceName k kind) (choiceName kind) := by
  refine Ev.step (fun k => i_ChoiceName_eq k kind) (Ev.ite (fun h => Ev.some ?_) (fun h => Ev.ite (fun h2 => Ev.some ?_) (fun h2 => ?_)))
  · have : ¬ (0 ≤ kind ∧ kind ≤ 4) := by simp at h; omega
    rw [choiceName, if_neg this]
  · have : ¬ (0 ≤ kind ∧ kind ≤ 4) := by simp at h2; omega
    rw [choiceName, if_neg this]
  · have : 0 ≤ kind ∧ kind ≤ 4 := by simp at h h2; omega
    refine Ev.yes (by simp; omega) (Ev.yes (by simp; omega) (Ev.yes (by simp; omega) (Ev.some ?_)))
    rw [choiceName, if_pos this]
    rfl
def isRif (s : Int × (Int × Int) × Int) : Bool := (s.1 == 2) && ((s.2.1.1 == 0) && ((s.2.1.2 == 0) && (s.2.2 == 2)))
def stepRest (s : Int × (Int × Int) × Int) : ByteArray := if s.1 = 1 then formatMove s.2.1 else if s.1 = 2 then choiceName s.2.2 else (⟨#[110, 111, 116, 101, 32]⟩ : ByteArray) ++ itoaB s.2.2
def formatStep (s : Int × (Int × Int) × Int) : ByteArray := if stepOk 12 s || isRif s then stepRest s else ⟨#[]⟩
theorem stepOk_fit {n : Int} {s : Int × (Int × Int) × Int} (h : stepOk n s = true) (h1 : ¬ s.1 = 1) (h2 : ¬ s.1 = 2) (hn : n ≤ 12) : In s.2.2 := by
  unfold stepOk at h
  simp only [Bool.and_eq_true, decide_eq_true_eq, h1, h2, if_false] at h
  obtain ⟨_, _, h⟩ := h
  split at h
  · simp at h
    unfold In; omega
  · cases h
theorem s_rest_ev (s : Int × (Int × Int) × Int) (hi : ¬ s.1 = 1 → ¬ s.1 = 2 → In s.2.2) : Ev (fun k => bif (s.1 == (1 : Int)) then ((s_FormatMove k s.2.1).bind fun y => some y)
    else (bif (s.1 == (2 : Int)) then ((s_ChoiceName k s.2.2).bind fun y => some y)
      else ((s_FormatInt k s.2.2).bind fun y => bif decide ((⟨#[110, 111, 116, 101, 32]⟩ : ByteArray).size + y.size ≤ 9223372036854775807) then (some ((⟨#[110, 111, 116, 101, 32]⟩ : ByteArray) ++ y)) else (none)))) (stepRest s) := by
  unfold stepRest
  refine Ev.ite (fun h => ?_) (fun h => ?_)
  · have e : s.1 = 1 := by simpa using h
    rw [if_pos e]
    exact Ev.bind (s_FormatMove_ev s.2.1) (Ev.pure _)
  · have e1 : ¬ s.1 = 1 := by simpa using h
    rw [if_neg e1]
    refine Ev.ite (fun h => ?_) (fun h => ?_)
    · have e : s.1 = 2 := by simpa using h
      rw [if_pos e]
      exact Ev.bind (s_ChoiceName_ev s.2.2) (Ev.pure _)
    · have e2 : ¬ s.1 = 2 := by simpa using h
      rw [if_neg e2]
      have hs := itoaB_size s.2.2 (hi e1 e2)
      exact Ev.bind (s_FormatInt_ev _ (hi e1 e2)) (Ev.yes (by show decide (5 + _ ≤ _) = true; simp; omega) (Ev.pure _))
theorem i_rest_ev (s : Int × (Int × Int) × Int) (hi : ¬ s.1 = 1 → ¬ s.1 = 2 → In s.2.2) : Ev (fun k => bif (s.1 == (1 : Int)) then ((i_FormatMove k s.2.1).bind fun y => some y)
    else (bif (s.1 == (2 : Int)) then ((i_ChoiceName k s.2.2).bind fun y => some y)
      else ((i_FormatInt k s.2.2).bind fun y => bif decide ((⟨#[110, 111, 116, 101, 32]⟩ : ByteArray).size + y.size ≤ 9223372036854775807) then (some ((⟨#[110, 111, 116, 101, 32]⟩ : ByteArray) ++ y)) else (none)))) (stepRest s) := by
  unfold stepRest
  refine Ev.ite (fun h => ?_) (fun h => ?_)
  · have e : s.1 = 1 := by simpa using h
    rw [if_pos e]
    exact Ev.bind (i_FormatMove_ev s.2.1) (Ev.pure _)
  · have e1 : ¬ s.1 = 1 := by simpa using h
    rw [if_neg e1]
    refine Ev.ite (fun h => ?_) (fun h => ?_)
    · have e : s.1 = 2 := by simpa using h
      rw [if_pos e]
      exact Ev.bind (i_ChoiceName_ev s.2.2) (Ev.pure _)
    · have e2 : ¬ s.1 = 2 := by simpa using h
      rw [if_neg e2]
      have hs := itoaB_size s.2.2 (hi e1 e2)
      exact Ev.bind (i_FormatInt_ev _ (hi e1 e2)) (Ev.yes (by show decide (5 + _ ≤ _) = true; simp; omega) (Ev.pure _))
theorem s_FormatStep_ev (s : Int × (Int × Int) × Int) : Ev (fun k => s_FormatStep k s) (formatStep s) := by
  have main : isRif s = false → Ev (fun k => (s_StepOk k ((12 : Int), s)).bind fun y => bif (!y) then (some (⟨#[]⟩ : ByteArray)) else (bif (s.1 == (1 : Int)) then ((s_FormatMove k s.2.1).bind fun y => some y)
    else (bif (s.1 == (2 : Int)) then ((s_ChoiceName k s.2.2).bind fun y => some y)
      else ((s_FormatInt k s.2.2).bind fun y => bif decide ((⟨#[110, 111, 116, 101, 32]⟩ : ByteArray).size + y.size ≤ 9223372036854775807) then (some ((⟨#[110, 111, 116, 101, 32]⟩ : ByteArray) ++ y)) else (none))))) (formatStep s) := by
    intro hr
    unfold formatStep
    refine Ev.bind (s_StepOk_ev 12 s) (Ev.ite (fun h => Ev.some ?_) (fun h => ?_))
    · have : stepOk 12 s = false := by simpa using h
      simp [this, hr]
    · have e : stepOk 12 s = true := by simpa using h
      rw [e, Bool.true_or, if_pos rfl]
      exact s_rest_ev s (fun h1 h2 => stepOk_fit e h1 h2 (by omega))
  refine Ev.step (fun k => s_FormatStep_eq k s) (Ev.ite (fun h => Ev.ite (fun h2 => Ev.ite (fun h3 => ?_) (fun h3 => main ?_)) (fun h2 => main ?_)) (fun h => main ?_))
  · refine Ev.bind (s_ChoiceName_ev _) (Ev.some ?_)
    have e1 : s.1 = 2 := by simpa using h
    have hr : isRif s = true := by simp at h h2 h3; simp [isRif, h, h2, h3]
    unfold formatStep stepRest
    rw [hr, Bool.or_true, if_pos rfl, if_neg (by omega), if_pos e1]
  · simp at h h2 h3; simp [isRif, h, h2]; intros; omega
  · simp at h h2; simp [isRif, h, h2]
  · simp at h; simp [isRif, h]
theorem i_FormatStep_ev (s : Int × (Int × Int) × Int) : Ev (fun k => i_FormatStep k s) (formatStep s) := by
  unfold formatStep
  refine Ev.step (fun k => i_FormatStep_eq k s) (Ev.bind (i_StepOk_ev 12 s) (Ev.ite (fun h => Ev.ite (fun h2 => Ev.some ?_) (fun h2 => ?_)) (fun h => ?_)))
  · have e : stepOk 12 s = false := by simpa using h
    have hr : isRif s = false := by
      simp at h2
      simp [isRif]
      intro a b c
      rcases h2 with h2 | h2 | h2 | h2
      · exact absurd a h2
      · exact absurd b h2
      · exact absurd c h2
      · exact h2
    simp [e, hr]
  · have hr : isRif s = true := by
      simp at h2
      simp [isRif, h2]
    rw [hr, Bool.or_true, if_pos rfl]
    exact i_rest_ev s (fun h1 h3 => by simp at h2; exact absurd h2.1 h3)
  · have e : stepOk 12 s = true := by simpa using h
    rw [e, Bool.true_or, if_pos rfl]
    exact i_rest_ev s (fun h1 h2 => stepOk_fit e h1 h2 (by omega))
end Qq
namespace Qq
open Go Go.Vt Pt
set_option linter.unusedVariables false
set_option linter.unusedSimpArgs false
def top : Int := 4611686018427387904
theorem top_eq : top = 4611686018427387904 := rfl
def upFrom (k : Int) : Nat → List Int
  | 0 => []
  | n + 1 => k :: upFrom (k + 1) n
theorem markIntS_l2_ev (xs : List Int) (hm : xs.length ≤ maxLen) : ∀ (r : List Int) (i : Nat) (k0 : Int) (done : List Int), xs.drop i = r → done.length = i → 0 ≤ k0 → k0 ≤ top - r.length →
    Ev (fun k => w_markIntS_l2 k k0 (i : Int) (done ++ r)) (k0 + r.length, done ++ upFrom k0 r.length) := by
  intro r
  induction r with
  | nil =>
    intro i k0 done h hl h0 h1
    have a := at_nil h
    refine Ev.step (fun k => w_markIntS_l2_eq k k0 i _) ?_
    have : decide ((i : Int) < ((done ++ ([] : List Int)).length : Int)) = false := by simp; omega
    refine Ev.no this (Ev.some ?_)
    simp [upFrom]
  | cons x r ih =>
    intro i k0 done h hl h0 h1
    have a := at_cons h hm
    have L : (done ++ x :: r).length = i + (r.length + 1) := by simp [hl]
    refine Ev.step (fun k => w_markIntS_l2_eq k k0 i _) ?_
    refine Ev.yes (by rw [L]; simp; omega) (Ev.yes (by simp) (Ev.yes (by rw [L]; simp; omega) (Ev.yes (by rw [L]; simp) ?_)))
    rw [List.length_cons] at h1
    rw [wrap_id (x := k0 + 1) (by omega) (by rw [top_eq] at h1; omega), wrap_id (x := (i : Int) + 1) (by omega) (by have := a.lt; rw [maxLen_eq] at hm; omega)]
    have e : (done ++ x :: r).set (i : Int).toNat k0 = (done ++ [k0]) ++ r := by
      rw [Int.toNat_natCast, ← hl, List.set_append_right _ _ (Nat.le_refl _)]
      simp
    rw [e]
    have := ih (i + 1) (k0 + 1) (done ++ [k0]) a.next (by simp [hl]) (by omega) (by omega)
    have e2 : done ++ upFrom k0 (x :: r).length = (done ++ [k0]) ++ upFrom (k0 + 1) r.length := by simp [upFrom]
    have e3 : k0 + ((x :: r).length : Int) = k0 + 1 + (r.length : Int) := by simp; omega
    rw [e2, e3]
    exact_mod_cast this
theorem markIntS_ev (xs : List Int) (k0 : Int) (hm : xs.length ≤ maxLen) (h0 : 0 ≤ k0) (h1 : k0 ≤ top - xs.length) :
    Ev (fun k => w_markIntS k (xs, k0)) (k0 + xs.length, upFrom k0 xs.length) :=
  Ev.step (fun k => w_markIntS_eq k xs k0) (markIntS_l2_ev xs hm xs 0 k0 [] rfl rfl h0 h1)
end Qq
namespace Qq
open Go Go.Vt Pt
set_option linter.unusedVariables false
set_option linter.unusedSimpArgs false
/-- n steps of numbers from k on. -/
def stepsFrom (k : Int) : Nat → List Step
  | 0 => []
  | n + 1 => (k, (k + 1, k + 2), k + 3) :: stepsFrom (k + 4) n
theorem getD_set_self {α : Type} {xs : List α} {i : Nat} (h : i < xs.length) (a d : α) : (xs.set i a).getD i d = a := by
  simp [List.getD, h]
theorem wrap4 {k : Int} (h0 : 0 ≤ k) (h1 : k + 4 ≤ top) : IntKind.i64.wrap (k + 1) = k + 1 ∧ IntKind.i64.wrap (k + 1 + 1) = k + 2 ∧ IntKind.i64.wrap (k + 2 + 1) = k + 3 ∧ IntKind.i64.wrap (k + 3 + 1) = k + 4 := by
  rw [top_eq] at h1
  refine ⟨wrap_id (by omega) (by omega), ?_, ?_, ?_⟩ <;> (rw [wrap_id (by omega) (by omega)]; omega)
theorem markStepS_l2_ev (xs : List Step) (hm : xs.length ≤ maxLen) : ∀ (r : List Step) (i : Nat) (k0 : Int) (done : List Step), xs.drop i = r → done.length = i → 0 ≤ k0 → k0 + 4 * r.length ≤ top →
    Ev (fun k => w_markStepS_l2 k k0 (i : Int) (done ++ r)) (k0 + 4 * r.length, done ++ stepsFrom k0 r.length) := by
  intro r
  induction r with
  | nil =>
    intro i k0 done h hl h0 h1
    refine Ev.step (fun k => w_markStepS_l2_eq k k0 i _) ?_
    have : decide ((i : Int) < ((done ++ ([] : List Step)).length : Int)) = false := by simp; omega
    refine Ev.no this (Ev.some ?_)
    simp [stepsFrom]
  | cons x r ih =>
    intro i k0 done h hl h0 h1
    have a := at_cons h hm
    rw [List.length_cons] at h1
    obtain ⟨w1, w2, w3, w4⟩ := wrap4 (k := k0) h0 (by omega)
    have L : i < (done ++ x :: r).length := by simp; omega
    have g1 : decide ((i : Int) < ((done ++ x :: r).length : Int)) = true := decide_eq_true (by omega)
    have g2 : decide (i < (done ++ x :: r).length) = true := decide_eq_true (by omega)
    refine Ev.step (fun k => w_markStepS_l2_eq k k0 i _) ?_
    simp only [Int.toNat_natCast, List.length_set, List.set_set, getD_set_self L, w1, w2, w3, w4, a.z, a.w, g1, g2, cond_true]
    have e : (done ++ x :: r).set i (k0, (k0 + 1, k0 + 2), k0 + 3) = (done ++ [(k0, (k0 + 1, k0 + 2), k0 + 3)]) ++ r := by
      rw [← hl, List.set_append_right _ _ (Nat.le_refl _)]
      simp
    have := ih (i + 1) (k0 + 4) (done ++ [(k0, (k0 + 1, k0 + 2), k0 + 3)]) a.next (by simp [hl]) (by omega) (by omega)
    rw [← e] at this
    refine this.to ?_
    simp [stepsFrom]
    omega
theorem markStepS_ev (xs : List Step) (k0 : Int) (hm : xs.length ≤ maxLen) (h0 : 0 ≤ k0) (h1 : k0 + 4 * xs.length ≤ top) :
    Ev (fun k => w_markStepS k (xs, k0)) (k0 + 4 * xs.length, stepsFrom k0 xs.length) :=
  Ev.step (fun k => w_markStepS_eq k xs k0) (markStepS_l2_ev xs hm xs 0 k0 [] rfl rfl h0 h1)
theorem markTrick_ev (t : Trick) (k0 : Int) (h1 : t.1.length ≤ 1048576) (h2 : t.2.1.length ≤ 1048576) (h0 : 0 ≤ k0) (hk : k0 ≤ 1099511627776) :
    Ev (fun k => w_markTrick k (t, k0)) (k0 + t.1.length + 4 * t.2.1.length, upFrom k0 t.1.length, stepsFrom (k0 + t.1.length) t.2.1.length) := by
  have te := top_eq
  refine Ev.step (fun k => w_markTrick_eq k t k0) (Ev.bind (markIntS_ev t.1 k0 (by rw [maxLen_eq]; omega) h0 (by omega)) ?_)
  exact Ev.bind (markStepS_ev t.2.1 (k0 + t.1.length) (by rw [maxLen_eq]; omega) (by omega) (by omega)) (Ev.pure _)
end Qq
namespace Qq
open Go Go.Vt Pt
set_option linter.unusedVariables false
set_option linter.unusedSimpArgs false
theorem str_eq (a b : ByteArray) : (a.toList == b.toList) = decide (a = b) := by
  rw [Bool.eq_iff_iff, beq_iff_eq, decide_eq_true_eq, ByteArray.toList_eq, ByteArray.toList_eq]
  constructor
  · intro h
    exact ByteArray.ext (Array.ext' h)
  · intro h; rw [h]
theorem eqStringS_l4_ev (xs ys : List ByteArray) (hx : xs.length ≤ maxLen) (hy : ys.length ≤ maxLen) : ∀ (r s : List ByteArray) (i : Nat), xs.drop i = r → ys.drop i = s → s.length = r.length → Ev (fun k => w_eqStringS_l4 k xs ys (i : Int)) (decide (r = s))
  | [], [], i, h1, h2, hl => by
    have a := at_nil h1
    refine Ev.step (fun k => w_eqStringS_l4_eq k xs ys i) ?_
    simp only [a.g, cond_false]
    exact Ev.pure _
  | x :: r, y :: s, i, h1, h2, hl => by
    have a := at_cons h1 hx
    have b := at_cons h2 hy
    refine Ev.step (fun k => w_eqStringS_l4_eq k xs ys i) ?_
    simp only [a.g, a.z, b.g, a.get, b.get, a.w, cond_true, str_eq]
    have ih := eqStringS_l4_ev xs ys hx hy r s (i + 1) a.next b.next (by simpa using hl)
    refine Ev.ite (fun h => Ev.some ?_) (fun h => ih.to ?_)
    · have : ¬ x = y := by simpa using h
      simp [this]
    · have : x = y := by simpa using h
      simp [this]
  | [], _ :: _, _, _, _, hl => by simp at hl
  | _ :: _, [], _, _, _, hl => by simp at hl
theorem eqStringS_ev (xs ys : List ByteArray) (hx : xs.length ≤ maxLen) (hy : ys.length ≤ maxLen) : Ev (fun k => w_eqStringS k (xs, ys)) (decide (xs = ys)) := by
  refine Ev.step (fun k => w_eqStringS_eq k xs ys) (Ev.ite (fun h => Ev.some ?_) (fun h => eqStringS_l4_ev xs ys hx hy xs ys 0 rfl rfl ?_))
  · have h' : ¬ xs.length = ys.length := by simp at h; omega
    have : ¬ xs = ys := fun e => h' (by rw [e])
    simp [this]
  · simp at h; omega
def mtF : Nat → Nat → List UInt8 → List UInt8
  | 0, _, s => s
  | f + 1, n, s => if n = 0 then s else mtF f (n / 10) (UInt8.ofNat (48 + n % 10) :: s)
def markT (n : Nat) : ByteArray := strB (109 :: mtF n n [])
theorem markText_l4_ev : ∀ (f n : Nat) (s : List UInt8), n ≤ f → f ≤ 1000 → s.length + f ≤ 2000 → Ev (fun k => w_markText_l4 k (n : Int) (strB s)) (strB (109 :: mtF f n s)) := by
  intro f
  have fin : ∀ (s : List UInt8), s.length ≤ 2000 → Ev (fun k => w_markText_l4 k ((0 : Nat) : Int) (strB s)) (strB (109 :: s)) := by
    intro s hs
    refine Ev.step (fun k => w_markText_l4_eq k _ _) (Ev.no (by simp) (Ev.yes (by rw [strB_size]; show decide (1 + _ ≤ _) = true; simp; omega) (Ev.some ?_)))
    exact strB_add [109] s
  induction f with
  | zero =>
    intro n s hn hf hs
    have : n = 0 := by omega
    subst this
    exact fin s (by omega)
  | succ f ih =>
    intro n s hn hf hs
    unfold mtF
    by_cases h0 : n = 0
    · subst h0
      rw [if_pos rfl]
      exact fin s (by omega)
    · rw [if_neg h0]
      have e1 : ((n : Int).tmod 10) = ((n % 10 : Nat) : Int) := by rw [Int.tmod_eq_emod_of_nonneg (by omega)]; omega
      have e2 : ((n : Int).tdiv 10) = ((n / 10 : Nat) : Int) := by rw [Int.tdiv_eq_ediv_of_nonneg (by omega)]; omega
      refine Ev.step (fun k => w_markText_l4_eq k _ _) (Ev.yes (by simp; omega) ?_)
      rw [e1, e2, dig _ (Nat.mod_lt _ (by omega)), strB_add, wrap_id (x := ((n / 10 : Nat) : Int)) (by omega) (by omega)]
      refine Ev.yes (by rw [strB_size, strB_size]; simp; omega) ?_
      exact ih (n / 10) (UInt8.ofNat (48 + n % 10) :: s) (by omega) (by omega) (by simp; omega)
theorem markText_ev (n : Nat) (h1 : 1 ≤ n) (h2 : n ≤ 1000) : Ev (fun k => w_markText k (n : Int)) (markT n) :=
  Ev.step (fun k => w_markText_eq k _) (Ev.no (by simp; omega) (markText_l4_ev n n [] (Nat.le_refl _) h2 (by simp; omega)))
def marksT (k : Nat) : Nat → List ByteArray
  | 0 => []
  | n + 1 => markT k :: marksT (k + 1) n
theorem marksT_len : ∀ (k n : Nat), (marksT k n).length = n
  | _, 0 => rfl
  | k, n + 1 => by show (marksT (k + 1) n).length + 1 = n + 1; rw [marksT_len]
theorem markStringS_l2_ev (xs : List ByteArray) (hm : xs.length ≤ 500) : ∀ (r : List ByteArray) (i k0 : Nat) (done : List ByteArray), xs.drop i = r → done.length = i → 1 ≤ k0 → k0 + r.length ≤ 1000 →
    Ev (fun k => w_markStringS_l2 k (k0 : Int) (i : Int) (done ++ r)) (((k0 + r.length : Nat) : Int), done ++ marksT k0 r.length) := by
  intro r
  induction r with
  | nil =>
    intro i k0 done h hl h0 h1
    refine Ev.step (fun k => w_markStringS_l2_eq k _ _ _) ?_
    have : decide ((i : Int) < ((done ++ ([] : List ByteArray)).length : Int)) = false := by simp; omega
    refine Ev.no this (Ev.some ?_)
    simp [marksT]
  | cons x r ih =>
    intro i k0 done h hl h0 h1
    have a := at_cons h (by rw [maxLen_eq]; omega)
    have hlt := a.lt
    rw [List.length_cons] at h1
    have L : i < (done ++ x :: r).length := by simp; omega
    have g1 : decide ((i : Int) < ((done ++ x :: r).length : Int)) = true := decide_eq_true (by omega)
    have g2 : decide ((i : Int).toNat < (done ++ x :: r).length) = true := decide_eq_true (by omega)
    refine Ev.step (fun k => w_markStringS_l2_eq k _ _ _) (Ev.yes g1 (Ev.bind (markText_ev k0 h0 (by omega)) ?_))
    simp only [g1, g2, a.z, a.w, cond_true]
    rw [wrap_id (x := (k0 : Int) + 1) (by omega) (by omega)]
    have e : (done ++ x :: r).set (i : Int).toNat (markT k0) = (done ++ [markT k0]) ++ r := by
      rw [Int.toNat_natCast, ← hl, List.set_append_right _ _ (Nat.le_refl _)]
      simp
    rw [e]
    have := ih (i + 1) (k0 + 1) (done ++ [markT k0]) a.next (by simp [hl]) (by omega) (by omega)
    refine (show Ev (fun k => w_markStringS_l2 k ((k0 : Int) + 1) ((i + 1 : Nat) : Int) ((done ++ [markT k0]) ++ r)) _ from this).to ?_
    simp [marksT]
    omega
theorem markStringS_ev (xs : List ByteArray) (hm : xs.length ≤ 500) : Ev (fun k => w_markStringS k (xs, 1)) (((1 + xs.length : Nat) : Int), marksT 1 xs.length) :=
  Ev.step (fun k => w_markStringS_eq k xs 1) (markStringS_l2_ev xs hm xs 0 1 [] rfl rfl (by omega) (by omega))
theorem heldStringS_l2_ev (ys : List ByteArray) (hm : ys.length ≤ 500) : ∀ (n i k0 : Nat), ys.drop i = marksT k0 n → 1 ≤ k0 → k0 + n ≤ 1000 → Ev (fun k => w_heldStringS_l2 k ys (k0 : Int) (i : Int)) ((k0 + n : Nat) : Int) := by
  intro n
  induction n with
  | zero =>
    intro i k0 h h0 h1
    have a := at_nil h
    refine Ev.step (fun k => w_heldStringS_l2_eq k ys _ i) ?_
    simp only [a.g, cond_false]
    exact Ev.some (by simp)
  | succ n ih =>
    intro i k0 h h0 h1
    have a := at_cons h (by rw [maxLen_eq]; omega)
    refine Ev.step (fun k => w_heldStringS_l2_eq k ys _ i) ?_
    simp only [a.g, a.z, a.get, a.w, cond_true]
    refine Ev.bind (markText_ev k0 h0 (by omega)) (Ev.no (by simp) ?_)
    rw [wrap_id (x := (k0 : Int) + 1) (by omega) (by omega)]
    have := ih (i + 1) (k0 + 1) a.next (by omega) (by omega)
    refine (show Ev (fun k => w_heldStringS_l2 k ys ((k0 : Int) + 1) ((i + 1 : Nat) : Int)) _ from this).to ?_
    omega
theorem heldStringS_ev (n : Nat) (hm : n ≤ 500) : Ev (fun k => w_heldStringS k (marksT 1 n, 1)) ((1 + n : Nat) : Int) :=
  Ev.step (fun k => w_heldStringS_eq k _ 1) (heldStringS_l2_ev _ (by rw [marksT_len]; exact hm) n 0 1 rfl (by omega) (by omega))
theorem formatClaim_size (c a b : Int) (ha : In a) (hb : In b) : (formatClaim c a b).size ≤ 60 := by
  have sa := itoaB_size a ha
  have sb := itoaB_size b hb
  unfold formatClaim
  split
  · decide
  split
  · exact Nat.le_trans (sz_add (m := 9) (by decide) sa) (by decide)
  split
  · exact Nat.le_trans (sz_add (m := 3) (by decide) sa) (by decide)
  split
  · have s1 := sz_add (a := (⟨#[99, 97, 114, 100, 32]⟩ : ByteArray)) (m := 5) (by decide) sa
    have s2 := sz_add (b := (⟨#[32, 97, 116, 32]⟩ : ByteArray)) (n := 4) s1 (by decide)
    exact Nat.le_trans (sz_add s2 sb) (by decide)
  split
  · decide
  · decide
def claimB (t : Trick) : ByteArray := (⟨#[99, 108, 97, 105, 109, 32]⟩ : ByteArray) ++ formatClaim t.2.2.1 t.2.2.2.1 t.2.2.2.2
def startB (t : Trick) : ByteArray := (⟨#[115, 116, 97, 114, 116, 32]⟩ : ByteArray) ++ formatPacket t.1
def trickLines (t : Trick) : List ByteArray := if trickOk t then ([startB t] ++ t.2.1.map formatStep) ++ [claimB t] else []
theorem s_TrickLines_l5_ev (t : Trick) (hst : t.2.1.length ≤ 12) (ha : In t.2.2.2.1) (hb : In t.2.2.2.2) : ∀ (r : List Step) (i : Nat), t.2.1.drop i = r →
    Ev (fun k => s_TrickLines_l5 k t.2.1 (t.2.1.length : Int) (i : Int) t.1 t.2.1 t.2.2.1 t.2.2.2.1 t.2.2.2.2 ([startB t] ++ (t.2.1.take i).map formatStep)) (([startB t] ++ t.2.1.map formatStep) ++ [claimB t])
  | [], i, h => by
    have q := at_nil h
    refine Ev.step (fun k => s_TrickLines_l5_eq k _ _ _ _ _ _ _ _ _) ?_
    simp only [q.g, cond_false]
    rw [List.take_of_length_le q.ge]
    exact Ev.bind (s_FormatClaim_ev t.1 t.2.1 _ _ _ ha hb) (Ev.yes (sz_ok (m := 6) (by decide) (formatClaim_size _ _ _ ha hb) (by decide)) (Ev.yes (by rw [rowMax_eq]; simp; omega) (Ev.pure _)))
  | s :: r, i, h => by
    have q := at_cons h (by rw [maxLen_eq]; omega)
    have hlt := q.lt
    have ih := s_TrickLines_l5_ev t hst ha hb r (i + 1) q.next
    have e : t.2.1[i] = s := by have := q.get (0, ((0, 0), 0)); rw [Int.toNat_natCast, List.getD, List.getElem?_eq_getElem hlt] at this; exact this
    rw [List.take_succ_eq_append_getElem hlt, List.map_append, e, ← List.append_assoc] at ih
    refine Ev.step (fun k => s_TrickLines_l5_eq k _ _ _ _ _ _ _ _ _) ?_
    simp only [q.g, q.z, q.get, q.w, cond_true]
    exact Ev.bind (s_FormatStep_ev s) (Ev.yes (by rw [rowMax_eq]; simp; omega) ih)
theorem i_TrickLines_l5_ev (t : Trick) (hst : t.2.1.length ≤ 12) (ha : In t.2.2.2.1) (hb : In t.2.2.2.2) : ∀ (r : List Step) (i : Nat), t.2.1.drop i = r →
    Ev (fun k => i_TrickLines_l5 k t.2.1 (t.2.1.length : Int) (i : Int) t.1 t.2.1 t.2.2.1 t.2.2.2.1 t.2.2.2.2 ([startB t] ++ (t.2.1.take i).map formatStep)) (([startB t] ++ t.2.1.map formatStep) ++ [claimB t])
  | [], i, h => by
    have q := at_nil h
    refine Ev.step (fun k => i_TrickLines_l5_eq k _ _ _ _ _ _ _ _ _) ?_
    simp only [q.g, cond_false]
    rw [List.take_of_length_le q.ge]
    exact Ev.bind (i_FormatClaim_ev t.1 t.2.1 _ _ _ ha hb) (Ev.yes (sz_ok (m := 6) (by decide) (formatClaim_size _ _ _ ha hb) (by decide)) (Ev.yes (by rw [rowMax_eq]; simp; omega) (Ev.pure _)))
  | s :: r, i, h => by
    have q := at_cons h (by rw [maxLen_eq]; omega)
    have hlt := q.lt
    have ih := i_TrickLines_l5_ev t hst ha hb r (i + 1) q.next
    have e : t.2.1[i] = s := by have := q.get (0, ((0, 0), 0)); rw [Int.toNat_natCast, List.getD, List.getElem?_eq_getElem hlt] at this; exact this
    rw [List.take_succ_eq_append_getElem hlt, List.map_append, e, ← List.append_assoc] at ih
    refine Ev.step (fun k => i_TrickLines_l5_eq k _ _ _ _ _ _ _ _ _) ?_
    simp only [q.g, q.z, q.get, q.w, cond_true]
    exact Ev.bind (i_FormatStep_ev s) (Ev.yes (by rw [rowMax_eq]; simp; omega) ih)
theorem s_TrickLines_ev (t : Trick) (a1 : t.1.length ≤ maxLen) (a2 : t.2.1.length ≤ maxLen) (ha : In t.2.2.2.1) (hb : In t.2.2.2.2) : Ev (fun k => s_TrickLines k t) (trickLines t) := by
  unfold trickLines
  refine Ev.step (fun k => s_TrickLines_eq k t) (Ev.bind (s_TrickOk_ev t a1 a2) (Ev.ite (fun h => Ev.some ?_) (fun h => ?_)))
  · have : trickOk t = false := by simpa using h
    rw [this]; rfl
  · have e : trickOk t = true := by simpa using h
    rw [if_pos e]
    have := s_TrickLines_l5_ev t (trickOk_len e).1 ha hb t.2.1 0 rfl
    rw [List.take_zero, List.map_nil, List.append_nil] at this
    exact Ev.bind (s_FormatPacket_ev t.1 a1) (Ev.yes (sz_ok (m := 6) (by decide) (formatPacket_size t.1) (by decide)) this)
theorem i_TrickLines_ev (t : Trick) (a1 : t.1.length ≤ maxLen) (ai : Ins t.1) (a2 : t.2.1.length ≤ maxLen) (ha : In t.2.2.2.1) (hb : In t.2.2.2.2) : Ev (fun k => i_TrickLines k t) (trickLines t) := by
  unfold trickLines
  refine Ev.step (fun k => i_TrickLines_eq k t) (Ev.bind (i_TrickOk_ev t a1 ai a2) (Ev.ite (fun h => Ev.some ?_) (fun h => ?_)))
  · have : trickOk t = false := by simpa using h
    rw [this]; rfl
  · have e : trickOk t = true := by simpa using h
    rw [if_pos e]
    have := i_TrickLines_l5_ev t (trickOk_len e).1 ha hb t.2.1 0 rfl
    rw [List.take_zero, List.map_nil, List.append_nil] at this
    exact Ev.bind (i_FormatPacket_ev t.1 a1 ai) (Ev.yes (sz_ok (m := 6) (by decide) (formatPacket_size t.1) (by decide)) this)
theorem trickLines_len (t : Trick) : (trickLines t).length ≤ 20 := by
  unfold trickLines
  split
  · rename_i h
    have := (trickOk_len h).1
    simp; omega
  · simp
theorem FnExactTrickLines_ev (t : Trick) (f0 : Fits TrickTy t) : Ev (fun k => w_FnExactTrickLines k t) true := by
  obtain ⟨a1, ai, a2⟩ := trick_fit f0
  obtain ⟨n1, n2, n3⟩ := trick_nums f0
  refine Ev.step (fun k => w_FnExactTrickLines_eq k t) (Ev.bind (szTrick_ev t 1048576 a1 a2 (by omega) (by omega)) (Ev.ite (fun h => Ev.pure _) (fun h => ?_)))
  obtain ⟨c1, c2, c3, c4⟩ := szTrick_fit (t := t) (n := 1048576) (by omega) (by simpa using h)
  have hl := trickLines_len t
  have es := s_TrickLines_ev t a1 a2 n2 n3
  have ei := i_TrickLines_ev t a1 ai a2 n2 n3
  revert hl es ei
  generalize trickLines t = y
  intro hl es ei
  have hl' : y.length ≤ maxLen := by rw [maxLen_eq]; omega
  have ee := eqStringS_ev y y hl' hl'
  have hd := heldStringS_ev y.length (by omega)
  have et := toTrick_ev t c1 c2
  refine Ev.bind et (Ev.bind es (Ev.bind et (Ev.bind ei (Ev.bind ee (Ev.no (by simp) ?_)))))
  refine Ev.bind et (Ev.bind (eqTrick_ev t t a1 a2 a1 a2) (Ev.no (by simp) ?_))
  refine Ev.bind (markTrick_ev t 1 c1 c2 (by omega) (by omega)) (Ev.no (by simp; omega) (Ev.bind ee (Ev.no (by simp) ?_)))
  refine Ev.bind (markStringS_ev y (by omega)) (Ev.bind hd (Ev.no (by simp; omega) (Ev.no (by simp) ?_)))
  refine Ev.bind et (Ev.bind ei (Ev.bind ee (Ev.no (by simp) ?_)))
  exact Ev.bind hd (Ev.no (by simp; omega) (Ev.no (by simp) (Ev.pure _)))
end Qq
