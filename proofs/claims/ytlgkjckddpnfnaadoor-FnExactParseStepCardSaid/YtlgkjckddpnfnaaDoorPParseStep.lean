/-
  The law FnExactParseStep comes to true: the impl's reading of a step is the reference's.
  Conditions: texts are such as a machine bears.
-/
import Derived.Test.YtlgkjckddpnfnaaDoorPt
import Derived.Test.YtlgkjckddpnfnaaDoorXvzd
import Derived.Laws.BitsLemmas
import Derived.Lib.ItoaLen
import Derived.Test.YtlgkjckddpnfnaaDoorXvzl
namespace Go.Vt
end Go.Vt
namespace Qq
open Go Go.Vt
set_option linter.unusedVariables false
set_option linter.unusedSimpArgs false
theorem maxLen_eq : maxLen = 9223372036854775807 := by unfold maxLen; decide
theorem rowMax_eq : rowMax = 4294967296 := rfl
theorem wrap_id {x : Int} (h1 : -9223372036854775808 ≤ x) (h2 : x ≤ 9223372036854775807) : IntKind.i64.wrap x = x := by
  rw [IntKind.wrap_i64]; omega
/-- Numbers of a machine's kind. -/
def In (x : Int) : Prop := -9223372036854775808 ≤ x ∧ x ≤ 9223372036854775807
structure AtCons {α : Type} (xs : List α) (i : Nat) (y : α) (rest : List α) : Prop where
  lt : i < xs.length
  g : decide ((i : Int) < (xs.length : Int)) = true
  z : decide ((0 : Int) ≤ (i : Int)) = true
  n : decide ((i : Int).toNat < xs.length) = true
  get : ∀ d, xs.getD (i : Int).toNat d = y
  w : IntKind.i64.wrap ((i : Int) + 1) = ((i + 1 : Nat) : Int)
  next : xs.drop (i + 1) = rest
  mem : y ∈ xs
  gt : ∀ d, xs.getD i d = y
  le : decide ((i : Int) ≤ (xs.length : Int)) = true
theorem at_cons {α : Type} {xs : List α} {i : Nat} {y : α} {rest : List α} (h : xs.drop i = y :: rest) (hm : xs.length ≤ maxLen) : AtCons xs i y rest := by
  rw [maxLen_eq] at hm
  have lt : i < xs.length := by
    rcases Nat.lt_or_ge i xs.length with h1 | h1
    · exact h1
    · rw [List.drop_eq_nil_of_le h1] at h; cases h
  have e := List.drop_eq_getElem_cons lt
  rw [e] at h
  have hy : xs[i] = y := by injection h
  refine ⟨lt, by simp; omega, by simp, by simp; omega, fun d => by simp [List.getD, lt, hy], by rw [wrap_id (by omega) (by omega)]; simp, by injection h, by rw [← hy]; exact List.getElem_mem lt, fun d => by simp [List.getD, lt, hy], by simp; omega⟩
structure AtNil {α : Type} (xs : List α) (i : Nat) : Prop where
  ge : xs.length ≤ i
  g : decide ((i : Int) < (xs.length : Int)) = false
theorem at_nil {α : Type} {xs : List α} {i : Nat} (h : xs.drop i = []) : AtNil xs i := by
  have ge : xs.length ≤ i := List.drop_eq_nil_iff.1 h
  exact ⟨ge, by simp; omega⟩
end Qq
namespace Qq
open Go Go.Vt Pt
set_option linter.unusedVariables false
set_option linter.unusedSimpArgs false
def strB (l : List UInt8) : ByteArray := ⟨l.toArray⟩
theorem strB_add (a b : List UInt8) : strB a ++ strB b = strB (a ++ b) := by unfold strB; apply ByteArray.ext; simp
theorem strB_size (a : List UInt8) : (strB a).size = a.length := by simp [strB, ByteArray.size]
theorem strB_one (x : Int) : bytesStr [x] = strB [UInt8.ofNat x.toNat] := rfl
def itoaB (n : Int) : ByteArray := strB (Lib.itoa n)
theorem dec_small {u : Nat} (h : u < 10) : Lib.decDigits u = [UInt8.ofNat (48 + u)] := by rw [Lib.decDigits, dif_pos h]
theorem dec_big {u : Nat} (h : ¬ u < 10) : Lib.decDigits u = Lib.decDigits (u / 10) ++ [UInt8.ofNat (48 + u % 10)] := by rw [Lib.decDigits, dif_neg h]
theorem dig (d : Nat) (h : d < 10) : bytesStr [IntKind.u8.wrap (IntKind.i64.wrap ((48 : Int) + (d : Int)))] = strB [UInt8.ofNat (48 + d)] := by
  rw [wrap_id (by omega) (by omega), strB_one]
  have : IntKind.u8.wrap ((48 : Int) + d) = ((48 + d : Nat) : Int) := by
    have h2 : (48 : Int) + d < 256 := by omega
    unfold IntKind.wrap
    have e : (2 ^ IntKind.u8.bits : Int) = 256 := by decide
    have e2 : IntKind.u8.signed = false := rfl
    simp only [e, e2, Bool.false_and, Bool.false_eq_true, if_false]
    omega
  rw [this, Int.toNat_natCast]
theorem s_FormatInt_l6_ev : ∀ (n : Nat) (s : List UInt8), (n : Int) ≤ 9223372036854775807 → s.length + n ≤ 9223372036854775807 + 1000 → (Lib.decDigits n).length + s.length ≤ 1000 → Ev (fun k => s_FormatInt_l6 k (n : Int) (strB s)) (strB (Lib.decDigits n ++ s)) := by
  intro n
  induction n using Nat.strongRecOn with
  | _ n ih =>
    intro s hn _ hl
    refine Ev.step (fun k => s_FormatInt_l6_eq k _ _) (Ev.ite (fun h => ?_) (fun h => ?_))
    · have h10 : ¬ n < 10 := by simp at h; omega
      have e1 : ((n : Int).tmod 10) = ((n % 10 : Nat) : Int) := by rw [Int.tmod_eq_emod_of_nonneg (by omega)]; omega
      have e2 : ((n : Int).tdiv 10) = ((n / 10 : Nat) : Int) := by rw [Int.tdiv_eq_ediv_of_nonneg (by omega)]; omega
      rw [dec_big h10] at hl ⊢
      simp only [List.length_append, List.length_singleton] at hl
      rw [e1, e2, dig _ (Nat.mod_lt _ (by omega)), strB_add, wrap_id (x := ((n / 10 : Nat) : Int)) (by omega) (by omega)]
      refine Ev.yes (by rw [strB_size, strB_size]; simp; omega) ?_
      rw [List.append_assoc]
      exact ih (n / 10) (by omega) _ (by omega) (by simp; omega) (by simp; omega)
    · have h10 : n < 10 := by simp at h; omega
      rw [dec_small h10] at hl ⊢
      rw [dig n h10, strB_add]
      exact Ev.yes (by rw [strB_size, strB_size]; simp at hl ⊢; omega) (Ev.pure _)
theorem dec_len (u : Nat) (h : (u : Int) ≤ 9223372036854775808) : (Lib.decDigits u).length ≤ 20 := by
  have := Lib.nDigits_le20 u (by omega)
  rw [Lib.decDigits_length]; exact this
theorem s_FormatInt_neg : ∀ (u : Nat), 1 ≤ u → (u : Int) ≤ 9223372036854775808 → Ev (fun k => s_FormatInt k (-(u : Int))) (strB (45 :: Lib.decDigits u)) := by
  intro u
  induction u using Nat.strongRecOn with
  | _ u ih =>
    intro h1 hu
    have hl := dec_len u hu
    have e1 : ((-(u : Int)).tmod 10) = -((u % 10 : Nat) : Int) := by rw [Int.neg_tmod, Int.tmod_eq_emod_of_nonneg (by omega)]; omega
    have e2 : ((-(u : Int)).tdiv 10) = -((u / 10 : Nat) : Int) := by rw [Int.neg_tdiv, Int.tdiv_eq_ediv_of_nonneg (by omega)]; omega
    refine Ev.step (fun k => s_FormatInt_eq k _) (Ev.yes (by simp; omega) ?_)
    rw [e1, e2, wrap_id (x := -((u / 10 : Nat) : Int)) (by omega) (by omega)]
    refine Ev.ite (fun h => ?_) (fun h => ?_)
    · have h10 : u < 10 := by simp at h; omega
      have e3 : (48 : Int) - (-(u : Int)) = 48 + (u : Int) := by omega
      have e4 : (⟨#[45]⟩ : ByteArray) = strB [45] := rfl
      rw [e3, dig u h10, e4, strB_add, dec_small h10]
      exact Ev.yes (by rw [strB_size, strB_size]; rfl) (Ev.pure _)
    · have h10 : ¬ u < 10 := by simp at h; omega
      have e3 : (48 : Int) - (-((u % 10 : Nat) : Int)) = 48 + ((u % 10 : Nat) : Int) := by omega
      rw [dec_big h10] at hl ⊢
      simp only [List.length_append, List.length_singleton] at hl
      refine Ev.bind (ih (u / 10) (by omega) (by omega) (by omega)) ?_
      rw [e3, dig _ (Nat.mod_lt _ (by omega)), strB_add]
      exact Ev.yes (by rw [strB_size, strB_size]; simp; omega) (Ev.pure _)
theorem s_FormatInt_ev (n : Int) (hn : In n) : Ev (fun k => s_FormatInt k n) (itoaB n) := by
  unfold In at hn
  by_cases h : n < 0
  · have := s_FormatInt_neg n.natAbs (by omega) (by omega)
    have e : (-((n.natAbs : Nat) : Int)) = n := by omega
    rw [e] at this
    refine this.to ?_
    unfold itoaB Lib.itoa
    rw [if_pos h]
  · have hl := dec_len n.toNat (by omega)
    have := s_FormatInt_l6_ev n.toNat [] (by omega) (by simp; omega) (by simp; omega)
    have e : ((n.toNat : Nat) : Int) = n := by omega
    rw [e] at this
    refine Ev.step (fun k => s_FormatInt_eq k n) (Ev.no (by simpa using h) (this.to ?_))
    unfold itoaB Lib.itoa
    rw [if_neg h, List.append_nil]
theorem Itoa_ev (n : Int) (hn : In n) : Ev (fun k => strconv_Itoa k n) (itoaB n) := by
  refine Ev.congr (fun k => strconv_Itoa_eq k n) ?_
  unfold itoaF
  refine Ev.yes ?_ (Ev.pure _)
  unfold In at hn
  simp; exact hn
theorem i_FormatInt_ev (n : Int) (hn : In n) : Ev (fun k => i_FormatInt k n) (itoaB n) :=
  Ev.step (fun k => i_FormatInt_eq k n) (Ev.bind (Itoa_ev n hn) (Ev.pure _))
theorem itoaB_size (n : Int) (hn : In n) : (itoaB n).size ≤ 21 := by
  unfold In at hn
  rw [itoaB, strB_size]
  exact Lib.itoa_length_le n hn.1 hn.2
end Qq
namespace Qq
open Go Go.Vt Pt
set_option linter.unusedVariables false
set_option linter.unusedSimpArgs false
theorem dig_toNat {d : Nat} (h : d < 10) : (UInt8.ofNat (48 + d)).toNat = 48 + d := by rw [UInt8.toNat_ofNat']; omega
theorem dec_ne (u : Nat) : Lib.decDigits u ≠ [] := by
  by_cases h : u < 10
  · rw [dec_small h]; simp
  · rw [dec_big h]; simp
theorem dec_digit (u : Nat) : ∀ b ∈ Lib.decDigits u, 48 ≤ b.toNat ∧ b.toNat ≤ 57 := by
  induction u using Nat.strongRecOn with
  | _ u ih =>
    intro b hb
    by_cases h : u < 10
    · rw [dec_small h] at hb
      rw [List.mem_singleton.1 hb, dig_toNat h]; omega
    · rw [dec_big h] at hb
      rcases List.mem_append.1 hb with h1 | h1
      · exact ih _ (by omega) b h1
      · rw [List.mem_singleton.1 h1, dig_toNat (Nat.mod_lt _ (by omega))]
        have := Nat.mod_lt u (show 0 < 10 by omega)
        omega
theorem parse10_append : ∀ (l m : List UInt8) (acc : Nat), Lib.parseUint10 acc (l ++ m) = match Lib.parseUint10 acc l with | .ok v => Lib.parseUint10 v m | e => e
  | [], m, acc => rfl
  | c :: r, m, acc => by
    simp only [List.cons_append, Lib.parseUint10]
    split
    · split
      · rfl
      · split
        · rfl
        · exact parse10_append r m _
    · rfl
theorem parse10_dec (u : Nat) : u < 18446744073709551616 → Lib.parseUint10 0 (Lib.decDigits u) = .ok u := by
  induction u using Nat.strongRecOn with
  | _ u ih =>
    intro hu
    by_cases h : u < 10
    · rw [dec_small h]
      simp only [Lib.parseUint10]
      rw [if_pos (by rw [dig_toNat h]; omega), if_neg (by omega), if_neg (by rw [dig_toNat h]; omega), dig_toNat h]
      simp
    · have hm := Nat.mod_lt u (show 0 < 10 by omega)
      rw [dec_big h, parse10_append, ih (u / 10) (by omega) (by omega)]
      simp only [Lib.parseUint10]
      rw [if_pos (by rw [dig_toNat hm]; omega), if_neg (by omega), if_neg (by rw [dig_toNat hm]; omega), dig_toNat hm]
      congr 1; omega
theorem atoi_itoa (n : Int) (hn : In n) : Lib.atoiAll (Lib.itoa n) = .ok n := by
  unfold In at hn
  unfold Lib.itoa
  by_cases h : n < 0
  · rw [if_pos h]
    have h45 : (45 : UInt8).toNat = 45 := rfl
    simp only [Lib.atoiAll, h45]
    rw [if_pos (Or.inr trivial)]
    unfold Lib.parseMag
    rw [if_neg (dec_ne _), parse10_dec _ (by omega)]
    simp only
    rw [if_neg (fun e => e.1 trivial), if_neg (fun e => by have := e.2; omega), if_pos trivial]
    congr 1
    omega
  · rw [if_neg h]
    have hne := dec_ne n.toNat
    have hd := dec_digit n.toNat
    cases hl : Lib.decDigits n.toNat with
    | nil => exact absurd hl hne
    | cons c r =>
      have hc := hd c (by rw [hl]; simp)
      simp only [Lib.atoiAll]
      rw [if_neg (by omega), ← hl]
      unfold Lib.parseMag
      rw [if_neg hne, parse10_dec _ (by omega)]
      simp only
      have h45 : ¬ c.toNat = 45 := by omega
      rw [if_neg (fun e => by have := e.2; omega), if_neg (fun e => h45 e.1), if_neg h45]
      congr 1
      omega
theorem strB_list (s : ByteArray) : strB s.data.toList = s := by unfold strB; apply ByteArray.ext; simp
theorem list_strB (l : List UInt8) : (strB l).data.toList = l := by unfold strB; simp
/-- The number whose numeral the text is; and is there one. -/
def parseI (s : ByteArray) : Int × Bool := match Lib.atoiAll s.data.toList with | .ok v => if itoaB v = s then (v, true) else (0, false) | _ => (0, false)
theorem parseI_itoa (n : Int) (hn : In n) : parseI (itoaB n) = (n, true) := by
  unfold parseI
  rw [itoaB, list_strB, atoi_itoa n hn]
  simp only
  rw [if_pos (by rw [itoaB])]
theorem parseI_false {s : ByteArray} (h : ∀ n, In n → s ≠ itoaB n) : parseI s = (0, false) := by
  unfold parseI
  cases hc : Lib.atoiAll s.data.toList with
  | ok v =>
    simp only
    rw [if_neg (fun e => h v (Lib.atoiAll_bounds hc) e.symm)]
  | _ => rfl
theorem parseI_cases (s : ByteArray) : (∃ n, In n ∧ s = itoaB n ∧ parseI s = (n, true)) ∨ (parseI s = (0, false) ∧ ∀ n, In n → s ≠ itoaB n) := by
  by_cases h : ∃ n, In n ∧ s = itoaB n
  · obtain ⟨n, h1, h2⟩ := h
    exact .inl ⟨n, h1, h2, by rw [h2]; exact parseI_itoa n h1⟩
  · have h' : ∀ n, In n → s ≠ itoaB n := fun n h1 h2 => h ⟨n, h1, h2⟩
    exact .inr ⟨parseI_false h', h'⟩
theorem itoaB_inj {m n : Int} (hm : In m) (hn : In n) (h : itoaB m = itoaB n) : m = n := by
  have := parseI_itoa m hm
  rw [h, parseI_itoa n hn] at this
  injection this with h1; exact h1.symm
/-- No space in a numeral. -/
theorem itoa_nospace (n : Int) : ∀ b ∈ Lib.itoa n, b ≠ 32 := by
  intro b hb
  unfold Lib.itoa at hb
  have h1 : ∀ u, b ∈ Lib.decDigits u → b ≠ 32 := fun u h e => by have := dec_digit u b h; subst e; have e2 : (32 : UInt8).toNat = 32 := rfl; omega
  split at hb
  · rcases List.mem_cons.1 hb with rfl | h
    · decide
    · exact h1 _ h
  · exact h1 _ hb
def cutGo (cur : List UInt8) : List UInt8 → List (List UInt8)
  | [] => [cur]
  | c :: r => if c = 32 then cur :: cutGo [] r else cutGo (cur ++ [c]) r
def cutB (s : ByteArray) : List ByteArray := (cutGo [] s.data.toList).map strB
theorem cutGo_nospace (a cur : List UInt8) (h : ∀ b ∈ a, b ≠ 32) : cutGo cur a = [cur ++ a] := by
  induction a generalizing cur with
  | nil => simp [cutGo]
  | cons c r ih =>
    unfold cutGo
    rw [if_neg (h c (by simp)), ih _ (fun b hb => h b (List.mem_cons_of_mem _ hb))]
    simp
theorem cutGo_space (a cur m : List UInt8) (h : ∀ b ∈ a, b ≠ 32) : cutGo cur (a ++ 32 :: m) = (cur ++ a) :: cutGo [] m := by
  induction a generalizing cur with
  | nil =>
    show (if (32 : UInt8) = 32 then cur :: cutGo [] m else cutGo (cur ++ [32]) m) = _
    rw [if_pos rfl, List.append_nil]
  | cons c r ih =>
    rw [List.cons_append, cutGo, if_neg (h c (by simp)), ih _ (fun b hb => h b (List.mem_cons_of_mem _ hb))]
    simp
end Qq
namespace Qq
open Go Go.Vt Pt
set_option linter.unusedVariables false
set_option linter.unusedSimpArgs false
theorem strB_extract (l : List UInt8) (a b : Nat) : (strB l).extract a b = strB ((l.take b).drop a) := by
  apply ByteArray.ext
  apply Array.ext'
  simp [strB, List.drop_take]
theorem byte_eq (c d : UInt8) : (((c.toNat : Nat) : Int) == ((d.toNat : Nat) : Int)) = decide (c = d) := by
  by_cases h : c = d
  · subst h; simp
  · have : ¬ c.toNat = d.toNat := fun e => h (UInt8.toNat_inj.1 e)
    have h2 : ¬ (((c.toNat : Nat) : Int) = ((d.toNat : Nat) : Int)) := by omega
    simp only [h, decide_false]
    exact beq_eq_false_iff_ne.2 h2
theorem byte_back (c : UInt8) : ((c.toNat : Int)).toNat.toUInt8 = c := by rw [Int.toNat_natCast]; exact UInt8.ofNat_toNat
theorem take_succ' {l : List UInt8} {i : Nat} {c : UInt8} {r : List UInt8} (h : l.drop i = c :: r) : l.take (i + 1) = l.take i ++ [c] := by
  have lt : i < l.length := by
    rcases Nat.lt_or_ge i l.length with h1 | h1
    · exact h1
    · rw [List.drop_eq_nil_of_le h1] at h; cases h
  rw [List.take_succ_eq_append_getElem lt]
  have e := List.drop_eq_getElem_cons lt
  rw [e] at h
  injection h with h1 h2
  rw [h1]
def sp : ByteArray := ⟨#[32]⟩
theorem IndexByte_sp_ev (c : UInt8) : Ev (fun k => strings_IndexByte k (sp, (c.toNat : Int))) (if c = 32 then 0 else -1) := by
  refine Ev.congr (fun k => strings_IndexByte_eq k _ _) (Ev.some ?_)
  rw [byte_back]
  show Lib.indexByte [32] c = _
  unfold Lib.indexByte
  by_cases h : c = 32
  · subst h; rfl
  · have : ((32 : UInt8) == c) = false := by simp; exact fun e => h e.symm
    rw [if_neg h, if_neg (by rw [this]; simp)]
    rfl
theorem i_SplitAny_l4_ev (l : List UInt8) (hm : l.length ≤ 1048576) : ∀ (r : List UInt8) (i f : Nat) (out : List ByteArray), l.drop i = r → f ≤ i → i ≤ l.length → out.length ≤ i →
    Ev (fun k => i_SplitAny_l4 k (strB l) sp (f : Int) (i : Int) out) (out ++ (cutGo ((l.take i).drop f) r).map strB)
  | [], i, f, out, h, hf, hi, ho => by
    have a := at_nil h
    have hil : i = l.length := Nat.le_antisymm hi a.ge
    refine Ev.step (fun k => i_SplitAny_l4_eq k _ _ _ _ _) ?_
    simp only [strB_size, a.g, cond_false, strB_extract]
    refine Ev.yes (by simp) (Ev.yes (by simp; omega) (Ev.yes (by simp) (Ev.yes (by rw [rowMax_eq]; simp; omega) (Ev.some ?_))))
    rw [hil]
    simp [cutGo]
  | c :: r, i, f, out, h, hf, hi, ho => by
    have a := at_cons h (by rw [maxLen_eq]; omega)
    have lt := a.lt
    refine Ev.step (fun k => i_SplitAny_l4_eq k _ _ _ _ _) ?_
    simp only [strB_size, list_strB, a.g, a.z, a.get, a.w, cond_true, strB_extract]
    refine Ev.bind (IndexByte_sp_ev c) ?_
    unfold cutGo
    by_cases hc : c = 32
    · rw [if_pos hc, if_pos hc]
      refine Ev.yes rfl (Ev.yes (by simp) (Ev.yes (by simp; omega) (Ev.yes (by simp; omega) (Ev.yes (by rw [rowMax_eq]; simp; omega) ?_))))
      refine (i_SplitAny_l4_ev l hm r (i + 1) (i + 1) _ a.next (Nat.le_refl _) (by omega) (by simp; omega)).to ?_
      rw [show (l.take (i + 1)).drop (i + 1) = [] from List.drop_eq_nil_of_le (by rw [List.length_take]; omega)]
      simp
    · rw [if_neg hc, if_neg hc]
      refine Ev.no rfl ?_
      refine (i_SplitAny_l4_ev l hm r (i + 1) f _ a.next (by omega) (by omega) (by omega)).to ?_
      rw [take_succ' h, List.drop_append_of_le_length (by simp; omega)]
theorem i_SplitAny_ev (s : ByteArray) (hm : s.size ≤ 1048576) : Ev (fun k => i_SplitAny k (s, sp)) (cutB s) := by
  refine Ev.step (fun k => i_SplitAny_eq k s sp) ?_
  have := i_SplitAny_l4_ev s.data.toList (by simpa using hm) _ 0 0 [] rfl (Nat.le_refl _) (Nat.zero_le _) (Nat.le_refl _)
  rw [strB_list] at this
  exact this
theorem s_SplitAny_l4_ev (l : List UInt8) (hm : l.length ≤ 1048576) : ∀ (r : List UInt8) (i f : Nat) (out : List ByteArray), l.drop i = r → f ≤ i → i ≤ l.length → out.length ≤ i →
    Ev (fun k => s_SplitAny_l4 k (strB l) sp (f : Int) (i : Int) out) (out ++ (cutGo ((l.take i).drop f) r).map strB)
  | [], i, f, out, h, hf, hi, ho => by
    have a := at_nil h
    have hil : i = l.length := Nat.le_antisymm hi a.ge
    refine Ev.step (fun k => s_SplitAny_l4_eq k _ _ _ _ _) ?_
    simp only [strB_size, a.g, cond_false, strB_extract]
    refine Ev.yes (by simp) (Ev.yes (by simp; omega) (Ev.yes (by simp) (Ev.yes (by rw [rowMax_eq]; simp; omega) (Ev.some ?_))))
    rw [hil]
    simp [cutGo]
  | c :: r, i, f, out, h, hf, hi, ho => by
    have a := at_cons h (by rw [maxLen_eq]; omega)
    have lt := a.lt
    refine Ev.step (fun k => s_SplitAny_l4_eq k _ _ _ _ _) ?_
    simp only [strB_size, a.g, cond_true]
    refine Ev.step (fun k => s_SplitAny_l7_eq k _ _ _ _ _ _) ?_
    have e1 : ((sp.size : Nat) : Int) = 1 := rfl
    have e2 : (sp.data.toList.getD (0 : Int).toNat 0) = 32 := rfl
    simp only [strB_size, list_strB, a.g, a.z, a.get, a.w, cond_true, strB_extract, e1, e2, byte_eq]
    refine Ev.yes rfl (Ev.yes rfl (Ev.yes rfl ?_))
    unfold cutGo
    by_cases hc : c = 32
    · rw [if_pos hc]
      refine Ev.yes (by simp [hc]) (Ev.yes (by simp) (Ev.yes (by simp; omega) (Ev.yes (by simp; omega) (Ev.yes (by rw [rowMax_eq]; simp; omega) ?_))))
      refine (s_SplitAny_l4_ev l hm r (i + 1) (i + 1) _ a.next (Nat.le_refl _) (by omega) (by simp; omega)).to ?_
      rw [show (l.take (i + 1)).drop (i + 1) = [] from List.drop_eq_nil_of_le (by rw [List.length_take]; omega)]
      simp
    · rw [if_neg hc]
      refine Ev.no (by simp [hc]) ?_
      refine Ev.step (fun k => s_SplitAny_l7_eq k _ _ _ _ _ _) ?_
      simp only [a.w, e1]
      refine Ev.no rfl ?_
      refine (s_SplitAny_l4_ev l hm r (i + 1) f _ a.next (by omega) (by omega) (by omega)).to ?_
      rw [take_succ' h, List.drop_append_of_le_length (by simp; omega)]
theorem s_SplitAny_ev (s : ByteArray) (hm : s.size ≤ 1048576) : Ev (fun k => s_SplitAny k (s, sp)) (cutB s) := by
  refine Ev.step (fun k => s_SplitAny_eq k s sp) ?_
  have := s_SplitAny_l4_ev s.data.toList (by simpa using hm) _ 0 0 [] rfl (Nat.le_refl _) (Nat.zero_le _) (Nat.le_refl _)
  rw [strB_list] at this
  exact this
theorem toList_beq (a b : ByteArray) : (a.toList == b.toList) = decide (a = b) := by
  by_cases h : a = b
  · subst h; simp
  · have : ¬ a.toList = b.toList := fun e => h (by
      rw [ByteArray.toList_eq, ByteArray.toList_eq] at e
      exact ByteArray.ext (Array.ext' e))
    simp [h, this]
theorem i_ParseInt_ev (s : ByteArray) (hm : s.size ≤ 1048576) : Ev (fun k => i_ParseInt k s) (parseI s) := by
  refine Ev.step (fun k => i_ParseInt_eq k s) (Ev.bind (x := atoiR s.data.toList) (Ev.congr (fun k => strconv_Atoi_eq k s) ?_) ?_)
  · unfold atoiF
    exact Ev.yes (by simp; omega) (Ev.pure _)
  · unfold atoiR parseI
    cases hc : Lib.atoiAll s.data.toList with
    | ok v =>
      refine Ev.no rfl (Ev.bind (i_FormatInt_ev v (Lib.atoiAll_bounds hc)) ?_)
      simp only [toList_beq]
      by_cases h : itoaB v = s
      · rw [if_pos h]
        exact Ev.no (by simp [h]) (Ev.pure _)
      · rw [if_neg h]
        exact Ev.yes (by simp [h]) (Ev.pure _)
    | _ => exact Ev.yes rfl (Ev.pure _)
def allD (l : List UInt8) : Bool := l.all fun b => decide (48 ≤ b.toNat) && decide (b.toNat ≤ 57)
theorem s_IsDigits_l2_ev (l : List UInt8) (hm : l.length ≤ 1048576) : ∀ (r : List UInt8) (i : Nat), l.drop i = r → Ev (fun k => s_IsDigits_l2 k (strB l) (i : Int)) (allD r && decide (0 < l.length))
  | [], i, h => by
    have a := at_nil h
    refine Ev.step (fun k => s_IsDigits_l2_eq k _ _) ?_
    simp only [strB_size, a.g, cond_false]
    exact Ev.some (by simp [allD])
  | c :: r, i, h => by
    have a := at_cons h (by rw [maxLen_eq]; omega)
    refine Ev.step (fun k => s_IsDigits_l2_eq k _ _) ?_
    simp only [strB_size, list_strB, a.g, a.z, a.get, a.w, cond_true]
    refine Ev.ite (fun h1 => Ev.some ?_) (fun h1 => Ev.ite (fun h2 => Ev.some ?_) (fun h2 => ?_))
    · have : ¬ 48 ≤ c.toNat := by simp at h1; omega
      simp [allD, this]
    · have : ¬ c.toNat ≤ 57 := by simp at h2; omega
      simp [allD, this]
    · refine (s_IsDigits_l2_ev l hm r (i + 1) a.next).to ?_
      have e1 : 48 ≤ c.toNat := by simp at h1; omega
      have e2 : c.toNat ≤ 57 := by simp at h2; omega
      simp [allD, e1, e2]
theorem s_IsDigits_ev (l : List UInt8) (hm : l.length ≤ 1048576) : Ev (fun k => s_IsDigits k (strB l)) (allD l && decide (0 < l.length)) :=
  Ev.step (fun k => s_IsDigits_eq k _) (s_IsDigits_l2_ev l hm _ 0 rfl)
/-- The number behind the sign; none: too great. -/
def runN (acc : Nat) : List UInt8 → Option Nat
  | [] => some acc
  | c :: r => if (9223372036854775808 - (c.toNat - 48)) / 10 < acc then none else runN (acc * 10 + (c.toNat - 48)) r
theorem runN_append : ∀ (l m : List UInt8) (acc : Nat), runN acc (l ++ m) = (runN acc l).bind fun v => runN v m
  | [], m, acc => rfl
  | c :: r, m, acc => by
    simp only [List.cons_append, runN]
    split
    · rfl
    · exact runN_append r m _
theorem runN_dec (u : Nat) : u ≤ 9223372036854775808 → runN 0 (Lib.decDigits u) = some u := by
  induction u using Nat.strongRecOn with
  | _ u ih =>
    intro hu
    by_cases h : u < 10
    · rw [dec_small h]
      simp only [runN]
      rw [if_neg (by omega), dig_toNat h]
      congr 1; omega
    · have hm := Nat.mod_lt u (show 0 < 10 by omega)
      rw [dec_big h, runN_append, ih (u / 10) (by omega) (by omega)]
      simp only [Option.bind_some, runN]
      rw [if_neg (by rw [dig_toNat hm]; omega), dig_toNat hm]
      congr 1; omega
theorem runN_le : ∀ (l : List UInt8) (acc u : Nat), allD l = true → acc ≤ 9223372036854775808 → runN acc l = some u → u ≤ 9223372036854775808
  | [], acc, u, _, ha, h => by cases h; exact ha
  | c :: r, acc, u, hd, ha, h => by
    simp only [allD, List.all_cons, Bool.and_eq_true, decide_eq_true_eq] at hd
    simp only [runN] at h
    split at h
    · cases h
    · exact runN_le r _ u hd.2 (by omega) h
theorem dec_len' : ∀ (k u : Nat), u < 10 ^ (k + 1) → (Lib.decDigits u).length ≤ k + 1
  | 0, u, h => by rw [dec_small (by simpa using h)]; simp
  | k + 1, u, h => by
    by_cases h1 : u < 10
    · rw [dec_small h1]; simp
    · rw [dec_big h1, List.length_append]
      have := dec_len' k (u / 10) (by rw [Nat.pow_succ] at h; omega)
      simp; omega
def fin (s : ByteArray) (neg : Bool) (u : Nat) : Int × Bool :=
  bif neg then (if itoaB (-(u : Int)) = s then (-(u : Int), true) else (0, false)) else if u = 9223372036854775808 then (0, false) else if itoaB (u : Int) = s then ((u : Int), true) else (0, false)
def finO (s : ByteArray) (neg : Bool) : Option Nat → Int × Bool
  | none => (0, false) | some u => fin s neg u
theorem s_ParseInt_l9_ev (s : ByteArray) (neg : Bool) (m : List UInt8) (hm : m.length ≤ 1048576) (hd : allD m = true) : ∀ (r : List UInt8) (i acc : Nat), m.drop i = r → allD r = true → acc ≤ 9223372036854775808 →
    Ev (fun k => s_ParseInt_l9 k s neg (strB m) (-(acc : Int)) (i : Int)) (finO s neg (runN acc r))
  | [], i, acc, h, _, ha => by
    have a := at_nil h
    refine Ev.step (fun k => s_ParseInt_l9_eq k _ _ _ _ _) ?_
    simp only [strB_size, a.g, cond_false, runN, finO, fin, toList_beq]
    cases neg with
    | true =>
      refine Ev.no rfl (Ev.bind (s_FormatInt_ev _ ⟨by omega, by omega⟩) ?_)
      by_cases h : itoaB (-(acc : Int)) = s
      · exact Ev.no (by simp [h]) (Ev.some (by simp [h]))
      · exact Ev.yes (by simp [h]) (Ev.some (by simp [h]))
    | false =>
      refine Ev.yes rfl ?_
      by_cases h1 : acc = 9223372036854775808
      · exact Ev.yes (by subst h1; decide) (Ev.some (by simp [h1]))
      · have e : IntKind.i64.wrap (0 - -(acc : Int)) = (acc : Int) := by rw [wrap_id (by omega) (by omega)]; omega
        rw [e]
        refine Ev.no (beq_eq_false_iff_ne.2 (by omega)) (Ev.bind (s_FormatInt_ev _ ⟨by omega, by omega⟩) ?_)
        by_cases h : itoaB (acc : Int) = s
        · exact Ev.no (by simp [h]) (Ev.some (by simp [h, h1]))
        · exact Ev.yes (by simp [h]) (Ev.some (by simp [h, h1]))
  | c :: r, i, acc, h, hr, ha => by
    have a := at_cons h (by rw [maxLen_eq]; omega)
    simp only [allD, List.all_cons, Bool.and_eq_true, decide_eq_true_eq] at hr
    obtain ⟨⟨h48, h57⟩, hr⟩ := hr
    refine Ev.step (fun k => s_ParseInt_l9_eq k _ _ _ _ _) ?_
    simp only [strB_size, list_strB, a.g, a.z, a.get, a.w, cond_true]
    have w1 : IntKind.i64.wrap ((IntKind.i64.wrap ((c.toNat : Nat) : Int)) - (48 : Int)) = ((c.toNat - 48 : Nat) : Int) := by
      rw [wrap_id (x := ((c.toNat : Nat) : Int)) (by omega) (by omega), wrap_id (by omega) (by omega)]; omega
    rw [w1]
    generalize hdv : c.toNat - 48 = d
    have hd9 : d ≤ 9 := by omega
    have w2 : IntKind.i64.wrap ((IntKind.i64.wrap ((-9223372036854775808 : Int) + (d : Int))).tdiv (10 : Int)) = -(((9223372036854775808 - d) / 10 : Nat) : Int) := by
      rw [wrap_id (x := (-9223372036854775808 : Int) + (d : Int)) (by omega) (by omega)]
      have e : (-9223372036854775808 : Int) + (d : Int) = -((9223372036854775808 - d : Nat) : Int) := by omega
      rw [e, Int.neg_tdiv, Int.tdiv_eq_ediv_of_nonneg (by omega), wrap_id (by omega) (by omega)]
      omega
    rw [w2]
    simp only [runN, hdv]
    by_cases hlt : (9223372036854775808 - d) / 10 < acc
    · rw [if_pos hlt]
      exact Ev.yes (decide_eq_true (by omega)) (Ev.pure _)
    · rw [if_neg hlt]
      have w3 : IntKind.i64.wrap ((IntKind.i64.wrap (-(acc : Int) * (10 : Int))) - (d : Int)) = -((acc * 10 + d : Nat) : Int) := by
        rw [wrap_id (x := -(acc : Int) * 10) (by omega) (by omega), wrap_id (by omega) (by omega)]; omega
      rw [w3]
      exact Ev.no (decide_eq_false (by omega)) (s_ParseInt_l9_ev s neg m hm hd r (i + 1) _ a.next hr (by omega))
def sPt (s : ByteArray) (neg : Bool) (t : List UInt8) : Int × Bool := if (allD t && decide (0 < t.length)) = true ∧ t.length ≤ 19 then finO s neg (runN 0 t) else (0, false)
def sP : List UInt8 → Int × Bool
  | [] => (0, false)
  | c :: r => if c = 45 then sPt (strB (c :: r)) true r else sPt (strB (c :: r)) false (c :: r)
theorem sP_cons (c : UInt8) (r : List UInt8) : sP (c :: r) = if c = 45 then sPt (strB (c :: r)) true r else sPt (strB (c :: r)) false (c :: r) := rfl
theorem sPt_ev (s : ByteArray) (neg : Bool) (t : List UInt8) (hm : t.length ≤ 1048576) : Ev (fun k => (s_IsDigits k (strB t)).bind fun y1 => bif (!y1) then some ((0 : Int), false) else (bif decide (((strB t).size : Int) > (19 : Int)) then some ((0 : Int), false) else s_ParseInt_l9 k s neg (strB t) (0 : Int) (0 : Int))) (sPt s neg t) := by
  refine Ev.bind (s_IsDigits_ev t hm) ?_
  unfold sPt
  cases h : allD t && decide (0 < t.length) with
  | false => exact Ev.yes rfl (Ev.some (by simp))
  | true =>
    refine Ev.no rfl ?_
    rw [strB_size]
    by_cases h19 : t.length ≤ 19
    · rw [if_pos ⟨rfl, h19⟩]
      have hd : allD t = true := by simp at h; exact h.1
      exact Ev.no (decide_eq_false (by omega)) (s_ParseInt_l9_ev s neg t hm hd t 0 0 rfl hd (by omega))
    · rw [if_neg (fun e => h19 e.2)]
      exact Ev.yes (decide_eq_true (by omega)) (Ev.pure _)
theorem sP_ev (l : List UInt8) (hm : l.length ≤ 1048576) : Ev (fun k => s_ParseInt k (strB l)) (sP l) := by
  refine Ev.step (fun k => s_ParseInt_eq k _) ?_
  cases l with
  | nil =>
    refine Ev.no rfl ?_
    exact Ev.bind (s_IsDigits_ev [] (by simp)) (Ev.yes rfl (Ev.pure _))
  | cons c r =>
    have hl : (c :: r).length = r.length + 1 := rfl
    have e1 : (strB (c :: r)).extract 1 ((strB (c :: r)).size : Int).toNat = strB r := by
      rw [strB_extract, strB_size, Int.toNat_natCast, List.take_length]; rfl
    have e2 : ((strB (c :: r)).data.toList.getD 0 0) = c := by rw [list_strB]; rfl
    have e3 : ((45 : Int)) = (((45 : UInt8).toNat : Nat) : Int) := rfl
    simp only [e1, e2]
    rw [e3]
    simp only [byte_eq]
    refine Ev.yes (by rw [strB_size, hl]; simp) (Ev.yes (by rw [strB_size, hl]; simp) ?_)
    rw [sP_cons]
    by_cases h : c = 45
    · rw [if_pos h]
      refine Ev.yes (by simp [h]) (Ev.yes (by rw [strB_size, hl]; simp; omega) (Ev.yes (by simp) ?_))
      have := sPt_ev (strB (c :: r)) true r (by omega)
      rw [show decide (c = 45) = true by simp [h]]
      exact this
    · rw [if_neg h]
      refine Ev.no (by simp [h]) ?_
      have := sPt_ev (strB (c :: r)) false (c :: r) hm
      rw [show decide (c = 45) = false by simp [h]]
      exact this
theorem dec_allD (u : Nat) : allD (Lib.decDigits u) = true := by
  unfold allD
  rw [List.all_eq_true]
  intro b hb
  have := dec_digit u b hb
  simp [this.1, this.2]
theorem sPt_dec (s : ByteArray) (neg : Bool) (u : Nat) (hu : u ≤ 9223372036854775808) : sPt s neg (Lib.decDigits u) = fin s neg u := by
  unfold sPt
  have hne := dec_ne u
  have hp : 0 < (Lib.decDigits u).length := List.length_pos_iff.2 hne
  rw [if_pos ⟨by rw [dec_allD]; simp [hp], dec_len' 18 u (by omega)⟩, runN_dec u hu]
  rfl
theorem sPt_no {s : ByteArray} (h : ∀ n, In n → s ≠ itoaB n) (neg : Bool) (t : List UInt8) : sPt s neg t = (0, false) := by
  unfold sPt
  split
  · rename_i hd
    have hd1 : allD t = true := by have := hd.1; simp at this; exact this.1
    cases hr : runN 0 t with
    | none => rfl
    | some u =>
      have hu := runN_le t 0 u hd1 (by omega) hr
      unfold finO fin
      cases neg with
      | true => simp only [cond_true]; rw [if_neg (fun e => h _ ⟨by omega, by omega⟩ e.symm)]
      | false =>
        simp only [cond_false]
        split
        · rfl
        · rw [if_neg (fun e => h _ ⟨by omega, by omega⟩ e.symm)]
  · rfl
theorem sP_eq (l : List UInt8) : sP l = parseI (strB l) := by
  rcases parseI_cases (strB l) with ⟨n, hn, he, hp⟩ | ⟨hp, hno⟩
  · rw [hp]
    have hl : l = Lib.itoa n := by
      have := congrArg (fun x => x.data.toList) he
      simpa [itoaB, list_strB] using this
    unfold In at hn
    have hb : strB l = itoaB n := he
    unfold Lib.itoa at hl
    by_cases h : n < 0
    · rw [if_pos h] at hl
      subst hl
      rw [sP_cons, if_pos rfl, sPt_dec _ _ _ (by omega)]
      have e : -((n.natAbs : Nat) : Int) = n := by omega
      unfold fin
      rw [hb, e]
      simp
    · rw [if_neg h] at hl
      subst hl
      cases hd : Lib.decDigits n.toNat with
      | nil => exact absurd hd (dec_ne _)
      | cons c r =>
        have hc := dec_digit n.toNat c (by rw [hd]; simp)
        have h45 : c ≠ 45 := fun e => by subst e; have e2 : (45 : UInt8).toNat = 45 := rfl; omega
        rw [sP_cons, if_neg h45, ← hd, sPt_dec _ _ _ (by omega)]
        have e : ((n.toNat : Nat) : Int) = n := by omega
        unfold fin
        rw [hb, e]
        have h63 : ¬ n.toNat = 9223372036854775808 := by omega
        simp [h63]
  · rw [hp]
    cases l with
    | nil => rfl
    | cons c r =>
      rw [sP_cons]
      split
      · exact sPt_no hno _ _
      · exact sPt_no hno _ _
theorem s_ParseInt_ev (s : ByteArray) (hm : s.size ≤ 1048576) : Ev (fun k => s_ParseInt k s) (parseI s) := by
  have := sP_ev s.data.toList (by simpa using hm)
  rw [sP_eq, strB_list] at this
  exact this
theorem cutB_size (s : ByteArray) : ∀ a ∈ cutB s, a.size ≤ s.size := by
  have H : ∀ (l cur : List UInt8), ∀ a ∈ cutGo cur l, a.length ≤ cur.length + l.length := by
    intro l
    induction l with
    | nil => intro cur a ha; simp [cutGo] at ha; subst ha; simp
    | cons c r ih =>
      intro cur a ha
      unfold cutGo at ha
      split at ha
      · rcases List.mem_cons.1 ha with rfl | h
        · simp
        · have := ih [] a h; simp at this ⊢; omega
      · have := ih _ a ha; simp at this ⊢; omega
  intro a ha
  obtain ⟨l, hl, rfl⟩ := List.mem_map.1 ha
  have := H _ _ l hl
  rw [strB_size]
  simpa using this
end Qq
namespace Qq
open Go Go.Vt Pt
set_option linter.unusedVariables false
set_option linter.unusedSimpArgs false
theorem l01In_ev (x lo hi : Int) : Ev (fun k => s_l01In k (x, lo, hi)) (decide (lo ≤ x) && decide (x ≤ hi)) := by
  refine Ev.step (fun k => s_l01In_eq k x lo hi) (Ev.ite (fun h => ?_) (fun h => ?_))
  · have h' : lo ≤ x := by simpa using h
    exact Ev.some (by simp [h'])
  · have h' : ¬ lo ≤ x := by simpa using h
    exact Ev.some (by simp [h'])
end Qq
namespace Qq
open Go Go.Vt Pt
set_option linter.unusedVariables false
set_option linter.unusedSimpArgs false
def moveOk (n : Int) (m : Int × Int) : Bool :=
  decide (1 ≤ n) && (decide (n ≤ 12) && (decide (0 ≤ m.2) &&
    (if m.1 = 1 then decide (m.2 ≤ n) else if m.1 = 2 then decide (m.2 ≤ n) else if m.1 = 3 then decide (m.2 ≤ n) else
     if m.1 = 4 then decide (m.2 ≤ 1) else if m.1 = 5 then decide (m.2 ≤ 1) else if m.1 = 7 then decide (m.2 ≤ 1) else
     if m.1 = 6 then m.2 == 0 else if m.1 = 8 then decide (m.2 < n) else if m.1 = 9 then decide (m.2 < n) else false)))
theorem i_MoveOk_ev (n : Int) (m : Int × Int) : Ev (fun k => i_MoveOk k (n, m)) (moveOk n m) := by
  obtain ⟨a, b⟩ := m
  refine Ev.step (fun k => i_MoveOk_eq k n (a, b)) ?_
  unfold moveOk
  refine Ev.ite (fun h => Ev.some ?_) (fun h => ?_)
  · have : ¬ 1 ≤ n := by simpa using h
    simp [this]
  have h1 : 1 ≤ n := by simpa using h
  refine Ev.ite (fun h => Ev.some ?_) (fun h => ?_)
  · have : ¬ n ≤ 12 := by simpa using h
    simp [this]
  have h2 : n ≤ 12 := by simpa using h
  refine Ev.ite (fun h => Ev.some ?_) (fun h => ?_)
  · have : ¬ 0 ≤ b := by simpa using h
    simp [this]
  have h3 : 0 ≤ b := by simpa using h
  clear h
  simp only [h1, h2, h3, decide_true, Bool.true_and]
  iterate 9 (refine Ev.ite (fun h => ?_) (fun h => ?_); · exact Ev.some (by simp at *; simp [*]))
  exact Ev.some (by simp at *; simp [*])
theorem s_MoveOk_ev (n : Int) (m : Int × Int) : Ev (fun k => s_MoveOk k (n, m)) (moveOk n m) := by
  obtain ⟨a, b⟩ := m
  refine Ev.step (fun k => s_MoveOk_eq k n (a, b)) (Ev.bind (l01In_ev _ _ _) ?_)
  unfold moveOk
  refine Ev.ite (fun h => ?_) (fun h => ?_)
  · exact Ev.some (by rw [Bool.eq_iff_iff]; simp at *; omega)
  have hn : 1 ≤ n ∧ n ≤ 12 := by simpa using h
  iterate 6 (refine Ev.ite (fun h => ?_) (fun h => ?_); · exact Ev.bind (l01In_ev _ _ _) (Ev.some (by rw [Bool.eq_iff_iff]; simp at *; try simp [*]; try (intros; omega))))
  refine Ev.ite (fun h => ?_) (fun h => ?_)
  · exact Ev.some (by rw [Bool.eq_iff_iff]; simp at *; try simp [*]; try (intros; omega))
  rw [wrap_id (by omega) (by omega)]
  iterate 2 (refine Ev.ite (fun h => ?_) (fun h => ?_); · exact Ev.bind (l01In_ev _ _ _) (Ev.some (by rw [Bool.eq_iff_iff]; simp at *; try simp [*]; try (intros; omega))))
  exact Ev.some (by rw [Bool.eq_iff_iff]; simp at *; try simp [*]; try (intros; omega))
def stepOk (n : Int) (s : Int × (Int × Int) × Int) : Bool :=
  decide (1 ≤ n) && (decide (n ≤ 12) &&
    (if s.1 = 1 then moveOk n s.2.1 && s.2.2 == 0 else
     if s.1 = 2 then s.2.1.1 == 0 && (s.2.1.2 == 0 && (decide (0 ≤ s.2.2) && (decide (s.2.2 ≤ 4) && ((!(s.2.2 == 3) || decide (2 ≤ n)) && (!(s.2.2 == 2) || decide (n ≤ 7)))))) else
     if s.1 = 3 then s.2.1.1 == 0 && (s.2.1.2 == 0 && (decide (0 ≤ s.2.2) && decide (s.2.2 < n))) else false))
theorem i_StepOk_ev (n : Int) (s : Int × (Int × Int) × Int) : Ev (fun k => i_StepOk k (n, s)) (stepOk n s) := by
  obtain ⟨t, ⟨a, b⟩, c⟩ := s
  refine Ev.step (fun k => i_StepOk_eq k n (t, (a, b), c)) ?_
  unfold stepOk
  refine Ev.ite (fun h => Ev.some ?_) (fun h => ?_)
  · have : ¬ 1 ≤ n := by simpa using h
    simp [this]
  have h1 : 1 ≤ n := by simpa using h
  refine Ev.ite (fun h => Ev.some ?_) (fun h => ?_)
  · have : ¬ n ≤ 12 := by simpa using h
    simp [this]
  have h2 : n ≤ 12 := by simpa using h
  clear h
  simp only [h1, h2, decide_true, Bool.true_and]
  refine Ev.ite (fun h => ?_) (fun h => ?_)
  · have e : t = 1 := by simpa using h
    subst e
    exact Ev.bind (i_MoveOk_ev n (a, b)) (Ev.ite (fun h => Ev.some (by simp at *; simp [*])) (fun h => Ev.some (by simp at *; simp [*])))
  have t1 : ¬ t = 1 := by simpa using h
  simp only [t1, if_false]
  repeat (first | (refine Ev.ite (fun h => ?_) (fun h => ?_)) | focus (refine Ev.some ?_; simp_all; done) | focus (refine Ev.some ?_; simp_all; omega) | focus (refine Ev.some ?_; rw [Bool.eq_iff_iff]; simp at *; omega))
theorem l16Choice_ev (n c : Int) : Ev (fun k => s_l16Choice k (n, c)) (decide (0 ≤ c) && (decide (c ≤ 4) && ((!(c == 3) || decide (2 ≤ n)) && (!(c == 2) || decide (n ≤ 7))))) := by
  refine Ev.step (fun k => s_l16Choice_eq k n c) (Ev.bind (l01In_ev _ _ _) ?_)
  repeat (first | (refine Ev.ite (fun h => ?_) (fun h => ?_)) | focus (refine Ev.some ?_; simp_all; done) | focus (refine Ev.some ?_; simp_all; omega) | focus (refine Ev.some ?_; rw [Bool.eq_iff_iff]; simp at *; omega))
theorem s_StepOk_ev (n : Int) (s : Int × (Int × Int) × Int) : Ev (fun k => s_StepOk k (n, s)) (stepOk n s) := by
  obtain ⟨t, ⟨a, b⟩, c⟩ := s
  refine Ev.step (fun k => s_StepOk_eq k n (t, (a, b), c)) (Ev.bind (l01In_ev _ _ _) ?_)
  unfold stepOk
  refine Ev.ite (fun h => Ev.some ?_) (fun h => ?_)
  · rcases Int.lt_or_le n 1 with h1 | h1
    · have : ¬ 1 ≤ n := by omega
      simp [this]
    · have : ¬ n ≤ 12 := by simp at h; omega
      simp [this]
  have hn : 1 ≤ n ∧ n ≤ 12 := by simpa using h
  clear h
  simp only [hn.1, hn.2, decide_true, Bool.true_and]
  refine Ev.ite (fun h => ?_) (fun h => ?_)
  · have e : t = 1 := by simpa using h
    subst e
    exact Ev.bind (s_MoveOk_ev n (a, b)) (Ev.ite (fun h => Ev.some (by simp at *; simp [*])) (fun h => Ev.some (by simp at *; simp [*])))
  have t1 : ¬ t = 1 := by simpa using h
  simp only [t1, if_false]
  clear h
  rw [wrap_id (by omega) (by omega)]
  refine Ev.ite (fun h => ?_) (fun h => ?_)
  · have e : t = 2 := by simpa using h
    subst e
    refine Ev.ite (fun h => ?_) (fun h => Ev.some ?_)
    · exact Ev.bind (l16Choice_ev n c) (Ev.some (by simp at *; simp [*]))
    · cases ha : (a == 0) <;> cases hb : (b == 0) <;> simp_all
  have t2 : ¬ t = 2 := by simpa using h
  simp only [t2, if_false]
  clear h
  refine Ev.ite (fun h => ?_) (fun h => ?_)
  · have e : t = 3 := by simpa using h
    subst e
    refine Ev.ite (fun h => ?_) (fun h => Ev.some ?_)
    · refine Ev.bind (l01In_ev _ _ _) (Ev.some ?_)
      have e2 : decide (c ≤ n - 1) = decide (c < n) := by rw [Bool.eq_iff_iff]; simp; omega
      simp at h
      simp [h, e2]
    · cases ha : (a == 0) <;> cases hb : (b == 0) <;> simp_all
  · have t3 : ¬ t = 3 := by simpa using h
    exact Ev.some (by simp [t3])
end Qq
namespace Qq
open Go Go.Vt Pt
set_option linter.unusedVariables false
set_option linter.unusedSimpArgs false
def moveNames : List ByteArray := [⟨#[99, 117, 116]⟩, ⟨#[100, 101, 97, 108]⟩, ⟨#[102, 108, 105, 112]⟩, ⟨#[102, 97, 114, 111]⟩, ⟨#[109, 111, 110, 103, 101]⟩, ⟨#[109, 105, 108, 107]⟩, ⟨#[100, 117, 99, 107]⟩, ⟨#[116, 117, 114, 110]⟩, ⟨#[117, 110, 100, 101, 114]⟩]
def moveName (kind : Int) : ByteArray := if 1 ≤ kind ∧ kind ≤ 9 then moveNames.getD (kind - 1).toNat ⟨#[]⟩ else ⟨#[]⟩
theorem moveName_size (kind : Int) : (moveName kind).size ≤ 5 := by
  unfold moveName
  split
  · rename_i h
    obtain ⟨n, hn⟩ : ∃ n : Nat, (kind - 1).toNat = n := ⟨_, rfl⟩
    have : n < 9 := by omega
    rw [hn]
    clear hn h
    revert n
    decide
  · decide
theorem s_MoveName_ev (kind : Int) : Ev (fun k => s_MoveName k kind) (moveName kind) := by
  refine Ev.step (fun k => s_MoveName_eq k kind) (Ev.bind (l01In_ev _ _ _) (Ev.ite (fun h => Ev.some ?_) (fun h => ?_)))
  · have : ¬ (1 ≤ kind ∧ kind ≤ 9) := by simp at h; omega
    rw [moveName, if_neg this]
  · have : 1 ≤ kind ∧ kind ≤ 9 := by simpa using h
    refine Ev.bind (Ev.step (fun k => s_l04Names_eq k) (Ev.pure _)) ?_
    refine Ev.yes (by simp; omega) (Ev.yes (by simp; omega) (Ev.yes (by simp; omega) (Ev.some ?_)))
    rw [moveName, if_pos this]
    obtain ⟨n, rfl⟩ : ∃ n : Nat, kind = (n : Int) + 1 := ⟨(kind - 1).toNat, by omega⟩
    have e1 : ((n : Int) + 1).toNat = n + 1 := by omega
    have e2 : ((n : Int) + 1 - 1).toNat = n := by omega
    rw [e1, e2, List.getD_cons_succ]
    rfl
theorem i_MoveName_ev (kind : Int) : Ev (fun k => i_MoveName k kind) (moveName kind) := by
  refine Ev.step (fun k => i_MoveName_eq k kind) (Ev.ite (fun h => Ev.some ?_) (fun h => Ev.ite (fun h2 => Ev.some ?_) (fun h2 => ?_)))
  · have : ¬ (1 ≤ kind ∧ kind ≤ 9) := by simp at h; omega
    rw [moveName, if_neg this]
  · have : ¬ (1 ≤ kind ∧ kind ≤ 9) := by simp at h2; omega
    rw [moveName, if_neg this]
  · have : 1 ≤ kind ∧ kind ≤ 9 := by simp at h h2; omega
    refine Ev.bind (Ev.step (fun k => i_moveNames_eq k) (Ev.pure _)) ?_
    rw [wrap_id (by omega) (by omega)]
    refine Ev.yes (by simp; omega) (Ev.yes (by simp; omega) (Ev.yes (by simp; omega) (Ev.some ?_)))
    rw [moveName, if_pos this]
    rfl
def formatMove (m : Int × Int) : ByteArray := if moveOk 12 m then (moveName m.1 ++ ⟨#[32]⟩) ++ itoaB m.2 else ⟨#[]⟩
theorem moveOk_fit {n : Int} {m : Int × Int} (h : moveOk n m = true) (hn : n = 12) : 0 ≤ m.2 ∧ m.2 ≤ 12 := by
  subst hn
  unfold moveOk at h
  simp only [Bool.and_eq_true, decide_eq_true_eq] at h
  obtain ⟨_, _, h3, h4⟩ := h
  refine ⟨h3, ?_⟩
  repeat (first | (split at h4) | (simp at h4; omega) | (simp at h4))
theorem s_FormatMove_ev (m : Int × Int) : Ev (fun k => s_FormatMove k m) (formatMove m) := by
  refine Ev.step (fun k => s_FormatMove_eq k m) (Ev.bind (s_MoveOk_ev 12 m) (Ev.ite (fun h => Ev.some ?_) (fun h => ?_)))
  · have : moveOk 12 m = false := by simpa using h
    simp [formatMove, this]
  · have e : moveOk 12 m = true := by simpa using h
    have hf := moveOk_fit e rfl
    have hi : In m.2 := by unfold In; omega
    have h1 := moveName_size m.1
    have h2 := itoaB_size m.2 hi
    refine Ev.bind (s_MoveName_ev m.1) (Ev.yes (by show decide ((moveName m.1).size + 1 ≤ _) = true; simp; omega) (Ev.bind (s_FormatInt_ev m.2 hi) (Ev.yes ?_ (Ev.some ?_))))
    · rw [ByteArray.size_append]
      show decide ((moveName m.1).size + 1 + _ ≤ _) = true
      simp; omega
    · simp [formatMove, e]
theorem i_FormatMove_ev (m : Int × Int) : Ev (fun k => i_FormatMove k m) (formatMove m) := by
  refine Ev.step (fun k => i_FormatMove_eq k m) (Ev.bind (i_MoveOk_ev 12 m) (Ev.ite (fun h => Ev.some ?_) (fun h => ?_)))
  · have : moveOk 12 m = false := by simpa using h
    simp [formatMove, this]
  · have e : moveOk 12 m = true := by simpa using h
    have hf := moveOk_fit e rfl
    have hi : In m.2 := by unfold In; omega
    have h1 := moveName_size m.1
    have h2 := itoaB_size m.2 hi
    refine Ev.bind (i_MoveName_ev m.1) (Ev.yes (by show decide ((moveName m.1).size + 1 ≤ _) = true; simp; omega) (Ev.bind (i_FormatInt_ev m.2 hi) (Ev.yes ?_ (Ev.some ?_))))
    · rw [ByteArray.size_append]
      show decide ((moveName m.1).size + 1 + _ ≤ _) = true
      simp; omega
    · simp [formatMove, e]
end Qq
namespace Qq
open Go Go.Vt Pt
set_option linter.unusedVariables false
set_option linter.unusedSimpArgs false
abbrev Step : Type := Int × (Int × Int) × Int
theorem eqStep_ev (s t : Step) : Ev (fun k => w_eqStep k (s, t)) (s == t) := by
  obtain ⟨a, ⟨b, c⟩, d⟩ := s
  obtain ⟨a', ⟨b', c'⟩, d'⟩ := t
  refine Ev.step (fun k => w_eqStep_eq k _ _) ?_
  have hm : Ev (fun k => w_eqMove k ((b, c), (b', c'))) ((b, c) == (b', c')) := by
    refine Ev.step (fun k => w_eqMove_eq k _ _) ?_
    repeat (first | (refine Ev.ite (fun h => ?_) (fun h => ?_)) | focus (refine Ev.some ?_; simp_all; done))
  refine Ev.ite (fun h => Ev.some ?_) (fun h => Ev.bind hm ?_)
  · have : ¬ a = a' := by simpa using h
    simp [this]
  · repeat (first | (refine Ev.ite (fun h => ?_) (fun h => ?_)) | focus (refine Ev.some ?_; simp_all; done))
end Qq
namespace Qq
open Go Go.Vt Pt
set_option linter.unusedVariables false
set_option linter.unusedSimpArgs false
/-- The place of the first that is s, counted from i; d where there is none. -/
def idxF (s : ByteArray) (d : Int) : Int → List ByteArray → Int
  | _, [] => d | i, a :: r => if a = s then i else idxF s d (i + 1) r
theorem idxF_succ (s : ByteArray) (d : Int) : ∀ (l : List ByteArray) (i : Int), idxF s (d + 1) (i + 1) l = idxF s d i l + 1
  | [], i => rfl
  | a :: r, i => by
    unfold idxF
    split
    · rfl
    · exact idxF_succ s d r (i + 1)
theorem idxF_bound (s : ByteArray) (d : Int) : ∀ (l : List ByteArray) (i : Int), idxF s d i l = d ∨ (i ≤ idxF s d i l ∧ idxF s d i l < i + l.length)
  | [], i => .inl rfl
  | a :: r, i => by
    unfold idxF
    split
    · exact .inr ⟨by omega, by simp; omega⟩
    · rcases idxF_bound s d r (i + 1) with h | ⟨h1, h2⟩
      · exact .inl h
      · exact .inr ⟨by omega, by simp; omega⟩
theorem s_MoveNamed_l2_ev (s : ByteArray) (xs : List ByteArray) (hm : xs.length ≤ 100) : ∀ (r : List ByteArray) (i : Nat), xs.drop i = r → Ev (fun k => s_MoveNamed_l2 k s (xs.length : Int) (i : Int) xs) (idxF s 0 (i : Int) r)
  | [], i, h => by
    have a := at_nil h
    refine Ev.step (fun k => s_MoveNamed_l2_eq k _ _ _ _) ?_
    simp only [a.g, cond_false]
    exact Ev.pure _
  | c :: r, i, h => by
    have a := at_cons h (by rw [maxLen_eq]; omega)
    refine Ev.step (fun k => s_MoveNamed_l2_eq k _ _ _ _) ?_
    simp only [a.g, a.z, a.n, a.get, a.w, cond_true, toList_beq]
    unfold idxF
    by_cases hc : c = s
    · rw [if_pos hc]; exact Ev.yes (by simp [hc]) (Ev.pure _)
    · rw [if_neg hc]; exact Ev.no (by simp [hc]) ((s_MoveNamed_l2_ev s xs hm r (i + 1) a.next).to (by push_cast; rfl))
theorem slices_Index_l2_ev (s : ByteArray) (xs : List ByteArray) (hm : xs.length ≤ 100) : ∀ (r : List ByteArray) (i : Nat), xs.drop i = r → Ev (fun k => slices_Index_string_l2 k xs s (xs.length : Int) (i : Int)) (idxF s (-1) (i : Int) r)
  | [], i, h => by
    have a := at_nil h
    refine Ev.step (fun k => slices_Index_string_l2_eq k _ _ _ _) ?_
    simp only [a.g, cond_false]
    exact Ev.pure _
  | c :: r, i, h => by
    have a := at_cons h (by rw [maxLen_eq]; omega)
    refine Ev.step (fun k => slices_Index_string_l2_eq k _ _ _ _) ?_
    simp only [a.g, a.z, a.n, a.get, a.w, cond_true, toList_beq]
    unfold idxF
    by_cases hc : c = s
    · rw [if_pos hc]; exact Ev.yes (by simp [hc]) (Ev.pure _)
    · rw [if_neg hc]; exact Ev.no (by simp; exact fun e => hc e.symm) ((slices_Index_l2_ev s xs hm r (i + 1) a.next).to (by push_cast; rfl))
/-- The kind of the moves of a name. -/
def moveNamed (s : ByteArray) : Int := idxF s 0 0 (⟨#[]⟩ :: moveNames)
theorem s_MoveNamed_ev (s : ByteArray) : Ev (fun k => s_MoveNamed k s) (moveNamed s) := by
  refine Ev.step (fun k => s_MoveNamed_eq k s) (Ev.bind (x := ⟨#[]⟩ :: moveNames) (Ev.step (fun k => s_l04Names_eq k) (Ev.pure _)) ?_)
  exact s_MoveNamed_l2_ev s (⟨#[]⟩ :: moveNames) (by decide) _ 0 rfl
theorem i_MoveNamed_ev (s : ByteArray) : Ev (fun k => i_MoveNamed k s) (moveNamed s) := by
  refine Ev.step (fun k => i_MoveNamed_eq k s) (Ev.bind (x := moveNames) (Ev.step (fun k => i_moveNames_eq k) (Ev.pure _)) ?_)
  refine Ev.bind (Ev.step (fun k => slices_Index_string_eq k _ _) (slices_Index_l2_ev s moveNames (by decide) _ 0 rfl)) (Ev.some ?_)
  show IntKind.i64.wrap (idxF s (-1) 0 moveNames + 1) = moveNamed s
  have hb := idxF_bound s (-1) moveNames 0
  have hl : moveNames.length = 9 := rfl
  rw [wrap_id (by omega) (by omega), ← idxF_succ]
  show idxF s 0 1 moveNames = idxF s 0 0 (⟨#[]⟩ :: moveNames)
  by_cases he : (⟨#[]⟩ : ByteArray) = s
  · subst he
    rfl
  · show _ = (if _ then _ else _)
    rw [if_neg he]
    rfl
theorem moveName_nospace (kind : Int) : ∀ b ∈ (moveName kind).data.toList, b ≠ 32 := by
  unfold moveName
  split
  · rename_i h
    obtain ⟨n, hn⟩ : ∃ n : Nat, (kind - 1).toNat = n := ⟨_, rfl⟩
    have : n < 9 := by omega
    rw [hn]
    clear hn h
    revert n
    decide
  · decide
theorem list_add (a b : ByteArray) : (a ++ b).data.toList = a.data.toList ++ b.data.toList := by simp
theorem cutB_two (a : ByteArray) (n : Int) (h : ∀ b ∈ a.data.toList, b ≠ 32) : cutB ((a ++ sp) ++ itoaB n) = [a, itoaB n] := by
  unfold cutB
  have e : ((a ++ sp) ++ itoaB n).data.toList = a.data.toList ++ 32 :: Lib.itoa n := by
    rw [list_add, list_add]
    show (a.data.toList ++ [32]) ++ (strB (Lib.itoa n)).data.toList = _
    rw [list_strB]; simp
  rw [e, cutGo_space _ _ _ h, cutGo_nospace _ _ (itoa_nospace n)]
  simp [strB_list, itoaB]
theorem cutB_ne {s : ByteArray} (h : (cutB s).length ≠ 1) : s ≠ ⟨#[]⟩ := by
  rintro rfl
  exact h rfl
/-- What both readings of a move come to. -/
def parseMove (s : ByteArray) : Int × Int × Bool :=
  let a := (cutB s).getD 0 ⟨#[]⟩; let p := parseI ((cutB s).getD 1 ⟨#[]⟩)
  if (cutB s).length = 2 ∧ p.2 = true ∧ formatMove (moveNamed a, p.1) = s then (moveNamed a, p.1, true) else (0, 0, false)
theorem formatMove_parse {s : ByteArray} {m : Int × Int} (h : formatMove m = s) (hs : s ≠ ⟨#[]⟩) : cutB s = [moveName m.1, itoaB m.2] ∧ In m.2 := by
  unfold formatMove at h
  split at h
  · rename_i hk
    have hf := moveOk_fit hk rfl
    subst h
    exact ⟨cutB_two _ _ (moveName_nospace _), by unfold In; omega⟩
  · exact absurd h.symm hs
theorem s_ParseMove_ev (s : ByteArray) (hm : s.size ≤ 1048576) : Ev (fun k => s_ParseMove k s) (parseMove s) := by
  refine Ev.step (fun k => s_ParseMove_eq k s) (Ev.bind (s_SplitAny_ev s hm) ?_)
  unfold parseMove
  have hsz := cutB_size s
  by_cases h2 : (cutB s).length = 2
  · match hc : cutB s, h2 with
    | [a, b], _ =>
      rw [hc] at hsz
      refine Ev.no (by simp) (Ev.yes (by simp) (Ev.yes (by simp) (Ev.bind (s_ParseInt_ev b (by have := hsz b (by simp); omega)) (Ev.yes (by simp) (Ev.yes (by simp) (Ev.bind (s_MoveNamed_ev a) ?_))))))
      show Ev _ (if ([a, b] : List ByteArray).length = 2 ∧ (parseI b).2 = true ∧ formatMove (moveNamed a, (parseI b).1) = s then (moveNamed a, (parseI b).1, true) else (0, 0, false))
      simp only [List.length_cons, List.length_nil, true_and]
      cases hp : (parseI b).2 with
      | false => exact Ev.yes rfl (Ev.some (by simp))
      | true =>
        refine Ev.no rfl (Ev.bind (s_FormatMove_ev _) ?_)
        simp only [toList_beq]
        by_cases hf : formatMove (moveNamed a, (parseI b).1) = s
        · exact Ev.no (by simp [hf]) (Ev.some (by simp [hf]))
        · exact Ev.yes (by simp [hf]) (Ev.some (by simp [hf]))
  · rw [if_neg (fun e => h2 e.1)]
    exact Ev.yes (by simp; omega) (Ev.pure _)
theorem i_ParseMove_ev (s : ByteArray) (hm : s.size ≤ 1048576) : Ev (fun k => i_ParseMove k s) (parseMove s) := by
  refine Ev.step (fun k => i_ParseMove_eq k s) (Ev.bind (i_SplitAny_ev s hm) ?_)
  unfold parseMove
  have hsz := cutB_size s
  by_cases h2 : (cutB s).length = 2
  · have hne : s ≠ ⟨#[]⟩ := cutB_ne (by omega)
    match hc : cutB s, h2 with
    | [a, b], _ =>
      rw [hc] at hsz
      refine Ev.no (by simp) (Ev.yes (by simp) (Ev.yes (by simp) (Ev.bind (i_ParseInt_ev b (by have := hsz b (by simp); omega)) (Ev.yes (by simp) (Ev.yes (by simp) (Ev.bind (i_MoveNamed_ev a) ?_))))))
      show Ev _ (if ([a, b] : List ByteArray).length = 2 ∧ (parseI b).2 = true ∧ formatMove (moveNamed a, (parseI b).1) = s then (moveNamed a, (parseI b).1, true) else (0, 0, false))
      simp only [List.length_cons, List.length_nil, true_and, toList_beq]
      refine Ev.no (by simp [hne]) (Ev.bind (i_FormatMove_ev _) ?_)
      by_cases hf : formatMove (moveNamed a, (parseI b).1) = s
      · have h3 := formatMove_parse hf hne
        rw [hc] at h3
        have hb : b = itoaB (parseI b).1 := by have := h3.1; simp at this; exact this.2
        have hp : parseI b = ((parseI b).1, true) := by
          have := parseI_itoa _ h3.2
          simp only at this
          rw [← hb] at this
          exact this
        have hp2 : (parseI b).2 = true := by rw [hp]
        exact Ev.no (by simp [hf]) (Ev.some (by simp [hf, hp2]))
      · exact Ev.yes (by simp [hf]) (Ev.some (by simp [hf]))
  · rw [if_neg (fun e => h2 e.1)]
    exact Ev.yes (by simp; omega) (Ev.pure _)
end Qq
namespace Qq
open Go Go.Vt Pt
set_option linter.unusedVariables false
set_option linter.unusedSimpArgs false
def choiceNames : List ByteArray := [⟨#[102, 105, 120, 101, 100]⟩, ⟨#[97, 110, 121, 99, 117, 116]⟩, ⟨#[114, 105, 102, 102, 108, 101]⟩, ⟨#[97, 110, 121, 112, 97, 105, 114]⟩, ⟨#[112, 105, 99, 107]⟩]
def choiceName (kind : Int) : ByteArray := if 0 ≤ kind ∧ kind ≤ 4 then choiceNames.getD kind.toNat ⟨#[]⟩ else ⟨#[]⟩
theorem s_ChoiceName_ev (kind : Int) : Ev (fun k => s_ChoiceName k kind) (choiceName kind) := by
  refine Ev.step (fun k => s_ChoiceName_eq k kind) (Ev.bind (l01In_ev _ _ _) (Ev.ite (fun h => Ev.some ?_) (fun h => ?_)))
  · have : ¬ (0 ≤ kind ∧ kind ≤ 4) := by simp at h; omega
    rw [choiceName, if_neg this]
  · have : 0 ≤ kind ∧ kind ≤ 4 := by simpa using h
    refine Ev.yes (by simp; omega) (Ev.yes (by simp; omega) (Ev.yes (by simp; omega) (Ev.some ?_)))
    rw [choiceName, if_pos this]
    rfl
theorem i_ChoiceName_ev (kind : Int) : Ev (fun k => i_ChoiceName k kind) (choiceName kind) := by
  refine Ev.step (fun k => i_ChoiceName_eq k kind) (Ev.ite (fun h => Ev.some ?_) (fun h => Ev.ite (fun h2 => Ev.some ?_) (fun h2 => ?_)))
  · have : ¬ (0 ≤ kind ∧ kind ≤ 4) := by simp at h; omega
    rw [choiceName, if_neg this]
  · have : ¬ (0 ≤ kind ∧ kind ≤ 4) := by simp at h2; omega
    rw [choiceName, if_neg this]
  · have : 0 ≤ kind ∧ kind ≤ 4 := by simp at h h2; omega
    refine Ev.yes (by simp; omega) (Ev.yes (by simp; omega) (Ev.yes (by simp; omega) (Ev.some ?_)))
    rw [choiceName, if_pos this]
    rfl
def isRif (s : Int × (Int × Int) × Int) : Bool := (s.1 == 2) && ((s.2.1.1 == 0) && ((s.2.1.2 == 0) && (s.2.2 == 2)))
def stepRest (s : Int × (Int × Int) × Int) : ByteArray := if s.1 = 1 then formatMove s.2.1 else if s.1 = 2 then choiceName s.2.2 else (⟨#[110, 111, 116, 101, 32]⟩ : ByteArray) ++ itoaB s.2.2
def formatStep (s : Int × (Int × Int) × Int) : ByteArray := if stepOk 12 s || isRif s then stepRest s else ⟨#[]⟩
theorem stepOk_fit {n : Int} {s : Int × (Int × Int) × Int} (h : stepOk n s = true) (h1 : ¬ s.1 = 1) (h2 : ¬ s.1 = 2) (hn : n ≤ 12) : In s.2.2 := by
  unfold stepOk at h
  simp only [Bool.and_eq_true, decide_eq_true_eq, h1, h2, if_false] at h
  obtain ⟨_, _, h⟩ := h
  split at h
  · simp at h
    unfold In; omega
  · cases h
theorem s_rest_ev (s : Int × (Int × Int) × Int) (hi : ¬ s.1 = 1 → ¬ s.1 = 2 → In s.2.2) : Ev (fun k => bif (s.1 == (1 : Int)) then ((s_FormatMove k s.2.1).bind fun y => some y)
    else (bif (s.1 == (2 : Int)) then ((s_ChoiceName k s.2.2).bind fun y => some y)
      else ((s_FormatInt k s.2.2).bind fun y => bif decide ((⟨#[110, 111, 116, 101, 32]⟩ : ByteArray).size + y.size ≤ 9223372036854775807) then (some ((⟨#[110, 111, 116, 101, 32]⟩ : ByteArray) ++ y)) else (none)))) (stepRest s) := by
  unfold stepRest
  refine Ev.ite (fun h => ?_) (fun h => ?_)
  · have e : s.1 = 1 := by simpa using h
    rw [if_pos e]
    exact Ev.bind (s_FormatMove_ev s.2.1) (Ev.pure _)
  · have e1 : ¬ s.1 = 1 := by simpa using h
    rw [if_neg e1]
    refine Ev.ite (fun h => ?_) (fun h => ?_)
    · have e : s.1 = 2 := by simpa using h
      rw [if_pos e]
      exact Ev.bind (s_ChoiceName_ev s.2.2) (Ev.pure _)
    · have e2 : ¬ s.1 = 2 := by simpa using h
      rw [if_neg e2]
      have hs := itoaB_size s.2.2 (hi e1 e2)
      exact Ev.bind (s_FormatInt_ev _ (hi e1 e2)) (Ev.yes (by show decide (5 + _ ≤ _) = true; simp; omega) (Ev.pure _))
theorem i_rest_ev (s : Int × (Int × Int) × Int) (hi : ¬ s.1 = 1 → ¬ s.1 = 2 → In s.2.2) : Ev (fun k => bif (s.1 == (1 : Int)) then ((i_FormatMove k s.2.1).bind fun y => some y)
    else (bif (s.1 == (2 : Int)) then ((i_ChoiceName k s.2.2).bind fun y => some y)
      else ((i_FormatInt k s.2.2).bind fun y => bif decide ((⟨#[110, 111, 116, 101, 32]⟩ : ByteArray).size + y.size ≤ 9223372036854775807) then (some ((⟨#[110, 111, 116, 101, 32]⟩ : ByteArray) ++ y)) else (none)))) (stepRest s) := by
  unfold stepRest
  refine Ev.ite (fun h => ?_) (fun h => ?_)
  · have e : s.1 = 1 := by simpa using h
    rw [if_pos e]
    exact Ev.bind (i_FormatMove_ev s.2.1) (Ev.pure _)
  · have e1 : ¬ s.1 = 1 := by simpa using h
    rw [if_neg e1]
    refine Ev.ite (fun h => ?_) (fun h => ?_)
    · have e : s.1 = 2 := by simpa using h
      rw [if_pos e]
      exact Ev.bind (i_ChoiceName_ev s.2.2) (Ev.pure _)
    · have e2 : ¬ s.1 = 2 := by simpa using h
      rw [if_neg e2]
      have hs := itoaB_size s.2.2 (hi e1 e2)
      exact Ev.bind (i_FormatInt_ev _ (hi e1 e2)) (Ev.yes (by show decide (5 + _ ≤ _) = true; simp; omega) (Ev.pure _))
theorem s_FormatStep_ev (s : Int × (Int × Int) × Int) : Ev (fun k => s_FormatStep k s) (formatStep s) := by
  have main : isRif s = false → Ev (fun k => (s_StepOk k ((12 : Int), s)).bind fun y => bif (!y) then (some (⟨#[]⟩ : ByteArray)) else (bif (s.1 == (1 : Int)) then ((s_FormatMove k s.2.1).bind fun y => some y)
    else (bif (s.1 == (2 : Int)) then ((s_ChoiceName k s.2.2).bind fun y => some y)
      else ((s_FormatInt k s.2.2).bind fun y => bif decide ((⟨#[110, 111, 116, 101, 32]⟩ : ByteArray).size + y.size ≤ 9223372036854775807) then (some ((⟨#[110, 111, 116, 101, 32]⟩ : ByteArray) ++ y)) else (none))))) (formatStep s) := by
    intro hr
    unfold formatStep
    refine Ev.bind (s_StepOk_ev 12 s) (Ev.ite (fun h => Ev.some ?_) (fun h => ?_))
    · have : stepOk 12 s = false := by simpa using h
      simp [this, hr]
    · have e : stepOk 12 s = true := by simpa using h
      rw [e, Bool.true_or, if_pos rfl]
      exact s_rest_ev s (fun h1 h2 => stepOk_fit e h1 h2 (by omega))
  refine Ev.step (fun k => s_FormatStep_eq k s) (Ev.ite (fun h => Ev.ite (fun h2 => Ev.ite (fun h3 => ?_) (fun h3 => main ?_)) (fun h2 => main ?_)) (fun h => main ?_))
  · refine Ev.bind (s_ChoiceName_ev _) (Ev.some ?_)
    have e1 : s.1 = 2 := by simpa using h
    have hr : isRif s = true := by simp at h h2 h3; simp [isRif, h, h2, h3]
    unfold formatStep stepRest
    rw [hr, Bool.or_true, if_pos rfl, if_neg (by omega), if_pos e1]
  · simp at h h2 h3; simp [isRif, h, h2]; intros; omega
  · simp at h h2; simp [isRif, h, h2]
  · simp at h; simp [isRif, h]
theorem i_FormatStep_ev (s : Int × (Int × Int) × Int) : Ev (fun k => i_FormatStep k s) (formatStep s) := by
  unfold formatStep
  refine Ev.step (fun k => i_FormatStep_eq k s) (Ev.bind (i_StepOk_ev 12 s) (Ev.ite (fun h => Ev.ite (fun h2 => Ev.some ?_) (fun h2 => ?_)) (fun h => ?_)))
  · have e : stepOk 12 s = false := by simpa using h
    have hr : isRif s = false := by
      simp at h2
      simp [isRif]
      intro a b c
      rcases h2 with h2 | h2 | h2 | h2
      · exact absurd a h2
      · exact absurd b h2
      · exact absurd c h2
      · exact h2
    simp [e, hr]
  · have hr : isRif s = true := by
      simp at h2
      simp [isRif, h2]
    rw [hr, Bool.or_true, if_pos rfl]
    exact i_rest_ev s (fun h1 h3 => by simp at h2; exact absurd h2.1 h3)
  · have e : stepOk 12 s = true := by simpa using h
    rw [e, Bool.true_or, if_pos rfl]
    exact i_rest_ev s (fun h1 h2 => stepOk_fit e h1 h2 (by omega))
end Qq
namespace Qq
open Go Go.Vt Pt
set_option linter.unusedVariables false
set_option linter.unusedSimpArgs false
abbrev StepR : Type := Int × Int × Int × Int × Bool
/-- The first of n kinds of choices from i whose name the text is. -/
def chF (s : ByteArray) : Nat → Int → Option Int
  | 0, _ => none
  | n + 1, i => if choiceName i = s then some i else chF s n (i + 1)
theorem chF_name (s : ByteArray) : ∀ (n : Nat) (i k : Int), chF s n i = some k → choiceName k = s
  | 0, i, k, h => by cases h
  | n + 1, i, k, h => by
    unfold chF at h
    split at h
    · rename_i e
      injection h with h; subst h; exact e
    · exact chF_name s n _ k h
theorem choiceName_nospace (kind : Int) : ∀ b ∈ (choiceName kind).data.toList, b ≠ 32 := by
  unfold choiceName
  split
  · rename_i h
    obtain ⟨n, hn⟩ : ∃ n : Nat, kind.toNat = n := ⟨_, rfl⟩
    have : n < 5 := by omega
    rw [hn]
    clear hn h
    revert n
    decide
  · decide
theorem choice_one (s : ByteArray) {k : Int} (h : choiceName k = s) : (cutB s).length = 1 := by
  subst h
  unfold cutB
  rw [cutGo_nospace _ _ (choiceName_nospace k)]
  rfl
def noteB (a : Int) : ByteArray := (⟨#[110, 111, 116, 101, 32]⟩ : ByteArray) ++ itoaB a
def noteF (a : Int) : ByteArray := formatStep (3, (0, 0), a)
theorem noteF_in {a : Int} (h : 0 ≤ a ∧ a < 12) : noteF a = noteB a := by
  unfold noteF formatStep
  have e : stepOk 12 (3, (0, 0), a) = true := by
    unfold stepOk
    simp [h.1, h.2]
  rw [e]
  rfl
theorem noteF_out {a : Int} (h : ¬ (0 ≤ a ∧ a < 12)) : noteF a = ⟨#[]⟩ := by
  unfold noteF formatStep
  have e : stepOk 12 (3, (0, 0), a) = false := by
    unfold stepOk
    simp
    intro h1
    omega
  rw [e]
  rfl
theorem noteB_cut (a : Int) : cutB (noteB a) = [⟨#[110, 111, 116, 101]⟩, itoaB a] := by
  have e : noteB a = ((⟨#[110, 111, 116, 101]⟩ : ByteArray) ++ sp) ++ itoaB a := rfl
  rw [e, cutB_two _ _ (by decide)]
theorem noteB_inj {a b : Int} (ha : In a) (hb : In b) (h : noteB a = noteB b) : a = b := by
  have := congrArg cutB h
  rw [noteB_cut, noteB_cut] at this
  simp at this
  exact itoaB_inj ha hb this
/-- A move or a note, where the text is no choice's name. -/
noncomputable def restR (s : ByteArray) : StepR :=
  open Classical in
  if (parseMove s).2.2 = true then (1, (parseMove s).1, (parseMove s).2.1, 0, true) else
  if h : ∃ a, (0 ≤ a ∧ a < 12) ∧ s = noteB a then (3, 0, 0, Classical.choose h, true) else (0, 0, 0, 0, false)
noncomputable def parseStep (s : ByteArray) : StepR := match chF s 5 0 with | some k => (2, 0, 0, k, true) | none => restR s
theorem restR_note {s : ByteArray} {a : Int} (hm : ¬ (parseMove s).2.2 = true) (h : 0 ≤ a ∧ a < 12) (hs : s = noteB a) : restR s = (3, 0, 0, a, true) := by
  unfold restR
  have hx : ∃ a, (0 ≤ a ∧ a < 12) ∧ s = noteB a := ⟨a, h, hs⟩
  rw [if_neg hm, dif_pos hx]
  have hc := Classical.choose_spec hx
  have : Classical.choose hx = a := noteB_inj (by unfold In; omega) (by unfold In; omega) (by rw [← hc.2, hs])
  rw [this]
theorem restR_none {s : ByteArray} (hm : ¬ (parseMove s).2.2 = true) (h : ¬ ∃ a, (0 ≤ a ∧ a < 12) ∧ s = noteB a) : restR s = (0, 0, 0, 0, false) := by
  unfold restR
  rw [if_neg hm, dif_neg h]
theorem i_ParseStep_l10_ev (s : ByteArray) (hm : ¬ (parseMove s).2.2 = true) : ∀ (n : Nat) (i : Int), i + n = 12 → 0 ≤ i → (∀ a, 0 ≤ a → a < i → s ≠ noteB a) → Ev (fun k => i_ParseStep_l10 k s i 0 0 0 0) (restR s)
  | 0, i, h, h0, hno => by
    refine Ev.step (fun k => i_ParseStep_l10_eq k _ _ _ _ _ _) (Ev.no (by simp; omega) (Ev.some ?_))
    exact (restR_none hm (fun ⟨a, ha, hs⟩ => hno a ha.1 (by omega) hs)).symm
  | n + 1, i, h, h0, hno => by
    refine Ev.step (fun k => i_ParseStep_l10_eq k _ _ _ _ _ _) (Ev.yes (by simp; omega) (Ev.bind (i_FormatStep_ev _) ?_))
    have e : formatStep (3, (0, 0), i) = noteB i := noteF_in ⟨h0, by omega⟩
    rw [e]
    simp only [toList_beq]
    by_cases hs : noteB i = s
    · refine Ev.yes (by simp [hs]) (Ev.some ?_)
      exact (restR_note hm ⟨h0, by omega⟩ hs.symm).symm
    · refine Ev.no (by simp [hs]) ?_
      rw [wrap_id (by omega) (by omega)]
      exact i_ParseStep_l10_ev s hm n (i + 1) (by omega) (by omega) (fun a h1 h2 => by
        rcases Int.lt_or_le a i with h3 | h3
        · exact hno a h1 h3
        · have : a = i := by omega
          subst this; exact fun e => hs e.symm)
theorem i_ParseStep_l5_ev (s : ByteArray) (hm : ¬ (parseMove s).2.2 = true) : ∀ (n : Nat) (i : Int), i + n = 5 → 0 ≤ i → Ev (fun k => i_ParseStep_l5 k s i 0 0 0 0) (match chF s n i with | some k => (2, 0, 0, k, true) | none => restR s)
  | 0, i, h, h0 => by
    refine Ev.step (fun k => i_ParseStep_l5_eq k _ _ _ _ _ _) (Ev.no (by simp; omega) ?_)
    exact i_ParseStep_l10_ev s hm 12 0 (by omega) (by omega) (fun a h1 h2 => by omega)
  | n + 1, i, h, h0 => by
    refine Ev.step (fun k => i_ParseStep_l5_eq k _ _ _ _ _ _) (Ev.yes (by simp; omega) (Ev.bind (i_ChoiceName_ev i) ?_))
    simp only [toList_beq]
    unfold chF
    by_cases hs : choiceName i = s
    · rw [if_pos hs]
      exact Ev.yes (by simp [hs]) (Ev.pure _)
    · rw [if_neg hs]
      refine Ev.no (by simp [hs]) ?_
      rw [wrap_id (by omega) (by omega)]
      exact i_ParseStep_l5_ev s hm n (i + 1) (by omega) (by omega)
theorem i_ParseStep_ev (s : ByteArray) (hs : s.size ≤ 1048576) : Ev (fun k => i_ParseStep k s) (parseStep s) := by
  refine Ev.step (fun k => i_ParseStep_eq k s) (Ev.bind (i_ParseMove_ev s hs) ?_)
  unfold parseStep
  by_cases hm : (parseMove s).2.2 = true
  · refine Ev.yes hm (Ev.some ?_)
    cases hc : chF s 5 0 with
    | some k =>
      exfalso
      have h1 := choice_one s (chF_name s 5 0 k hc)
      unfold parseMove at hm
      dsimp only at hm
      split at hm
      · rename_i h2; omega
      · cases hm
    | none => unfold restR; rw [if_pos hm]
  · exact Ev.no (by simpa using hm) (i_ParseStep_l5_ev s hm 5 0 (by omega) (by omega))
theorem s_note_ev (s : ByteArray) (hs : s.size ≤ 1048576) (hm : ¬ (parseMove s).2.2 = true) : Ev (fun k => (s_SplitAny k (s, sp)).bind fun y3 =>
      bif (!((y3.length : Int) == (2 : Int))) then
        (some ((0 : Int), ((0 : Int), ((0 : Int), ((0 : Int), false)))))
      else (bif decide ((1 : Int) < (y3.length : Int)) then
          (bif decide (1 < y3.length) then
            ((s_ParseInt k (y3.getD 1 (⟨#[]⟩ : ByteArray))).bind fun y4 =>
            bif (!y4.2) then
              (some ((0 : Int), ((0 : Int), ((0 : Int), ((0 : Int), false)))))
            else ((s_FormatStep k ((3 : Int), (((0 : Int), (0 : Int)), y4.1))).bind fun y5 =>
              bif (!(y5.toList == s.toList)) then
                (some ((0 : Int), ((0 : Int), ((0 : Int), ((0 : Int), false)))))
              else (some ((3 : Int), ((0 : Int), ((0 : Int), (y4.1, true)))))))
          else (none))
        else (none))) (restR s) := by
  refine Ev.bind (s_SplitAny_ev s hs) ?_
  have hsz := cutB_size s
  by_cases hx : ∃ a, (0 ≤ a ∧ a < 12) ∧ s = noteB a
  · obtain ⟨a, ha, he⟩ := hx
    rw [restR_note hm ha he]
    have hc : cutB s = [⟨#[110, 111, 116, 101]⟩, itoaB a] := by rw [he]; exact noteB_cut a
    have hin : In a := by unfold In; omega
    rw [hc]
    refine Ev.no rfl (Ev.yes rfl (Ev.yes rfl (Ev.bind (s_ParseInt_ev (itoaB a) (by have := itoaB_size a hin; omega)) ?_)))
    rw [parseI_itoa a hin]
    refine Ev.no rfl (Ev.bind (s_FormatStep_ev _) ?_)
    have e : formatStep (3, (0, 0), a) = s := (noteF_in ha).trans he.symm
    rw [e]
    exact Ev.no (by simp) (Ev.pure _)
  · rw [restR_none hm hx]
    by_cases h2 : (cutB s).length = 2
    · have hne : s ≠ ⟨#[]⟩ := cutB_ne (by omega)
      match hc : cutB s, h2 with
      | [a, b], _ =>
        rw [hc] at hsz
        refine Ev.no (by simp) (Ev.yes (by simp) (Ev.yes (by simp) (Ev.bind (s_ParseInt_ev b (by have := hsz b (by simp); omega)) ?_)))
        cases hp : (parseI b).2 with
        | false => exact Ev.yes rfl (Ev.pure _)
        | true =>
          refine Ev.no rfl (Ev.bind (s_FormatStep_ev _) (Ev.yes ?_ (Ev.pure _)))
          rw [toList_beq]
          have : ¬ formatStep (3, (0, 0), (parseI b).1) = s := by
            intro e
            by_cases h12 : 0 ≤ (parseI b).1 ∧ (parseI b).1 < 12
            · exact hx ⟨_, h12, by rw [← e]; exact noteF_in h12⟩
            · exact hne (by rw [← e]; exact noteF_out h12)
          simp [this]
    · exact Ev.yes (by simp; omega) (Ev.pure _)
theorem s_ParseStep_l2_ev (s : ByteArray) (hs : s.size ≤ 1048576) : ∀ (n : Nat) (i : Int), i + n = 5 → 0 ≤ i → Ev (fun k => s_ParseStep_l2 k s i 0 0 0 0) (match chF s n i with | some k => (2, 0, 0, k, true) | none => restR s)
  | 0, i, h, h0 => by
    refine Ev.step (fun k => s_ParseStep_l2_eq k _ _ _ _ _ _) (Ev.no (by simp; omega) (Ev.bind (s_ParseMove_ev s hs) ?_))
    by_cases hm : (parseMove s).2.2 = true
    · refine Ev.yes hm (Ev.some ?_)
      show _ = restR s
      unfold restR; rw [if_pos hm]
    · exact Ev.no (by simpa using hm) (s_note_ev s hs hm)
  | n + 1, i, h, h0 => by
    refine Ev.step (fun k => s_ParseStep_l2_eq k _ _ _ _ _ _) (Ev.yes (by simp; omega) (Ev.bind (s_ChoiceName_ev i) ?_))
    simp only [toList_beq]
    unfold chF
    by_cases hc : choiceName i = s
    · rw [if_pos hc]
      exact Ev.yes (by simp [hc]) (Ev.pure _)
    · rw [if_neg hc]
      refine Ev.no (by simp [hc]) ?_
      rw [wrap_id (by omega) (by omega)]
      exact s_ParseStep_l2_ev s hs n (i + 1) (by omega) (by omega)
theorem s_ParseStep_ev (s : ByteArray) (hs : s.size ≤ 1048576) : Ev (fun k => s_ParseStep k s) (parseStep s) :=
  Ev.step (fun k => s_ParseStep_eq k s) (s_ParseStep_l2_ev s hs 5 0 (by omega) (by omega))
theorem FnExactParseStep_ev (s : ByteArray) (f0 : Fits .str s) : Ev (fun k => w_FnExactParseStep k s) true := by
  refine Ev.step (fun k => w_FnExactParseStep_eq k s) (Ev.ite (fun h => Ev.pure _) (fun h => ?_))
  have hs : s.size ≤ 1048576 := by simp at h; omega
  refine Ev.bind (s_ParseStep_ev s hs) (Ev.bind (i_ParseStep_ev s hs) (Ev.bind (eqStep_ev _ _) (Ev.no (by simp) (Ev.no (by simp) (Ev.pure _)))))
end Qq
