/-
  The law FnExactParsePacket comes to true: the impl's reading of a packet is the reference's.
  Conditions: texts are such as a machine bears.
-/
import Derived.Test.YtlgkjckddpnfnaaDoorPt
import Derived.Test.YtlgkjckddpnfnaaDoorXvzd
import Derived.Laws.BitsLemmas
import Derived.Lib.ItoaLen
import Derived.Test.YtlgkjckddpnfnaaDoorXvzl
namespace Go.Vt
end Go.Vt
namespace Qq
open Go Go.Vt
set_option linter.unusedVariables false
set_option linter.unusedSimpArgs false
theorem maxLen_eq : maxLen = 9223372036854775807 := by unfold maxLen; decide
theorem rowMax_eq : rowMax = 4294967296 := rfl
theorem wrap_id {x : Int} (h1 : -9223372036854775808 ≤ x) (h2 : x ≤ 9223372036854775807) : IntKind.i64.wrap x = x := by
  rw [IntKind.wrap_i64]; omega
/-- Numbers of a machine's kind. -/
def In (x : Int) : Prop := -9223372036854775808 ≤ x ∧ x ≤ 9223372036854775807
def Ins (xs : List Int) : Prop := ∀ x ∈ xs, In x
structure AtCons {α : Type} (xs : List α) (i : Nat) (y : α) (rest : List α) : Prop where
  lt : i < xs.length
  g : decide ((i : Int) < (xs.length : Int)) = true
  z : decide ((0 : Int) ≤ (i : Int)) = true
  n : decide ((i : Int).toNat < xs.length) = true
  get : ∀ d, xs.getD (i : Int).toNat d = y
  w : IntKind.i64.wrap ((i : Int) + 1) = ((i + 1 : Nat) : Int)
  next : xs.drop (i + 1) = rest
  mem : y ∈ xs
  gt : ∀ d, xs.getD i d = y
  le : decide ((i : Int) ≤ (xs.length : Int)) = true
theorem at_cons {α : Type} {xs : List α} {i : Nat} {y : α} {rest : List α} (h : xs.drop i = y :: rest) (hm : xs.length ≤ maxLen) : AtCons xs i y rest := by
  rw [maxLen_eq] at hm
  have lt : i < xs.length := by
    rcases Nat.lt_or_ge i xs.length with h1 | h1
    · exact h1
    · rw [List.drop_eq_nil_of_le h1] at h; cases h
  have e := List.drop_eq_getElem_cons lt
  rw [e] at h
  have hy : xs[i] = y := by injection h
  refine ⟨lt, by simp; omega, by simp, by simp; omega, fun d => by simp [List.getD, lt, hy], by rw [wrap_id (by omega) (by omega)]; simp, by injection h, by rw [← hy]; exact List.getElem_mem lt, fun d => by simp [List.getD, lt, hy], by simp; omega⟩
structure AtNil {α : Type} (xs : List α) (i : Nat) : Prop where
  ge : xs.length ≤ i
  g : decide ((i : Int) < (xs.length : Int)) = false
theorem at_nil {α : Type} {xs : List α} {i : Nat} (h : xs.drop i = []) : AtNil xs i := by
  have ge : xs.length ≤ i := List.drop_eq_nil_iff.1 h
  exact ⟨ge, by simp; omega⟩
end Qq
namespace Qq
open Go Go.Vt Pt
set_option linter.unusedVariables false
set_option linter.unusedSimpArgs false
def strB (l : List UInt8) : ByteArray := ⟨l.toArray⟩
theorem strB_add (a b : List UInt8) : strB a ++ strB b = strB (a ++ b) := by unfold strB; apply ByteArray.ext; simp
theorem strB_size (a : List UInt8) : (strB a).size = a.length := by simp [strB, ByteArray.size]
theorem strB_one (x : Int) : bytesStr [x] = strB [UInt8.ofNat x.toNat] := rfl
def itoaB (n : Int) : ByteArray := strB (Lib.itoa n)
theorem dec_small {u : Nat} (h : u < 10) : Lib.decDigits u = [UInt8.ofNat (48 + u)] := by rw [Lib.decDigits, dif_pos h]
theorem dec_big {u : Nat} (h : ¬ u < 10) : Lib.decDigits u = Lib.decDigits (u / 10) ++ [UInt8.ofNat (48 + u % 10)] := by rw [Lib.decDigits, dif_neg h]
theorem dig (d : Nat) (h : d < 10) : bytesStr [IntKind.u8.wrap (IntKind.i64.wrap ((48 : Int) + (d : Int)))] = strB [UInt8.ofNat (48 + d)] := by
  rw [wrap_id (by omega) (by omega), strB_one]
  have : IntKind.u8.wrap ((48 : Int) + d) = ((48 + d : Nat) : Int) := by
    have h2 : (48 : Int) + d < 256 := by omega
    unfold IntKind.wrap
    have e : (2 ^ IntKind.u8.bits : Int) = 256 := by decide
    have e2 : IntKind.u8.signed = false := rfl
    simp only [e, e2, Bool.false_and, Bool.false_eq_true, if_false]
    omega
  rw [this, Int.toNat_natCast]
theorem s_FormatInt_l6_ev : ∀ (n : Nat) (s : List UInt8), (n : Int) ≤ 9223372036854775807 → s.length + n ≤ 9223372036854775807 + 1000 → (Lib.decDigits n).length + s.length ≤ 1000 → Ev (fun k => s_FormatInt_l6 k (n : Int) (strB s)) (strB (Lib.decDigits n ++ s)) := by
  intro n
  induction n using Nat.strongRecOn with
  | _ n ih =>
    intro s hn _ hl
    refine Ev.step (fun k => s_FormatInt_l6_eq k _ _) (Ev.ite (fun h => ?_) (fun h => ?_))
    · have h10 : ¬ n < 10 := by simp at h; omega
      have e1 : ((n : Int).tmod 10) = ((n % 10 : Nat) : Int) := by rw [Int.tmod_eq_emod_of_nonneg (by omega)]; omega
      have e2 : ((n : Int).tdiv 10) = ((n / 10 : Nat) : Int) := by rw [Int.tdiv_eq_ediv_of_nonneg (by omega)]; omega
      rw [dec_big h10] at hl ⊢
      simp only [List.length_append, List.length_singleton] at hl
      rw [e1, e2, dig _ (Nat.mod_lt _ (by omega)), strB_add, wrap_id (x := ((n / 10 : Nat) : Int)) (by omega) (by omega)]
      refine Ev.yes (by rw [strB_size, strB_size]; simp; omega) ?_
      rw [List.append_assoc]
      exact ih (n / 10) (by omega) _ (by omega) (by simp; omega) (by simp; omega)
    · have h10 : n < 10 := by simp at h; omega
      rw [dec_small h10] at hl ⊢
      rw [dig n h10, strB_add]
      exact Ev.yes (by rw [strB_size, strB_size]; simp at hl ⊢; omega) (Ev.pure _)
theorem dec_len (u : Nat) (h : (u : Int) ≤ 9223372036854775808) : (Lib.decDigits u).length ≤ 20 := by
  have := Lib.nDigits_le20 u (by omega)
  rw [Lib.decDigits_length]; exact this
theorem s_FormatInt_neg : ∀ (u : Nat), 1 ≤ u → (u : Int) ≤ 9223372036854775808 → Ev (fun k => s_FormatInt k (-(u : Int))) (strB (45 :: Lib.decDigits u)) := by
  intro u
  induction u using Nat.strongRecOn with
  | _ u ih =>
    intro h1 hu
    have hl := dec_len u hu
    have e1 : ((-(u : Int)).tmod 10) = -((u % 10 : Nat) : Int) := by rw [Int.neg_tmod, Int.tmod_eq_emod_of_nonneg (by omega)]; omega
    have e2 : ((-(u : Int)).tdiv 10) = -((u / 10 : Nat) : Int) := by rw [Int.neg_tdiv, Int.tdiv_eq_ediv_of_nonneg (by omega)]; omega
    refine Ev.step (fun k => s_FormatInt_eq k _) (Ev.yes (by simp; omega) ?_)
    rw [e1, e2, wrap_id (x := -((u / 10 : Nat) : Int)) (by omega) (by omega)]
    refine Ev.ite (fun h => ?_) (fun h => ?_)
    · have h10 : u < 10 := by simp at h; omega
      have e3 : (48 : Int) - (-(u : Int)) = 48 + (u : Int) := by omega
      have e4 : (⟨#[45]⟩ : ByteArray) = strB [45] := rfl
      rw [e3, dig u h10, e4, strB_add, dec_small h10]
      exact Ev.yes (by rw [strB_size, strB_size]; rfl) (Ev.pure _)
    · have h10 : ¬ u < 10 := by simp at h; omega
      have e3 : (48 : Int) - (-((u % 10 : Nat) : Int)) = 48 + ((u % 10 : Nat) : Int) := by omega
      rw [dec_big h10] at hl ⊢
      simp only [List.length_append, List.length_singleton] at hl
      refine Ev.bind (ih (u / 10) (by omega) (by omega) (by omega)) ?_
      rw [e3, dig _ (Nat.mod_lt _ (by omega)), strB_add]
      exact Ev.yes (by rw [strB_size, strB_size]; simp; omega) (Ev.pure _)
theorem s_FormatInt_ev (n : Int) (hn : In n) : Ev (fun k => s_FormatInt k n) (itoaB n) := by
  unfold In at hn
  by_cases h : n < 0
  · have := s_FormatInt_neg n.natAbs (by omega) (by omega)
    have e : (-((n.natAbs : Nat) : Int)) = n := by omega
    rw [e] at this
    refine this.to ?_
    unfold itoaB Lib.itoa
    rw [if_pos h]
  · have hl := dec_len n.toNat (by omega)
    have := s_FormatInt_l6_ev n.toNat [] (by omega) (by simp; omega) (by simp; omega)
    have e : ((n.toNat : Nat) : Int) = n := by omega
    rw [e] at this
    refine Ev.step (fun k => s_FormatInt_eq k n) (Ev.no (by simpa using h) (this.to ?_))
    unfold itoaB Lib.itoa
    rw [if_neg h, List.append_nil]
theorem Itoa_ev (n : Int) (hn : In n) : Ev (fun k => strconv_Itoa k n) (itoaB n) := by
  refine Ev.congr (fun k => strconv_Itoa_eq k n) ?_
  unfold itoaF
  refine Ev.yes ?_ (Ev.pure _)
  unfold In at hn
  simp; exact hn
theorem i_FormatInt_ev (n : Int) (hn : In n) : Ev (fun k => i_FormatInt k n) (itoaB n) :=
  Ev.step (fun k => i_FormatInt_eq k n) (Ev.bind (Itoa_ev n hn) (Ev.pure _))
theorem itoaB_size (n : Int) (hn : In n) : (itoaB n).size ≤ 21 := by
  unfold In at hn
  rw [itoaB, strB_size]
  exact Lib.itoa_length_le n hn.1 hn.2
end Qq
namespace Qq
open Go Go.Vt Pt
set_option linter.unusedVariables false
set_option linter.unusedSimpArgs false
theorem dig_toNat {d : Nat} (h : d < 10) : (UInt8.ofNat (48 + d)).toNat = 48 + d := by rw [UInt8.toNat_ofNat']; omega
theorem dec_ne (u : Nat) : Lib.decDigits u ≠ [] := by
  by_cases h : u < 10
  · rw [dec_small h]; simp
  · rw [dec_big h]; simp
theorem dec_digit (u : Nat) : ∀ b ∈ Lib.decDigits u, 48 ≤ b.toNat ∧ b.toNat ≤ 57 := by
  induction u using Nat.strongRecOn with
  | _ u ih =>
    intro b hb
    by_cases h : u < 10
    · rw [dec_small h] at hb
      rw [List.mem_singleton.1 hb, dig_toNat h]; omega
    · rw [dec_big h] at hb
      rcases List.mem_append.1 hb with h1 | h1
      · exact ih _ (by omega) b h1
      · rw [List.mem_singleton.1 h1, dig_toNat (Nat.mod_lt _ (by omega))]
        have := Nat.mod_lt u (show 0 < 10 by omega)
        omega
theorem parse10_append : ∀ (l m : List UInt8) (acc : Nat), Lib.parseUint10 acc (l ++ m) = match Lib.parseUint10 acc l with | .ok v => Lib.parseUint10 v m | e => e
  | [], m, acc => rfl
  | c :: r, m, acc => by
    simp only [List.cons_append, Lib.parseUint10]
    split
    · split
      · rfl
      · split
        · rfl
        · exact parse10_append r m _
    · rfl
theorem parse10_dec (u : Nat) : u < 18446744073709551616 → Lib.parseUint10 0 (Lib.decDigits u) = .ok u := by
  induction u using Nat.strongRecOn with
  | _ u ih =>
    intro hu
    by_cases h : u < 10
    · rw [dec_small h]
      simp only [Lib.parseUint10]
      rw [if_pos (by rw [dig_toNat h]; omega), if_neg (by omega), if_neg (by rw [dig_toNat h]; omega), dig_toNat h]
      simp
    · have hm := Nat.mod_lt u (show 0 < 10 by omega)
      rw [dec_big h, parse10_append, ih (u / 10) (by omega) (by omega)]
      simp only [Lib.parseUint10]
      rw [if_pos (by rw [dig_toNat hm]; omega), if_neg (by omega), if_neg (by rw [dig_toNat hm]; omega), dig_toNat hm]
      congr 1; omega
theorem atoi_itoa (n : Int) (hn : In n) : Lib.atoiAll (Lib.itoa n) = .ok n := by
  unfold In at hn
  unfold Lib.itoa
  by_cases h : n < 0
  · rw [if_pos h]
    have h45 : (45 : UInt8).toNat = 45 := rfl
    simp only [Lib.atoiAll, h45]
    rw [if_pos (Or.inr trivial)]
    unfold Lib.parseMag
    rw [if_neg (dec_ne _), parse10_dec _ (by omega)]
    simp only
    rw [if_neg (fun e => e.1 trivial), if_neg (fun e => by have := e.2; omega), if_pos trivial]
    congr 1
    omega
  · rw [if_neg h]
    have hne := dec_ne n.toNat
    have hd := dec_digit n.toNat
    cases hl : Lib.decDigits n.toNat with
    | nil => exact absurd hl hne
    | cons c r =>
      have hc := hd c (by rw [hl]; simp)
      simp only [Lib.atoiAll]
      rw [if_neg (by omega), ← hl]
      unfold Lib.parseMag
      rw [if_neg hne, parse10_dec _ (by omega)]
      simp only
      have h45 : ¬ c.toNat = 45 := by omega
      rw [if_neg (fun e => by have := e.2; omega), if_neg (fun e => h45 e.1), if_neg h45]
      congr 1
      omega
theorem strB_list (s : ByteArray) : strB s.data.toList = s := by unfold strB; apply ByteArray.ext; simp
theorem list_strB (l : List UInt8) : (strB l).data.toList = l := by unfold strB; simp
/-- The number whose numeral the text is; and is there one. -/
def parseI (s : ByteArray) : Int × Bool := match Lib.atoiAll s.data.toList with | .ok v => if itoaB v = s then (v, true) else (0, false) | _ => (0, false)
theorem parseI_itoa (n : Int) (hn : In n) : parseI (itoaB n) = (n, true) := by
  unfold parseI
  rw [itoaB, list_strB, atoi_itoa n hn]
  simp only
  rw [if_pos (by rw [itoaB])]
theorem parseI_true {s : ByteArray} {n : Int} (h : parseI s = (n, true)) : In n ∧ s = itoaB n := by
  unfold parseI at h
  cases hc : Lib.atoiAll s.data.toList with
  | ok v =>
    rw [hc] at h
    simp only at h
    split at h
    · rename_i he
      injection h with h1 h2
      subst h1
      exact ⟨Lib.atoiAll_bounds hc, he.symm⟩
    · injection h with h1 h2; cases h2
  | _ => rw [hc] at h; injection h with h1 h2; cases h2
theorem parseI_false {s : ByteArray} (h : ∀ n, In n → s ≠ itoaB n) : parseI s = (0, false) := by
  unfold parseI
  cases hc : Lib.atoiAll s.data.toList with
  | ok v =>
    simp only
    rw [if_neg (fun e => h v (Lib.atoiAll_bounds hc) e.symm)]
  | _ => rfl
theorem parseI_cases (s : ByteArray) : (∃ n, In n ∧ s = itoaB n ∧ parseI s = (n, true)) ∨ (parseI s = (0, false) ∧ ∀ n, In n → s ≠ itoaB n) := by
  by_cases h : ∃ n, In n ∧ s = itoaB n
  · obtain ⟨n, h1, h2⟩ := h
    exact .inl ⟨n, h1, h2, by rw [h2]; exact parseI_itoa n h1⟩
  · have h' : ∀ n, In n → s ≠ itoaB n := fun n h1 h2 => h ⟨n, h1, h2⟩
    exact .inr ⟨parseI_false h', h'⟩
def cutGo (cur : List UInt8) : List UInt8 → List (List UInt8)
  | [] => [cur]
  | c :: r => if c = 32 then cur :: cutGo [] r else cutGo (cur ++ [c]) r
def cutB (s : ByteArray) : List ByteArray := (cutGo [] s.data.toList).map strB
theorem cutGo_ne (cur l : List UInt8) : cutGo cur l ≠ [] := by
  induction l generalizing cur with
  | nil => simp [cutGo]
  | cons c r ih => unfold cutGo; split; simp; exact ih _
def joinS : List (List UInt8) → List UInt8
  | [] => [] | [a] => a | a :: b :: r => a ++ 32 :: joinS (b :: r)
theorem joinS_cons (a : List UInt8) {l : List (List UInt8)} (h : l ≠ []) : joinS (a :: l) = a ++ 32 :: joinS l := by
  cases l with
  | nil => exact absurd rfl h
  | cons b r => rfl
theorem joinS_cutGo (cur l : List UInt8) : joinS (cutGo cur l) = cur ++ l := by
  induction l generalizing cur with
  | nil => simp [cutGo, joinS]
  | cons c r ih =>
    unfold cutGo
    split
    · rename_i h
      rw [joinS_cons _ (cutGo_ne _ _), ih, h]; rfl
    · rw [ih]; simp
end Qq
namespace Qq
open Go Go.Vt Pt
set_option linter.unusedVariables false
set_option linter.unusedSimpArgs false
theorem strB_extract (l : List UInt8) (a b : Nat) : (strB l).extract a b = strB ((l.take b).drop a) := by
  apply ByteArray.ext
  apply Array.ext'
  simp [strB, List.drop_take]
theorem byte_eq (c d : UInt8) : (((c.toNat : Nat) : Int) == ((d.toNat : Nat) : Int)) = decide (c = d) := by
  by_cases h : c = d
  · subst h; simp
  · have : ¬ c.toNat = d.toNat := fun e => h (UInt8.toNat_inj.1 e)
    have h2 : ¬ (((c.toNat : Nat) : Int) = ((d.toNat : Nat) : Int)) := by omega
    simp only [h, decide_false]
    exact beq_eq_false_iff_ne.2 h2
theorem byte_back (c : UInt8) : ((c.toNat : Int)).toNat.toUInt8 = c := by rw [Int.toNat_natCast]; exact UInt8.ofNat_toNat
theorem take_succ' {l : List UInt8} {i : Nat} {c : UInt8} {r : List UInt8} (h : l.drop i = c :: r) : l.take (i + 1) = l.take i ++ [c] := by
  have lt : i < l.length := by
    rcases Nat.lt_or_ge i l.length with h1 | h1
    · exact h1
    · rw [List.drop_eq_nil_of_le h1] at h; cases h
  rw [List.take_succ_eq_append_getElem lt]
  have e := List.drop_eq_getElem_cons lt
  rw [e] at h
  injection h with h1 h2
  rw [h1]
def sp : ByteArray := ⟨#[32]⟩
theorem IndexByte_sp_ev (c : UInt8) : Ev (fun k => strings_IndexByte k (sp, (c.toNat : Int))) (if c = 32 then 0 else -1) := by
  refine Ev.congr (fun k => strings_IndexByte_eq k _ _) (Ev.some ?_)
  rw [byte_back]
  show Lib.indexByte [32] c = _
  unfold Lib.indexByte
  by_cases h : c = 32
  · subst h; rfl
  · have : ((32 : UInt8) == c) = false := by simp; exact fun e => h e.symm
    rw [if_neg h, if_neg (by rw [this]; simp)]
    rfl
theorem i_SplitAny_l4_ev (l : List UInt8) (hm : l.length ≤ 1048576) : ∀ (r : List UInt8) (i f : Nat) (out : List ByteArray), l.drop i = r → f ≤ i → i ≤ l.length → out.length ≤ i →
    Ev (fun k => i_SplitAny_l4 k (strB l) sp (f : Int) (i : Int) out) (out ++ (cutGo ((l.take i).drop f) r).map strB)
  | [], i, f, out, h, hf, hi, ho => by
    have a := at_nil h
    have hil : i = l.length := Nat.le_antisymm hi a.ge
    refine Ev.step (fun k => i_SplitAny_l4_eq k _ _ _ _ _) ?_
    simp only [strB_size, a.g, cond_false, strB_extract]
    refine Ev.yes (by simp) (Ev.yes (by simp; omega) (Ev.yes (by simp) (Ev.yes (by rw [rowMax_eq]; simp; omega) (Ev.some ?_))))
    rw [hil]
    simp [cutGo]
  | c :: r, i, f, out, h, hf, hi, ho => by
    have a := at_cons h (by rw [maxLen_eq]; omega)
    have lt := a.lt
    refine Ev.step (fun k => i_SplitAny_l4_eq k _ _ _ _ _) ?_
    simp only [strB_size, list_strB, a.g, a.z, a.get, a.w, cond_true, strB_extract]
    refine Ev.bind (IndexByte_sp_ev c) ?_
    unfold cutGo
    by_cases hc : c = 32
    · rw [if_pos hc, if_pos hc]
      refine Ev.yes rfl (Ev.yes (by simp) (Ev.yes (by simp; omega) (Ev.yes (by simp; omega) (Ev.yes (by rw [rowMax_eq]; simp; omega) ?_))))
      refine (i_SplitAny_l4_ev l hm r (i + 1) (i + 1) _ a.next (Nat.le_refl _) (by omega) (by simp; omega)).to ?_
      rw [show (l.take (i + 1)).drop (i + 1) = [] from List.drop_eq_nil_of_le (by rw [List.length_take]; omega)]
      simp
    · rw [if_neg hc, if_neg hc]
      refine Ev.no rfl ?_
      refine (i_SplitAny_l4_ev l hm r (i + 1) f _ a.next (by omega) (by omega) (by omega)).to ?_
      rw [take_succ' h, List.drop_append_of_le_length (by simp; omega)]
theorem i_SplitAny_ev (s : ByteArray) (hm : s.size ≤ 1048576) : Ev (fun k => i_SplitAny k (s, sp)) (cutB s) := by
  refine Ev.step (fun k => i_SplitAny_eq k s sp) ?_
  have := i_SplitAny_l4_ev s.data.toList (by simpa using hm) _ 0 0 [] rfl (Nat.le_refl _) (Nat.zero_le _) (Nat.le_refl _)
  rw [strB_list] at this
  exact this
theorem s_SplitAny_l4_ev (l : List UInt8) (hm : l.length ≤ 1048576) : ∀ (r : List UInt8) (i f : Nat) (out : List ByteArray), l.drop i = r → f ≤ i → i ≤ l.length → out.length ≤ i →
    Ev (fun k => s_SplitAny_l4 k (strB l) sp (f : Int) (i : Int) out) (out ++ (cutGo ((l.take i).drop f) r).map strB)
  | [], i, f, out, h, hf, hi, ho => by
    have a := at_nil h
    have hil : i = l.length := Nat.le_antisymm hi a.ge
    refine Ev.step (fun k => s_SplitAny_l4_eq k _ _ _ _ _) ?_
    simp only [strB_size, a.g, cond_false, strB_extract]
    refine Ev.yes (by simp) (Ev.yes (by simp; omega) (Ev.yes (by simp) (Ev.yes (by rw [rowMax_eq]; simp; omega) (Ev.some ?_))))
    rw [hil]
    simp [cutGo]
  | c :: r, i, f, out, h, hf, hi, ho => by
    have a := at_cons h (by rw [maxLen_eq]; omega)
    have lt := a.lt
    refine Ev.step (fun k => s_SplitAny_l4_eq k _ _ _ _ _) ?_
    simp only [strB_size, a.g, cond_true]
    refine Ev.step (fun k => s_SplitAny_l7_eq k _ _ _ _ _ _) ?_
    have e1 : ((sp.size : Nat) : Int) = 1 := rfl
    have e2 : (sp.data.toList.getD (0 : Int).toNat 0) = 32 := rfl
    simp only [strB_size, list_strB, a.g, a.z, a.get, a.w, cond_true, strB_extract, e1, e2, byte_eq]
    refine Ev.yes rfl (Ev.yes rfl (Ev.yes rfl ?_))
    unfold cutGo
    by_cases hc : c = 32
    · rw [if_pos hc]
      refine Ev.yes (by simp [hc]) (Ev.yes (by simp) (Ev.yes (by simp; omega) (Ev.yes (by simp; omega) (Ev.yes (by rw [rowMax_eq]; simp; omega) ?_))))
      refine (s_SplitAny_l4_ev l hm r (i + 1) (i + 1) _ a.next (Nat.le_refl _) (by omega) (by simp; omega)).to ?_
      rw [show (l.take (i + 1)).drop (i + 1) = [] from List.drop_eq_nil_of_le (by rw [List.length_take]; omega)]
      simp
    · rw [if_neg hc]
      refine Ev.no (by simp [hc]) ?_
      refine Ev.step (fun k => s_SplitAny_l7_eq k _ _ _ _ _ _) ?_
      simp only [a.w, e1]
      refine Ev.no rfl ?_
      refine (s_SplitAny_l4_ev l hm r (i + 1) f _ a.next (by omega) (by omega) (by omega)).to ?_
      rw [take_succ' h, List.drop_append_of_le_length (by simp; omega)]
theorem s_SplitAny_ev (s : ByteArray) (hm : s.size ≤ 1048576) : Ev (fun k => s_SplitAny k (s, sp)) (cutB s) := by
  refine Ev.step (fun k => s_SplitAny_eq k s sp) ?_
  have := s_SplitAny_l4_ev s.data.toList (by simpa using hm) _ 0 0 [] rfl (Nat.le_refl _) (Nat.zero_le _) (Nat.le_refl _)
  rw [strB_list] at this
  exact this
theorem toList_beq (a b : ByteArray) : (a.toList == b.toList) = decide (a = b) := by
  by_cases h : a = b
  · subst h; simp
  · have : ¬ a.toList = b.toList := fun e => h (by
      rw [ByteArray.toList_eq, ByteArray.toList_eq] at e
      exact ByteArray.ext (Array.ext' e))
    simp [h, this]
theorem i_ParseInt_ev (s : ByteArray) (hm : s.size ≤ 1048576) : Ev (fun k => i_ParseInt k s) (parseI s) := by
  refine Ev.step (fun k => i_ParseInt_eq k s) (Ev.bind (x := atoiR s.data.toList) (Ev.congr (fun k => strconv_Atoi_eq k s) ?_) ?_)
  · unfold atoiF
    exact Ev.yes (by simp; omega) (Ev.pure _)
  · unfold atoiR parseI
    cases hc : Lib.atoiAll s.data.toList with
    | ok v =>
      refine Ev.no rfl (Ev.bind (i_FormatInt_ev v (Lib.atoiAll_bounds hc)) ?_)
      simp only [toList_beq]
      by_cases h : itoaB v = s
      · rw [if_pos h]
        exact Ev.no (by simp [h]) (Ev.pure _)
      · rw [if_neg h]
        exact Ev.yes (by simp [h]) (Ev.pure _)
    | _ => exact Ev.yes rfl (Ev.pure _)
def allD (l : List UInt8) : Bool := l.all fun b => decide (48 ≤ b.toNat) && decide (b.toNat ≤ 57)
theorem s_IsDigits_l2_ev (l : List UInt8) (hm : l.length ≤ 1048576) : ∀ (r : List UInt8) (i : Nat), l.drop i = r → Ev (fun k => s_IsDigits_l2 k (strB l) (i : Int)) (allD r && decide (0 < l.length))
  | [], i, h => by
    have a := at_nil h
    refine Ev.step (fun k => s_IsDigits_l2_eq k _ _) ?_
    simp only [strB_size, a.g, cond_false]
    exact Ev.some (by simp [allD])
  | c :: r, i, h => by
    have a := at_cons h (by rw [maxLen_eq]; omega)
    refine Ev.step (fun k => s_IsDigits_l2_eq k _ _) ?_
    simp only [strB_size, list_strB, a.g, a.z, a.get, a.w, cond_true]
    refine Ev.ite (fun h1 => Ev.some ?_) (fun h1 => Ev.ite (fun h2 => Ev.some ?_) (fun h2 => ?_))
    · have : ¬ 48 ≤ c.toNat := by simp at h1; omega
      simp [allD, this]
    · have : ¬ c.toNat ≤ 57 := by simp at h2; omega
      simp [allD, this]
    · refine (s_IsDigits_l2_ev l hm r (i + 1) a.next).to ?_
      have e1 : 48 ≤ c.toNat := by simp at h1; omega
      have e2 : c.toNat ≤ 57 := by simp at h2; omega
      simp [allD, e1, e2]
theorem s_IsDigits_ev (l : List UInt8) (hm : l.length ≤ 1048576) : Ev (fun k => s_IsDigits k (strB l)) (allD l && decide (0 < l.length)) :=
  Ev.step (fun k => s_IsDigits_eq k _) (s_IsDigits_l2_ev l hm _ 0 rfl)
/-- The number behind the sign; none: too great. -/
def runN (acc : Nat) : List UInt8 → Option Nat
  | [] => some acc
  | c :: r => if (9223372036854775808 - (c.toNat - 48)) / 10 < acc then none else runN (acc * 10 + (c.toNat - 48)) r
theorem runN_append : ∀ (l m : List UInt8) (acc : Nat), runN acc (l ++ m) = (runN acc l).bind fun v => runN v m
  | [], m, acc => rfl
  | c :: r, m, acc => by
    simp only [List.cons_append, runN]
    split
    · rfl
    · exact runN_append r m _
theorem runN_dec (u : Nat) : u ≤ 9223372036854775808 → runN 0 (Lib.decDigits u) = some u := by
  induction u using Nat.strongRecOn with
  | _ u ih =>
    intro hu
    by_cases h : u < 10
    · rw [dec_small h]
      simp only [runN]
      rw [if_neg (by omega), dig_toNat h]
      congr 1; omega
    · have hm := Nat.mod_lt u (show 0 < 10 by omega)
      rw [dec_big h, runN_append, ih (u / 10) (by omega) (by omega)]
      simp only [Option.bind_some, runN]
      rw [if_neg (by rw [dig_toNat hm]; omega), dig_toNat hm]
      congr 1; omega
theorem runN_le : ∀ (l : List UInt8) (acc u : Nat), allD l = true → acc ≤ 9223372036854775808 → runN acc l = some u → u ≤ 9223372036854775808
  | [], acc, u, _, ha, h => by cases h; exact ha
  | c :: r, acc, u, hd, ha, h => by
    simp only [allD, List.all_cons, Bool.and_eq_true, decide_eq_true_eq] at hd
    simp only [runN] at h
    split at h
    · cases h
    · exact runN_le r _ u hd.2 (by omega) h
theorem dec_len' : ∀ (k u : Nat), u < 10 ^ (k + 1) → (Lib.decDigits u).length ≤ k + 1
  | 0, u, h => by rw [dec_small (by simpa using h)]; simp
  | k + 1, u, h => by
    by_cases h1 : u < 10
    · rw [dec_small h1]; simp
    · rw [dec_big h1, List.length_append]
      have := dec_len' k (u / 10) (by rw [Nat.pow_succ] at h; omega)
      simp; omega
def fin (s : ByteArray) (neg : Bool) (u : Nat) : Int × Bool :=
  bif neg then (if itoaB (-(u : Int)) = s then (-(u : Int), true) else (0, false)) else if u = 9223372036854775808 then (0, false) else if itoaB (u : Int) = s then ((u : Int), true) else (0, false)
def finO (s : ByteArray) (neg : Bool) : Option Nat → Int × Bool
  | none => (0, false) | some u => fin s neg u
theorem s_ParseInt_l9_ev (s : ByteArray) (neg : Bool) (m : List UInt8) (hm : m.length ≤ 1048576) (hd : allD m = true) : ∀ (r : List UInt8) (i acc : Nat), m.drop i = r → allD r = true → acc ≤ 9223372036854775808 →
    Ev (fun k => s_ParseInt_l9 k s neg (strB m) (-(acc : Int)) (i : Int)) (finO s neg (runN acc r))
  | [], i, acc, h, _, ha => by
    have a := at_nil h
    refine Ev.step (fun k => s_ParseInt_l9_eq k _ _ _ _ _) ?_
    simp only [strB_size, a.g, cond_false, runN, finO, fin, toList_beq]
    cases neg with
    | true =>
      refine Ev.no rfl (Ev.bind (s_FormatInt_ev _ ⟨by omega, by omega⟩) ?_)
      by_cases h : itoaB (-(acc : Int)) = s
      · exact Ev.no (by simp [h]) (Ev.some (by simp [h]))
      · exact Ev.yes (by simp [h]) (Ev.some (by simp [h]))
    | false =>
      refine Ev.yes rfl ?_
      by_cases h1 : acc = 9223372036854775808
      · exact Ev.yes (by subst h1; decide) (Ev.some (by simp [h1]))
      · have e : IntKind.i64.wrap (0 - -(acc : Int)) = (acc : Int) := by rw [wrap_id (by omega) (by omega)]; omega
        rw [e]
        refine Ev.no (beq_eq_false_iff_ne.2 (by omega)) (Ev.bind (s_FormatInt_ev _ ⟨by omega, by omega⟩) ?_)
        by_cases h : itoaB (acc : Int) = s
        · exact Ev.no (by simp [h]) (Ev.some (by simp [h, h1]))
        · exact Ev.yes (by simp [h]) (Ev.some (by simp [h, h1]))
  | c :: r, i, acc, h, hr, ha => by
    have a := at_cons h (by rw [maxLen_eq]; omega)
    simp only [allD, List.all_cons, Bool.and_eq_true, decide_eq_true_eq] at hr
    obtain ⟨⟨h48, h57⟩, hr⟩ := hr
    refine Ev.step (fun k => s_ParseInt_l9_eq k _ _ _ _ _) ?_
    simp only [strB_size, list_strB, a.g, a.z, a.get, a.w, cond_true]
    have w1 : IntKind.i64.wrap ((IntKind.i64.wrap ((c.toNat : Nat) : Int)) - (48 : Int)) = ((c.toNat - 48 : Nat) : Int) := by
      rw [wrap_id (x := ((c.toNat : Nat) : Int)) (by omega) (by omega), wrap_id (by omega) (by omega)]; omega
    rw [w1]
    generalize hdv : c.toNat - 48 = d
    have hd9 : d ≤ 9 := by omega
    have w2 : IntKind.i64.wrap ((IntKind.i64.wrap ((-9223372036854775808 : Int) + (d : Int))).tdiv (10 : Int)) = -(((9223372036854775808 - d) / 10 : Nat) : Int) := by
      rw [wrap_id (x := (-9223372036854775808 : Int) + (d : Int)) (by omega) (by omega)]
      have e : (-9223372036854775808 : Int) + (d : Int) = -((9223372036854775808 - d : Nat) : Int) := by omega
      rw [e, Int.neg_tdiv, Int.tdiv_eq_ediv_of_nonneg (by omega), wrap_id (by omega) (by omega)]
      omega
    rw [w2]
    simp only [runN, hdv]
    by_cases hlt : (9223372036854775808 - d) / 10 < acc
    · rw [if_pos hlt]
      exact Ev.yes (decide_eq_true (by omega)) (Ev.pure _)
    · rw [if_neg hlt]
      have w3 : IntKind.i64.wrap ((IntKind.i64.wrap (-(acc : Int) * (10 : Int))) - (d : Int)) = -((acc * 10 + d : Nat) : Int) := by
        rw [wrap_id (x := -(acc : Int) * 10) (by omega) (by omega), wrap_id (by omega) (by omega)]; omega
      rw [w3]
      exact Ev.no (decide_eq_false (by omega)) (s_ParseInt_l9_ev s neg m hm hd r (i + 1) _ a.next hr (by omega))
def sPt (s : ByteArray) (neg : Bool) (t : List UInt8) : Int × Bool := if (allD t && decide (0 < t.length)) = true ∧ t.length ≤ 19 then finO s neg (runN 0 t) else (0, false)
def sP : List UInt8 → Int × Bool
  | [] => (0, false)
  | c :: r => if c = 45 then sPt (strB (c :: r)) true r else sPt (strB (c :: r)) false (c :: r)
theorem sP_cons (c : UInt8) (r : List UInt8) : sP (c :: r) = if c = 45 then sPt (strB (c :: r)) true r else sPt (strB (c :: r)) false (c :: r) := rfl
theorem sPt_ev (s : ByteArray) (neg : Bool) (t : List UInt8) (hm : t.length ≤ 1048576) : Ev (fun k => (s_IsDigits k (strB t)).bind fun y1 => bif (!y1) then some ((0 : Int), false) else (bif decide (((strB t).size : Int) > (19 : Int)) then some ((0 : Int), false) else s_ParseInt_l9 k s neg (strB t) (0 : Int) (0 : Int))) (sPt s neg t) := by
  refine Ev.bind (s_IsDigits_ev t hm) ?_
  unfold sPt
  cases h : allD t && decide (0 < t.length) with
  | false => exact Ev.yes rfl (Ev.some (by simp))
  | true =>
    refine Ev.no rfl ?_
    rw [strB_size]
    by_cases h19 : t.length ≤ 19
    · rw [if_pos ⟨rfl, h19⟩]
      have hd : allD t = true := by simp at h; exact h.1
      exact Ev.no (decide_eq_false (by omega)) (s_ParseInt_l9_ev s neg t hm hd t 0 0 rfl hd (by omega))
    · rw [if_neg (fun e => h19 e.2)]
      exact Ev.yes (decide_eq_true (by omega)) (Ev.pure _)
theorem sP_ev (l : List UInt8) (hm : l.length ≤ 1048576) : Ev (fun k => s_ParseInt k (strB l)) (sP l) := by
  refine Ev.step (fun k => s_ParseInt_eq k _) ?_
  cases l with
  | nil =>
    refine Ev.no rfl ?_
    exact Ev.bind (s_IsDigits_ev [] (by simp)) (Ev.yes rfl (Ev.pure _))
  | cons c r =>
    have hl : (c :: r).length = r.length + 1 := rfl
    have e1 : (strB (c :: r)).extract 1 ((strB (c :: r)).size : Int).toNat = strB r := by
      rw [strB_extract, strB_size, Int.toNat_natCast, List.take_length]; rfl
    have e2 : ((strB (c :: r)).data.toList.getD 0 0) = c := by rw [list_strB]; rfl
    have e3 : ((45 : Int)) = (((45 : UInt8).toNat : Nat) : Int) := rfl
    simp only [e1, e2]
    rw [e3]
    simp only [byte_eq]
    refine Ev.yes (by rw [strB_size, hl]; simp) (Ev.yes (by rw [strB_size, hl]; simp) ?_)
    rw [sP_cons]
    by_cases h : c = 45
    · rw [if_pos h]
      refine Ev.yes (by simp [h]) (Ev.yes (by rw [strB_size, hl]; simp; omega) (Ev.yes (by simp) ?_))
      have := sPt_ev (strB (c :: r)) true r (by omega)
      rw [show decide (c = 45) = true by simp [h]]
      exact this
    · rw [if_neg h]
      refine Ev.no (by simp [h]) ?_
      have := sPt_ev (strB (c :: r)) false (c :: r) hm
      rw [show decide (c = 45) = false by simp [h]]
      exact this
theorem dec_allD (u : Nat) : allD (Lib.decDigits u) = true := by
  unfold allD
  rw [List.all_eq_true]
  intro b hb
  have := dec_digit u b hb
  simp [this.1, this.2]
theorem sPt_dec (s : ByteArray) (neg : Bool) (u : Nat) (hu : u ≤ 9223372036854775808) : sPt s neg (Lib.decDigits u) = fin s neg u := by
  unfold sPt
  have hne := dec_ne u
  have hp : 0 < (Lib.decDigits u).length := List.length_pos_iff.2 hne
  rw [if_pos ⟨by rw [dec_allD]; simp [hp], dec_len' 18 u (by omega)⟩, runN_dec u hu]
  rfl
theorem sPt_no {s : ByteArray} (h : ∀ n, In n → s ≠ itoaB n) (neg : Bool) (t : List UInt8) : sPt s neg t = (0, false) := by
  unfold sPt
  split
  · rename_i hd
    have hd1 : allD t = true := by have := hd.1; simp at this; exact this.1
    cases hr : runN 0 t with
    | none => rfl
    | some u =>
      have hu := runN_le t 0 u hd1 (by omega) hr
      unfold finO fin
      cases neg with
      | true => simp only [cond_true]; rw [if_neg (fun e => h _ ⟨by omega, by omega⟩ e.symm)]
      | false =>
        simp only [cond_false]
        split
        · rfl
        · rw [if_neg (fun e => h _ ⟨by omega, by omega⟩ e.symm)]
  · rfl
theorem sP_eq (l : List UInt8) : sP l = parseI (strB l) := by
  rcases parseI_cases (strB l) with ⟨n, hn, he, hp⟩ | ⟨hp, hno⟩
  · rw [hp]
    have hl : l = Lib.itoa n := by
      have := congrArg (fun x => x.data.toList) he
      simpa [itoaB, list_strB] using this
    unfold In at hn
    have hb : strB l = itoaB n := he
    unfold Lib.itoa at hl
    by_cases h : n < 0
    · rw [if_pos h] at hl
      subst hl
      rw [sP_cons, if_pos rfl, sPt_dec _ _ _ (by omega)]
      have e : -((n.natAbs : Nat) : Int) = n := by omega
      unfold fin
      rw [hb, e]
      simp
    · rw [if_neg h] at hl
      subst hl
      cases hd : Lib.decDigits n.toNat with
      | nil => exact absurd hd (dec_ne _)
      | cons c r =>
        have hc := dec_digit n.toNat c (by rw [hd]; simp)
        have h45 : c ≠ 45 := fun e => by subst e; have e2 : (45 : UInt8).toNat = 45 := rfl; omega
        rw [sP_cons, if_neg h45, ← hd, sPt_dec _ _ _ (by omega)]
        have e : ((n.toNat : Nat) : Int) = n := by omega
        unfold fin
        rw [hb, e]
        have h63 : ¬ n.toNat = 9223372036854775808 := by omega
        simp [h63]
  · rw [hp]
    cases l with
    | nil => rfl
    | cons c r =>
      rw [sP_cons]
      split
      · exact sPt_no hno _ _
      · exact sPt_no hno _ _
theorem s_ParseInt_ev (s : ByteArray) (hm : s.size ≤ 1048576) : Ev (fun k => s_ParseInt k s) (parseI s) := by
  have := sP_ev s.data.toList (by simpa using hm)
  rw [sP_eq, strB_list] at this
  exact this
theorem cutB_size (s : ByteArray) : ∀ a ∈ cutB s, a.size ≤ s.size := by
  have H : ∀ (l cur : List UInt8), ∀ a ∈ cutGo cur l, a.length ≤ cur.length + l.length := by
    intro l
    induction l with
    | nil => intro cur a ha; simp [cutGo] at ha; subst ha; simp
    | cons c r ih =>
      intro cur a ha
      unfold cutGo at ha
      split at ha
      · rcases List.mem_cons.1 ha with rfl | h
        · simp
        · have := ih [] a h; simp at this ⊢; omega
      · have := ih _ a ha; simp at this ⊢; omega
  intro a ha
  obtain ⟨l, hl, rfl⟩ := List.mem_map.1 ha
  have := H _ _ l hl
  rw [strB_size]
  simpa using this
end Qq
namespace Qq
open Go Go.Vt Pt
set_option linter.unusedVariables false
set_option linter.unusedSimpArgs false
theorem l01In_ev (x lo hi : Int) : Ev (fun k => s_l01In k (x, lo, hi)) (decide (lo ≤ x) && decide (x ≤ hi)) := by
  refine Ev.step (fun k => s_l01In_eq k x lo hi) (Ev.ite (fun h => ?_) (fun h => ?_))
  · have h' : lo ≤ x := by simpa using h
    exact Ev.some (by simp [h'])
  · have h' : ¬ lo ≤ x := by simpa using h
    exact Ev.some (by simp [h'])
theorem eqIntS_l4_ev (xs ys : List Int) (hx : xs.length ≤ maxLen) (hy : ys.length ≤ maxLen) : ∀ (r s : List Int) (i : Nat), xs.drop i = r → ys.drop i = s → s.length = r.length → Ev (fun k => w_eqIntS_l4 k xs ys (i : Int)) (r == s)
  | [], [], i, h1, h2, hl => by
    have a := at_nil h1
    refine Ev.step (fun k => w_eqIntS_l4_eq k xs ys i) ?_
    simp only [a.g, cond_false]
    exact Ev.pure _
  | x :: r, y :: s, i, h1, h2, hl => by
    have a := at_cons h1 hx
    have b := at_cons h2 hy
    refine Ev.step (fun k => w_eqIntS_l4_eq k xs ys i) ?_
    simp only [a.g, a.z, b.g, a.get, b.get, a.w, cond_true]
    have ih := eqIntS_l4_ev xs ys hx hy r s (i + 1) a.next b.next (by simpa using hl)
    refine Ev.ite (fun h => Ev.some ?_) (fun h => ih.to ?_)
    · have : ¬ x = y := by simpa using h
      simp [this]
    · have : x = y := by simpa using h
      simp [this]
  | [], _ :: _, _, _, _, hl => by simp at hl
  | _ :: _, [], _, _, _, hl => by simp at hl
theorem eqIntS_ev (xs ys : List Int) (hx : xs.length ≤ maxLen) (hy : ys.length ≤ maxLen) : Ev (fun k => w_eqIntS k (xs, ys)) (xs == ys) := by
  refine Ev.step (fun k => w_eqIntS_eq k xs ys) (Ev.ite (fun h => Ev.some ?_) (fun h => eqIntS_l4_ev xs ys hx hy xs ys 0 rfl rfl ?_))
  · have h' : ¬ xs.length = ys.length := by simp at h; omega
    have : ¬ xs = ys := fun e => h' (by rw [e])
    simp [this]
  · simp at h; omega
end Qq
namespace Qq
open Go Go.Vt Pt
set_option linter.unusedVariables false
set_option linter.unusedSimpArgs false
def bytesOf (x : ByteArray) : List UInt8 := x.data.toList
theorem strB_bytes (x : ByteArray) : strB (bytesOf x) = x := by unfold strB bytesOf; apply ByteArray.ext; simp
theorem bytes_len (x : ByteArray) : (bytesOf x).length = x.size := by unfold bytesOf; simp
def joinL (l : List ByteArray) (sep : ByteArray) : List UInt8 := Lib.join (l.map bytesOf) (bytesOf sep)
def joinB (l : List ByteArray) (sep : ByteArray) : ByteArray := strB (joinL l sep)
theorem joinTail_len {B S : Nat} (sep : List UInt8) (hs : sep.length ≤ S) : ∀ (r : List ByteArray), (∀ x ∈ r, x.size ≤ B) → (Lib.joinTail sep (r.map bytesOf)).length ≤ r.length * (B + S)
  | [], _ => by simp [Lib.joinTail]
  | x :: r, h => by
    have ih := joinTail_len sep hs r (fun y hy => h y (by simp [hy]))
    have hx := h x (by simp)
    have e : Lib.joinTail sep ((x :: r).map bytesOf) = (sep ++ bytesOf x) ++ Lib.joinTail sep (r.map bytesOf) := by simp [Lib.joinTail]
    rw [e, List.length_append, List.length_append, bytes_len, List.length_cons, Nat.add_mul, Nat.one_mul]
    omega
theorem s_Join_l3_ev (sep : ByteArray) (xs : List ByteArray) (hm : xs.length ≤ maxLen) : ∀ (r : List ByteArray) (i : Nat) (acc : List UInt8), xs.drop i = r → 1 ≤ i → acc.length + (Lib.joinTail (bytesOf sep) (r.map bytesOf)).length ≤ 9223372036854775807 →
    Ev (fun k => s_Join_l3 k sep (strB acc) xs (xs.length : Int) (i : Int)) (strB (acc ++ Lib.joinTail (bytesOf sep) (r.map bytesOf)))
  | [], i, acc, h, hi, hl => by
    have a := at_nil h
    refine Ev.step (fun k => s_Join_l3_eq k _ _ _ _ _) ?_
    simp only [a.g, cond_false]
    exact Ev.some (by simp [Lib.joinTail])
  | x :: r, i, acc, h, hi, hl => by
    have a := at_cons h hm
    have e : Lib.joinTail (bytesOf sep) ((x :: r).map bytesOf) = (bytesOf sep ++ bytesOf x) ++ Lib.joinTail (bytesOf sep) (r.map bytesOf) := by simp [Lib.joinTail]
    rw [e, List.length_append, List.length_append] at hl
    refine Ev.step (fun k => s_Join_l3_eq k _ _ _ _ _) ?_
    simp only [a.g, a.z, a.get, a.w, cond_true]
    have e1 : strB acc ++ sep = strB (acc ++ bytesOf sep) := by rw [← strB_add, strB_bytes]
    have e2 : strB (acc ++ bytesOf sep) ++ x = strB (acc ++ bytesOf sep ++ bytesOf x) := by rw [← strB_add (acc ++ bytesOf sep), strB_bytes]
    have l1 := bytes_len sep
    have l2 := bytes_len x
    refine Ev.yes (by simp; omega) (Ev.yes (by rw [strB_size]; simp; omega) ?_)
    rw [e1]
    refine Ev.yes (by rw [strB_size, List.length_append]; simp; omega) ?_
    rw [e2]
    have := s_Join_l3_ev sep xs hm r (i + 1) (acc ++ bytesOf sep ++ bytesOf x) a.next (by omega) (by rw [List.length_append, List.length_append]; omega)
    rw [e, ← List.append_assoc, ← List.append_assoc]
    exact this
theorem s_Join_ev (l : List ByteArray) (sep : ByteArray) (B : Nat) (hl : l.length ≤ 1048576) (hB : ∀ x ∈ l, x.size ≤ B) (hBB : B ≤ 100) (hs : sep.size ≤ 100) : Ev (fun k => s_Join k (l, sep)) (joinB l sep) := by
  refine Ev.step (fun k => s_Join_eq k l sep) ?_
  cases l with
  | nil =>
    refine Ev.step (fun k => s_Join_l3_eq k _ _ _ _ _) (Ev.no (by simp) (Ev.some ?_))
    rfl
  | cons x r =>
    have a := at_cons (xs := x :: r) (i := 0) rfl (by rw [maxLen_eq]; omega)
    refine Ev.step (fun k => s_Join_l3_eq k _ _ _ _ _) ?_
    have hx := hB x (by simp)
    refine Ev.yes a.g (Ev.yes (by simp) (Ev.yes a.g (Ev.no (by simp) ?_)))
    have e0 : (x :: r).getD (0 : Int).toNat (⟨#[]⟩ : ByteArray) = x := rfl
    have e1 : (⟨#[]⟩ : ByteArray) ++ x = strB (bytesOf x) := by rw [strB_bytes]; apply ByteArray.ext; simp
    have e2 : IntKind.i64.wrap ((0 : Int) + 1) = ((1 : Nat) : Int) := wrap_id (by omega) (by omega)
    rw [e0, e1, e2]
    refine Ev.yes (by show decide (0 + x.size ≤ _) = true; simp; omega) ?_
    have jl := joinTail_len (B := B) (S := 100) (bytesOf sep) (by rw [bytes_len]; exact hs) r (fun y hy => hB y (by simp [hy]))
    rw [List.length_cons] at hl
    have hmul : r.length * (B + 100) ≤ 1048576 * 200 := Nat.mul_le_mul (by omega) (by omega)
    refine (s_Join_l3_ev sep (x :: r) (by rw [maxLen_eq]; simp; omega) r 1 (bytesOf x) rfl (Nat.le_refl _) (by rw [bytes_len]; omega)).to ?_
    unfold joinB joinL
    rw [List.map_cons, Lib.join_cons]
end Qq
namespace Qq
open Go Go.Vt Pt
set_option linter.unusedVariables false
set_option linter.unusedSimpArgs false
end Qq
namespace Qq
open Go Go.Vt Pt
set_option linter.unusedVariables false
set_option linter.unusedSimpArgs false
end Qq
namespace Qq
open Go Go.Vt Pt
set_option linter.unusedVariables false
set_option linter.unusedSimpArgs false
theorem l02Has_l2_ev (x : Int) (xs : List Int) (hm : xs.length ≤ maxLen) : ∀ (r : List Int) (i : Nat), xs.drop i = r → Ev (fun k => s_l02Has_l2 k x xs (xs.length : Int) (i : Int)) (r.contains x)
  | [], i, h => by
    have a := at_nil h
    refine Ev.step (fun k => s_l02Has_l2_eq k x xs _ i) ?_
    simp only [a.g, cond_false]
    exact Ev.pure _
  | y :: r, i, h => by
    have a := at_cons h hm
    refine Ev.step (fun k => s_l02Has_l2_eq k x xs _ i) ?_
    simp only [a.g, a.z, a.get, a.w, cond_true]
    refine Ev.ite (fun h => Ev.some ?_) (fun h => (l02Has_l2_ev x xs hm r (i + 1) a.next).to ?_)
    · have : y = x := by simpa using h
      simp [this]
    · have : ¬ y = x := by simpa using h
      have h2 : ¬ x = y := fun e => this e.symm
      simp [h2]
theorem l02Has_ev (xs : List Int) (x : Int) (hm : xs.length ≤ maxLen) : Ev (fun k => s_l02Has k (xs, x)) (xs.contains x) :=
  Ev.step (fun k => s_l02Has_eq k xs x) (l02Has_l2_ev x xs hm xs 0 rfl)
end Qq
namespace Qq
open Go Go.Vt Pt
set_option linter.unusedVariables false
set_option linter.unusedSimpArgs false
theorem nodup_len : ∀ (n : Nat) (l : List Int), l.Nodup → (∀ x ∈ l, 0 ≤ x ∧ x < (n : Int)) → l.length ≤ n
  | 0, l, _, h => by
    cases l with
    | nil => simp
    | cons x l => have := h x (by simp); omega
  | n + 1, l, hd, h => by
    have h1 := nodup_len n (l.erase (n : Int)) (hd.erase _) (fun x hx => by
      have hx' := (hd.mem_erase_iff).1 hx
      have := h x hx'.2
      have : x ≠ (n : Int) := hx'.1
      omega)
    have h2 := List.length_erase (a := (n : Int)) (l := l)
    split at h2 <;> omega
end Qq
namespace Qq
open Go Go.Vt Pt
set_option linter.unusedVariables false
set_option linter.unusedSimpArgs false
def card (x : Int) : Int := if 0 ≤ x ∧ x ≤ 11 then x else if -12 ≤ x ∧ x ≤ -1 then -1 - x else -1
theorem card_lt (x : Int) : -1 ≤ card x ∧ card x ≤ 11 := by unfold card; split; · omega
                                                            split <;> omega
theorem s_CardOf_ev (x : Int) : Ev (fun k => s_CardOf k x) (card x) := by
  refine Ev.step (fun k => s_CardOf_eq k x) (Ev.bind (l01In_ev _ _ _) (Ev.ite (fun h => Ev.some ?_) (fun h => Ev.bind (l01In_ev _ _ _) (Ev.ite (fun h' => ?_) (fun h' => Ev.some ?_)))))
  · have : 0 ≤ x ∧ x ≤ 11 := by simpa using h
    simp [card, this]
  · have h1 : ¬ (0 ≤ x ∧ x ≤ 11) := by simp at h; omega
    have h2 : -12 ≤ x ∧ x ≤ -1 := by simpa using h'
    rw [wrap_id (by omega) (by omega)]
    exact Ev.some (by unfold card; rw [if_neg h1, if_pos h2])
  · have h1 : ¬ (0 ≤ x ∧ x ≤ 11) := by simp at h; omega
    have h2 : ¬ (-12 ≤ x ∧ x ≤ -1) := by simp at h'; omega
    unfold card; rw [if_neg h1, if_neg h2]
theorem i_CardOf_ev (x : Int) (hx : In x) : Ev (fun k => i_CardOf k x) (card x) := by
  obtain ⟨a, b⟩ := hx
  refine Ev.step (fun k => i_CardOf_eq k x) ?_
  refine Ev.ite (fun h => ?_) (fun h => ?_)
  · have h1 : x < 0 := by simpa using h
    rw [wrap_id (by omega) (by omega)]
    have h2 : ¬ (0 ≤ x ∧ x ≤ 11) := by omega
    refine Ev.ite (fun h' => Ev.some ?_) (fun h' => Ev.some ?_)
    · have h3 : ¬ (-12 ≤ x ∧ x ≤ -1) := by simp at h'; omega
      unfold card; rw [if_neg h2, if_neg h3]
    · have h3 : (-12 ≤ x ∧ x ≤ -1) := by simp at h'; omega
      unfold card; rw [if_neg h2, if_pos h3]
  · have h1 : ¬ x < 0 := by simpa using h
    have h3 : ¬ (-12 ≤ x ∧ x ≤ -1) := by omega
    refine Ev.ite (fun h' => Ev.some ?_) (fun h' => Ev.some ?_)
    · have h2 : ¬ (0 ≤ x ∧ x ≤ 11) := by simp at h'; omega
      unfold card; rw [if_neg h2, if_neg h3]
    · have h2 : (0 ≤ x ∧ x ≤ 11) := by simp at h'; omega
      unfold card; rw [if_pos h2]
def pk : List Int → List Int → Bool
  | _, [] => true
  | done, x :: r => decide (0 ≤ card x) && (!(done.contains (card x)) && pk (done ++ [card x]) r)
def packetOk (p : List Int) : Bool := pk [] p
theorem pk_nodup : ∀ (r done : List Int), done.Nodup → pk done r = true → (done ++ r.map card).Nodup ∧ ∀ x ∈ r, 0 ≤ card x
  | [], done, hd, h => by simp [hd]
  | x :: r, done, hd, h => by
    unfold pk at h
    simp only [Bool.and_eq_true, decide_eq_true_eq, Bool.not_eq_true'] at h
    obtain ⟨h1, h3, h4⟩ := h
    have hx : card x ∉ done := by simpa using h3
    obtain ⟨k1, k2⟩ := pk_nodup r (done ++ [card x]) (by
      rw [List.nodup_append]
      exact ⟨hd, by simp, fun a ha b hb e => by simp at hb; subst hb; subst e; exact hx ha⟩) h4
    refine ⟨by simpa using k1, fun y hy => ?_⟩
    rcases List.mem_cons.1 hy with rfl | hy
    · exact h1
    · exact k2 y hy
theorem packetOk_fit {p : List Int} (h : packetOk p = true) : (p.map card).Nodup ∧ (∀ x ∈ p, 0 ≤ card x ∧ card x ≤ 11) ∧ p.length ≤ 12 := by
  obtain ⟨k1, k2⟩ := pk_nodup p [] (by simp) h
  have k1' : (p.map card).Nodup := by simpa using k1
  have k3 := nodup_len 12 (p.map card) k1' (fun x hx => by
    obtain ⟨y, hy, rfl⟩ := List.mem_map.1 hx
    have := k2 y hy
    have := card_lt y
    omega)
  exact ⟨k1', fun x hx => ⟨k2 x hx, (card_lt x).2⟩, by simpa using k3⟩
theorem s_PacketOk_l5_ev (xs : List Int) (hm : xs.length ≤ 12) : ∀ (r : List Int) (i : Nat) (done : List Int), xs.drop i = r → done.length = i → Ev (fun k => s_PacketOk_l5 k xs (xs.length : Int) (i : Int) done) (pk done r)
  | [], i, done, h, hd => by
    have a := at_nil h
    refine Ev.step (fun k => s_PacketOk_l5_eq k _ _ _ _) ?_
    simp only [a.g, cond_false]
    exact Ev.pure _
  | x :: r, i, done, h, hd => by
    have a := at_cons h (by rw [maxLen_eq]; omega)
    have hlt := a.lt
    refine Ev.step (fun k => s_PacketOk_l5_eq k _ _ _ _) ?_
    simp only [a.g, a.z, a.get, a.w, cond_true]
    unfold pk
    refine Ev.bind (s_CardOf_ev x) (Ev.ite (fun c => Ev.some ?_) (fun c => Ev.bind (l02Has_ev done (card x) (by rw [maxLen_eq]; omega)) (Ev.ite (fun c2 => Ev.some ?_) (fun c2 => Ev.yes (by rw [rowMax_eq]; simp; omega) ?_))))
    · have : ¬ 0 ≤ card x := by simpa using c
      simp [this]
    · simp only [c2, Bool.not_true, Bool.false_and, Bool.and_false]
    · have e1 : decide (0 ≤ card x) = true := by simpa using c
      rw [e1, c2]
      exact s_PacketOk_l5_ev xs hm r (i + 1) _ a.next (by simp [hd])
theorem s_PacketOk_ev (p : List Int) (hm : p.length ≤ maxLen) : Ev (fun k => s_PacketOk k p) (packetOk p) := by
  refine Ev.step (fun k => s_PacketOk_eq k p) (Ev.ite (fun h => Ev.some ?_) (fun h => ?_))
  · symm
    rw [Bool.eq_false_iff]
    intro hp
    have := (packetOk_fit hp).2.2
    simp at h; omega
  · exact s_PacketOk_l5_ev p (by simp at h; omega) p 0 [] rfl rfl
/-- The cards that were met. -/
def metL (done : List Int) : List Bool := (List.range 12).map fun (c : Nat) => done.contains (c : Int)
theorem metL_len (done : List Int) : (metL done).length = 12 := by simp [metL]
theorem metL_get (done : List Int) (c : Nat) (h : c < 12) (d : Bool) : (metL done).getD c d = done.contains (c : Int) := by
  simp [metL, List.getD, h]
theorem metL_set (done : List Int) (c : Nat) (h : c < 12) : (metL done).set c true = metL (done ++ [(c : Int)]) := by
  apply List.ext_getElem?
  intro x
  rw [List.getElem?_set]
  by_cases hx : x < 12
  · by_cases e : c = x
    · subst e; simp [metL, h]
    · have : ¬ x = c := fun h => e h.symm
      simp [metL, hx, e, this]; intro h; omega
  · rw [if_neg (by omega), List.getElem?_eq_none (by rw [metL_len]; omega), List.getElem?_eq_none (by rw [metL_len]; omega)]
theorem i_PacketOk_l3_ev (xs : List Int) (hm : xs.length ≤ maxLen) (hi : Ins xs) : ∀ (r : List Int) (i : Nat) (done : List Int), xs.drop i = r → Ev (fun k => i_PacketOk_l3 k xs (xs.length : Int) (i : Int) (metL done)) (pk done r)
  | [], i, done, h => by
    have a := at_nil h
    refine Ev.step (fun k => i_PacketOk_l3_eq k _ _ _ _) ?_
    simp only [a.g, cond_false]
    exact Ev.pure _
  | x :: r, i, done, h => by
    have a := at_cons h hm
    refine Ev.step (fun k => i_PacketOk_l3_eq k _ _ _ _) ?_
    simp only [a.g, a.z, a.get, a.w, cond_true]
    unfold pk
    refine Ev.bind (i_CardOf_ev x (hi x a.mem)) (Ev.ite (fun c => Ev.some ?_) (fun c => ?_))
    · have : ¬ 0 ≤ card x := by simpa using c
      simp [this]
    · have hc : 0 ≤ card x := by simpa using c
      have hc2 := (card_lt x).2
      have en : card x = ((card x).toNat : Int) := by omega
      have g1 : decide (0 ≤ card x) = true := by simp [hc]
      have g2 : decide (card x < ((metL done).length : Int)) = true := by rw [metL_len]; simp; omega
      have g3 : decide ((card x).toNat < (metL done).length) = true := by rw [metL_len]; simp; omega
      have g4 : (Nat.beq (metL done).length 12 && true) = true := by rw [metL_len]; rfl
      have g5 := metL_get done (card x).toNat (by omega) false
      rw [← en] at g5
      have g6 := metL_set done (card x).toNat (by omega)
      rw [← en] at g6
      simp only [g1, g2, g3, g4, g5, g6, cond_true, Bool.true_and]
      refine Ev.ite (fun c2 => Ev.some ?_) (fun c2 => ?_)
      · rw [c2]; rfl
      · rw [c2]
        exact i_PacketOk_l3_ev xs hm hi r (i + 1) _ a.next
theorem i_PacketOk_ev (p : List Int) (hm : p.length ≤ maxLen) (hi : Ins p) : Ev (fun k => i_PacketOk k p) (packetOk p) :=
  Ev.step (fun k => i_PacketOk_eq k p) (i_PacketOk_l3_ev p hm hi p 0 [] rfl)
end Qq
namespace Qq
open Go Go.Vt Pt
set_option linter.unusedVariables false
set_option linter.unusedSimpArgs false
end Qq
namespace Qq
open Go Go.Vt Pt
set_option linter.unusedVariables false
set_option linter.unusedSimpArgs false
end Qq
namespace Qq
open Go Go.Vt Pt
set_option linter.unusedVariables false
set_option linter.unusedSimpArgs false
def isUp (x : Int) : Bool := decide (-12 ≤ x) && decide (x ≤ -1)
theorem s_IsUp_ev (x : Int) : Ev (fun k => s_IsUp k x) (isUp x) := Ev.step (fun k => s_IsUp_eq k x) (Ev.bind (l01In_ev _ _ _) (Ev.pure _))
end Qq
namespace Qq
open Go Go.Vt Pt
set_option linter.unusedVariables false
set_option linter.unusedSimpArgs false
/-- The lengths add up to something small. -/
theorem sz_add {a b : ByteArray} {m n : Nat} (ha : a.size ≤ m) (hb : b.size ≤ n) : (a ++ b).size ≤ m + n := by rw [ByteArray.size_append]; omega
theorem sz_ok {a b : ByteArray} {m n : Nat} (ha : a.size ≤ m) (hb : b.size ≤ n) (h : m + n ≤ 9223372036854775807) : decide (a.size + b.size ≤ 9223372036854775807) = true := decide_eq_true (by omega)
def cardB (x : Int) : ByteArray := if isUp x then itoaB (card x) ++ ⟨#[94]⟩ else itoaB (card x)
theorem In_card (x : Int) : In (card x) := by have := card_lt x; unfold In; omega
theorem cardB_size (x : Int) : (cardB x).size ≤ 22 := by
  have h := itoaB_size (card x) (In_card x)
  unfold cardB
  split
  · exact sz_add h (n := 1) (by decide)
  · omega
def formatPacket (p : List Int) : ByteArray := if packetOk p then (if p = [] then ⟨#[101, 109, 112, 116, 121]⟩ else joinB (p.map cardB) ⟨#[32]⟩) else ⟨#[]⟩
theorem cardB_map_size (p : List Int) : ∀ x ∈ p.map cardB, x.size ≤ 22 := by
  intro x hx
  obtain ⟨n, _, rfl⟩ := List.mem_map.1 hx
  exact cardB_size n
theorem at_elem {xs : List Int} {i : Nat} {x : Int} {r : List Int} (a : AtCons xs i x r) : (xs.take (i + 1)).map cardB = (xs.take i).map cardB ++ [cardB x] := by
  have hlt := a.lt
  have e : xs[i] = x := by have := a.get 0; rw [Int.toNat_natCast, List.getD, List.getElem?_eq_getElem hlt] at this; exact this
  rw [List.take_succ_eq_append_getElem hlt, List.map_append, e]; rfl
theorem s_FormatPacket_l5_ev (xs : List Int) (hm : xs.length ≤ 12) : ∀ (r : List Int) (i : Nat), xs.drop i = r → Ev (fun k => s_FormatPacket_l5 k xs (xs.length : Int) (i : Int) ((xs.take i).map cardB)) (if xs = [] then ⟨#[101, 109, 112, 116, 121]⟩ else joinB (xs.map cardB) ⟨#[32]⟩)
  | [], i, h => by
    have a := at_nil h
    refine Ev.step (fun k => s_FormatPacket_l5_eq k _ _ _ _) ?_
    simp only [a.g, cond_false]
    rw [List.take_of_length_le a.ge]
    refine Ev.ite (fun h => Ev.some ?_) (fun h => ?_)
    · have : xs = [] := by simp at h; exact h
      rw [if_pos this]
    · have : ¬ xs = [] := by simp at h; exact h
      rw [if_neg this]
      exact Ev.bind (s_Join_ev _ _ 22 (by simp; omega) (cardB_map_size xs) (by omega) (by decide)) (Ev.pure _)
  | x :: r, i, h => by
    have a := at_cons h (by rw [maxLen_eq]; omega)
    have ih := s_FormatPacket_l5_ev xs hm r (i + 1) a.next
    rw [at_elem a] at ih
    refine Ev.step (fun k => s_FormatPacket_l5_eq k _ _ _ _) ?_
    simp only [a.g, a.z, a.get, a.w, cond_true]
    have hs := itoaB_size (card x) (In_card x)
    refine Ev.bind (s_CardOf_ev x) (Ev.bind (s_FormatInt_ev _ (In_card x)) (Ev.bind (s_IsUp_ev x) (Ev.ite (fun h => ?_) (fun h => ?_))))
    · have e : cardB x = itoaB (card x) ++ ⟨#[94]⟩ := by unfold cardB; rw [if_pos h]
      rw [e] at ih
      exact Ev.yes (sz_ok hs (n := 1) (by decide) (by decide)) (Ev.yes (by rw [rowMax_eq]; simp; omega) ih)
    · have e : cardB x = itoaB (card x) := by unfold cardB; rw [h]; rfl
      rw [e] at ih
      exact Ev.yes (by rw [rowMax_eq]; simp; omega) ih
theorem s_FormatPacket_ev (p : List Int) (hm : p.length ≤ maxLen) : Ev (fun k => s_FormatPacket k p) (formatPacket p) := by
  unfold formatPacket
  refine Ev.step (fun k => s_FormatPacket_eq k p) (Ev.bind (s_PacketOk_ev p hm) (Ev.ite (fun h => Ev.some ?_) (fun h => ?_)))
  · have : packetOk p = false := by simpa using h
    rw [this]; rfl
  · have e : packetOk p = true := by simpa using h
    rw [if_pos e]
    exact s_FormatPacket_l5_ev p (packetOk_fit e).2.2 p 0 rfl
end Qq
namespace Qq
open Go Go.Vt Pt
set_option linter.unusedVariables false
set_option linter.unusedSimpArgs false
def top : Int := 4611686018427387904
theorem top_eq : top = 4611686018427387904 := rfl
def upFrom (k : Int) : Nat → List Int
  | 0 => []
  | n + 1 => k :: upFrom (k + 1) n
theorem upFrom_len : ∀ (k : Int) (n : Nat), (upFrom k n).length = n
  | _, 0 => rfl
  | k, n + 1 => by show (upFrom (k + 1) n).length + 1 = n + 1; rw [upFrom_len]
theorem markIntS_l2_ev (xs : List Int) (hm : xs.length ≤ maxLen) : ∀ (r : List Int) (i : Nat) (k0 : Int) (done : List Int), xs.drop i = r → done.length = i → 0 ≤ k0 → k0 ≤ top - r.length →
    Ev (fun k => w_markIntS_l2 k k0 (i : Int) (done ++ r)) (k0 + r.length, done ++ upFrom k0 r.length) := by
  intro r
  induction r with
  | nil =>
    intro i k0 done h hl h0 h1
    have a := at_nil h
    refine Ev.step (fun k => w_markIntS_l2_eq k k0 i _) ?_
    have : decide ((i : Int) < ((done ++ ([] : List Int)).length : Int)) = false := by simp; omega
    refine Ev.no this (Ev.some ?_)
    simp [upFrom]
  | cons x r ih =>
    intro i k0 done h hl h0 h1
    have a := at_cons h hm
    have L : (done ++ x :: r).length = i + (r.length + 1) := by simp [hl]
    refine Ev.step (fun k => w_markIntS_l2_eq k k0 i _) ?_
    refine Ev.yes (by rw [L]; simp; omega) (Ev.yes (by simp) (Ev.yes (by rw [L]; simp; omega) (Ev.yes (by rw [L]; simp) ?_)))
    rw [List.length_cons] at h1
    rw [wrap_id (x := k0 + 1) (by omega) (by rw [top_eq] at h1; omega), wrap_id (x := (i : Int) + 1) (by omega) (by have := a.lt; rw [maxLen_eq] at hm; omega)]
    have e : (done ++ x :: r).set (i : Int).toNat k0 = (done ++ [k0]) ++ r := by
      rw [Int.toNat_natCast, ← hl, List.set_append_right _ _ (Nat.le_refl _)]
      simp
    rw [e]
    have := ih (i + 1) (k0 + 1) (done ++ [k0]) a.next (by simp [hl]) (by omega) (by omega)
    have e2 : done ++ upFrom k0 (x :: r).length = (done ++ [k0]) ++ upFrom (k0 + 1) r.length := by simp [upFrom]
    have e3 : k0 + ((x :: r).length : Int) = k0 + 1 + (r.length : Int) := by simp; omega
    rw [e2, e3]
    exact_mod_cast this
theorem markIntS_ev (xs : List Int) (k0 : Int) (hm : xs.length ≤ maxLen) (h0 : 0 ≤ k0) (h1 : k0 ≤ top - xs.length) :
    Ev (fun k => w_markIntS k (xs, k0)) (k0 + xs.length, upFrom k0 xs.length) :=
  Ev.step (fun k => w_markIntS_eq k xs k0) (markIntS_l2_ev xs hm xs 0 k0 [] rfl rfl h0 h1)
theorem heldIntS_l2_ev (ys : List Int) (hm : ys.length ≤ maxLen) : ∀ (n : Nat) (i : Nat) (k0 : Int), ys.drop i = upFrom k0 n → 0 ≤ k0 → k0 ≤ top - n →
    Ev (fun k => w_heldIntS_l2 k ys k0 (i : Int)) (k0 + n) := by
  intro n
  induction n with
  | zero =>
    intro i k0 h h0 h1
    have a := at_nil h
    refine Ev.step (fun k => w_heldIntS_l2_eq k ys k0 i) ?_
    simp only [a.g, cond_false]
    exact Ev.some (by simp)
  | succ n ih =>
    intro i k0 h h0 h1
    have a := at_cons h hm
    refine Ev.step (fun k => w_heldIntS_l2_eq k ys k0 i) ?_
    simp only [a.g, a.z, a.get, a.w, cond_true]
    refine Ev.no (by simp) ?_
    rw [wrap_id (x := k0 + 1) (by omega) (by rw [top_eq] at h1; omega)]
    have := ih (i + 1) (k0 + 1) a.next (by omega) (by omega)
    have e3 : k0 + ((n + 1 : Nat) : Int) = k0 + 1 + (n : Int) := by omega
    rw [e3]
    exact this
theorem heldIntS_ev (n : Nat) (k0 : Int) (hm : n ≤ maxLen) (h0 : 0 ≤ k0) (h1 : k0 ≤ top - n) :
    Ev (fun k => w_heldIntS k (upFrom k0 n, k0)) (k0 + n) :=
  Ev.step (fun k => w_heldIntS_eq k _ k0) (heldIntS_l2_ev _ (by rw [upFrom_len]; exact hm) n 0 k0 rfl h0 h1)
end Qq
namespace Qq
open Go Go.Vt Pt
set_option linter.unusedVariables false
set_option linter.unusedSimpArgs false
def upB (l : List UInt8) : Bool := l.getLast? == some 94
def bodyL (l : List UInt8) : List UInt8 := bif upB l then l.dropLast else l
/-- One part read: its card, turned or not; none: no card is told. -/
def partI (a : ByteArray) : Option Int :=
  if (parseI (strB (bodyL a.data.toList))).2 = true ∧ 0 ≤ (parseI (strB (bodyL a.data.toList))).1 then some (bif upB a.data.toList then -1 - (parseI (strB (bodyL a.data.toList))).1 else (parseI (strB (bodyL a.data.toList))).1) else none
def partS (a : ByteArray) : Option Int :=
  if (parseI (strB (bodyL a.data.toList))).2 = true ∧ 0 ≤ (parseI (strB (bodyL a.data.toList))).1 ∧ (parseI (strB (bodyL a.data.toList))).1 ≤ 11 then some (bif upB a.data.toList then -1 - (parseI (strB (bodyL a.data.toList))).1 else (parseI (strB (bodyL a.data.toList))).1) else none
def allO (f : ByteArray → Option Int) : List ByteArray → Option (List Int)
  | [] => some []
  | a :: r => (f a).bind fun x => (allO f r).map fun l => x :: l
def endI (out : List Int) : Option (List Int) → List Int × Bool
  | none => ([], false)
  | some ys => if packetOk (out ++ ys) = true then (out ++ ys, true) else ([], false)
def endS (s : ByteArray) (out : List Int) : Option (List Int) → List Int × Bool
  | none => ([], false)
  | some ys => if formatPacket (out ++ ys) = s then (out ++ ys, true) else ([], false)
theorem endI_cons (out : List Int) (x : Int) (o : Option (List Int)) : endI out (o.map fun l => x :: l) = endI (out ++ [x]) o := by
  cases o with
  | none => rfl
  | some ys => simp [endI]
theorem endS_cons (s : ByteArray) (out : List Int) (x : Int) (o : Option (List Int)) : endS s out (o.map fun l => x :: l) = endS s (out ++ [x]) o := by
  cases o with
  | none => rfl
  | some ys => simp [endS]
theorem upB_snoc (m : List UInt8) (c : UInt8) : upB (m ++ [c]) = decide (c = 94) := by
  unfold upB
  rw [List.getLast?_append]
  by_cases h : c = 94 <;> simp [h]
theorem bodyL_up (m : List UInt8) : bodyL (m ++ [94]) = m := by
  unfold bodyL
  rw [upB_snoc]; simp
theorem bodyL_not (m : List UInt8) {c : UInt8} (h : c ≠ 94) : bodyL (m ++ [c]) = m ++ [c] := by
  unfold bodyL
  rw [upB_snoc]; simp [h]
theorem snoc_w (m : List UInt8) (c : UInt8) (h : (m ++ [c]).length ≤ 1048576) : IntKind.i64.wrap (((m ++ [c]).length : Int) - (1 : Int)) = (m.length : Int) := by
  rw [List.length_append, List.length_singleton] at h
  rw [wrap_id (by simp) (by simp; omega)]; simp
theorem snoc_get (m : List UInt8) (c : UInt8) : (m ++ [c]).getD ((m.length : Int)).toNat 0 = c := by
  rw [Int.toNat_natCast]; simp [List.getD]
theorem snoc_cut (m : List UInt8) (c : UInt8) : (strB (m ++ [c])).extract 0 ((m.length : Int)).toNat = strB m := by
  rw [strB_extract, Int.toNat_natCast]; simp
theorem byte94 (c : UInt8) : (((c.toNat : Nat) : Int) == (94 : Int)) = decide (c = 94) := byte_eq c 94
theorem up_w {n : Int} (h : 0 ≤ n) (hn : In n) : IntKind.i64.wrap ((-1 : Int) - n) = -1 - n := by unfold In at hn; exact wrap_id (by omega) (by omega)
theorem parseI_in (s : ByteArray) : In (parseI s).1 := by
  rcases parseI_cases s with ⟨n, hn, _, hp⟩ | ⟨hp, _⟩
  · rw [hp]; exact hn
  · rw [hp]; unfold In; decide
theorem partI_nil : partI ⟨#[]⟩ = none := by decide
theorem empty_ne (m : List UInt8) (c : UInt8) : strB (m ++ [c]) ≠ ⟨#[]⟩ := by
  intro e
  have := congrArg (fun x => x.data.toList) e
  simp [list_strB] at this
theorem i_ParsePacket_l5_ev (xs : List ByteArray) (hm : xs.length ≤ 1048577) (hsz : ∀ a ∈ xs, a.size ≤ 1048576) : ∀ (r : List ByteArray) (i : Nat) (out : List Int), xs.drop i = r → out.length = i → i ≤ xs.length → Ins out →
    Ev (fun k => i_ParsePacket_l5 k (xs.length : Int) (i : Int) out xs) (endI out (allO partI r))
  | [], i, out, h, ho, hle, hi => by
    have a := at_nil h
    refine Ev.step (fun k => i_ParsePacket_l5_eq k _ _ _ _) ?_
    simp only [a.g, cond_false]
    refine Ev.bind (i_PacketOk_ev out (by rw [maxLen_eq]; omega) hi) ?_
    show Ev _ (if packetOk (out ++ []) = true then (out ++ [], true) else ([], false))
    rw [List.append_nil]
    cases hp : packetOk out with
    | false => exact Ev.yes rfl (Ev.some (by simp))
    | true => exact Ev.no rfl (Ev.some (by simp))
  | b :: r, i, out, h, ho, hle, hi => by
    have a := at_cons h (by rw [maxLen_eq]; omega)
    have lt := a.lt
    have hb := hsz b a.mem
    have go : ∀ x, In x → Ev (fun k => i_ParsePacket_l5 k (xs.length : Int) ((i + 1 : Nat) : Int) (out ++ [x]) xs) (endI (out ++ [x]) (allO partI r)) := fun x hx =>
      i_ParsePacket_l5_ev xs hm hsz r (i + 1) (out ++ [x]) a.next (by simp [ho]) (by omega) (by
        intro y hy
        rcases List.mem_append.1 hy with h1 | h1
        · exact hi y h1
        · rw [List.mem_singleton.1 h1]; exact hx)
    refine Ev.step (fun k => i_ParsePacket_l5_eq k _ _ _ _) ?_
    simp only [a.g, a.z, a.n, a.get, a.w, cond_true, toList_beq]
    have e0 : allO partI (b :: r) = (partI b).bind fun x => (allO partI r).map fun l => x :: l := rfl
    rw [e0]
    have hrow : ∀ x : Int, decide (out.length + [x].length ≤ rowMax) = true := fun x => by rw [rowMax_eq]; simp; omega
    rcases List.eq_nil_or_concat b.data.toList with hl | ⟨m, c, hl⟩
    · have hbe : b = ⟨#[]⟩ := by rw [← strB_list b, hl]; rfl
      subst hbe
      rw [partI_nil]
      refine Ev.no (by simp) (Ev.bind (i_ParseInt_ev _ (by decide)) (Ev.yes rfl (Ev.pure _)))
    · rw [List.concat_eq_append] at hl
      have hbe : b = strB (m ++ [c]) := by rw [← hl, strB_list]
      subst hbe
      rw [strB_size] at hb
      have hw := snoc_w m c hb
      have hlen : (m ++ [c]).length = m.length + 1 := by simp
      simp only [strB_size, list_strB, hw, snoc_get, snoc_cut, byte94]
      refine Ev.yes (by simp [empty_ne]) (Ev.yes (by simp) (Ev.yes (by rw [hlen]; simp; omega) ?_))
      unfold partI
      rw [list_strB, upB_snoc]
      by_cases hc : c = 94
      · subst hc
        rw [bodyL_up]
        refine Ev.yes rfl (Ev.yes (by simp) (Ev.yes (by rw [hlen]; simp; omega) (Ev.bind (i_ParseInt_ev (strB m) (by rw [strB_size]; omega)) ?_)))
        have hin := parseI_in (strB m)
        cases hp : (parseI (strB m)).2 with
        | false => exact Ev.yes rfl (Ev.some (by simp [hp, endI]))
        | true =>
          by_cases h0 : 0 ≤ (parseI (strB m)).1
          · rw [if_pos ⟨rfl, h0⟩, Option.bind_some, endI_cons]
            refine Ev.no rfl (Ev.no (by simp; omega) (Ev.yes rfl (Ev.yes (hrow _) ?_)))
            rw [up_w h0 hin]
            exact go _ (by unfold In at hin ⊢; omega)
          · rw [if_neg (fun e => h0 e.2)]
            exact Ev.no rfl (Ev.yes (by simp; omega) (Ev.pure _))
      · rw [bodyL_not m hc]
        refine Ev.no (by simp [hc]) (Ev.bind (i_ParseInt_ev (strB (m ++ [c])) (by rw [strB_size]; omega)) ?_)
        have hin := parseI_in (strB (m ++ [c]))
        cases hp : (parseI (strB (m ++ [c]))).2 with
        | false => exact Ev.yes rfl (Ev.some (by simp [hp, endI]))
        | true =>
          by_cases h0 : 0 ≤ (parseI (strB (m ++ [c]))).1
          · rw [if_pos ⟨rfl, h0⟩, Option.bind_some, endI_cons]
            have hd : decide (c = 94) = false := by simp [hc]
            rw [hd]
            exact Ev.no rfl (Ev.no (by simp; omega) (Ev.no rfl (Ev.yes (hrow _) (go _ hin))))
          · rw [if_neg (fun e => h0 e.2)]
            exact Ev.no rfl (Ev.yes (by simp; omega) (Ev.pure _))
theorem partS_nil : partS ⟨#[]⟩ = none := by decide
theorem s_ParsePacket_l5_ev (t : ByteArray) (xs : List ByteArray) (hm : xs.length ≤ 1048577) (hsz : ∀ a ∈ xs, a.size ≤ 1048576) : ∀ (r : List ByteArray) (i : Nat) (out : List Int), xs.drop i = r → out.length = i → i ≤ xs.length → Ins out →
    Ev (fun k => s_ParsePacket_l5 k t (xs.length : Int) (i : Int) out xs) (endS t out (allO partS r))
  | [], i, out, h, ho, hle, hi => by
    have a := at_nil h
    refine Ev.step (fun k => s_ParsePacket_l5_eq k _ _ _ _ _) ?_
    simp only [a.g, cond_false]
    refine Ev.bind (s_FormatPacket_ev out (by rw [maxLen_eq]; omega)) ?_
    show Ev _ (if formatPacket (out ++ []) = t then (out ++ [], true) else ([], false))
    rw [List.append_nil, toList_beq]
    by_cases hp : formatPacket out = t
    · exact Ev.no (by simp [hp]) (Ev.some (by simp [hp]))
    · exact Ev.yes (by simp [hp]) (Ev.some (by simp [hp]))
  | b :: r, i, out, h, ho, hle, hi => by
    have a := at_cons h (by rw [maxLen_eq]; omega)
    have lt := a.lt
    have hb := hsz b a.mem
    have go : ∀ x, In x → Ev (fun k => s_ParsePacket_l5 k t (xs.length : Int) ((i + 1 : Nat) : Int) (out ++ [x]) xs) (endS t (out ++ [x]) (allO partS r)) := fun x hx =>
      s_ParsePacket_l5_ev t xs hm hsz r (i + 1) (out ++ [x]) a.next (by simp [ho]) (by omega) (by
        intro y hy
        rcases List.mem_append.1 hy with h1 | h1
        · exact hi y h1
        · rw [List.mem_singleton.1 h1]; exact hx)
    refine Ev.step (fun k => s_ParsePacket_l5_eq k _ _ _ _ _) ?_
    simp only [a.g, a.z, a.n, a.get, a.w, cond_true, toList_beq]
    have e0 : allO partS (b :: r) = (partS b).bind fun x => (allO partS r).map fun l => x :: l := rfl
    rw [e0]
    have hrow : ∀ x : Int, decide (out.length + [x].length ≤ rowMax) = true := fun x => by rw [rowMax_eq]; simp; omega
    rcases List.eq_nil_or_concat b.data.toList with hl | ⟨m, c, hl⟩
    · have hbe : b = ⟨#[]⟩ := by rw [← strB_list b, hl]; rfl
      subst hbe
      rw [partS_nil]
      refine Ev.no rfl (Ev.bind (s_ParseInt_ev _ (by decide)) (Ev.yes rfl (Ev.pure _)))
    · rw [List.concat_eq_append] at hl
      have hbe : b = strB (m ++ [c]) := by rw [← hl, strB_list]
      subst hbe
      rw [strB_size] at hb
      have hw := snoc_w m c hb
      have hlen : (m ++ [c]).length = m.length + 1 := by simp
      simp only [strB_size, list_strB, hw, snoc_get, snoc_cut, byte94]
      refine Ev.yes (by rw [hlen]; simp <;> omega) (Ev.yes (by simp) (Ev.yes (by rw [hlen]; simp; omega) ?_))
      unfold partS
      rw [list_strB, upB_snoc]
      by_cases hc : c = 94
      · subst hc
        rw [bodyL_up]
        refine Ev.yes rfl (Ev.yes (by simp) (Ev.yes (by rw [hlen]; simp; omega) (Ev.bind (s_ParseInt_ev (strB m) (by rw [strB_size]; omega)) ?_)))
        have hin := parseI_in (strB m)
        cases hp : (parseI (strB m)).2 with
        | false => exact Ev.yes rfl (Ev.some (by simp [hp, endS]))
        | true =>
          refine Ev.no rfl (Ev.bind (l01In_ev _ _ _) ?_)
          by_cases h0 : 0 ≤ (parseI (strB m)).1 ∧ (parseI (strB m)).1 ≤ 11
          · rw [if_pos ⟨rfl, h0⟩, Option.bind_some, endS_cons]
            refine Ev.no (by simp [h0.1, h0.2]) (Ev.yes rfl (Ev.yes (hrow _) ?_))
            rw [up_w h0.1 hin]
            exact go _ (by unfold In at hin ⊢; omega)
          · rw [if_neg (fun e => h0 e.2)]
            exact Ev.yes (by simp; omega) (Ev.pure _)
      · rw [bodyL_not m hc]
        refine Ev.no (by simp [hc]) (Ev.bind (s_ParseInt_ev (strB (m ++ [c])) (by rw [strB_size]; omega)) ?_)
        have hin := parseI_in (strB (m ++ [c]))
        cases hp : (parseI (strB (m ++ [c]))).2 with
        | false => exact Ev.yes rfl (Ev.some (by simp [hp, endS]))
        | true =>
          refine Ev.no rfl (Ev.bind (l01In_ev _ _ _) ?_)
          by_cases h0 : 0 ≤ (parseI (strB (m ++ [c]))).1 ∧ (parseI (strB (m ++ [c]))).1 ≤ 11
          · rw [if_pos ⟨rfl, h0⟩, Option.bind_some, endS_cons]
            have hd : decide (c = 94) = false := by simp [hc]
            rw [hd]
            exact Ev.no (by simp [h0.1, h0.2]) (Ev.no rfl (Ev.yes (hrow _) (go _ hin)))
          · rw [if_neg (fun e => h0 e.2)]
            exact Ev.yes (by simp; omega) (Ev.pure _)
theorem join_joinS : ∀ (l : List (List UInt8)), Lib.join l [32] = joinS l
  | [] => rfl
  | [a] => by rw [Lib.join_cons]; simp [Lib.joinTail, joinS]
  | a :: b :: r => by
    have ih := join_joinS (b :: r)
    rw [Lib.join_cons] at ih ⊢
    rw [joinS, ← ih]
    simp [Lib.joinTail]
theorem joinB_cut (s : ByteArray) : joinB (cutB s) sp = s := by
  unfold joinB joinL cutB
  have e : ((cutGo [] s.data.toList).map strB).map bytesOf = cutGo [] s.data.toList := by
    rw [List.map_map]
    conv => rhs; rw [← List.map_id (cutGo [] s.data.toList)]
    apply List.map_congr_left
    intro a _
    exact list_strB a
  have e2 : bytesOf sp = [32] := rfl
  rw [e, e2, join_joinS, joinS_cutGo]
  exact strB_list s
theorem partI_of_S {a : ByteArray} {x : Int} (h : partS a = some x) : partI a = some x := by
  unfold partS at h
  split at h
  · rename_i hc
    unfold partI
    rw [if_pos ⟨hc.1, hc.2.1⟩]
    exact h
  · cases h
theorem allO_of_S : ∀ {l : List ByteArray} {ys : List Int}, allO partS l = some ys → allO partI l = some ys
  | [], ys, h => h
  | a :: r, ys, h => by
    unfold allO at h ⊢
    cases h1 : partS a with
    | none => rw [h1] at h; cases h
    | some x =>
      rw [h1] at h
      cases h2 : allO partS r with
      | none => rw [h2] at h; cases h
      | some zs =>
        rw [h2] at h
        rw [partI_of_S h1, allO_of_S h2]
        exact h
/-- What a part that was read spells. -/
theorem partI_card {a : ByteArray} {x : Int} (h : partI a = some x) (hx : 0 ≤ card x) : a = cardB x ∧ partS a = some x := by
  unfold partI at h
  split at h
  · rename_i hc
    obtain ⟨h2, h0⟩ := hc
    have hp := parseI_true (s := strB (bodyL a.data.toList)) (n := (parseI (strB (bodyL a.data.toList))).1) (by rw [← h2])
    unfold partS
    generalize hn : (parseI (strB (bodyL a.data.toList))).1 = n at *
    have hcl := card_lt x
    cases hu : upB a.data.toList with
    | true =>
      rw [hu] at h
      simp only [cond_true, Option.some.injEq] at h
      have hxn : x = -1 - n := h.symm
      have hn11 : n ≤ 11 := by
        unfold card at hx
        split at hx
        · omega
        · split at hx
          · omega
          · omega
      have hcx : card x = n := by
        unfold card
        rw [if_neg (by omega), if_pos (by omega)]; omega
      have hup : isUp x = true := by
        unfold isUp; simp; omega
      refine ⟨?_, by rw [if_pos ⟨h2, h0, hn11⟩]; exact congrArg some hxn.symm⟩
      unfold cardB
      rw [if_pos hup, hcx]
      rcases List.eq_nil_or_concat a.data.toList with hl | ⟨m, c, hl⟩
      · rw [hl] at hu; cases hu
      · rw [List.concat_eq_append] at hl
        rw [hl, upB_snoc] at hu
        have hc : c = 94 := by simpa using hu
        subst hc
        rw [hl, bodyL_up] at hp
        rw [← hp.2, show (⟨#[94]⟩ : ByteArray) = strB [94] from rfl, strB_add, ← hl, strB_list]
    | false =>
      rw [hu] at h
      simp only [cond_false, Option.some.injEq] at h
      have hxn : x = n := h.symm
      have hn11 : n ≤ 11 := by
        unfold card at hx
        split at hx
        · omega
        · split at hx
          · omega
          · omega
      have hcx : card x = n := by
        unfold card
        rw [if_pos (by omega)]; exact hxn
      have hup : isUp x = false := by
        unfold isUp; simp; omega
      refine ⟨?_, by rw [if_pos ⟨h2, h0, hn11⟩]; exact congrArg some hxn.symm⟩
      unfold cardB
      rw [hup, hcx]
      have hb : bodyL a.data.toList = a.data.toList := by unfold bodyL; rw [hu]; rfl
      rw [hb, strB_list] at hp
      exact hp.2
  · cases h
theorem allO_card : ∀ {l : List ByteArray} {ys : List Int}, allO partI l = some ys → (∀ y ∈ ys, 0 ≤ card y) → l = ys.map cardB ∧ allO partS l = some ys
  | [], ys, h, _ => by cases h; exact ⟨rfl, rfl⟩
  | a :: r, ys, h, hy => by
    unfold allO at h ⊢
    cases h1 : partI a with
    | none => rw [h1] at h; cases h
    | some x =>
      rw [h1] at h
      cases h2 : allO partI r with
      | none => rw [h2] at h; cases h
      | some zs =>
        rw [h2] at h
        obtain rfl : x :: zs = ys := by simpa using h
        obtain ⟨k1, k2⟩ := partI_card h1 (hy x (by simp))
        obtain ⟨k3, k4⟩ := allO_card h2 (fun y h => hy y (List.mem_cons_of_mem _ h))
        rw [k2, k4]
        exact ⟨by rw [List.map_cons, ← k1, ← k3], rfl⟩
theorem cutB_nonempty (s : ByteArray) : cutB s ≠ [] := by
  unfold cutB
  intro e
  exact cutGo_ne _ _ (List.map_eq_nil_iff.1 e)
theorem ends_same (s : ByteArray) : endS s [] (allO partS (cutB s)) = endI [] (allO partI (cutB s)) := by
  cases hI : allO partI (cutB s) with
  | none =>
    cases hS : allO partS (cutB s) with
    | none => rfl
    | some ys => rw [allO_of_S hS] at hI; cases hI
  | some ys =>
    show _ = if packetOk ([] ++ ys) = true then ([] ++ ys, true) else ([], false)
    rw [List.nil_append]
    by_cases hp : packetOk ys = true
    · rw [if_pos hp]
      obtain ⟨k1, k2⟩ := allO_card hI (fun y hy => ((packetOk_fit hp).2.1 y hy).1)
      rw [k2]
      show (if formatPacket ([] ++ ys) = s then ([] ++ ys, true) else ([], false)) = _
      rw [List.nil_append, if_pos]
      unfold formatPacket
      have hne : ys ≠ [] := fun e => cutB_nonempty s (by rw [k1, e]; rfl)
      rw [if_pos hp, if_neg hne, ← k1]
      exact joinB_cut s
    · rw [if_neg hp]
      cases hS : allO partS (cutB s) with
      | none => rfl
      | some zs =>
        have := allO_of_S hS
        rw [hI] at this
        obtain rfl : ys = zs := by simpa using this
        show (if formatPacket ([] ++ ys) = s then ([] ++ ys, true) else ([], false)) = _
        rw [List.nil_append, if_neg]
        unfold formatPacket
        rw [if_neg hp]
        intro e
        subst e
        cases hI
/-- What both readings of a packet come to. -/
def parsePacket (s : ByteArray) : List Int × Bool := if s = ⟨#[101, 109, 112, 116, 121]⟩ then ([], true) else endI [] (allO partI (cutB s))
theorem cutB_len (s : ByteArray) : (cutB s).length ≤ s.size + 1 := by
  have H : ∀ (l cur : List UInt8), (cutGo cur l).length ≤ l.length + 1 := by
    intro l
    induction l with
    | nil => intro cur; simp [cutGo]
    | cons c r ih =>
      intro cur
      unfold cutGo
      split
      · have := ih []; simp; omega
      · have := ih (cur ++ [c]); simp; omega
  unfold cutB
  rw [List.length_map]
  have := H s.data.toList []
  simpa using this
theorem s_ParsePacket_ev (s : ByteArray) (hm : s.size ≤ 1048576) : Ev (fun k => s_ParsePacket k s) (parsePacket s) := by
  refine Ev.step (fun k => s_ParsePacket_eq k s) ?_
  unfold parsePacket
  rw [toList_beq]
  by_cases h : s = ⟨#[101, 109, 112, 116, 121]⟩
  · rw [if_pos h]; exact Ev.yes (by simp [h]) (Ev.pure _)
  · rw [if_neg h, ← ends_same]
    refine Ev.no (by simp [h]) (Ev.bind (s_SplitAny_ev s hm) ?_)
    exact s_ParsePacket_l5_ev s (cutB s) (by have := cutB_len s; omega) (fun a ha => by have := cutB_size s a ha; omega) _ 0 [] rfl rfl (Nat.zero_le _) (fun x hx => by cases hx)
theorem i_ParsePacket_ev (s : ByteArray) (hm : s.size ≤ 1048576) : Ev (fun k => i_ParsePacket k s) (parsePacket s) := by
  refine Ev.step (fun k => i_ParsePacket_eq k s) ?_
  unfold parsePacket
  rw [toList_beq]
  by_cases h : s = ⟨#[101, 109, 112, 116, 121]⟩
  · rw [if_pos h]; exact Ev.yes (by simp [h]) (Ev.pure _)
  · rw [if_neg h]
    refine Ev.no (by simp [h]) (Ev.bind (i_SplitAny_ev s hm) ?_)
    exact i_ParsePacket_l5_ev (cutB s) (by have := cutB_len s; omega) (fun a ha => by have := cutB_size s a ha; omega) _ 0 [] rfl rfl (Nat.zero_le _) (fun x hx => by cases hx)
theorem parsePacket_len (s : ByteArray) : (parsePacket s).1.length ≤ 12 := by
  unfold parsePacket
  split
  · simp
  · cases allO partI (cutB s) with
    | none => exact Nat.zero_le _
    | some ys =>
      show (if packetOk ([] ++ ys) = true then ([] ++ ys, true) else ([], false)).1.length ≤ 12
      rw [List.nil_append]
      by_cases h : packetOk ys = true
      · rw [if_pos h]; exact (packetOk_fit h).2.2
      · rw [if_neg h]; exact Nat.zero_le _
theorem FnExactParsePacket_ev (s : ByteArray) (f0 : Fits .str s) : Ev (fun k => w_FnExactParsePacket k s) true := by
  refine Ev.step (fun k => w_FnExactParsePacket_eq k s) (Ev.ite (fun h => Ev.pure _) (fun h => ?_))
  have hs : s.size ≤ 1048576 := by simp at h; omega
  have hl := parsePacket_len s
  have a : (parsePacket s).1.length ≤ maxLen := by rw [maxLen_eq]; omega
  have ht : (1 : Int) ≤ top - (parsePacket s).1.length := by rw [top_eq]; omega
  have hi := i_ParsePacket_ev s hs
  have he := eqIntS_ev (parsePacket s).1 (parsePacket s).1 a a
  have hh := heldIntS_ev (parsePacket s).1.length 1 a (by decide) ht
  refine Ev.bind (s_ParsePacket_ev s hs) (Ev.bind hi (Ev.bind he (Ev.no (by simp) (Ev.no (by simp) (Ev.bind (markIntS_ev _ 1 a (by decide) ht) (Ev.bind hh ?_))))))
  refine Ev.no (by simp; omega) (Ev.no (by simp) (Ev.bind hi (Ev.bind he (Ev.no (by simp) (Ev.no (by simp) (Ev.bind hh ?_))))))
  exact Ev.no (by simp; omega) (Ev.no (by simp) (Ev.pure _))
end Qq
