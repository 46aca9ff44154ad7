/-
  The law FnReports comes to true: reports name what the functions return.
  Conditions: texts of bytes are such as a machine bears.
-/
import Derived.Test.YtbdaipnoibgcgaaDoorPt
import Derived.Test.YtbdaipnoibgcgaaDoorXvzd
import Derived.Laws.BitsLemmas
import Derived.Lib.ItoaLen
import Derived.Test.YtbdaipnoibgcgaaDoorXord
namespace Go.Vt
end Go.Vt
namespace Qq
open Go Go.Vt
set_option linter.unusedVariables false
set_option linter.unusedSimpArgs false
theorem maxLen_eq : maxLen = 9223372036854775807 := by unfold maxLen; decide
theorem rowMax_eq : rowMax = 4294967296 := rfl
theorem wrap_id {x : Int} (h1 : -9223372036854775808 ≤ x) (h2 : x ≤ 9223372036854775807) : IntKind.i64.wrap x = x := by
  rw [IntKind.wrap_i64]; omega
/-- Numbers of a machine's kind. -/
def In (x : Int) : Prop := -9223372036854775808 ≤ x ∧ x ≤ 9223372036854775807
def Ins (xs : List Int) : Prop := ∀ x ∈ xs, In x
structure AtCons {α : Type} (xs : List α) (i : Nat) (y : α) (rest : List α) : Prop where
  lt : i < xs.length
  g : decide ((i : Int) < (xs.length : Int)) = true
  z : decide ((0 : Int) ≤ (i : Int)) = true
  n : decide ((i : Int).toNat < xs.length) = true
  get : ∀ d, xs.getD (i : Int).toNat d = y
  w : IntKind.i64.wrap ((i : Int) + 1) = ((i + 1 : Nat) : Int)
  next : xs.drop (i + 1) = rest
  mem : y ∈ xs
  gt : ∀ d, xs.getD i d = y
  le : decide ((i : Int) ≤ (xs.length : Int)) = true
theorem at_cons {α : Type} {xs : List α} {i : Nat} {y : α} {rest : List α} (h : xs.drop i = y :: rest) (hm : xs.length ≤ maxLen) : AtCons xs i y rest := by
  rw [maxLen_eq] at hm
  have lt : i < xs.length := by
    rcases Nat.lt_or_ge i xs.length with h1 | h1
    · exact h1
    · rw [List.drop_eq_nil_of_le h1] at h; cases h
  have e := List.drop_eq_getElem_cons lt
  rw [e] at h
  have hy : xs[i] = y := by injection h
  refine ⟨lt, by simp; omega, by simp, by simp; omega, fun d => by simp [List.getD, lt, hy], by rw [wrap_id (by omega) (by omega)]; simp, by injection h, by rw [← hy]; exact List.getElem_mem lt, fun d => by simp [List.getD, lt, hy], by simp; omega⟩
structure AtNil {α : Type} (xs : List α) (i : Nat) : Prop where
  ge : xs.length ≤ i
  g : decide ((i : Int) < (xs.length : Int)) = false
theorem at_nil {α : Type} {xs : List α} {i : Nat} (h : xs.drop i = []) : AtNil xs i := by
  have ge : xs.length ≤ i := List.drop_eq_nil_iff.1 h
  exact ⟨ge, by simp; omega⟩
/-- Counting from i up to n. -/
structure AtUp (n : Int) (i : Nat) : Prop where
  lt : (i : Int) < n
  g : decide ((i : Int) < n) = true
  z : decide ((0 : Int) ≤ (i : Int)) = true
  w : IntKind.i64.wrap ((i : Int) + 1) = ((i + 1 : Nat) : Int)
theorem at_up {n : Int} {i : Nat} (h : (i : Int) < n) (hn : n ≤ 9223372036854775807) : AtUp n i :=
  ⟨h, by simp [h], by simp, by rw [wrap_id (by omega) (by omega)]; simp⟩
theorem at_end {n : Int} {i : Nat} (h : n ≤ (i : Int)) : decide ((i : Int) < n) = false := by simp [h]
end Qq
namespace Qq
open Go Go.Vt Pt
set_option linter.unusedVariables false
set_option linter.unusedSimpArgs false
abbrev Cur : Type := List Int × Int × Int
def CurOk (c : Cur) : Prop := c.1.length ≤ 9223372036854775807 ∧ 0 ≤ c.2.1 ∧ c.2.1 ≤ c.1.length
theorem and255 (x : BitVec 64) : (x &&& BitVec.ofInt 64 255).toNat ≤ 255 := by
  rw [BitVec.toNat_and]
  exact Nat.and_le_right
theorem wrap255 (x : BitVec IntKind.i64.bits) : 0 ≤ IntKind.i64.wrap (((x &&& BitVec.ofInt IntKind.i64.bits (255 : Int)).toNat : Nat) : Int) ∧ IntKind.i64.wrap (((x &&& BitVec.ofInt IntKind.i64.bits (255 : Int)).toNat : Nat) : Int) ≤ 255 := by
  have h : (x &&& BitVec.ofInt IntKind.i64.bits (255 : Int)).toNat ≤ 255 := and255 x
  rw [wrap_id (by omega) (by omega)]
  omega
theorem l01Byte_ev (c : Cur) (h : CurOk c) : ∃ (y : Int) (c' : Cur), Ev (fun k => s_l01Byte k c) (y, c') ∧ 0 ≤ y ∧ y ≤ 255 ∧ CurOk c' := by
  obtain ⟨h1, h2, h3⟩ := h
  by_cases hl : c.2.1 < c.1.length
  · refine ⟨_, _, Ev.step (fun k => s_l01Byte_eq k c) (Ev.yes (decide_eq_true hl) (Ev.yes (decide_eq_true h2) (Ev.yes (decide_eq_true hl) (Ev.pure _)))), (wrap255 _).1, (wrap255 _).2, ?_⟩
    refine ⟨h1, ?_, ?_⟩ <;> (dsimp only; rw [wrap_id (by omega) (by omega)]; omega)
  · exact ⟨_, _, Ev.step (fun k => s_l01Byte_eq k c) (Ev.no (decide_eq_false hl) (Ev.pure _)), (wrap255 _).1, (wrap255 _).2, ⟨h1, h2, h3⟩⟩
theorem tmod_bound {a n : Int} (ha : 0 ≤ a) (hn : 0 < n) : 0 ≤ a.tmod n ∧ a.tmod n < n := by
  rw [Int.tmod_eq_emod_of_nonneg ha]
  exact ⟨Int.emod_nonneg _ (by omega), Int.emod_lt_of_pos _ hn⟩
theorem l01Below_ev (c : Cur) (h : CurOk c) (n : Int) : ∃ (y : Int) (c' : Cur), Ev (fun k => s_l01Below k (c, n)) (y, c') ∧ 0 ≤ y ∧ (0 < n → y < n) ∧ CurOk c' := by
  by_cases h0 : n ≤ 0
  · exact ⟨0, c, Ev.step (fun k => s_l01Below_eq k c n) (Ev.yes (decide_eq_true h0) (Ev.pure _)), Int.le_refl _, fun h => by omega, h⟩
  · have hn : 0 < n := by omega
    by_cases h1 : n ≤ 256
    · obtain ⟨y, c', e, a1, a2, a3⟩ := l01Byte_ev c h
      have hb := tmod_bound a1 hn
      exact ⟨_, _, Ev.step (fun k => s_l01Below_eq k c n) (Ev.no (decide_eq_false h0) (Ev.yes (decide_eq_true h1) (Ev.bind e (Ev.yes (by simp; omega) (Ev.pure _))))), hb.1, fun _ => hb.2, a3⟩
    · obtain ⟨y, c1, e, a1, a2, a3⟩ := l01Byte_ev c h
      obtain ⟨z, c2, f, b1, b2, b3⟩ := l01Byte_ev c1 a3
      obtain ⟨u, c3, g, d1, d2, d3⟩ := l01Byte_ev c2 b3
      obtain ⟨v, c4, i, f1, f2, f3⟩ := l01Byte_ev c3 d3
      have w1 : IntKind.i64.wrap (y * (16777216 : Int)) = y * 16777216 := wrap_id (by omega) (by omega)
      have w2 : IntKind.i64.wrap (z * (65536 : Int)) = z * 65536 := wrap_id (by omega) (by omega)
      have w3 : IntKind.i64.wrap (u * (256 : Int)) = u * 256 := wrap_id (by omega) (by omega)
      have hnn : 0 ≤ IntKind.i64.wrap ((IntKind.i64.wrap ((IntKind.i64.wrap ((IntKind.i64.wrap (y * (16777216 : Int))) + (IntKind.i64.wrap (z * (65536 : Int))))) + (IntKind.i64.wrap (u * (256 : Int))))) + v) := by
        rw [w1, w2, w3, wrap_id (x := y * 16777216 + z * 65536) (by omega) (by omega), wrap_id (x := y * 16777216 + z * 65536 + u * 256) (by omega) (by omega), wrap_id (by omega) (by omega)]
        omega
      have hb := tmod_bound hnn hn
      exact ⟨_, _, Ev.step (fun k => s_l01Below_eq k c n) (Ev.no (decide_eq_false h0) (Ev.no (decide_eq_false h1) (Ev.bind e (Ev.bind f (Ev.bind g (Ev.bind i (Ev.yes (by simp; omega) (Ev.pure _)))))))), hb.1, fun _ => hb.2, f3⟩
theorem l01Once_ev (c : Cur) (h : CurOk c) (n : Int) : ∃ (b : Bool) (c' : Cur), Ev (fun k => s_l01Once k (c, n)) (b, c') ∧ CurOk c' := by
  obtain ⟨y, c', e, _, _, a3⟩ := l01Below_ev c h n
  exact ⟨_, _, Ev.step (fun k => s_l01Once_eq k c n) (Ev.bind e (Ev.pure _)), a3⟩
theorem l01New_l3_ev (code : List Int) (hm : code.length ≤ 9223372036854775807) : ∀ (r : List Int) (i : Nat) (h : Int), code.drop i = r → ∃ h' : Int, Ev (fun k => s_l01New_l3 k code h (i : Int)) (code, ((0 : Int), h'))
  | [], i, h, hr => by
    have a := at_nil hr
    exact ⟨h, Ev.step (fun k => s_l01New_l3_eq k _ _ _) (Ev.no a.g (Ev.pure _))⟩
  | x :: r, i, h, hr => by
    have a := at_cons hr (by rw [maxLen_eq]; exact hm)
    by_cases h4 : (i : Int) < 4000
    · obtain ⟨h', ih⟩ := l01New_l3_ev code hm r (i + 1) _ a.next
      refine ⟨h', Ev.step (fun k => s_l01New_l3_eq k _ _ _) (Ev.yes a.g (Ev.yes (decide_eq_true h4) (Ev.yes a.z (Ev.yes a.g ?_))))⟩
      rw [a.w]
      exact ih
    · exact ⟨h, Ev.step (fun k => s_l01New_l3_eq k _ _ _) (Ev.yes a.g (Ev.no (decide_eq_false h4) (Ev.pure _)))⟩
theorem l01New_ev (code : List Int) (hm : code.length ≤ 9223372036854775807) : ∃ c : Cur, Ev (fun k => s_l01New k code) c ∧ CurOk c := by
  obtain ⟨h', e⟩ := l01New_l3_ev code hm _ 0 (IntKind.i64.wrap ((2070 : Int) + (code.length : Int))) rfl
  exact ⟨_, Ev.step (fun k => s_l01New_eq k code) e, hm, Int.le_refl _, by simp⟩
theorem l23New_l3_ev (n : Int) (hn : n ≤ 1000000) : ∀ (m : Nat) (i : Int) (c : Cur), 0 ≤ i → n ≤ i + m → CurOk c → ∃ c' : Cur, Ev (fun k => s_l23New_l3 k n i c.1 c.2.1 c.2.2) c' ∧ CurOk c'
  | 0, i, c, h0, hm, hc => ⟨c, Ev.step (fun k => s_l23New_l3_eq k _ _ _ _ _) (Ev.no (decide_eq_false (by omega)) (Ev.pure _)), hc⟩
  | m + 1, i, c, h0, hm, hc => by
    by_cases h : i < n
    · obtain ⟨y, c1, e, _, _, a3⟩ := l01Byte_ev c hc
      obtain ⟨c2, e2, hc2⟩ := l23New_l3_ev n hn m (i + 1) c1 (by omega) (by omega) a3
      refine ⟨c2, Ev.step (fun k => s_l23New_l3_eq k _ _ _ _ _) (Ev.yes (decide_eq_true h) (Ev.bind e ?_)), hc2⟩
      rw [wrap_id (by omega) (by omega)]
      exact e2
    · exact ⟨c, Ev.step (fun k => s_l23New_l3_eq k _ _ _ _ _) (Ev.no (decide_eq_false h) (Ev.pure _)), hc⟩
theorem l23New_ev (code : List Int) (hm : code.length ≤ 9223372036854775807) (n : Int) (hn : n ≤ 1000000) : ∃ c : Cur, Ev (fun k => s_l23New k (code, n)) c ∧ CurOk c := by
  obtain ⟨c, e, hc⟩ := l01New_ev code hm
  obtain ⟨c2, e2, hc2⟩ := l23New_l3_ev n hn n.toNat 0 c (by omega) (by omega) hc
  exact ⟨c2, Ev.step (fun k => s_l23New_eq k code n) (Ev.bind e e2), hc2⟩
end Qq
namespace Qq
open Go Go.Vt Pt
set_option linter.unusedVariables false
set_option linter.unusedSimpArgs false
end Qq
namespace Qq
open Go Go.Vt Pt
set_option linter.unusedVariables false
set_option linter.unusedSimpArgs false
/-- Where x lies first, or -1. -/
def idx (x : Int) : Nat → List Int → Int
  | _, [] => -1
  | i, y :: r => if x = y then (i : Int) else idx x (i + 1) r
theorem idx_has (x : Int) : ∀ (r : List Int) (i : Nat), decide (idx x i r ≥ 0) = r.contains x
  | [], i => by simp [idx]
  | y :: r, i => by
    unfold idx
    by_cases h : x = y
    · simp [h]
    · rw [if_neg h, idx_has x r (i + 1)]; simp [h]
theorem Index_int_l2_ev (x : Int) (xs : List Int) (hm : xs.length ≤ maxLen) : ∀ (r : List Int) (i : Nat), xs.drop i = r → Ev (fun k => slices_Index_int_l2 k xs x (xs.length : Int) (i : Int)) (idx x i r)
  | [], i, h => by
    have a := at_nil h
    refine Ev.step (fun k => slices_Index_int_l2_eq k xs x _ i) ?_
    simp only [a.g, cond_false]
    exact Ev.pure _
  | y :: r, i, h => by
    have a := at_cons h hm
    refine Ev.step (fun k => slices_Index_int_l2_eq k xs x _ i) ?_
    simp only [a.g, a.z, a.get, a.w, cond_true]
    unfold idx
    refine Ev.ite (fun h => Ev.some ?_) (fun h => (Index_int_l2_ev x xs hm r (i + 1) a.next).to ?_)
    · have : x = y := by simpa using h
      simp [this]
    · have : ¬ x = y := by simpa using h
      rw [if_neg this]
theorem Index_int_ev (xs : List Int) (x : Int) (hm : xs.length ≤ maxLen) : Ev (fun k => slices_Index_int k (xs, x)) (idx x 0 xs) :=
  Ev.step (fun k => slices_Index_int_eq k xs x) (Index_int_l2_ev x xs hm xs 0 rfl)
theorem Contains_int_ev (xs : List Int) (x : Int) (hm : xs.length ≤ maxLen) : Ev (fun k => slices_Contains_int k (xs, x)) (xs.contains x) :=
  Ev.step (fun k => slices_Contains_int_eq k xs x) (Ev.bind (Index_int_ev xs x hm) (Ev.some (idx_has x xs 0)))
end Qq
namespace Qq
open Go Go.Vt Pt
set_option linter.unusedVariables false
set_option linter.unusedSimpArgs false
/-- The numbers are from 0 up to n, and none comes twice. -/
def preOk (n : Int) : List Int → List Int → Bool
  | _, [] => true
  | done, x :: r => decide (0 ≤ x) && (decide (x < n) && (!(done.contains x) && preOk n (done ++ [x]) r))
theorem nodup_len : ∀ (n : Nat) (l : List Int), l.Nodup → (∀ x ∈ l, 0 ≤ x ∧ x < (n : Int)) → l.length ≤ n
  | 0, l, _, h => by
    cases l with
    | nil => simp
    | cons x l => have := h x (by simp); omega
  | n + 1, l, hd, h => by
    have h1 := nodup_len n (l.erase (n : Int)) (hd.erase _) (fun x hx => by
      have hx' := (hd.mem_erase_iff).1 hx
      have := h x hx'.2
      have : x ≠ (n : Int) := hx'.1
      omega)
    have h2 := List.length_erase (a := (n : Int)) (l := l)
    split at h2 <;> omega
theorem preOk_nodup (n : Int) : ∀ (r done : List Int), done.Nodup → preOk n done r = true → (done ++ r).Nodup ∧ ∀ x ∈ r, 0 ≤ x ∧ x < n
  | [], done, hd, h => by simp [hd]
  | x :: r, done, hd, h => by
    unfold preOk at h
    simp only [Bool.and_eq_true, decide_eq_true_eq, Bool.not_eq_true'] at h
    obtain ⟨h1, h2, h3, h4⟩ := h
    have hx : x ∉ done := by simpa using h3
    obtain ⟨k1, k2⟩ := preOk_nodup n r (done ++ [x]) (by
      rw [List.nodup_append]
      exact ⟨hd, by simp, fun a ha b hb e => by simp at hb; subst hb; subst e; exact hx ha⟩) h4
    refine ⟨by simpa using k1, fun y hy => ?_⟩
    rcases List.mem_cons.1 hy with rfl | hy
    · exact ⟨h1, h2⟩
    · exact k2 y hy
end Qq
namespace Qq
open Go Go.Vt Pt
set_option linter.unusedVariables false
set_option linter.unusedSimpArgs false
def card (x : Int) : Int := if 0 ≤ x ∧ x ≤ 11 then x else if -12 ≤ x ∧ x ≤ -1 then -1 - x else -1
theorem card_lt (x : Int) : -1 ≤ card x ∧ card x ≤ 11 := by unfold card; split; · omega
                                                            split <;> omega
theorem i_CardOf_ev (x : Int) (hx : In x) : Ev (fun k => i_CardOf k x) (card x) := by
  obtain ⟨a, b⟩ := hx
  refine Ev.step (fun k => i_CardOf_eq k x) ?_
  refine Ev.ite (fun h => ?_) (fun h => ?_)
  · have h1 : x < 0 := by simpa using h
    rw [wrap_id (by omega) (by omega)]
    have h2 : ¬ (0 ≤ x ∧ x ≤ 11) := by omega
    refine Ev.ite (fun h' => Ev.some ?_) (fun h' => Ev.some ?_)
    · have h3 : ¬ (-12 ≤ x ∧ x ≤ -1) := by simp at h'; omega
      unfold card; rw [if_neg h2, if_neg h3]
    · have h3 : (-12 ≤ x ∧ x ≤ -1) := by simp at h'; omega
      unfold card; rw [if_neg h2, if_pos h3]
  · have h1 : ¬ x < 0 := by simpa using h
    have h3 : ¬ (-12 ≤ x ∧ x ≤ -1) := by omega
    refine Ev.ite (fun h' => Ev.some ?_) (fun h' => Ev.some ?_)
    · have h2 : ¬ (0 ≤ x ∧ x ≤ 11) := by simp at h'; omega
      unfold card; rw [if_neg h2, if_neg h3]
    · have h2 : (0 ≤ x ∧ x ≤ 11) := by simp at h'; omega
      unfold card; rw [if_pos h2]
def pk : List Int → List Int → Bool
  | _, [] => true
  | done, x :: r => decide (0 ≤ card x) && (!(done.contains (card x)) && pk (done ++ [card x]) r)
def packetOk (p : List Int) : Bool := pk [] p
theorem pk_nodup : ∀ (r done : List Int), done.Nodup → pk done r = true → (done ++ r.map card).Nodup ∧ ∀ x ∈ r, 0 ≤ card x
  | [], done, hd, h => by simp [hd]
  | x :: r, done, hd, h => by
    unfold pk at h
    simp only [Bool.and_eq_true, decide_eq_true_eq, Bool.not_eq_true'] at h
    obtain ⟨h1, h3, h4⟩ := h
    have hx : card x ∉ done := by simpa using h3
    obtain ⟨k1, k2⟩ := pk_nodup r (done ++ [card x]) (by
      rw [List.nodup_append]
      exact ⟨hd, by simp, fun a ha b hb e => by simp at hb; subst hb; subst e; exact hx ha⟩) h4
    refine ⟨by simpa using k1, fun y hy => ?_⟩
    rcases List.mem_cons.1 hy with rfl | hy
    · exact h1
    · exact k2 y hy
theorem packetOk_fit {p : List Int} (h : packetOk p = true) : (p.map card).Nodup ∧ (∀ x ∈ p, 0 ≤ card x ∧ card x ≤ 11) ∧ p.length ≤ 12 := by
  obtain ⟨k1, k2⟩ := pk_nodup p [] (by simp) h
  have k1' : (p.map card).Nodup := by simpa using k1
  have k3 := nodup_len 12 (p.map card) k1' (fun x hx => by
    obtain ⟨y, hy, rfl⟩ := List.mem_map.1 hx
    have := k2 y hy
    have := card_lt y
    omega)
  exact ⟨k1', fun x hx => ⟨k2 x hx, (card_lt x).2⟩, by simpa using k3⟩
/-- The cards that were met. -/
def metL (done : List Int) : List Bool := (List.range 12).map fun (c : Nat) => done.contains (c : Int)
theorem metL_len (done : List Int) : (metL done).length = 12 := by simp [metL]
theorem metL_get (done : List Int) (c : Nat) (h : c < 12) (d : Bool) : (metL done).getD c d = done.contains (c : Int) := by
  simp [metL, List.getD, h]
theorem metL_set (done : List Int) (c : Nat) (h : c < 12) : (metL done).set c true = metL (done ++ [(c : Int)]) := by
  apply List.ext_getElem?
  intro x
  rw [List.getElem?_set]
  by_cases hx : x < 12
  · by_cases e : c = x
    · subst e; simp [metL, h]
    · have : ¬ x = c := fun h => e h.symm
      simp [metL, hx, e, this]; intro h; omega
  · rw [if_neg (by omega), List.getElem?_eq_none (by rw [metL_len]; omega), List.getElem?_eq_none (by rw [metL_len]; omega)]
theorem i_PacketOk_l3_ev (xs : List Int) (hm : xs.length ≤ maxLen) (hi : Ins xs) : ∀ (r : List Int) (i : Nat) (done : List Int), xs.drop i = r → Ev (fun k => i_PacketOk_l3 k xs (xs.length : Int) (i : Int) (metL done)) (pk done r)
  | [], i, done, h => by
    have a := at_nil h
    refine Ev.step (fun k => i_PacketOk_l3_eq k _ _ _ _) ?_
    simp only [a.g, cond_false]
    exact Ev.pure _
  | x :: r, i, done, h => by
    have a := at_cons h hm
    refine Ev.step (fun k => i_PacketOk_l3_eq k _ _ _ _) ?_
    simp only [a.g, a.z, a.get, a.w, cond_true]
    unfold pk
    refine Ev.bind (i_CardOf_ev x (hi x a.mem)) (Ev.ite (fun c => Ev.some ?_) (fun c => ?_))
    · have : ¬ 0 ≤ card x := by simpa using c
      simp [this]
    · have hc : 0 ≤ card x := by simpa using c
      have hc2 := (card_lt x).2
      have en : card x = ((card x).toNat : Int) := by omega
      have g1 : decide (0 ≤ card x) = true := by simp [hc]
      have g2 : decide (card x < ((metL done).length : Int)) = true := by rw [metL_len]; simp; omega
      have g3 : decide ((card x).toNat < (metL done).length) = true := by rw [metL_len]; simp; omega
      have g4 : (Nat.beq (metL done).length 12 && true) = true := by rw [metL_len]; rfl
      have g5 := metL_get done (card x).toNat (by omega) false
      rw [← en] at g5
      have g6 := metL_set done (card x).toNat (by omega)
      rw [← en] at g6
      simp only [g1, g2, g3, g4, g5, g6, cond_true, Bool.true_and]
      refine Ev.ite (fun c2 => Ev.some ?_) (fun c2 => ?_)
      · rw [c2]; rfl
      · rw [c2]
        exact i_PacketOk_l3_ev xs hm hi r (i + 1) _ a.next
theorem i_PacketOk_ev (p : List Int) (hm : p.length ≤ maxLen) (hi : Ins p) : Ev (fun k => i_PacketOk k p) (packetOk p) :=
  Ev.step (fun k => i_PacketOk_eq k p) (i_PacketOk_l3_ev p hm hi p 0 [] rfl)
def posF (c : Int) : Nat → List Int → Int
  | _, [] => -1
  | i, y :: r => if card y = c then (i : Int) else posF c (i + 1) r
/-- Where a card lies, or -1. -/
def pos (p : List Int) (c : Int) : Int := if c < 0 then -1 else posF c 0 p
end Qq
namespace Qq
open Go Go.Vt Pt
set_option linter.unusedVariables false
set_option linter.unusedSimpArgs false
def upTo (n : Nat) : List Int := (List.range n).map fun (i : Nat) => (i : Int)
theorem upTo_len (n : Nat) : (upTo n).length = n := by simp [upTo]
theorem upTo_succ (n : Nat) : upTo (n + 1) = upTo n ++ [(n : Int)] := by simp [upTo, List.range_succ]
end Qq
namespace Qq
open Go Go.Vt Pt
set_option linter.unusedVariables false
set_option linter.unusedSimpArgs false
theorem l02Shuffle_l3_ev (n : Nat) (hn : n ≤ 12) : ∀ (m i : Nat) (out : List Int) (c : Cur), i + m = n → out.length = i → out.Perm (upTo i) → CurOk c →
    ∃ (p : List Int) (c' : Cur), Ev (fun k => s_l02Shuffle_l3 k (n : Int) (i : Int) out c.1 c.2.1 c.2.2) (p, c') ∧ p.Perm (upTo n) ∧ CurOk c'
  | 0, i, out, c, h, hl, hp, hc => by
    have hi : i = n := by omega
    subst hi
    exact ⟨out, c, Ev.step (fun k => s_l02Shuffle_l3_eq k _ _ _ _ _ _) (Ev.no (decide_eq_false (by omega)) (Ev.pure _)), hp, hc⟩
  | m + 1, i, out, c, h, hl, hp, hc => by
    have hw : IntKind.i64.wrap ((i : Int) + (1 : Int)) = ((i + 1 : Nat) : Int) := by rw [wrap_id (by omega) (by omega)]; simp
    obtain ⟨y, c1, e, a1, a2, a3⟩ := l01Below_ev c hc ((i + 1 : Nat) : Int)
    have hy := a2 (by omega)
    obtain ⟨j, rfl⟩ : ∃ j : Nat, y = (j : Int) := ⟨y.toNat, by omega⟩
    have hj : j < i + 1 := by omega
    have hvl : (out ++ [(i : Int)]).length = i + 1 := by simp [hl]
    have hi' : i < (out ++ [(i : Int)]).length := by omega
    have hj' : j < (out ++ [(i : Int)]).length := by omega
    have hvi : (out ++ [(i : Int)])[i] = (i : Int) := by rw [List.getElem_append_right (by omega)]; simp
    have hgd : (out ++ [(i : Int)]).getD j 0 = (out ++ [(i : Int)])[j] := by rw [List.getD, List.getElem?_eq_getElem hj']; rfl
    have hperm := List.set_set_perm hi' hj'
    rw [hvi] at hperm
    have hperm2 : (((out ++ [(i : Int)]).set i ((out ++ [(i : Int)]).getD j 0)).set j (i : Int)).Perm (upTo (i + 1)) := by
      rw [hgd, upTo_succ]
      exact hperm.trans (hp.append_right _)
    obtain ⟨p, c2, e2, b1, b2⟩ := l02Shuffle_l3_ev n hn m (i + 1) _ c1 (by omega) (by simp [hl]) hperm2 a3
    refine ⟨p, c2, Ev.step (fun k => s_l02Shuffle_l3_eq k _ _ _ _ _ _) (Ev.yes (decide_eq_true (by omega)) ?_), b1, b2⟩
    rw [hw]
    refine Ev.bind e ?_
    simp only [Int.toNat_natCast]
    refine Ev.yes (by rw [rowMax_eq]; simp; omega) (Ev.yes (by simp) (Ev.yes (by rw [hvl]; simp; omega) (Ev.yes (by rw [hvl]; simp; omega) (Ev.yes (by simp) (Ev.yes (by rw [hvl]; simp; omega) (Ev.yes (by rw [hvl]; simp) (Ev.yes (by simp) (Ev.yes (by simp [hl]; omega) (Ev.yes (by simp [hl]; omega) e2)))))))))
theorem l02Shuffle_ev (c : Cur) (hc : CurOk c) (n : Nat) (hn : n ≤ 12) : ∃ (p : List Int) (c' : Cur), Ev (fun k => s_l02Shuffle k (c, (n : Int))) (p, c') ∧ p.Perm (upTo n) ∧ CurOk c' := by
  obtain ⟨p, c', e, h1, h2⟩ := l02Shuffle_l3_ev n hn n 0 [] c (by omega) rfl (by simp [upTo]) hc
  exact ⟨p, c', Ev.step (fun k => s_l02Shuffle_eq k _ _) e, h1, h2⟩
theorem pk_ofC : ∀ (r done : List Int), (done ++ r.map card).Nodup → (∀ x ∈ r, 0 ≤ card x) → pk done r = true
  | [], done, _, _ => rfl
  | x :: r, done, hn, h0 => by
    unfold pk
    have hx : card x ∉ done := fun hm => by
      rw [List.map_cons, List.nodup_append] at hn
      exact hn.2.2 _ hm _ (by simp) rfl
    have hc : done.contains (card x) = false := by simpa using hx
    rw [hc, pk_ofC r (done ++ [card x]) (by simpa using hn) (fun y hy => h0 y (List.mem_cons_of_mem _ hy))]
    simp [h0 x (by simp)]
theorem packetOk_of {p : List Int} (hn : (p.map card).Nodup) (h0 : ∀ x ∈ p, 0 ≤ card x) : packetOk p = true := pk_ofC p [] (by simpa using hn) h0
/-- A packet on the way: its cards, turned or not. -/
structure PkI (q p : List Int) : Prop where
  m : p.map card = q
  b : ∀ x ∈ p, -12 ≤ x ∧ x ≤ 11
theorem card_flip {x : Int} (h1 : -12 ≤ x) (h2 : x ≤ 11) : card (-1 - x) = card x := by
  unfold card
  by_cases h : 0 ≤ x
  · rw [if_neg (by omega), if_pos (by omega), if_pos (by omega)]; omega
  · rw [if_pos (by omega), if_neg (by omega), if_pos (by omega)]
theorem PkI.flip {q p : List Int} (h : PkI q p) {i : Nat} (hi : i < p.length) : PkI q (p.set i (-1 - p.getD i 0)) := by
  have hg : p.getD i 0 = p[i] := by rw [List.getD, List.getElem?_eq_getElem hi]; rfl
  have hb := h.b p[i] (List.getElem_mem hi)
  refine ⟨?_, fun x hx => ?_⟩
  · rw [hg, List.map_set, card_flip hb.1 hb.2, ← h.m]
    have : card p[i] = (p.map card)[i]'(by simpa using hi) := by simp
    rw [this, List.set_getElem_self]
  · rcases List.mem_or_eq_of_mem_set hx with h1 | h1
    · exact h.b x h1
    · rw [h1, hg]; omega
theorem l02Draw_l4_ev (q : List Int) (n : Nat) (hn : n ≤ 12) : ∀ (m i : Nat) (p : List Int) (c : Cur), i + m = n → p.length = n → PkI q p → CurOk c →
    ∃ (p' : List Int) (c' : Cur), Ev (fun k => s_l02Draw_l4 k (n : Int) (i : Int) p c.1 c.2.1 c.2.2) (p', c') ∧ PkI q p' ∧ p'.length = n ∧ CurOk c'
  | 0, i, p, c, h, hl, hp, hc => by
    exact ⟨p, c, Ev.step (fun k => s_l02Draw_l4_eq k _ _ _ _ _ _) (Ev.no (decide_eq_false (by omega)) (Ev.pure _)), hp, hl, hc⟩
  | m + 1, i, p, c, h, hl, hp, hc => by
    have hw : IntKind.i64.wrap ((i : Int) + (1 : Int)) = ((i + 1 : Nat) : Int) := by rw [wrap_id (by omega) (by omega)]; simp
    obtain ⟨b, c1, e, a3⟩ := l01Once_ev c hc 3
    have hi : i < p.length := by omega
    cases b with
    | true =>
      have hf := hp.flip hi
      have hg : p.getD i 0 = p[i] := by rw [List.getD, List.getElem?_eq_getElem hi]; rfl
      have hb := hp.b p[i] (List.getElem_mem hi)
      obtain ⟨p', c2, e2, b1, b2, b3⟩ := l02Draw_l4_ev q n hn m (i + 1) _ c1 (by omega) (by simpa using hl) hf a3
      refine ⟨p', c2, Ev.step (fun k => s_l02Draw_l4_eq k _ _ _ _ _ _) (Ev.yes (decide_eq_true (by omega)) (Ev.bind e ?_)), b1, b2, b3⟩
      simp only [Int.toNat_natCast]
      have hw2 : IntKind.i64.wrap ((-1 : Int) - p.getD i 0) = -1 - p.getD i 0 := by rw [hg]; exact wrap_id (by omega) (by omega)
      rw [hw, hw2]
      exact Ev.yes rfl (Ev.yes (by simp) (Ev.yes (by simp; omega) (Ev.yes (by simp; omega) (Ev.yes (by simp) (Ev.yes (by simp; omega) (Ev.yes (by simp; omega) e2))))))
    | false =>
      obtain ⟨p', c2, e2, b1, b2, b3⟩ := l02Draw_l4_ev q n hn m (i + 1) p c1 (by omega) hl hp a3
      refine ⟨p', c2, Ev.step (fun k => s_l02Draw_l4_eq k _ _ _ _ _ _) (Ev.yes (decide_eq_true (by omega)) (Ev.bind e ?_)), b1, b2, b3⟩
      rw [hw]
      exact Ev.no rfl e2
theorem upTo_mem {n : Nat} {x : Int} (h : x ∈ upTo n) : 0 ≤ x ∧ x < n := by
  unfold upTo at h
  obtain ⟨i, hi, rfl⟩ := List.mem_map.1 h
  have := List.mem_range.1 hi
  omega
theorem upTo_nodup (n : Nat) : (upTo n).Nodup := by
  unfold upTo
  exact List.Pairwise.map _ (fun a b h e => h (by omega)) List.nodup_range
theorem perm_PkI {n : Nat} (hn : n ≤ 12) {p : List Int} (h : p.Perm (upTo n)) : PkI p p := by
  have hb : ∀ x ∈ p, 0 ≤ x ∧ x ≤ 11 := fun x hx => by have := upTo_mem (h.mem_iff.1 hx); omega
  refine ⟨?_, fun x hx => by have := hb x hx; omega⟩
  conv => rhs; rw [← List.map_id p]
  exact List.map_congr_left fun x hx => by unfold card; rw [if_pos (hb x hx)]; rfl
/-- What is drawn: a valid packet, not empty. -/
structure Drawn (most : Nat) (p : List Int) : Prop where
  ok : packetOk p = true
  pos : 1 ≤ p.length
  le : p.length ≤ most
theorem l02Draw_ev (c : Cur) (hc : CurOk c) (most : Nat) (h1 : 1 ≤ most) (h12 : most ≤ 12) : ∃ (p : List Int) (c' : Cur), Ev (fun k => s_l02Draw k (c, (most : Int))) (p, c') ∧ Drawn most p ∧ CurOk c' := by
  obtain ⟨y, c1, e1, a1, a2, a3⟩ := l01Below_ev c hc (most : Int)
  have hy := a2 (by omega)
  obtain ⟨j, rfl⟩ : ∃ j : Nat, y = (j : Int) := ⟨y.toNat, by omega⟩
  have hw : IntKind.i64.wrap ((1 : Int) + (j : Int)) = ((j + 1 : Nat) : Int) := by rw [wrap_id (by omega) (by omega)]; omega
  obtain ⟨p, c2, e2, b1, b2⟩ := l02Shuffle_ev c1 a3 (j + 1) (by omega)
  have hl : p.length = j + 1 := by rw [b1.length_eq, upTo_len]
  obtain ⟨b, c3, e3, d3⟩ := l01Once_ev c2 b2 2
  have hI := perm_PkI (by omega) b1
  have hnd : p.Nodup := b1.nodup_iff.2 (upTo_nodup _)
  have h0 : ∀ x ∈ p, 0 ≤ x := fun x hx => (upTo_mem (b1.mem_iff.1 hx)).1
  have fin : ∀ p', PkI p p' → p'.length = j + 1 → Drawn most p' := fun p' hp' hl' => by
    refine ⟨packetOk_of (by rw [hp'.m]; exact hnd) (fun x hx => h0 _ ?_), by omega, by omega⟩
    rw [← hp'.m]; exact List.mem_map_of_mem hx
  cases b with
  | true =>
    obtain ⟨p', c4, e4, f1, f2, f3⟩ := l02Draw_l4_ev p (j + 1) (by omega) (j + 1) 0 p c3 (by omega) hl hI d3
    refine ⟨p', c4, Ev.step (fun k => s_l02Draw_eq k _ _) (Ev.bind e1 ?_), fin p' f1 f2, f3⟩
    dsimp only
    rw [hw]
    refine Ev.bind e2 (Ev.bind e3 (Ev.yes rfl ?_))
    dsimp only
    rw [hl]
    exact e4
  | false =>
    refine ⟨p, c3, Ev.step (fun k => s_l02Draw_eq k _ _) (Ev.bind e1 ?_), fin p hI hl, d3⟩
    dsimp only
    rw [hw]
    exact Ev.bind e2 (Ev.bind e3 (Ev.no rfl (Ev.pure _)))
end Qq
namespace Qq
open Go Go.Vt Pt
set_option linter.unusedVariables false
set_option linter.unusedSimpArgs false
def strB (l : List UInt8) : ByteArray := ⟨l.toArray⟩
theorem strB_size (a : List UInt8) : (strB a).size = a.length := by simp [strB, ByteArray.size]
def itoaB (n : Int) : ByteArray := strB (Lib.itoa n)
theorem dec_small {u : Nat} (h : u < 10) : Lib.decDigits u = [UInt8.ofNat (48 + u)] := by rw [Lib.decDigits, dif_pos h]
theorem dec_big {u : Nat} (h : ¬ u < 10) : Lib.decDigits u = Lib.decDigits (u / 10) ++ [UInt8.ofNat (48 + u % 10)] := by rw [Lib.decDigits, dif_neg h]
theorem Itoa_ev (n : Int) (hn : In n) : Ev (fun k => strconv_Itoa k n) (itoaB n) := by
  refine Ev.congr (fun k => strconv_Itoa_eq k n) ?_
  unfold itoaF
  refine Ev.yes ?_ (Ev.pure _)
  unfold In at hn
  simp; exact hn
theorem i_FormatInt_ev (n : Int) (hn : In n) : Ev (fun k => i_FormatInt k n) (itoaB n) :=
  Ev.step (fun k => i_FormatInt_eq k n) (Ev.bind (Itoa_ev n hn) (Ev.pure _))
theorem itoaB_size (n : Int) (hn : In n) : (itoaB n).size ≤ 21 := by
  unfold In at hn
  rw [itoaB, strB_size]
  exact Lib.itoa_length_le n hn.1 hn.2
end Qq
namespace Qq
open Go Go.Vt Pt
set_option linter.unusedVariables false
set_option linter.unusedSimpArgs false
def bytesOf (x : ByteArray) : List UInt8 := x.data.toList
theorem bytes_len (x : ByteArray) : (bytesOf x).length = x.size := by unfold bytesOf; simp
def joinL (l : List ByteArray) (sep : ByteArray) : List UInt8 := Lib.join (l.map bytesOf) (bytesOf sep)
def joinB (l : List ByteArray) (sep : ByteArray) : ByteArray := strB (joinL l sep)
theorem joinTail_len {B S : Nat} (sep : List UInt8) (hs : sep.length ≤ S) : ∀ (r : List ByteArray), (∀ x ∈ r, x.size ≤ B) → (Lib.joinTail sep (r.map bytesOf)).length ≤ r.length * (B + S)
  | [], _ => by simp [Lib.joinTail]
  | x :: r, h => by
    have ih := joinTail_len sep hs r (fun y hy => h y (by simp [hy]))
    have hx := h x (by simp)
    have e : Lib.joinTail sep ((x :: r).map bytesOf) = (sep ++ bytesOf x) ++ Lib.joinTail sep (r.map bytesOf) := by simp [Lib.joinTail]
    rw [e, List.length_append, List.length_append, bytes_len, List.length_cons, Nat.add_mul, Nat.one_mul]
    omega
theorem join_len {B S : Nat} (sep : ByteArray) (hs : sep.size ≤ S) (l : List ByteArray) (h : ∀ x ∈ l, x.size ≤ B) : (joinL l sep).length ≤ l.length * (B + S) := by
  cases l with
  | nil => simp [joinL, Lib.join_nil]
  | cons x r =>
    have hx := h x (by simp)
    have := joinTail_len (B := B) (S := S) (bytesOf sep) (by rw [bytes_len]; exact hs) r (fun y hy => h y (by simp [hy]))
    unfold joinL
    rw [List.map_cons, Lib.join_cons, List.length_append, bytes_len, List.length_cons, Nat.add_mul, Nat.one_mul]
    omega
theorem i_Join_ev (l : List ByteArray) (sep : ByteArray) (B : Nat) (hl : l.length ≤ 1048576) (hB : ∀ x ∈ l, x.size ≤ B) (hBB : B ≤ 100) (hs : sep.size ≤ 100) : Ev (fun k => i_Join k (l, sep)) (joinB l sep) := by
  refine Ev.step (fun k => i_Join_eq k l sep) (Ev.bind (Ev.congr (fun k => strings_Join_eq k l sep) ?_) (Ev.pure _))
  unfold joinF
  have jl := join_len (B := B) (S := 100) sep hs l hB
  have hmul : l.length * (B + 100) ≤ 1048576 * 200 := Nat.mul_le_mul hl (by omega)
  refine Ev.yes ?_ (Ev.pure _)
  rw [Bool.and_eq_true, decide_eq_true_eq, decide_eq_true_eq]
  exact ⟨by omega, by show (joinL l sep).length ≤ _; omega⟩
theorem numbersOf_l3_ev (xs : List Int) (hm : xs.length ≤ 1048576) (hi : Ins xs) : ∀ (r : List Int) (i : Nat), xs.drop i = r → Ev (fun k => i_numbersOf_l3 k xs (xs.length : Int) (i : Int) ((xs.take i).map itoaB)) (xs.map itoaB)
  | [], i, h => by
    have a := at_nil h
    refine Ev.step (fun k => i_numbersOf_l3_eq k _ _ _ _) ?_
    simp only [a.g, cond_false]
    exact Ev.some (by rw [List.take_of_length_le a.ge])
  | x :: r, i, h => by
    have a := at_cons h (by rw [maxLen_eq]; omega)
    have hlt := a.lt
    have hx : In x := hi x (List.mem_of_mem_drop (h ▸ List.mem_cons_self))
    refine Ev.step (fun k => i_numbersOf_l3_eq k _ _ _ _) ?_
    simp only [a.g, a.z, a.get, a.w, cond_true]
    refine Ev.bind (i_FormatInt_ev x hx) (Ev.yes (by rw [rowMax_eq]; simp; omega) ?_)
    have := numbersOf_l3_ev xs hm hi r (i + 1) a.next
    rw [List.take_succ_eq_append_getElem hlt, List.map_append] at this
    have e : xs[i] = x := by have := a.get 0; rw [Int.toNat_natCast, List.getD, List.getElem?_eq_getElem hlt] at this; exact this
    rw [e] at this
    exact this
theorem numbersOf_ev (xs : List Int) (hm : xs.length ≤ 1048576) (hi : Ins xs) : Ev (fun k => i_numbersOf k xs) (xs.map itoaB) :=
  Ev.step (fun k => i_numbersOf_eq k xs) (numbersOf_l3_ev xs hm hi xs 0 rfl)
theorem itoaB_map_size {xs : List Int} (hi : Ins xs) : ∀ x ∈ xs.map itoaB, x.size ≤ 21 := by
  intro x hx
  obtain ⟨n, hn, rfl⟩ := List.mem_map.1 hx
  exact itoaB_size n (hi n hn)
end Qq
namespace Qq
open Go Go.Vt Pt
set_option linter.unusedVariables false
set_option linter.unusedSimpArgs false
end Qq
namespace Qq
open Go Go.Vt Pt
set_option linter.unusedVariables false
set_option linter.unusedSimpArgs false
abbrev Scene : Type := List Int × Int
end Qq
namespace Qq
open Go Go.Vt Pt
set_option linter.unusedVariables false
set_option linter.unusedSimpArgs false
end Qq
namespace Qq
open Go Go.Vt Pt
set_option linter.unusedVariables false
set_option linter.unusedSimpArgs false
end Qq
namespace Qq
open Go Go.Vt Pt
set_option linter.unusedVariables false
set_option linter.unusedSimpArgs false
def isUp (x : Int) : Bool := decide (-12 ≤ x) && decide (x ≤ -1)
theorem i_IsUp_ev (x : Int) (hx : In x) : Ev (fun k => i_IsUp k x) (isUp x) := by
  refine Ev.step (fun k => i_IsUp_eq k x) (Ev.ite (fun h => Ev.bind (i_CardOf_ev x hx) (Ev.some ?_)) (fun h => Ev.some ?_))
  · have h' : x < 0 := by simpa using h
    unfold isUp card
    rw [Bool.eq_iff_iff, if_neg (by omega)]
    by_cases h2 : -12 ≤ x ∧ x ≤ -1
    · rw [if_pos h2]; simp; omega
    · rw [if_neg h2]; simp; omega
  · have h' : ¬ x < 0 := by simpa using h
    unfold isUp
    symm; simp; omega
end Qq
namespace Qq
open Go Go.Vt Pt
set_option linter.unusedVariables false
set_option linter.unusedSimpArgs false
/-- The lengths add up to something small. -/
theorem sz_add {a b : ByteArray} {m n : Nat} (ha : a.size ≤ m) (hb : b.size ≤ n) : (a ++ b).size ≤ m + n := by rw [ByteArray.size_append]; omega
theorem sz_ok {a b : ByteArray} {m n : Nat} (ha : a.size ≤ m) (hb : b.size ≤ n) (h : m + n ≤ 9223372036854775807) : decide (a.size + b.size ≤ 9223372036854775807) = true := decide_eq_true (by omega)
def cardB (x : Int) : ByteArray := if isUp x then itoaB (card x) ++ ⟨#[94]⟩ else itoaB (card x)
theorem In_card (x : Int) : In (card x) := by have := card_lt x; unfold In; omega
theorem cardB_size (x : Int) : (cardB x).size ≤ 22 := by
  have h := itoaB_size (card x) (In_card x)
  unfold cardB
  split
  · exact sz_add h (n := 1) (by decide)
  · omega
def formatPacket (p : List Int) : ByteArray := if packetOk p then (if p = [] then ⟨#[101, 109, 112, 116, 121]⟩ else joinB (p.map cardB) ⟨#[32]⟩) else ⟨#[]⟩
theorem cardB_map_size (p : List Int) : ∀ x ∈ p.map cardB, x.size ≤ 22 := by
  intro x hx
  obtain ⟨n, _, rfl⟩ := List.mem_map.1 hx
  exact cardB_size n
theorem at_elem {xs : List Int} {i : Nat} {x : Int} {r : List Int} (a : AtCons xs i x r) : (xs.take (i + 1)).map cardB = (xs.take i).map cardB ++ [cardB x] := by
  have hlt := a.lt
  have e : xs[i] = x := by have := a.get 0; rw [Int.toNat_natCast, List.getD, List.getElem?_eq_getElem hlt] at this; exact this
  rw [List.take_succ_eq_append_getElem hlt, List.map_append, e]; rfl
theorem i_FormatPacket_l7_ev (xs : List Int) (hm : xs.length ≤ 12) (hi : Ins xs) : ∀ (r : List Int) (i : Nat), xs.drop i = r → Ev (fun k => i_FormatPacket_l7 k xs (xs.length : Int) (i : Int) ((xs.take i).map cardB)) (joinB (xs.map cardB) ⟨#[32]⟩)
  | [], i, h => by
    have a := at_nil h
    refine Ev.step (fun k => i_FormatPacket_l7_eq k _ _ _ _) ?_
    simp only [a.g, cond_false]
    rw [List.take_of_length_le a.ge]
    exact Ev.bind (i_Join_ev _ _ 22 (by simp; omega) (cardB_map_size xs) (by omega) (by decide)) (Ev.pure _)
  | x :: r, i, h => by
    have a := at_cons h (by rw [maxLen_eq]; omega)
    have hx : In x := hi x (List.mem_of_mem_drop (h ▸ List.mem_cons_self))
    have ih := i_FormatPacket_l7_ev xs hm hi r (i + 1) a.next
    rw [at_elem a] at ih
    refine Ev.step (fun k => i_FormatPacket_l7_eq k _ _ _ _) ?_
    simp only [a.g, a.z, a.get, a.w, cond_true]
    have hs := itoaB_size (card x) (In_card x)
    refine Ev.bind (i_CardOf_ev x hx) (Ev.bind (i_FormatInt_ev _ (In_card x)) (Ev.bind (i_IsUp_ev x hx) (Ev.ite (fun h => ?_) (fun h => ?_))))
    · have e : cardB x = itoaB (card x) ++ ⟨#[94]⟩ := by unfold cardB; rw [if_pos h]
      rw [e] at ih
      exact Ev.yes (sz_ok hs (n := 1) (by decide) (by decide)) (Ev.yes (by rw [rowMax_eq]; simp; omega) ih)
    · have e : cardB x = itoaB (card x) := by unfold cardB; rw [h]; rfl
      rw [e] at ih
      exact Ev.yes (by rw [rowMax_eq]; simp; omega) ih
theorem i_FormatPacket_ev (p : List Int) (hm : p.length ≤ maxLen) (hi : Ins p) : Ev (fun k => i_FormatPacket k p) (formatPacket p) := by
  unfold formatPacket
  refine Ev.step (fun k => i_FormatPacket_eq k p) (Ev.bind (i_PacketOk_ev p hm hi) (Ev.ite (fun h => Ev.some ?_) (fun h => ?_)))
  · have : packetOk p = false := by simpa using h
    rw [this]; rfl
  · have e : packetOk p = true := by simpa using h
    rw [if_pos e]
    refine Ev.ite (fun h => Ev.some ?_) (fun h => ?_)
    · have : p = [] := by simp at h; exact h
      rw [if_pos this]
    · have : ¬ p = [] := by simp at h; exact h
      rw [if_neg this]
      exact i_FormatPacket_l7_ev p (packetOk_fit e).2.2 hi p 0 rfl
theorem formatPacket_size (p : List Int) : (formatPacket p).size ≤ 2000 := by
  unfold formatPacket
  split
  · rename_i h
    split
    · decide
    · have h12 := (packetOk_fit h).2.2
      have := join_len (B := 22) (S := 1) (⟨#[32]⟩ : ByteArray) (by decide) (p.map cardB) (cardB_map_size p)
      rw [List.length_map] at this
      rw [joinB, strB_size]
      omega
  · decide
end Qq
namespace Qq
open Go Go.Vt Pt
set_option linter.unusedVariables false
set_option linter.unusedSimpArgs false
end Qq
namespace Qq
open Go Go.Vt Pt
set_option linter.unusedVariables false
set_option linter.unusedSimpArgs false
end Qq
namespace Qq
open Go Go.Vt Pt
set_option linter.unusedVariables false
set_option linter.unusedSimpArgs false
def sceneLine (c : Scene) : ByteArray := if packetOk c.1 then (if 0 ≤ c.2 ∧ c.2 ≤ 11 then (formatPacket c.1 ++ ⟨#[32, 110, 111, 116, 101, 100, 32]⟩) ++ itoaB c.2 else formatPacket c.1) else ⟨#[]⟩
theorem itoa_ne (n : Int) : 1 ≤ (Lib.itoa n).length := by
  have h : ∀ u : Nat, 1 ≤ (Lib.decDigits u).length := by
    intro u
    by_cases h : u < 10
    · rw [dec_small h]; simp
    · rw [dec_big h]; simp
  unfold Lib.itoa
  split
  · simp
  · exact h _
theorem cardB_ne (x : Int) : 1 ≤ (cardB x).size := by
  have := itoa_ne (card x)
  unfold cardB
  split
  · rw [ByteArray.size_append, itoaB, strB_size]; omega
  · rw [itoaB, strB_size]; exact this
theorem formatPacket_ne {p : List Int} (h : packetOk p = true) : 1 ≤ (formatPacket p).size := by
  unfold formatPacket
  rw [if_pos h]
  cases p with
  | nil => rw [if_pos rfl]; decide
  | cons x r =>
    rw [if_neg (by simp), joinB, strB_size, joinL, List.map_cons, List.map_cons, Lib.join_cons, List.length_append, bytes_len]
    have := cardB_ne x
    omega
theorem i_SceneLine_ev (c : Scene) (b1 : c.1.length ≤ maxLen) (bi : Ins c.1) : Ev (fun k => i_SceneLine k c) (sceneLine c) := by
  unfold sceneLine
  have sp := formatPacket_size c.1
  refine Ev.step (fun k => i_SceneLine_eq k c) (Ev.bind (i_FormatPacket_ev c.1 b1 bi) (Ev.ite (fun h => ?_) (fun h => Ev.some ?_)))
  · have e : packetOk c.1 = true := by
      cases hp : packetOk c.1 with
      | true => rfl
      | false =>
        unfold formatPacket at h
        rw [hp] at h
        simp at h
    rw [if_pos e]
    refine Ev.ite (fun h1 => Ev.ite (fun h2 => ?_) (fun h2 => Ev.some ?_)) (fun h1 => Ev.some ?_)
    · have hc : 0 ≤ c.2 ∧ c.2 ≤ 11 := by simp at h1 h2; omega
      rw [if_pos hc]
      have hin : In c.2 := by unfold In; omega
      have s1 := itoaB_size _ hin
      refine Ev.bind (i_FormatInt_ev _ hin) (Ev.yes (sz_ok (m := 7) (by decide) s1 (by decide)) (Ev.yes (sz_ok sp (sz_add (m := 7) (by decide) s1) (by decide)) (Ev.some ?_)))
      rw [ByteArray.append_assoc]
    · rw [if_neg (by simp at h1 h2; omega)]
    · rw [if_neg (by simp at h1; omega)]
  · cases hp : packetOk c.1 with
    | true =>
      have h1 := formatPacket_ne hp
      have h2 : (formatPacket c.1).toList = (⟨#[]⟩ : ByteArray).toList := by simpa using h
      rw [ByteArray.toList_eq, ByteArray.toList_eq] at h2
      have h3 : (bytesOf (formatPacket c.1)).length = 0 := by unfold bytesOf; rw [h2]; rfl
      rw [bytes_len] at h3
      omega
    | false =>
      unfold formatPacket
      rw [hp]; rfl
end Qq
namespace Qq
open Go Go.Vt Pt
set_option linter.unusedVariables false
set_option linter.unusedSimpArgs false
def permOk (a : List Int) : Bool := decide (a.length ≤ 12) && preOk a.length [] a
theorem take_at {xs : List Int} {i : Nat} {x : Int} {r : List Int} (a : AtCons xs i x r) : xs.take (i + 1) = xs.take i ++ [x] := by
  have hlt := a.lt
  have e : xs[i] = x := by have := a.get 0; rw [Int.toNat_natCast, List.getD, List.getElem?_eq_getElem hlt] at this; exact this
  rw [List.take_succ_eq_append_getElem hlt, e]
theorem i_PermOk_l2_ev (xs : List Int) (hm : xs.length ≤ maxLen) : ∀ (r : List Int) (i : Nat), xs.drop i = r → Ev (fun k => i_PermOk_l2 k xs xs (xs.length : Int) (i : Int)) (decide (xs.length ≤ 12) && preOk xs.length (xs.take i) r)
  | [], i, h => by
    have a := at_nil h
    refine Ev.step (fun k => i_PermOk_l2_eq k _ _ _ _) ?_
    simp only [a.g, cond_false]
    exact Ev.some (by unfold preOk; rw [Bool.and_true, Bool.eq_iff_iff]; simp; omega)
  | x :: r, i, h => by
    have a := at_cons h hm
    have hlt := a.lt
    have ih := i_PermOk_l2_ev xs hm r (i + 1) a.next
    rw [take_at a] at ih
    refine Ev.step (fun k => i_PermOk_l2_eq k _ _ _ _) ?_
    simp only [a.g, a.z, a.get, a.w, cond_true]
    unfold preOk
    refine Ev.ite (fun h => Ev.some ?_) (fun h => Ev.ite (fun h2 => Ev.some ?_) (fun h2 => ?_))
    · have : ¬ 0 ≤ x := by simp at h; omega
      simp [this]
    · have : ¬ x < (xs.length : Int) := by simp at h2; omega
      simp [this]
    · have hx : 0 ≤ x ∧ x < (xs.length : Int) := by simp at h h2; omega
      refine Ev.yes (by simp; omega) ?_
      rw [List.drop_zero, Int.toNat_natCast]
      have e1 : decide (0 ≤ x) = true := by simp [hx.1]
      have e2 : decide (x < (xs.length : Int)) = true := by simp [hx.2]
      rw [e1, e2]
      refine Ev.bind (Contains_int_ev _ x (Nat.le_trans (by rw [List.length_take]; omega) hm)) (Ev.ite (fun h => Ev.some ?_) (fun h => ih.to ?_))
      · rw [h]; simp
      · rw [h]; rfl
theorem i_PermOk_ev (a : List Int) (hm : a.length ≤ maxLen) : Ev (fun k => i_PermOk k a) (permOk a) :=
  Ev.step (fun k => i_PermOk_eq k a) (i_PermOk_l2_ev a hm a 0 rfl)
/-- A permutation: different numbers below its length, at most 12. -/
theorem perm_fit {a : List Int} (h : permOk a = true) : a.length ≤ 12 ∧ a.Nodup ∧ (∀ x ∈ a, 0 ≤ x ∧ x < (a.length : Int)) := by
  unfold permOk at h
  rw [Bool.and_eq_true, decide_eq_true_eq] at h
  obtain ⟨k1, k2⟩ := preOk_nodup a.length a [] List.nodup_nil h.2
  exact ⟨h.1, by simpa using k1, k2⟩
end Qq
namespace Qq
open Go Go.Vt Pt
set_option linter.unusedVariables false
set_option linter.unusedSimpArgs false
/-- On from x until a number that was met. -/
def cycF (a : List Int) : Nat → Nat → List Bool → List Int → List Bool × List Int
  | 0, _, met, c => (met, c)
  | f + 1, x, met, c => if met.getD x false = true then (met, c) else cycF a f (a.getD x 0).toNat (met.set x true) (c ++ [(x : Int)])
def outF (a : List Int) : Nat → Nat → List (List Int) → List Bool → List (List Int)
  | 0, _, out, _ => out
  | d + 1, i, out, met => if met.getD i false = true then outF a d (i + 1) out met else outF a d (i + 1) (out ++ [(cycF a a.length i met []).2]) (cycF a a.length i met []).1
theorem cycF_stop {a : List Int} {f x : Nat} {met : List Bool} {c : List Int} (hm : met.getD x false = true) : cycF a f x met c = (met, c) := by
  cases f with
  | zero => rfl
  | succ f => show (if met.getD x false = true then _ else _) = _; rw [if_pos hm]
theorem cycF_step {a : List Int} {f x : Nat} {met : List Bool} {c : List Int} (hm : met.getD x false = false) : cycF a (f + 1) x met c = cycF a f (a.getD x 0).toNat (met.set x true) (c ++ [(x : Int)]) := by
  show (if met.getD x false = true then _ else _) = _
  rw [hm]; rfl
theorem outF_skip {a : List Int} {d i : Nat} {out : List (List Int)} {met : List Bool} (hm : met.getD i false = true) : outF a (d + 1) i out met = outF a d (i + 1) out met := by
  show (if met.getD i false = true then _ else _) = _
  rw [if_pos hm]
theorem outF_add {a : List Int} {d i : Nat} {out : List (List Int)} {met : List Bool} (hm : met.getD i false = false) : outF a (d + 1) i out met = outF a d (i + 1) (out ++ [(cycF a a.length i met []).2]) (cycF a a.length i met []).1 := by
  show (if met.getD i false = true then _ else _) = _
  rw [hm]; rfl
def cycles (a : List Int) : List (List Int) := if permOk a then outF a a.length 0 [] (List.replicate a.length false) else []
theorem unmet_set : ∀ (met : List Bool) (x : Nat), x < met.length → met.getD x false = false → (met.set x true).countP (fun b => !b) + 1 = met.countP (fun b => !b)
  | [], x, h, _ => by simp at h
  | b :: r, 0, h, e => by
    have : b = false := by simpa using e
    subst this
    simp [List.countP_cons]
  | b :: r, x + 1, h, e => by
    have := unmet_set r x (by simpa using h) (by simpa using e)
    rw [List.set_cons_succ, List.countP_cons, List.countP_cons]
    omega
theorem unmet_none {met : List Bool} {x : Nat} (h : met.countP (fun b => !b) = 0) (hx : x < met.length) : met.getD x false = true := by
  rw [List.countP_eq_zero] at h
  have := h met[x] (List.getElem_mem hx)
  rw [List.getD, List.getElem?_eq_getElem hx]
  simpa using this
structure CycFit (a : List Int) (n : Nat) (p : List Bool × List Int) : Prop where
  len : p.1.length = a.length
  clen : p.2.length ≤ n
  ins : Ins p.2
theorem cycF_fit {a : List Int} (h : permOk a = true) : ∀ (f x : Nat) (met : List Bool) (c : List Int), met.length = a.length → x < a.length → Ins c → CycFit a (c.length + f) (cycF a f x met c) ∧ c.length ≤ (cycF a f x met c).2.length
  | 0, x, met, c, hl, hx, hc => ⟨⟨hl, Nat.le_refl _, hc⟩, Nat.le_refl _⟩
  | f + 1, x, met, c, hl, hx, hc => by
    obtain ⟨h1, _, h3⟩ := perm_fit h
    unfold cycF
    split
    · exact ⟨⟨hl, by show c.length ≤ _; omega, hc⟩, Nat.le_refl _⟩
    · have hax : 0 ≤ a.getD x 0 ∧ a.getD x 0 < (a.length : Int) := by
        rw [List.getD, List.getElem?_eq_getElem hx]; exact h3 _ (List.getElem_mem hx)
      obtain ⟨⟨k1, k2, k3⟩, k4⟩ := cycF_fit h f (a.getD x 0).toNat (met.set x true) (c ++ [(x : Int)]) (by rw [List.length_set]; exact hl) (by omega) (fun y hy => by
        rcases List.mem_append.1 hy with hy | hy
        · exact hc y hy
        · simp at hy; subst hy; unfold In; omega)
      rw [List.length_append, List.length_singleton] at k2 k4
      exact ⟨⟨k1, by omega, k3⟩, by omega⟩
theorem cyc_first {a : List Int} (h : permOk a = true) {i : Nat} {met : List Bool} (hl : met.length = a.length) (hi : i < a.length) (hm : ¬ met.getD i false = true) : 1 ≤ (cycF a a.length i met []).2.length := by
  obtain ⟨h1, _, h3⟩ := perm_fit h
  obtain ⟨n, hn⟩ : ∃ n, a.length = n + 1 := ⟨a.length - 1, by omega⟩
  rw [hn]
  unfold cycF
  rw [if_neg hm]
  have hax : 0 ≤ a.getD i 0 ∧ a.getD i 0 < (a.length : Int) := by
    rw [List.getD, List.getElem?_eq_getElem hi]; exact h3 _ (List.getElem_mem hi)
  have := (cycF_fit h n (a.getD i 0).toNat (met.set i true) ([] ++ [(i : Int)]) (by rw [List.length_set]; exact hl) (by omega) (fun y hy => by simp at hy; subst hy; unfold In; omega)).2
  simpa using this
theorem i_cyc_ev {a : List Int} (h : permOk a = true) (y : List (List Int)) (i : Nat) (out : List (List Int)) (ho : out.length ≤ 12) : ∀ (f x : Nat) (met : List Bool) (c : List Int), met.length = a.length → x < a.length → met.countP (fun b => !b) ≤ f → c.length ≤ 1000 →
    Ev (fun k => i_CyclesOf_l6 k a (a.length : Int) ((i + 1 : Nat) : Int) (if (cycF a f x met c).2 = [] then out else out ++ [(cycF a f x met c).2]) (cycF a f x met c).1) y → i < a.length → c.length + f ≤ 1000 →
    Ev (fun k => i_CyclesOf_l10 k a (x : Int) (a.length : Int) (i : Int) out met c) y := by
  obtain ⟨h1, _, h3⟩ := perm_fit h
  intro f
  have fin : ∀ (x : Nat) (met : List Bool) (c : List Int), met.length = a.length → x < a.length → met.getD x false = true →
      Ev (fun k => i_CyclesOf_l6 k a (a.length : Int) ((i + 1 : Nat) : Int) (if c = [] then out else out ++ [c]) met) y → i < a.length → Ev (fun k => i_CyclesOf_l10 k a (x : Int) (a.length : Int) (i : Int) out met c) y := by
    intro x met c hl hx hm hy hi
    refine Ev.step (fun k => i_CyclesOf_l10_eq k _ _ _ _ _ _ _) ?_
    rw [Int.toNat_natCast, hm, wrap_id (x := (i : Int) + 1) (by omega) (by omega)]
    refine Ev.yes (by simp) (Ev.yes (by rw [hl]; simp; omega) (Ev.yes (by rw [hl]; simp; omega) (Ev.no rfl ?_)))
    cases c with
    | nil =>
      rw [if_pos rfl] at hy
      exact Ev.no rfl (by exact_mod_cast hy)
    | cons z r =>
      rw [if_neg (by simp)] at hy
      exact Ev.yes rfl (Ev.yes (by rw [rowMax_eq]; simp; omega) (by exact_mod_cast hy))
  induction f with
  | zero =>
    intro x met c hl hx hu hc hy hi hcf
    exact fin x met c hl hx (unmet_none (met := met) (x := x) (by omega) (by omega)) hy hi
  | succ f ih =>
    intro x met c hl hx hu hc hy hi hcf
    have hax : 0 ≤ a.getD x 0 ∧ a.getD x 0 < (a.length : Int) := by
      rw [List.getD, List.getElem?_eq_getElem hx]; exact h3 _ (List.getElem_mem hx)
    cases hm : met.getD x false with
    | true =>
      rw [cycF_stop hm] at hy
      exact fin x met c hl hx hm hy hi
    | false =>
      rw [cycF_step hm] at hy
      refine Ev.step (fun k => i_CyclesOf_l10_eq k _ _ _ _ _ _ _) ?_
      rw [Int.toNat_natCast, hm]
      refine Ev.yes (by simp) (Ev.yes (by rw [hl]; simp; omega) (Ev.yes (by rw [hl]; simp; omega) ?_))
      refine Ev.yes rfl (Ev.yes (by simp) (Ev.yes (by rw [hl]; simp; omega) (Ev.yes (by rw [hl]; simp; omega) (Ev.yes (by rw [rowMax_eq]; simp; omega) (Ev.yes (by simp) (Ev.yes (by simp; omega) ?_))))))
      have hu' := unmet_set met x (by omega) hm
      have := ih (a.getD x 0).toNat (met.set x true) (c ++ [(x : Int)]) (by rw [List.length_set]; exact hl) (by omega) (by omega) (by simp; omega) hy hi (by simp; omega)
      have e : (((a.getD x 0).toNat : Nat) : Int) = a.getD x 0 := by omega
      rw [e] at this
      exact this
theorem i_out_ev {a : List Int} (h : permOk a = true) : ∀ (d i : Nat) (out : List (List Int)) (met : List Bool), i + d = a.length → out.length ≤ i → met.length = a.length → Ev (fun k => i_CyclesOf_l6 k a (a.length : Int) (i : Int) out met) (outF a d i out met)
  | 0, i, out, met, hd, ho, hl => by
    refine Ev.step (fun k => i_CyclesOf_l6_eq k _ _ _ _ _) ?_
    rw [at_end (by omega)]
    exact Ev.pure _
  | d + 1, i, out, met, hd, ho, hl => by
    obtain ⟨h1, _, h3⟩ := perm_fit h
    have u := at_up (n := (a.length : Int)) (i := i) (by omega) (by omega)
    refine Ev.step (fun k => i_CyclesOf_l6_eq k _ _ _ _ _) (Ev.yes u.g ?_)
    obtain ⟨⟨k1, k2, k3⟩, _⟩ := cycF_fit h a.length i met [] hl (by omega) (fun x hx => by cases hx)
    refine i_cyc_ev h _ i out (by omega) a.length i met [] hl (by omega) (by rw [← hl]; exact List.countP_le_length) (by simp) ?_ (by omega) (by simp; omega)
    cases hm : met.getD i false with
    | true =>
      rw [cycF_stop hm, outF_skip hm, if_pos rfl]
      exact i_out_ev h d (i + 1) out met (by omega) (by omega) hl
    | false =>
      have hf := cyc_first h hl (by omega : i < a.length) (by rw [hm]; exact Bool.false_ne_true)
      have hne : ¬ (cycF a a.length i met []).2 = [] := by intro e; rw [e] at hf; simp at hf
      rw [outF_add hm, if_neg hne]
      exact i_out_ev h d (i + 1) _ _ (by omega) (by simp; omega) k1
theorem i_CyclesOf_ev (a : List Int) (hm : a.length ≤ maxLen) : Ev (fun k => i_CyclesOf k a) (cycles a) := by
  unfold cycles
  refine Ev.step (fun k => i_CyclesOf_eq k a) (Ev.bind (i_PermOk_ev a hm) (Ev.ite (fun h => Ev.some ?_) (fun h => ?_)))
  · have : permOk a = false := by simpa using h
    rw [this]; rfl
  · have e : permOk a = true := by simpa using h
    have h1 := (perm_fit e).1
    rw [if_pos e]
    refine Ev.yes (by simp) (Ev.yes (by rw [rowMax_eq]; simp; omega) (Ev.yes (by simp) ?_))
    rw [Int.toNat_natCast]
    exact i_out_ev e a.length 0 [] _ (by omega) (by simp) (by simp)
theorem outF_fit {a : List Int} (h : permOk a = true) : ∀ (d i : Nat) (out : List (List Int)) (met : List Bool), i + d = a.length → out.length ≤ i → met.length = a.length → (∀ c ∈ out, c.length ≤ 12 ∧ Ins c) →
    (outF a d i out met).length ≤ a.length ∧ out.length ≤ (outF a d i out met).length ∧ ∀ c ∈ outF a d i out met, c.length ≤ 12 ∧ Ins c
  | 0, i, out, met, hd, ho, hl, hg => ⟨by show out.length ≤ _; omega, Nat.le_refl _, hg⟩
  | d + 1, i, out, met, hd, ho, hl, hg => by
    obtain ⟨h1, _, h3⟩ := perm_fit h
    unfold outF
    split
    · exact outF_fit h d (i + 1) out met (by omega) (by omega) hl hg
    · obtain ⟨⟨k1, k2, k3⟩, _⟩ := cycF_fit h a.length i met [] hl (by omega) (fun x hx => by cases hx)
      obtain ⟨q1, q2, q3⟩ := outF_fit h d (i + 1) (out ++ [(cycF a a.length i met []).2]) _ (by omega) (by simp; omega) k1 (fun c hc => by
        rcases List.mem_append.1 hc with hc | hc
        · exact hg c hc
        · simp at hc; subst hc; exact ⟨by simp at k2; omega, k3⟩)
      rw [List.length_append, List.length_singleton] at q2
      exact ⟨q1, by omega, q3⟩
theorem cycles_fit (a : List Int) : (cycles a).length ≤ 12 ∧ ∀ c ∈ cycles a, c.length ≤ 12 ∧ Ins c := by
  unfold cycles
  split
  · rename_i h
    have h1 := (perm_fit h).1
    obtain ⟨q1, _, q3⟩ := outF_fit h a.length 0 [] (List.replicate a.length false) (by omega) (by simp) (by simp) (fun c hc => by cases hc)
    exact ⟨by omega, q3⟩
  · exact ⟨by simp, fun c hc => by cases hc⟩
def cycB (c : List Int) : ByteArray := ((⟨#[40]⟩ : ByteArray) ++ joinB (c.map itoaB) ⟨#[32]⟩) ++ ⟨#[41]⟩
def lineF : List (List Int) → ByteArray → ByteArray
  | [], acc => acc
  | c :: r, acc => lineF r (acc ++ cycB c)
theorem joinC_size {c : List Int} (h : c.length ≤ 12 ∧ Ins c) : (joinB (c.map itoaB) ⟨#[32]⟩).size ≤ 264 := by
  have := join_len (B := 21) (S := 1) (⟨#[32]⟩ : ByteArray) (by decide) (c.map itoaB) (itoaB_map_size h.2)
  rw [List.length_map] at this
  rw [joinB, strB_size]
  omega
theorem cycB_size {c : List Int} (h : c.length ≤ 12 ∧ Ins c) : (cycB c).size ≤ 266 := by
  have h1 := sz_add (a := (⟨#[40]⟩ : ByteArray)) (m := 1) (by decide) (joinC_size h)
  exact sz_add h1 (n := 1) (by decide)
theorem i_line_ev (cs : List (List Int)) (hl : cs.length ≤ 12) (hg : ∀ c ∈ cs, c.length ≤ 12 ∧ Ins c) : ∀ (r : List (List Int)) (i : Nat) (acc : ByteArray), cs.drop i = r → acc.size ≤ 300 * i → Ev (fun k => i_CyclesLine_l7 k acc (cs.length : Int) (i : Int) cs) (lineF r acc)
  | [], i, acc, h, hs => by
    have q := at_nil h
    refine Ev.step (fun k => i_CyclesLine_l7_eq k _ _ _ _) ?_
    simp only [q.g, cond_false]
    exact Ev.pure _
  | c :: r, i, acc, h, hs => by
    have q := at_cons h (by rw [maxLen_eq]; omega)
    have hlt := q.lt
    have hc := hg c (List.mem_of_mem_drop (h ▸ List.mem_cons_self))
    have sj := joinC_size hc
    have sc := cycB_size hc
    have s0 := sz_add (a := (⟨#[40]⟩ : ByteArray)) (m := 1) (by decide) sj
    have s1 := sz_add hs sc
    refine Ev.step (fun k => i_CyclesLine_l7_eq k _ _ _ _) ?_
    simp only [q.g, q.z, q.n, q.get, q.w, cond_true]
    refine Ev.bind (numbersOf_ev c (by omega) hc.2) (Ev.bind (i_Join_ev _ _ 21 (by simp; omega) (itoaB_map_size hc.2) (by omega) (by decide)) (Ev.yes (sz_ok (m := 1) (by decide) sj (by decide)) (Ev.yes (sz_ok s0 (n := 1) (by decide) (by decide)) (Ev.yes (sz_ok hs sc (by omega)) ?_))))
    exact i_line_ev cs hl hg r (i + 1) (acc ++ cycB c) q.next (by omega)
def cyclesLine (a : List Int) : ByteArray := if permOk a then (if a = [] then ⟨#[40, 41]⟩ else lineF (cycles a) ⟨#[]⟩) else ⟨#[]⟩
theorem lineF_size : ∀ (r : List (List Int)) (acc : ByteArray), acc.size ≤ (lineF r acc).size
  | [], acc => Nat.le_refl _
  | c :: r, acc => by
    have := lineF_size r (acc ++ cycB c)
    rw [ByteArray.size_append] at this
    show _ ≤ (lineF r (acc ++ cycB c)).size
    omega
theorem i_CyclesLine_ev (a : List Int) (hm : a.length ≤ maxLen) : Ev (fun k => i_CyclesLine k a) (cyclesLine a) := by
  unfold cyclesLine
  obtain ⟨f1, f2⟩ := cycles_fit a
  refine Ev.step (fun k => i_CyclesLine_eq k a) (Ev.bind (i_PermOk_ev a hm) (Ev.ite (fun h => Ev.some ?_) (fun h => Ev.ite (fun h2 => Ev.some ?_) (fun h2 => ?_))))
  · have : permOk a = false := by simpa using h
    rw [this]; rfl
  · have e : permOk a = true := by simpa using h
    have : a = [] := by simp at h2; exact h2
    rw [if_pos e, if_pos this]
  · have e : permOk a = true := by simpa using h
    have : ¬ a = [] := by simp at h2; exact h2
    rw [if_pos e, if_neg this]
    exact Ev.bind (i_CyclesOf_ev a hm) (i_line_ev (cycles a) f1 f2 (cycles a) 0 ⟨#[]⟩ rfl (by decide))
end Qq
namespace Qq
open Go Go.Vt Pt
set_option linter.unusedVariables false
set_option linter.unusedSimpArgs false
def formatPicks (xs : List Int) : ByteArray := if xs = [] then ⟨#[45]⟩ else joinB (xs.map itoaB) ⟨#[44]⟩
theorem i_FormatPicks_ev (xs : List Int) (hm : xs.length ≤ 1048576) (hi : Ins xs) : Ev (fun k => i_FormatPicks k xs) (formatPicks xs) := by
  refine Ev.step (fun k => i_FormatPicks_eq k xs) ?_
  unfold formatPicks
  refine Ev.ite (fun h => Ev.some ?_) (fun h => ?_)
  · have : xs = [] := by simp at h; exact h
    rw [if_pos this]
  · have : ¬ xs = [] := by simp at h; exact h
    rw [if_neg this]
    exact Ev.bind (numbersOf_ev xs hm hi) (Ev.bind (i_Join_ev _ _ 21 (by simpa using hm) (itoaB_map_size hi) (by omega) (by show (1 : Nat) ≤ _; omega)) (Ev.pure _))
end Qq
namespace Qq
open Go Go.Vt Pt
set_option linter.unusedVariables false
set_option linter.unusedSimpArgs false
end Qq
namespace Qq
open Go Go.Vt Pt
set_option linter.unusedVariables false
set_option linter.unusedSimpArgs false
set_option linter.unnecessarySimpa false
end Qq
namespace Qq
open Go Go.Vt Pt
set_option linter.unusedVariables false
set_option linter.unusedSimpArgs false
end Qq
namespace Qq
open Go Go.Vt Pt
set_option linter.unusedVariables false
set_option linter.unusedSimpArgs false
end Qq
namespace Qq
open Go Go.Vt Pt
set_option linter.unusedVariables false
set_option linter.unusedSimpArgs false
set_option linter.unnecessarySimpa false
end Qq
namespace Qq
open Go Go.Vt Pt
set_option linter.unusedVariables false
set_option linter.unusedSimpArgs false
set_option linter.unnecessarySimpa false
end Qq
namespace Qq
open Go Go.Vt Pt
set_option linter.unusedVariables false
set_option linter.unusedSimpArgs false
end Qq
namespace Qq
open Go Go.Vt Pt
set_option linter.unusedVariables false
set_option linter.unusedSimpArgs false
end Qq
namespace Qq
open Go Go.Vt Pt
set_option linter.unusedVariables false
set_option linter.unusedSimpArgs false
set_option linter.unnecessarySimpa false
end Qq
namespace Qq
open Go Go.Vt Pt
set_option linter.unusedVariables false
set_option linter.unusedSimpArgs false
set_option linter.unnecessarySimpa false
end Qq
namespace Qq
open Go Go.Vt Pt
set_option linter.unusedVariables false
set_option linter.unusedSimpArgs false
end Qq
namespace Qq
open Go Go.Vt Pt
set_option linter.unusedVariables false
set_option linter.unusedSimpArgs false
set_option linter.unnecessarySimpa false
end Qq
namespace Qq
open Go Go.Vt Pt
set_option linter.unusedVariables false
set_option linter.unusedSimpArgs false
set_option linter.unnecessarySimpa false
end Qq
namespace Qq
open Go Go.Vt Pt
set_option linter.unusedVariables false
set_option linter.unusedSimpArgs false
set_option linter.unnecessarySimpa false
theorem packetOk_ins {p : List Int} (h : packetOk p = true) : Ins p := fun x hx => by
  have := ((packetOk_fit h).2.1 x hx).1
  unfold card at this
  unfold In
  split at this
  · omega
  · split at this <;> omega
end Qq
namespace Qq
open Go Go.Vt Pt
set_option linter.unusedVariables false
set_option linter.unusedSimpArgs false
theorem txt_eq (a b : ByteArray) : (a.toList == b.toList) = decide (a = b) := by
  by_cases h : a = b
  · subst h; simp
  · have : ¬ a.toList = b.toList := fun e => h (by
      rw [ByteArray.toList_eq, ByteArray.toList_eq] at e
      exact ByteArray.ext (Array.ext' e))
    simp [h, this]
theorem big_min (m : Int) (h1 : 1 ≤ m) (h12 : m ≤ 12) : (bif decide ((bif decide ((12 : Int) < m) then (12 : Int) else m) > (1 : Int)) then (bif decide ((12 : Int) < m) then (12 : Int) else m) else (1 : Int)) = m := by
  have e1 : decide ((12 : Int) < m) = false := by simp; omega
  rw [e1, cond_false]
  by_cases h : m > 1
  · have e2 : decide (m > (1 : Int)) = true := by simp [h]
    rw [e2, cond_true]
  · have e2 : decide (m > (1 : Int)) = false := by simp; omega
    rw [e2, cond_false]; omega
theorem MakePacket_ev (code : List Int) (hm : code.length ≤ 9223372036854775807) (n : Int) (hn : n ≤ 1000000) (most : Nat) (h1 : 1 ≤ most) (h12 : most ≤ 12) : ∃ p, Ev (fun k => s_MakePacket k (code, n, (most : Int))) p ∧ Drawn most p := by
  obtain ⟨c, e, hc⟩ := l23New_ev code hm n hn
  obtain ⟨p, c2, e2, hp, _⟩ := l02Draw_ev c hc most h1 h12
  refine ⟨p, Ev.step (fun k => s_MakePacket_eq k code n _) (Ev.bind e ?_), hp⟩
  rw [big_min _ (by omega) (by omega)]
  exact Ev.bind e2 (Ev.pure _)
theorem MakePerm_ev (code : List Int) (hm : code.length ≤ 9223372036854775807) (s : Int) (hs : s ≤ 1000000) (n : Nat) (h1 : 1 ≤ n) (h12 : n ≤ 12) : ∃ p, Ev (fun k => s_MakePerm k (code, s, (n : Int))) p ∧ p.Perm (upTo n) := by
  obtain ⟨c, e, hc⟩ := l23New_ev code hm s hs
  obtain ⟨p, c2, e2, hp, _⟩ := l02Shuffle_ev c hc n h12
  refine ⟨p, Ev.step (fun k => s_MakePerm_eq k code s _) (Ev.bind e ?_), hp⟩
  rw [big_min _ (by omega) (by omega)]
  exact Ev.bind e2 (Ev.pure _)
theorem preOk_of (n : Int) : ∀ (r done : List Int), (done ++ r).Nodup → (∀ x ∈ r, 0 ≤ x ∧ x < n) → preOk n done r = true
  | [], done, _, _ => rfl
  | x :: r, done, hn, h0 => by
    unfold preOk
    have hx : x ∉ done := fun hm => by
      rw [List.nodup_append] at hn
      exact hn.2.2 _ hm _ (by simp) rfl
    have hc : done.contains x = false := by simpa using hx
    rw [hc, preOk_of n r (done ++ [x]) (by simpa using hn) (fun y hy => h0 y (List.mem_cons_of_mem _ hy))]
    have := h0 x (by simp)
    simp [this.1, this.2]
theorem permOk_of {n : Nat} (h12 : n ≤ 12) {a : List Int} (h : a.Perm (upTo n)) : permOk a = true := by
  have hl : a.length = n := by rw [h.length_eq, upTo_len]
  unfold permOk
  rw [hl, preOk_of (n : Int) a [] (by simpa using h.nodup_iff.2 (upTo_nodup n)) (fun x hx => upTo_mem (h.mem_iff.1 hx))]
  simp [h12]
theorem outF_front (a : List Int) : ∀ (d i : Nat) (out : List (List Int)) (met : List Bool), ∃ r, outF a d i out met = out ++ r
  | 0, i, out, met => ⟨[], by simp [outF]⟩
  | d + 1, i, out, met => by
    unfold outF
    split
    · exact outF_front a d (i + 1) out met
    · obtain ⟨r, e⟩ := outF_front a d (i + 1) (out ++ [(cycF a a.length i met []).2]) (cycF a a.length i met []).1
      exact ⟨(cycF a a.length i met []).2 :: r, by rw [e]; simp⟩
theorem cyclesLine_ne {a : List Int} (h : permOk a = true) (hne : a ≠ []) : cyclesLine a ≠ ⟨#[]⟩ := by
  intro e
  unfold cyclesLine at e
  rw [if_pos h, if_neg hne] at e
  obtain ⟨d, hd⟩ : ∃ d, a.length = d + 1 := ⟨a.length - 1, by have := List.length_pos_iff.2 hne; omega⟩
  obtain ⟨c, r, hc⟩ : ∃ c r, cycles a = c :: r := by
    unfold cycles
    rw [if_pos h, hd]
    unfold outF
    rw [if_neg (by simp)]
    obtain ⟨r, e⟩ := outF_front a d 1 ([] ++ [(cycF a a.length 0 (List.replicate (d + 1) false) []).2]) (cycF a a.length 0 (List.replicate (d + 1) false) []).1
    exact ⟨_, r, by rw [e]; rfl⟩
  rw [hc] at e
  have e2 : lineF (c :: r) ⟨#[]⟩ = lineF r (⟨#[]⟩ ++ cycB c) := rfl
  rw [e2] at e
  have := lineF_size r (⟨#[]⟩ ++ cycB c)
  rw [e, ByteArray.size_append] at this
  have h3 : 2 ≤ (cycB c).size := by
    unfold cycB
    rw [ByteArray.size_append, ByteArray.size_append]
    have e3 : (⟨#[40]⟩ : ByteArray).size = 1 := rfl
    have e4 : (⟨#[41]⟩ : ByteArray).size = 1 := rfl
    omega
  have e5 : (⟨#[]⟩ : ByteArray).size = 0 := rfl
  omega
theorem dec_pos (u : Nat) : 0 < (Lib.decDigits u).length := by
  by_cases h : u < 10
  · rw [dec_small h]; simp
  · rw [dec_big h]; simp
theorem itoaB_pos (n : Int) : 0 < (itoaB n).size := by
  rw [itoaB, strB_size]
  unfold Lib.itoa
  split
  · simp
  · exact dec_pos _
theorem cardB_pos (x : Int) : 0 < (cardB x).size := by
  have := itoaB_pos (card x)
  unfold cardB
  split
  · rw [ByteArray.size_append]; omega
  · exact this
theorem formatPacket_nonil {p : List Int} (h : packetOk p = true) (h1 : 1 ≤ p.length) : formatPacket p ≠ ⟨#[]⟩ := by
  intro e
  unfold formatPacket at e
  cases p with
  | nil => simp at h1
  | cons x r =>
    rw [if_pos h, if_neg (by simp)] at e
    have hs := congrArg ByteArray.size e
    rw [joinB, strB_size] at hs
    have hx := cardB_pos x
    rw [← bytes_len] at hx
    unfold joinL at hs
    rw [List.map_cons, List.map_cons, Lib.join_cons, List.length_append] at hs
    have e5 : (⟨#[]⟩ : ByteArray).size = 0 := rfl
    omega
theorem ShuffleLine3_ev : Ev (fun k => i_ShuffleLine k [(0 : Int), (1 : Int), (1 : Int)]) (⟨#[79, 73, 73]⟩ : ByteArray) := by
  refine Ev.step (fun k => i_ShuffleLine_eq k _) ?_
  refine Ev.step (fun k => i_ShuffleLine_l3_eq k _ _ _ _) (Ev.yes rfl (Ev.yes rfl (Ev.yes rfl (Ev.yes rfl (Ev.yes (by decide) ?_)))))
  refine Ev.step (fun k => i_ShuffleLine_l3_eq k _ _ _ _) (Ev.yes (by decide) (Ev.yes (by decide) (Ev.yes (by decide) (Ev.no (by decide) (Ev.yes (by decide) ?_)))))
  refine Ev.step (fun k => i_ShuffleLine_l3_eq k _ _ _ _) (Ev.yes (by decide) (Ev.yes (by decide) (Ev.yes (by decide) (Ev.no (by decide) (Ev.yes (by decide) ?_)))))
  refine Ev.step (fun k => i_ShuffleLine_l3_eq k _ _ _ _) (Ev.no (by decide) (Ev.no ?_ (Ev.some (by decide))))
  rw [txt_eq]
  decide
theorem itoa_small {n : Nat} (h : n < 10) : itoaB (n : Int) = strB [UInt8.ofNat (48 + n)] := by
  unfold itoaB Lib.itoa
  rw [if_neg (by omega), Int.toNat_natCast, dec_small h]
theorem FnReports_ev (code : List Int) (f0 : Fits (.slice (.int .u8)) code) : Ev (fun k => w_FnReports k code) true := by
  have hm : code.length ≤ 9223372036854775807 := by have := f0.1; rw [maxLen_eq] at this; exact this
  refine Ev.step (fun k => w_FnReports_eq k code) (Ev.ite (fun h => Ev.pure _) (fun h => ?_))
  obtain ⟨p, e, hp⟩ := MakePacket_ev code hm 0 (by omega) 8 (by omega) (by omega)
  have h1 := hp.pos
  have h8 := hp.le
  obtain ⟨a, e2, ha⟩ := MakePerm_ev code hm 20 (by omega) p.length h1 (by omega)
  have hpm : p.length ≤ maxLen := by rw [maxLen_eq]; omega
  have hpi := packetOk_ins hp.ok
  have hal : a.length = p.length := by rw [ha.length_eq, upTo_len]
  have ham : a.length ≤ maxLen := by rw [hal]; exact hpm
  have hne := formatPacket_nonil hp.ok h1
  have hsz : (formatPacket p).size ≤ 12 * 23 := by
    unfold formatPacket
    rw [if_pos hp.ok]
    split
    · decide
    · have := join_len (B := 22) (S := 1) (⟨#[32]⟩ : ByteArray) (by decide) (p.map cardB) (cardB_map_size p)
      rw [joinB, strB_size]
      rw [List.length_map] at this
      have : p.length * (22 + 1) ≤ 12 * 23 := Nat.mul_le_mul (by omega) (by omega)
      omega
  have es3 : sceneLine (p, 3) = formatPacket p ++ (⟨#[32, 110, 111, 116, 101, 100, 32, 51]⟩ : ByteArray) := by
    unfold sceneLine
    rw [if_pos hp.ok, if_pos (by simp)]
    have e3 : itoaB 3 = strB [51] := itoa_small (n := 3) (by omega)
    rw [e3, ByteArray.append_assoc]
    rfl
  have es1 : sceneLine (p, -1) = formatPacket p := by
    unfold sceneLine
    rw [if_pos hp.ok, if_neg (by simp)]
  refine Ev.bind e (Ev.bind e2 (Ev.bind (i_SceneLine_ev (p, 3) hpm hpi) (Ev.bind (i_FormatPacket_ev p hpm hpi) ?_)))
  have e8 : (⟨#[32, 110, 111, 116, 101, 100, 32, 51]⟩ : ByteArray).size = 8 := rfl
  refine Ev.yes (by rw [e8]; simp; omega) (Ev.yes (by rw [es3, txt_eq]; simp) (Ev.bind (i_SceneLine_ev (p, -1) hpm hpi) (Ev.bind (i_FormatPacket_ev p hpm hpi) ?_)))
  refine Ev.yes (by rw [es1, txt_eq]; simp) (Ev.bind (i_FormatPacket_ev p hpm hpi) (Ev.yes (by rw [txt_eq]; simp [hne]) (Ev.bind (i_CyclesLine_ev a ham) ?_)))
  have hcl := cyclesLine_ne (permOk_of (by omega) ha) (fun e => by rw [e] at hal; simp at hal; omega)
  refine Ev.yes (by rw [txt_eq]; simp [hcl]) (Ev.bind ShuffleLine3_ev (Ev.yes (by rw [txt_eq]; simp) (Ev.bind (i_FormatPicks_ev [2, 0] (by simp) (by intro x hx; simp at hx; unfold In; omega)) (Ev.some ?_))))
  have ep : formatPicks [2, 0] = (⟨#[50, 44, 48]⟩ : ByteArray) := by
    unfold formatPicks
    rw [if_neg (by simp)]
    have e3 : itoaB 2 = strB [50] := itoa_small (n := 2) (by omega)
    have e4 : itoaB 0 = strB [48] := itoa_small (n := 0) (by omega)
    rw [List.map_cons, List.map_cons, List.map_nil, e3, e4]
    rfl
  rw [ep, txt_eq]; simp
end Qq
