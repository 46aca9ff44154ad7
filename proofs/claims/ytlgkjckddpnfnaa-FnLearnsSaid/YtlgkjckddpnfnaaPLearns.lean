/-
  The law FnLearns comes to true: a move keeps the number of possibilities, and a choice leads to the results of all of them.
  Conditions: texts of bytes are such as a machine bears.
-/
import Derived.Test.YtlgkjckddpnfnaaPt
import Derived.Test.YtlgkjckddpnfnaaXvzd
import Derived.Laws.BitsLemmas
import Derived.Test.YtlgkjckddpnfnaaXvzj
import Derived.Test.YtlgkjckddpnfnaaXvzk
import Derived.Test.YtlgkjckddpnfnaaCmf
import Derived.Lib.ItoaLen
namespace Go.Vt
end Go.Vt
namespace Qq
open Go Go.Vt
set_option linter.unusedVariables false
set_option linter.unusedSimpArgs false
theorem maxLen_eq : maxLen = 9223372036854775807 := by unfold maxLen; decide
theorem rowMax_eq : rowMax = 4294967296 := rfl
theorem wrap_id {x : Int} (h1 : -9223372036854775808 ≤ x) (h2 : x ≤ 9223372036854775807) : IntKind.i64.wrap x = x := by
  rw [IntKind.wrap_i64]; omega
/-- Numbers of a machine's kind. -/
def In (x : Int) : Prop := -9223372036854775808 ≤ x ∧ x ≤ 9223372036854775807
theorem In.of_fits {x : Int} (h : Fits (.int .i64) x) : In x := by
  have h' : IntKind.i64.min ≤ x ∧ x ≤ IntKind.i64.max := h
  have e1 : IntKind.i64.min = -9223372036854775808 := by decide
  have e2 : IntKind.i64.max = 9223372036854775807 := by decide
  unfold In; rw [e1, e2] at h'; exact h'
def Ins (xs : List Int) : Prop := ∀ x ∈ xs, In x
structure AtCons {α : Type} (xs : List α) (i : Nat) (y : α) (rest : List α) : Prop where
  lt : i < xs.length
  g : decide ((i : Int) < (xs.length : Int)) = true
  z : decide ((0 : Int) ≤ (i : Int)) = true
  n : decide ((i : Int).toNat < xs.length) = true
  get : ∀ d, xs.getD (i : Int).toNat d = y
  w : IntKind.i64.wrap ((i : Int) + 1) = ((i + 1 : Nat) : Int)
  next : xs.drop (i + 1) = rest
  mem : y ∈ xs
  gt : ∀ d, xs.getD i d = y
  le : decide ((i : Int) ≤ (xs.length : Int)) = true
theorem at_cons {α : Type} {xs : List α} {i : Nat} {y : α} {rest : List α} (h : xs.drop i = y :: rest) (hm : xs.length ≤ maxLen) : AtCons xs i y rest := by
  rw [maxLen_eq] at hm
  have lt : i < xs.length := by
    rcases Nat.lt_or_ge i xs.length with h1 | h1
    · exact h1
    · rw [List.drop_eq_nil_of_le h1] at h; cases h
  have e := List.drop_eq_getElem_cons lt
  rw [e] at h
  have hy : xs[i] = y := by injection h
  refine ⟨lt, by simp; omega, by simp, by simp; omega, fun d => by simp [List.getD, lt, hy], by rw [wrap_id (by omega) (by omega)]; simp, by injection h, by rw [← hy]; exact List.getElem_mem lt, fun d => by simp [List.getD, lt, hy], by simp; omega⟩
structure AtNil {α : Type} (xs : List α) (i : Nat) : Prop where
  ge : xs.length ≤ i
  g : decide ((i : Int) < (xs.length : Int)) = false
theorem at_nil {α : Type} {xs : List α} {i : Nat} (h : xs.drop i = []) : AtNil xs i := by
  have ge : xs.length ≤ i := List.drop_eq_nil_iff.1 h
  exact ⟨ge, by simp; omega⟩
end Qq
namespace Qq
open Go Go.Vt Pt
set_option linter.unusedVariables false
set_option linter.unusedSimpArgs false
abbrev Cur : Type := List Int × Int × Int
def CurOk (c : Cur) : Prop := c.1.length ≤ 9223372036854775807 ∧ 0 ≤ c.2.1 ∧ c.2.1 ≤ c.1.length
theorem and255 (x : BitVec 64) : (x &&& BitVec.ofInt 64 255).toNat ≤ 255 := by
  rw [BitVec.toNat_and]
  exact Nat.and_le_right
theorem wrap255 (x : BitVec IntKind.i64.bits) : 0 ≤ IntKind.i64.wrap (((x &&& BitVec.ofInt IntKind.i64.bits (255 : Int)).toNat : Nat) : Int) ∧ IntKind.i64.wrap (((x &&& BitVec.ofInt IntKind.i64.bits (255 : Int)).toNat : Nat) : Int) ≤ 255 := by
  have h : (x &&& BitVec.ofInt IntKind.i64.bits (255 : Int)).toNat ≤ 255 := and255 x
  rw [wrap_id (by omega) (by omega)]
  omega
theorem l01Byte_ev (c : Cur) (h : CurOk c) : ∃ (y : Int) (c' : Cur), Ev (fun k => s_l01Byte k c) (y, c') ∧ 0 ≤ y ∧ y ≤ 255 ∧ CurOk c' := by
  obtain ⟨h1, h2, h3⟩ := h
  by_cases hl : c.2.1 < c.1.length
  · refine ⟨_, _, Ev.step (fun k => s_l01Byte_eq k c) (Ev.yes (decide_eq_true hl) (Ev.yes (decide_eq_true h2) (Ev.yes (decide_eq_true hl) (Ev.pure _)))), (wrap255 _).1, (wrap255 _).2, ?_⟩
    refine ⟨h1, ?_, ?_⟩ <;> (dsimp only; rw [wrap_id (by omega) (by omega)]; omega)
  · exact ⟨_, _, Ev.step (fun k => s_l01Byte_eq k c) (Ev.no (decide_eq_false hl) (Ev.pure _)), (wrap255 _).1, (wrap255 _).2, ⟨h1, h2, h3⟩⟩
theorem tmod_bound {a n : Int} (ha : 0 ≤ a) (hn : 0 < n) : 0 ≤ a.tmod n ∧ a.tmod n < n := by
  rw [Int.tmod_eq_emod_of_nonneg ha]
  exact ⟨Int.emod_nonneg _ (by omega), Int.emod_lt_of_pos _ hn⟩
theorem l01Below_ev (c : Cur) (h : CurOk c) (n : Int) : ∃ (y : Int) (c' : Cur), Ev (fun k => s_l01Below k (c, n)) (y, c') ∧ 0 ≤ y ∧ (0 < n → y < n) ∧ CurOk c' := by
  by_cases h0 : n ≤ 0
  · exact ⟨0, c, Ev.step (fun k => s_l01Below_eq k c n) (Ev.yes (decide_eq_true h0) (Ev.pure _)), Int.le_refl _, fun h => by omega, h⟩
  · have hn : 0 < n := by omega
    by_cases h1 : n ≤ 256
    · obtain ⟨y, c', e, a1, a2, a3⟩ := l01Byte_ev c h
      have hb := tmod_bound a1 hn
      exact ⟨_, _, Ev.step (fun k => s_l01Below_eq k c n) (Ev.no (decide_eq_false h0) (Ev.yes (decide_eq_true h1) (Ev.bind e (Ev.yes (by simp; omega) (Ev.pure _))))), hb.1, fun _ => hb.2, a3⟩
    · obtain ⟨y, c1, e, a1, a2, a3⟩ := l01Byte_ev c h
      obtain ⟨z, c2, f, b1, b2, b3⟩ := l01Byte_ev c1 a3
      obtain ⟨u, c3, g, d1, d2, d3⟩ := l01Byte_ev c2 b3
      obtain ⟨v, c4, i, f1, f2, f3⟩ := l01Byte_ev c3 d3
      have w1 : IntKind.i64.wrap (y * (16777216 : Int)) = y * 16777216 := wrap_id (by omega) (by omega)
      have w2 : IntKind.i64.wrap (z * (65536 : Int)) = z * 65536 := wrap_id (by omega) (by omega)
      have w3 : IntKind.i64.wrap (u * (256 : Int)) = u * 256 := wrap_id (by omega) (by omega)
      have hnn : 0 ≤ IntKind.i64.wrap ((IntKind.i64.wrap ((IntKind.i64.wrap ((IntKind.i64.wrap (y * (16777216 : Int))) + (IntKind.i64.wrap (z * (65536 : Int))))) + (IntKind.i64.wrap (u * (256 : Int))))) + v) := by
        rw [w1, w2, w3, wrap_id (x := y * 16777216 + z * 65536) (by omega) (by omega), wrap_id (x := y * 16777216 + z * 65536 + u * 256) (by omega) (by omega), wrap_id (by omega) (by omega)]
        omega
      have hb := tmod_bound hnn hn
      exact ⟨_, _, Ev.step (fun k => s_l01Below_eq k c n) (Ev.no (decide_eq_false h0) (Ev.no (decide_eq_false h1) (Ev.bind e (Ev.bind f (Ev.bind g (Ev.bind i (Ev.yes (by simp; omega) (Ev.pure _)))))))), hb.1, fun _ => hb.2, f3⟩
theorem l01Once_ev (c : Cur) (h : CurOk c) (n : Int) : ∃ (b : Bool) (c' : Cur), Ev (fun k => s_l01Once k (c, n)) (b, c') ∧ CurOk c' := by
  obtain ⟨y, c', e, _, _, a3⟩ := l01Below_ev c h n
  exact ⟨_, _, Ev.step (fun k => s_l01Once_eq k c n) (Ev.bind e (Ev.pure _)), a3⟩
theorem l01New_l3_ev (code : List Int) (hm : code.length ≤ 9223372036854775807) : ∀ (r : List Int) (i : Nat) (h : Int), code.drop i = r → ∃ h' : Int, Ev (fun k => s_l01New_l3 k code h (i : Int)) (code, ((0 : Int), h'))
  | [], i, h, hr => by
    have a := at_nil hr
    exact ⟨h, Ev.step (fun k => s_l01New_l3_eq k _ _ _) (Ev.no a.g (Ev.pure _))⟩
  | x :: r, i, h, hr => by
    have a := at_cons hr (by rw [maxLen_eq]; exact hm)
    by_cases h4 : (i : Int) < 4000
    · obtain ⟨h', ih⟩ := l01New_l3_ev code hm r (i + 1) _ a.next
      refine ⟨h', Ev.step (fun k => s_l01New_l3_eq k _ _ _) (Ev.yes a.g (Ev.yes (decide_eq_true h4) (Ev.yes a.z (Ev.yes a.g ?_))))⟩
      rw [a.w]
      exact ih
    · exact ⟨h, Ev.step (fun k => s_l01New_l3_eq k _ _ _) (Ev.yes a.g (Ev.no (decide_eq_false h4) (Ev.pure _)))⟩
theorem l01New_ev (code : List Int) (hm : code.length ≤ 9223372036854775807) : ∃ c : Cur, Ev (fun k => s_l01New k code) c ∧ CurOk c := by
  obtain ⟨h', e⟩ := l01New_l3_ev code hm _ 0 (IntKind.i64.wrap ((2070 : Int) + (code.length : Int))) rfl
  exact ⟨_, Ev.step (fun k => s_l01New_eq k code) e, hm, Int.le_refl _, by simp⟩
theorem l23New_l3_ev (n : Int) (hn : n ≤ 1000000) : ∀ (m : Nat) (i : Int) (c : Cur), 0 ≤ i → n ≤ i + m → CurOk c → ∃ c' : Cur, Ev (fun k => s_l23New_l3 k n i c.1 c.2.1 c.2.2) c' ∧ CurOk c'
  | 0, i, c, h0, hm, hc => ⟨c, Ev.step (fun k => s_l23New_l3_eq k _ _ _ _ _) (Ev.no (decide_eq_false (by omega)) (Ev.pure _)), hc⟩
  | m + 1, i, c, h0, hm, hc => by
    by_cases h : i < n
    · obtain ⟨y, c1, e, _, _, a3⟩ := l01Byte_ev c hc
      obtain ⟨c2, e2, hc2⟩ := l23New_l3_ev n hn m (i + 1) c1 (by omega) (by omega) a3
      refine ⟨c2, Ev.step (fun k => s_l23New_l3_eq k _ _ _ _ _) (Ev.yes (decide_eq_true h) (Ev.bind e ?_)), hc2⟩
      rw [wrap_id (by omega) (by omega)]
      exact e2
    · exact ⟨c, Ev.step (fun k => s_l23New_l3_eq k _ _ _ _ _) (Ev.no (decide_eq_false h) (Ev.pure _)), hc⟩
theorem l23New_ev (code : List Int) (hm : code.length ≤ 9223372036854775807) (n : Int) (hn : n ≤ 1000000) : ∃ c : Cur, Ev (fun k => s_l23New k (code, n)) c ∧ CurOk c := by
  obtain ⟨c, e, hc⟩ := l01New_ev code hm
  obtain ⟨c2, e2, hc2⟩ := l23New_l3_ev n hn n.toNat 0 c (by omega) (by omega) hc
  exact ⟨c2, Ev.step (fun k => s_l23New_eq k code n) (Ev.bind e e2), hc2⟩
end Qq
namespace Qq
open Go Go.Vt Pt
set_option linter.unusedVariables false
set_option linter.unusedSimpArgs false
theorem l01In_ev (x lo hi : Int) : Ev (fun k => s_l01In k (x, lo, hi)) (decide (lo ≤ x) && decide (x ≤ hi)) := by
  refine Ev.step (fun k => s_l01In_eq k x lo hi) (Ev.ite (fun h => ?_) (fun h => ?_))
  · have h' : lo ≤ x := by simpa using h
    exact Ev.some (by simp [h'])
  · have h' : ¬ lo ≤ x := by simpa using h
    exact Ev.some (by simp [h'])
end Qq
namespace Qq
open Go Go.Vt Pt
set_option linter.unusedVariables false
set_option linter.unusedSimpArgs false
theorem l02Has_l2_ev (x : Int) (xs : List Int) (hm : xs.length ≤ maxLen) : ∀ (r : List Int) (i : Nat), xs.drop i = r → Ev (fun k => s_l02Has_l2 k x xs (xs.length : Int) (i : Int)) (r.contains x)
  | [], i, h => by
    have a := at_nil h
    refine Ev.step (fun k => s_l02Has_l2_eq k x xs _ i) ?_
    simp only [a.g, cond_false]
    exact Ev.pure _
  | y :: r, i, h => by
    have a := at_cons h hm
    refine Ev.step (fun k => s_l02Has_l2_eq k x xs _ i) ?_
    simp only [a.g, a.z, a.get, a.w, cond_true]
    refine Ev.ite (fun h => Ev.some ?_) (fun h => (l02Has_l2_ev x xs hm r (i + 1) a.next).to ?_)
    · have : y = x := by simpa using h
      simp [this]
    · have : ¬ y = x := by simpa using h
      have h2 : ¬ x = y := fun e => this e.symm
      simp [h2]
theorem l02Has_ev (xs : List Int) (x : Int) (hm : xs.length ≤ maxLen) : Ev (fun k => s_l02Has k (xs, x)) (xs.contains x) :=
  Ev.step (fun k => s_l02Has_eq k xs x) (l02Has_l2_ev x xs hm xs 0 rfl)
/-- Where x lies first, or -1. -/
def idx (x : Int) : Nat → List Int → Int
  | _, [] => -1
  | i, y :: r => if x = y then (i : Int) else idx x (i + 1) r
theorem idx_has (x : Int) : ∀ (r : List Int) (i : Nat), decide (idx x i r ≥ 0) = r.contains x
  | [], i => by simp [idx]
  | y :: r, i => by
    unfold idx
    by_cases h : x = y
    · simp [h]
    · rw [if_neg h, idx_has x r (i + 1)]; simp [h]
theorem Index_int_l2_ev (x : Int) (xs : List Int) (hm : xs.length ≤ maxLen) : ∀ (r : List Int) (i : Nat), xs.drop i = r → Ev (fun k => slices_Index_int_l2 k xs x (xs.length : Int) (i : Int)) (idx x i r)
  | [], i, h => by
    have a := at_nil h
    refine Ev.step (fun k => slices_Index_int_l2_eq k xs x _ i) ?_
    simp only [a.g, cond_false]
    exact Ev.pure _
  | y :: r, i, h => by
    have a := at_cons h hm
    refine Ev.step (fun k => slices_Index_int_l2_eq k xs x _ i) ?_
    simp only [a.g, a.z, a.get, a.w, cond_true]
    unfold idx
    refine Ev.ite (fun h => Ev.some ?_) (fun h => (Index_int_l2_ev x xs hm r (i + 1) a.next).to ?_)
    · have : x = y := by simpa using h
      simp [this]
    · have : ¬ x = y := by simpa using h
      rw [if_neg this]
theorem Index_int_ev (xs : List Int) (x : Int) (hm : xs.length ≤ maxLen) : Ev (fun k => slices_Index_int k (xs, x)) (idx x 0 xs) :=
  Ev.step (fun k => slices_Index_int_eq k xs x) (Index_int_l2_ev x xs hm xs 0 rfl)
theorem Contains_int_ev (xs : List Int) (x : Int) (hm : xs.length ≤ maxLen) : Ev (fun k => slices_Contains_int k (xs, x)) (xs.contains x) :=
  Ev.step (fun k => slices_Contains_int_eq k xs x) (Ev.bind (Index_int_ev xs x hm) (Ev.some (idx_has x xs 0)))
end Qq
namespace Qq
open Go Go.Vt Pt
set_option linter.unusedVariables false
set_option linter.unusedSimpArgs false
theorem take_next {α : Type} {xs : List α} {i : Nat} {y : α} {r : List α} (h : xs.drop i = y :: r) : xs.take (i + 1) = xs.take i ++ [y] := by
  have lt : i < xs.length := by
    rcases Nat.lt_or_ge i xs.length with h1 | h1
    · exact h1
    · rw [List.drop_eq_nil_of_le h1] at h; cases h
  rw [List.drop_eq_getElem_cons lt] at h
  rw [List.take_succ_eq_append_getElem lt]
  injection h with h1 h2
  rw [h1]
theorem nodup_len : ∀ (n : Nat) (l : List Int), l.Nodup → (∀ x ∈ l, 0 ≤ x ∧ x < (n : Int)) → l.length ≤ n
  | 0, l, _, h => by
    cases l with
    | nil => simp
    | cons x l => have := h x (by simp); omega
  | n + 1, l, hd, h => by
    have h1 := nodup_len n (l.erase (n : Int)) (hd.erase _) (fun x hx => by
      have hx' := (hd.mem_erase_iff).1 hx
      have := h x hx'.2
      have : x ≠ (n : Int) := hx'.1
      omega)
    have h2 := List.length_erase (a := (n : Int)) (l := l)
    split at h2 <;> omega
end Qq
namespace Qq
open Go Go.Vt Pt
set_option linter.unusedVariables false
set_option linter.unusedSimpArgs false
def card (x : Int) : Int := if 0 ≤ x ∧ x ≤ 11 then x else if -12 ≤ x ∧ x ≤ -1 then -1 - x else -1
theorem card_lt (x : Int) : -1 ≤ card x ∧ card x ≤ 11 := by unfold card; split; · omega
                                                            split <;> omega
theorem s_CardOf_ev (x : Int) : Ev (fun k => s_CardOf k x) (card x) := by
  refine Ev.step (fun k => s_CardOf_eq k x) (Ev.bind (l01In_ev _ _ _) (Ev.ite (fun h => Ev.some ?_) (fun h => Ev.bind (l01In_ev _ _ _) (Ev.ite (fun h' => ?_) (fun h' => Ev.some ?_)))))
  · have : 0 ≤ x ∧ x ≤ 11 := by simpa using h
    simp [card, this]
  · have h1 : ¬ (0 ≤ x ∧ x ≤ 11) := by simp at h; omega
    have h2 : -12 ≤ x ∧ x ≤ -1 := by simpa using h'
    rw [wrap_id (by omega) (by omega)]
    exact Ev.some (by unfold card; rw [if_neg h1, if_pos h2])
  · have h1 : ¬ (0 ≤ x ∧ x ≤ 11) := by simp at h; omega
    have h2 : ¬ (-12 ≤ x ∧ x ≤ -1) := by simp at h'; omega
    unfold card; rw [if_neg h1, if_neg h2]
theorem i_CardOf_ev (x : Int) (hx : In x) : Ev (fun k => i_CardOf k x) (card x) := by
  obtain ⟨a, b⟩ := hx
  refine Ev.step (fun k => i_CardOf_eq k x) ?_
  refine Ev.ite (fun h => ?_) (fun h => ?_)
  · have h1 : x < 0 := by simpa using h
    rw [wrap_id (by omega) (by omega)]
    have h2 : ¬ (0 ≤ x ∧ x ≤ 11) := by omega
    refine Ev.ite (fun h' => Ev.some ?_) (fun h' => Ev.some ?_)
    · have h3 : ¬ (-12 ≤ x ∧ x ≤ -1) := by simp at h'; omega
      unfold card; rw [if_neg h2, if_neg h3]
    · have h3 : (-12 ≤ x ∧ x ≤ -1) := by simp at h'; omega
      unfold card; rw [if_neg h2, if_pos h3]
  · have h1 : ¬ x < 0 := by simpa using h
    have h3 : ¬ (-12 ≤ x ∧ x ≤ -1) := by omega
    refine Ev.ite (fun h' => Ev.some ?_) (fun h' => Ev.some ?_)
    · have h2 : ¬ (0 ≤ x ∧ x ≤ 11) := by simp at h'; omega
      unfold card; rw [if_neg h2, if_neg h3]
    · have h2 : (0 ≤ x ∧ x ≤ 11) := by simp at h'; omega
      unfold card; rw [if_pos h2]
def pk : List Int → List Int → Bool
  | _, [] => true
  | done, x :: r => decide (0 ≤ card x) && (!(done.contains (card x)) && pk (done ++ [card x]) r)
def packetOk (p : List Int) : Bool := pk [] p
theorem pk_nodup : ∀ (r done : List Int), done.Nodup → pk done r = true → (done ++ r.map card).Nodup ∧ ∀ x ∈ r, 0 ≤ card x
  | [], done, hd, h => by simp [hd]
  | x :: r, done, hd, h => by
    unfold pk at h
    simp only [Bool.and_eq_true, decide_eq_true_eq, Bool.not_eq_true'] at h
    obtain ⟨h1, h3, h4⟩ := h
    have hx : card x ∉ done := by simpa using h3
    obtain ⟨k1, k2⟩ := pk_nodup r (done ++ [card x]) (by
      rw [List.nodup_append]
      exact ⟨hd, by simp, fun a ha b hb e => by simp at hb; subst hb; subst e; exact hx ha⟩) h4
    refine ⟨by simpa using k1, fun y hy => ?_⟩
    rcases List.mem_cons.1 hy with rfl | hy
    · exact h1
    · exact k2 y hy
theorem packetOk_fit {p : List Int} (h : packetOk p = true) : (p.map card).Nodup ∧ (∀ x ∈ p, 0 ≤ card x ∧ card x ≤ 11) ∧ p.length ≤ 12 := by
  obtain ⟨k1, k2⟩ := pk_nodup p [] (by simp) h
  have k1' : (p.map card).Nodup := by simpa using k1
  have k3 := nodup_len 12 (p.map card) k1' (fun x hx => by
    obtain ⟨y, hy, rfl⟩ := List.mem_map.1 hx
    have := k2 y hy
    have := card_lt y
    omega)
  exact ⟨k1', fun x hx => ⟨k2 x hx, (card_lt x).2⟩, by simpa using k3⟩
theorem s_PacketOk_l5_ev (xs : List Int) (hm : xs.length ≤ 12) : ∀ (r : List Int) (i : Nat) (done : List Int), xs.drop i = r → done.length = i → Ev (fun k => s_PacketOk_l5 k xs (xs.length : Int) (i : Int) done) (pk done r)
  | [], i, done, h, hd => by
    have a := at_nil h
    refine Ev.step (fun k => s_PacketOk_l5_eq k _ _ _ _) ?_
    simp only [a.g, cond_false]
    exact Ev.pure _
  | x :: r, i, done, h, hd => by
    have a := at_cons h (by rw [maxLen_eq]; omega)
    have hlt := a.lt
    refine Ev.step (fun k => s_PacketOk_l5_eq k _ _ _ _) ?_
    simp only [a.g, a.z, a.get, a.w, cond_true]
    unfold pk
    refine Ev.bind (s_CardOf_ev x) (Ev.ite (fun c => Ev.some ?_) (fun c => Ev.bind (l02Has_ev done (card x) (by rw [maxLen_eq]; omega)) (Ev.ite (fun c2 => Ev.some ?_) (fun c2 => Ev.yes (by rw [rowMax_eq]; simp; omega) ?_))))
    · have : ¬ 0 ≤ card x := by simpa using c
      simp [this]
    · simp only [c2, Bool.not_true, Bool.false_and, Bool.and_false]
    · have e1 : decide (0 ≤ card x) = true := by simpa using c
      rw [e1, c2]
      exact s_PacketOk_l5_ev xs hm r (i + 1) _ a.next (by simp [hd])
theorem s_PacketOk_ev (p : List Int) (hm : p.length ≤ maxLen) : Ev (fun k => s_PacketOk k p) (packetOk p) := by
  refine Ev.step (fun k => s_PacketOk_eq k p) (Ev.ite (fun h => Ev.some ?_) (fun h => ?_))
  · symm
    rw [Bool.eq_false_iff]
    intro hp
    have := (packetOk_fit hp).2.2
    simp at h; omega
  · exact s_PacketOk_l5_ev p (by simp at h; omega) p 0 [] rfl rfl
/-- The cards that were met. -/
def metL (done : List Int) : List Bool := (List.range 12).map fun (c : Nat) => done.contains (c : Int)
theorem metL_len (done : List Int) : (metL done).length = 12 := by simp [metL]
theorem metL_get (done : List Int) (c : Nat) (h : c < 12) (d : Bool) : (metL done).getD c d = done.contains (c : Int) := by
  simp [metL, List.getD, h]
theorem metL_set (done : List Int) (c : Nat) (h : c < 12) : (metL done).set c true = metL (done ++ [(c : Int)]) := by
  apply List.ext_getElem?
  intro x
  rw [List.getElem?_set]
  by_cases hx : x < 12
  · by_cases e : c = x
    · subst e; simp [metL, h]
    · have : ¬ x = c := fun h => e h.symm
      simp [metL, hx, e, this]; intro h; omega
  · rw [if_neg (by omega), List.getElem?_eq_none (by rw [metL_len]; omega), List.getElem?_eq_none (by rw [metL_len]; omega)]
theorem i_PacketOk_l3_ev (xs : List Int) (hm : xs.length ≤ maxLen) (hi : Ins xs) : ∀ (r : List Int) (i : Nat) (done : List Int), xs.drop i = r → Ev (fun k => i_PacketOk_l3 k xs (xs.length : Int) (i : Int) (metL done)) (pk done r)
  | [], i, done, h => by
    have a := at_nil h
    refine Ev.step (fun k => i_PacketOk_l3_eq k _ _ _ _) ?_
    simp only [a.g, cond_false]
    exact Ev.pure _
  | x :: r, i, done, h => by
    have a := at_cons h hm
    refine Ev.step (fun k => i_PacketOk_l3_eq k _ _ _ _) ?_
    simp only [a.g, a.z, a.get, a.w, cond_true]
    unfold pk
    refine Ev.bind (i_CardOf_ev x (hi x a.mem)) (Ev.ite (fun c => Ev.some ?_) (fun c => ?_))
    · have : ¬ 0 ≤ card x := by simpa using c
      simp [this]
    · have hc : 0 ≤ card x := by simpa using c
      have hc2 := (card_lt x).2
      have en : card x = ((card x).toNat : Int) := by omega
      have g1 : decide (0 ≤ card x) = true := by simp [hc]
      have g2 : decide (card x < ((metL done).length : Int)) = true := by rw [metL_len]; simp; omega
      have g3 : decide ((card x).toNat < (metL done).length) = true := by rw [metL_len]; simp; omega
      have g4 : (Nat.beq (metL done).length 12 && true) = true := by rw [metL_len]; rfl
      have g5 := metL_get done (card x).toNat (by omega) false
      rw [← en] at g5
      have g6 := metL_set done (card x).toNat (by omega)
      rw [← en] at g6
      simp only [g1, g2, g3, g4, g5, g6, cond_true, Bool.true_and]
      refine Ev.ite (fun c2 => Ev.some ?_) (fun c2 => ?_)
      · rw [c2]; rfl
      · rw [c2]
        exact i_PacketOk_l3_ev xs hm hi r (i + 1) _ a.next
theorem i_PacketOk_ev (p : List Int) (hm : p.length ≤ maxLen) (hi : Ins p) : Ev (fun k => i_PacketOk k p) (packetOk p) :=
  Ev.step (fun k => i_PacketOk_eq k p) (i_PacketOk_l3_ev p hm hi p 0 [] rfl)
def posF (c : Int) : Nat → List Int → Int
  | _, [] => -1
  | i, y :: r => if card y = c then (i : Int) else posF c (i + 1) r
/-- Where a card lies, or -1. -/
def pos (p : List Int) (c : Int) : Int := if c < 0 then -1 else posF c 0 p
theorem i_PosFunc_l2_ev (c : Int) (xs : List Int) (hm : xs.length ≤ maxLen) (hi : Ins xs) : ∀ (r : List Int) (i : Nat), xs.drop i = r → Ev (fun k => slices_IndexFunc_int_of_i_PositionOf_1_l2 k xs c (xs.length : Int) (i : Int)) (posF c i r)
  | [], i, h => by
    have a := at_nil h
    refine Ev.step (fun k => slices_IndexFunc_int_of_i_PositionOf_1_l2_eq k _ _ _ _) ?_
    simp only [a.g, cond_false]
    exact Ev.pure _
  | x :: r, i, h => by
    have a := at_cons h hm
    have ih := i_PosFunc_l2_ev c xs hm hi r (i + 1) a.next
    refine Ev.step (fun k => slices_IndexFunc_int_of_i_PositionOf_1_l2_eq k _ _ _ _) ?_
    simp only [a.g, a.z, a.get, a.w, cond_true]
    unfold posF
    have h1 : Ev (fun k => i_PositionOf_1 k (x, c)) (card x == c) := Ev.step (fun k => i_PositionOf_1_eq k x c) (Ev.bind (i_CardOf_ev x (hi x a.mem)) (Ev.pure _))
    refine Ev.bind h1 (Ev.ite (fun h => Ev.some ?_) (fun h => ih.to ?_))
    · have : card x = c := by simpa using h
      rw [if_pos this]
    · have : ¬ card x = c := by simpa using h
      rw [if_neg this]
theorem i_PositionOf_ev (p : List Int) (c : Int) (hm : p.length ≤ maxLen) (hi : Ins p) : Ev (fun k => i_PositionOf k (p, c)) (pos p c) := by
  refine Ev.step (fun k => i_PositionOf_eq k p c) ?_
  unfold pos
  refine Ev.ite (fun h => Ev.some ?_) (fun h => Ev.bind (Ev.step (fun k => slices_IndexFunc_int_of_i_PositionOf_1_eq k p c) (i_PosFunc_l2_ev c p hm hi p 0 rfl)) (Ev.some ?_))
  · have : c < 0 := by simpa using h
    rw [if_pos this]
  · have : ¬ c < 0 := by simpa using h
    rw [if_neg this]
def isArr (p q : List Int) : Bool := packetOk p && (packetOk q && (p.length == q.length && p.all fun x => decide (0 ≤ pos q (card x))))
def noPos (q : List Int) : Nat → List Int → Int
  | _, [] => -1
  | i, x :: r => if pos q (card x) < 0 then (i : Int) else noPos q (i + 1) r
theorem noPos_all (q : List Int) : ∀ (r : List Int) (i : Nat), (!(decide (noPos q i r ≥ 0))) = r.all fun x => decide (0 ≤ pos q (card x))
  | [], i => by simp [noPos]
  | x :: r, i => by
    unfold noPos
    by_cases h : pos q (card x) < 0
    · rw [if_pos h]
      have : ¬ 0 ≤ pos q (card x) := by omega
      simp [this]
    · rw [if_neg h, noPos_all q r (i + 1)]
      have : 0 ≤ pos q (card x) := by omega
      simp [this]
theorem i_ArrFunc_l2_ev (q xs : List Int) (hm : xs.length ≤ maxLen) (hi : Ins xs) (hq : q.length ≤ maxLen) (hiq : Ins q) : ∀ (r : List Int) (i : Nat), xs.drop i = r → Ev (fun k => slices_IndexFunc_int_of_i_IsArrangement_1_l2 k xs q (xs.length : Int) (i : Int)) (noPos q i r)
  | [], i, h => by
    have a := at_nil h
    refine Ev.step (fun k => slices_IndexFunc_int_of_i_IsArrangement_1_l2_eq k _ _ _ _) ?_
    simp only [a.g, cond_false]
    exact Ev.pure _
  | x :: r, i, h => by
    have a := at_cons h hm
    have ih := i_ArrFunc_l2_ev q xs hm hi hq hiq r (i + 1) a.next
    refine Ev.step (fun k => slices_IndexFunc_int_of_i_IsArrangement_1_l2_eq k _ _ _ _) ?_
    simp only [a.g, a.z, a.get, a.w, cond_true]
    unfold noPos
    have h1 : Ev (fun k => i_IsArrangement_1 k (x, q)) (decide (pos q (card x) < 0)) := Ev.step (fun k => i_IsArrangement_1_eq k x q) (Ev.bind (i_CardOf_ev x (hi x a.mem)) (Ev.bind (i_PositionOf_ev q _ hq hiq) (Ev.pure _)))
    refine Ev.bind h1 (Ev.ite (fun h => Ev.some ?_) (fun h => ih.to ?_))
    · have : pos q (card x) < 0 := by simpa using h
      rw [if_pos this]
    · have : ¬ pos q (card x) < 0 := by simpa using h
      rw [if_neg this]
theorem i_IsArrangement_ev (p q : List Int) (hp : p.length ≤ maxLen) (hip : Ins p) (hq : q.length ≤ maxLen) (hiq : Ins q) : Ev (fun k => i_IsArrangement k (p, q)) (isArr p q) := by
  unfold isArr
  refine Ev.step (fun k => i_IsArrangement_eq k p q) (Ev.bind (i_PacketOk_ev p hp hip) (Ev.ite (fun h => Ev.some ?_) (fun h => Ev.bind (i_PacketOk_ev q hq hiq) (Ev.ite (fun h2 => Ev.some ?_) (fun h2 => Ev.ite (fun h3 => Ev.some ?_) (fun h3 => ?_))))))
  · have : packetOk p = false := by simpa using h
    rw [this]; rfl
  · have : packetOk q = false := by simpa using h2
    rw [this]; simp
  · have : (p.length == q.length) = false := by simp at h3 ⊢; omega
    rw [this]; simp
  · have e1 : packetOk p = true := by simpa using h
    have e2 : packetOk q = true := by simpa using h2
    have e3 : (p.length == q.length) = true := by simp at h3 ⊢; omega
    rw [e1, e2, e3, ← noPos_all q p 0]
    exact Ev.bind (Ev.step (fun k => slices_ContainsFunc_int_of_i_IsArrangement_1_eq k p q) (Ev.bind (Ev.step (fun k => slices_IndexFunc_int_of_i_IsArrangement_1_eq k p q) (i_ArrFunc_l2_ev q p hp hip hq hiq p 0 rfl)) (Ev.pure _))) (Ev.some (by simp))
end Qq
namespace Qq
open Go Go.Vt Pt
set_option linter.unusedVariables false
set_option linter.unusedSimpArgs false
def bits : Nat → Nat → List Bool
  | 0, _ => []
  | n + 1, w => (w % 2 == 1) :: bits n (w / 2)
/-- A bit, as the program takes it. -/
theorem bit_wrap (w i : Nat) (hi : i < 64) (hw : w < 9223372036854775808) : IntKind.i64.wrap (((BitVec.ofInt IntKind.i64.bits (((w : Int)).fdiv (2 ^ (min ((i : Int)).toNat IntKind.i64.bits))) &&& BitVec.ofInt IntKind.i64.bits (1 : Int)).toNat : Int)) = ((w / 2 ^ i % 2 : Nat) : Int) := by
  have hb : IntKind.i64.bits = 64 := by decide
  rw [hb, Int.toNat_natCast, Nat.min_eq_left (by omega)]
  have e1 : ((w : Int)).fdiv (2 ^ i) = ((w / 2 ^ i : Nat) : Int) := by
    rw [Int.fdiv_eq_ediv_of_nonneg _ (by exact Int.le_of_lt (Int.pow_pos (by decide)))]
    norm_cast
  have e2 : (BitVec.ofInt 64 ((w / 2 ^ i : Nat) : Int) &&& BitVec.ofInt 64 (1 : Int)).toNat = w / 2 ^ i % 2 := by
    have h1 : (1 : Int) = ((1 : Nat) : Int) := rfl
    rw [h1, BitVec.ofInt_natCast, BitVec.ofInt_natCast, BitVec.toNat_and, BitVec.toNat_ofNat, BitVec.toNat_ofNat]
    have hlt : w / 2 ^ i < 2 ^ 64 := by
      have := Nat.div_le_self w (2 ^ i)
      omega
    rw [Nat.mod_eq_of_lt hlt]
    exact Nat.and_one_is_mod _
  rw [e1, e2, wrap_id (by omega) (by omega)]
def upTo (n : Nat) : List Int := (List.range n).map fun (i : Nat) => (i : Int)
theorem upTo_len (n : Nat) : (upTo n).length = n := by simp [upTo]
theorem upTo_succ (n : Nat) : upTo (n + 1) = upTo n ++ [(n : Int)] := by simp [upTo, List.range_succ]
end Qq
namespace Qq
open Go Go.Vt Pt
set_option linter.unusedVariables false
set_option linter.unusedSimpArgs false
theorem l02Shuffle_l3_ev (n : Nat) (hn : n ≤ 12) : ∀ (m i : Nat) (out : List Int) (c : Cur), i + m = n → out.length = i → out.Perm (upTo i) → CurOk c →
    ∃ (p : List Int) (c' : Cur), Ev (fun k => s_l02Shuffle_l3 k (n : Int) (i : Int) out c.1 c.2.1 c.2.2) (p, c') ∧ p.Perm (upTo n) ∧ CurOk c'
  | 0, i, out, c, h, hl, hp, hc => by
    have hi : i = n := by omega
    subst hi
    exact ⟨out, c, Ev.step (fun k => s_l02Shuffle_l3_eq k _ _ _ _ _ _) (Ev.no (decide_eq_false (by omega)) (Ev.pure _)), hp, hc⟩
  | m + 1, i, out, c, h, hl, hp, hc => by
    have hw : IntKind.i64.wrap ((i : Int) + (1 : Int)) = ((i + 1 : Nat) : Int) := by rw [wrap_id (by omega) (by omega)]; simp
    obtain ⟨y, c1, e, a1, a2, a3⟩ := l01Below_ev c hc ((i + 1 : Nat) : Int)
    have hy := a2 (by omega)
    obtain ⟨j, rfl⟩ : ∃ j : Nat, y = (j : Int) := ⟨y.toNat, by omega⟩
    have hj : j < i + 1 := by omega
    have hvl : (out ++ [(i : Int)]).length = i + 1 := by simp [hl]
    have hi' : i < (out ++ [(i : Int)]).length := by omega
    have hj' : j < (out ++ [(i : Int)]).length := by omega
    have hvi : (out ++ [(i : Int)])[i] = (i : Int) := by rw [List.getElem_append_right (by omega)]; simp
    have hgd : (out ++ [(i : Int)]).getD j 0 = (out ++ [(i : Int)])[j] := by rw [List.getD, List.getElem?_eq_getElem hj']; rfl
    have hperm := List.set_set_perm hi' hj'
    rw [hvi] at hperm
    have hperm2 : (((out ++ [(i : Int)]).set i ((out ++ [(i : Int)]).getD j 0)).set j (i : Int)).Perm (upTo (i + 1)) := by
      rw [hgd, upTo_succ]
      exact hperm.trans (hp.append_right _)
    obtain ⟨p, c2, e2, b1, b2⟩ := l02Shuffle_l3_ev n hn m (i + 1) _ c1 (by omega) (by simp [hl]) hperm2 a3
    refine ⟨p, c2, Ev.step (fun k => s_l02Shuffle_l3_eq k _ _ _ _ _ _) (Ev.yes (decide_eq_true (by omega)) ?_), b1, b2⟩
    rw [hw]
    refine Ev.bind e ?_
    simp only [Int.toNat_natCast]
    refine Ev.yes (by rw [rowMax_eq]; simp; omega) (Ev.yes (by simp) (Ev.yes (by rw [hvl]; simp; omega) (Ev.yes (by rw [hvl]; simp; omega) (Ev.yes (by simp) (Ev.yes (by rw [hvl]; simp; omega) (Ev.yes (by rw [hvl]; simp) (Ev.yes (by simp) (Ev.yes (by simp [hl]; omega) (Ev.yes (by simp [hl]; omega) e2)))))))))
theorem l02Shuffle_ev (c : Cur) (hc : CurOk c) (n : Nat) (hn : n ≤ 12) : ∃ (p : List Int) (c' : Cur), Ev (fun k => s_l02Shuffle k (c, (n : Int))) (p, c') ∧ p.Perm (upTo n) ∧ CurOk c' := by
  obtain ⟨p, c', e, h1, h2⟩ := l02Shuffle_l3_ev n hn n 0 [] c (by omega) rfl (by simp [upTo]) hc
  exact ⟨p, c', Ev.step (fun k => s_l02Shuffle_eq k _ _) e, h1, h2⟩
theorem pk_ofC : ∀ (r done : List Int), (done ++ r.map card).Nodup → (∀ x ∈ r, 0 ≤ card x) → pk done r = true
  | [], done, _, _ => rfl
  | x :: r, done, hn, h0 => by
    unfold pk
    have hx : card x ∉ done := fun hm => by
      rw [List.map_cons, List.nodup_append] at hn
      exact hn.2.2 _ hm _ (by simp) rfl
    have hc : done.contains (card x) = false := by simpa using hx
    rw [hc, pk_ofC r (done ++ [card x]) (by simpa using hn) (fun y hy => h0 y (List.mem_cons_of_mem _ hy))]
    simp [h0 x (by simp)]
theorem packetOk_of {p : List Int} (hn : (p.map card).Nodup) (h0 : ∀ x ∈ p, 0 ≤ card x) : packetOk p = true := pk_ofC p [] (by simpa using hn) h0
/-- A packet on the way: its cards, turned or not. -/
structure PkI (q p : List Int) : Prop where
  m : p.map card = q
  b : ∀ x ∈ p, -12 ≤ x ∧ x ≤ 11
theorem card_flip {x : Int} (h1 : -12 ≤ x) (h2 : x ≤ 11) : card (-1 - x) = card x := by
  unfold card
  by_cases h : 0 ≤ x
  · rw [if_neg (by omega), if_pos (by omega), if_pos (by omega)]; omega
  · rw [if_pos (by omega), if_neg (by omega), if_pos (by omega)]
theorem PkI.flip {q p : List Int} (h : PkI q p) {i : Nat} (hi : i < p.length) : PkI q (p.set i (-1 - p.getD i 0)) := by
  have hg : p.getD i 0 = p[i] := by rw [List.getD, List.getElem?_eq_getElem hi]; rfl
  have hb := h.b p[i] (List.getElem_mem hi)
  refine ⟨?_, fun x hx => ?_⟩
  · rw [hg, List.map_set, card_flip hb.1 hb.2, ← h.m]
    have : card p[i] = (p.map card)[i]'(by simpa using hi) := by simp
    rw [this, List.set_getElem_self]
  · rcases List.mem_or_eq_of_mem_set hx with h1 | h1
    · exact h.b x h1
    · rw [h1, hg]; omega
theorem l02Draw_l4_ev (q : List Int) (n : Nat) (hn : n ≤ 12) : ∀ (m i : Nat) (p : List Int) (c : Cur), i + m = n → p.length = n → PkI q p → CurOk c →
    ∃ (p' : List Int) (c' : Cur), Ev (fun k => s_l02Draw_l4 k (n : Int) (i : Int) p c.1 c.2.1 c.2.2) (p', c') ∧ PkI q p' ∧ p'.length = n ∧ CurOk c'
  | 0, i, p, c, h, hl, hp, hc => by
    exact ⟨p, c, Ev.step (fun k => s_l02Draw_l4_eq k _ _ _ _ _ _) (Ev.no (decide_eq_false (by omega)) (Ev.pure _)), hp, hl, hc⟩
  | m + 1, i, p, c, h, hl, hp, hc => by
    have hw : IntKind.i64.wrap ((i : Int) + (1 : Int)) = ((i + 1 : Nat) : Int) := by rw [wrap_id (by omega) (by omega)]; simp
    obtain ⟨b, c1, e, a3⟩ := l01Once_ev c hc 3
    have hi : i < p.length := by omega
    cases b with
    | true =>
      have hf := hp.flip hi
      have hg : p.getD i 0 = p[i] := by rw [List.getD, List.getElem?_eq_getElem hi]; rfl
      have hb := hp.b p[i] (List.getElem_mem hi)
      obtain ⟨p', c2, e2, b1, b2, b3⟩ := l02Draw_l4_ev q n hn m (i + 1) _ c1 (by omega) (by simpa using hl) hf a3
      refine ⟨p', c2, Ev.step (fun k => s_l02Draw_l4_eq k _ _ _ _ _ _) (Ev.yes (decide_eq_true (by omega)) (Ev.bind e ?_)), b1, b2, b3⟩
      simp only [Int.toNat_natCast]
      have hw2 : IntKind.i64.wrap ((-1 : Int) - p.getD i 0) = -1 - p.getD i 0 := by rw [hg]; exact wrap_id (by omega) (by omega)
      rw [hw, hw2]
      exact Ev.yes rfl (Ev.yes (by simp) (Ev.yes (by simp; omega) (Ev.yes (by simp; omega) (Ev.yes (by simp) (Ev.yes (by simp; omega) (Ev.yes (by simp; omega) e2))))))
    | false =>
      obtain ⟨p', c2, e2, b1, b2, b3⟩ := l02Draw_l4_ev q n hn m (i + 1) p c1 (by omega) hl hp a3
      refine ⟨p', c2, Ev.step (fun k => s_l02Draw_l4_eq k _ _ _ _ _ _) (Ev.yes (decide_eq_true (by omega)) (Ev.bind e ?_)), b1, b2, b3⟩
      rw [hw]
      exact Ev.no rfl e2
theorem upTo_mem {n : Nat} {x : Int} (h : x ∈ upTo n) : 0 ≤ x ∧ x < n := by
  unfold upTo at h
  obtain ⟨i, hi, rfl⟩ := List.mem_map.1 h
  have := List.mem_range.1 hi
  omega
theorem upTo_nodup (n : Nat) : (upTo n).Nodup := by
  unfold upTo
  exact List.Pairwise.map _ (fun a b h e => h (by omega)) List.nodup_range
theorem perm_PkI {n : Nat} (hn : n ≤ 12) {p : List Int} (h : p.Perm (upTo n)) : PkI p p := by
  have hb : ∀ x ∈ p, 0 ≤ x ∧ x ≤ 11 := fun x hx => by have := upTo_mem (h.mem_iff.1 hx); omega
  refine ⟨?_, fun x hx => by have := hb x hx; omega⟩
  conv => rhs; rw [← List.map_id p]
  exact List.map_congr_left fun x hx => by unfold card; rw [if_pos (hb x hx)]; rfl
/-- What is drawn: a valid packet, not empty. -/
structure Drawn (most : Nat) (p : List Int) : Prop where
  ok : packetOk p = true
  pos : 1 ≤ p.length
  le : p.length ≤ most
theorem l02Draw_ev (c : Cur) (hc : CurOk c) (most : Nat) (h1 : 1 ≤ most) (h12 : most ≤ 12) : ∃ (p : List Int) (c' : Cur), Ev (fun k => s_l02Draw k (c, (most : Int))) (p, c') ∧ Drawn most p ∧ CurOk c' := by
  obtain ⟨y, c1, e1, a1, a2, a3⟩ := l01Below_ev c hc (most : Int)
  have hy := a2 (by omega)
  obtain ⟨j, rfl⟩ : ∃ j : Nat, y = (j : Int) := ⟨y.toNat, by omega⟩
  have hw : IntKind.i64.wrap ((1 : Int) + (j : Int)) = ((j + 1 : Nat) : Int) := by rw [wrap_id (by omega) (by omega)]; omega
  obtain ⟨p, c2, e2, b1, b2⟩ := l02Shuffle_ev c1 a3 (j + 1) (by omega)
  have hl : p.length = j + 1 := by rw [b1.length_eq, upTo_len]
  obtain ⟨b, c3, e3, d3⟩ := l01Once_ev c2 b2 2
  have hI := perm_PkI (by omega) b1
  have hnd : p.Nodup := b1.nodup_iff.2 (upTo_nodup _)
  have h0 : ∀ x ∈ p, 0 ≤ x := fun x hx => (upTo_mem (b1.mem_iff.1 hx)).1
  have fin : ∀ p', PkI p p' → p'.length = j + 1 → Drawn most p' := fun p' hp' hl' => by
    refine ⟨packetOk_of (by rw [hp'.m]; exact hnd) (fun x hx => h0 _ ?_), by omega, by omega⟩
    rw [← hp'.m]; exact List.mem_map_of_mem hx
  cases b with
  | true =>
    obtain ⟨p', c4, e4, f1, f2, f3⟩ := l02Draw_l4_ev p (j + 1) (by omega) (j + 1) 0 p c3 (by omega) hl hI d3
    refine ⟨p', c4, Ev.step (fun k => s_l02Draw_eq k _ _) (Ev.bind e1 ?_), fin p' f1 f2, f3⟩
    dsimp only
    rw [hw]
    refine Ev.bind e2 (Ev.bind e3 (Ev.yes rfl ?_))
    dsimp only
    rw [hl]
    exact e4
  | false =>
    refine ⟨p, c3, Ev.step (fun k => s_l02Draw_eq k _ _) (Ev.bind e1 ?_), fin p hI hl, d3⟩
    dsimp only
    rw [hw]
    exact Ev.bind e2 (Ev.bind e3 (Ev.no rfl (Ev.pure _)))
end Qq
namespace Qq
open Go Go.Vt Pt
set_option linter.unusedVariables false
set_option linter.unusedSimpArgs false
def moveOk (n : Int) (m : Int × Int) : Bool :=
  decide (1 ≤ n) && (decide (n ≤ 12) && (decide (0 ≤ m.2) &&
    (if m.1 = 1 then decide (m.2 ≤ n) else if m.1 = 2 then decide (m.2 ≤ n) else if m.1 = 3 then decide (m.2 ≤ n) else
     if m.1 = 4 then decide (m.2 ≤ 1) else if m.1 = 5 then decide (m.2 ≤ 1) else if m.1 = 7 then decide (m.2 ≤ 1) else
     if m.1 = 6 then m.2 == 0 else if m.1 = 8 then decide (m.2 < n) else if m.1 = 9 then decide (m.2 < n) else false)))
theorem i_MoveOk_ev (n : Int) (m : Int × Int) : Ev (fun k => i_MoveOk k (n, m)) (moveOk n m) := by
  obtain ⟨a, b⟩ := m
  refine Ev.step (fun k => i_MoveOk_eq k n (a, b)) ?_
  unfold moveOk
  refine Ev.ite (fun h => Ev.some ?_) (fun h => ?_)
  · have : ¬ 1 ≤ n := by simpa using h
    simp [this]
  have h1 : 1 ≤ n := by simpa using h
  refine Ev.ite (fun h => Ev.some ?_) (fun h => ?_)
  · have : ¬ n ≤ 12 := by simpa using h
    simp [this]
  have h2 : n ≤ 12 := by simpa using h
  refine Ev.ite (fun h => Ev.some ?_) (fun h => ?_)
  · have : ¬ 0 ≤ b := by simpa using h
    simp [this]
  have h3 : 0 ≤ b := by simpa using h
  clear h
  simp only [h1, h2, h3, decide_true, Bool.true_and]
  iterate 9 (refine Ev.ite (fun h => ?_) (fun h => ?_); · exact Ev.some (by simp at *; simp [*]))
  exact Ev.some (by simp at *; simp [*])
end Qq
namespace Qq
open Go Go.Vt Pt
set_option linter.unusedVariables false
set_option linter.unusedSimpArgs false
theorem Clone_int_ev (xs : List Int) (hm : xs.length ≤ 1048576) : Ev (fun k => slices_Clone_int k xs) xs := by
  refine Ev.step (fun k => slices_Clone_int_eq k xs) (Ev.ite (fun h => ?_) (fun h => ?_))
  · exact Ev.yes (by rw [rowMax_eq]; simp; omega) (Ev.some (by simp))
  · have : xs = [] := by simpa using h
    subst this
    exact Ev.both (Ev.pure _) (Ev.yes (by simp) (Ev.some rfl))
end Qq
namespace Qq
open Go Go.Vt Pt
set_option linter.unusedVariables false
set_option linter.unusedSimpArgs false
set_option linter.unnecessarySimpa false
theorem take_all {α : Type} (l : List α) : l.take ((l.length : Int)).toNat = l := by simp
def turn (x : Int) : Int := if card x < 0 then x else -1 - x
theorem in_turn {x : Int} (h : In x) : In (turn x) := by
  unfold turn
  unfold In at *
  split
  · exact h
  · omega
theorem s_TurnCard_ev (x : Int) (hx : In x) : Ev (fun k => s_TurnCard k x) (turn x) := by
  have h1 := hx.1
  have h2 := hx.2
  refine Ev.step (fun k => s_TurnCard_eq k x) (Ev.bind (s_CardOf_ev x) ?_)
  rw [wrap_id (by omega) (by omega)]
  refine Ev.ite (fun h => Ev.some ?_) (fun h => Ev.some ?_)
  · have : card x < 0 := by simpa using h
    simp [turn, this]
  · have : ¬ card x < 0 := by simpa using h
    simp only [turn, if_neg this]
theorem i_TurnCard_ev (x : Int) (hx : In x) : Ev (fun k => i_TurnCard k x) (turn x) := by
  have h1 := hx.1
  have h2 := hx.2
  refine Ev.step (fun k => i_TurnCard_eq k x) (Ev.bind (i_CardOf_ev x hx) ?_)
  rw [wrap_id (by omega) (by omega)]
  refine Ev.ite (fun h => Ev.some ?_) (fun h => Ev.some ?_)
  · have : card x < 0 := by simpa using h
    simp [turn, this]
  · have : ¬ card x < 0 := by simpa using h
    simp only [turn, if_neg this]
theorem take_back {α : Type} (p : List α) (i : Nat) (h : i < p.length) : (p.take (i + 1)).reverse = p[i] :: (p.take i).reverse := by
  rw [List.take_add_one, List.getElem?_eq_getElem h]; simp
theorem s_l04Back_l3_ev (p : List Int) (hp : p.length ≤ 12) (hi : Ins p) (n : Nat) (hn : n ≤ p.length) (up : Bool) : ∀ (i : Nat) (out : List Int), i ≤ n → out.length + i ≤ 12 →
    Ev (fun k => s_l04Back_l3 k p (n : Int) up ((i : Int) - 1) out) (out ++ (p.take i).reverse.map (fun x => bif up then turn x else x) ++ p.drop n)
  | 0, out, h, ho => by
    refine Ev.step (fun k => s_l04Back_l3_eq k _ _ _ _ _) ?_
    simp only [take_all, Int.toNat_natCast]
    refine Ev.no (by simp) (Ev.yes (by (first | (simp [rowMax_eq]; done) | (simp [rowMax_eq]; omega) | omega)) (Ev.yes (by (first | (simp [rowMax_eq]; done) | (simp [rowMax_eq]; omega) | omega)) (Ev.yes (by (first | (simp [rowMax_eq]; done) | (simp [rowMax_eq]; omega) | omega)) (Ev.yes (by (first | (simp [rowMax_eq]; done) | (simp [rowMax_eq]; omega) | omega)) (Ev.some ?_)))))
    simp
  | i + 1, out, h, ho => by
    have hlt : i < p.length := by omega
    have e0 : ((i + 1 : Nat) : Int) - 1 = (i : Int) := by omega
    have hg : p.getD (i : Int).toNat 0 = p[i] := by simp [List.getD, hlt]
    have hin : In p[i] := hi _ (List.getElem_mem hlt)
    refine Ev.step (fun k => s_l04Back_l3_eq k _ _ _ _ _) ?_
    simp only [e0, hg, wrap_id (x := (i : Int) - 1) (by omega) (by omega)]
    have ih := fun o (ho : o.length + i ≤ 12) => s_l04Back_l3_ev p hp hi n hn up i o (by omega) ho
    rw [take_back p i hlt]
    cases up with
    | true =>
      refine Ev.yes (by simp) (Ev.yes rfl (Ev.yes (by simp) (Ev.yes (by (first | (simp [rowMax_eq]; done) | (simp [rowMax_eq]; omega) | omega)) (Ev.bind (s_TurnCard_ev _ hin) (Ev.yes (by (first | (simp [rowMax_eq]; done) | (simp [rowMax_eq]; omega) | omega)) ?_)))))
      exact (ih _ (by simp; omega)).to (by simp)
    | false =>
      refine Ev.yes (by simp) (Ev.no rfl (Ev.yes (by simp) (Ev.yes (by (first | (simp [rowMax_eq]; done) | (simp [rowMax_eq]; omega) | omega)) (Ev.yes (by (first | (simp [rowMax_eq]; done) | (simp [rowMax_eq]; omega) | omega)) ?_))))
      exact (ih _ (by simp; omega)).to (by simp)
theorem s_l04Back_ev (p : List Int) (hp : p.length ≤ 12) (hi : Ins p) (n : Nat) (hn : n ≤ p.length) (up : Bool) :
    Ev (fun k => s_l04Back k (p, (n : Int), up)) ((p.take n).reverse.map (fun x => bif up then turn x else x) ++ p.drop n) := by
  refine Ev.step (fun k => s_l04Back_eq k _ _ _) ?_
  rw [wrap_id (x := (n : Int) - 1) (by omega) (by omega)]
  exact (s_l04Back_l3_ev p hp hi n hn up n [] (Nat.le_refl _) (by simp; omega)).to (by simp)
def fz : Bool → List Int → List Int → List Int
  | _, [], [] => []
  | f, x :: a, [] => x :: fz (!f) a []
  | f, [], y :: b => y :: fz (!f) [] b
  | true, x :: a, y :: b => x :: fz false a (y :: b)
  | false, x :: a, y :: b => y :: fz true (x :: a) b
termination_by _ a b => a.length + b.length
theorem parity (k : Int) (hk : k = 0 ∨ k = 1) (n : Nat) : (((n + 1 : Nat) : Int).tmod 2 == k) = !(((n : Nat) : Int).tmod 2 == k) := by
  rw [show ((n + 1 : Nat) : Int) = (n : Int) + 1 by omega, Int.tmod_eq_emod_of_nonneg (by omega), Int.tmod_eq_emod_of_nonneg (by omega)]
  by_cases h : (n : Int) % 2 = k
  · have h2 : ¬ ((n : Int) + 1) % 2 = k := by omega
    rw [beq_iff_eq.2 h, beq_eq_false_iff_ne.2 h2]; rfl
  · have h2 : ((n : Int) + 1) % 2 = k := by omega
    rw [beq_iff_eq.2 h2, beq_eq_false_iff_ne.2 h]; rfl
theorem s_l04Faro_l4_ev (k : Int) (hk : k = 0 ∨ k = 1) : ∀ (n : Nat) (a b out : List Int), a.length + b.length = n → out.length + n ≤ 12 →
    Ev (fun f => s_l04Faro_l4 f k a b out) (out ++ fz ((out.length : Int).tmod 2 == k) a b)
  | 0, a, b, out, h, ho => by
    have ea : a = [] := List.length_eq_zero_iff.1 (by omega)
    have eb : b = [] := List.length_eq_zero_iff.1 (by omega)
    subst ea eb
    refine Ev.step (fun f => s_l04Faro_l4_eq f _ _ _ _) (Ev.no (by simp) (Ev.no (by simp) (Ev.some ?_)))
    unfold fz; simp
  | n + 1, a, b, out, h, ho => by
    have ih := fun a b out h1 h2 => s_l04Faro_l4_ev k hk n a b out h1 h2
    refine Ev.step (fun f => s_l04Faro_l4_eq f _ _ _ _) ?_
    simp only [take_all]
    cases a with
    | nil =>
      cases b with
      | nil => simp at h
      | cons y b =>
        simp at h
        refine Ev.no (by simp) (Ev.yes (by (first | (simp [rowMax_eq]; done) | (simp [rowMax_eq]; omega) | omega)) (Ev.no (by (first | (simp [rowMax_eq]; done) | (simp [rowMax_eq]; omega) | omega)) (Ev.no (by simp) ?_)))
        (repeat (first | refine Ev.yes (by (first | (simp [rowMax_eq]; done) | (simp [rowMax_eq]; omega) | omega)) ?_ | refine Ev.no (by (first | (simp [rowMax_eq]; done) | (simp [rowMax_eq]; omega) | omega)) ?_))
        refine (ih [] b (out ++ [y]) (by simp; omega) (by simp; omega)).to ?_
        rw [List.length_append, List.length_singleton, parity k hk]
        conv => rhs; unfold fz
        simp
    | cons x a =>
      refine Ev.yes (by (first | (simp [rowMax_eq]; done) | (simp [rowMax_eq]; omega) | omega)) ?_
      cases b with
      | nil =>
        simp at h
        refine Ev.yes (by simp) ?_
        (repeat (first | refine Ev.yes (by (first | (simp [rowMax_eq]; done) | (simp [rowMax_eq]; omega) | omega)) ?_ | refine Ev.no (by (first | (simp [rowMax_eq]; done) | (simp [rowMax_eq]; omega) | omega)) ?_))
        refine (ih a [] (out ++ [x]) (by simp; omega) (by simp; omega)).to ?_
        rw [List.length_append, List.length_singleton, parity k hk]
        conv => rhs; unfold fz
        simp
      | cons y b =>
        simp at h
        refine Ev.no (by (first | (simp [rowMax_eq]; done) | (simp [rowMax_eq]; omega) | omega)) (Ev.yes (by (first | (simp [rowMax_eq]; done) | (simp [rowMax_eq]; omega) | omega)) ?_)
        refine Ev.ite (fun hf => ?_) (fun hf => ?_)
        · (repeat (first | refine Ev.yes (by (first | (simp [rowMax_eq]; done) | (simp [rowMax_eq]; omega) | omega)) ?_ | refine Ev.no (by (first | (simp [rowMax_eq]; done) | (simp [rowMax_eq]; omega) | omega)) ?_))
          refine (ih a (y :: b) (out ++ [x]) (by simp; omega) (by simp; omega)).to ?_
          rw [List.length_append, List.length_singleton, parity k hk, hf]
          conv => rhs; unfold fz
          simp
        · (repeat (first | refine Ev.yes (by (first | (simp [rowMax_eq]; done) | (simp [rowMax_eq]; omega) | omega)) ?_ | refine Ev.no (by (first | (simp [rowMax_eq]; done) | (simp [rowMax_eq]; omega) | omega)) ?_))
          refine (ih (x :: a) b (out ++ [y]) (by simp; omega) (by simp; omega)).to ?_
          rw [List.length_append, List.length_singleton, parity k hk, hf]
          conv => rhs; unfold fz
          simp
theorem i_faro_l4_ev : ∀ (n : Nat) (f : Bool) (a b out : List Int), a.length + b.length = n → out.length + n ≤ 12 → Ev (fun k => i_faro_l4 k a b f out) (out ++ fz f a b)
  | 0, f, a, b, out, h, ho => by
    have ea : a = [] := List.length_eq_zero_iff.1 (by omega)
    have eb : b = [] := List.length_eq_zero_iff.1 (by omega)
    subst ea eb
    refine Ev.step (fun k => i_faro_l4_eq k _ _ _ _) (Ev.no (by simp) (Ev.no (by simp) (Ev.some ?_)))
    unfold fz; simp
  | n + 1, f, a, b, out, h, ho => by
    have ih := fun f a b out h1 h2 => i_faro_l4_ev n f a b out h1 h2
    refine Ev.step (fun k => i_faro_l4_eq k _ _ _ _) ?_
    simp only [take_all]
    cases a with
    | nil =>
      cases b with
      | nil => simp at h
      | cons y b =>
        simp at h
        refine Ev.no (by simp) (Ev.yes (by (first | (simp [rowMax_eq]; done) | (simp [rowMax_eq]; omega) | omega)) ?_)
        cases f with
        | true =>
          refine Ev.yes rfl (Ev.no (by simp) ?_)
          (repeat (first | refine Ev.yes (by (first | (simp [rowMax_eq]; done) | (simp [rowMax_eq]; omega) | omega)) ?_ | refine Ev.no (by (first | (simp [rowMax_eq]; done) | (simp [rowMax_eq]; omega) | omega)) ?_))
          refine (ih false [] b (out ++ [y]) (by simp; omega) (by simp; omega)).to ?_
          conv => rhs; unfold fz
          simp
        | false =>
          refine Ev.no rfl (Ev.no (by (first | (simp [rowMax_eq]; done) | (simp [rowMax_eq]; omega) | omega)) ?_)
          (repeat (first | refine Ev.yes (by (first | (simp [rowMax_eq]; done) | (simp [rowMax_eq]; omega) | omega)) ?_ | refine Ev.no (by (first | (simp [rowMax_eq]; done) | (simp [rowMax_eq]; omega) | omega)) ?_))
          refine (ih true [] b (out ++ [y]) (by simp; omega) (by simp; omega)).to ?_
          conv => rhs; unfold fz
          simp
    | cons x a =>
      refine Ev.yes (by (first | (simp [rowMax_eq]; done) | (simp [rowMax_eq]; omega) | omega)) ?_
      cases f with
      | true =>
        refine Ev.yes rfl ?_
        (repeat (first | refine Ev.yes (by (first | (simp [rowMax_eq]; done) | (simp [rowMax_eq]; omega) | omega)) ?_ | refine Ev.no (by (first | (simp [rowMax_eq]; done) | (simp [rowMax_eq]; omega) | omega)) ?_))
        refine (ih false a b (out ++ [x]) (by simp at h ⊢; omega) (by simp; omega)).to ?_
        cases b with
        | nil => conv => rhs; unfold fz
                 simp
        | cons y b => conv => rhs; unfold fz
                      simp
      | false =>
        refine Ev.no rfl ?_
        cases b with
        | nil =>
          simp at h
          refine Ev.yes (by simp) ?_
          (repeat (first | refine Ev.yes (by (first | (simp [rowMax_eq]; done) | (simp [rowMax_eq]; omega) | omega)) ?_ | refine Ev.no (by (first | (simp [rowMax_eq]; done) | (simp [rowMax_eq]; omega) | omega)) ?_))
          refine (ih true a [] (out ++ [x]) (by simp; omega) (by simp; omega)).to ?_
          conv => rhs; unfold fz
          simp
        | cons y b =>
          simp at h
          refine Ev.no (by (first | (simp [rowMax_eq]; done) | (simp [rowMax_eq]; omega) | omega)) ?_
          (repeat (first | refine Ev.yes (by (first | (simp [rowMax_eq]; done) | (simp [rowMax_eq]; omega) | omega)) ?_ | refine Ev.no (by (first | (simp [rowMax_eq]; done) | (simp [rowMax_eq]; omega) | omega)) ?_))
          refine (ih true (x :: a) b (out ++ [y]) (by simp; omega) (by simp; omega)).to ?_
          conv => rhs; unfold fz
          simp
def faroL (p : List Int) (k : Int) : List Int := fz (k == 0) (p.take (p.length / 2)) (p.drop (p.length / 2))
theorem half (n : Nat) (h : n ≤ 4194304) : IntKind.i64.wrap ((n : Int).tdiv 2) = ((n / 2 : Nat) : Int) := by
  have : (n : Int).tdiv 2 = ((n / 2 : Nat) : Int) := by rw [Int.tdiv_eq_ediv_of_nonneg (by omega)]; omega
  rw [this, wrap_id (by omega) (by omega)]
theorem s_l04Faro_ev (p : List Int) (hp : p.length ≤ 12) (k : Int) (hk : k = 0 ∨ k = 1) : Ev (fun f => s_l04Faro f (p, k)) (faroL p k) := by
  refine Ev.step (fun f => s_l04Faro_eq f _ _) ?_
  simp only [half p.length (by omega), take_all, Int.toNat_natCast, List.take_length, List.drop_zero]
  (repeat (first | refine Ev.yes (by (first | (simp [rowMax_eq]; done) | (simp [rowMax_eq]; omega) | omega)) ?_ | refine Ev.no (by (first | (simp [rowMax_eq]; done) | (simp [rowMax_eq]; omega) | omega)) ?_))
  refine (s_l04Faro_l4_ev k hk p.length _ _ [] (by simp; omega) (by simp; omega)).to ?_
  rw [List.nil_append]
  unfold faroL
  congr 1
  rcases hk with rfl | rfl <;> rfl
theorem i_faro_ev (p : List Int) (hp : p.length ≤ 12) (k : Int) : Ev (fun f => i_faro f (p, k)) (faroL p k) := by
  refine Ev.step (fun f => i_faro_eq f _ _) ?_
  simp only [half p.length (by omega), take_all, Int.toNat_natCast, List.take_length, List.drop_zero]
  (repeat (first | refine Ev.yes (by (first | (simp [rowMax_eq]; done) | (simp [rowMax_eq]; omega) | omega)) ?_ | refine Ev.no (by (first | (simp [rowMax_eq]; done) | (simp [rowMax_eq]; omega) | omega)) ?_))
  refine (i_faro_l4_ev p.length (k == 0) _ _ [] (by simp; omega) (by simp; omega)).to ?_
  rw [List.nil_append]
  rfl
def mz (k : Int) : Nat → List Int → List Int → List Int
  | _, [], out => out
  | i, x :: r, out => if i = 0 ∨ (i : Int) % 2 = k then mz k (i + 1) r (out ++ [x]) else mz k (i + 1) r (x :: out)
theorem s_l04Monge_l3_ev (p : List Int) (hp : p.length ≤ 12) (k : Int) (hk : k = 0 ∨ k = 1) : ∀ (r : List Int) (i : Nat) (out : List Int), p.drop i = r → out.length = i → Ev (fun f => s_l04Monge_l3 f k p (p.length : Int) (i : Int) out) (mz k i r out)
  | [], i, out, h, ho => by
    have a := at_nil h
    refine Ev.step (fun f => s_l04Monge_l3_eq f _ _ _ _ _) ?_
    simp only [a.g, cond_false]
    exact Ev.pure _
  | x :: r, i, out, h, ho => by
    have a := at_cons h (by rw [maxLen_eq]; omega)
    have hlt := a.lt
    have ih := fun out ho => s_l04Monge_l3_ev p hp k hk r (i + 1) out a.next ho
    refine Ev.step (fun f => s_l04Monge_l3_eq f _ _ _ _ _) ?_
    simp only [a.g, a.z, a.get, a.w, cond_true]
    rw [Int.tmod_eq_emod_of_nonneg (by omega)]
    unfold mz
    refine Ev.ite (fun c => ?_) (fun c => Ev.ite (fun c2 => ?_) (fun c2 => ?_))
    · have : i = 0 := by have : (i : Int) = 0 := by simpa using c
                         omega
      rw [if_pos (.inl this)]
      exact Ev.yes (by (first | (simp [rowMax_eq]; done) | (simp [rowMax_eq]; omega) | omega)) (ih _ (by simp; omega))
    · have : (i : Int) % 2 = k := by simpa using c2
      rw [if_pos (.inr this)]
      exact Ev.yes (by (first | (simp [rowMax_eq]; done) | (simp [rowMax_eq]; omega) | omega)) (ih _ (by simp; omega))
    · have h1 : ¬ i = 0 := by have : ¬ (i : Int) = 0 := by simpa using c
                              omega
      have h2 : ¬ (i : Int) % 2 = k := by simpa using c2
      rw [if_neg (by rintro (h | h); exact h1 h; exact h2 h)]
      exact Ev.yes (by (first | (simp [rowMax_eq]; done) | (simp [rowMax_eq]; omega) | omega)) (ih _ (by simp; omega))
theorem i_monge_l3_ev (p : List Int) (hp : p.length ≤ 12) (k : Int) (hk : k = 0 ∨ k = 1) : ∀ (r : List Int) (i : Nat) (out : List Int), p.drop i = r → out.length = i → Ev (fun f => i_monge_l3 f k p (p.length : Int) (i : Int) out) (mz k i r out)
  | [], i, out, h, ho => by
    have a := at_nil h
    refine Ev.step (fun f => i_monge_l3_eq f _ _ _ _ _) ?_
    simp only [a.g, cond_false]
    exact Ev.pure _
  | x :: r, i, out, h, ho => by
    have a := at_cons h (by rw [maxLen_eq]; omega)
    have hlt := a.lt
    have ih := fun out ho => i_monge_l3_ev p hp k hk r (i + 1) out a.next ho
    refine Ev.step (fun f => i_monge_l3_eq f _ _ _ _ _) ?_
    simp only [a.g, a.z, a.get, a.w, cond_true]
    rw [wrap_id (x := (i : Int) + k) (by omega) (by omega), Int.tmod_eq_emod_of_nonneg (by omega)]
    unfold mz
    refine Ev.ite (fun c => Ev.ite (fun c2 => ?_) (fun c2 => ?_)) (fun c => ?_)
    · have h1 : (i : Int) > 0 := by simpa using c
      have h2 : ((i : Int) + k) % 2 = 1 := by simpa using c2
      rw [if_neg (by rintro (h | h) <;> omega)]
      exact Ev.yes (by (first | (simp [rowMax_eq]; done) | (simp [rowMax_eq]; omega) | omega)) (ih _ (by simp; omega))
    · have h1 : (i : Int) > 0 := by simpa using c
      have h2 : ¬ ((i : Int) + k) % 2 = 1 := by simpa using c2
      rw [if_pos (.inr (by omega))]
      exact Ev.yes (by (first | (simp [rowMax_eq]; done) | (simp [rowMax_eq]; omega) | omega)) (ih _ (by simp; omega))
    · have h1 : ¬ (i : Int) > 0 := by simpa using c
      rw [if_pos (.inl (by omega))]
      exact Ev.yes (by (first | (simp [rowMax_eq]; done) | (simp [rowMax_eq]; omega) | omega)) (ih _ (by simp; omega))
def kz : Nat → List Int → List Int → List Int
  | 0, p, out => p ++ out
  | n + 1, p, out => if 1 < p.length then kz n ((p.take (p.length - 1)).drop 1) (p.getD 0 0 :: p.getD (p.length - 1) 0 :: out) else p ++ out
theorem s_l04Milk_l2_ev : ∀ (n : Nat) (p out : List Int), p.length ≤ n → p.length + out.length ≤ 12 → Ev (fun f => s_l04Milk_l2 f p out) (kz n p out)
  | n, p, out, h, ho => by
    refine Ev.step (fun f => s_l04Milk_l2_eq f _ _) ?_
    by_cases c : 1 < p.length
    · match n, h with
      | 0, h => exact absurd c (by omega)
      | n + 1, h =>
      have e : ((p.length : Int) - 1) = ((p.length - 1 : Nat) : Int) := by omega
      unfold kz
      rw [if_pos c]
      simp only [e, wrap_id (x := ((p.length - 1 : Nat) : Int)) (by omega) (by omega), Int.toNat_natCast]
      refine Ev.yes (by simp; omega) ?_
      (repeat (first | refine Ev.yes (by (first | (simp [rowMax_eq]; done) | (simp [rowMax_eq]; omega) | omega)) ?_ | refine Ev.no (by (first | (simp [rowMax_eq]; done) | (simp [rowMax_eq]; omega) | omega)) ?_))
      exact s_l04Milk_l2_ev n _ _ (by simp; omega) (by simp; omega)
    · have : kz n p out = p ++ out := by cases n <;> simp [kz, c]
      rw [this]
      refine Ev.no (by simp; omega) (Ev.yes (by (first | (simp [rowMax_eq]; done) | (simp [rowMax_eq]; omega) | omega)) ?_)
      rw [List.nil_append]
      refine Ev.yes (by rw [rowMax_eq]; exact decide_eq_true (by omega)) (Ev.some rfl)
theorem i_milk_l2_ev : ∀ (n : Nat) (p out : List Int), p.length ≤ n → p.length + out.length ≤ 12 → Ev (fun f => i_milk_l2 f p out) (kz n p out)
  | n, p, out, h, ho => by
    refine Ev.step (fun f => i_milk_l2_eq f _ _) ?_
    by_cases c : 1 < p.length
    · match n, h with
      | 0, h => exact absurd c (by omega)
      | n + 1, h =>
      have e : ((p.length : Int) - 1) = ((p.length - 1 : Nat) : Int) := by omega
      unfold kz
      rw [if_pos c]
      simp only [e, wrap_id (x := ((p.length - 1 : Nat) : Int)) (by omega) (by omega), Int.toNat_natCast]
      refine Ev.yes (by simp; omega) ?_
      (repeat (first | refine Ev.yes (by (first | (simp [rowMax_eq]; done) | (simp [rowMax_eq]; omega) | omega)) ?_ | refine Ev.no (by (first | (simp [rowMax_eq]; done) | (simp [rowMax_eq]; omega) | omega)) ?_))
      exact i_milk_l2_ev n _ _ (by simp; omega) (by simp; omega)
    · have : kz n p out = p ++ out := by cases n <;> simp [kz, c]
      rw [this]
      refine Ev.no (by simp; omega) (Ev.bind (Clone_int_ev p (by omega)) (Ev.yes (by rw [rowMax_eq]; exact decide_eq_true (by omega)) (Ev.some rfl)))
def dz : Nat → Bool → List Int → List Int → List Int
  | 0, _, q, out => q.getD 0 0 :: out
  | n + 1, f, q, out => if 1 < q.length then (bif f then dz n false (q.drop 1) (q.getD 0 0 :: out) else dz n true (q.drop 1 ++ [q.getD 0 0]) out) else q.getD 0 0 :: out
theorem odd_step (s : Nat) : (((s + 1 : Nat) : Int).tmod 2 == 1) = !(((s : Nat) : Int).tmod 2 == 1) := parity 1 (.inr rfl) s
theorem s_l04Duck_l4_ev : ∀ (n : Nat) (s : Nat) (q out : List Int), 1 ≤ q.length → 2 * q.length + (bif ((s : Int).tmod 2 == 1) then 0 else 1) ≤ n → q.length + out.length ≤ 12 → s + n ≤ 1000 →
    Ev (fun f => s_l04Duck_l4 f (s : Int) q out) (dz n ((s : Int).tmod 2 == 1) q out)
  | 0, s, q, out, h1, h, ho, hs => by omega
  | n + 1, s, q, out, h1, h, ho, hs => by
    have ih := fun q out h1 h ho => s_l04Duck_l4_ev n (s + 1) q out h1 h ho (by omega)
    rw [odd_step] at ih
    refine Ev.step (fun f => s_l04Duck_l4_eq f _ _ _) ?_
    have ew : IntKind.i64.wrap ((s : Int) + 1) = ((s + 1 : Nat) : Int) := by rw [wrap_id (by omega) (by omega)]; omega
    simp only [ew, take_all]
    unfold dz
    by_cases c : 1 < q.length
    · rw [if_pos c]
      refine Ev.yes (by simp; omega) ?_
      cases hf : ((s : Int).tmod 2 == 1) with
      | true =>
        rw [hf] at h ih
        refine Ev.yes (by (first | (simp [rowMax_eq]; done) | (simp [rowMax_eq]; omega) | omega)) (Ev.yes (by (first | (simp [rowMax_eq]; done) | (simp [rowMax_eq]; omega) | omega)) (Ev.yes (by (first | (simp [rowMax_eq]; done) | (simp [rowMax_eq]; omega) | omega)) (Ev.yes (by (first | (simp [rowMax_eq]; done) | (simp [rowMax_eq]; omega) | omega)) (Ev.yes rfl ?_))))
        refine Ev.yes (by (first | (simp [rowMax_eq]; done) | (simp [rowMax_eq]; omega) | omega)) ?_
        exact ih (q.drop 1) (q.getD 0 0 :: out) (by simp; omega) (by simp at h ⊢; omega) (by simp; omega)
      | false =>
        rw [hf] at h ih
        refine Ev.yes (by (first | (simp [rowMax_eq]; done) | (simp [rowMax_eq]; omega) | omega)) (Ev.yes (by (first | (simp [rowMax_eq]; done) | (simp [rowMax_eq]; omega) | omega)) (Ev.yes (by (first | (simp [rowMax_eq]; done) | (simp [rowMax_eq]; omega) | omega)) (Ev.yes (by (first | (simp [rowMax_eq]; done) | (simp [rowMax_eq]; omega) | omega)) (Ev.no rfl ?_))))
        refine Ev.yes (by (first | (simp [rowMax_eq]; done) | (simp [rowMax_eq]; omega) | omega)) ?_
        exact ih (q.drop 1 ++ [q.getD 0 0]) out (by simp) (by simp at h ⊢; omega) (by simp; omega)
    · rw [if_neg c]
      refine Ev.no (by simp; omega) ?_
      (repeat (first | refine Ev.yes (by (first | (simp [rowMax_eq]; done) | (simp [rowMax_eq]; omega) | omega)) ?_ | refine Ev.no (by (first | (simp [rowMax_eq]; done) | (simp [rowMax_eq]; omega) | omega)) ?_))
      exact Ev.pure _
theorem i_dealt_l4_ev : ∀ (n : Nat) (f : Bool) (q out : List Int), 1 ≤ q.length → 2 * q.length + (bif f then 0 else 1) ≤ n → q.length + out.length ≤ 12 →
    ∃ y, Ev (fun k => i_dealt_l4 k f out q) y ∧ y.reverse = dz n f q out.reverse ∧ y.length = q.length + out.length
  | 0, f, q, out, h1, h, ho => by omega
  | n + 1, f, q, out, h1, h, ho => by
    have ih := fun f q out h1 h ho => i_dealt_l4_ev n f q out h1 h ho
    unfold dz
    by_cases c : 1 < q.length
    · rw [if_pos c]
      cases f with
      | true =>
        obtain ⟨y, e1, e2, e3⟩ := ih false (q.drop 1) (out ++ [q.getD 0 0]) (by simp; omega) (by simp at h ⊢; omega) (by simp; omega)
        refine ⟨y, Ev.step (fun k => i_dealt_l4_eq k _ _ _) ?_, ?_, by simp at e3; omega⟩
        · simp only [take_all]
          refine Ev.yes (by simp; omega) (Ev.yes rfl ?_)
          (repeat (first | refine Ev.yes (by (first | (simp [rowMax_eq]; done) | (simp [rowMax_eq]; omega) | omega)) ?_ | refine Ev.no (by (first | (simp [rowMax_eq]; done) | (simp [rowMax_eq]; omega) | omega)) ?_))
          exact e1
        · rw [e2]; simp
      | false =>
        obtain ⟨y, e1, e2, e3⟩ := ih true (q.drop 1 ++ [q.getD 0 0]) out (by simp) (by simp at h ⊢; omega) (by simp; omega)
        refine ⟨y, Ev.step (fun k => i_dealt_l4_eq k _ _ _) ?_, ?_, by simp at e3; omega⟩
        · have ed : (q ++ [q.getD 0 0]).drop 1 = q.drop 1 ++ [q.getD 0 0] := List.drop_append_of_le_length h1
          simp only [take_all, ed]
          refine Ev.yes (by simp; omega) (Ev.no rfl ?_)
          (repeat (first | refine Ev.yes (by (first | (simp [rowMax_eq]; done) | (simp [rowMax_eq]; omega) | omega)) ?_ | refine Ev.no (by (first | (simp [rowMax_eq]; done) | (simp [rowMax_eq]; omega) | omega)) ?_))
          exact e1
        · rw [e2]; rfl
    · rw [if_neg c]
      match q, h1, c with
      | [x], _, _ =>
        refine ⟨out ++ [x], Ev.step (fun k => i_dealt_l4_eq k _ _ _) (Ev.no (by simp) (Ev.yes (by (first | (simp [rowMax_eq]; done) | (simp [rowMax_eq]; omega) | omega)) (Ev.some rfl))), by simp, by simp; omega⟩
      | _ :: _ :: _, _, c => simp at c
end Qq
namespace Qq
open Go Go.Vt Pt
set_option linter.unusedVariables false
set_option linter.unusedSimpArgs false
def lessL : List Int → List Int → Bool
  | [], b => decide (0 < b.length)
  | _ :: _, [] => false
  | x :: a, y :: b => if x = y then lessL a b else decide (x < y)
def cmpL : List Int → List Int → Int
  | [], b => if 0 < b.length then -1 else 0
  | _ :: _, [] => 1
  | x :: a, y :: b => if x = y then cmpL a b else if x < y then -1 else 1
theorem cmpL_less : ∀ a b, decide (cmpL a b ≥ 0) = !lessL a b
  | [], [] => rfl
  | [], _ :: _ => by simp [cmpL, lessL]
  | _ :: _, [] => rfl
  | x :: a, y :: b => by
    unfold cmpL lessL
    by_cases h : x = y
    · rw [if_pos h, if_pos h, cmpL_less a b]
    · rw [if_neg h, if_neg h]
      by_cases h2 : x < y
      · simp [h2]
      · simp [h2]
theorem drop_len {α : Type} {xs r : List α} {i : Nat} (h : xs.drop i = r) : xs.length - i = r.length := by rw [← h, List.length_drop]
theorem s_l05Less_l2_ev (xs ys : List Int) (hm : xs.length ≤ maxLen) (hy : ys.length ≤ maxLen) : ∀ (r s : List Int) (i : Nat), i ≤ xs.length → xs.drop i = r → ys.drop i = s → Ev (fun k => s_l05Less_l2 k xs ys xs (xs.length : Int) (i : Int)) (lessL r s)
  | [], s, i, hi, h, h2 => by
    have a := at_nil h
    have := a.ge
    have hl := drop_len h2
    refine Ev.step (fun k => s_l05Less_l2_eq k _ _ _ _ _) ?_
    simp only [a.g, cond_false]
    refine Ev.some ?_
    unfold lessL
    rw [Bool.eq_iff_iff]; simp; omega
  | x :: r, [], i, hi, h, h2 => by
    have a := at_cons h hm
    have b := at_nil h2
    refine Ev.step (fun k => s_l05Less_l2_eq k _ _ _ _ _) ?_
    simp only [a.g, a.z, cond_true]
    refine Ev.yes (by have := b.ge; simp; omega) (Ev.some rfl)
  | x :: r, y :: s, i, hi, h, h2 => by
    have a := at_cons h hm
    have b := at_cons h2 hy
    have hlt := a.lt
    have ih := s_l05Less_l2_ev xs ys hm hy r s (i + 1) (by omega) a.next b.next
    refine Ev.step (fun k => s_l05Less_l2_eq k _ _ _ _ _) ?_
    simp only [a.g, a.z, a.get, a.w, cond_true]
    refine Ev.no (by have := b.lt; simp; omega) ?_
    simp only [b.g, b.get, cond_true]
    unfold lessL
    refine Ev.ite (fun c => Ev.some ?_) (fun c => ih.to ?_)
    · have : ¬ x = y := by simpa using c
      rw [if_neg this]
    · have : x = y := by simpa using c
      rw [if_pos this]
theorem s_l05Less_ev (xs ys : List Int) (hm : xs.length ≤ maxLen) (hy : ys.length ≤ maxLen) : Ev (fun k => s_l05Less k (xs, ys)) (lessL xs ys) :=
  Ev.step (fun k => s_l05Less_eq k xs ys) (s_l05Less_l2_ev xs ys hm hy xs ys 0 (by omega) rfl rfl)
theorem cmp_int_ev (x y : Int) : Ev (fun k => cmp_Compare_int k (x, y)) (if x < y then -1 else if x > y then 1 else 0) := by
  have hn : ∀ z : Int, Ev (fun k => cmp_isNaN_int k z) false := fun z => Ev.step (fun k => cmp_isNaN_int_eq k z) (Ev.some (by simp))
  refine Ev.step (fun k => cmp_Compare_int_eq k x y) (Ev.bind (hn x) (Ev.bind (hn y) (Ev.no rfl (Ev.no rfl (Ev.ite (fun c => Ev.some ?_) (fun c => Ev.ite (fun c2 => Ev.some ?_) (fun c2 => Ev.some ?_)))))))
  · have : x < y := by simpa using c
    rw [if_pos this]
  · have h1 : ¬ x < y := by simpa using c
    have h2 : x > y := by simpa using c2
    rw [if_neg h1, if_pos h2]
  · have h1 : ¬ x < y := by simpa using c
    have h2 : ¬ x > y := by simpa using c2
    rw [if_neg h1, if_neg h2]
theorem Compare_l2_ev (xs ys : List Int) (hm : xs.length ≤ maxLen) (hy : ys.length ≤ maxLen) : ∀ (r s : List Int) (i : Nat), i ≤ xs.length → xs.drop i = r → ys.drop i = s → Ev (fun k => slices_Compare_int_l2 k xs ys xs (xs.length : Int) (i : Int)) (cmpL r s)
  | [], s, i, hi, h, h2 => by
    have a := at_nil h
    have := a.ge
    have hl := drop_len h2
    refine Ev.step (fun k => slices_Compare_int_l2_eq k _ _ _ _ _) ?_
    simp only [a.g, cond_false]
    unfold cmpL
    refine Ev.ite (fun c => Ev.some ?_) (fun c => Ev.some ?_)
    · rw [if_pos (by simp at c; omega)]
    · rw [if_neg (by simp at c; omega)]
  | x :: r, [], i, hi, h, h2 => by
    have a := at_cons h hm
    have b := at_nil h2
    refine Ev.step (fun k => slices_Compare_int_l2_eq k _ _ _ _ _) ?_
    simp only [a.g, a.z, cond_true]
    refine Ev.yes (by have := b.ge; simp; omega) (Ev.some rfl)
  | x :: r, y :: s, i, hi, h, h2 => by
    have a := at_cons h hm
    have b := at_cons h2 hy
    have hlt := a.lt
    have ih := Compare_l2_ev xs ys hm hy r s (i + 1) (by omega) a.next b.next
    refine Ev.step (fun k => slices_Compare_int_l2_eq k _ _ _ _ _) ?_
    simp only [a.g, a.z, a.get, a.w, cond_true]
    refine Ev.no (by have := b.lt; simp; omega) ?_
    simp only [b.g, b.get, cond_true]
    unfold cmpL
    refine Ev.bind (cmp_int_ev x y) (Ev.ite (fun c => Ev.some ?_) (fun c => ih.to ?_))
    · by_cases h3 : x < y
      · rw [if_pos h3, if_neg (by omega), if_pos h3]
      · by_cases h4 : x > y
        · rw [if_neg h3, if_pos h4, if_neg (by omega), if_neg h3]
        · rw [if_neg h3, if_neg h4] at c; simp at c
    · have : x = y := by
        by_cases h3 : x < y
        · rw [if_pos h3] at c; simp at c
        · by_cases h4 : x > y
          · rw [if_neg h3, if_pos h4] at c; simp at c
          · omega
      rw [if_pos this]
theorem Compare_ev (xs ys : List Int) (hm : xs.length ≤ maxLen) (hy : ys.length ≤ maxLen) : Ev (fun k => slices_Compare_int k (xs, ys)) (cmpL xs ys) :=
  Ev.step (fun k => slices_Compare_int_eq k xs ys) (Compare_l2_ev xs ys hm hy xs ys 0 (by omega) rfl rfl)
abbrev Packs : Type := List (List Int)
/-- Numbers and lengths are such as a machine bears. -/
def FitS (l : Packs) : Prop := l.length ≤ maxLen ∧ ∀ p ∈ l, p.length ≤ maxLen ∧ Ins p
theorem FitS.of {l : Packs} (h : Fits (.slice (.slice (.int .i64))) l) : FitS l :=
  ⟨h.1, fun p hp => ⟨(h.2 p hp).1, fun x hx => In.of_fits ((h.2 p hp).2 x hx)⟩⟩
def kF (p0 : List Int) : Option (List Int) → Packs → Bool
  | _, [] => true
  | pv, q :: r => isArr p0 q && ((match pv with | none => true | some p => lessL p q) && kF p0 (some q) r)
def knowOk (l : Packs) : Bool := match l with
  | [] => false
  | p0 :: _ => decide (l.length ≤ 3000) && (!(p0.length == 0) && kF p0 none l)
def prev (l : Packs) (i : Nat) : Option (List Int) := if i = 0 then none else some (l.getD (i - 1) [])
theorem prev_next {l : Packs} {i : Nat} {q : List Int} {r : Packs} (a : AtCons l i q r) : prev l (i + 1) = some q := by
  unfold prev
  rw [if_neg (by omega), show i + 1 - 1 = i by omega, a.gt]
theorem prev_get {l : Packs} {i : Nat} (h : 0 < i) (hi : (i : Int) ≤ 9223372036854775807) : prev l i = some (l.getD (IntKind.i64.wrap ((i : Int) - 1)).toNat []) := by
  unfold prev
  rw [if_neg (by omega), wrap_id (by omega) (by omega), show ((i : Int) - 1).toNat = i - 1 by omega]
theorem i_KnowOk_l4_ev (l : Packs) (p0 : List Int) (hf : FitS l) (h0 : l.getD 0 [] = p0) (hl : 0 < l.length) : ∀ (r : Packs) (i : Nat), l.drop i = r → Ev (fun k => i_KnowOk_l4 k l l (l.length : Int) (i : Int)) (kF p0 (prev l i) r)
  | [], i, h => by
    have a := at_nil h
    refine Ev.step (fun k => i_KnowOk_l4_eq k _ _ _ _) ?_
    simp only [a.g, cond_false]
    exact Ev.pure _
  | q :: r, i, h => by
    have a := at_cons h hf.1
    have hlt := a.lt
    have hm1 := hf.1
    rw [maxLen_eq] at hm1
    have ih := i_KnowOk_l4_ev l p0 hf h0 hl r (i + 1) a.next
    rw [prev_next a] at ih
    have hp0 : p0 ∈ l := by rw [← h0]; simp [List.getD, hl]
    refine Ev.step (fun k => i_KnowOk_l4_eq k _ _ _ _) ?_
    simp only [a.g, a.z, a.get, a.w, h0, cond_true]
    refine Ev.yes (by simp; omega) ?_
    unfold kF
    refine Ev.bind (i_IsArrangement_ev p0 q (hf.2 p0 hp0).1 (hf.2 p0 hp0).2 (hf.2 q a.mem).1 (hf.2 q a.mem).2) (Ev.ite (fun c => Ev.some ?_) (fun c => Ev.ite (fun c2 => ?_) (fun c2 => ih.to ?_)))
    · have : isArr p0 q = false := by simpa using c
      rw [this]; rfl
    · have c1 : isArr p0 q = true := by simpa using c
      have hi : 0 < i := by simp at c2; omega
      rw [prev_get hi (by omega)]
      have w1 : IntKind.i64.wrap ((i : Int) - 1) = ((i - 1 : Nat) : Int) := by rw [wrap_id (by omega) (by omega)]; omega
      rw [w1]
      refine Ev.yes (by simp) (Ev.yes (by simp; omega) ?_)
      rw [Int.toNat_natCast]
      have hmem : l.getD (i - 1) [] ∈ l := by
        have : i - 1 < l.length := by omega
        simp [List.getD, this]
      refine Ev.bind (Compare_ev _ q (hf.2 _ hmem).1 (hf.2 q a.mem).1) (Ev.ite (fun c3 => Ev.some ?_) (fun c3 => ih.to ?_))
      · rw [cmpL_less] at c3
        have : lessL (l.getD (i - 1) []) q = false := by simpa using c3
        simp only [this, Bool.false_and, Bool.and_false]
      · rw [cmpL_less] at c3
        have : lessL (l.getD (i - 1) []) q = true := by simpa using c3
        simp only [c1, this, Bool.true_and]
    · have c1 : isArr p0 q = true := by simpa using c
      have hi : i = 0 := by simp at c2; omega
      subst hi
      simp [prev, c1]
theorem i_KnowOk_ev (l : Packs) (hf : FitS l) : Ev (fun k => i_KnowOk k l) (knowOk l) := by
  refine Ev.step (fun k => i_KnowOk_eq k l) ?_
  cases l with
  | nil => exact Ev.yes (by simp) (Ev.some rfl)
  | cons p0 r =>
    unfold knowOk
    refine Ev.no (by simp; omega) (Ev.ite (fun c => Ev.some ?_) (fun c => Ev.yes (by simp) (Ev.ite (fun c2 => Ev.some ?_) (fun c2 => ?_))))
    · have : ¬ (p0 :: r).length ≤ 3000 := by simp at c ⊢; omega
      simp only [this, decide_false, Bool.false_and]
    · have : (p0.length == 0) = true := by simpa using c2
      simp [this]
    · have e1 : (p0 :: r).length ≤ 3000 := by simp at c ⊢; omega
      have e2 : (p0.length == 0) = false := by simpa using c2
      simp only [e1, e2, decide_true, Bool.true_and, Bool.not_false]
      exact i_KnowOk_l4_ev (p0 :: r) p0 hf rfl (by simp) (p0 :: r) 0 rfl
theorem kF_arr (p0 : List Int) : ∀ (r : Packs) (pv : Option (List Int)), kF p0 pv r = true → ∀ q ∈ r, isArr p0 q = true
  | [], _, _, q, h => by cases h
  | p :: r, pv, h, q, hq => by
    unfold kF at h
    simp only [Bool.and_eq_true] at h
    rcases List.mem_cons.1 hq with rfl | hq
    · exact h.1
    · exact kF_arr p0 r _ h.2.2 q hq
theorem isArr_fit {p q : List Int} (h : isArr p q = true) : packetOk p = true ∧ packetOk q = true ∧ p.length = q.length ∧ ∀ x ∈ p, 0 ≤ pos q (card x) := by
  unfold isArr at h
  simp only [Bool.and_eq_true, beq_iff_eq, List.all_eq_true, decide_eq_true_eq] at h
  exact ⟨h.1, h.2.1, h.2.2.1, h.2.2.2⟩
/-- All have as many cards as the first, at most 12 and at least one. -/
theorem know_fit {p0 : List Int} {r : Packs} (h : knowOk (p0 :: r) = true) : (p0 :: r).length ≤ 3000 ∧ 1 ≤ p0.length ∧ p0.length ≤ 12 ∧ ∀ q ∈ p0 :: r, packetOk q = true ∧ q.length = p0.length := by
  unfold knowOk at h
  simp only [Bool.and_eq_true, decide_eq_true_eq] at h
  have hk := kF_arr p0 _ _ h.2.2
  have h1 := isArr_fit (hk p0 (by simp))
  have h2 := (packetOk_fit h1.1).2.2
  refine ⟨h.1, ?_, h2, fun q hq => ?_⟩
  · have := h.2.1
    simp at this
    exact List.length_pos_iff.2 this
  · have := isArr_fit (hk q hq)
    exact ⟨this.2.1, this.2.2.1.symm⟩
end Qq
namespace Qq
open Go Go.Vt Pt
set_option linter.unusedVariables false
set_option linter.unusedSimpArgs false
theorem getD_in {p : List Int} (h : Ins p) (i : Nat) : In (p.getD i 0) := by
  rw [List.getD]
  cases hi : p[i]? with
  | none => exact ⟨by decide, by decide⟩
  | some x => exact h x (List.mem_of_getElem? hi)
end Qq
namespace Qq
open Go Go.Vt Pt
set_option linter.unusedVariables false
set_option linter.unusedSimpArgs false
set_option linter.unnecessarySimpa false
theorem Concat_l11_ev (ls : List (List Int)) (hl : ls.length ≤ maxLen) : ∀ (r : List (List Int)) (i : Nat) (out : List Int), ls.drop i = r → out.length + r.flatten.length ≤ 1048576 → Ev (fun k => slices_Concat_int_l11 k ls (ls.length : Int) (i : Int) out) (out ++ r.flatten)
  | [], i, out, h, ho => by
    have a := at_nil h
    refine Ev.step (fun k => slices_Concat_int_l11_eq k _ _ _ _) ?_
    simp only [a.g, cond_false]
    exact Ev.some (by simp)
  | x :: r, i, out, h, ho => by
    have a := at_cons h hl
    have hlt := a.lt
    simp only [List.flatten_cons, List.length_append] at ho
    refine Ev.step (fun k => slices_Concat_int_l11_eq k _ _ _ _) ?_
    simp only [a.g, a.z, a.get, a.w, cond_true]
    refine Ev.yes (by rw [rowMax_eq]; exact decide_eq_true (by omega)) ?_
    exact (Concat_l11_ev ls hl r (i + 1) (out ++ x) a.next (by simp; simp at ho; omega)).to (by simp)
theorem Concat_l3_ev (ls : List (List Int)) (hl : ls.length ≤ maxLen) (ht : ls.flatten.length ≤ 1048576) : ∀ (r : List (List Int)) (i : Nat) (n : Nat), ls.drop i = r → n + r.flatten.length ≤ 1048576 → Ev (fun k => slices_Concat_int_l3 k ls (n : Int) ls (ls.length : Int) (i : Int)) ls.flatten
  | [], i, n, h, hn => by
    have a := at_nil h
    refine Ev.step (fun k => slices_Concat_int_l3_eq k _ _ _ _ _) ?_
    simp only [a.g, cond_false]
    have hg : Ev (fun k => slices_Grow_int k ([], (n : Int))) [] := Ev.congr (fun k => slices_Grow_int_eq k [] (n : Int)) (by
      show Ev (fun _ => growF (n : Int)) []
      unfold growF
      simp at hn
      exact Ev.yes (by simp; omega) (Ev.pure _))
    exact Ev.bind hg ((Concat_l11_ev ls hl ls 0 [] rfl (by simpa using ht)).to (by simp))
  | x :: r, i, n, h, hn => by
    have a := at_cons h hl
    have hlt := a.lt
    simp only [List.flatten_cons, List.length_append] at hn
    refine Ev.step (fun k => slices_Concat_int_l3_eq k _ _ _ _ _) ?_
    have e : (n : Int) + (x.length : Int) = ((n + x.length : Nat) : Int) := by omega
    simp only [a.g, a.z, a.get, a.w, cond_true, e, wrap_id (x := ((n + x.length : Nat) : Int)) (by omega) (by omega)]
    refine Ev.no (by simp; omega) ?_
    exact Concat_l3_ev ls hl ht r (i + 1) (n + x.length) a.next (by omega)
theorem Concat_ev (ls : List (List Int)) (hl : ls.length ≤ maxLen) (ht : ls.flatten.length ≤ 1048576) : Ev (fun k => slices_Concat_int k ls) ls.flatten :=
  Ev.step (fun k => slices_Concat_int_eq k _) (Concat_l3_ev ls hl ht ls 0 0 rfl (by omega))
theorem reversed_ev (p : List Int) (hp : p.length ≤ 1048576) : Ev (fun k => i_reversed k p) p.reverse := by
  have hr : Ev (fun k => slices_Reverse_int k p) ((), p.reverse) := Ev.congr (fun k => slices_Reverse_int_eq k p) (by
    unfold reverseF
    exact Ev.yes (by simp; omega) (Ev.pure _))
  exact Ev.step (fun k => i_reversed_eq k _) (Ev.bind (Clone_int_ev p hp) (Ev.bind hr (Ev.pure _)))
theorem i_moved_l10_ev (K : Nat) : ∀ (m : Nat) (pre r : List Int), m ≤ r.length → pre.length + m = K → pre.length + r.length ≤ 12 → Ins r → Ev (fun k => i_moved_l10 k (K : Int) (pre.length : Int) (pre ++ r)) (pre ++ (r.take m).map turn ++ r.drop m)
  | 0, pre, r, hm, hK, h12, hi => by
    refine Ev.step (fun k => i_moved_l10_eq k _ _ _) (Ev.no (by simp; omega) (Ev.some (by simp)))
  | m + 1, pre, [], hm, hK, h12, hi => by simp at hm
  | m + 1, pre, x :: r, hm, hK, h12, hi => by
    simp at hm h12
    have hx : In x := hi x (by simp)
    have hg : (pre ++ x :: r).getD (pre.length : Int).toNat 0 = x := by simp [List.getD]
    have hs : (pre ++ x :: r).set (pre.length : Int).toNat (turn x) = pre ++ turn x :: r := by simp
    have ew : IntKind.i64.wrap ((pre.length : Int) + 1) = ((pre.length + 1 : Nat) : Int) := by rw [wrap_id (by omega) (by omega)]; omega
    refine Ev.step (fun k => i_moved_l10_eq k _ _ _) ?_
    simp only [hg, hs, ew]
    refine Ev.yes (by simp; omega) (Ev.yes (by simp) (Ev.yes (by (first | (simp [rowMax_eq]; done) | (simp [rowMax_eq]; omega) | omega)) (Ev.yes (by (first | (simp [rowMax_eq]; done) | (simp [rowMax_eq]; omega) | omega)) (Ev.bind (i_TurnCard_ev x hx) ?_))))
    simp only [hs]
    refine Ev.yes (by simp) (Ev.yes (by (first | (simp [rowMax_eq]; done) | (simp [rowMax_eq]; omega) | omega)) (Ev.yes (by (first | (simp [rowMax_eq]; done) | (simp [rowMax_eq]; omega) | omega)) ?_))
    have := i_moved_l10_ev K m (pre ++ [turn x]) r hm (by simp; omega) (by simp; omega) (fun y hy => hi y (by simp [hy]))
    simp only [List.length_append, List.length_singleton, List.append_assoc, List.singleton_append] at this
    exact this.to (by simp)
def doMove (p : List Int) (m : Int × Int) : List Int :=
  if m.1 = 1 then p.drop m.2.toNat ++ p.take m.2.toNat
  else if m.1 = 2 then (p.take m.2.toNat).reverse ++ p.drop m.2.toNat
  else if m.1 = 3 then (p.take m.2.toNat).reverse.map turn ++ p.drop m.2.toNat
  else if m.1 = 4 then faroL p m.2
  else if m.1 = 5 then mz m.2 0 p []
  else if m.1 = 6 then kz p.length p []
  else if m.1 = 7 then dz (2 * p.length + 1) (m.2 == 1) p []
  else if m.1 = 8 then p.set m.2.toNat (turn (p.getD m.2.toNat 0))
  else p.take m.2.toNat ++ p.drop (m.2.toNat + 1) ++ [p.getD m.2.toNat 0]
structure MoveFit (n : Nat) (m : Int × Int) : Prop where
  n1 : 1 ≤ n
  n12 : n ≤ 12
  k0 : 0 ≤ m.2
  kn : m.2 ≤ n ∨ m.2 ≤ 1
  c : m.1 = 1 ∨ m.1 = 2 ∨ m.1 = 3 → m.2 ≤ n
  f : m.1 = 4 ∨ m.1 = 5 ∨ m.1 = 7 → m.2 = 0 ∨ m.2 = 1
  t : m.1 ≠ 1 → m.1 ≠ 2 → m.1 ≠ 3 → m.1 ≠ 4 → m.1 ≠ 5 → m.1 ≠ 6 → m.1 ≠ 7 → m.2 < n
theorem moveOk_fit {n : Nat} {m : Int × Int} (h : moveOk (n : Int) m = true) : MoveFit n m := by
  unfold moveOk at h
  simp only [Bool.and_eq_true, decide_eq_true_eq] at h
  obtain ⟨h1, h2, h3, h4⟩ := h
  have key : (m.1 = 1 ∧ m.2 ≤ n) ∨ (m.1 = 2 ∧ m.2 ≤ n) ∨ (m.1 = 3 ∧ m.2 ≤ n) ∨ (m.1 = 4 ∧ m.2 ≤ 1) ∨ (m.1 = 5 ∧ m.2 ≤ 1) ∨ (m.1 = 7 ∧ m.2 ≤ 1) ∨ (m.1 = 6 ∧ m.2 = 0) ∨ (m.1 = 8 ∧ m.2 < n) ∨ (m.1 = 9 ∧ m.2 < n) := by
    repeat' (split at h4)
    all_goals simp at h4
    all_goals simp [*]
  exact ⟨by omega, by omega, h3, by omega, by omega, by omega, by omega⟩
theorem s_l04Do_ev (p : List Int) (m : Int × Int) (h : MoveFit p.length m) (hi : Ins p) : Ev (fun k => s_l04Do k (p, m)) (doMove p m) := by
  have hp := h.n12
  have hp1 := h.n1
  obtain ⟨a, b⟩ := m
  have h0 := h.k0
  obtain ⟨j, rfl⟩ : ∃ j : Nat, b = (j : Int) := ⟨b.toNat, by have := h0; simp at this; omega⟩
  have hc := h.c
  have hf := h.f
  have ht := h.t
  dsimp only at hc hf ht
  clear h h0
  refine Ev.step (fun k => s_l04Do_eq k p (a, (j : Int))) ?_
  unfold doMove
  simp only [take_all, Int.toNat_natCast, List.take_length, List.drop_zero, List.nil_append]
  refine Ev.ite (fun c => ?_) (fun c1 => Ev.ite (fun c => ?_) (fun c2 => Ev.ite (fun c => ?_) (fun c3 => Ev.ite (fun c => ?_) (fun c4 => Ev.ite (fun c => ?_) (fun c5 => Ev.ite (fun c => ?_) (fun c6 => Ev.ite (fun c => ?_) (fun c7 => Ev.ite (fun c => ?_) (fun c8 => ?_))))))))
  all_goals simp only [beq_iff_eq, beq_eq_false_iff_ne, ne_eq] at *
  · have := hc (by omega)
    rw [if_pos c]
    (repeat (first | refine Ev.yes (by (first | (simp [rowMax_eq]; done) | (simp [rowMax_eq]; omega) | omega)) ?_ | refine Ev.no (by (first | (simp [rowMax_eq]; done) | (simp [rowMax_eq]; omega) | omega)) ?_))
    exact Ev.pure _
  · have := hc (by omega)
    rw [if_neg c1, if_pos c]
    exact Ev.bind (s_l04Back_ev p hp hi j (by omega) false) (Ev.some (by simp))
  · have := hc (by omega)
    rw [if_neg c1, if_neg c2, if_pos c]
    exact Ev.bind (s_l04Back_ev p hp hi j (by omega) true) (Ev.some (by simp))
  · rw [if_neg c1, if_neg c2, if_neg c3, if_pos c]
    exact Ev.bind (s_l04Faro_ev p hp _ (hf (by omega))) (Ev.pure _)
  · rw [if_neg c1, if_neg c2, if_neg c3, if_neg c4, if_pos c]
    exact Ev.bind (Ev.step (fun k => s_l04Monge_eq k _ _) (s_l04Monge_l3_ev p hp _ (hf (by omega)) p 0 [] rfl rfl)) (Ev.pure _)
  · rw [if_neg c1, if_neg c2, if_neg c3, if_neg c4, if_neg c5, if_pos c]
    exact Ev.bind (Ev.step (fun k => s_l04Milk_eq k _) (s_l04Milk_l2_ev p.length p [] (Nat.le_refl _) (by simp; omega))) (Ev.pure _)
  · rw [if_neg c1, if_neg c2, if_neg c3, if_neg c4, if_neg c5, if_neg c6, if_pos c]
    have hj := hf (by omega)
    have e : ((j : Int).tmod 2 == 1) = ((j : Int) == 1) := by rcases hj with hj | hj <;> rw [hj] <;> rfl
    have hd := s_l04Duck_l4_ev (2 * p.length + 1) j p [] hp1 (by cases ((j : Int).tmod 2 == 1) <;> simp) (by simp; omega) (by omega)
    rw [e] at hd
    refine Ev.bind (Ev.step (fun k => s_l04Duck_eq k _ _) (Ev.yes (by (first | (simp [rowMax_eq]; done) | (simp [rowMax_eq]; omega) | omega)) ?_)) (Ev.pure _)
    rw [List.nil_append]
    exact hd
  · rw [if_neg c1, if_neg c2, if_neg c3, if_neg c4, if_neg c5, if_neg c6, if_neg c7, if_pos c]
    have := ht c1 c2 c3 c4 c5 c6 c7
    have hin : In (p.getD j 0) := getD_in hi _
    (repeat (first | refine Ev.yes (by (first | (simp [rowMax_eq]; done) | (simp [rowMax_eq]; omega) | omega)) ?_ | refine Ev.no (by (first | (simp [rowMax_eq]; done) | (simp [rowMax_eq]; omega) | omega)) ?_))
    refine Ev.bind (s_TurnCard_ev _ hin) ?_
    (repeat (first | refine Ev.yes (by (first | (simp [rowMax_eq]; done) | (simp [rowMax_eq]; omega) | omega)) ?_ | refine Ev.no (by (first | (simp [rowMax_eq]; done) | (simp [rowMax_eq]; omega) | omega)) ?_))
    exact Ev.pure _
  · rw [if_neg c1, if_neg c2, if_neg c3, if_neg c4, if_neg c5, if_neg c6, if_neg c7, if_neg c8]
    have := ht c1 c2 c3 c4 c5 c6 c7
    have e : IntKind.i64.wrap ((j : Int) + 1) = ((j + 1 : Nat) : Int) := by rw [wrap_id (by omega) (by omega)]; omega
    simp only [e, Int.toNat_natCast]
    (repeat (first | refine Ev.yes (by (first | (simp [rowMax_eq]; done) | (simp [rowMax_eq]; omega) | omega)) ?_ | refine Ev.no (by (first | (simp [rowMax_eq]; done) | (simp [rowMax_eq]; omega) | omega)) ?_))
    exact Ev.pure _
theorem i_moved_ev (p : List Int) (m : Int × Int) (h : MoveFit p.length m) (hi : Ins p) : Ev (fun k => i_moved k (p, m)) (doMove p m) := by
  have hp := h.n12
  have hp1 := h.n1
  obtain ⟨a, b⟩ := m
  have h0 := h.k0
  obtain ⟨j, rfl⟩ : ∃ j : Nat, b = (j : Int) := ⟨b.toNat, by have := h0; simp at this; omega⟩
  have hc := h.c
  have hf := h.f
  have ht := h.t
  dsimp only at hc hf ht
  clear h h0
  refine Ev.step (fun k => i_moved_eq k p (a, (j : Int))) ?_
  unfold doMove
  simp only [take_all, Int.toNat_natCast, List.take_length, List.drop_zero, List.nil_append]
  have hlen2 : ∀ (x y : List Int), x.length + y.length ≤ 1048576 → Ev (fun k => slices_Concat_int k [x, y]) (x ++ y) := fun x y hxy => (Concat_ev [x, y] (by rw [maxLen_eq]; simp) (by simpa using hxy)).to (by simp)
  refine Ev.ite (fun c => ?_) (fun c1 => Ev.ite (fun c => ?_) (fun c2 => Ev.ite (fun c => ?_) (fun c3 => Ev.ite (fun c => ?_) (fun c4 => Ev.ite (fun c => ?_) (fun c5 => Ev.ite (fun c => ?_) (fun c6 => Ev.ite (fun c => ?_) (fun c7 => Ev.ite (fun c => ?_) (fun c8 => ?_))))))))
  all_goals simp only [beq_iff_eq, beq_eq_false_iff_ne, ne_eq] at *
  · have := hc (by omega)
    rw [if_pos c]
    (repeat (first | refine Ev.yes (by (first | (simp [rowMax_eq]; done) | (simp [rowMax_eq]; omega) | omega)) ?_ | refine Ev.no (by (first | (simp [rowMax_eq]; done) | (simp [rowMax_eq]; omega) | omega)) ?_))
    exact Ev.bind (hlen2 _ _ (by simp; omega)) (Ev.pure _)
  · have := hc (by omega)
    rw [if_neg c1, if_pos c]
    (repeat (first | refine Ev.yes (by (first | (simp [rowMax_eq]; done) | (simp [rowMax_eq]; omega) | omega)) ?_ | refine Ev.no (by (first | (simp [rowMax_eq]; done) | (simp [rowMax_eq]; omega) | omega)) ?_))
    refine Ev.bind (reversed_ev _ (by simp; omega)) ?_
    (repeat (first | refine Ev.yes (by (first | (simp [rowMax_eq]; done) | (simp [rowMax_eq]; omega) | omega)) ?_ | refine Ev.no (by (first | (simp [rowMax_eq]; done) | (simp [rowMax_eq]; omega) | omega)) ?_))
    exact Ev.bind (hlen2 _ _ (by simp; omega)) (Ev.pure _)
  · have := hc (by omega)
    rw [if_neg c1, if_neg c2, if_pos c]
    (repeat (first | refine Ev.yes (by (first | (simp [rowMax_eq]; done) | (simp [rowMax_eq]; omega) | omega)) ?_ | refine Ev.no (by (first | (simp [rowMax_eq]; done) | (simp [rowMax_eq]; omega) | omega)) ?_))
    refine Ev.bind (reversed_ev _ (by simp; omega)) ?_
    (repeat (first | refine Ev.yes (by (first | (simp [rowMax_eq]; done) | (simp [rowMax_eq]; omega) | omega)) ?_ | refine Ev.no (by (first | (simp [rowMax_eq]; done) | (simp [rowMax_eq]; omega) | omega)) ?_))
    refine Ev.bind (hlen2 _ _ (by simp; omega)) ?_
    have hr : (p.take j).reverse.length = j := by simp; omega
    have := i_moved_l10_ev j j [] ((p.take j).reverse ++ p.drop j) (by simp; omega) (by simp) (by simp; omega) (fun x hx => by
      rcases List.mem_append.1 hx with h | h
      · exact hi x (List.mem_of_mem_take (List.mem_reverse.1 h))
      · exact hi x (List.mem_of_mem_drop h))
    refine this.to ?_
    rw [List.nil_append, List.take_append_of_le_length (by omega), List.drop_append_of_le_length (by omega), List.take_of_length_le (by omega), List.drop_eq_nil_of_le (by omega), List.nil_append]
  · rw [if_neg c1, if_neg c2, if_neg c3, if_pos c]
    exact Ev.bind (i_faro_ev p hp _) (Ev.pure _)
  · rw [if_neg c1, if_neg c2, if_neg c3, if_neg c4, if_pos c]
    exact Ev.bind (Ev.step (fun k => i_monge_eq k _ _) (i_monge_l3_ev p hp _ (hf (by omega)) p 0 [] rfl rfl)) (Ev.pure _)
  · rw [if_neg c1, if_neg c2, if_neg c3, if_neg c4, if_neg c5, if_pos c]
    exact Ev.bind (Ev.step (fun k => i_milk_eq k _) (i_milk_l2_ev p.length p [] (Nat.le_refl _) (by simp; omega))) (Ev.pure _)
  · rw [if_neg c1, if_neg c2, if_neg c3, if_neg c4, if_neg c5, if_neg c6, if_pos c]
    obtain ⟨y, e1, e2, e3⟩ := i_dealt_l4_ev (2 * p.length + 1) ((j : Int) == 1) p [] hp1 (by cases ((j : Int) == 1) <;> simp) (by simp; omega)
    refine Ev.bind (Ev.step (fun k => i_dealt_eq k _ _) (Ev.bind (Clone_int_ev p (by omega)) e1)) (Ev.bind (reversed_ev y (by simp at e3; omega)) (Ev.some ?_))
    rw [e2]; rfl
  · rw [if_neg c1, if_neg c2, if_neg c3, if_neg c4, if_neg c5, if_neg c6, if_neg c7, if_pos c]
    have := ht c1 c2 c3 c4 c5 c6 c7
    have hin : In (p.getD j 0) := getD_in hi _
    refine Ev.bind (Clone_int_ev p (by omega)) ?_
    (repeat (first | refine Ev.yes (by (first | (simp [rowMax_eq]; done) | (simp [rowMax_eq]; omega) | omega)) ?_ | refine Ev.no (by (first | (simp [rowMax_eq]; done) | (simp [rowMax_eq]; omega) | omega)) ?_))
    refine Ev.bind (i_TurnCard_ev _ hin) ?_
    (repeat (first | refine Ev.yes (by (first | (simp [rowMax_eq]; done) | (simp [rowMax_eq]; omega) | omega)) ?_ | refine Ev.no (by (first | (simp [rowMax_eq]; done) | (simp [rowMax_eq]; omega) | omega)) ?_))
    exact Ev.pure _
  · rw [if_neg c1, if_neg c2, if_neg c3, if_neg c4, if_neg c5, if_neg c6, if_neg c7, if_neg c8]
    have := ht c1 c2 c3 c4 c5 c6 c7
    have hjl : j < p.length := by omega
    have e : IntKind.i64.wrap ((j : Int) + 1) = ((j + 1 : Nat) : Int) := by rw [wrap_id (by omega) (by omega)]; omega
    simp only [e, Int.toNat_natCast]
    (repeat (first | refine Ev.yes (by (first | (simp [rowMax_eq]; done) | (simp [rowMax_eq]; omega) | omega)) ?_ | refine Ev.no (by (first | (simp [rowMax_eq]; done) | (simp [rowMax_eq]; omega) | omega)) ?_))
    refine Ev.bind ((Concat_ev [p.take j, p.drop (j + 1), (p.take (j + 1)).drop j] (by rw [maxLen_eq]; simp) (by simp; omega)).to ?_) (Ev.pure _)
    have : (p.take (j + 1)).drop j = [p.getD j 0] := by
      rw [List.take_add_one, List.getElem?_eq_getElem hjl, List.drop_append_of_le_length (by simp; omega), List.drop_eq_nil_of_le (by simp; omega)]
      simp [List.getD, hjl]
    rw [this]
    simp
end Qq
namespace Qq
open Go Go.Vt Pt
set_option linter.unusedVariables false
set_option linter.unusedSimpArgs false
theorem SamePacket_l4_ev (xs ys : List Int) (hx : xs.length ≤ maxLen) (hy : ys.length ≤ maxLen) : ∀ (r s : List Int) (i : Nat), xs.drop i = r → ys.drop i = s → s.length = r.length → Ev (fun k => s_SamePacket_l4 k ys xs (xs.length : Int) (i : Int)) (r == s)
  | [], [], i, h1, h2, hl => by
    have a := at_nil h1
    refine Ev.step (fun k => s_SamePacket_l4_eq k ys xs _ i) ?_
    simp only [a.g, cond_false]
    exact Ev.pure _
  | x :: r, y :: s, i, h1, h2, hl => by
    have a := at_cons h1 hx
    have b := at_cons h2 hy
    refine Ev.step (fun k => s_SamePacket_l4_eq k ys xs _ i) ?_
    simp only [a.g, a.z, b.g, a.get, b.get, a.w, cond_true]
    have ih := SamePacket_l4_ev xs ys hx hy r s (i + 1) a.next b.next (by simpa using hl)
    refine Ev.ite (fun h => Ev.some ?_) (fun h => ih.to ?_)
    · have : ¬ x = y := by simpa using h
      simp [this]
    · have : x = y := by simpa using h
      simp [this]
  | [], _ :: _, _, _, _, hl => by simp at hl
  | _ :: _, [], _, _, _, hl => by simp at hl
theorem SamePacket_ev (xs ys : List Int) (hx : xs.length ≤ maxLen) (hy : ys.length ≤ maxLen) : Ev (fun k => s_SamePacket k (xs, ys)) (xs == ys) := by
  refine Ev.step (fun k => s_SamePacket_eq k xs ys) (Ev.ite (fun h => Ev.some ?_) (fun h => SamePacket_l4_ev xs ys hx hy xs ys 0 rfl rfl ?_))
  · have h' : ¬ xs.length = ys.length := by simp at h; omega
    have : ¬ xs = ys := fun e => h' (by rw [e])
    simp [this]
  · simp at h; omega
end Qq
namespace Qq
open Go Go.Vt Pt
set_option linter.unusedVariables false
set_option linter.unusedSimpArgs false
set_option linter.unnecessarySimpa false
theorem cmpL_I : ∀ a b, cmpL a b = cmpI a b
  | [], _ => rfl
  | _ :: _, [] => rfl
  | x :: a, y :: b => by unfold cmpL cmpI; rw [cmpL_I a b]
theorem lessL_I (a b : List Int) : lessL a b = decide (cmpI a b < 0) := by
  have := cmpL_less a b
  rw [cmpL_I] at this
  by_cases h : cmpI a b < 0
  · rw [decide_eq_false (by omega)] at this; rw [decide_eq_true h]; simpa using this.symm
  · rw [decide_eq_true (by omega)] at this; rw [decide_eq_false h]; simpa using this.symm
theorem leI_not {a b : List Int} : leI a b = true ↔ ¬ cmpI b a < 0 := by unfold leI; simp
theorem lt_of_le_ne {a b : List Int} (h : leI a b = true) (hn : a ≠ b) : cmpI a b < 0 := by
  by_cases k : cmpI a b < 0
  · exact k
  · exact (hn (cmpI_anti a b k (leI_not.1 h))).elim
theorem le_of_lt {a b : List Int} (h : cmpI a b < 0) : leI a b = true := leI_not.2 fun k => cmpI_irrefl a (cmpI_trans a b a h k)
/-- Strictly ascending. -/
def SS (l : Packs) : Prop := l.Pairwise fun a b => cmpI a b < 0
theorem ss_unique : ∀ {l m : Packs}, SS l → SS m → (∀ x, x ∈ l ↔ x ∈ m) → l = m
  | [], [], _, _, _ => rfl
  | [], y :: m, _, _, h => by have := (h y).2 (by simp); simp at this
  | x :: l, [], _, _, h => by have := (h x).1 (by simp); simp at this
  | x :: l, y :: m, hl, hm, h => by
    obtain ⟨hl1, hl2⟩ := List.pairwise_cons.1 hl
    obtain ⟨hm1, hm2⟩ := List.pairwise_cons.1 hm
    have e : x = y := by
      rcases List.mem_cons.1 ((h x).1 (by simp)) with e | hx
      · exact e
      · rcases List.mem_cons.1 ((h y).2 (by simp)) with e | hy
        · exact e.symm
        · exact (cmpI_irrefl x (cmpI_trans x y x (hl1 y hy) (hm1 x hx))).elim
    subst e
    have : l = m := ss_unique hl2 hm2 fun z => by
      constructor
      · intro hz
        rcases List.mem_cons.1 ((h z).1 (List.mem_cons_of_mem _ hz)) with e | hz2
        · subst e; exact (cmpI_irrefl _ (hl1 _ hz)).elim
        · exact hz2
      · intro hz
        rcases List.mem_cons.1 ((h z).2 (List.mem_cons_of_mem _ hz)) with e | hz2
        · subst e; exact (cmpI_irrefl _ (hm1 _ hz)).elim
        · exact hz2
    rw [this]
theorem dedupFrom_ok : ∀ (r : Packs) (p : List Int), (p :: r).Pairwise (fun a b => leI a b = true) → SS (p :: dedupFrom p r) ∧ ∀ z, z ∈ p :: dedupFrom p r ↔ z ∈ p :: r
  | [], p, _ => ⟨List.pairwise_singleton _ _, fun z => Iff.rfl⟩
  | y :: r, p, h => by
    obtain ⟨h1, h2⟩ := List.pairwise_cons.1 h
    obtain ⟨i1, i2⟩ := dedupFrom_ok r y h2
    unfold dedupFrom
    by_cases e : y = p
    · subst e
      rw [if_pos rfl]
      refine ⟨i1, fun z => ?_⟩
      rw [i2]; simp
    · rw [if_neg e]
      have hlt : cmpI p y < 0 := lt_of_le_ne (h1 y (by simp)) (Ne.symm e)
      refine ⟨List.pairwise_cons.2 ⟨fun z hz => ?_, i1⟩, fun z => ?_⟩
      · rcases List.mem_cons.1 hz with rfl | hz
        · exact hlt
        · exact cmpI_trans _ _ _ hlt ((List.pairwise_cons.1 i1).1 z hz)
      · rw [List.mem_cons, i2, ← List.mem_cons]
theorem dedup_ok {l : Packs} (h : l.Pairwise (fun a b => leI a b = true)) : SS (dedupL l) ∧ ∀ z, z ∈ dedupL l ↔ z ∈ l := by
  cases l with
  | nil => exact ⟨List.Pairwise.nil, fun _ => Iff.rfl⟩
  | cons x r => exact dedupFrom_ok r x h
/-- The packets in order, each once. -/
def setL (l : Packs) : Packs := dedupL (sortL l)
theorem setL_ss (l : Packs) : SS (setL l) := (dedup_ok (sortL_sorted l)).1
theorem setL_mem (l : Packs) (z : List Int) : z ∈ setL l ↔ z ∈ l := ((dedup_ok (sortL_sorted l)).2 z).trans (sortL_perm l).mem_iff
theorem setL_of {l m : Packs} (h : SS m) (hm : ∀ z, z ∈ m ↔ z ∈ l) : m = setL l := ss_unique h (setL_ss l) fun z => (hm z).trans (setL_mem l z).symm
theorem dedupFrom_len : ∀ (r : Packs) (p : List Int), (dedupFrom p r).length ≤ r.length
  | [], _ => Nat.le_refl _
  | y :: r, p => by unfold dedupFrom; have := dedupFrom_len r y; split <;> simp <;> omega
theorem setL_len (l : Packs) : (setL l).length ≤ l.length := by
  have h1 : (sortL l).length = l.length := (sortL_perm l).length_eq
  unfold setL
  rw [← h1]
  cases sortL l with
  | nil => exact Nat.le_refl _
  | cons x r => have := dedupFrom_len r x; simp [dedupL]; omega
theorem i_SortPackets_l3_ev (l : Packs) (hl : l.length ≤ 16777216) (h12 : ∀ p ∈ l, p.length ≤ 1048576) : ∀ (r : Packs) (i : Nat), l.drop i = r → Ev (fun k => i_SortPackets_l3 k l (l.length : Int) (i : Int) (l.take i)) (setL l)
  | [], i, h => by
    have a := at_nil h
    refine Ev.step (fun k => i_SortPackets_l3_eq k _ _ _ _) ?_
    simp only [a.g, cond_false]
    rw [List.take_of_length_le a.ge]
    have small : ∀ m : Packs, m.length ≤ 16777216 → (∀ p ∈ m, p.length ≤ 1048576) → smallL m = true := fun m hm hp => by
      unfold smallL
      rw [Bool.and_eq_true]
      exact ⟨decide_eq_true (by omega), List.all_eq_true.2 fun p hpm => decide_eq_true (by have := hp p hpm; omega)⟩
    have e1 : Ev (fun k => slices_SortFunc_int_int k (l, false)) ((), sortL l) := Ev.congr (fun k => slices_SortFunc_int_int_eq k l false) (by
      show Ev (fun _ => sortF l) _
      unfold sortF
      exact Ev.yes (small l hl h12) (Ev.pure _))
    have e2 : Ev (fun k => slices_CompactFunc_int_int k (sortL l, false)) (setL l) := Ev.congr (fun k => slices_CompactFunc_int_int_eq k (sortL l) false) (by
      show Ev (fun _ => compactF (sortL l)) _
      unfold compactF
      exact Ev.yes (small _ (by rw [(sortL_perm l).length_eq]; exact hl) (fun p hp => h12 p ((sortL_perm l).mem_iff.1 hp))) (Ev.pure _))
    exact Ev.bind e1 (Ev.bind e2 (Ev.pure _))
  | p :: r, i, h => by
    have a := at_cons h (by rw [maxLen_eq]; omega)
    have hlt := a.lt
    have hp := h12 p a.mem
    have ih := i_SortPackets_l3_ev l hl h12 r (i + 1) a.next
    have et : l.take (i + 1) = l.take i ++ [p] := by
      rw [List.take_add_one, List.getElem?_eq_getElem hlt]
      have := a.gt []
      simp [List.getD, hlt] at this
      rw [this]; rfl
    rw [et] at ih
    refine Ev.step (fun k => i_SortPackets_l3_eq k _ _ _ _) ?_
    simp only [a.g, a.z, a.get, a.w, cond_true]
    exact Ev.bind (Clone_int_ev p hp) (Ev.yes (by rw [rowMax_eq]; exact decide_eq_true (by simp; omega)) ih)
theorem i_SortPackets_ev (l : Packs) (hl : l.length ≤ 16777216) (h12 : ∀ p ∈ l, p.length ≤ 1048576) : Ev (fun k => i_SortPackets k l) (setL l) :=
  Ev.step (fun k => i_SortPackets_eq k l) (i_SortPackets_l3_ev l hl h12 l 0 rfl)
def pushU (out : Packs) (x : List Int) : Packs := if out.length = 0 then [x] else if out.getD (out.length - 1) [] = x then out else out ++ [x]
theorem pushU_len (out : Packs) (x : List Int) : (pushU out x).length ≤ out.length + 1 := by
  unfold pushU
  split
  · simp
  · split <;> simp
theorem pushU_ok {out : Packs} {x : List Int} (h : SS out) (hx : ∀ o ∈ out, leI o x = true) : SS (pushU out x) ∧ ∀ z, z ∈ pushU out x ↔ z ∈ out ∨ z = x := by
  unfold pushU
  split
  · rename_i h0
    have : out = [] := List.length_eq_zero_iff.1 h0
    subst this
    exact ⟨List.pairwise_singleton _ _, fun z => by simp⟩
  · rename_i h0
    obtain ⟨init, l, rfl⟩ : ∃ init l, out = init ++ [l] := by
      rcases List.eq_nil_or_concat out with h | ⟨i, l, h⟩
      · subst h; simp at h0
      · exact ⟨i, l, by rw [h]; simp⟩
    have el : (init ++ [l]).getD ((init ++ [l]).length - 1) [] = l := by simp [List.getD]
    rw [el]
    split
    · rename_i e
      subst e
      exact ⟨h, fun z => ⟨.inl, fun hz => hz.elim id fun e => by simp [e]⟩⟩
    · rename_i e
      have hlt : cmpI l x < 0 := lt_of_le_ne (hx l (by simp)) e
      refine ⟨?_, fun z => by simp [or_assoc]⟩
      refine List.pairwise_append.2 ⟨h, List.pairwise_singleton _ _, fun o ho y hy => ?_⟩
      have : y = x := by simpa using hy
      subst this
      rcases List.mem_append.1 ho with ho | ho
      · exact cmpI_trans _ _ _ ((List.pairwise_append.1 h).2.2 o ho l (by simp)) hlt
      · have : o = l := by simpa using ho
        subst this; exact hlt
def mergeU : Packs → Packs → Packs → Packs
  | [], [], out => out
  | x :: a, [], out => mergeU a [] (pushU out x)
  | [], y :: b, out => mergeU [] b (pushU out y)
  | x :: a, y :: b, out => if lessL y x then mergeU (x :: a) b (pushU out y) else mergeU a (y :: b) (pushU out x)
termination_by a b => a.length + b.length
theorem mergeU_ok : ∀ (n : Nat) (a b out : Packs), a.length + b.length = n → a.Pairwise (fun x y => leI x y = true) → b.Pairwise (fun x y => leI x y = true) → SS out → (∀ o ∈ out, ∀ z, z ∈ a ∨ z ∈ b → leI o z = true) →
    SS (mergeU a b out) ∧ ∀ z, z ∈ mergeU a b out ↔ z ∈ out ∨ z ∈ a ∨ z ∈ b
  | n, a, b, out, hn, ha, hb, ho, hz => by
    match a, b, n, hn, ha, hb with
    | [], [], _, _, _, _ => unfold mergeU; exact ⟨ho, fun z => by simp⟩
    | x :: a, [], n + 1, hn, ha, hb =>
      obtain ⟨a1, a2⟩ := List.pairwise_cons.1 ha
      obtain ⟨p1, p2⟩ := pushU_ok ho (fun o h => hz o h x (by simp))
      unfold mergeU
      obtain ⟨q1, q2⟩ := mergeU_ok n a [] (pushU out x) (by simp at hn ⊢; omega) a2 hb p1 (fun o h z hz' => by
        rcases (p2 o).1 h with h | rfl
        · exact hz o h z (by rcases hz' with h | h; exact .inl (by simp [h]); exact .inr h)
        · rcases hz' with h | h
          · exact a1 z h
          · cases h)
      exact ⟨q1, fun z => by rw [q2, p2]; simp [or_assoc]⟩
    | [], y :: b, n + 1, hn, ha, hb =>
      obtain ⟨b1, b2⟩ := List.pairwise_cons.1 hb
      obtain ⟨p1, p2⟩ := pushU_ok ho (fun o h => hz o h y (by simp))
      unfold mergeU
      obtain ⟨q1, q2⟩ := mergeU_ok n [] b (pushU out y) (by simp at hn ⊢; omega) ha b2 p1 (fun o h z hz' => by
        rcases (p2 o).1 h with h | rfl
        · exact hz o h z (by rcases hz' with h | h; exact .inl h; exact .inr (by simp [h]))
        · rcases hz' with h | h
          · cases h
          · exact b1 z h)
      exact ⟨q1, fun z => by rw [q2, p2]; simp [or_assoc]⟩
    | x :: a, y :: b, n + 1, hn, ha, hb =>
      obtain ⟨a1, a2⟩ := List.pairwise_cons.1 ha
      obtain ⟨b1, b2⟩ := List.pairwise_cons.1 hb
      unfold mergeU
      split
      · rename_i c
        rw [lessL_I] at c
        have hyx : leI y x = true := le_of_lt (of_decide_eq_true c)
        obtain ⟨p1, p2⟩ := pushU_ok ho (fun o h => hz o h y (by simp))
        obtain ⟨q1, q2⟩ := mergeU_ok n (x :: a) b (pushU out y) (by simp at hn ⊢; omega) ha b2 p1 (fun o h z hz' => by
          rcases (p2 o).1 h with h | rfl
          · exact hz o h z (by rcases hz' with h | h; exact .inl h; exact .inr (by simp [h]))
          · rcases hz' with h | h
            · rcases List.mem_cons.1 h with rfl | h
              · exact hyx
              · exact leI_trans _ _ _ hyx (a1 z h)
            · exact b1 z h)
        refine ⟨q1, fun z => ?_⟩
        rw [q2, p2]
        simp only [List.mem_cons]
        constructor
        · rintro ((h | h) | (h | h) | h) <;> simp [h]
        · rintro (h | (h | h) | h | h) <;> simp [h]
      · rename_i c
        rw [lessL_I] at c
        have hxy : leI x y = true := leI_not.2 (by simpa using c)
        obtain ⟨p1, p2⟩ := pushU_ok ho (fun o h => hz o h x (by simp))
        obtain ⟨q1, q2⟩ := mergeU_ok n a (y :: b) (pushU out x) (by simp at hn ⊢; omega) a2 hb p1 (fun o h z hz' => by
          rcases (p2 o).1 h with h | rfl
          · exact hz o h z (by rcases hz' with h | h; exact .inl (by simp [h]); exact .inr h)
          · rcases hz' with h | h
            · exact a1 z h
            · rcases List.mem_cons.1 h with rfl | h
              · exact hxy
              · exact leI_trans _ _ _ hxy (b1 z h))
        refine ⟨q1, fun z => ?_⟩
        rw [q2, p2]
        simp only [List.mem_cons]
        constructor
        · rintro ((h | h) | h | h | h) <;> simp [h]
        · rintro (h | (h | h) | h | h) <;> simp [h]
theorem ss_le {l : Packs} (h : SS l) : l.Pairwise (fun x y => leI x y = true) := h.imp fun h => le_of_lt h
theorem mergeU_set {a b : Packs} (ha : SS a) (hb : SS b) : mergeU a b [] = setL (a ++ b) := by
  obtain ⟨h1, h2⟩ := mergeU_ok _ a b [] rfl (ss_le ha) (ss_le hb) List.Pairwise.nil (fun o h => by cases h)
  exact setL_of h1 fun z => by rw [h2]; simp
theorem set_last (out : Packs) : out.set (out.length - 1) (out.getD (out.length - 1) []) = out := by
  apply List.ext_getElem
  · simp
  · intro i h1 h2
    rw [List.getElem_set]
    split
    · rename_i e
      subst e
      simp [List.getD, h2]
    · rfl
theorem push_ev {C : Nat → Packs → Option Packs} {z : Packs} (out : Packs) (x : List Int) (hx : x.length ≤ 1048576) (ho : out.length ≤ 4194304) (h12 : ∀ p ∈ out, p.length ≤ 1048576) (h : Ev (fun k => C k (pushU out x)) z) :
    Ev (fun k => bif ((out.length : Int) == (0 : Int)) then
        (bif decide (([] : List Int).length + x.length ≤ rowMax) then
          (bif decide (out.length + ([(([] : List Int) ++ x)]).length ≤ rowMax) then C k (out ++ ([(([] : List Int) ++ x)])) else none) else none)
      else (bif decide (0 ≤ (IntKind.i64.wrap ((out.length : Int) - (1 : Int)))) then
        (bif decide ((IntKind.i64.wrap ((out.length : Int) - (1 : Int))) < (out.length : Int)) then
          (bif decide ((IntKind.i64.wrap ((out.length : Int) - (1 : Int))).toNat < out.length) then
            ((s_SamePacket k ((out.getD (IntKind.i64.wrap ((out.length : Int) - (1 : Int))).toNat []), x)).bind fun y =>
              bif (!y) then
                (bif decide (([] : List Int).length + x.length ≤ rowMax) then
                  (bif decide ((out.set (IntKind.i64.wrap ((out.length : Int) - (1 : Int))).toNat (out.getD (IntKind.i64.wrap ((out.length : Int) - (1 : Int))).toNat [])).length + ([(([] : List Int) ++ x)]).length ≤ rowMax) then
                    C k ((out.set (IntKind.i64.wrap ((out.length : Int) - (1 : Int))).toNat (out.getD (IntKind.i64.wrap ((out.length : Int) - (1 : Int))).toNat [])) ++ ([(([] : List Int) ++ x)])) else none) else none)
              else C k (out.set (IntKind.i64.wrap ((out.length : Int) - (1 : Int))).toNat (out.getD (IntKind.i64.wrap ((out.length : Int) - (1 : Int))).toNat []))) else none) else none) else none)) z := by
  unfold pushU at h
  refine Ev.ite (fun c => ?_) (fun c => ?_)
  · have h0 : out.length = 0 := by have : (out.length : Int) = 0 := by simpa using c
                                   omega
    rw [if_pos h0] at h
    have e : out = [] := List.length_eq_zero_iff.1 h0
    subst e
    exact Ev.yes (by rw [rowMax_eq]; exact decide_eq_true (by simp; omega)) (Ev.yes (by rw [rowMax_eq]; simp) h)
  · have h0 : ¬ out.length = 0 := by have : ¬ (out.length : Int) = 0 := by simpa using c
                                     omega
    rw [if_neg h0] at h
    have e : ((out.length : Int) - 1) = ((out.length - 1 : Nat) : Int) := by omega
    have hl : (out.getD (out.length - 1) []).length ≤ 1048576 := by
      have : out.length - 1 < out.length := by omega
      rw [List.getD, List.getElem?_eq_getElem this]
      exact h12 _ (List.getElem_mem this)
    simp only [e, wrap_id (x := ((out.length - 1 : Nat) : Int)) (by omega) (by omega), Int.toNat_natCast, set_last]
    refine Ev.yes (by simp) (Ev.yes (by simp; omega) (Ev.yes (by simp; omega) (Ev.bind (SamePacket_ev _ x (by rw [maxLen_eq]; omega) (by rw [maxLen_eq]; omega)) (Ev.ite (fun c2 => ?_) (fun c2 => ?_)))))
    · have : ¬ out.getD (out.length - 1) [] = x := by simpa using c2
      rw [if_neg this] at h
      exact Ev.yes (by rw [rowMax_eq]; exact decide_eq_true (by simp; omega)) (Ev.yes (by rw [rowMax_eq]; exact decide_eq_true (by simp; omega)) h)
    · have : out.getD (out.length - 1) [] = x := by simpa using c2
      rw [if_pos this] at h
      exact h
theorem pushU_small {out : Packs} {x : List Int} (hx : x.length ≤ 1048576) (h12 : ∀ p ∈ out, p.length ≤ 1048576) : ∀ p ∈ pushU out x, p.length ≤ 1048576 := fun p hp => by
  unfold pushU at hp
  split at hp
  · have : p = x := by simpa using hp
    subst this; exact hx
  · split at hp
    · exact h12 p hp
    · rcases List.mem_append.1 hp with h | h
      · exact h12 p h
      · have : p = x := by simpa using h
        subst this; exact hx
theorem take_all2 {α : Type} (l : List α) : l.take ((l.length : Int)).toNat = l := by simp
theorem s_l05Merge_l2_ev : ∀ (n : Nat) (a b out : Packs), a.length + b.length = n → out.length + n ≤ 4194304 → (∀ p ∈ a, p.length ≤ 1048576) → (∀ p ∈ b, p.length ≤ 1048576) → (∀ p ∈ out, p.length ≤ 1048576) →
    Ev (fun k => s_l05Merge_l2 k a b out) (mergeU a b out)
  | 0, a, b, out, hn, hl, h1, h2, h3 => by
    have ea : a = [] := List.length_eq_zero_iff.1 (by omega)
    have eb : b = [] := List.length_eq_zero_iff.1 (by omega)
    subst ea eb
    unfold mergeU
    exact Ev.step (fun k => s_l05Merge_l2_eq k _ _ _) (Ev.no (by (first | (simp; done) | (simp; omega) | omega)) (Ev.no (by (first | (simp; done) | (simp; omega) | omega)) (Ev.pure _)))
  | n + 1, [], [], out, hn, hl, h1, h2, h3 => by simp at hn
  | n + 1, x :: a, [], out, hn, hl, h1, h2, h3 => by
    have hx := h1 x (by simp)
    have hp := pushU_len out x
    have ih := s_l05Merge_l2_ev n a [] (pushU out x) (by simp at hn ⊢; omega) (by omega) (fun p hp => h1 p (by simp [hp])) h2 (pushU_small hx h3)
    unfold mergeU
    refine Ev.step (fun k => s_l05Merge_l2_eq k _ _ _) ?_
    simp only [take_all2, List.getD_cons_zero, List.drop_succ_cons, List.drop_zero]
    refine Ev.yes (by (first | (simp; done) | (simp; omega) | omega)) (Ev.yes (by (first | (simp; done) | (simp; omega) | omega)) (Ev.yes (by (first | (simp; done) | (simp; omega) | omega)) (Ev.yes (by (first | (simp; done) | (simp; omega) | omega)) (Ev.yes (by (first | (simp; done) | (simp; omega) | omega)) ?_))))
    exact push_ev (C := fun k o => s_l05Merge_l2 k a [] o) out x hx (by omega) h3 ih
  | n + 1, [], y :: b, out, hn, hl, h1, h2, h3 => by
    have hy := h2 y (by simp)
    have hp := pushU_len out y
    have ih := s_l05Merge_l2_ev n [] b (pushU out y) (by simp at hn ⊢; omega) (by omega) h1 (fun p hp => h2 p (by simp [hp])) (pushU_small hy h3)
    unfold mergeU
    refine Ev.step (fun k => s_l05Merge_l2_eq k _ _ _) ?_
    simp only [take_all2, List.getD_cons_zero, List.drop_succ_cons, List.drop_zero]
    refine Ev.no (by (first | (simp; done) | (simp; omega) | omega)) (Ev.yes (by (first | (simp; done) | (simp; omega) | omega)) (Ev.no (by (first | (simp; done) | (simp; omega) | omega)) (Ev.no (by (first | (simp; done) | (simp; omega) | omega)) (Ev.yes (by (first | (simp; done) | (simp; omega) | omega)) (Ev.yes (by (first | (simp; done) | (simp; omega) | omega)) (Ev.yes (by (first | (simp; done) | (simp; omega) | omega)) ?_))))))
    exact push_ev (C := fun k o => s_l05Merge_l2 k [] b o) out y hy (by omega) h3 ih
  | n + 1, x :: a, y :: b, out, hn, hl, h1, h2, h3 => by
    have hx := h1 x (by simp)
    have hy := h2 y (by simp)
    have hp := pushU_len out x
    have hp2 := pushU_len out y
    have ihx := s_l05Merge_l2_ev n a (y :: b) (pushU out x) (by simp at hn ⊢; omega) (by omega) (fun p hp => h1 p (by simp [hp])) h2 (pushU_small hx h3)
    have ihy := s_l05Merge_l2_ev n (x :: a) b (pushU out y) (by simp at hn ⊢; omega) (by omega) h1 (fun p hp => h2 p (by simp [hp])) (pushU_small hy h3)
    unfold mergeU
    refine Ev.step (fun k => s_l05Merge_l2_eq k _ _ _) ?_
    simp only [take_all2, List.getD_cons_zero, List.drop_succ_cons, List.drop_zero]
    refine Ev.yes (by (first | (simp; done) | (simp; omega) | omega)) (Ev.no (by (first | (simp; done) | (simp; omega) | omega)) (Ev.yes (by (first | (simp; done) | (simp; omega) | omega)) (Ev.yes (by (first | (simp; done) | (simp; omega) | omega)) (Ev.yes (by (first | (simp; done) | (simp; omega) | omega)) (Ev.bind (s_l05Less_ev y x (by rw [maxLen_eq]; omega) (by rw [maxLen_eq]; omega)) (Ev.ite (fun c => ?_) (fun c => ?_)))))))
    · have : lessL y x = false := by simpa using c
      rw [this, if_neg (by simp)]
      refine Ev.yes (by (first | (simp; done) | (simp; omega) | omega)) (Ev.yes (by (first | (simp; done) | (simp; omega) | omega)) (Ev.yes (by (first | (simp; done) | (simp; omega) | omega)) ?_))
      exact push_ev (C := fun k o => s_l05Merge_l2 k a (y :: b) o) out x hx (by omega) h3 ihx
    · have : lessL y x = true := by simpa using c
      rw [this, if_pos rfl]
      refine Ev.yes (by (first | (simp; done) | (simp; omega) | omega)) (Ev.yes (by (first | (simp; done) | (simp; omega) | omega)) (Ev.yes (by (first | (simp; done) | (simp; omega) | omega)) ?_))
      exact push_ev (C := fun k o => s_l05Merge_l2 k (x :: a) b o) out y hy (by omega) h3 ihy
theorem s_l05Merge_ev (a b : Packs) (hl : a.length + b.length ≤ 4194304) (h1 : ∀ p ∈ a, p.length ≤ 1048576) (h2 : ∀ p ∈ b, p.length ≤ 1048576) : Ev (fun k => s_l05Merge k (a, b)) (mergeU a b []) :=
  Ev.step (fun k => s_l05Merge_eq k a b) (s_l05Merge_l2_ev _ a b [] rfl (by simpa using hl) h1 h2 (fun p hp => by cases hp))
theorem half2 (n : Nat) (h : n ≤ 4194304) : IntKind.i64.wrap ((n : Int).tdiv 2) = ((n / 2 : Nat) : Int) := by
  have : (n : Int).tdiv 2 = ((n / 2 : Nat) : Int) := by rw [Int.tdiv_eq_ediv_of_nonneg (by omega)]; omega
  rw [this, wrap_id (by omega) (by omega)]
theorem s_SortPackets_ev : ∀ (n : Nat) (l : Packs), l.length ≤ n → l.length ≤ 1048576 → (∀ p ∈ l, p.length ≤ 1048576) → Ev (fun k => s_SortPackets k l) (setL l)
  | n, l, hn, hl, h12 => by
    refine Ev.step (fun k => s_SortPackets_eq k l) ?_
    refine Ev.ite (fun c => ?_) (fun c => ?_)
    · have hlt : l.length < 2 := by have : (l.length : Int) < 2 := by simpa using c
                                    omega
      have hs : SS l := by
        match l, hlt with
        | [], _ => exact List.Pairwise.nil
        | [x], _ => exact List.pairwise_singleton _ _
      refine Ev.bind (s_l05Merge_ev l [] (by simp; omega) h12 (fun p hp => by cases hp)) (Ev.some ?_)
      rw [mergeU_set hs List.Pairwise.nil, List.append_nil]
    · have hge : ¬ l.length < 2 := by have : ¬ (l.length : Int) < 2 := by simpa using c
                                      omega
      match n, hn with
      | 0, hn => omega
      | n + 1, hn =>
      have hA := s_SortPackets_ev n (l.take (l.length / 2)) (by simp; omega) (by simp; omega) (fun p hp => h12 p (List.mem_of_mem_take hp))
      have hB := s_SortPackets_ev n (l.drop (l.length / 2)) (by simp; omega) (by simp; omega) (fun p hp => h12 p (List.mem_of_mem_drop hp))
      have lA := setL_len (l.take (l.length / 2))
      have lB := setL_len (l.drop (l.length / 2))
      simp at lA lB
      simp only [half2 l.length (by omega), take_all2, Int.toNat_natCast, List.drop_zero, List.take_length]
      refine Ev.yes (by (first | (simp; done) | (simp; omega) | omega)) (Ev.yes (by (first | (simp; done) | (simp; omega) | omega)) (Ev.bind hA (Ev.yes (by (first | (simp; done) | (simp; omega) | omega)) (Ev.yes (by (first | (simp; done) | (simp; omega) | omega)) (Ev.yes (by (first | (simp; done) | (simp; omega) | omega)) (Ev.bind hB (Ev.bind (s_l05Merge_ev _ _ (by omega) (fun p hp => ?_) (fun p hp => ?_)) (Ev.some ?_))))))))
      · exact h12 p (List.mem_of_mem_take ((setL_mem _ p).1 hp))
      · exact h12 p (List.mem_of_mem_drop ((setL_mem _ p).1 hp))
      · rw [mergeU_set (setL_ss _) (setL_ss _)]
        refine setL_of (setL_ss _) fun z => ?_
        rw [setL_mem, List.mem_append, setL_mem, setL_mem, ← List.mem_append, List.take_append_drop]
end Qq
namespace Qq
open Go Go.Vt Pt
set_option linter.unusedVariables false
set_option linter.unusedSimpArgs false
end Qq
namespace Qq
open Go Go.Vt Pt
set_option linter.unusedVariables false
set_option linter.unusedSimpArgs false
end Qq
namespace Qq
open Go Go.Vt Pt
set_option linter.unusedVariables false
set_option linter.unusedSimpArgs false
end Qq
namespace Qq
open Go Go.Vt Pt
set_option linter.unusedVariables false
set_option linter.unusedSimpArgs false
end Qq
namespace Qq
open Go Go.Vt Pt
set_option linter.unusedVariables false
set_option linter.unusedSimpArgs false
def isUp (x : Int) : Bool := decide (-12 ≤ x) && decide (x ≤ -1)
theorem i_IsUp_ev (x : Int) (hx : In x) : Ev (fun k => i_IsUp k x) (isUp x) := by
  refine Ev.step (fun k => i_IsUp_eq k x) (Ev.ite (fun h => Ev.bind (i_CardOf_ev x hx) (Ev.some ?_)) (fun h => Ev.some ?_))
  · have h' : x < 0 := by simpa using h
    unfold isUp card
    rw [Bool.eq_iff_iff, if_neg (by omega)]
    by_cases h2 : -12 ≤ x ∧ x ≤ -1
    · rw [if_pos h2]; simp; omega
    · rw [if_neg h2]; simp; omega
  · have h' : ¬ x < 0 := by simpa using h
    unfold isUp
    symm; simp; omega
end Qq
namespace Qq
open Go Go.Vt Pt
set_option linter.unusedVariables false
set_option linter.unusedSimpArgs false
/-- The lists of a valid list for which f holds. -/
def those (l : Packs) (f : List Int → Bool) : Packs := if knowOk l then l.filter f else []
theorem filter_next {l : Packs} {f : List Int → Bool} {i : Nat} {p : List Int} {r : Packs} (a : AtCons l i p r) : (l.take (i + 1)).filter f = (l.take i).filter f ++ (if f p then [p] else []) := by
  have hlt := a.lt
  have e : l[i] = p := by have := a.get []; rw [Int.toNat_natCast, List.getD, List.getElem?_eq_getElem hlt] at this; exact this
  rw [List.take_succ_eq_append_getElem hlt, List.filter_append, e]
  cases h : f p <;> simp [h]
end Qq
namespace Qq
open Go Go.Vt Pt
set_option linter.unusedVariables false
set_option linter.unusedSimpArgs false
set_option linter.unnecessarySimpa false
theorem fz_len : ∀ (n : Nat) (f : Bool) (a b : List Int), a.length + b.length = n → (fz f a b).length = n
  | n, f, [], [], h => by unfold fz; simpa using h
  | n, f, x :: a, [], h => by
    match n, h with
    | n + 1, h =>
    unfold fz
    rw [List.length_cons, fz_len n (!f) a [] (by simp at h ⊢; omega)]
  | n, f, [], y :: b, h => by
    match n, h with
    | n + 1, h =>
    unfold fz
    rw [List.length_cons, fz_len n (!f) [] b (by simp at h ⊢; omega)]
  | n, true, x :: a, y :: b, h => by
    match n, h with
    | n + 1, h =>
    unfold fz
    rw [List.length_cons, fz_len n false a (y :: b) (by simp at h ⊢; omega)]
  | n, false, x :: a, y :: b, h => by
    match n, h with
    | n + 1, h =>
    unfold fz
    rw [List.length_cons, fz_len n true (x :: a) b (by simp at h ⊢; omega)]
termination_by n => n
theorem mz_len (k : Int) : ∀ (r : List Int) (i : Nat) (out : List Int), (mz k i r out).length = r.length + out.length
  | [], i, out => by simp [mz]
  | x :: r, i, out => by unfold mz; split <;> rw [mz_len k r] <;> simp <;> omega
theorem kz_len : ∀ (n : Nat) (p out : List Int), (kz n p out).length = p.length + out.length
  | 0, p, out => by simp [kz]
  | n + 1, p, out => by
    unfold kz
    split
    · rw [kz_len n]; simp; omega
    · simp
theorem dz_len : ∀ (n : Nat) (f : Bool) (q out : List Int), 1 ≤ q.length → (dz n f q out).length ≤ q.length + out.length
  | 0, f, q, out, h => by simp [dz]; omega
  | n + 1, f, q, out, h => by
    unfold dz
    split
    · cases f with
      | true => have := dz_len n false (q.drop 1) (q.getD 0 0 :: out) (by simp; omega); simp at this ⊢; omega
      | false => have := dz_len n true (q.drop 1 ++ [q.getD 0 0]) out (by simp); simp at this ⊢; omega
    · simp; omega
theorem doMove_len {p : List Int} {m : Int × Int} (h : MoveFit p.length m) : (doMove p m).length ≤ 12 := by
  have h1 := h.n1
  have h2 := h.n12
  have ht := h.t
  unfold doMove
  split
  · simp; omega
  split
  · simp; omega
  split
  · simp; omega
  split
  · unfold faroL; rw [fz_len p.length _ _ _ (by simp; omega)]; exact h2
  split
  · rw [mz_len]; simp; omega
  split
  · rw [kz_len]; simp; omega
  split
  · have := dz_len (2 * p.length + 1) (m.2 == 1) p [] h1; simp at this; omega
  split
  · simp; omega
  · rename_i a1 a2 a3 a4 a5 a6 a7 a8
    have := ht a1 a2 a3 a4 a5 a6 a7
    have := h.k0
    simp; omega
def afterMove (l : Packs) (m : Int × Int) : Packs × Bool := if knowOk l && moveOk ((l.headD []).length : Int) m then (setL (l.map fun p => doMove p m), true) else ([], false)
theorem map_take_next {α β : Type} (f : α → β) {l : List α} {i : Nat} {p : α} (hlt : i < l.length) (h : l[i] = p) : (l.take (i + 1)).map f = (l.take i).map f ++ [f p] := by
  rw [List.take_add_one, List.getElem?_eq_getElem hlt, h]; simp
theorem i_AfterMove_l5_ev (l : Packs) (m : Int × Int) (hl : l.length ≤ 3000) (hm : ∀ p ∈ l, MoveFit p.length m ∧ Ins p) : ∀ (r : Packs) (i : Nat), l.drop i = r → Ev (fun k => i_AfterMove_l5 k l (l.length : Int) (i : Int) m.1 m.2 ((l.take i).map fun p => doMove p m)) (setL (l.map fun p => doMove p m), true)
  | [], i, h => by
    have a := at_nil h
    refine Ev.step (fun k => i_AfterMove_l5_eq k _ _ _ _ _ _) ?_
    simp only [a.g, cond_false]
    rw [List.take_of_length_le a.ge]
    refine Ev.bind (i_SortPackets_ev _ (by simp; omega) (fun p hp => ?_)) (Ev.pure _)
    obtain ⟨q, hq, rfl⟩ := List.mem_map.1 hp
    have := doMove_len (hm q hq).1
    omega
  | p :: r, i, h => by
    have a := at_cons h (by rw [maxLen_eq]; omega)
    have hlt := a.lt
    have ih := i_AfterMove_l5_ev l m hl hm r (i + 1) a.next
    have hg : l[i] = p := by have := a.gt []; simpa [List.getD, hlt] using this
    rw [map_take_next _ hlt hg] at ih
    obtain ⟨m1, m2⟩ := hm p a.mem
    refine Ev.step (fun k => i_AfterMove_l5_eq k _ _ _ _ _ _) ?_
    simp only [a.g, a.z, a.get, a.w, cond_true]
    exact Ev.bind (i_moved_ev p m m1 m2) (Ev.yes (by rw [rowMax_eq]; exact decide_eq_true (by simp; omega)) ih)
theorem know_moves {p0 : List Int} {r : Packs} {m : Int × Int} (hf : FitS (p0 :: r)) (h : knowOk (p0 :: r) = true) (hm : moveOk (p0.length : Int) m = true) : ∀ p ∈ p0 :: r, MoveFit p.length m ∧ Ins p := fun p hp => by
  obtain ⟨_, _, _, h4⟩ := know_fit h
  have := (h4 p hp).2
  exact ⟨by rw [this]; exact moveOk_fit hm, (hf.2 p hp).2⟩
theorem i_AfterMove_ev (l : Packs) (m : Int × Int) (hf : FitS l) : Ev (fun k => i_AfterMove k (l, m)) (afterMove l m) := by
  refine Ev.step (fun k => i_AfterMove_eq k l m) (Ev.bind (i_KnowOk_ev l hf) (Ev.ite (fun h => Ev.some ?_) (fun h => ?_)))
  · have : knowOk l = false := by simpa using h
    simp [afterMove, this]
  · have e : knowOk l = true := by simpa using h
    cases l with
    | nil => simp [knowOk] at e
    | cons p0 r =>
      have hk := know_fit e
      refine Ev.yes (by (first | (simp; done) | (simp; omega) | omega)) (Ev.bind (i_MoveOk_ev _ m) (Ev.ite (fun c => Ev.some ?_) (fun c => ?_)))
      · have : moveOk (p0.length : Int) m = false := by simpa using c
        simp [afterMove, this]
      · have : moveOk (p0.length : Int) m = true := by simpa using c
        have h2 := i_AfterMove_l5_ev (p0 :: r) m hk.1 (know_moves hf e this) (p0 :: r) 0 rfl
        exact h2.to (by simp [afterMove, e, this])
end Qq
namespace Qq
open Go Go.Vt Pt
set_option linter.unusedVariables false
set_option linter.unusedSimpArgs false
set_option linter.unnecessarySimpa false
def cutL (p : List Int) (k : Nat) : List Int := p.drop k ++ p.take k
def cutsL (p : List Int) : Packs := (List.range p.length).map (cutL p)
theorem cut_fit {p : List Int} {i : Nat} (hp : p.length ≤ 12) (hi : i < p.length) : MoveFit p.length (1, (i : Int)) :=
  ⟨by omega, hp, by simp, .inl (by simp; omega), fun _ => by simp; omega, fun h => by simp at h, fun h => by simp at h⟩
theorem doMove_cut (p : List Int) (i : Nat) : doMove p (1, (i : Int)) = cutL p i := by simp [doMove, cutL]
theorem range_next (n : Nat) (f : Nat → List Int) : (List.range (n + 1)).map f = (List.range n).map f ++ [f n] := by rw [List.range_succ, List.map_append]; rfl
theorem s_l05Cuts_l3_ev (p : List Int) (hp : p.length ≤ 12) (hi : Ins p) : ∀ (m i : Nat), i + m = p.length → Ev (fun k => s_l05Cuts_l3 k p (p.length : Int) (i : Int) ((List.range i).map (cutL p))) (cutsL p)
  | 0, i, h => by
    refine Ev.step (fun k => s_l05Cuts_l3_eq k _ _ _ _) (Ev.no (by simp; omega) (Ev.some ?_))
    have : i = p.length := by omega
    rw [this]; rfl
  | m + 1, i, h => by
    have ih := s_l05Cuts_l3_ev p hp hi m (i + 1) (by omega)
    rw [range_next] at ih
    have ew : IntKind.i64.wrap ((i : Int) + 1) = ((i + 1 : Nat) : Int) := by rw [wrap_id (by omega) (by omega)]; omega
    refine Ev.step (fun k => s_l05Cuts_l3_eq k _ _ _ _) ?_
    simp only [ew]
    refine Ev.yes (by simp; omega) (Ev.bind (s_l04Do_ev p _ (cut_fit hp (by omega)) hi) ?_)
    rw [doMove_cut]
    exact Ev.yes (by rw [rowMax_eq]; exact decide_eq_true (by simp; omega)) ih
theorem s_l05Cuts_ev (p : List Int) (hp : p.length ≤ 12) (hi : Ins p) : Ev (fun k => s_l05Cuts k p) (cutsL p) :=
  Ev.step (fun k => s_l05Cuts_eq k _) (s_l05Cuts_l3_ev p hp hi p.length 0 (by omega))
theorem i_cuts_l3_ev (p : List Int) (hp : p.length ≤ 12) (hi : Ins p) : ∀ (m i : Nat), i + m = p.length → Ev (fun k => i_cuts_l3 k p (p.length : Int) (i : Int) ((List.range i).map (cutL p))) (cutsL p)
  | 0, i, h => by
    refine Ev.step (fun k => i_cuts_l3_eq k _ _ _ _) (Ev.no (by simp; omega) (Ev.some ?_))
    have : i = p.length := by omega
    rw [this]; rfl
  | m + 1, i, h => by
    have ih := i_cuts_l3_ev p hp hi m (i + 1) (by omega)
    rw [range_next] at ih
    have ew : IntKind.i64.wrap ((i : Int) + 1) = ((i + 1 : Nat) : Int) := by rw [wrap_id (by omega) (by omega)]; omega
    refine Ev.step (fun k => i_cuts_l3_eq k _ _ _ _) ?_
    simp only [ew]
    refine Ev.yes (by simp; omega) (Ev.bind (i_moved_ev p _ (cut_fit hp (by omega)) hi) ?_)
    rw [doMove_cut]
    exact Ev.yes (by rw [rowMax_eq]; exact decide_eq_true (by simp; omega)) ih
theorem i_cuts_ev (p : List Int) (hp : p.length ≤ 12) (hi : Ins p) : Ev (fun k => i_cuts k p) (cutsL p) :=
  Ev.step (fun k => i_cuts_eq k _) (i_cuts_l3_ev p hp hi p.length 0 (by omega))
def pickL (p : List Int) (i : Nat) : List Int := [p.getD i 0] ++ (p.take i ++ p.drop (i + 1))
def picksL (p : List Int) : Packs := (List.range p.length).map (pickL p)
theorem s_l05Of_l15_ev (p : List Int) (hp : p.length ≤ 12) : ∀ (m i : Nat), i + m = p.length → Ev (fun k => s_l05Of_l15 k p p (p.length : Int) (i : Int) ((List.range i).map (pickL p))) (picksL p)
  | 0, i, h => by
    refine Ev.step (fun k => s_l05Of_l15_eq k _ _ _ _ _) (Ev.no (by simp; omega) (Ev.some ?_))
    have : i = p.length := by omega
    rw [this]; rfl
  | m + 1, i, h => by
    have ih := s_l05Of_l15_ev p hp m (i + 1) (by omega)
    rw [range_next] at ih
    have ew : IntKind.i64.wrap ((i : Int) + 1) = ((i + 1 : Nat) : Int) := by rw [wrap_id (by omega) (by omega)]; omega
    refine Ev.step (fun k => s_l05Of_l15_eq k _ _ _ _ _) ?_
    simp only [ew, take_all, Int.toNat_natCast, List.take_length, List.drop_zero, List.nil_append]
    refine Ev.yes (by simp; omega) ?_
    (repeat (first | refine Ev.yes (by (first | (simp [rowMax_eq]; done) | (simp [rowMax_eq]; omega) | omega)) ?_ | refine Ev.no (by (first | (simp [rowMax_eq]; done) | (simp [rowMax_eq]; omega) | omega)) ?_))
    exact ih
theorem i_all_l20_ev (p : List Int) (hp : p.length ≤ 12) : ∀ (m i : Nat), i + m = p.length → Ev (fun k => i_all_l20 k p (p.length : Int) (i : Int) ((List.range i).map (pickL p))) (picksL p, true)
  | 0, i, h => by
    refine Ev.step (fun k => i_all_l20_eq k _ _ _ _) (Ev.no (by simp; omega) (Ev.some ?_))
    have : i = p.length := by omega
    rw [this]; rfl
  | m + 1, i, h => by
    have ih := i_all_l20_ev p hp m (i + 1) (by omega)
    rw [range_next] at ih
    have hil : i < p.length := by omega
    have ew : IntKind.i64.wrap ((i : Int) + 1) = ((i + 1 : Nat) : Int) := by rw [wrap_id (by omega) (by omega)]; omega
    refine Ev.step (fun k => i_all_l20_eq k _ _ _ _) ?_
    simp only [ew, take_all, Int.toNat_natCast, List.take_length, List.drop_zero, List.nil_append]
    refine Ev.yes (by simp; omega) ?_
    (repeat (first | refine Ev.yes (by (first | (simp [rowMax_eq]; done) | (simp [rowMax_eq]; omega) | omega)) ?_ | refine Ev.no (by (first | (simp [rowMax_eq]; done) | (simp [rowMax_eq]; omega) | omega)) ?_))
    have e1 : (p.take (i + 1)).drop i = [p.getD i 0] := by
      rw [List.take_add_one, List.getElem?_eq_getElem hil, List.drop_append_of_le_length (by simp; omega), List.drop_eq_nil_of_le (by simp; omega)]
      simp [List.getD, hil]
    refine Ev.bind ((Concat_ev [(p.take (i + 1)).drop i, p.take i, p.drop (i + 1)] (by rw [maxLen_eq]; simp) (by simp; omega)).to (show _ = pickL p i by rw [e1]; simp [pickL])) ?_
    exact Ev.yes (by rw [rowMax_eq]; exact decide_eq_true (by simp; omega)) ih
def wv : List Int → List Int → List Int → Packs
  | d, [], [] => [d]
  | d, x :: a, [] => wv (d ++ [x]) a []
  | d, [], y :: b => wv (d ++ [y]) [] b
  | d, x :: a, y :: b => wv (d ++ [x]) a (y :: b) ++ wv (d ++ [y]) (x :: a) b
termination_by _ a b => a.length + b.length
theorem wv_len : ∀ (n : Nat) (d a b : List Int), a.length + b.length = n → (wv d a b).length ≤ 2 ^ n
  | n, d, [], [], h => by unfold wv; simp; exact Nat.one_le_two_pow
  | n + 1, d, x :: a, [], h => by
    unfold wv
    have := wv_len n (d ++ [x]) a [] (by simp at h ⊢; omega)
    rw [Nat.pow_succ]; omega
  | n + 1, d, [], y :: b, h => by
    unfold wv
    have := wv_len n (d ++ [y]) [] b (by simp at h ⊢; omega)
    rw [Nat.pow_succ]; omega
  | n + 1, d, x :: a, y :: b, h => by
    unfold wv
    have h1 := wv_len n (d ++ [x]) a (y :: b) (by simp at h ⊢; omega)
    have h2 := wv_len n (d ++ [y]) (x :: a) b (by simp at h ⊢; omega)
    rw [List.length_append, Nat.pow_succ]; omega
  | 0, d, x :: a, _, h => by simp at h
  | 0, d, [], y :: b, h => by simp at h
theorem s_l05Weave_ev : ∀ (n : Nat) (out : Packs) (d a b : List Int), a.length + b.length = n → d.length + n ≤ 100 → out.length + 2 ^ n ≤ 1048576 → Ev (fun k => s_l05Weave k (out, d, a, b)) (out ++ wv d a b)
  | n, out, d, [], [], h, hd, ho => by
    have : 1 ≤ 2 ^ n := Nat.one_le_two_pow
    unfold wv
    refine Ev.step (fun k => s_l05Weave_eq k _ _ _ _) (Ev.yes (by (first | (simp [rowMax_eq]; done) | (simp [rowMax_eq]; omega) | omega)) (Ev.yes (by (first | (simp [rowMax_eq]; done) | (simp [rowMax_eq]; omega) | omega)) (Ev.yes (by rw [rowMax_eq]; exact decide_eq_true (by simp; omega)) (Ev.pure _))))
  | n + 1, out, d, x :: a, [], h, hd, ho => by
    rw [Nat.pow_succ] at ho
    have ih := s_l05Weave_ev n out (d ++ [x]) a [] (by simp at h ⊢; omega) (by simp; omega) (by omega)
    unfold wv
    refine Ev.step (fun k => s_l05Weave_eq k _ _ _ _) ?_
    simp only [take_all, List.nil_append, List.getD_cons_zero, List.drop_succ_cons, List.drop_zero]
    refine Ev.no (by (first | (simp [rowMax_eq]; done) | (simp [rowMax_eq]; omega) | omega)) (Ev.yes (by (first | (simp [rowMax_eq]; done) | (simp [rowMax_eq]; omega) | omega)) (Ev.yes (by (first | (simp [rowMax_eq]; done) | (simp [rowMax_eq]; omega) | omega)) (Ev.yes (by (first | (simp [rowMax_eq]; done) | (simp [rowMax_eq]; omega) | omega)) (Ev.yes (by (first | (simp [rowMax_eq]; done) | (simp [rowMax_eq]; omega) | omega)) (Ev.yes (by (first | (simp [rowMax_eq]; done) | (simp [rowMax_eq]; omega) | omega)) (Ev.yes (by (first | (simp [rowMax_eq]; done) | (simp [rowMax_eq]; omega) | omega)) (Ev.bind ih (Ev.no (by (first | (simp [rowMax_eq]; done) | (simp [rowMax_eq]; omega) | omega)) (Ev.pure _)))))))))
  | n + 1, out, d, [], y :: b, h, hd, ho => by
    rw [Nat.pow_succ] at ho
    have ih := s_l05Weave_ev n out (d ++ [y]) [] b (by simp at h ⊢; omega) (by simp; omega) (by omega)
    unfold wv
    refine Ev.step (fun k => s_l05Weave_eq k _ _ _ _) ?_
    simp only [take_all, List.nil_append, List.getD_cons_zero, List.drop_succ_cons, List.drop_zero]
    refine Ev.yes (by (first | (simp [rowMax_eq]; done) | (simp [rowMax_eq]; omega) | omega)) (Ev.no (by (first | (simp [rowMax_eq]; done) | (simp [rowMax_eq]; omega) | omega)) (Ev.no (by (first | (simp [rowMax_eq]; done) | (simp [rowMax_eq]; omega) | omega)) (Ev.yes (by (first | (simp [rowMax_eq]; done) | (simp [rowMax_eq]; omega) | omega)) (Ev.yes (by (first | (simp [rowMax_eq]; done) | (simp [rowMax_eq]; omega) | omega)) (Ev.yes (by (first | (simp [rowMax_eq]; done) | (simp [rowMax_eq]; omega) | omega)) (Ev.yes (by (first | (simp [rowMax_eq]; done) | (simp [rowMax_eq]; omega) | omega)) (Ev.yes (by (first | (simp [rowMax_eq]; done) | (simp [rowMax_eq]; omega) | omega)) (Ev.yes (by (first | (simp [rowMax_eq]; done) | (simp [rowMax_eq]; omega) | omega)) (Ev.bind ih (Ev.pure _))))))))))
  | n + 1, out, d, x :: a, y :: b, h, hd, ho => by
    rw [Nat.pow_succ] at ho
    have hl := wv_len n (d ++ [x]) a (y :: b) (by simp at h ⊢; omega)
    have i1 := s_l05Weave_ev n out (d ++ [x]) a (y :: b) (by simp at h ⊢; omega) (by simp; omega) (by omega)
    have i2 := s_l05Weave_ev n (out ++ wv (d ++ [x]) a (y :: b)) (d ++ [y]) (x :: a) b (by simp at h ⊢; omega) (by simp; omega) (by simp; omega)
    unfold wv
    refine Ev.step (fun k => s_l05Weave_eq k _ _ _ _) ?_
    simp only [take_all, List.nil_append, List.getD_cons_zero, List.drop_succ_cons, List.drop_zero]
    refine Ev.no (by (first | (simp [rowMax_eq]; done) | (simp [rowMax_eq]; omega) | omega)) (Ev.yes (by (first | (simp [rowMax_eq]; done) | (simp [rowMax_eq]; omega) | omega)) (Ev.yes (by (first | (simp [rowMax_eq]; done) | (simp [rowMax_eq]; omega) | omega)) (Ev.yes (by (first | (simp [rowMax_eq]; done) | (simp [rowMax_eq]; omega) | omega)) (Ev.yes (by (first | (simp [rowMax_eq]; done) | (simp [rowMax_eq]; omega) | omega)) (Ev.yes (by (first | (simp [rowMax_eq]; done) | (simp [rowMax_eq]; omega) | omega)) (Ev.yes (by (first | (simp [rowMax_eq]; done) | (simp [rowMax_eq]; omega) | omega)) (Ev.bind i1 ?_)))))))
    refine Ev.yes (by (first | (simp [rowMax_eq]; done) | (simp [rowMax_eq]; omega) | omega)) (Ev.yes (by (first | (simp [rowMax_eq]; done) | (simp [rowMax_eq]; omega) | omega)) (Ev.yes (by (first | (simp [rowMax_eq]; done) | (simp [rowMax_eq]; omega) | omega)) (Ev.yes (by (first | (simp [rowMax_eq]; done) | (simp [rowMax_eq]; omega) | omega)) (Ev.yes (by (first | (simp [rowMax_eq]; done) | (simp [rowMax_eq]; omega) | omega)) (Ev.yes (by (first | (simp [rowMax_eq]; done) | (simp [rowMax_eq]; omega) | omega)) (Ev.bind i2 (Ev.some (by simp))))))))
  | 0, out, d, x :: a, _, h, hd, ho => by simp at h
  | 0, out, d, [], y :: b, h, hd, ho => by simp at h
end Qq
namespace Qq
open Go Go.Vt Pt
set_option linter.unusedVariables false
set_option linter.unusedSimpArgs false
/-- A riffle by bits: whether each card comes from the second part. -/
def rfi : Nat → Nat → List Bool → List Nat
  | _, _, [] => []
  | f, s, true :: r => s :: rfi f (s + 1) r
  | f, s, false :: r => f :: rfi (f + 1) s r
def zerosB : List Bool → Nat
  | [] => 0 | true :: r => zerosB r | false :: r => zerosB r + 1
def onesB : List Bool → Nat
  | [] => 0 | true :: r => onesB r + 1 | false :: r => onesB r
def bitsD : Nat → Nat → List Bool
  | 0, _ => [] | m + 1, w => Nat.beq (w % 2) 1 :: bitsD m (w / 2)
def riffI (n w : Nat) : List Nat := rfi 0 (zerosB (bitsD n w)) (bitsD n w)
def decGo : Nat → Option Nat → List Nat → Nat
  | _, _, [] => 0
  | i, none, x :: r => bif Nat.beq x i then decGo (i + 1) none r else 2 ^ i + decGo (i + 1) (some x) r
  | i, some s, x :: r => (bif Nat.ble s x then 2 ^ i else 0) + decGo (i + 1) (some s) r
def isIdB : Nat → List Nat → Bool
  | _, [] => true | i, x :: r => Nat.beq x i && isIdB (i + 1) r
def wellW (w : Nat) : Bool := !isIdB 0 (riffI 12 w)
theorem riff12 : ((List.range 4096).all fun w => isIdB 0 (riffI 12 w) || Nat.beq (decGo 0 none (riffI 12 w)) w) = true := by kernel_rfl
theorem riff12_count : ((List.range 4096).filter wellW).length = 4083 := by kernel_rfl
theorem nodup_sub {α : Type} [DecidableEq α] : ∀ {l m : List α}, l.Nodup → (∀ x ∈ l, x ∈ m) → l.length ≤ m.length
  | [], m, _, _ => Nat.zero_le _
  | x :: l, m, h, hs => by
    obtain ⟨h1, h2⟩ := List.nodup_cons.1 h
    have hx := hs x (by simp)
    have := nodup_sub (l := l) (m := m.erase x) h2 fun y hy => (List.mem_erase_of_ne (fun e => h1 (by rw [e] at hy; exact hy))).2 (hs y (by simp [hy]))
    rw [List.length_erase_of_mem hx] at this
    have : 0 < m.length := List.length_pos_of_mem hx
    simp; omega
end Qq
namespace Qq
open Go Go.Vt Pt
set_option linter.unusedVariables false
set_option linter.unusedSimpArgs false
set_option linter.unnecessarySimpa false
theorem bitsD_len : ∀ (m w : Nat), (bitsD m w).length = m
  | 0, _ => rfl
  | m + 1, w => by rw [bitsD, List.length_cons, bitsD_len]
theorem zo_len : ∀ l : List Bool, zerosB l + onesB l = l.length
  | [] => rfl
  | true :: r => by have := zo_len r; simp [zerosB, onesB]; omega
  | false :: r => by have := zo_len r; simp [zerosB, onesB]; omega
def rfp (p : List Int) : Nat → Nat → List Bool → List Int
  | _, _, [] => []
  | f, s, true :: r => p.getD s 0 :: rfp p f (s + 1) r
  | f, s, false :: r => p.getD f 0 :: rfp p (f + 1) s r
def riffp (p : List Int) (w : Nat) : List Int := rfp p 0 (zerosB (bitsD p.length w)) (bitsD p.length w)
theorem div_next (w i : Nat) : w / 2 ^ i / 2 = w / 2 ^ (i + 1) := by rw [Nat.div_div_eq_div_mul, Nat.pow_succ]
theorem bitsD_step (m w i : Nat) : bitsD (m + 1) (w / 2 ^ i) = Nat.beq (w / 2 ^ i % 2) 1 :: bitsD m (w / 2 ^ (i + 1)) := by rw [bitsD, div_next]
theorem i_riffledp_l9_ev (p : List Int) (hp : p.length ≤ 12) (w : Nat) (hw : w ≤ 4096) : ∀ (m i f s : Nat) (out : List Int), i + m = p.length → f + zerosB (bitsD m (w / 2 ^ i)) ≤ p.length → s + onesB (bitsD m (w / 2 ^ i)) ≤ p.length → out.length ≤ i →
    Ev (fun k => i_riffled_l9 k p (w : Int) (f : Int) (s : Int) (p.length : Int) (i : Int) out) (out ++ rfp p f s (bitsD m (w / 2 ^ i)))
  | 0, i, f, s, out, h, hf, hs, ho => by
    refine Ev.step (fun k => i_riffled_l9_eq k _ _ _ _ _ _ _) (Ev.no (by simp; omega) (Ev.some ?_))
    simp [bitsD, rfp]
  | m + 1, i, f, s, out, h, hf, hs, ho => by
    have ih := fun f s out => i_riffledp_l9_ev p hp w hw m (i + 1) f s out (by omega)
    have ew : ∀ j : Nat, j ≤ 12 → IntKind.i64.wrap ((j : Int) + 1) = ((j + 1 : Nat) : Int) := fun j hj => by rw [wrap_id (by omega) (by omega)]; omega
    rw [bitsD_step] at hf hs ⊢
    refine Ev.step (fun k => i_riffled_l9_eq k _ _ _ _ _ _ _) ?_
    simp only [bit_wrap w i (by omega) (by omega), ew i (by omega)]
    simp only [Int.toNat_natCast]
    refine Ev.yes (by simp; omega) (Ev.yes (by simp) ?_)
    cases hb : Nat.beq (w / 2 ^ i % 2) 1 with
    | true =>
      rw [hb] at hf hs
      have hb' := Nat.eq_of_beq_eq_true hb
      simp only [zerosB, onesB] at hf hs
      rw [ew s (by omega)]
      refine Ev.yes (by rw [hb']; rfl) (Ev.yes (by simp) (Ev.yes (by simp; omega) (Ev.yes (by rw [rowMax_eq]; exact decide_eq_true (by simp; omega)) ?_)))
      exact (ih f (s + 1) (out ++ [p.getD s 0]) (by omega) (by omega) (by simp; omega)).to (by simp [rfp])
    | false =>
      rw [hb] at hf hs
      have hb' : ¬ w / 2 ^ i % 2 = 1 := fun e => by rw [e] at hb; cases hb
      simp only [zerosB, onesB] at hf hs
      rw [ew f (by omega)]
      have h0 : w / 2 ^ i % 2 = 0 := by omega
      refine Ev.no (by rw [h0]; rfl) (Ev.yes (by simp) (Ev.yes (by simp; omega) (Ev.yes (by rw [rowMax_eq]; exact decide_eq_true (by simp; omega)) ?_)))
      exact (ih (f + 1) s (out ++ [p.getD f 0]) (by omega) (by omega) (by simp; omega)).to (by simp [rfp])
theorem i_riffledp_l3_ev (p : List Int) (hp : p.length ≤ 12) (w : Nat) (hw : w ≤ 4096) : ∀ (m i z : Nat), i + m = p.length → z ≤ i →
    Ev (fun k => i_riffled_l3 k p (w : Int) 0 (z : Int) (p.length : Int) (i : Int)) (rfp p 0 (z + zerosB (bitsD m (w / 2 ^ i))) (bitsD p.length w)) ∨ z + zerosB (bitsD m (w / 2 ^ i)) ≠ zerosB (bitsD p.length w)
  | 0, i, z, h, hz => by
    by_cases hzz : z + zerosB (bitsD 0 (w / 2 ^ i)) = zerosB (bitsD p.length w)
    · left
      refine Ev.step (fun k => i_riffled_l3_eq k _ _ _ _ _ _) (Ev.no (by simp; omega) ?_)
      have e : zerosB (bitsD 0 (w / 2 ^ i)) = 0 := rfl
      rw [e] at hzz ⊢
      have hl := zo_len (bitsD p.length w)
      rw [bitsD_len] at hl
      have := i_riffledp_l9_ev p hp w hw p.length 0 0 z [] (by omega) (by rw [Nat.pow_zero, Nat.div_one]; omega) (by rw [Nat.pow_zero, Nat.div_one]; omega) (Nat.le_refl _)
      rw [Nat.pow_zero, Nat.div_one, List.nil_append] at this
      exact this
    · exact .inr hzz
  | m + 1, i, z, h, hz => by
    rw [bitsD_step]
    have ew : IntKind.i64.wrap ((i : Int) + 1) = ((i + 1 : Nat) : Int) := by rw [wrap_id (by omega) (by omega)]; omega
    cases hb : Nat.beq (w / 2 ^ i % 2) 1 with
    | true =>
      have hb' := Nat.eq_of_beq_eq_true hb
      simp only [zerosB]
      refine (i_riffledp_l3_ev p hp w hw m (i + 1) z (by omega) (by omega)).imp_left fun ih => ?_
      refine Ev.step (fun k => i_riffled_l3_eq k _ _ _ _ _ _) ?_
      simp only [bit_wrap w i (by omega) (by omega), ew, hb']
      refine Ev.yes (by simp; omega) (Ev.yes (by simp) ?_)
      have e2 : IntKind.i64.wrap ((z : Int) + IntKind.i64.wrap (1 - ((1 : Nat) : Int))) = (z : Int) := by rw [wrap_id (x := 1 - ((1 : Nat) : Int)) (by omega) (by omega), wrap_id (by omega) (by omega)]; omega
      rw [e2]
      exact ih
    | false =>
      have hb' : w / 2 ^ i % 2 = 0 := by
        have : ¬ w / 2 ^ i % 2 = 1 := fun e => by rw [e] at hb; cases hb
        omega
      simp only [zerosB]
      rw [show z + (zerosB (bitsD m (w / 2 ^ (i + 1))) + 1) = (z + 1) + zerosB (bitsD m (w / 2 ^ (i + 1))) by omega]
      refine (i_riffledp_l3_ev p hp w hw m (i + 1) (z + 1) (by omega) (by omega)).imp_left fun ih => ?_
      refine Ev.step (fun k => i_riffled_l3_eq k _ _ _ _ _ _) ?_
      simp only [bit_wrap w i (by omega) (by omega), ew, hb']
      refine Ev.yes (by simp; omega) (Ev.yes (by simp) ?_)
      have e2 : IntKind.i64.wrap ((z : Int) + IntKind.i64.wrap (1 - ((0 : Nat) : Int))) = ((z + 1 : Nat) : Int) := by rw [wrap_id (x := 1 - ((0 : Nat) : Int)) (by omega) (by omega), wrap_id (by omega) (by omega)]; omega
      rw [e2]
      exact ih
theorem i_riffledp_ev (p : List Int) (hp : p.length ≤ 12) (w : Nat) (hw : w ≤ 4096) : Ev (fun k => i_riffled k (p, (w : Int))) (riffp p w) := by
  refine Ev.step (fun k => i_riffled_eq k _ _) ?_
  have := i_riffledp_l3_ev p hp w hw p.length 0 0 (by omega) (Nat.le_refl _)
  rw [Nat.pow_zero, Nat.div_one, Nat.zero_add] at this
  exact this.resolve_right (fun h => h rfl)
def riffsB (p : List Int) : Packs := (List.range (2 ^ p.length)).map (riffp p)
theorem two_le {n : Nat} (h : n ≤ 12) : 2 ^ n ≤ 4096 := Nat.pow_le_pow_right (by decide) h
theorem i_all_l9_ev (p : List Int) (hp : p.length ≤ 12) : ∀ (m i : Nat), i + m = 2 ^ p.length → Ev (fun k => i_all_l9 k p (i : Int) ((List.range i).map (riffp p))) (riffsB p, true)
  | m, i, h => by
    have h2 := two_le hp
    have e : IntKind.i64.wrap ((1 : Int) * 2 ^ (min (p.length : Int).toNat IntKind.i64.bits)) = ((2 ^ p.length : Nat) : Int) := by
      have hm : min (p.length : Int).toNat IntKind.i64.bits = p.length := by
        have : IntKind.i64.bits = 64 := rfl
        rw [this, Int.toNat_natCast]; omega
      rw [hm, Int.one_mul, show (2 : Int) ^ p.length = ((2 ^ p.length : Nat) : Int) by simp, wrap_id (by omega) (by omega)]
    refine Ev.step (fun k => i_all_l9_eq k _ _ _) (Ev.yes (by simp) ?_)
    rw [e]
    match m, h with
    | 0, h =>
      refine Ev.no (by simp only [decide_eq_false_iff_not]; omega) (Ev.some ?_)
      have : i = 2 ^ p.length := by omega
      rw [this]; rfl
    | m + 1, h =>
      have ih := i_all_l9_ev p hp m (i + 1) (by omega)
      rw [range_next] at ih
      have ew : IntKind.i64.wrap ((i : Int) + 1) = ((i + 1 : Nat) : Int) := by rw [wrap_id (by omega) (by omega)]; omega
      rw [ew]
      refine Ev.yes (by simp only [decide_eq_true_eq]; omega) (Ev.bind (i_riffledp_ev p hp i (by omega)) (Ev.yes (by rw [rowMax_eq]; exact decide_eq_true (by simp; omega)) ih))
def riffsW (p : List Int) : Packs := (List.range (p.length + 1)).flatMap fun k => wv [] (p.take k) (p.drop k)
theorem flat_len : ∀ (n i : Nat) (p : List Int), p.length = n → ((List.range i).flatMap fun k => wv [] (p.take k) (p.drop k)).length ≤ i * 2 ^ n
  | n, 0, p, h => by simp
  | n, i + 1, p, h => by
    have h1 := flat_len n i p h
    have h2 := wv_len n [] (p.take i) (p.drop i) (by simp; omega)
    rw [List.range_succ, List.flatMap_append, List.length_append, Nat.add_mul, Nat.one_mul]
    simp only [List.flatMap_cons, List.flatMap_nil, List.append_nil]
    omega
theorem s_l05Of_l7_ev (p : List Int) (hp : p.length ≤ 12) : ∀ (m i : Nat), i + m = p.length + 1 → Ev (fun k => s_l05Of_l7 k p (i : Int) ((List.range i).flatMap fun k => wv [] (p.take k) (p.drop k))) (riffsW p)
  | 0, i, h => by
    refine Ev.step (fun k => s_l05Of_l7_eq k _ _ _) (Ev.no (by simp; omega) (Ev.some ?_))
    have : i = p.length + 1 := by omega
    rw [this]; rfl
  | m + 1, i, h => by
    have ih := s_l05Of_l7_ev p hp m (i + 1) (by omega)
    have e : (List.range (i + 1)).flatMap (fun k => wv [] (p.take k) (p.drop k)) = ((List.range i).flatMap fun k => wv [] (p.take k) (p.drop k)) ++ wv [] (p.take i) (p.drop i) := by
      rw [List.range_succ, List.flatMap_append]; simp
    rw [e] at ih
    have ew : IntKind.i64.wrap ((i : Int) + 1) = ((i + 1 : Nat) : Int) := by rw [wrap_id (by omega) (by omega)]; omega
    have h2 := two_le hp
    have hl := flat_len p.length i p rfl
    have hl2 : i * 2 ^ p.length ≤ 13 * 4096 := Nat.mul_le_mul (by omega) h2
    refine Ev.step (fun k => s_l05Of_l7_eq k _ _ _) ?_
    simp only [ew, take_all, Int.toNat_natCast, List.take_length, List.drop_zero]
    refine Ev.yes (by simp; omega) ?_
    (repeat (first | refine Ev.yes (by (first | (simp [rowMax_eq]; done) | (simp [rowMax_eq]; omega) | omega)) ?_ | refine Ev.no (by (first | (simp [rowMax_eq]; done) | (simp [rowMax_eq]; omega) | omega)) ?_))
    exact Ev.bind (s_l05Weave_ev p.length _ [] _ _ (by simp; omega) (by simp; omega) (by omega)) ih
def weaveB : List Bool → List Int → List Int → List Int
  | true :: r, a, y :: b => y :: weaveB r a b
  | false :: r, x :: a, b => x :: weaveB r a b
  | _, _, _ => []
theorem wv_mem : ∀ (n : Nat) (d a b q : List Int), a.length + b.length = n → (q ∈ wv d a b ↔ ∃ bits, zerosB bits = a.length ∧ onesB bits = b.length ∧ q = d ++ weaveB bits a b)
  | n, d, [], [], q, h => by
    unfold wv
    constructor
    · intro hq
      exact ⟨[], rfl, rfl, by simpa [weaveB] using hq⟩
    · rintro ⟨bits, h1, h2, rfl⟩
      have : bits = [] := by
        have := zo_len bits
        simp at h1 h2
        exact List.length_eq_zero_iff.1 (by omega)
      subst this
      simp [weaveB]
  | n + 1, d, x :: a, [], q, h => by
    unfold wv
    rw [wv_mem n (d ++ [x]) a [] q (by simp at h ⊢; omega)]
    constructor
    · rintro ⟨bits, h1, h2, rfl⟩
      exact ⟨false :: bits, by simp [zerosB, h1], by simpa [onesB] using h2, by simp [weaveB]⟩
    · rintro ⟨bits, h1, h2, rfl⟩
      match bits, h1, h2 with
      | false :: bits, h1, h2 => exact ⟨bits, by simpa [zerosB] using h1, by simpa [onesB] using h2, by simp [weaveB]⟩
      | true :: bits, h1, h2 => simp [onesB] at h2
      | [], h1, h2 => simp [zerosB] at h1
  | n + 1, d, [], y :: b, q, h => by
    unfold wv
    rw [wv_mem n (d ++ [y]) [] b q (by simp at h ⊢; omega)]
    constructor
    · rintro ⟨bits, h1, h2, rfl⟩
      exact ⟨true :: bits, by simpa [zerosB] using h1, by simp [onesB, h2], by simp [weaveB]⟩
    · rintro ⟨bits, h1, h2, rfl⟩
      match bits, h1, h2 with
      | true :: bits, h1, h2 => exact ⟨bits, by simpa [zerosB] using h1, by simpa [onesB] using h2, by simp [weaveB]⟩
      | false :: bits, h1, h2 => simp [zerosB] at h1
      | [], h1, h2 => simp [onesB] at h2
  | n + 1, d, x :: a, y :: b, q, h => by
    unfold wv
    rw [List.mem_append, wv_mem n (d ++ [x]) a (y :: b) q (by simp at h ⊢; omega), wv_mem n (d ++ [y]) (x :: a) b q (by simp at h ⊢; omega)]
    constructor
    · rintro (⟨bits, h1, h2, rfl⟩ | ⟨bits, h1, h2, rfl⟩)
      · exact ⟨false :: bits, by simp [zerosB, h1], by simpa [onesB] using h2, by simp [weaveB]⟩
      · exact ⟨true :: bits, by simpa [zerosB] using h1, by simp [onesB, h2], by simp [weaveB]⟩
    · rintro ⟨bits, h1, h2, rfl⟩
      match bits, h1, h2 with
      | true :: bits, h1, h2 => exact .inr ⟨bits, by simpa [zerosB] using h1, by simpa [onesB] using h2, by simp [weaveB]⟩
      | false :: bits, h1, h2 => exact .inl ⟨bits, by simpa [zerosB] using h1, by simpa [onesB] using h2, by simp [weaveB]⟩
      | [], h1, h2 => simp [onesB] at h2
  | 0, d, x :: a, _, q, h => by simp at h
  | 0, d, [], y :: b, q, h => by simp at h
theorem rfp_weave (p : List Int) (k : Nat) (hk : k ≤ p.length) : ∀ (bits : List Bool) (f s : Nat), f + zerosB bits = k → s + onesB bits = p.length → rfp p f s bits = weaveB bits ((p.take k).drop f) (p.drop s)
  | [], f, s, h1, h2 => by unfold rfp weaveB; rfl
  | true :: r, f, s, h1, h2 => by
    simp only [zerosB, onesB] at h1 h2
    have hs : s < p.length := by omega
    rw [List.drop_eq_getElem_cons hs]
    unfold rfp weaveB
    rw [rfp_weave p k hk r f (s + 1) h1 (by omega)]
    simp [List.getD, hs]
  | false :: r, f, s, h1, h2 => by
    simp only [zerosB, onesB] at h1 h2
    have hf : f < (p.take k).length := by simp; omega
    rw [List.drop_eq_getElem_cons hf]
    unfold rfp weaveB
    rw [rfp_weave p k hk r (f + 1) s (by omega) h2]
    have : f < p.length := by omega
    simp [List.getD, this]
def nb : List Bool → Nat
  | [] => 0 | b :: r => (bif b then 1 else 0) + 2 * nb r
theorem bitsD_nb : ∀ l : List Bool, bitsD l.length (nb l) = l ∧ nb l < 2 ^ l.length
  | [] => ⟨rfl, by decide⟩
  | b :: r => by
    obtain ⟨h1, h2⟩ := bitsD_nb r
    rw [List.length_cons, bitsD, nb, Nat.pow_succ]
    have e1 : ((bif b then 1 else 0) + 2 * nb r) / 2 = nb r := by cases b <;> simp <;> omega
    have e2 : ((bif b then 1 else 0) + 2 * nb r) % 2 = (bif b then 1 else 0) := by cases b <;> simp <;> omega
    rw [e1, e2, h1]
    refine ⟨by cases b <;> rfl, ?_⟩
    cases b <;> simp <;> omega
theorem riffs_same (p q : List Int) : q ∈ riffsB p ↔ q ∈ riffsW p := by
  unfold riffsB riffsW
  rw [List.mem_map, List.mem_flatMap]
  constructor
  · rintro ⟨w, hw, rfl⟩
    have hl := zo_len (bitsD p.length w)
    rw [bitsD_len] at hl
    refine ⟨zerosB (bitsD p.length w), by simp; omega, ?_⟩
    rw [wv_mem p.length [] _ _ _ (by simp; omega)]
    refine ⟨bitsD p.length w, by simp; omega, by simp; omega, ?_⟩
    unfold riffp
    rw [rfp_weave p (zerosB (bitsD p.length w)) (by omega) _ 0 _ (by omega) (by omega)]
    simp
  · rintro ⟨k, hk, hq⟩
    have hk' : k ≤ p.length := by have := List.mem_range.1 hk; omega
    rw [wv_mem p.length [] _ _ _ (by simp; omega)] at hq
    obtain ⟨bits, h1, h2, rfl⟩ := hq
    simp at h1 h2
    have hl := zo_len bits
    obtain ⟨b1, b2⟩ := bitsD_nb bits
    have hbl : bits.length = p.length := by omega
    rw [hbl] at b1 b2
    refine ⟨nb bits, List.mem_range.2 b2, ?_⟩
    unfold riffp
    rw [b1, rfp_weave p k hk' bits 0 _ (by omega) (by omega)]
    have : zerosB bits = k := by omega
    rw [this]
    simp
end Qq
namespace Qq
open Go Go.Vt Pt
set_option linter.unusedVariables false
set_option linter.unusedSimpArgs false
set_option linter.unnecessarySimpa false
theorem rfp_rfi (p : List Int) : ∀ (bits : List Bool) (f s : Nat), rfp p f s bits = (rfi f s bits).map fun i => p.getD i 0
  | [], _, _ => rfl
  | true :: r, f, s => by unfold rfp rfi; rw [rfp_rfi p r]; rfl
  | false :: r, f, s => by unfold rfp rfi; rw [rfp_rfi p r]; rfl
theorem rfi_lt (n : Nat) : ∀ (bits : List Bool) (f s : Nat), f + zerosB bits ≤ n → s + onesB bits ≤ n → ∀ x ∈ rfi f s bits, x < n
  | [], _, _, _, _, x, hx => by cases hx
  | true :: r, f, s, h1, h2, x, hx => by
    simp only [zerosB, onesB] at h1 h2
    rcases List.mem_cons.1 hx with rfl | hx
    · omega
    · exact rfi_lt n r f (s + 1) h1 (by omega) x hx
  | false :: r, f, s, h1, h2, x, hx => by
    simp only [zerosB, onesB] at h1 h2
    rcases List.mem_cons.1 hx with rfl | hx
    · omega
    · exact rfi_lt n r (f + 1) s (by omega) h2 x hx
theorem map_inj_on {g : Nat → Int} {n : Nat} (hg : ∀ i j, i < n → j < n → g i = g j → i = j) : ∀ {l m : List Nat}, (∀ x ∈ l, x < n) → (∀ x ∈ m, x < n) → l.map g = m.map g → l = m
  | [], [], _, _, _ => rfl
  | [], _ :: _, _, _, h => by simp at h
  | _ :: _, [], _, _, h => by simp at h
  | x :: l, y :: m, hl, hm, h => by
    simp only [List.map_cons, List.cons.injEq] at h
    rw [hg x y (hl x (by simp)) (hm y (by simp)) h.1, map_inj_on hg (fun z hz => hl z (by simp [hz])) (fun z hz => hm z (by simp [hz])) h.2]
theorem riffs12 {p : List Int} (hl : p.length = 12) (hn : p.Nodup) : 3000 < (setL (riffsB p)).length := by
  have hg : ∀ i j, i < 12 → j < 12 → p.getD i 0 = p.getD j 0 → i = j := fun i j hi hj e => by
    have h1 : i < p.length := by omega
    have h2 : j < p.length := by omega
    simp only [List.getD, List.getElem?_eq_getElem h1, List.getElem?_eq_getElem h2, Option.getD_some] at e
    have hpw := List.pairwise_iff_getElem.1 (show p.Pairwise (fun a b => a ≠ b) from hn)
    rcases Nat.lt_trichotomy i j with h | h | h
    · exact (hpw i j h1 h2 h e).elim
    · exact h
    · exact (hpw j i h2 h1 h e.symm).elim
  have hlt : ∀ w, ∀ x ∈ riffI 12 w, x < 12 := fun w => by
    have := zo_len (bitsD 12 w)
    rw [bitsD_len] at this
    exact rfi_lt 12 _ 0 _ (by omega) (by omega)
  have hr : ∀ w, riffp p w = (riffI 12 w).map fun i => p.getD i 0 := fun w => by unfold riffp riffI; rw [hl, rfp_rfi]
  have hdec : ∀ w, w < 4096 → wellW w = true → decGo 0 none (riffI 12 w) = w := fun w hw hwell => by
    have := List.all_eq_true.1 riff12 w (List.mem_range.2 hw)
    unfold wellW at hwell
    rw [Bool.not_eq_true'] at hwell
    rw [hwell, Bool.false_or] at this
    exact Nat.eq_of_beq_eq_true this
  have hnd : (((List.range 4096).filter wellW).map (riffp p)).Nodup := by
    rw [List.Nodup, List.pairwise_map]
    refine List.Pairwise.imp_of_mem (fun {a b} ha hb hab e => hab ?_) ((List.nodup_range (n := 4096)).filter wellW)
    obtain ⟨a1, a2⟩ := List.mem_filter.1 ha
    obtain ⟨b1, b2⟩ := List.mem_filter.1 hb
    rw [hr, hr] at e
    have := map_inj_on hg (hlt a) (hlt b) e
    rw [← hdec a (List.mem_range.1 a1) a2, ← hdec b (List.mem_range.1 b1) b2, this]
  have := nodup_sub hnd (m := setL (riffsB p)) (fun q hq => by
    obtain ⟨w, hw, rfl⟩ := List.mem_map.1 hq
    rw [setL_mem]
    unfold riffsB
    rw [hl]
    exact List.mem_map.2 ⟨w, (List.mem_filter.1 hw).1, rfl⟩)
  rw [List.length_map, riff12_count] at this
  omega
theorem riffs_len {p : List Int} (hp : p.length ≤ 11) : (setL (riffsB p)).length ≤ 2048 := by
  refine Nat.le_trans (setL_len _) ?_
  unfold riffsB
  rw [List.length_map, List.length_range]
  exact Nat.pow_le_pow_right (by decide) hp
def flip2 (p : List Int) : List Int := (p.take 2).reverse.map turn ++ p.drop 2
def allOf (p : List Int) (c : Int) : Packs := if c = 1 then cutsL p else if c = 2 then riffsB p else if c = 3 then cutsL (flip2 p) else if c = 4 then picksL p else [p]
def chOk (p : List Int) (c : Int) : Bool := packetOk p && (!(p.length == 0) && (decide (0 ≤ c ∧ c ≤ 4) && (!(decide (c = 3) && decide (p.length < 2)) && !(decide (c = 2) && decide (12 ≤ p.length)))))
structure ChFit (p : List Int) (c : Int) : Prop where
  ok : packetOk p = true
  l1 : 1 ≤ p.length
  l12 : p.length ≤ 12
  c0 : 0 ≤ c
  c4 : c ≤ 4
  c3 : c = 3 → 2 ≤ p.length
  c2 : c = 2 → p.length ≤ 11
theorem chOk_fit {p : List Int} {c : Int} (h : chOk p c = true) : ChFit p c := by
  unfold chOk at h
  simp only [Bool.and_eq_true, Bool.not_eq_true', Bool.and_eq_false_iff, decide_eq_true_eq, decide_eq_false_iff_not, beq_eq_false_iff_ne] at h
  obtain ⟨h1, h2, ⟨h3, h4⟩, h5, h6⟩ := h
  exact ⟨h1, by omega, (packetOk_fit h1).2.2, h3, h4, fun e => by omega, fun e => by omega⟩
theorem flip2_len (p : List Int) : (flip2 p).length = p.length := by unfold flip2; simp; omega
theorem flip2_ins {p : List Int} (hi : Ins p) : Ins (flip2 p) := fun x hx => by
  unfold flip2 at hx
  rcases List.mem_append.1 hx with h | h
  · obtain ⟨y, hy, rfl⟩ := List.mem_map.1 h
    exact in_turn (hi y (List.mem_of_mem_take (List.mem_reverse.1 hy)))
  · exact hi x (List.mem_of_mem_drop h)
theorem allOf_small {p : List Int} {c : Int} (hp : p.length ≤ 12) : (allOf p c).length ≤ 4096 ∧ ∀ q ∈ allOf p c, q.length ≤ 12 := by
  have h2 := two_le hp
  unfold allOf
  split
  · refine ⟨by unfold cutsL; simp; omega, fun q hq => ?_⟩
    obtain ⟨i, _, rfl⟩ := List.mem_map.1 hq
    unfold cutL; simp; omega
  split
  · refine ⟨by unfold riffsB; simpa using h2, fun q hq => ?_⟩
    obtain ⟨w, _, rfl⟩ := List.mem_map.1 hq
    unfold riffp
    rw [rfp_rfi, List.length_map]
    have : ∀ (bits : List Bool) (f s : Nat), (rfi f s bits).length = bits.length := fun bits => by
      induction bits with
      | nil => intro f s; rfl
      | cons b r ih => intro f s; cases b <;> simp [rfi, ih]
    rw [this, bitsD_len]; exact hp
  split
  · refine ⟨by unfold cutsL; simp [flip2_len]; omega, fun q hq => ?_⟩
    obtain ⟨i, _, rfl⟩ := List.mem_map.1 hq
    unfold cutL; simp [flip2_len]; have := flip2_len p; omega
  split
  · refine ⟨by unfold picksL; simp; omega, fun q hq => ?_⟩
    obtain ⟨i, hi, rfl⟩ := List.mem_map.1 hq
    have := List.mem_range.1 hi
    unfold pickL; simp; omega
  · exact ⟨by simp, fun q hq => by have : q = p := by simpa using hq
                                   rw [this]; exact hp⟩
theorem allOf_few {p : List Int} {c : Int} (hp : p.length ≤ 12) (c2 : c ≠ 2) : (allOf p c).length ≤ 12 := by
  unfold allOf
  split
  · unfold cutsL; simpa using hp
  split
  · unfold cutsL; simpa [flip2_len] using hp
  split
  · unfold picksL; simpa using hp
  · simp
theorem s_l05Ok_ev (p : List Int) (c : Int) (hp : p.length ≤ maxLen) : Ev (fun k => s_l05Ok k (p, c)) (chOk p c) := by
  refine Ev.step (fun k => s_l05Ok_eq k p c) (Ev.bind (s_PacketOk_ev p hp) (Ev.ite (fun h => Ev.some ?_) (fun h => Ev.ite (fun h2 => Ev.some ?_) (fun h2 => Ev.bind (l01In_ev _ _ _) (Ev.ite (fun h3 => Ev.some ?_) (fun h3 => ?_))))))
  · have : packetOk p = false := by simpa using h
    simp [chOk, this]
  · have : p.length = 0 := by have : (p.length : Int) = 0 := by simpa using h2
                              omega
    simp [chOk, this]
  · have : ¬ (0 ≤ c ∧ c ≤ 4) := by simp at h3; omega
    unfold chOk
    rw [decide_eq_false this]
    simp
  · have e1 : packetOk p = true := by simpa using h
    have e2 : ¬ p.length = 0 := by have : ¬ (p.length : Int) = 0 := by simpa using h2
                                   omega
    have e3 : 0 ≤ c ∧ c ≤ 4 := by simpa using h3
    have hl := (packetOk_fit e1).2.2
    have base : chOk p c = (!(decide (c = 3) && decide (p.length < 2)) && !(decide (c = 2) && decide (12 ≤ p.length))) := by
      unfold chOk
      rw [e1, decide_eq_true e3]
      simp [e2]
    rw [base]
    refine Ev.ite (fun h4 => Ev.ite (fun h5 => Ev.some ?_) (fun h5 => Ev.some ?_)) (fun h4 => Ev.ite (fun h6 => Ev.ite (fun h5 => Ev.some ?_) (fun h5 => Ev.some ?_)) (fun h6 => Ev.some ?_))
    · have a : ¬ c = 3 := by simpa using h4
      have b : ¬ c = 2 := by simpa using h5
      simp [a, b]
    · have a : ¬ c = 3 := by simpa using h4
      have b : c = 2 := by simpa using h5
      subst b
      by_cases h7 : 12 ≤ p.length
      · simp [h7]; omega
      · simp [h7]; omega
    · have a : c = 3 := by simpa using h4
      have b : ¬ p.length < 2 := by have : (p.length : Int) ≥ 2 := by simpa using h6
                                    omega
      subst a
      simp [b]
    · have a : c = 3 := by simpa using h4
      have b : c = 2 := by simpa using h5
      omega
    · have a : c = 3 := by simpa using h4
      have b : p.length < 2 := by have : ¬ (p.length : Int) ≥ 2 := by simpa using h6
                                  omega
      subst a
      simp [b]
/-- The reference's list holds the same packets. -/
theorem s_l05Of_ev (p : List Int) (c : Int) (h : ChFit p c) (hi : Ins p) : ∃ y, Ev (fun k => s_l05Of k (p, c)) y ∧ y.length ≤ 1048576 ∧ ∀ q, q ∈ y ↔ q ∈ allOf p c := by
  have hp := h.l12
  by_cases c1 : c = 1
  · refine ⟨cutsL p, Ev.step (fun k => s_l05Of_eq k p c) (Ev.yes (by simp [c1]) (Ev.bind (s_l05Cuts_ev p hp hi) (Ev.pure _))), by unfold cutsL; simp; omega, fun q => by simp [allOf, c1]⟩
  by_cases c2 : c = 2
  · refine ⟨riffsW p, Ev.step (fun k => s_l05Of_eq k p c) (Ev.no (by simp [c1]) (Ev.yes (by simp [c2]) (s_l05Of_l7_ev p hp (p.length + 1) 0 (by omega)))), ?_, fun q => by rw [← riffs_same]; simp [allOf, c2]⟩
    have := flat_len p.length (p.length + 1) p rfl
    have h2 := two_le hp
    have h3 : (p.length + 1) * 2 ^ p.length ≤ 13 * 4096 := Nat.mul_le_mul (by omega) h2
    unfold riffsW
    omega
  by_cases c3 : c = 3
  · have h2 := h.c3 c3
    have hb := s_l04Back_ev p hp hi 2 h2 true
    have e : (p.take 2).reverse.map (fun x => bif true then turn x else x) ++ p.drop 2 = flip2 p := rfl
    rw [e] at hb
    refine ⟨cutsL (flip2 p), Ev.step (fun k => s_l05Of_eq k p c) (Ev.no (by simp [c1]) (Ev.no (by simp [c2]) (Ev.yes (by simp [c3]) (Ev.bind hb (Ev.bind (s_l05Cuts_ev _ (by rw [flip2_len]; exact hp) (flip2_ins hi)) (Ev.pure _)))))), by unfold cutsL; simp [flip2_len]; omega, fun q => by simp [allOf, c3]⟩
  by_cases c4 : c = 4
  · refine ⟨picksL p, Ev.step (fun k => s_l05Of_eq k p c) (Ev.no (by simp [c1]) (Ev.no (by simp [c2]) (Ev.no (by simp [c3]) (Ev.yes (by simp [c4]) (s_l05Of_l15_ev p hp p.length 0 (by omega)))))), by unfold picksL; simp; omega, fun q => by simp [allOf, c4]⟩
  · refine ⟨[p], Ev.step (fun k => s_l05Of_eq k p c) (Ev.no (by simp [c1]) (Ev.no (by simp [c2]) (Ev.no (by simp [c3]) (Ev.no (by simp [c4]) (Ev.yes (by rw [rowMax_eq]; simp) (Ev.some rfl)))))), by simp, fun q => by simp [allOf, c1, c2, c3, c4]⟩
theorem setL_congr {l m : Packs} (h : ∀ q, q ∈ l ↔ q ∈ m) : setL l = setL m := setL_of (setL_ss l) fun q => (setL_mem l q).trans (h q)
/-- What a choice leads to; nothing where there is none, or too many. -/
def resOf (p : List Int) (c : Int) : Packs × Bool := if chOk p c then (setL (allOf p c), true) else ([], false)
theorem i_all_ev (p : List Int) (c : Int) (hp : p.length ≤ 12) (hi : Ins p) (h0 : 1 ≤ p.length) : Ev (fun k => i_all k (p, c)) (if (0 ≤ c ∧ c ≤ 4) ∧ ¬ (c = 3 ∧ p.length < 2) then (allOf p c, true) else ([], false)) := by
  refine Ev.step (fun k => i_all_eq k p c) ?_
  refine Ev.ite (fun e => ?_) (fun n0 => Ev.ite (fun e => ?_) (fun n1 => Ev.ite (fun e => ?_) (fun n2 => Ev.ite (fun e => ?_) (fun n3 => Ev.ite (fun e => ?_) (fun n4 => Ev.some ?_)))))
  all_goals simp only [beq_iff_eq, beq_eq_false_iff_ne, ne_eq] at *
  · subst e
    exact Ev.bind (Clone_int_ev p (by omega)) (Ev.some (by simp [allOf]))
  · subst e
    exact Ev.bind (i_cuts_ev p hp hi) (Ev.some (by simp [allOf]))
  · subst e
    exact (i_all_l9_ev p hp (2 ^ p.length) 0 (by omega)).to (by simp [allOf])
  · subst e
    refine Ev.ite (fun h => Ev.some ?_) (fun h => ?_)
    · have : p.length < 2 := by have : (p.length : Int) < 2 := by simpa using h
                                omega
      simp [this]
    · have h2 : ¬ p.length < 2 := by have : ¬ (p.length : Int) < 2 := by simpa using h
                                     omega
      have hm := i_moved_ev p (3, ((2 : Nat) : Int)) ⟨h0, hp, by simp, .inl (by simp; omega), fun _ => by simp; omega, fun h => by simp at h, fun _ _ h3 => absurd rfl h3⟩ hi
      have ed : doMove p (3, ((2 : Nat) : Int)) = flip2 p := by simp [doMove, flip2]
      rw [ed] at hm
      exact Ev.bind hm (Ev.bind (i_cuts_ev _ (by rw [flip2_len]; exact hp) (flip2_ins hi)) (Ev.some (by simp [allOf, h2])))
  · subst e
    exact (i_all_l20_ev p hp p.length 0 (by omega)).to (by simp [allOf])
  · rw [if_neg (by omega)]
theorem i_ResultsOf_ev (p : List Int) (c : Int) (hp : p.length ≤ maxLen) (hi : Ins p) : Ev (fun k => i_ResultsOf k (p, c)) (resOf p c) := by
  unfold resOf
  refine Ev.step (fun k => i_ResultsOf_eq k p c) (Ev.bind (i_PacketOk_ev p hp hi) (Ev.ite (fun h => Ev.some ?_) (fun h => Ev.ite (fun h2 => Ev.some ?_) (fun h2 => ?_))))
  · have : packetOk p = false := by simpa using h
    simp [chOk, this]
  · have : p.length = 0 := by have : (p.length : Int) = 0 := by simpa using h2
                              omega
    simp [chOk, this]
  · have e1 : packetOk p = true := by simpa using h
    have e2 : ¬ p.length = 0 := by have : ¬ (p.length : Int) = 0 := by simpa using h2
                                   omega
    have hl := (packetOk_fit e1).2.2
    have hnd : p.Nodup := by
      have := (packetOk_fit e1).1
      rw [List.Nodup, List.pairwise_map] at this
      exact this.imp fun h e => h (by rw [e])
    refine Ev.bind (i_all_ev p c hl hi (by omega)) ?_
    by_cases hc : (0 ≤ c ∧ c ≤ 4) ∧ ¬ (c = 3 ∧ p.length < 2)
    · rw [if_pos hc]
      have hs := allOf_small (c := c) hl
      refine Ev.bind (i_SortPackets_ev _ (Nat.le_trans hs.1 (by decide)) (fun q hq => Nat.le_trans (hs.2 q hq) (by decide))) (Ev.no rfl ?_)
      refine Ev.ite (fun h3 => Ev.some ?_) (fun h3 => Ev.some ?_)
      · have h3' : 3000 < (setL (allOf p c)).length := by have : ((setL (allOf p c)).length : Int) > 3000 := by simpa using h3
                                                          omega
        have : c = 2 ∧ 12 ≤ p.length := by
          apply Classical.byContradiction
          intro hcon
          have h5 := setL_len (allOf p c)
          by_cases c2 : c = 2
          · have := riffs_len (p := p) (by omega)
            rw [c2] at h3'
            simp only [allOf] at h3'
            simp at h3'
            omega
          · have := allOf_few (p := p) hl c2
            omega
        rw [if_neg]
        unfold chOk
        simp [this.1, this.2]
      · have h3' : ¬ 3000 < (setL (allOf p c)).length := by have : ¬ ((setL (allOf p c)).length : Int) > 3000 := by simpa using h3
                                                            omega
        have : ¬ (c = 2 ∧ 12 ≤ p.length) := fun ⟨a, b⟩ => h3' (by
          have := riffs12 (p := p) (by omega) hnd
          rw [a]
          simpa [allOf] using this)
        rw [if_pos]
        unfold chOk
        rw [e1, decide_eq_true hc.1]
        have h6 := hc.2
        by_cases x3 : c = 3
        · have : ¬ p.length < 2 := fun h => h6 ⟨x3, h⟩
          simp [e2, x3, this]
        · by_cases x2 : c = 2
          · have : ¬ 12 ≤ p.length := fun h => this ⟨x2, h⟩
            simp [e2, x2, this]
          · simp [e2, x3, x2]
    · rw [if_neg hc]
      refine Ev.bind (i_SortPackets_ev [] (by simp) (fun q hq => by cases hq)) (Ev.yes rfl (Ev.some ?_))
      rw [if_neg]
      unfold chOk
      by_cases c04 : 0 ≤ c ∧ c ≤ 4
      · have : c = 3 ∧ p.length < 2 := Classical.byContradiction fun h => hc ⟨c04, h⟩
        simp [this.1, this.2]
      · rw [decide_eq_false c04]; simp
end Qq
namespace Qq
open Go Go.Vt Pt
set_option linter.unusedVariables false
set_option linter.unusedSimpArgs false
set_option linter.unnecessarySimpa false
theorem card_turn (x : Int) : card (turn x) = card x := by
  unfold turn
  split
  · rfl
  · rename_i h
    unfold card at h ⊢
    split at h
    · rename_i h1
      rw [if_neg (by omega), if_pos (by omega), if_pos h1]; omega
    · rename_i h1
      split at h
      · rename_i h2
        rw [if_pos (by omega), if_neg h1, if_pos h2]
      · omega
theorem map_turn (l : List Int) : (l.map turn).map card = l.map card := by rw [List.map_map]; exact List.map_congr_left fun x _ => card_turn x
abbrev Pm (q p : List Int) : Prop := (q.map card).Perm (p.map card)
theorem Pm.of {q p : List Int} (h : q.Perm p) : Pm q p := h.map card
theorem fz_perm : ∀ (n : Nat) (f : Bool) (a b : List Int), a.length + b.length = n → (fz f a b).Perm (a ++ b)
  | n, f, [], [], h => by unfold fz; exact .refl _
  | n, f, x :: a, [], h => by
    match n, h with
    | n + 1, h =>
    unfold fz
    exact (fz_perm n (!f) a [] (by simp at h ⊢; omega)).cons x
  | n, f, [], y :: b, h => by
    match n, h with
    | n + 1, h =>
    unfold fz
    exact (fz_perm n (!f) [] b (by simp at h ⊢; omega)).cons y
  | n, true, x :: a, y :: b, h => by
    match n, h with
    | n + 1, h =>
    unfold fz
    exact (fz_perm n false a (y :: b) (by simp at h ⊢; omega)).cons x
  | n, false, x :: a, y :: b, h => by
    match n, h with
    | n + 1, h =>
    unfold fz
    exact ((fz_perm n true (x :: a) b (by simp at h ⊢; omega)).cons y).trans List.perm_middle.symm
termination_by n => n
theorem mz_perm (k : Int) : ∀ (r : List Int) (i : Nat) (out : List Int), (mz k i r out).Perm (r ++ out)
  | [], i, out => by unfold mz; exact .refl _
  | x :: r, i, out => by
    unfold mz
    split
    · refine (mz_perm k r (i + 1) (out ++ [x])).trans ?_
      rw [← List.append_assoc]
      exact List.perm_append_comm
    · exact (mz_perm k r (i + 1) (x :: out)).trans List.perm_middle
theorem ends (p : List Int) (h : 1 < p.length) : p = p.getD 0 0 :: ((p.take (p.length - 1)).drop 1 ++ [p.getD (p.length - 1) 0]) := by
  cases p with
  | nil => simp at h
  | cons x r =>
    simp at h
    have hr : r ≠ [] := by intro e; subst e; simp at h
    have e1 : (x :: r).length - 1 = r.length - 1 + 1 := by simp; omega
    rw [e1, List.take_succ_cons, List.drop_one, List.tail_cons]
    have e2 : (x :: r).getD (r.length - 1 + 1) 0 = r.getLast hr := by
      simp only [List.getD, List.getElem?_cons_succ]
      rw [List.getLast_eq_getElem, List.getElem?_eq_getElem (by omega)]
      rfl
    rw [e2, ← List.dropLast_eq_take, List.dropLast_concat_getLast hr]
    rfl
theorem kz_perm : ∀ (n : Nat) (p out : List Int), (kz n p out).Perm (p ++ out)
  | 0, p, out => by unfold kz; exact .refl _
  | n + 1, p, out => by
    unfold kz
    split
    · rename_i h
      refine (kz_perm n _ _).trans ?_
      have e := ends p h
      generalize p.getD 0 0 = x at *
      generalize p.getD (p.length - 1) 0 = y at *
      generalize (p.take (p.length - 1)).drop 1 = m at *
      rw [e]
      refine List.perm_middle.trans (List.Perm.cons x ?_)
      simp
    · exact .refl _
theorem dz_perm : ∀ (n : Nat) (f : Bool) (q out : List Int), 1 ≤ q.length → 2 * q.length + (bif f then 0 else 1) ≤ n → (dz n f q out).Perm (q ++ out)
  | 0, f, q, out, h, hn => by omega
  | n + 1, f, q, out, h, hn => by
    unfold dz
    cases q with
    | nil => simp at h
    | cons x r =>
      split
      · rename_i h1
        cases f with
        | true =>
          simp at h1 hn
          refine (dz_perm n false r (x :: out) (by omega) (by simp; omega)).trans ?_
          exact List.perm_middle
        | false =>
          simp at h1 hn
          refine (dz_perm n true (r ++ [x]) out (by simp) (by simp; omega)).trans ?_
          rw [List.append_assoc]
          exact List.perm_middle
      · rename_i h1
        simp at h1
        subst h1
        exact .refl _
theorem perm_out (p : List Int) (i : Nat) (h : i < p.length) : (p.take i ++ p.drop (i + 1) ++ [p.getD i 0]).Perm p := by
  have e : p = p.take i ++ (p.getD i 0 :: p.drop (i + 1)) := by
    have : p.getD i 0 = p[i] := by simp [List.getD, h]
    rw [this, ← List.drop_eq_getElem_cons h, List.take_append_drop]
  have h1 : (p.take i ++ p.drop (i + 1) ++ [p.getD i 0]).Perm (p.take i ++ (p.getD i 0 :: p.drop (i + 1))) := by
    rw [List.append_assoc]
    exact List.Perm.append_left _ (List.perm_append_comm (l₁ := p.drop (i + 1)) (l₂ := [p.getD i 0]))
  rw [← e] at h1
  exact h1
theorem pm_turned (p : List Int) (k : Nat) : Pm ((p.take k).reverse.map turn ++ p.drop k) p := by
  show (List.map card _).Perm _
  rw [List.map_append, map_turn]
  refine (((List.reverse_perm (p.take k)).map card).append_right _).trans ?_
  rw [← List.map_append, List.take_append_drop]
theorem doMove_pm {p : List Int} {m : Int × Int} (h : MoveFit p.length m) : Pm (doMove p m) p := by
  have h1 := h.n1
  have ht := h.t
  unfold doMove
  split
  · refine Pm.of (List.perm_append_comm.trans ?_)
    rw [List.take_append_drop]
  split
  · refine Pm.of (((List.reverse_perm (p.take m.2.toNat)).append_right _).trans ?_)
    rw [List.take_append_drop]
  split
  · exact pm_turned p _
  split
  · unfold faroL
    refine Pm.of ((fz_perm _ _ _ _ rfl).trans ?_)
    rw [List.take_append_drop]
  split
  · exact Pm.of ((mz_perm m.2 p 0 []).trans (by simp))
  split
  · exact Pm.of ((kz_perm p.length p []).trans (by simp))
  split
  · exact Pm.of ((dz_perm (2 * p.length + 1) (m.2 == 1) p [] h1 (by cases (m.2 == 1) <;> simp)).trans (by simp))
  split
  · rename_i a1 a2 a3 a4 a5 a6 a7 a8
    have h5 := ht a1 a2 a3 a4 a5 a6 a7
    have h6 := h.k0
    have hlt : m.2.toNat < p.length := by omega
    show (List.map card _).Perm _
    rw [List.map_set, card_turn]
    have e : card (p.getD m.2.toNat 0) = (p.map card)[m.2.toNat]'(by simpa using hlt) := by simp [List.getD, hlt]
    rw [e, List.set_getElem_self]
  · rename_i a1 a2 a3 a4 a5 a6 a7 a8
    have h5 := ht a1 a2 a3 a4 a5 a6 a7
    have h6 := h.k0
    exact Pm.of (perm_out p _ (by omega))
theorem rfi_perm : ∀ (bits : List Bool) (f s : Nat), (rfi f s bits).Perm (List.range' f (zerosB bits) ++ List.range' s (onesB bits))
  | [], f, s => by simp [rfi, zerosB, onesB]
  | true :: r, f, s => by
    unfold rfi zerosB onesB
    rw [List.range'_succ]
    exact ((rfi_perm r f (s + 1)).cons s).trans List.perm_middle.symm
  | false :: r, f, s => by
    unfold rfi zerosB onesB
    rw [List.range'_succ]
    exact (rfi_perm r (f + 1) s).cons f
theorem riffp_perm (p : List Int) (w : Nat) : (riffp p w).Perm p := by
  unfold riffp
  rw [rfp_rfi]
  have hz := zo_len (bitsD p.length w)
  rw [bitsD_len] at hz
  refine ((rfi_perm _ _ _).map _).trans ?_
  have e : List.range' 0 (zerosB (bitsD p.length w)) ++ List.range' (zerosB (bitsD p.length w)) (onesB (bitsD p.length w)) = List.range p.length := by
    have := List.range'_append_1 (s := 0) (m := zerosB (bitsD p.length w)) (n := onesB (bitsD p.length w))
    rw [Nat.zero_add] at this
    rw [this, List.range_eq_range']
    congr 1
  rw [e]
  have : (List.range p.length).map (fun i => p.getD i 0) = p := by
    apply List.ext_getElem
    · simp
    · intro i h1 h2
      simp [List.getD, h2]
  rw [this]
theorem allOf_pm {p : List Int} {c : Int} (q : List Int) (hq : q ∈ allOf p c) : Pm q p := by
  have cut : ∀ (p q : List Int), q ∈ cutsL p → q.Perm p := fun p q hq => by
    obtain ⟨i, _, rfl⟩ := List.mem_map.1 hq
    unfold cutL
    refine List.perm_append_comm.trans ?_
    rw [List.take_append_drop]
  unfold allOf at hq
  split at hq
  · exact Pm.of (cut _ _ hq)
  split at hq
  · obtain ⟨w, _, rfl⟩ := List.mem_map.1 hq
    exact Pm.of (riffp_perm p w)
  split at hq
  · exact (Pm.of (cut _ _ hq)).trans (pm_turned p 2)
  split at hq
  · obtain ⟨i, hi, rfl⟩ := List.mem_map.1 hq
    have := List.mem_range.1 hi
    unfold pickL
    exact Pm.of (List.perm_append_comm.trans (perm_out p i this))
  · have : q = p := by simpa using hq
    rw [this]
/-- Packets of the same cards are right as one. -/
theorem pk_of : ∀ (r done : List Int), (done ++ r.map card).Nodup → (∀ x ∈ r, 0 ≤ card x) → pk done r = true
  | [], done, _, _ => rfl
  | x :: r, done, h, h0 => by
    unfold pk
    rw [List.map_cons] at h
    have hx : card x ∉ done := fun hm => (List.nodup_append.1 h).2.2 _ hm _ (by simp) rfl
    rw [decide_eq_true (h0 x (by simp)), pk_of r (done ++ [card x]) (by simpa using h) (fun y hy => h0 y (by simp [hy]))]
    simp [hx]
theorem packetOk_pm {p q : List Int} (h : packetOk p = true) (hq : Pm q p) : packetOk q = true ∧ q.length = p.length := by
  obtain ⟨h1, h2, h3⟩ := packetOk_fit h
  refine ⟨pk_of q [] (by simpa using hq.nodup_iff.2 h1) (fun x hx => ?_), by have := hq.length_eq; simpa using this⟩
  have := hq.mem_iff.1 (List.mem_map.2 ⟨x, hx, rfl⟩)
  obtain ⟨y, hy, e⟩ := List.mem_map.1 this
  have := (h2 y hy).1
  omega
theorem packetOk_ins {p : List Int} (h : packetOk p = true) : Ins p := fun x hx => by
  have := ((packetOk_fit h).2.1 x hx).1
  unfold card at this
  unfold In
  split at this
  · omega
  · split at this <;> omega
end Qq
namespace Qq
open Go Go.Vt Pt
set_option linter.unusedVariables false
set_option linter.unusedSimpArgs false
set_option linter.unnecessarySimpa false
def unionOf (l : Packs) (c : Int) : Packs := l.flatMap fun p => allOf p c
def resAfter (l : Packs) (c : Int) : Packs × Bool := if (l.all fun p => chOk p c) && decide ((setL (unionOf l c)).length ≤ 3000) then (setL (unionOf l c), true) else ([], false)
theorem ss_nodup {l : Packs} (h : SS l) : l.Nodup := by
  unfold SS at h
  exact h.imp (fun {a b} h (e : a = b) => cmpI_irrefl b (by rw [e] at h; exact h))
theorem setL_mono {l m : Packs} (h : ∀ q, q ∈ l → q ∈ m) : (setL l).length ≤ (setL m).length := nodup_sub (ss_nodup (setL_ss l)) fun q hq => (setL_mem m q).2 (h q ((setL_mem l q).1 hq))
theorem union_next {l : Packs} {i : Nat} {p : List Int} (c : Int) (hlt : i < l.length) (h : l[i] = p) (q : List Int) : q ∈ unionOf (l.take (i + 1)) c ↔ q ∈ unionOf (l.take i) c ∨ q ∈ allOf p c := by
  unfold unionOf
  rw [List.take_add_one, List.getElem?_eq_getElem hlt, h, List.flatMap_append, List.mem_append]
  simp
theorem union_take {l : Packs} {i : Nat} (c : Int) (q : List Int) (h : q ∈ unionOf (l.take i) c) : q ∈ unionOf l c := by
  unfold unionOf at *
  obtain ⟨p, hp, hq⟩ := List.mem_flatMap.1 h
  exact List.mem_flatMap.2 ⟨p, List.mem_of_mem_take hp, hq⟩
theorem union_small {l : Packs} {c : Int} (h : ∀ p ∈ l, p.length ≤ 12) : ∀ q ∈ unionOf l c, q.length ≤ 12 := fun q hq => by
  obtain ⟨p, hp, hq⟩ := List.mem_flatMap.1 hq
  exact (allOf_small (h p hp)).2 q hq
theorem resAfter_no {l : Packs} {c : Int} {p : List Int} (hp : p ∈ l) (h : chOk p c = false) : resAfter l c = ([], false) := by
  unfold resAfter
  rw [if_neg]
  rw [Bool.and_eq_true, List.all_eq_true]
  rintro ⟨h1, _⟩
  rw [h1 p hp] at h; cases h
theorem resAfter_many {l : Packs} {c : Int} (h : 3000 < (setL (unionOf l c)).length) : resAfter l c = ([], false) := by
  unfold resAfter
  rw [if_neg]
  rw [Bool.and_eq_true, decide_eq_true_eq]
  rintro ⟨_, h1⟩
  omega
theorem s_ResultsAfter_l3_ev (l : Packs) (c : Int) (hl : l.length ≤ 3000) (hf : FitS l) : ∀ (r : Packs) (i : Nat), l.drop i = r → (∀ p ∈ l.take i, chOk p c = true) → (setL (unionOf (l.take i) c)).length ≤ 3000 →
    Ev (fun k => s_ResultsAfter_l3 k c l (l.length : Int) (i : Int) (setL (unionOf (l.take i) c))) (resAfter l c)
  | [], i, h, hk, h3 => by
    have a := at_nil h
    refine Ev.step (fun k => s_ResultsAfter_l3_eq k _ _ _ _ _) ?_
    simp only [a.g, cond_false]
    rw [List.take_of_length_le a.ge] at hk h3 ⊢
    refine Ev.some ?_
    unfold resAfter
    rw [if_pos]
    rw [Bool.and_eq_true, decide_eq_true_eq, List.all_eq_true]
    exact ⟨hk, h3⟩
  | p :: r, i, h, hk, h3 => by
    have a := at_cons h (by rw [maxLen_eq]; omega)
    have hlt := a.lt
    have hg : l[i] = p := by have := a.gt []; simpa [List.getD, hlt] using this
    have hpf := hf.2 p a.mem
    refine Ev.step (fun k => s_ResultsAfter_l3_eq k _ _ _ _ _) ?_
    simp only [a.g, a.z, a.get, a.w, cond_true]
    refine Ev.bind (s_l05Ok_ev p c hpf.1) (Ev.ite (fun h1 => Ev.some ?_) (fun h1 => ?_))
    · exact (resAfter_no a.mem (by simpa using h1)).symm
    · have hok : chOk p c = true := by simpa using h1
      have hfit := chOk_fit hok
      obtain ⟨y, e1, e2, e3⟩ := s_l05Of_ev p c hfit hpf.2
      have hy12 : ∀ q ∈ y, q.length ≤ 1048576 := fun q hq => Nat.le_trans ((allOf_small hfit.l12).2 q ((e3 q).1 hq)) (by decide)
      have hu12 : ∀ q ∈ setL (unionOf (l.take i) c), q.length ≤ 1048576 := fun q hq => Nat.le_trans (union_small (fun p hp => (chOk_fit (hk p hp)).l12) q ((setL_mem _ q).1 hq)) (by decide)
      have hyl := setL_len y
      have em : mergeU (setL (unionOf (l.take i) c)) (setL y) [] = setL (unionOf (l.take (i + 1)) c) := by
        rw [mergeU_set (setL_ss _) (setL_ss _)]
        exact setL_congr fun q => by rw [List.mem_append, setL_mem, setL_mem, e3, union_next c hlt hg]
      refine Ev.bind e1 (Ev.bind (s_SortPackets_ev _ y (Nat.le_refl _) e2 hy12) (Ev.bind (s_l05Merge_ev _ _ (by omega) hu12 (fun q hq => hy12 q ((setL_mem _ q).1 hq))) ?_))
      rw [em]
      refine Ev.ite (fun h4 => Ev.some ?_) (fun h4 => ?_)
      · have h4' : 3000 < (setL (unionOf (l.take (i + 1)) c)).length := by have : ((setL (unionOf (l.take (i + 1)) c)).length : Int) > 3000 := by simpa using h4
                                                                           omega
        exact (resAfter_many (Nat.lt_of_lt_of_le h4' (setL_mono fun q hq => union_take c q hq))).symm
      · have h4' : (setL (unionOf (l.take (i + 1)) c)).length ≤ 3000 := by have : ¬ ((setL (unionOf (l.take (i + 1)) c)).length : Int) > 3000 := by simpa using h4
                                                                           omega
        refine s_ResultsAfter_l3_ev l c hl hf r (i + 1) a.next (fun q hq => ?_) h4'
        rw [List.take_add_one, List.getElem?_eq_getElem hlt, hg] at hq
        rcases List.mem_append.1 hq with hq | hq
        · exact hk q hq
        · have : q = p := by simpa using hq
          rw [this]; exact hok
theorem i_ResultsAfter_l3_ev (l : Packs) (c : Int) (hl : l.length ≤ 3000) (hf : FitS l) : ∀ (r : Packs) (i : Nat) (out : Packs), l.drop i = r → (∀ p ∈ l.take i, chOk p c = true) → (∀ q, q ∈ out ↔ q ∈ unionOf (l.take i) c) → out.length ≤ i * 4096 → i ≤ l.length →
    Ev (fun k => i_ResultsAfter_l3 k c l (l.length : Int) (i : Int) out) (resAfter l c)
  | [], i, out, h, hk, ho, h3, hil => by
    have a := at_nil h
    have hu12 : ∀ q ∈ out, q.length ≤ 1048576 := fun q hq => Nat.le_trans (union_small (fun p hp => (chOk_fit (hk p hp)).l12) q ((ho q).1 hq)) (by decide)
    refine Ev.step (fun k => i_ResultsAfter_l3_eq k _ _ _ _ _) ?_
    simp only [a.g, cond_false]
    rw [List.take_of_length_le a.ge] at hk ho
    have e : setL out = setL (unionOf l c) := setL_congr ho
    have hbig : out.length ≤ 16777216 := by
      have : i * 4096 ≤ 3000 * 4096 := Nat.mul_le_mul (by omega) (Nat.le_refl _)
      omega
    · refine Ev.bind (i_SortPackets_ev out hbig hu12) ?_
      rw [e]
      refine Ev.ite (fun h4 => Ev.some ?_) (fun h4 => Ev.some ?_)
      · exact (resAfter_many (by have : ((setL (unionOf l c)).length : Int) > 3000 := by simpa using h4
                                 omega)).symm
      · unfold resAfter
        rw [if_pos]
        rw [Bool.and_eq_true, decide_eq_true_eq, List.all_eq_true]
        exact ⟨hk, by have : ¬ ((setL (unionOf l c)).length : Int) > 3000 := by simpa using h4
                      omega⟩
  | p :: r, i, out, h, hk, ho, h3, hil => by
    have a := at_cons h (by rw [maxLen_eq]; omega)
    have hlt := a.lt
    have hg : l[i] = p := by have := a.gt []; simpa [List.getD, hlt] using this
    have hpf := hf.2 p a.mem
    refine Ev.step (fun k => i_ResultsAfter_l3_eq k _ _ _ _ _) ?_
    simp only [a.g, a.z, a.get, a.w, cond_true]
    refine Ev.bind (i_ResultsOf_ev p c hpf.1 hpf.2) ?_
    unfold resOf
    cases hok : chOk p c with
    | false =>
      rw [if_neg (by simp)]
      exact Ev.yes rfl (Ev.some (resAfter_no a.mem hok).symm)
    | true =>
      rw [if_pos rfl]
      have hfit := chOk_fit hok
      have hsm := allOf_small (c := c) hfit.l12
      have hyl := setL_len (allOf p c)
      have hkn : ∀ q ∈ l.take (i + 1), chOk q c = true := fun q hq => by
        rw [List.take_add_one, List.getElem?_eq_getElem hlt, hg] at hq
        rcases List.mem_append.1 hq with hq | hq
        · exact hk q hq
        · have : q = p := by simpa using hq
          rw [this]; exact hok
      have ho' : ∀ q, q ∈ out ++ setL (allOf p c) ↔ q ∈ unionOf (l.take (i + 1)) c := fun q => by rw [List.mem_append, setL_mem, ho, union_next c hlt hg]
      have hol : (out ++ setL (allOf p c)).length ≤ (i + 1) * 4096 := by rw [List.length_append, Nat.add_mul]; omega
      have hu12 : ∀ q ∈ out ++ setL (allOf p c), q.length ≤ 1048576 := fun q hq => Nat.le_trans (union_small (fun p hp => (chOk_fit (hkn p hp)).l12) q ((ho' q).1 hq)) (by decide)
      have hb : (i + 1) * 4096 ≤ 3000 * 4096 := Nat.mul_le_mul (by omega) (Nat.le_refl _)
      dsimp only
      refine Ev.no rfl (Ev.yes (by rw [rowMax_eq]; exact decide_eq_true (by rw [← List.length_append]; omega)) (Ev.ite (fun h4 => ?_) (fun h4 => ?_)))
      · refine Ev.bind (i_SortPackets_ev _ (by omega) hu12) ?_
        exact i_ResultsAfter_l3_ev l c hl hf r (i + 1) _ a.next hkn (fun q => by rw [setL_mem, ho']) (Nat.le_trans (setL_len _) hol) (by omega)
      · exact i_ResultsAfter_l3_ev l c hl hf r (i + 1) _ a.next hkn ho' hol (by omega)
def afterChoice (l : Packs) (c : Int) : Packs × Bool := if knowOk l then resAfter l c else ([], false)
theorem know_len {l : Packs} (h : knowOk l = true) : l.length ≤ 3000 := by
  cases l with
  | nil => simp
  | cons p0 r => exact (know_fit h).1
theorem i_AfterChoice_ev (l : Packs) (c : Int) (hf : FitS l) : Ev (fun k => i_AfterChoice k (l, c)) (afterChoice l c) := by
  unfold afterChoice
  refine Ev.step (fun k => i_AfterChoice_eq k l c) (Ev.bind (i_KnowOk_ev l hf) (Ev.ite (fun h => Ev.some ?_) (fun h => ?_)))
  · have : knowOk l = false := by simpa using h
    simp [this]
  · have e : knowOk l = true := by simpa using h
    rw [if_pos e]
    exact Ev.bind (Ev.step (fun k => i_ResultsAfter_eq k l c) (i_ResultsAfter_l3_ev l c (know_len e) hf l 0 [] rfl (fun p hp => by simp at hp) (fun q => by simp [unionOf]) (by simp) (by omega))) (Ev.pure _)
end Qq
namespace Qq
open Go Go.Vt Pt
set_option linter.unusedVariables false
set_option linter.unusedSimpArgs false
set_option linter.unnecessarySimpa false
end Qq
namespace Qq
open Go Go.Vt Pt
set_option linter.unusedVariables false
set_option linter.unusedSimpArgs false
end Qq
namespace Qq
open Go Go.Vt Pt
set_option linter.unusedVariables false
set_option linter.unusedSimpArgs false
end Qq
namespace Qq
open Go Go.Vt Pt
set_option linter.unusedVariables false
set_option linter.unusedSimpArgs false
end Qq
namespace Qq
open Go Go.Vt Pt
set_option linter.unusedVariables false
set_option linter.unusedSimpArgs false
set_option linter.unnecessarySimpa false
end Qq
namespace Qq
open Go Go.Vt Pt
set_option linter.unusedVariables false
set_option linter.unusedSimpArgs false
end Qq
namespace Qq
open Go Go.Vt Pt
set_option linter.unusedVariables false
set_option linter.unusedSimpArgs false
end Qq
namespace Qq
open Go Go.Vt Pt
set_option linter.unusedVariables false
set_option linter.unusedSimpArgs false
end Qq
namespace Qq
open Go Go.Vt Pt
set_option linter.unusedVariables false
set_option linter.unusedSimpArgs false
set_option linter.unnecessarySimpa false
end Qq
namespace Qq
open Go Go.Vt Pt
set_option linter.unusedVariables false
set_option linter.unusedSimpArgs false
set_option linter.unnecessarySimpa false
end Qq
namespace Qq
open Go Go.Vt Pt
set_option linter.unusedVariables false
set_option linter.unusedSimpArgs false
set_option linter.unnecessarySimpa false
theorem posF_mem (c : Int) : ∀ (q : List Int) (i : Nat), c ∈ q.map card → 0 ≤ posF c i q
  | [], _, h => by simp at h
  | x :: q, i, h => by
    unfold posF
    split
    · omega
    · rename_i hne
      refine posF_mem c q (i + 1) ?_
      rw [List.map_cons, List.mem_cons] at h
      rcases h with h | h
      · exact (hne h.symm).elim
      · exact h
theorem isArr_pm {p q : List Int} (h : packetOk p = true) (hq : Pm q p) : isArr p q = true := by
  have h2 := packetOk_pm h hq
  unfold isArr
  rw [h, h2.1, h2.2]
  simp only [Bool.true_and, Bool.and_eq_true, beq_self_eq_true, List.all_eq_true, decide_eq_true_eq, true_and]
  intro x hx
  have hc := ((packetOk_fit h).2.1 x hx).1
  unfold pos
  rw [if_neg (by omega)]
  exact posF_mem _ q 0 (hq.mem_iff.2 (List.mem_map.2 ⟨x, hx, rfl⟩))
end Qq
namespace Qq
open Go Go.Vt Pt
set_option linter.unusedVariables false
set_option linter.unusedSimpArgs false
/-- A list that is valid. -/
structure KL (l : Packs) : Prop where
  ne : l ≠ []
  len : l.length ≤ 3000
  ss : SS l
  arr : ∃ p, packetOk p = true ∧ 1 ≤ p.length ∧ ∀ q ∈ l, Pm q p
theorem kF_of (p0 : List Int) : ∀ (r : Packs) (pv : Option (List Int)), (∀ q ∈ r, isArr p0 q = true) → (match pv with | none => SS r | some p => SS (p :: r)) → kF p0 pv r = true
  | [], pv, _, _ => by cases pv <;> rfl
  | q :: r, pv, ha, hs => by
    have h1 : SS (q :: r) := by
      cases pv with
      | none => exact hs
      | some p => exact (List.pairwise_cons.1 hs).2
    unfold kF
    rw [ha q (by simp), kF_of p0 r (some q) (fun x hx => ha x (List.mem_cons_of_mem _ hx)) h1]
    cases pv with
    | none => rfl
    | some p =>
      have : cmpI p q < 0 := (List.pairwise_cons.1 hs).1 q (by simp)
      simp [lessL_I, this]
theorem KL.pm {l : Packs} (h : KL l) {q q' : List Int} (hq : q ∈ l) (hq' : q' ∈ l) : Pm q q' := by
  obtain ⟨p, _, _, h3⟩ := h.arr
  exact (h3 q hq).trans (h3 q' hq').symm
theorem KL.ok {l : Packs} (h : KL l) {q : List Int} (hq : q ∈ l) : packetOk q = true ∧ 1 ≤ q.length ∧ q.length ≤ 12 := by
  obtain ⟨p, h1, h2, h3⟩ := h.arr
  obtain ⟨k1, k2⟩ := packetOk_pm h1 (h3 q hq)
  exact ⟨k1, by omega, (packetOk_fit k1).2.2⟩
theorem KL.lens {l : Packs} (h : KL l) {q q' : List Int} (hq : q ∈ l) (hq' : q' ∈ l) : q.length = q'.length := (packetOk_pm (h.ok hq').1 (h.pm hq hq')).2
theorem KL.know {l : Packs} (h : KL l) : knowOk l = true := by
  cases l with
  | nil => exact (h.ne rfl).elim
  | cons p0 r =>
    have h0 := h.ok (q := p0) (by simp)
    have hl : p0.length ≠ 0 := by omega
    have hk := kF_of p0 (p0 :: r) none (fun q hq => isArr_pm h0.1 (h.pm hq (by simp))) h.ss
    have hlen := h.len
    unfold knowOk
    simp only [hk, Bool.and_true, Bool.and_eq_true, decide_eq_true_eq, Bool.not_eq_true', beq_eq_false_iff_ne]
    exact ⟨hlen, hl⟩
theorem KL.fit {l : Packs} (h : KL l) : FitS l := by
  refine ⟨by rw [maxLen_eq]; have := h.len; omega, fun p hp => ⟨by rw [maxLen_eq]; have := (h.ok hp).2.2; omega, packetOk_ins (h.ok hp).1⟩⟩
theorem KL.filter {l : Packs} (h : KL l) (f : List Int → Bool) (hne : l.filter f ≠ []) : KL (l.filter f) := by
  obtain ⟨p, h1, h2, h3⟩ := h.arr
  exact ⟨hne, Nat.le_trans (List.length_filter_le _ _) h.len, List.Pairwise.filter _ h.ss, p, h1, h2, fun q hq => h3 q (List.mem_filter.1 hq).1⟩
theorem allOf_ne {p : List Int} {c : Int} (h : chOk p c = true) : ∃ q, q ∈ allOf p c := by
  have hf := chOk_fit h
  unfold chOk at h
  simp only [Bool.and_eq_true, decide_eq_true_eq, Bool.not_eq_true', beq_eq_false_iff_ne] at h
  have hp : 0 < p.length := Nat.pos_of_ne_zero h.2.1
  unfold allOf
  split
  · exact ⟨cutL p 0, List.mem_map_of_mem (List.mem_range.2 hp)⟩
  · split
    · exact ⟨riffp p 0, List.mem_map_of_mem (List.mem_range.2 (Nat.two_pow_pos _))⟩
    · split
      · have hl : (flip2 p).length = p.length := by unfold flip2; simp; omega
        exact ⟨cutL (flip2 p) 0, List.mem_map_of_mem (List.mem_range.2 (by rw [hl]; exact hp))⟩
      · split
        · exact ⟨pickL p 0, List.mem_map_of_mem (List.mem_range.2 hp)⟩
        · exact ⟨p, by simp⟩
theorem KL.after {l x : Packs} {c : Int} (h : KL l) (hr : resAfter l c = (x, true)) : KL x ∧ l.all (fun p => chOk p c) = true ∧ x = setL (unionOf l c) := by
  unfold resAfter at hr
  split at hr
  · rename_i hc
    rw [Bool.and_eq_true, decide_eq_true_eq] at hc
    injection hr with h1 _
    subst h1
    obtain ⟨p, k1, k2, k3⟩ := h.arr
    refine ⟨⟨?_, hc.2, setL_ss _, p, k1, k2, fun q hq => ?_⟩, hc.1, rfl⟩
    · cases l with
      | nil => exact (h.ne rfl).elim
      | cons p0 r =>
        have h0 : chOk p0 c = true := List.all_eq_true.1 hc.1 p0 (by simp)
        obtain ⟨q, hq⟩ := allOf_ne h0
        have : q ∈ setL (unionOf (p0 :: r) c) := (setL_mem _ q).2 (List.mem_flatMap.2 ⟨p0, by simp, hq⟩)
        exact List.ne_nil_of_mem this
    · obtain ⟨p', hp', hq'⟩ := List.mem_flatMap.1 ((setL_mem _ q).1 hq)
      exact (allOf_pm q hq').trans (k3 p' hp')
  · injection hr with _ h2; cases h2
theorem s_ResultsAfter_ev (l : Packs) (c : Int) (hl : l.length ≤ 3000) (hf : FitS l) : Ev (fun k => s_ResultsAfter k (l, c)) (resAfter l c) := by
  refine Ev.step (fun k => s_ResultsAfter_eq k l c) ?_
  have := s_ResultsAfter_l3_ev l c hl hf l 0 rfl (fun p hp => by simp at hp) (by simp [unionOf, setL, sortL, dedupL])
  simpa [unionOf, setL, sortL, dedupL] using this
end Qq
namespace Qq
open Go Go.Vt Pt
set_option linter.unusedVariables false
set_option linter.unusedSimpArgs false
theorem getD_map {g : Int → Int} {p : List Int} {k : Nat} (h : k < p.length) : (p.map g).getD k 0 = g (p.getD k 0) := by simp [List.getD, h]
theorem fz_map (g : Int → Int) : ∀ (n : Nat) (f : Bool) (a b : List Int), a.length + b.length = n → fz f (a.map g) (b.map g) = (fz f a b).map g
  | _, f, [], [], _ => by simp [fz]
  | n + 1, f, x :: a, [], h => by
    have := fz_map g n (!f) a [] (by simpa using h)
    simp only [List.map_cons, List.map_nil] at this ⊢
    rw [fz, fz, List.map_cons, ← this]
  | n + 1, f, [], y :: b, h => by
    have := fz_map g n (!f) [] b (by simpa using h)
    simp only [List.map_cons, List.map_nil] at this ⊢
    rw [fz, fz, List.map_cons, ← this]
  | n + 1, true, x :: a, y :: b, h => by
    have := fz_map g n false a (y :: b) (by simp at h ⊢; omega)
    simp only [List.map_cons] at this ⊢
    rw [fz, fz, List.map_cons, ← this]
  | n + 1, false, x :: a, y :: b, h => by
    have := fz_map g n true (x :: a) b (by simp at h ⊢; omega)
    simp only [List.map_cons] at this ⊢
    rw [fz, fz, List.map_cons, ← this]
  | 0, _, _ :: _, _, h => by simp at h
  | 0, _, [], _ :: _, h => by simp at h
theorem mz_map (g : Int → Int) (k : Int) : ∀ (r : List Int) (i : Nat) (out : List Int), mz k i (r.map g) (out.map g) = (mz k i r out).map g
  | [], i, out => rfl
  | x :: r, i, out => by
    simp only [List.map_cons]
    unfold mz
    split
    · have := mz_map g k r (i + 1) (out ++ [x])
      rw [List.map_append] at this
      exact this
    · exact mz_map g k r (i + 1) (x :: out)
theorem kz_map (g : Int → Int) : ∀ (n : Nat) (p out : List Int), kz n (p.map g) (out.map g) = (kz n p out).map g
  | 0, p, out => by simp [kz]
  | n + 1, p, out => by
    unfold kz
    rw [List.length_map]
    split
    · rename_i h
      rw [getD_map (by omega), getD_map (by omega)]
      have := kz_map g n ((p.take (p.length - 1)).drop 1) (p.getD 0 0 :: p.getD (p.length - 1) 0 :: out)
      simp only [List.map_cons, List.map_drop, List.map_take] at this ⊢
      exact this
    · simp
theorem dz_map (g : Int → Int) : ∀ (n : Nat) (f : Bool) (q out : List Int), 1 ≤ q.length → dz n f (q.map g) (out.map g) = (dz n f q out).map g
  | 0, f, q, out, h => by
    unfold dz
    rw [getD_map (by omega)]; simp
  | n + 1, f, q, out, h => by
    unfold dz
    rw [List.length_map, getD_map (by omega)]
    split
    · rename_i h1
      cases f with
      | true =>
        simp only [cond_true]
        have := dz_map g n false (q.drop 1) (q.getD 0 0 :: out) (by simp; omega)
        simp only [List.map_cons, List.map_drop] at this ⊢
        exact this
      | false =>
        simp only [cond_false]
        have := dz_map g n true (q.drop 1 ++ [q.getD 0 0]) out (by simp)
        simp only [List.map_append, List.map_cons, List.map_nil, List.map_drop] at this ⊢
        exact this
    · simp
theorem as_idx (p : List Int) : p = (upTo p.length).map (fun i => p.getD i.toNat 0) := by
  apply List.ext_getElem
  · simp [upTo_len]
  · intro i h1 h2
    simp [upTo, List.getD, h1]
theorem nat_inj {n : Nat} (F : List Int → List Int) (hmap : ∀ (g : Int → Int), F ((upTo n).map g) = (F (upTo n)).map g) (hperm : (F (upTo n)).Perm (upTo n)) {p q : List Int} (hp : p.length = n) (hq : q.length = n) (h : F p = F q) : p = q := by
  have ep := as_idx p
  have eq := as_idx q
  rw [hp] at ep
  rw [hq] at eq
  rw [ep, eq, hmap, hmap] at h
  have hg := List.map_inj_left.1 h
  rw [ep, eq]
  exact List.map_congr_left fun x hx => hg x (hperm.mem_iff.2 hx)
theorem turn_turn {x : Int} (h : 0 ≤ card x) : turn (turn x) = x := by
  have h1 := card_turn x
  have e : turn x = -1 - x := by unfold turn; rw [if_neg (by omega)]
  unfold turn at h1 ⊢
  rw [if_neg (by omega : ¬ card x < 0)] at h1 ⊢
  rw [if_neg (by omega)]
  omega
theorem map_turn_inj {a b : List Int} (ha : ∀ x ∈ a, 0 ≤ card x) (hb : ∀ x ∈ b, 0 ≤ card x) (h : a.map turn = b.map turn) : a = b := by
  have := congrArg (List.map turn) h
  rw [List.map_map, List.map_map] at this
  have e1 : a.map (turn ∘ turn) = a := by
    conv => rhs; rw [← List.map_id a]
    exact List.map_congr_left fun x hx => turn_turn (ha x hx)
  have e2 : b.map (turn ∘ turn) = b := by
    conv => rhs; rw [← List.map_id b]
    exact List.map_congr_left fun x hx => turn_turn (hb x hx)
  rw [e1, e2] at this
  exact this
theorem doMove_inj {m : Int × Int} {p q : List Int} (hm : MoveFit p.length m) (hl : q.length = p.length) (hp : ∀ x ∈ p, 0 ≤ card x) (hq : ∀ x ∈ q, 0 ≤ card x) (h : doMove p m = doMove q m) : p = q := by
  have h1 := hm.n1
  have h6 := hm.k0
  have ht := hm.t
  have hu := upTo_len p.length
  have hmu : MoveFit (upTo p.length).length m := by rw [hu]; exact hm
  have pm : ∀ (F : List Int → List Int), (∀ g : Int → Int, F ((upTo p.length).map g) = (F (upTo p.length)).map g) → (F (upTo p.length)).Perm (upTo p.length) → F p = F q → p = q := fun F a b c => nat_inj F a b rfl hl c
  unfold doMove at h
  split at h
  · exact pm (fun p => p.drop m.2.toNat ++ p.take m.2.toNat) (fun g => by simp [List.map_drop, List.map_take]) (List.perm_append_comm.trans (by rw [List.take_append_drop])) h
  split at h
  · exact pm (fun p => (p.take m.2.toNat).reverse ++ p.drop m.2.toNat) (fun g => by simp [List.map_drop, List.map_take, List.map_reverse]) (((List.reverse_perm _).append_right _).trans (by rw [List.take_append_drop])) h
  split at h
  · have hh := List.append_inj h (by simp [hl])
    have h3 := map_turn_inj (fun x hx => hp x (List.mem_of_mem_take (List.mem_reverse.1 hx))) (fun x hx => hq x (List.mem_of_mem_take (List.mem_reverse.1 hx))) hh.1
    have h4 := congrArg List.reverse h3
    rw [List.reverse_reverse, List.reverse_reverse] at h4
    rw [← List.take_append_drop m.2.toNat p, ← List.take_append_drop m.2.toNat q, h4, hh.2]
  split at h
  · refine pm (fun p => faroL p m.2) (fun g => ?_) ?_ h
    · unfold faroL
      rw [List.length_map, ← List.map_take, ← List.map_drop, fz_map g _ _ _ _ rfl]
    · unfold faroL
      exact (fz_perm _ _ _ _ rfl).trans (by rw [List.take_append_drop])
  split at h
  · exact pm (fun p => mz m.2 0 p []) (fun g => mz_map g m.2 _ 0 []) ((mz_perm m.2 _ 0 []).trans (by simp)) h
  split at h
  · exact pm (fun p => kz p.length p []) (fun g => by show kz ((upTo p.length).map g).length _ [] = _; rw [List.length_map]; exact kz_map g _ _ []) ((kz_perm _ _ []).trans (by simp)) h
  split at h
  · exact pm (fun p => dz (2 * p.length + 1) (m.2 == 1) p []) (fun g => by show dz (2 * ((upTo p.length).map g).length + 1) _ _ [] = _; rw [List.length_map]; exact dz_map g _ _ _ [] (by rw [hu]; exact h1)) ((dz_perm (2 * (upTo p.length).length + 1) (m.2 == 1) _ [] (by rw [hu]; exact h1) (by cases (m.2 == 1) <;> simp)).trans (by simp)) h
  split at h
  · rename_i a1 a2 a3 a4 a5 a6 a7 a8
    have h5 := ht a1 a2 a3 a4 a5 a6 a7
    have hlt : m.2.toNat < p.length := by omega
    have hlq : m.2.toNat < q.length := by omega
    apply List.ext_getElem hl.symm
    intro i i1 i2
    have hi := congrArg (fun l : List Int => l[i]?) h
    simp only [List.getElem?_set] at hi
    by_cases e : m.2.toNat = i
    · subst e
      simp [i1, i2, List.getD] at hi
      have t1 := turn_turn (hp _ (List.getElem_mem i1))
      have t2 := turn_turn (hq _ (List.getElem_mem i2))
      rw [← t1, hi, t2]
    · simp [e] at hi
      rw [List.getElem?_eq_getElem i1, List.getElem?_eq_getElem i2] at hi
      exact Option.some.inj hi
  · rename_i a1 a2 a3 a4 a5 a6 a7 a8
    have h5 := ht a1 a2 a3 a4 a5 a6 a7
    have hlt : m.2.toNat < p.length := by omega
    refine pm (fun p => p.take m.2.toNat ++ p.drop (m.2.toNat + 1) ++ [p.getD m.2.toNat 0]) (fun g => ?_) (perm_out _ _ (by rw [hu]; exact hlt)) h
    rw [getD_map (by rw [hu]; exact hlt)]
    simp [List.map_drop, List.map_take]
def putAll (x : Int) (q : List Int) : Packs := (List.range (q.length + 1)).map fun i => q.take i ++ x :: q.drop i
def arrsC : List Int → Packs
  | [] => [[]]
  | c :: cs => (arrsC cs).flatMap fun q => putAll c q ++ putAll (-1 - c) q
theorem arrsC_len : ∀ (cs : List Int), (∀ q ∈ arrsC cs, q.length = cs.length)
  | [], q, h => by simp [arrsC] at h; simp [h]
  | c :: cs, q, h => by
    obtain ⟨q', h1, h2⟩ := List.mem_flatMap.1 h
    have hl := arrsC_len cs q' h1
    rcases List.mem_append.1 h2 with h2 | h2 <;>
    · obtain ⟨i, hi, rfl⟩ := List.mem_map.1 h2
      have := List.mem_range.1 hi
      simp; omega
def fct : Nat → Nat
  | 0 => 1 | n + 1 => 2 * (n + 1) * fct n
theorem arrsC_count : ∀ (cs : List Int), (arrsC cs).length ≤ fct cs.length
  | [] => by simp [arrsC, fct]
  | c :: cs => by
    have ih := arrsC_count cs
    have hl := arrsC_len cs
    have key : ∀ (l : Packs), (∀ q ∈ l, q.length = cs.length) → (l.flatMap fun q => putAll c q ++ putAll (-1 - c) q).length = 2 * (cs.length + 1) * l.length := by
      intro l
      induction l with
      | nil => intro _; simp
      | cons q l ih2 =>
        intro h
        have hq := h q (by simp)
        have := ih2 (fun x hx => h x (List.mem_cons_of_mem _ hx))
        rw [List.flatMap_cons, List.length_append, this]
        simp only [List.length_append, putAll, List.length_map, List.length_range, List.length_cons, hq]
        have e := Nat.mul_succ (2 * (cs.length + 1)) l.length
        have e2 : l.length + 1 = l.length.succ := rfl
        rw [e2, e]; omega
    show (List.flatMap _ _).length ≤ _
    rw [key _ hl]
    exact Nat.mul_le_mul (Nat.le_refl _) ih
theorem arrsC_mem : ∀ (cs : List Int) (q : List Int), (∀ x ∈ q, 0 ≤ card x) → (q.map card).Perm cs → q ∈ arrsC cs
  | [], q, _, h => by
    have : q = [] := by simpa using h.eq_nil
    subst this; simp [arrsC]
  | c :: cs, q, h0, h => by
    have hc : c ∈ q.map card := h.mem_iff.2 (by simp)
    obtain ⟨x, hx, hxc⟩ := List.mem_map.1 hc
    obtain ⟨a, b, rfl⟩ := List.append_of_mem hx
    have h1 : ((a ++ b).map card).Perm cs := by
      have h2 : ((a ++ x :: b).map card).Perm (c :: (a ++ b).map card) := by
        rw [List.map_append, List.map_cons, hxc, List.map_append]
        exact List.perm_middle
      exact (List.perm_cons c).1 (h2.symm.trans h)
    have ih := arrsC_mem cs (a ++ b) (fun y hy => h0 y (by rcases List.mem_append.1 hy with h | h <;> simp [h])) h1
    refine List.mem_flatMap.2 ⟨a ++ b, ih, ?_⟩
    have hput : ∀ y : Int, a ++ y :: b ∈ putAll y (a ++ b) := fun y => List.mem_map.2 ⟨a.length, List.mem_range.2 (by simp; omega), by simp⟩
    have hx0 := h0 x (by simp)
    have hcase : x = c ∨ x = -1 - c := by
      unfold card at hxc hx0
      split at hxc
      · exact .inl hxc
      · split at hxc
        · right; omega
        · rename_i k1 k2; rw [if_neg k1, if_neg k2] at hx0; omega
    rcases hcase with e | e
    · rw [e]; exact List.mem_append.2 (.inl (hput c))
    · rw [e]; exact List.mem_append.2 (.inr (hput (-1 - c)))
theorem few {p : List Int} (h : packetOk p = true) (h4 : p.length ≤ 4) {l : Packs} (hn : l.Nodup) (hl : ∀ q ∈ l, Pm q p) : l.length ≤ 384 := by
  have h1 := nodup_sub hn (m := arrsC (p.map card)) (fun q hq => arrsC_mem _ q (fun x hx => ((packetOk_fit (packetOk_pm h (hl q hq)).1).2.1 x hx).1) (hl q hq))
  have h2 := arrsC_count (p.map card)
  rw [List.length_map] at h2
  have h3 : ∀ n, n ≤ 4 → fct n ≤ 384 := by decide
  have := h3 p.length h4
  omega
end Qq
namespace Qq
open Go Go.Vt Pt
set_option linter.unusedVariables false
set_option linter.unusedSimpArgs false
def sidesF (up : List Int) : Nat → List Int → Bool
  | _, [] => true
  | i, x :: r => (isUp x == up.contains (i : Int)) && sidesF up (i + 1) r
def sidesB (up : List Int) (p : List Int) : Bool := sidesF up 0 p
theorem i_SeeSides_1_l2_ev (up p : List Int) (hu : up.length ≤ maxLen) (hm : p.length ≤ maxLen) (hi : Ins p) : ∀ (r : List Int) (i : Nat), p.drop i = r → Ev (fun k => i_SeeSides_1_l2 k up p (p.length : Int) (i : Int)) (sidesF up i r)
  | [], i, h => by
    have a := at_nil h
    refine Ev.step (fun k => i_SeeSides_1_l2_eq k _ _ _ _) ?_
    simp only [a.g, cond_false]
    exact Ev.pure _
  | x :: r, i, h => by
    have a := at_cons h hm
    have hx : In x := hi x (List.mem_of_mem_drop (h ▸ List.mem_cons_self))
    refine Ev.step (fun k => i_SeeSides_1_l2_eq k _ _ _ _) ?_
    simp only [a.g, a.z, a.get, a.w, cond_true]
    unfold sidesF
    refine Ev.bind (i_IsUp_ev x hx) (Ev.bind (Contains_int_ev up (i : Int) hu) (Ev.ite (fun h => Ev.some ?_) (fun h => (i_SeeSides_1_l2_ev up p hu hm hi r (i + 1) a.next).to ?_)))
    · have : (isUp x == up.contains (i : Int)) = false := by simpa using h
      rw [this]; rfl
    · have : (isUp x == up.contains (i : Int)) = true := by simpa using h
      rw [this]; rfl
theorem i_SeeSides_1_ev (p up : List Int) (hu : up.length ≤ maxLen) (hm : p.length ≤ maxLen) (hi : Ins p) : Ev (fun k => i_SeeSides_1 k (p, up)) (sidesB up p) :=
  Ev.step (fun k => i_SeeSides_1_eq k p up) (i_SeeSides_1_l2_ev up p hu hm hi p 0 rfl)
theorem i_those_l5_ev (l : Packs) (up : List Int) (hu : up.length ≤ maxLen) (hf : FitS l) (hl : l.length ≤ 3000) (h12 : ∀ p ∈ l, p.length ≤ 12) : ∀ (r : Packs) (i : Nat), l.drop i = r → Ev (fun k => i_those_of_i_SeeSides_1_l5 k up l (l.length : Int) (i : Int) ((l.take i).filter (sidesB up))) (l.filter (sidesB up))
  | [], i, h => by
    have a := at_nil h
    refine Ev.step (fun k => i_those_of_i_SeeSides_1_l5_eq k _ _ _ _ _) ?_
    simp only [a.g, cond_false]
    exact Ev.some (by rw [List.take_of_length_le a.ge])
  | p :: r, i, h => by
    have a := at_cons h (by rw [maxLen_eq]; omega)
    have hmem : p ∈ l := List.mem_of_mem_drop (h ▸ List.mem_cons_self)
    have hp : p.length ≤ 12 := h12 p hmem
    have hfl : ((l.take i).filter (sidesB up)).length ≤ 3000 := Nat.le_trans (List.length_filter_le _ _) (by rw [List.length_take]; omega)
    have ih := i_those_l5_ev l up hu hf hl h12 r (i + 1) a.next
    rw [filter_next a] at ih
    refine Ev.step (fun k => i_those_of_i_SeeSides_1_l5_eq k _ _ _ _ _) ?_
    simp only [a.g, a.z, a.get, a.w, cond_true]
    refine Ev.bind (i_SeeSides_1_ev p up hu (hf.2 p hmem).1 (hf.2 p hmem).2) (Ev.ite (fun h => ?_) (fun h => ?_))
    · rw [h, if_pos rfl] at ih
      exact Ev.bind (Clone_int_ev p (by omega)) (Ev.yes (by rw [rowMax_eq]; simp; omega) ih)
    · rw [h, if_neg (by simp), List.append_nil] at ih
      exact ih
theorem i_SeeSides_ev (l : Packs) (up : List Int) (hu : up.length ≤ maxLen) (hf : FitS l) : Ev (fun k => i_SeeSides k (l, up)) (those l (sidesB up)) := by
  refine Ev.step (fun k => i_SeeSides_eq k l up) (Ev.bind (Ev.step (fun k => i_those_of_i_SeeSides_1_eq k l up) (Ev.bind (i_KnowOk_ev l hf) (Ev.ite (fun h => Ev.some ?_) (fun h => ?_)))) (Ev.pure _))
  · have : knowOk l = false := by simpa using h
    simp [those, this]
  · have e : knowOk l = true := by simpa using h
    unfold those
    rw [if_pos e]
    cases l with
    | nil => exact i_those_l5_ev [] up hu hf (by simp) (by simp) [] 0 rfl
    | cons p0 r0 =>
      obtain ⟨h1, h2, h3, h4⟩ := know_fit e
      exact i_those_l5_ev (p0 :: r0) up hu hf h1 (fun p hp => by have := (h4 p hp).2; omega) _ 0 rfl
end Qq
namespace Qq
open Go Go.Vt Pt
set_option linter.unusedVariables false
set_option linter.unusedSimpArgs false
theorem KL.few4 {l x : Packs} {c : Int} (h : KL l) (hr : resAfter l c = (x, true)) {b : Nat} (h4 : ∀ q ∈ l, q.length ≤ b) : ∀ q ∈ x, q.length ≤ b := by
  obtain ⟨h1, _, h3⟩ := h.after hr
  intro q hq
  rw [h3] at hq
  obtain ⟨p', hp', hq'⟩ := List.mem_flatMap.1 ((setL_mem _ q).1 hq)
  have := (packetOk_pm (h.ok hp').1 (allOf_pm q hq')).2
  have := h4 p' hp'
  omega
theorem l15Draw4_l3_ev : ∀ (m : Nat) (l : Packs) (c : Cur), m ≤ 10 → KL l → (∀ q ∈ l, q.length ≤ 4) → CurOk c → ∃ (x : Packs) (c' : Cur), Ev (fun k => s_l15Draw_l3 k (m : Int) l c.1 c.2.1 c.2.2) (x, c') ∧ KL x ∧ (∀ q ∈ x, q.length ≤ 4) ∧ CurOk c'
  | 0, l, c, _, h, h4, hc => ⟨l, c, Ev.step (fun k => s_l15Draw_l3_eq k _ _ _ _ _) (Ev.no rfl (Ev.pure _)), h, h4, hc⟩
  | m + 1, l, c, hm, h, h4, hc => by
    obtain ⟨y, c1, e1, _, _, a3⟩ := l01Below_ev c hc 5
    have e2 := s_ResultsAfter_ev l y h.len h.fit
    have hw : IntKind.i64.wrap (((m + 1 : Nat) : Int) - (1 : Int)) = (m : Int) := by rw [wrap_id (by omega) (by omega)]; omega
    cases hb : (resAfter l y).2 with
    | true =>
      have hr : resAfter l y = ((resAfter l y).1, true) := by rw [← hb]
      have hk := (h.after hr).1
      obtain ⟨x, c2, e3, b1, b2, b3⟩ := l15Draw4_l3_ev m _ c1 (by omega) hk (h.few4 hr h4) a3
      refine ⟨x, c2, Ev.step (fun k => s_l15Draw_l3_eq k _ _ _ _ _) (Ev.yes (decide_eq_true (by omega)) (Ev.bind e1 (Ev.bind e2 (Ev.yes hb ?_)))), b1, b2, b3⟩
      rw [hw]
      exact e3
    | false =>
      obtain ⟨x, c2, e3, b1, b2, b3⟩ := l15Draw4_l3_ev m l c1 (by omega) h h4 a3
      refine ⟨x, c2, Ev.step (fun k => s_l15Draw_l3_eq k _ _ _ _ _) (Ev.yes (decide_eq_true (by omega)) (Ev.bind e1 (Ev.bind e2 (Ev.no hb ?_)))), b1, b2, b3⟩
      rw [hw]
      exact e3
theorem MakeKnown4_ev (code : List Int) (hm : code.length ≤ 9223372036854775807) : ∃ l : Packs, Ev (fun k => s_MakeKnown k code) l ∧ KL l ∧ ∀ q ∈ l, q.length ≤ 4 := by
  obtain ⟨c, e, hc⟩ := l01New_ev code hm
  obtain ⟨p, c1, e1, hp, hc1⟩ := l02Draw_ev c hc 4 (by omega) (by omega)
  obtain ⟨y, c2, e2, a1, a2, hc2⟩ := l01Below_ev c1 hc1 2
  have hy := a2 (by omega)
  have hk : KL [p] := ⟨by simp, by simp, List.pairwise_singleton _ _, p, hp.ok, hp.pos, fun q hq => by rw [List.mem_singleton.1 hq]⟩
  have hw : IntKind.i64.wrap ((1 : Int) + y) = (((1 + y).toNat : Nat) : Int) := by rw [wrap_id (by omega) (by omega)]; omega
  obtain ⟨x, c3, e3, b1, b2, b3⟩ := l15Draw4_l3_ev (1 + y).toNat [p] c2 (by omega) hk (fun q hq => by rw [List.mem_singleton.1 hq]; exact hp.le) hc2
  refine ⟨x, Ev.step (fun k => s_MakeKnown_eq k code) (Ev.bind e (Ev.bind (x := (x, c3)) (Ev.step (fun k => s_l15Draw_eq k c) (Ev.bind e1 (Ev.bind e2 ?_))) (Ev.pure _))), b1, b2⟩
  dsimp only
  rw [hw]
  exact e3
theorem l04Draw_ev (c : Cur) (hc : CurOk c) (n : Nat) (h1 : 1 ≤ n) (h12 : n ≤ 12) : ∃ (m : Int × Int) (c' : Cur), Ev (fun k => s_l04Draw k (c, (n : Int))) (m, c') ∧ moveOk (n : Int) m = true ∧ CurOk c' := by
  obtain ⟨y, c1, e1, a1, a2, a3⟩ := l01Below_ev c hc 9
  have hy := a2 (by omega)
  have hw : IntKind.i64.wrap ((1 : Int) + y) = 1 + y := wrap_id (by omega) (by omega)
  have hw2 : IntKind.i64.wrap ((n : Int) + (1 : Int)) = (n : Int) + 1 := wrap_id (by omega) (by omega)
  obtain ⟨u, cu, eu, u1, u2, u3⟩ := l01Below_ev c1 a3 ((n : Int) + 1)
  obtain ⟨v, cv, ev, v1, v2, v3⟩ := l01Below_ev c1 a3 2
  obtain ⟨w, cw, ew, w1, w2, w3⟩ := l01Below_ev c1 a3 (n : Int)
  have hu := u2 (by omega)
  have hv := v2 (by omega)
  have hww := w2 (by omega)
  have dn : decide ((1 : Int) ≤ (n : Int)) = true := decide_eq_true (by omega)
  have dm : decide ((n : Int) ≤ (12 : Int)) = true := decide_eq_true (by omega)
  have st : ∀ {z : (Int × Int) × Cur}, Ev (fun k => (s_l01Below k (c, (9 : Int))).bind fun y1 =>
      bif ((IntKind.i64.wrap ((1 : Int) + y1.1)) == (1 : Int)) then ((s_l01Below k (y1.2, (IntKind.i64.wrap ((n : Int) + (1 : Int))))).bind fun y2 => some (((IntKind.i64.wrap ((1 : Int) + y1.1)), y2.1), y2.2))
      else (bif ((IntKind.i64.wrap ((1 : Int) + y1.1)) == (2 : Int)) then ((s_l01Below k (y1.2, (IntKind.i64.wrap ((n : Int) + (1 : Int))))).bind fun y3 => some (((IntKind.i64.wrap ((1 : Int) + y1.1)), y3.1), y3.2))
      else (bif ((IntKind.i64.wrap ((1 : Int) + y1.1)) == (3 : Int)) then ((s_l01Below k (y1.2, (IntKind.i64.wrap ((n : Int) + (1 : Int))))).bind fun y4 => some (((IntKind.i64.wrap ((1 : Int) + y1.1)), y4.1), y4.2))
      else (bif ((IntKind.i64.wrap ((1 : Int) + y1.1)) == (4 : Int)) then ((s_l01Below k (y1.2, (2 : Int))).bind fun y5 => some (((IntKind.i64.wrap ((1 : Int) + y1.1)), y5.1), y5.2))
      else (bif ((IntKind.i64.wrap ((1 : Int) + y1.1)) == (5 : Int)) then ((s_l01Below k (y1.2, (2 : Int))).bind fun y6 => some (((IntKind.i64.wrap ((1 : Int) + y1.1)), y6.1), y6.2))
      else (bif ((IntKind.i64.wrap ((1 : Int) + y1.1)) == (7 : Int)) then ((s_l01Below k (y1.2, (2 : Int))).bind fun y7 => some (((IntKind.i64.wrap ((1 : Int) + y1.1)), y7.1), y7.2))
      else (bif ((IntKind.i64.wrap ((1 : Int) + y1.1)) == (8 : Int)) then ((s_l01Below k (y1.2, (n : Int))).bind fun y8 => some (((IntKind.i64.wrap ((1 : Int) + y1.1)), y8.1), y8.2))
      else (bif ((IntKind.i64.wrap ((1 : Int) + y1.1)) == (9 : Int)) then ((s_l01Below k (y1.2, (n : Int))).bind fun y9 => some (((IntKind.i64.wrap ((1 : Int) + y1.1)), y9.1), y9.2))
      else (some (((IntKind.i64.wrap ((1 : Int) + y1.1)), (0 : Int)), y1.2)))))))))) z → Ev (fun k => s_l04Draw k (c, (n : Int))) z := fun h => Ev.step (fun k => s_l04Draw_eq k c (n : Int)) h
  have hcase : y = 0 ∨ y = 1 ∨ y = 2 ∨ y = 3 ∨ y = 4 ∨ y = 5 ∨ y = 6 ∨ y = 7 ∨ y = 8 := by omega
  rcases hcase with rfl | rfl | rfl | rfl | rfl | rfl | rfl | rfl | rfl
  · refine ⟨(1, u), cu, st (Ev.bind e1 (Ev.yes rfl ?_)), ?_, u3⟩
    · rw [hw2]; exact Ev.bind eu (Ev.some rfl)
    · unfold moveOk; simp [dn, dm]; omega
  · refine ⟨(2, u), cu, st (Ev.bind e1 (Ev.no rfl (Ev.yes rfl ?_))), ?_, u3⟩
    · rw [hw2]; exact Ev.bind eu (Ev.some rfl)
    · unfold moveOk; simp [dn, dm]; omega
  · refine ⟨(3, u), cu, st (Ev.bind e1 (Ev.no rfl (Ev.no rfl (Ev.yes rfl ?_)))), ?_, u3⟩
    · rw [hw2]; exact Ev.bind eu (Ev.some rfl)
    · unfold moveOk; simp [dn, dm]; omega
  · refine ⟨(4, v), cv, st (Ev.bind e1 (Ev.no rfl (Ev.no rfl (Ev.no rfl (Ev.yes rfl ?_))))), ?_, v3⟩
    · exact Ev.bind ev (Ev.some rfl)
    · unfold moveOk; simp [dn, dm]; omega
  · refine ⟨(5, v), cv, st (Ev.bind e1 (Ev.no rfl (Ev.no rfl (Ev.no rfl (Ev.no rfl (Ev.yes rfl ?_)))))), ?_, v3⟩
    · exact Ev.bind ev (Ev.some rfl)
    · unfold moveOk; simp [dn, dm]; omega
  · refine ⟨(6, 0), c1, st (Ev.bind e1 (Ev.no rfl (Ev.no rfl (Ev.no rfl (Ev.no rfl (Ev.no rfl (Ev.no rfl (Ev.no rfl (Ev.no rfl ?_))))))))), ?_, a3⟩
    · exact Ev.some rfl
    · unfold moveOk; simp [dn, dm] <;> omega
  · refine ⟨(7, v), cv, st (Ev.bind e1 (Ev.no rfl (Ev.no rfl (Ev.no rfl (Ev.no rfl (Ev.no rfl (Ev.yes rfl ?_))))))), ?_, v3⟩
    · exact Ev.bind ev (Ev.some rfl)
    · unfold moveOk; simp [dn, dm]; omega
  · refine ⟨(8, w), cw, st (Ev.bind e1 (Ev.no rfl (Ev.no rfl (Ev.no rfl (Ev.no rfl (Ev.no rfl (Ev.no rfl (Ev.yes rfl ?_)))))))), ?_, w3⟩
    · exact Ev.bind ew (Ev.some rfl)
    · unfold moveOk; simp [dn, dm]; omega
  · refine ⟨(9, w), cw, st (Ev.bind e1 (Ev.no rfl (Ev.no rfl (Ev.no rfl (Ev.no rfl (Ev.no rfl (Ev.no rfl (Ev.no rfl (Ev.yes rfl ?_))))))))), ?_, w3⟩
    · exact Ev.bind ew (Ev.some rfl)
    · unfold moveOk; simp [dn, dm]; omega
theorem clamp_id (m : Int) (h1 : 1 ≤ m) (h12 : m ≤ 12) : (bif decide ((bif decide ((12 : Int) < m) then (12 : Int) else m) > (1 : Int)) then (bif decide ((12 : Int) < m) then (12 : Int) else m) else (1 : Int)) = m := by
  have e1 : decide ((12 : Int) < m) = false := by simp; omega
  rw [e1, cond_false]
  by_cases h : m > 1
  · have e2 : decide (m > (1 : Int)) = true := by simp [h]
    rw [e2, cond_true]
  · have e2 : decide (m > (1 : Int)) = false := by simp; omega
    rw [e2, cond_false]; omega
theorem MakeMove_ev (code : List Int) (hm : code.length ≤ 9223372036854775807) (s : Int) (hs : s ≤ 1000000) (n : Nat) (h1 : 1 ≤ n) (h12 : n ≤ 12) : ∃ m, Ev (fun k => s_MakeMove k (code, s, (n : Int))) m ∧ moveOk (n : Int) m = true := by
  obtain ⟨c, e, hc⟩ := l23New_ev code hm s hs
  obtain ⟨m, c2, e2, hm2, _⟩ := l04Draw_ev c hc n h1 h12
  refine ⟨m, Ev.step (fun k => s_MakeMove_eq k code s _) (Ev.bind e ?_), hm2⟩
  rw [clamp_id _ (by omega) (by omega)]
  exact Ev.bind e2 (Ev.pure _)
theorem same_l4_ev (xs ys : List Int) (hx : xs.length ≤ 9223372036854775807) (hl : xs.length = ys.length) : ∀ (r : List Int) (i : Nat), xs.drop i = r → xs.take i = ys.take i → Ev (fun k => w_same_l4 k ys xs (xs.length : Int) (i : Int)) (decide (xs = ys))
  | [], i, h, ht => by
    have a := at_nil h
    have e : xs = ys := by
      rw [List.take_of_length_le a.ge, List.take_of_length_le (by rw [← hl]; exact a.ge)] at ht
      exact ht
    exact Ev.step (fun k => w_same_l4_eq k _ _ _ _) (Ev.no a.g (Ev.some (by simp [e])))
  | x :: r, i, h, ht => by
    have a := at_cons h (by rw [maxLen_eq]; exact hx)
    have lt := a.lt
    have gy : decide ((i : Int) < (ys.length : Int)) = true := decide_eq_true (by omega)
    refine Ev.step (fun k => w_same_l4_eq k _ _ _ _) ?_
    simp only [a.g, a.z, a.get, a.w, gy, cond_true, Int.toNat_natCast]
    have hg : xs.getD i 0 = x := a.gt 0
    have hy : i < ys.length := by omega
    have hgy : ys.getD i 0 = ys[i] := by simp [List.getD, hy]
    by_cases e : x = ys.getD i 0
    · refine Ev.no (by rw [hg, e]; simp) (same_l4_ev xs ys hx hl r (i + 1) a.next ?_)
      rw [take_next h, ht, List.take_add_one, List.getElem?_eq_getElem hy, e, hgy]; rfl
    · refine Ev.yes (by rw [hg]; simp at e ⊢; exact e) (Ev.some ?_)
      have : xs ≠ ys := fun h2 => e (by rw [← hg, h2])
      simp [this]
theorem same_ev (xs ys : List Int) (hx : xs.length ≤ 9223372036854775807) : Ev (fun k => w_same k (xs, ys)) (decide (xs = ys)) := by
  refine Ev.step (fun k => w_same_eq k xs ys) ?_
  by_cases h : xs.length = ys.length
  · exact Ev.no (by simp [h]) (same_l4_ev xs ys hx h _ 0 rfl (by simp))
  · have : xs ≠ ys := fun e => h (by rw [e])
    exact Ev.yes (by simp; omega) (Ev.some (by simp [this]))
theorem find_l2_ev (l : Packs) (x : List Int) (hf : FitS l) : ∀ (r : Packs) (i : Nat), l.drop i = r → x ∈ r → Ev (fun k => w_find_l2 k x l (l.length : Int) (i : Int)) true
  | [], i, h, hx => by cases hx
  | q :: r, i, h, hx => by
    have a := at_cons h hf.1
    have hq := hf.2 q a.mem
    refine Ev.step (fun k => w_find_l2_eq k _ _ _ _) ?_
    simp only [a.g, a.z, a.get, a.w, cond_true]
    refine Ev.bind (same_ev q x (by have := hq.1; rw [maxLen_eq] at this; exact this)) ?_
    by_cases e : q = x
    · exact Ev.yes (by simp [e]) (Ev.pure _)
    · refine Ev.no (by simp [e]) (find_l2_ev l x hf r (i + 1) a.next ?_)
      rcases List.mem_cons.1 hx with h1 | h1
      · exact (e h1.symm).elim
      · exact h1
theorem find_ev {l : Packs} {x : List Int} (hf : FitS l) (hx : x ∈ l) : Ev (fun k => w_find k (l, x)) true :=
  Ev.step (fun k => w_find_eq k l x) (find_l2_ev l x hf l 0 rfl hx)
theorem moved_KL {l : Packs} (h : KL l) {p0 : List Int} (h0 : p0 ∈ l) {m : Int × Int} (hm : moveOk (p0.length : Int) m = true) : KL (setL (l.map fun p => doMove p m)) ∧ (setL (l.map fun p => doMove p m)).length = l.length := by
  have hfit : ∀ p ∈ l, MoveFit p.length m := fun p hp => moveOk_fit (by rw [h.lens hp h0]; exact hm)
  have hc : ∀ p ∈ l, ∀ x ∈ p, 0 ≤ card x := fun p hp x hx => ((packetOk_fit (h.ok hp).1).2.1 x hx).1
  have hnd : (l.map fun p => doMove p m).Nodup := by
    have hl := ss_nodup h.ss
    have key : ∀ (r : Packs), r.Nodup → (∀ p ∈ r, p ∈ l) → (r.map fun p => doMove p m).Nodup := by
      intro r
      induction r with
      | nil => intro _ _; simp
      | cons p r ih =>
        intro hn hs
        rw [List.nodup_cons] at hn
        rw [List.map_cons, List.nodup_cons]
        refine ⟨fun hm2 => ?_, ih hn.2 (fun q hq => hs q (List.mem_cons_of_mem _ hq))⟩
        obtain ⟨q, hq, e⟩ := List.mem_map.1 hm2
        have hpl := hs p (by simp)
        have hql := hs q (List.mem_cons_of_mem _ hq)
        have := doMove_inj (hfit p hpl) (h.lens hql hpl) (hc p hpl) (hc q hql) e.symm
        rw [this] at hn
        exact hn.1 hq
    exact key l hl (fun p hp => hp)
  have hlen : (setL (l.map fun p => doMove p m)).length = l.length := by
    have h1 := setL_len (l.map fun p => doMove p m)
    have h2 := nodup_sub hnd (m := setL (l.map fun p => doMove p m)) (fun q hq => (setL_mem _ q).2 hq)
    rw [List.length_map] at h1 h2
    omega
  obtain ⟨p, k1, k2, k3⟩ := h.arr
  refine ⟨⟨fun e => ?_, by rw [hlen]; exact h.len, setL_ss _, p, k1, k2, fun q hq => ?_⟩, hlen⟩
  · rw [e] at hlen
    have := List.length_pos_iff.2 h.ne
    simp at hlen; omega
  · obtain ⟨p', hp', rfl⟩ := List.mem_map.1 ((setL_mem _ q).1 hq)
    exact (doMove_pm (hfit p' hp')).trans (k3 p' hp')
theorem sides_self (p : List Int) : ∀ (r : List Int) (i : Nat), p.drop i = r → ∀ up : List Int, (∀ j : Nat, j < p.length → (up.contains (j : Int) = isUp (p.getD j 0))) → sidesF up i r = true
  | [], i, h, up, hu => rfl
  | x :: r, i, h, up, hu => by
    have a := at_cons (xs := p) h
    have lt : i < p.length := by
      rcases Nat.lt_or_ge i p.length with h1 | h1
      · exact h1
      · rw [List.drop_eq_nil_of_le h1] at h; cases h
    have hg : p.getD i 0 = x ∧ p.drop (i + 1) = r := by
      have e := List.drop_eq_getElem_cons lt
      rw [e] at h
      injection h with h1 h2
      exact ⟨by simp [List.getD, lt, h1], h2⟩
    unfold sidesF
    rw [hu i lt, hg.1, sides_self p r (i + 1) hg.2 up hu]; simp
def upsOf (p : List Int) : Nat → List Int
  | 0 => [] | n + 1 => if isUp (p.getD n 0) = true then upsOf p n ++ [(n : Int)] else upsOf p n
theorem upsOf_len (p : List Int) : ∀ n, (upsOf p n).length ≤ n
  | 0 => Nat.le_refl _
  | n + 1 => by
    unfold upsOf
    have := upsOf_len p n
    split
    · simp; omega
    · omega
theorem upsOf_mem (p : List Int) : ∀ (n j : Nat), (upsOf p n).contains (j : Int) = (decide (j < n) && isUp (p.getD j 0))
  | 0, j => by simp [upsOf]
  | n + 1, j => by
    have ih := upsOf_mem p n j
    unfold upsOf
    split
    · rename_i h
      rw [List.contains_append, ih]
      by_cases e : j = n
      · subst e; rw [h]; simp
      · have : ¬ ((j : Int) = (n : Int)) := by omega
        by_cases h2 : j < n
        · have h3 : j < n + 1 := by omega
          simp [this, h2, h3]
        · have h3 : ¬ j < n + 1 := by omega
          simp [this, h2, h3]
    · rename_i h
      rw [ih]
      by_cases e : j = n
      · subst e; rw [Bool.eq_false_iff.2 h]; simp
      · by_cases h2 : j < n
        · have h3 : j < n + 1 := by omega
          simp [h2, h3]
        · have h3 : ¬ j < n + 1 := by omega
          simp [h2, h3]
theorem w_l18_ev (l : Packs) (hk : KL l) (p0 : List Int) (r0 : Packs) (hl : l = p0 :: r0) : ∀ (r : List Int) (i : Nat), p0.drop i = r → i ≤ p0.length → Ev (fun k => w_FnLearns_l18 k l p0 (p0.length : Int) (i : Int) (upsOf p0 i)) true
  | [], i, h, hi => by
    have a := at_nil h
    have e : i = p0.length := Nat.le_antisymm hi a.ge
    subst e
    have h0 := hk.ok (q := p0) (by rw [hl]; simp)
    have hf := hk.fit
    have hul := upsOf_len p0 p0.length
    refine Ev.step (fun k => w_FnLearns_l18_eq k _ _ _ _ _) (Ev.no a.g (Ev.bind (i_SeeSides_ev l (upsOf p0 p0.length) (by rw [maxLen_eq]; omega) hf) (Ev.yes (by rw [hl]; simp) ?_)))
    have hg : l.getD 0 [] = p0 := by rw [hl]; rfl
    rw [hg]
    have hs : sidesB (upsOf p0 p0.length) p0 = true := sides_self p0 p0 0 rfl _ (fun j hj => by rw [upsOf_mem, decide_eq_true hj, Bool.true_and])
    have hm : p0 ∈ those l (sidesB (upsOf p0 p0.length)) := by
      unfold those
      rw [if_pos hk.know]
      exact List.mem_filter.2 ⟨by rw [hl]; simp, hs⟩
    have hfs : FitS (those l (sidesB (upsOf p0 p0.length))) := by
      unfold those
      rw [if_pos hk.know]
      exact ⟨Nat.le_trans (List.length_filter_le _ _) hf.1, fun p hp => hf.2 p (List.mem_filter.1 hp).1⟩
    exact Ev.bind (find_ev hfs hm) (Ev.pure _)
  | x :: r, i, h, hi => by
    have h0 := hk.ok (q := p0) (by rw [hl]; simp)
    have a := at_cons h (by rw [maxLen_eq]; omega)
    have lt := a.lt
    have hx : In x := packetOk_ins h0.1 x a.mem
    have hul := upsOf_len p0 i
    have ih := w_l18_ev l hk p0 r0 hl r (i + 1) a.next (by omega)
    have hg : p0.getD i 0 = x := a.gt 0
    refine Ev.step (fun k => w_FnLearns_l18_eq k _ _ _ _ _) ?_
    simp only [a.g, a.z, a.get, a.w, cond_true]
    unfold upsOf at ih
    rw [hg] at ih
    refine Ev.bind (i_IsUp_ev x hx) (Ev.ite (fun hu => ?_) (fun hu => ?_))
    · rw [if_pos hu] at ih
      exact Ev.yes (by rw [rowMax_eq]; simp; omega) ih
    · rw [if_neg (by rw [hu]; simp)] at ih
      exact ih
theorem w_l10_ev (l x y : Packs) (hk : KL l) (p0 : List Int) (r0 : Packs) (hl : l = p0 :: r0) (m : Int × Int) (hm : moveOk (p0.length : Int) m = true) (fx : FitS x) (fy : FitS y) (hx : ∀ p ∈ l, doMove p m ∈ x) (hy : ∀ p ∈ l, p ∈ y) :
    ∀ (r : Packs) (i : Nat), l.drop i = r → Ev (fun k => w_FnLearns_l10 k l x y l (l.length : Int) (i : Int) m.1 m.2) true
  | [], i, h => by
    have a := at_nil h
    refine Ev.step (fun k => w_FnLearns_l10_eq k _ _ _ _ _ _ _ _) (Ev.no a.g (Ev.yes (by rw [hl]; simp) ?_))
    have hg : l.getD 0 [] = p0 := by rw [hl]; rfl
    rw [hg]
    exact w_l18_ev l hk p0 r0 hl _ 0 rfl (Nat.zero_le _)
  | p :: r, i, h => by
    have hf := hk.fit
    have a := at_cons h hf.1
    have hp := hk.ok a.mem
    have hlen := hk.lens a.mem (q' := p0) (by rw [hl]; simp)
    have hmo : moveOk (p.length : Int) m = true := by rw [hlen]; exact hm
    have hpf := hf.2 p a.mem
    refine Ev.step (fun k => w_FnLearns_l10_eq k _ _ _ _ _ _ _ _) ?_
    simp only [a.g, a.z, a.get, a.w, cond_true]
    have hperf : Ev (fun k => i_Perform k (p, m)) (doMove p m, true) := by
      refine Ev.step (fun k => i_Perform_eq k p m) (Ev.bind (i_PacketOk_ev p hpf.1 hpf.2) ?_)
      rw [hp.1]
      refine Ev.no rfl (Ev.bind (i_MoveOk_ev (p.length : Int) m) ?_)
      rw [hmo]
      exact Ev.no rfl (Ev.bind (i_moved_ev p m (moveOk_fit hmo) hpf.2) (Ev.pure _))
    exact Ev.bind hperf (Ev.no rfl (Ev.bind (find_ev fx (hx p a.mem)) (Ev.no rfl (Ev.bind (find_ev fy (hy p a.mem)) (Ev.no rfl (w_l10_ev l x y hk p0 r0 hl m hm fx fy hx hy r (i + 1) a.next))))))
theorem FnLearns_ev (code : List Int) (f0 : Fits (.slice (.int .u8)) code) : Ev (fun k => w_FnLearns k code) true := by
  have hm : code.length ≤ 9223372036854775807 := by have := f0.1; rw [maxLen_eq] at this; exact this
  refine Ev.step (fun k => w_FnLearns_eq k code) (Ev.ite (fun h => Ev.pure _) (fun h => ?_))
  obtain ⟨l, e, hk, h4⟩ := MakeKnown4_ev code hm
  obtain ⟨p0, r0, hl⟩ : ∃ p0 r0, l = p0 :: r0 := by
    cases l with
    | nil => exact (hk.ne rfl).elim
    | cons p r => exact ⟨p, r, rfl⟩
  have hp0 : p0 ∈ l := by rw [hl]; simp
  have h0 := hk.ok hp0
  have hg : l.getD 0 [] = p0 := by rw [hl]; rfl
  obtain ⟨m, e2, hmo⟩ := MakeMove_ev code hm 40 (by omega) p0.length h0.2.1 h0.2.2
  have hf := hk.fit
  obtain ⟨kx, hxl⟩ := moved_KL hk hp0 hmo
  have hhead : l.headD [] = p0 := by rw [hl]; rfl
  have ham : afterMove l m = (setL (l.map fun p => doMove p m), true) := by
    unfold afterMove
    rw [hk.know, hhead, hmo]; rfl
  have hch : ∀ p ∈ l, chOk p 1 = true := fun p hp => by
    have := hk.ok hp
    unfold chOk
    rw [this.1]
    have hne : ¬ p.length = 0 := by omega
    simp [hne]
  have hsub : ∀ p ∈ l, p ∈ unionOf l 1 := fun p hp => by
    refine List.mem_flatMap.2 ⟨p, hp, ?_⟩
    have hpos := (hk.ok hp).2.1
    have e1 : cutL p 0 = p := by simp [cutL]
    have h2 := List.mem_map_of_mem (f := cutL p) (List.mem_range.2 hpos)
    rw [e1] at h2
    exact h2
  have hss := setL_ss (unionOf l 1)
  have hpm : ∀ q ∈ setL (unionOf l 1), Pm q p0 := fun q hq => by
    obtain ⟨p', hp', hq'⟩ := List.mem_flatMap.1 ((setL_mem _ q).1 hq)
    exact (allOf_pm q hq').trans (hk.pm hp' hp0)
  have hfew := few h0.1 (h4 p0 hp0) (ss_nodup hss) hpm
  have hres : resAfter l 1 = (setL (unionOf l 1), true) := by
    unfold resAfter
    rw [if_pos]
    rw [Bool.and_eq_true, decide_eq_true_eq, List.all_eq_true]
    exact ⟨hch, by omega⟩
  have hac : afterChoice l 1 = (setL (unionOf l 1), true) := by unfold afterChoice; rw [if_pos hk.know]; exact hres
  have ky := (hk.after hres).1
  have hylen : l.length ≤ (setL (unionOf l 1)).length := nodup_sub (ss_nodup hk.ss) (fun q hq => (setL_mem _ q).2 (hsub q hq))
  have hlp : 0 < l.length := by rw [hl]; simp
  refine Ev.bind e (Ev.yes (by simp; omega) (Ev.yes (by simp; omega) ?_))
  rw [hg]
  refine Ev.bind e2 (Ev.bind (i_AfterMove_ev l m hf) (Ev.bind (i_AfterChoice_ev l 1 hf) ?_))
  rw [ham, hac]
  refine Ev.no rfl (Ev.no rfl (Ev.no (by simp [hxl]) (Ev.bind (i_KnowOk_ev _ kx.fit) ?_)))
  rw [kx.know]
  refine Ev.no rfl (Ev.bind (i_KnowOk_ev _ ky.fit) ?_)
  rw [ky.know]
  refine Ev.no rfl (Ev.no (by simp; omega) ?_)
  exact w_l10_ev l _ _ hk p0 r0 hl m hmo kx.fit ky.fit (fun p hp => (setL_mem _ _).2 (List.mem_map_of_mem hp)) (fun p hp => (setL_mem _ _).2 (hsub p hp)) l 0 rfl
end Qq
