/-
  The law FnGuesses comes to true: the ways of a riffle divide by the next card, and the best guesses name as many cards as the total says.
  Conditions: texts of bytes are such as a machine bears.
-/
import Derived.Test.YtbdaipnoibgcgaaPt
import Derived.Test.YtbdaipnoibgcgaaXvzd
import Derived.Laws.BitsLemmas
import Derived.Test.YtbdaipnoibgcgaaXvzj
import Derived.Test.YtbdaipnoibgcgaaXvzk
import Derived.Test.YtbdaipnoibgcgaaCmf
namespace Go.Vt
end Go.Vt
namespace Qq
open Go Go.Vt
set_option linter.unusedVariables false
set_option linter.unusedSimpArgs false
theorem maxLen_eq : maxLen = 9223372036854775807 := by unfold maxLen; decide
theorem rowMax_eq : rowMax = 4294967296 := rfl
theorem wrap_id {x : Int} (h1 : -9223372036854775808 ≤ x) (h2 : x ≤ 9223372036854775807) : IntKind.i64.wrap x = x := by
  rw [IntKind.wrap_i64]; omega
/-- Numbers of a machine's kind. -/
def In (x : Int) : Prop := -9223372036854775808 ≤ x ∧ x ≤ 9223372036854775807
theorem In.of_fits {x : Int} (h : Fits (.int .i64) x) : In x := by
  have h' : IntKind.i64.min ≤ x ∧ x ≤ IntKind.i64.max := h
  have e1 : IntKind.i64.min = -9223372036854775808 := by decide
  have e2 : IntKind.i64.max = 9223372036854775807 := by decide
  unfold In; rw [e1, e2] at h'; exact h'
def Ins (xs : List Int) : Prop := ∀ x ∈ xs, In x
structure AtCons {α : Type} (xs : List α) (i : Nat) (y : α) (rest : List α) : Prop where
  lt : i < xs.length
  g : decide ((i : Int) < (xs.length : Int)) = true
  z : decide ((0 : Int) ≤ (i : Int)) = true
  n : decide ((i : Int).toNat < xs.length) = true
  get : ∀ d, xs.getD (i : Int).toNat d = y
  w : IntKind.i64.wrap ((i : Int) + 1) = ((i + 1 : Nat) : Int)
  next : xs.drop (i + 1) = rest
  mem : y ∈ xs
  gt : ∀ d, xs.getD i d = y
  le : decide ((i : Int) ≤ (xs.length : Int)) = true
theorem at_cons {α : Type} {xs : List α} {i : Nat} {y : α} {rest : List α} (h : xs.drop i = y :: rest) (hm : xs.length ≤ maxLen) : AtCons xs i y rest := by
  rw [maxLen_eq] at hm
  have lt : i < xs.length := by
    rcases Nat.lt_or_ge i xs.length with h1 | h1
    · exact h1
    · rw [List.drop_eq_nil_of_le h1] at h; cases h
  have e := List.drop_eq_getElem_cons lt
  rw [e] at h
  have hy : xs[i] = y := by injection h
  refine ⟨lt, by simp; omega, by simp, by simp; omega, fun d => by simp [List.getD, lt, hy], by rw [wrap_id (by omega) (by omega)]; simp, by injection h, by rw [← hy]; exact List.getElem_mem lt, fun d => by simp [List.getD, lt, hy], by simp; omega⟩
structure AtNil {α : Type} (xs : List α) (i : Nat) : Prop where
  ge : xs.length ≤ i
  g : decide ((i : Int) < (xs.length : Int)) = false
theorem at_nil {α : Type} {xs : List α} {i : Nat} (h : xs.drop i = []) : AtNil xs i := by
  have ge : xs.length ≤ i := List.drop_eq_nil_iff.1 h
  exact ⟨ge, by simp; omega⟩
/-- Counting from i up to n. -/
structure AtUp (n : Int) (i : Nat) : Prop where
  lt : (i : Int) < n
  g : decide ((i : Int) < n) = true
  z : decide ((0 : Int) ≤ (i : Int)) = true
  w : IntKind.i64.wrap ((i : Int) + 1) = ((i + 1 : Nat) : Int)
theorem at_up {n : Int} {i : Nat} (h : (i : Int) < n) (hn : n ≤ 9223372036854775807) : AtUp n i :=
  ⟨h, by simp [h], by simp, by rw [wrap_id (by omega) (by omega)]; simp⟩
theorem at_end {n : Int} {i : Nat} (h : n ≤ (i : Int)) : decide ((i : Int) < n) = false := by simp [h]
end Qq
namespace Qq
open Go Go.Vt Pt
set_option linter.unusedVariables false
set_option linter.unusedSimpArgs false
abbrev Cur : Type := List Int × Int × Int
def CurOk (c : Cur) : Prop := c.1.length ≤ 9223372036854775807 ∧ 0 ≤ c.2.1 ∧ c.2.1 ≤ c.1.length
theorem and255 (x : BitVec 64) : (x &&& BitVec.ofInt 64 255).toNat ≤ 255 := by
  rw [BitVec.toNat_and]
  exact Nat.and_le_right
theorem wrap255 (x : BitVec IntKind.i64.bits) : 0 ≤ IntKind.i64.wrap (((x &&& BitVec.ofInt IntKind.i64.bits (255 : Int)).toNat : Nat) : Int) ∧ IntKind.i64.wrap (((x &&& BitVec.ofInt IntKind.i64.bits (255 : Int)).toNat : Nat) : Int) ≤ 255 := by
  have h : (x &&& BitVec.ofInt IntKind.i64.bits (255 : Int)).toNat ≤ 255 := and255 x
  rw [wrap_id (by omega) (by omega)]
  omega
theorem l01Byte_ev (c : Cur) (h : CurOk c) : ∃ (y : Int) (c' : Cur), Ev (fun k => s_l01Byte k c) (y, c') ∧ 0 ≤ y ∧ y ≤ 255 ∧ CurOk c' := by
  obtain ⟨h1, h2, h3⟩ := h
  by_cases hl : c.2.1 < c.1.length
  · refine ⟨_, _, Ev.step (fun k => s_l01Byte_eq k c) (Ev.yes (decide_eq_true hl) (Ev.yes (decide_eq_true h2) (Ev.yes (decide_eq_true hl) (Ev.pure _)))), (wrap255 _).1, (wrap255 _).2, ?_⟩
    refine ⟨h1, ?_, ?_⟩ <;> (dsimp only; rw [wrap_id (by omega) (by omega)]; omega)
  · exact ⟨_, _, Ev.step (fun k => s_l01Byte_eq k c) (Ev.no (decide_eq_false hl) (Ev.pure _)), (wrap255 _).1, (wrap255 _).2, ⟨h1, h2, h3⟩⟩
theorem tmod_bound {a n : Int} (ha : 0 ≤ a) (hn : 0 < n) : 0 ≤ a.tmod n ∧ a.tmod n < n := by
  rw [Int.tmod_eq_emod_of_nonneg ha]
  exact ⟨Int.emod_nonneg _ (by omega), Int.emod_lt_of_pos _ hn⟩
theorem l01Below_ev (c : Cur) (h : CurOk c) (n : Int) : ∃ (y : Int) (c' : Cur), Ev (fun k => s_l01Below k (c, n)) (y, c') ∧ 0 ≤ y ∧ (0 < n → y < n) ∧ CurOk c' := by
  by_cases h0 : n ≤ 0
  · exact ⟨0, c, Ev.step (fun k => s_l01Below_eq k c n) (Ev.yes (decide_eq_true h0) (Ev.pure _)), Int.le_refl _, fun h => by omega, h⟩
  · have hn : 0 < n := by omega
    by_cases h1 : n ≤ 256
    · obtain ⟨y, c', e, a1, a2, a3⟩ := l01Byte_ev c h
      have hb := tmod_bound a1 hn
      exact ⟨_, _, Ev.step (fun k => s_l01Below_eq k c n) (Ev.no (decide_eq_false h0) (Ev.yes (decide_eq_true h1) (Ev.bind e (Ev.yes (by simp; omega) (Ev.pure _))))), hb.1, fun _ => hb.2, a3⟩
    · obtain ⟨y, c1, e, a1, a2, a3⟩ := l01Byte_ev c h
      obtain ⟨z, c2, f, b1, b2, b3⟩ := l01Byte_ev c1 a3
      obtain ⟨u, c3, g, d1, d2, d3⟩ := l01Byte_ev c2 b3
      obtain ⟨v, c4, i, f1, f2, f3⟩ := l01Byte_ev c3 d3
      have w1 : IntKind.i64.wrap (y * (16777216 : Int)) = y * 16777216 := wrap_id (by omega) (by omega)
      have w2 : IntKind.i64.wrap (z * (65536 : Int)) = z * 65536 := wrap_id (by omega) (by omega)
      have w3 : IntKind.i64.wrap (u * (256 : Int)) = u * 256 := wrap_id (by omega) (by omega)
      have hnn : 0 ≤ IntKind.i64.wrap ((IntKind.i64.wrap ((IntKind.i64.wrap ((IntKind.i64.wrap (y * (16777216 : Int))) + (IntKind.i64.wrap (z * (65536 : Int))))) + (IntKind.i64.wrap (u * (256 : Int))))) + v) := by
        rw [w1, w2, w3, wrap_id (x := y * 16777216 + z * 65536) (by omega) (by omega), wrap_id (x := y * 16777216 + z * 65536 + u * 256) (by omega) (by omega), wrap_id (by omega) (by omega)]
        omega
      have hb := tmod_bound hnn hn
      exact ⟨_, _, Ev.step (fun k => s_l01Below_eq k c n) (Ev.no (decide_eq_false h0) (Ev.no (decide_eq_false h1) (Ev.bind e (Ev.bind f (Ev.bind g (Ev.bind i (Ev.yes (by simp; omega) (Ev.pure _)))))))), hb.1, fun _ => hb.2, f3⟩
theorem l01New_l3_ev (code : List Int) (hm : code.length ≤ 9223372036854775807) : ∀ (r : List Int) (i : Nat) (h : Int), code.drop i = r → ∃ h' : Int, Ev (fun k => s_l01New_l3 k code h (i : Int)) (code, ((0 : Int), h'))
  | [], i, h, hr => by
    have a := at_nil hr
    exact ⟨h, Ev.step (fun k => s_l01New_l3_eq k _ _ _) (Ev.no a.g (Ev.pure _))⟩
  | x :: r, i, h, hr => by
    have a := at_cons hr (by rw [maxLen_eq]; exact hm)
    by_cases h4 : (i : Int) < 4000
    · obtain ⟨h', ih⟩ := l01New_l3_ev code hm r (i + 1) _ a.next
      refine ⟨h', Ev.step (fun k => s_l01New_l3_eq k _ _ _) (Ev.yes a.g (Ev.yes (decide_eq_true h4) (Ev.yes a.z (Ev.yes a.g ?_))))⟩
      rw [a.w]
      exact ih
    · exact ⟨h, Ev.step (fun k => s_l01New_l3_eq k _ _ _) (Ev.yes a.g (Ev.no (decide_eq_false h4) (Ev.pure _)))⟩
theorem l01New_ev (code : List Int) (hm : code.length ≤ 9223372036854775807) : ∃ c : Cur, Ev (fun k => s_l01New k code) c ∧ CurOk c := by
  obtain ⟨h', e⟩ := l01New_l3_ev code hm _ 0 (IntKind.i64.wrap ((2070 : Int) + (code.length : Int))) rfl
  exact ⟨_, Ev.step (fun k => s_l01New_eq k code) e, hm, Int.le_refl _, by simp⟩
theorem l23New_l3_ev (n : Int) (hn : n ≤ 1000000) : ∀ (m : Nat) (i : Int) (c : Cur), 0 ≤ i → n ≤ i + m → CurOk c → ∃ c' : Cur, Ev (fun k => s_l23New_l3 k n i c.1 c.2.1 c.2.2) c' ∧ CurOk c'
  | 0, i, c, h0, hm, hc => ⟨c, Ev.step (fun k => s_l23New_l3_eq k _ _ _ _ _) (Ev.no (decide_eq_false (by omega)) (Ev.pure _)), hc⟩
  | m + 1, i, c, h0, hm, hc => by
    by_cases h : i < n
    · obtain ⟨y, c1, e, _, _, a3⟩ := l01Byte_ev c hc
      obtain ⟨c2, e2, hc2⟩ := l23New_l3_ev n hn m (i + 1) c1 (by omega) (by omega) a3
      refine ⟨c2, Ev.step (fun k => s_l23New_l3_eq k _ _ _ _ _) (Ev.yes (decide_eq_true h) (Ev.bind e ?_)), hc2⟩
      rw [wrap_id (by omega) (by omega)]
      exact e2
    · exact ⟨c, Ev.step (fun k => s_l23New_l3_eq k _ _ _ _ _) (Ev.no (decide_eq_false h) (Ev.pure _)), hc⟩
theorem l23New_ev (code : List Int) (hm : code.length ≤ 9223372036854775807) (n : Int) (hn : n ≤ 1000000) : ∃ c : Cur, Ev (fun k => s_l23New k (code, n)) c ∧ CurOk c := by
  obtain ⟨c, e, hc⟩ := l01New_ev code hm
  obtain ⟨c2, e2, hc2⟩ := l23New_l3_ev n hn n.toNat 0 c (by omega) (by omega) hc
  exact ⟨c2, Ev.step (fun k => s_l23New_eq k code n) (Ev.bind e e2), hc2⟩
theorem MakeNum_ev (code : List Int) (hm : code.length ≤ 9223372036854775807) (n : Int) (hn : n ≤ 1000000) : ∃ y : Int, Ev (fun k => s_MakeNum k (code, n)) y ∧ 0 ≤ y ∧ y ≤ 65535 := by
  obtain ⟨c, e, hc⟩ := l23New_ev code hm n hn
  obtain ⟨y, c1, e1, a1, a2, a3⟩ := l01Byte_ev c hc
  obtain ⟨z, c2, e2, b1, b2, b3⟩ := l01Byte_ev c1 a3
  refine ⟨y * 256 + z, Ev.step (fun k => s_MakeNum_eq k code n) (Ev.bind e (Ev.bind e1 (Ev.bind e2 (Ev.some ?_)))), by omega, by omega⟩
  rw [wrap_id (x := y * 256) (by omega) (by omega), wrap_id (by omega) (by omega)]
end Qq
namespace Qq
open Go Go.Vt Pt
set_option linter.unusedVariables false
set_option linter.unusedSimpArgs false
theorem l01In_ev (x lo hi : Int) : Ev (fun k => s_l01In k (x, lo, hi)) (decide (lo ≤ x) && decide (x ≤ hi)) := by
  refine Ev.step (fun k => s_l01In_eq k x lo hi) (Ev.ite (fun h => ?_) (fun h => ?_))
  · have h' : lo ≤ x := by simpa using h
    exact Ev.some (by simp [h'])
  · have h' : ¬ lo ≤ x := by simpa using h
    exact Ev.some (by simp [h'])
end Qq
namespace Qq
open Go Go.Vt Pt
set_option linter.unusedVariables false
set_option linter.unusedSimpArgs false
/-- Where x lies first, or -1. -/
def idx (x : Int) : Nat → List Int → Int
  | _, [] => -1
  | i, y :: r => if x = y then (i : Int) else idx x (i + 1) r
theorem idx_has (x : Int) : ∀ (r : List Int) (i : Nat), decide (idx x i r ≥ 0) = r.contains x
  | [], i => by simp [idx]
  | y :: r, i => by
    unfold idx
    by_cases h : x = y
    · simp [h]
    · rw [if_neg h, idx_has x r (i + 1)]; simp [h]
theorem Index_int_l2_ev (x : Int) (xs : List Int) (hm : xs.length ≤ maxLen) : ∀ (r : List Int) (i : Nat), xs.drop i = r → Ev (fun k => slices_Index_int_l2 k xs x (xs.length : Int) (i : Int)) (idx x i r)
  | [], i, h => by
    have a := at_nil h
    refine Ev.step (fun k => slices_Index_int_l2_eq k xs x _ i) ?_
    simp only [a.g, cond_false]
    exact Ev.pure _
  | y :: r, i, h => by
    have a := at_cons h hm
    refine Ev.step (fun k => slices_Index_int_l2_eq k xs x _ i) ?_
    simp only [a.g, a.z, a.get, a.w, cond_true]
    unfold idx
    refine Ev.ite (fun h => Ev.some ?_) (fun h => (Index_int_l2_ev x xs hm r (i + 1) a.next).to ?_)
    · have : x = y := by simpa using h
      simp [this]
    · have : ¬ x = y := by simpa using h
      rw [if_neg this]
theorem Index_int_ev (xs : List Int) (x : Int) (hm : xs.length ≤ maxLen) : Ev (fun k => slices_Index_int k (xs, x)) (idx x 0 xs) :=
  Ev.step (fun k => slices_Index_int_eq k xs x) (Index_int_l2_ev x xs hm xs 0 rfl)
theorem Contains_int_ev (xs : List Int) (x : Int) (hm : xs.length ≤ maxLen) : Ev (fun k => slices_Contains_int k (xs, x)) (xs.contains x) :=
  Ev.step (fun k => slices_Contains_int_eq k xs x) (Ev.bind (Index_int_ev xs x hm) (Ev.some (idx_has x xs 0)))
end Qq
namespace Qq
open Go Go.Vt Pt
set_option linter.unusedVariables false
set_option linter.unusedSimpArgs false
/-- The numbers are from 0 up to n, and none comes twice. -/
def preOk (n : Int) : List Int → List Int → Bool
  | _, [] => true
  | done, x :: r => decide (0 ≤ x) && (decide (x < n) && (!(done.contains x) && preOk n (done ++ [x]) r))
def isPre (n : Int) (p : List Int) : Bool := decide (1 ≤ n) && (decide (n ≤ 12) && preOk n [] p)
theorem take_next {α : Type} {xs : List α} {i : Nat} {y : α} {r : List α} (h : xs.drop i = y :: r) : xs.take (i + 1) = xs.take i ++ [y] := by
  have lt : i < xs.length := by
    rcases Nat.lt_or_ge i xs.length with h1 | h1
    · exact h1
    · rw [List.drop_eq_nil_of_le h1] at h; cases h
  rw [List.drop_eq_getElem_cons lt] at h
  rw [List.take_succ_eq_append_getElem lt]
  injection h with h1 h2
  rw [h1]
theorem i_isPrefix_l4_ev (n : Int) (xs : List Int) (hm : xs.length ≤ maxLen) : ∀ (r : List Int) (i : Nat), xs.drop i = r → Ev (fun k => i_isPrefix_l4 k n xs xs (xs.length : Int) (i : Int)) (preOk n (xs.take i) r)
  | [], i, h => by
    have a := at_nil h
    refine Ev.step (fun k => i_isPrefix_l4_eq k n xs xs _ i) ?_
    simp only [a.g, cond_false]
    exact Ev.pure _
  | x :: r, i, h => by
    have a := at_cons h hm
    have g : decide ((i : Int) ≤ (xs.length : Int)) = true := by have := a.lt; simp; omega
    refine Ev.step (fun k => i_isPrefix_l4_eq k n xs xs _ i) ?_
    simp only [a.g, a.z, a.get, a.gt, a.w, g, cond_true, List.drop_zero, Int.toNat_natCast]
    unfold preOk
    refine Ev.ite (fun h1 => Ev.some ?_) (fun h1 => Ev.ite (fun h2 => Ev.some ?_) (fun h2 => Ev.bind (Contains_int_ev (xs.take i) x (by rw [List.length_take]; omega)) (Ev.ite (fun h' => Ev.some ?_) (fun h' => ?_))))
    · have : ¬ 0 ≤ x := by simpa using h1
      simp [this]
    · have : ¬ x < n := by simpa using h2
      simp [this]
    · simp only [h', Bool.not_true, Bool.false_and, Bool.and_false]
    · have e1 : decide (0 ≤ x) = true := by simpa using h1
      have e2 : decide (x < n) = true := by simpa using h2
      rw [e1, e2, h']
      refine (i_isPrefix_l4_ev n xs hm r (i + 1) a.next).to ?_
      rw [take_next ‹xs.drop i = x :: r›]; rfl
theorem i_isPrefix_ev (n : Int) (p : List Int) (hm : p.length ≤ maxLen) : Ev (fun k => i_isPrefix k (n, p)) (isPre n p) := by
  refine Ev.step (fun k => i_isPrefix_eq k n p) (Ev.ite (fun h => Ev.some ?_) (fun h => Ev.ite (fun h' => Ev.some ?_) (fun h' => ?_)))
  · have : ¬ 1 ≤ n := by simpa using h
    simp [isPre, this]
  · have : ¬ n ≤ 12 := by simpa using h'
    simp [isPre, this]
  · have e1 : 1 ≤ n := by simpa using h
    have e2 : n ≤ 12 := by simpa using h'
    simp only [isPre, e1, e2, decide_true, Bool.true_and]
    exact i_isPrefix_l4_ev n p hm p 0 rfl
theorem nodup_len : ∀ (n : Nat) (l : List Int), l.Nodup → (∀ x ∈ l, 0 ≤ x ∧ x < (n : Int)) → l.length ≤ n
  | 0, l, _, h => by
    cases l with
    | nil => simp
    | cons x l => have := h x (by simp); omega
  | n + 1, l, hd, h => by
    have h1 := nodup_len n (l.erase (n : Int)) (hd.erase _) (fun x hx => by
      have hx' := (hd.mem_erase_iff).1 hx
      have := h x hx'.2
      have : x ≠ (n : Int) := hx'.1
      omega)
    have h2 := List.length_erase (a := (n : Int)) (l := l)
    split at h2 <;> omega
theorem preOk_nodup (n : Int) : ∀ (r done : List Int), done.Nodup → preOk n done r = true → (done ++ r).Nodup ∧ ∀ x ∈ r, 0 ≤ x ∧ x < n
  | [], done, hd, h => by simp [hd]
  | x :: r, done, hd, h => by
    unfold preOk at h
    simp only [Bool.and_eq_true, decide_eq_true_eq, Bool.not_eq_true'] at h
    obtain ⟨h1, h2, h3, h4⟩ := h
    have hx : x ∉ done := by simpa using h3
    obtain ⟨k1, k2⟩ := preOk_nodup n r (done ++ [x]) (by
      rw [List.nodup_append]
      exact ⟨hd, by simp, fun a ha b hb e => by simp at hb; subst hb; subst e; exact hx ha⟩) h4
    refine ⟨by simpa using k1, fun y hy => ?_⟩
    rcases List.mem_cons.1 hy with rfl | hy
    · exact ⟨h1, h2⟩
    · exact k2 y hy
theorem isPre_fit {n : Int} {p : List Int} (h : isPre n p = true) : 1 ≤ n ∧ n ≤ 12 ∧ p.Nodup ∧ (∀ x ∈ p, 0 ≤ x ∧ x < n) ∧ (p.length : Int) ≤ n := by
  unfold isPre at h
  simp only [Bool.and_eq_true, decide_eq_true_eq] at h
  obtain ⟨h1, h2, h3⟩ := h
  obtain ⟨k1, k2⟩ := preOk_nodup n p [] (by simp) h3
  have k3 := nodup_len n.toNat p (by simpa using k1) (fun x hx => by have := k2 x hx; omega)
  exact ⟨h1, h2, by simpa using k1, k2, by omega⟩
end Qq
namespace Qq
open Go Go.Vt Pt
set_option linter.unusedVariables false
set_option linter.unusedSimpArgs false
def card (x : Int) : Int := if 0 ≤ x ∧ x ≤ 11 then x else if -12 ≤ x ∧ x ≤ -1 then -1 - x else -1
theorem card_lt (x : Int) : -1 ≤ card x ∧ card x ≤ 11 := by unfold card; split; · omega
                                                            split <;> omega
theorem s_CardOf_ev (x : Int) : Ev (fun k => s_CardOf k x) (card x) := by
  refine Ev.step (fun k => s_CardOf_eq k x) (Ev.bind (l01In_ev _ _ _) (Ev.ite (fun h => Ev.some ?_) (fun h => Ev.bind (l01In_ev _ _ _) (Ev.ite (fun h' => ?_) (fun h' => Ev.some ?_)))))
  · have : 0 ≤ x ∧ x ≤ 11 := by simpa using h
    simp [card, this]
  · have h1 : ¬ (0 ≤ x ∧ x ≤ 11) := by simp at h; omega
    have h2 : -12 ≤ x ∧ x ≤ -1 := by simpa using h'
    rw [wrap_id (by omega) (by omega)]
    exact Ev.some (by unfold card; rw [if_neg h1, if_pos h2])
  · have h1 : ¬ (0 ≤ x ∧ x ≤ 11) := by simp at h; omega
    have h2 : ¬ (-12 ≤ x ∧ x ≤ -1) := by simp at h'; omega
    unfold card; rw [if_neg h1, if_neg h2]
theorem i_CardOf_ev (x : Int) (hx : In x) : Ev (fun k => i_CardOf k x) (card x) := by
  obtain ⟨a, b⟩ := hx
  refine Ev.step (fun k => i_CardOf_eq k x) ?_
  refine Ev.ite (fun h => ?_) (fun h => ?_)
  · have h1 : x < 0 := by simpa using h
    rw [wrap_id (by omega) (by omega)]
    have h2 : ¬ (0 ≤ x ∧ x ≤ 11) := by omega
    refine Ev.ite (fun h' => Ev.some ?_) (fun h' => Ev.some ?_)
    · have h3 : ¬ (-12 ≤ x ∧ x ≤ -1) := by simp at h'; omega
      unfold card; rw [if_neg h2, if_neg h3]
    · have h3 : (-12 ≤ x ∧ x ≤ -1) := by simp at h'; omega
      unfold card; rw [if_neg h2, if_pos h3]
  · have h1 : ¬ x < 0 := by simpa using h
    have h3 : ¬ (-12 ≤ x ∧ x ≤ -1) := by omega
    refine Ev.ite (fun h' => Ev.some ?_) (fun h' => Ev.some ?_)
    · have h2 : ¬ (0 ≤ x ∧ x ≤ 11) := by simp at h'; omega
      unfold card; rw [if_neg h2, if_neg h3]
    · have h2 : (0 ≤ x ∧ x ≤ 11) := by simp at h'; omega
      unfold card; rw [if_pos h2]
def pk : List Int → List Int → Bool
  | _, [] => true
  | done, x :: r => decide (0 ≤ card x) && (!(done.contains (card x)) && pk (done ++ [card x]) r)
def packetOk (p : List Int) : Bool := pk [] p
theorem pk_nodup : ∀ (r done : List Int), done.Nodup → pk done r = true → (done ++ r.map card).Nodup ∧ ∀ x ∈ r, 0 ≤ card x
  | [], done, hd, h => by simp [hd]
  | x :: r, done, hd, h => by
    unfold pk at h
    simp only [Bool.and_eq_true, decide_eq_true_eq, Bool.not_eq_true'] at h
    obtain ⟨h1, h3, h4⟩ := h
    have hx : card x ∉ done := by simpa using h3
    obtain ⟨k1, k2⟩ := pk_nodup r (done ++ [card x]) (by
      rw [List.nodup_append]
      exact ⟨hd, by simp, fun a ha b hb e => by simp at hb; subst hb; subst e; exact hx ha⟩) h4
    refine ⟨by simpa using k1, fun y hy => ?_⟩
    rcases List.mem_cons.1 hy with rfl | hy
    · exact h1
    · exact k2 y hy
theorem packetOk_fit {p : List Int} (h : packetOk p = true) : (p.map card).Nodup ∧ (∀ x ∈ p, 0 ≤ card x ∧ card x ≤ 11) ∧ p.length ≤ 12 := by
  obtain ⟨k1, k2⟩ := pk_nodup p [] (by simp) h
  have k1' : (p.map card).Nodup := by simpa using k1
  have k3 := nodup_len 12 (p.map card) k1' (fun x hx => by
    obtain ⟨y, hy, rfl⟩ := List.mem_map.1 hx
    have := k2 y hy
    have := card_lt y
    omega)
  exact ⟨k1', fun x hx => ⟨k2 x hx, (card_lt x).2⟩, by simpa using k3⟩
/-- The cards that were met. -/
def metL (done : List Int) : List Bool := (List.range 12).map fun (c : Nat) => done.contains (c : Int)
theorem metL_len (done : List Int) : (metL done).length = 12 := by simp [metL]
theorem metL_get (done : List Int) (c : Nat) (h : c < 12) (d : Bool) : (metL done).getD c d = done.contains (c : Int) := by
  simp [metL, List.getD, h]
theorem metL_set (done : List Int) (c : Nat) (h : c < 12) : (metL done).set c true = metL (done ++ [(c : Int)]) := by
  apply List.ext_getElem?
  intro x
  rw [List.getElem?_set]
  by_cases hx : x < 12
  · by_cases e : c = x
    · subst e; simp [metL, h]
    · have : ¬ x = c := fun h => e h.symm
      simp [metL, hx, e, this]; intro h; omega
  · rw [if_neg (by omega), List.getElem?_eq_none (by rw [metL_len]; omega), List.getElem?_eq_none (by rw [metL_len]; omega)]
theorem i_PacketOk_l3_ev (xs : List Int) (hm : xs.length ≤ maxLen) (hi : Ins xs) : ∀ (r : List Int) (i : Nat) (done : List Int), xs.drop i = r → Ev (fun k => i_PacketOk_l3 k xs (xs.length : Int) (i : Int) (metL done)) (pk done r)
  | [], i, done, h => by
    have a := at_nil h
    refine Ev.step (fun k => i_PacketOk_l3_eq k _ _ _ _) ?_
    simp only [a.g, cond_false]
    exact Ev.pure _
  | x :: r, i, done, h => by
    have a := at_cons h hm
    refine Ev.step (fun k => i_PacketOk_l3_eq k _ _ _ _) ?_
    simp only [a.g, a.z, a.get, a.w, cond_true]
    unfold pk
    refine Ev.bind (i_CardOf_ev x (hi x a.mem)) (Ev.ite (fun c => Ev.some ?_) (fun c => ?_))
    · have : ¬ 0 ≤ card x := by simpa using c
      simp [this]
    · have hc : 0 ≤ card x := by simpa using c
      have hc2 := (card_lt x).2
      have en : card x = ((card x).toNat : Int) := by omega
      have g1 : decide (0 ≤ card x) = true := by simp [hc]
      have g2 : decide (card x < ((metL done).length : Int)) = true := by rw [metL_len]; simp; omega
      have g3 : decide ((card x).toNat < (metL done).length) = true := by rw [metL_len]; simp; omega
      have g4 : (Nat.beq (metL done).length 12 && true) = true := by rw [metL_len]; rfl
      have g5 := metL_get done (card x).toNat (by omega) false
      rw [← en] at g5
      have g6 := metL_set done (card x).toNat (by omega)
      rw [← en] at g6
      simp only [g1, g2, g3, g4, g5, g6, cond_true, Bool.true_and]
      refine Ev.ite (fun c2 => Ev.some ?_) (fun c2 => ?_)
      · rw [c2]; rfl
      · rw [c2]
        exact i_PacketOk_l3_ev xs hm hi r (i + 1) _ a.next
theorem i_PacketOk_ev (p : List Int) (hm : p.length ≤ maxLen) (hi : Ins p) : Ev (fun k => i_PacketOk k p) (packetOk p) :=
  Ev.step (fun k => i_PacketOk_eq k p) (i_PacketOk_l3_ev p hm hi p 0 [] rfl)
end Qq
namespace Qq
open Go Go.Vt Pt
set_option linter.unusedVariables false
set_option linter.unusedSimpArgs false
def bits : Nat → Nat → List Bool
  | 0, _ => []
  | n + 1, w => (w % 2 == 1) :: bits n (w / 2)
theorem bits_len : ∀ n w, (bits n w).length = n
  | 0, _ => rfl
  | n + 1, w => by simp [bits, bits_len n]
theorem bits_get : ∀ (n w i : Nat), i < n → (bits n w)[i]? = some (w / 2 ^ i % 2 == 1)
  | 0, _, _, h => by omega
  | n + 1, w, 0, h => by simp [bits]
  | n + 1, w, i + 1, h => by
    show (bits n (w / 2))[i]? = _
    rw [bits_get n (w / 2) i (by omega), Nat.div_div_eq_div_mul, Nat.pow_succ, Nat.mul_comm 2 (2 ^ i)]
theorem bits_drop {n w i : Nat} (h : i < n) : (bits n w).drop i = (w / 2 ^ i % 2 == 1) :: (bits n w).drop (i + 1) := by
  have hl : i < (bits n w).length := by rw [bits_len]; exact h
  rw [List.drop_eq_getElem_cons hl]
  have := bits_get n w i h
  rw [List.getElem?_eq_getElem hl] at this
  injection this with e
  rw [e]
/-- A bit, as the program takes it. -/
theorem bit_wrap (w i : Nat) (hi : i < 64) (hw : w < 9223372036854775808) : IntKind.i64.wrap (((BitVec.ofInt IntKind.i64.bits (((w : Int)).fdiv (2 ^ (min ((i : Int)).toNat IntKind.i64.bits))) &&& BitVec.ofInt IntKind.i64.bits (1 : Int)).toNat : Int)) = ((w / 2 ^ i % 2 : Nat) : Int) := by
  have hb : IntKind.i64.bits = 64 := by decide
  rw [hb, Int.toNat_natCast, Nat.min_eq_left (by omega)]
  have e1 : ((w : Int)).fdiv (2 ^ i) = ((w / 2 ^ i : Nat) : Int) := by
    rw [Int.fdiv_eq_ediv_of_nonneg _ (by exact Int.le_of_lt (Int.pow_pos (by decide)))]
    norm_cast
  have e2 : (BitVec.ofInt 64 ((w / 2 ^ i : Nat) : Int) &&& BitVec.ofInt 64 (1 : Int)).toNat = w / 2 ^ i % 2 := by
    have h1 : (1 : Int) = ((1 : Nat) : Int) := rfl
    rw [h1, BitVec.ofInt_natCast, BitVec.ofInt_natCast, BitVec.toNat_and, BitVec.toNat_ofNat, BitVec.toNat_ofNat]
    have hlt : w / 2 ^ i < 2 ^ 64 := by
      have := Nat.div_le_self w (2 ^ i)
      omega
    rw [Nat.mod_eq_of_lt hlt]
    exact Nat.and_one_is_mod _
  rw [e1, e2, wrap_id (by omega) (by omega)]
def zeros (l : List Bool) : Nat := l.count false
def ones (l : List Bool) : Nat := l.count true
theorem zo : ∀ l : List Bool, zeros l + ones l = l.length
  | [] => rfl
  | b :: l => by
    have := zo l
    unfold zeros ones at *
    cases b <;> simp <;> omega
/-- The cards of two parts that begin at a and at b, in turn as the bits say. -/
def riff : List Bool → Nat → Nat → List Int
  | [], _, _ => []
  | false :: l, a, b => (a : Int) :: riff l (a + 1) b
  | true :: l, a, b => (b : Int) :: riff l a (b + 1)
theorem riff_len : ∀ (l : List Bool) (a b : Nat), (riff l a b).length = l.length
  | [], _, _ => rfl
  | false :: l, a, b => by simp [riff, riff_len l]
  | true :: l, a, b => by simp [riff, riff_len l]
def upTo (n : Nat) : List Int := (List.range n).map fun (i : Nat) => (i : Int)
theorem upTo_len (n : Nat) : (upTo n).length = n := by simp [upTo]
theorem upTo_get {n i : Nat} (h : i < n) (d : Int) : (upTo n).getD i d = i := by simp [upTo, List.getD, h]
theorem upTo_succ (n : Nat) : upTo (n + 1) = upTo n ++ [(n : Int)] := by simp [upTo, List.range_succ]
theorem i_upTo_l3_ev (n : Nat) (hn : n ≤ 1048576) : ∀ (m i : Nat), i + m = n → Ev (fun k => i_upTo_l3 k (n : Int) (i : Int) (upTo i)) (upTo n)
  | 0, i, h => by
    refine Ev.step (fun k => i_upTo_l3_eq k n i _) ?_
    rw [at_end (by omega)]
    have : i = n := by omega
    subst this
    exact Ev.pure _
  | m + 1, i, h => by
    have a := at_up (n := (n : Int)) (i := i) (by omega) (by omega)
    refine Ev.step (fun k => i_upTo_l3_eq k n i _) ?_
    simp only [a.g, a.w, cond_true]
    refine Ev.yes (by rw [upTo_len, rowMax_eq]; simp; omega) ?_
    rw [← upTo_succ]
    exact i_upTo_l3_ev n hn m (i + 1) (by omega)
theorem i_upTo_ev (n : Nat) (hn : n ≤ 1048576) : Ev (fun k => i_upTo k (n : Int)) (upTo n) :=
  Ev.step (fun k => i_upTo_eq k n) (i_upTo_l3_ev n hn n 0 (by omega))
theorem i_riffled_l9_ev (n w a0 : Nat) (hn : n ≤ 12) (hw : w < 9223372036854775808) : ∀ (m i a b : Nat) (acc : List Int), i + m = n → acc.length = i → a + zeros ((bits n w).drop i) ≤ n → b + ones ((bits n w).drop i) ≤ n →
    Ev (fun k => i_riffled_l9 k (upTo n) (w : Int) (a : Int) (b : Int) (n : Int) (i : Int) acc) (acc ++ riff ((bits n w).drop i) a b)
  | 0, i, a, b, acc, h, hl, ha, hb => by
    refine Ev.step (fun k => i_riffled_l9_eq k _ _ _ _ _ _ _) ?_
    rw [at_end (by omega)]
    have : (bits n w).drop i = [] := List.drop_eq_nil_of_le (by rw [bits_len]; omega)
    rw [this]
    exact Ev.some (by simp [riff])
  | m + 1, i, a, b, acc, h, hl, ha, hb => by
    have u := at_up (n := (n : Int)) (i := i) (by omega) (by omega)
    have hd := bits_drop (n := n) (w := w) (i := i) (by omega)
    refine Ev.step (fun k => i_riffled_l9_eq k _ _ _ _ _ _ _) ?_
    rw [bit_wrap w i (by omega) hw]
    simp only [u.g, u.z, u.w, cond_true]
    rw [hd] at ha hb ⊢
    cases hbit : (w / 2 ^ i % 2 == 1) with
    | true =>
      rw [hbit] at ha hb
      simp only [zeros, ones, List.count_cons] at ha hb
      simp at ha hb
      have e : (((w / 2 ^ i % 2 : Nat) : Int) == 1) = true := by
        have : w / 2 ^ i % 2 = 1 := by simpa using hbit
        rw [this]; rfl
      refine Ev.yes e (Ev.yes (by simp) (Ev.yes (by rw [upTo_len]; simp; omega) (Ev.yes (by simp [rowMax_eq]; omega) ?_)))
      rw [wrap_id (by omega) (by omega), Int.toNat_natCast, upTo_get (by omega)]
      have := i_riffled_l9_ev n w a0 hn hw m (i + 1) a (b + 1) (acc ++ [(b : Int)]) (by omega) (by simp [hl]) (by simpa [zeros] using ha) (by simp only [ones]; omega)
      simpa [riff] using this
    | false =>
      rw [hbit] at ha hb
      simp only [zeros, ones, List.count_cons] at ha hb
      simp at ha hb
      have e : (((w / 2 ^ i % 2 : Nat) : Int) == 1) = false := by
        have h1 : ¬ w / 2 ^ i % 2 = 1 := by simpa using hbit
        have h2 : w / 2 ^ i % 2 = 0 := by omega
        rw [h2]; rfl
      refine Ev.no e (Ev.yes (by simp) (Ev.yes (by rw [upTo_len]; simp; omega) (Ev.yes (by simp [rowMax_eq]; omega) ?_)))
      rw [wrap_id (by omega) (by omega), Int.toNat_natCast, upTo_get (by omega)]
      have := i_riffled_l9_ev n w a0 hn hw m (i + 1) (a + 1) b (acc ++ [(a : Int)]) (by omega) (by simp [hl]) (by simp only [zeros]; omega) (by simpa [ones] using hb)
      simpa [riff] using this
theorem i_riffled_l3_ev (n w : Nat) (hn : n ≤ 12) (hw : w < 9223372036854775808) : ∀ (m i z : Nat), i + m = n → z ≤ i → z + zeros ((bits n w).drop i) = zeros (bits n w) →
    Ev (fun k => i_riffled_l3 k (upTo n) (w : Int) 0 (z : Int) (n : Int) (i : Int)) (riff (bits n w) 0 (zeros (bits n w)))
  | 0, i, z, h, hz, hs => by
    refine Ev.step (fun k => i_riffled_l3_eq k _ _ _ _ _ _) ?_
    rw [at_end (by omega)]
    have e : (bits n w).drop i = [] := List.drop_eq_nil_of_le (by rw [bits_len]; omega)
    rw [e] at hs
    have hs' : z = zeros (bits n w) := by simpa [zeros] using hs
    have h1 := zo (bits n w)
    rw [bits_len] at h1
    have := i_riffled_l9_ev n w 0 hn hw n 0 0 z [] (by omega) rfl (by rw [List.drop_zero]; omega) (by rw [List.drop_zero]; omega)
    rw [upTo_len, hs'] at *
    simpa using this
  | m + 1, i, z, h, hz, hs => by
    have u := at_up (n := (n : Int)) (i := i) (by omega) (by omega)
    have hd := bits_drop (n := n) (w := w) (i := i) (by omega)
    refine Ev.step (fun k => i_riffled_l3_eq k _ _ _ _ _ _) ?_
    rw [bit_wrap w i (by omega) hw]
    simp only [u.g, u.z, u.w, cond_true]
    rw [hd] at hs
    have hlt : w / 2 ^ i % 2 < 2 := Nat.mod_lt _ (by decide)
    rw [wrap_id (x := 1 - _) (by omega) (by omega), wrap_id (by omega) (by omega)]
    cases hbit : (w / 2 ^ i % 2 == 1) with
    | true =>
      have h1 : w / 2 ^ i % 2 = 1 := by simpa using hbit
      rw [hbit] at hs
      simp only [zeros, List.count_cons] at hs
      simp at hs
      rw [h1]
      have := i_riffled_l3_ev n w hn hw m (i + 1) z (by omega) (by omega) (by simpa [zeros] using hs)
      simpa using this
    | false =>
      have h0 : ¬ w / 2 ^ i % 2 = 1 := by simpa using hbit
      have h1 : w / 2 ^ i % 2 = 0 := by omega
      rw [hbit] at hs
      simp only [zeros, List.count_cons] at hs
      simp at hs
      rw [h1]
      have := i_riffled_l3_ev n w hn hw m (i + 1) (z + 1) (by omega) (by omega) (by simp only [zeros]; omega)
      simpa using this
theorem i_riffled_ev (n w : Nat) (hn : n ≤ 12) (hw : w < 9223372036854775808) : Ev (fun k => i_riffled k (upTo n, (w : Int))) (riff (bits n w) 0 (zeros (bits n w))) := by
  refine Ev.step (fun k => i_riffled_eq k _ _) ?_
  rw [upTo_len]
  exact i_riffled_l3_ev n w hn hw n 0 0 (by omega) (by omega) (by simp)
end Qq
namespace Qq
open Go Go.Vt Pt
set_option linter.unusedVariables false
set_option linter.unusedSimpArgs false
theorem pk_ofC : ∀ (r done : List Int), (done ++ r.map card).Nodup → (∀ x ∈ r, 0 ≤ card x) → pk done r = true
  | [], done, _, _ => rfl
  | x :: r, done, hn, h0 => by
    unfold pk
    have hx : card x ∉ done := fun hm => by
      rw [List.map_cons, List.nodup_append] at hn
      exact hn.2.2 _ hm _ (by simp) rfl
    have hc : done.contains (card x) = false := by simpa using hx
    rw [hc, pk_ofC r (done ++ [card x]) (by simpa using hn) (fun y hy => h0 y (List.mem_cons_of_mem _ hy))]
    simp [h0 x (by simp)]
theorem packetOk_of {p : List Int} (hn : (p.map card).Nodup) (h0 : ∀ x ∈ p, 0 ≤ card x) : packetOk p = true := pk_ofC p [] (by simpa using hn) h0
/-- A packet on the way: its cards, turned or not. -/
structure PkI (q p : List Int) : Prop where
  m : p.map card = q
  b : ∀ x ∈ p, -12 ≤ x ∧ x ≤ 11
theorem upTo_mem {n : Nat} {x : Int} (h : x ∈ upTo n) : 0 ≤ x ∧ x < n := by
  unfold upTo at h
  obtain ⟨i, hi, rfl⟩ := List.mem_map.1 h
  have := List.mem_range.1 hi
  omega
theorem upTo_nodup (n : Nat) : (upTo n).Nodup := by
  unfold upTo
  exact List.Pairwise.map _ (fun a b h e => h (by omega)) List.nodup_range
theorem perm_PkI {n : Nat} (hn : n ≤ 12) {p : List Int} (h : p.Perm (upTo n)) : PkI p p := by
  have hb : ∀ x ∈ p, 0 ≤ x ∧ x ≤ 11 := fun x hx => by have := upTo_mem (h.mem_iff.1 hx); omega
  refine ⟨?_, fun x hx => by have := hb x hx; omega⟩
  conv => rhs; rw [← List.map_id p]
  exact List.map_congr_left fun x hx => by unfold card; rw [if_pos (hb x hx)]; rfl
end Qq
namespace Qq
open Go Go.Vt Pt
set_option linter.unusedVariables false
set_option linter.unusedSimpArgs false
end Qq
namespace Qq
open Go Go.Vt Pt
set_option linter.unusedVariables false
set_option linter.unusedSimpArgs false
theorem Clone_int_ev (xs : List Int) (hm : xs.length ≤ 1048576) : Ev (fun k => slices_Clone_int k xs) xs := by
  refine Ev.step (fun k => slices_Clone_int_eq k xs) (Ev.ite (fun h => ?_) (fun h => ?_))
  · exact Ev.yes (by rw [rowMax_eq]; simp; omega) (Ev.some (by simp))
  · have : xs = [] := by simpa using h
    subst this
    exact Ev.both (Ev.pure _) (Ev.yes (by simp) (Ev.some rfl))
end Qq
namespace Qq
open Go Go.Vt Pt
set_option linter.unusedVariables false
set_option linter.unusedSimpArgs false
set_option linter.unnecessarySimpa false
theorem take_all {α : Type} (l : List α) : l.take ((l.length : Int)).toNat = l := by simp
def turn (x : Int) : Int := if card x < 0 then x else -1 - x
theorem in_turn {x : Int} (h : In x) : In (turn x) := by
  unfold turn
  unfold In at *
  split
  · exact h
  · omega
theorem s_TurnCard_ev (x : Int) (hx : In x) : Ev (fun k => s_TurnCard k x) (turn x) := by
  have h1 := hx.1
  have h2 := hx.2
  refine Ev.step (fun k => s_TurnCard_eq k x) (Ev.bind (s_CardOf_ev x) ?_)
  rw [wrap_id (by omega) (by omega)]
  refine Ev.ite (fun h => Ev.some ?_) (fun h => Ev.some ?_)
  · have : card x < 0 := by simpa using h
    simp [turn, this]
  · have : ¬ card x < 0 := by simpa using h
    simp only [turn, if_neg this]
theorem i_TurnCard_ev (x : Int) (hx : In x) : Ev (fun k => i_TurnCard k x) (turn x) := by
  have h1 := hx.1
  have h2 := hx.2
  refine Ev.step (fun k => i_TurnCard_eq k x) (Ev.bind (i_CardOf_ev x hx) ?_)
  rw [wrap_id (by omega) (by omega)]
  refine Ev.ite (fun h => Ev.some ?_) (fun h => Ev.some ?_)
  · have : card x < 0 := by simpa using h
    simp [turn, this]
  · have : ¬ card x < 0 := by simpa using h
    simp only [turn, if_neg this]
theorem take_back {α : Type} (p : List α) (i : Nat) (h : i < p.length) : (p.take (i + 1)).reverse = p[i] :: (p.take i).reverse := by
  rw [List.take_add_one, List.getElem?_eq_getElem h]; simp
theorem s_l04Back_l3_ev (p : List Int) (hp : p.length ≤ 12) (hi : Ins p) (n : Nat) (hn : n ≤ p.length) (up : Bool) : ∀ (i : Nat) (out : List Int), i ≤ n → out.length + i ≤ 12 →
    Ev (fun k => s_l04Back_l3 k p (n : Int) up ((i : Int) - 1) out) (out ++ (p.take i).reverse.map (fun x => bif up then turn x else x) ++ p.drop n)
  | 0, out, h, ho => by
    refine Ev.step (fun k => s_l04Back_l3_eq k _ _ _ _ _) ?_
    simp only [take_all, Int.toNat_natCast]
    refine Ev.no (by simp) (Ev.yes (by (first | (simp [rowMax_eq]; done) | (simp [rowMax_eq]; omega) | omega)) (Ev.yes (by (first | (simp [rowMax_eq]; done) | (simp [rowMax_eq]; omega) | omega)) (Ev.yes (by (first | (simp [rowMax_eq]; done) | (simp [rowMax_eq]; omega) | omega)) (Ev.yes (by (first | (simp [rowMax_eq]; done) | (simp [rowMax_eq]; omega) | omega)) (Ev.some ?_)))))
    simp
  | i + 1, out, h, ho => by
    have hlt : i < p.length := by omega
    have e0 : ((i + 1 : Nat) : Int) - 1 = (i : Int) := by omega
    have hg : p.getD (i : Int).toNat 0 = p[i] := by simp [List.getD, hlt]
    have hin : In p[i] := hi _ (List.getElem_mem hlt)
    refine Ev.step (fun k => s_l04Back_l3_eq k _ _ _ _ _) ?_
    simp only [e0, hg, wrap_id (x := (i : Int) - 1) (by omega) (by omega)]
    have ih := fun o (ho : o.length + i ≤ 12) => s_l04Back_l3_ev p hp hi n hn up i o (by omega) ho
    rw [take_back p i hlt]
    cases up with
    | true =>
      refine Ev.yes (by simp) (Ev.yes rfl (Ev.yes (by simp) (Ev.yes (by (first | (simp [rowMax_eq]; done) | (simp [rowMax_eq]; omega) | omega)) (Ev.bind (s_TurnCard_ev _ hin) (Ev.yes (by (first | (simp [rowMax_eq]; done) | (simp [rowMax_eq]; omega) | omega)) ?_)))))
      exact (ih _ (by simp; omega)).to (by simp)
    | false =>
      refine Ev.yes (by simp) (Ev.no rfl (Ev.yes (by simp) (Ev.yes (by (first | (simp [rowMax_eq]; done) | (simp [rowMax_eq]; omega) | omega)) (Ev.yes (by (first | (simp [rowMax_eq]; done) | (simp [rowMax_eq]; omega) | omega)) ?_))))
      exact (ih _ (by simp; omega)).to (by simp)
theorem s_l04Back_ev (p : List Int) (hp : p.length ≤ 12) (hi : Ins p) (n : Nat) (hn : n ≤ p.length) (up : Bool) :
    Ev (fun k => s_l04Back k (p, (n : Int), up)) ((p.take n).reverse.map (fun x => bif up then turn x else x) ++ p.drop n) := by
  refine Ev.step (fun k => s_l04Back_eq k _ _ _) ?_
  rw [wrap_id (x := (n : Int) - 1) (by omega) (by omega)]
  exact (s_l04Back_l3_ev p hp hi n hn up n [] (Nat.le_refl _) (by simp; omega)).to (by simp)
def fz : Bool → List Int → List Int → List Int
  | _, [], [] => []
  | f, x :: a, [] => x :: fz (!f) a []
  | f, [], y :: b => y :: fz (!f) [] b
  | true, x :: a, y :: b => x :: fz false a (y :: b)
  | false, x :: a, y :: b => y :: fz true (x :: a) b
termination_by _ a b => a.length + b.length
theorem parity (k : Int) (hk : k = 0 ∨ k = 1) (n : Nat) : (((n + 1 : Nat) : Int).tmod 2 == k) = !(((n : Nat) : Int).tmod 2 == k) := by
  rw [show ((n + 1 : Nat) : Int) = (n : Int) + 1 by omega, Int.tmod_eq_emod_of_nonneg (by omega), Int.tmod_eq_emod_of_nonneg (by omega)]
  by_cases h : (n : Int) % 2 = k
  · have h2 : ¬ ((n : Int) + 1) % 2 = k := by omega
    rw [beq_iff_eq.2 h, beq_eq_false_iff_ne.2 h2]; rfl
  · have h2 : ((n : Int) + 1) % 2 = k := by omega
    rw [beq_iff_eq.2 h2, beq_eq_false_iff_ne.2 h]; rfl
theorem s_l04Faro_l4_ev (k : Int) (hk : k = 0 ∨ k = 1) : ∀ (n : Nat) (a b out : List Int), a.length + b.length = n → out.length + n ≤ 12 →
    Ev (fun f => s_l04Faro_l4 f k a b out) (out ++ fz ((out.length : Int).tmod 2 == k) a b)
  | 0, a, b, out, h, ho => by
    have ea : a = [] := List.length_eq_zero_iff.1 (by omega)
    have eb : b = [] := List.length_eq_zero_iff.1 (by omega)
    subst ea eb
    refine Ev.step (fun f => s_l04Faro_l4_eq f _ _ _ _) (Ev.no (by simp) (Ev.no (by simp) (Ev.some ?_)))
    unfold fz; simp
  | n + 1, a, b, out, h, ho => by
    have ih := fun a b out h1 h2 => s_l04Faro_l4_ev k hk n a b out h1 h2
    refine Ev.step (fun f => s_l04Faro_l4_eq f _ _ _ _) ?_
    simp only [take_all]
    cases a with
    | nil =>
      cases b with
      | nil => simp at h
      | cons y b =>
        simp at h
        refine Ev.no (by simp) (Ev.yes (by (first | (simp [rowMax_eq]; done) | (simp [rowMax_eq]; omega) | omega)) (Ev.no (by (first | (simp [rowMax_eq]; done) | (simp [rowMax_eq]; omega) | omega)) (Ev.no (by simp) ?_)))
        (repeat (first | refine Ev.yes (by (first | (simp [rowMax_eq]; done) | (simp [rowMax_eq]; omega) | omega)) ?_ | refine Ev.no (by (first | (simp [rowMax_eq]; done) | (simp [rowMax_eq]; omega) | omega)) ?_))
        refine (ih [] b (out ++ [y]) (by simp; omega) (by simp; omega)).to ?_
        rw [List.length_append, List.length_singleton, parity k hk]
        conv => rhs; unfold fz
        simp
    | cons x a =>
      refine Ev.yes (by (first | (simp [rowMax_eq]; done) | (simp [rowMax_eq]; omega) | omega)) ?_
      cases b with
      | nil =>
        simp at h
        refine Ev.yes (by simp) ?_
        (repeat (first | refine Ev.yes (by (first | (simp [rowMax_eq]; done) | (simp [rowMax_eq]; omega) | omega)) ?_ | refine Ev.no (by (first | (simp [rowMax_eq]; done) | (simp [rowMax_eq]; omega) | omega)) ?_))
        refine (ih a [] (out ++ [x]) (by simp; omega) (by simp; omega)).to ?_
        rw [List.length_append, List.length_singleton, parity k hk]
        conv => rhs; unfold fz
        simp
      | cons y b =>
        simp at h
        refine Ev.no (by (first | (simp [rowMax_eq]; done) | (simp [rowMax_eq]; omega) | omega)) (Ev.yes (by (first | (simp [rowMax_eq]; done) | (simp [rowMax_eq]; omega) | omega)) ?_)
        refine Ev.ite (fun hf => ?_) (fun hf => ?_)
        · (repeat (first | refine Ev.yes (by (first | (simp [rowMax_eq]; done) | (simp [rowMax_eq]; omega) | omega)) ?_ | refine Ev.no (by (first | (simp [rowMax_eq]; done) | (simp [rowMax_eq]; omega) | omega)) ?_))
          refine (ih a (y :: b) (out ++ [x]) (by simp; omega) (by simp; omega)).to ?_
          rw [List.length_append, List.length_singleton, parity k hk, hf]
          conv => rhs; unfold fz
          simp
        · (repeat (first | refine Ev.yes (by (first | (simp [rowMax_eq]; done) | (simp [rowMax_eq]; omega) | omega)) ?_ | refine Ev.no (by (first | (simp [rowMax_eq]; done) | (simp [rowMax_eq]; omega) | omega)) ?_))
          refine (ih (x :: a) b (out ++ [y]) (by simp; omega) (by simp; omega)).to ?_
          rw [List.length_append, List.length_singleton, parity k hk, hf]
          conv => rhs; unfold fz
          simp
theorem i_faro_l4_ev : ∀ (n : Nat) (f : Bool) (a b out : List Int), a.length + b.length = n → out.length + n ≤ 12 → Ev (fun k => i_faro_l4 k a b f out) (out ++ fz f a b)
  | 0, f, a, b, out, h, ho => by
    have ea : a = [] := List.length_eq_zero_iff.1 (by omega)
    have eb : b = [] := List.length_eq_zero_iff.1 (by omega)
    subst ea eb
    refine Ev.step (fun k => i_faro_l4_eq k _ _ _ _) (Ev.no (by simp) (Ev.no (by simp) (Ev.some ?_)))
    unfold fz; simp
  | n + 1, f, a, b, out, h, ho => by
    have ih := fun f a b out h1 h2 => i_faro_l4_ev n f a b out h1 h2
    refine Ev.step (fun k => i_faro_l4_eq k _ _ _ _) ?_
    simp only [take_all]
    cases a with
    | nil =>
      cases b with
      | nil => simp at h
      | cons y b =>
        simp at h
        refine Ev.no (by simp) (Ev.yes (by (first | (simp [rowMax_eq]; done) | (simp [rowMax_eq]; omega) | omega)) ?_)
        cases f with
        | true =>
          refine Ev.yes rfl (Ev.no (by simp) ?_)
          (repeat (first | refine Ev.yes (by (first | (simp [rowMax_eq]; done) | (simp [rowMax_eq]; omega) | omega)) ?_ | refine Ev.no (by (first | (simp [rowMax_eq]; done) | (simp [rowMax_eq]; omega) | omega)) ?_))
          refine (ih false [] b (out ++ [y]) (by simp; omega) (by simp; omega)).to ?_
          conv => rhs; unfold fz
          simp
        | false =>
          refine Ev.no rfl (Ev.no (by (first | (simp [rowMax_eq]; done) | (simp [rowMax_eq]; omega) | omega)) ?_)
          (repeat (first | refine Ev.yes (by (first | (simp [rowMax_eq]; done) | (simp [rowMax_eq]; omega) | omega)) ?_ | refine Ev.no (by (first | (simp [rowMax_eq]; done) | (simp [rowMax_eq]; omega) | omega)) ?_))
          refine (ih true [] b (out ++ [y]) (by simp; omega) (by simp; omega)).to ?_
          conv => rhs; unfold fz
          simp
    | cons x a =>
      refine Ev.yes (by (first | (simp [rowMax_eq]; done) | (simp [rowMax_eq]; omega) | omega)) ?_
      cases f with
      | true =>
        refine Ev.yes rfl ?_
        (repeat (first | refine Ev.yes (by (first | (simp [rowMax_eq]; done) | (simp [rowMax_eq]; omega) | omega)) ?_ | refine Ev.no (by (first | (simp [rowMax_eq]; done) | (simp [rowMax_eq]; omega) | omega)) ?_))
        refine (ih false a b (out ++ [x]) (by simp at h ⊢; omega) (by simp; omega)).to ?_
        cases b with
        | nil => conv => rhs; unfold fz
                 simp
        | cons y b => conv => rhs; unfold fz
                      simp
      | false =>
        refine Ev.no rfl ?_
        cases b with
        | nil =>
          simp at h
          refine Ev.yes (by simp) ?_
          (repeat (first | refine Ev.yes (by (first | (simp [rowMax_eq]; done) | (simp [rowMax_eq]; omega) | omega)) ?_ | refine Ev.no (by (first | (simp [rowMax_eq]; done) | (simp [rowMax_eq]; omega) | omega)) ?_))
          refine (ih true a [] (out ++ [x]) (by simp; omega) (by simp; omega)).to ?_
          conv => rhs; unfold fz
          simp
        | cons y b =>
          simp at h
          refine Ev.no (by (first | (simp [rowMax_eq]; done) | (simp [rowMax_eq]; omega) | omega)) ?_
          (repeat (first | refine Ev.yes (by (first | (simp [rowMax_eq]; done) | (simp [rowMax_eq]; omega) | omega)) ?_ | refine Ev.no (by (first | (simp [rowMax_eq]; done) | (simp [rowMax_eq]; omega) | omega)) ?_))
          refine (ih true (x :: a) b (out ++ [y]) (by simp; omega) (by simp; omega)).to ?_
          conv => rhs; unfold fz
          simp
def faroL (p : List Int) (k : Int) : List Int := fz (k == 0) (p.take (p.length / 2)) (p.drop (p.length / 2))
theorem half (n : Nat) (h : n ≤ 4194304) : IntKind.i64.wrap ((n : Int).tdiv 2) = ((n / 2 : Nat) : Int) := by
  have : (n : Int).tdiv 2 = ((n / 2 : Nat) : Int) := by rw [Int.tdiv_eq_ediv_of_nonneg (by omega)]; omega
  rw [this, wrap_id (by omega) (by omega)]
theorem s_l04Faro_ev (p : List Int) (hp : p.length ≤ 12) (k : Int) (hk : k = 0 ∨ k = 1) : Ev (fun f => s_l04Faro f (p, k)) (faroL p k) := by
  refine Ev.step (fun f => s_l04Faro_eq f _ _) ?_
  simp only [half p.length (by omega), take_all, Int.toNat_natCast, List.take_length, List.drop_zero]
  (repeat (first | refine Ev.yes (by (first | (simp [rowMax_eq]; done) | (simp [rowMax_eq]; omega) | omega)) ?_ | refine Ev.no (by (first | (simp [rowMax_eq]; done) | (simp [rowMax_eq]; omega) | omega)) ?_))
  refine (s_l04Faro_l4_ev k hk p.length _ _ [] (by simp; omega) (by simp; omega)).to ?_
  rw [List.nil_append]
  unfold faroL
  congr 1
  rcases hk with rfl | rfl <;> rfl
theorem i_faro_ev (p : List Int) (hp : p.length ≤ 12) (k : Int) : Ev (fun f => i_faro f (p, k)) (faroL p k) := by
  refine Ev.step (fun f => i_faro_eq f _ _) ?_
  simp only [half p.length (by omega), take_all, Int.toNat_natCast, List.take_length, List.drop_zero]
  (repeat (first | refine Ev.yes (by (first | (simp [rowMax_eq]; done) | (simp [rowMax_eq]; omega) | omega)) ?_ | refine Ev.no (by (first | (simp [rowMax_eq]; done) | (simp [rowMax_eq]; omega) | omega)) ?_))
  refine (i_faro_l4_ev p.length (k == 0) _ _ [] (by simp; omega) (by simp; omega)).to ?_
  rw [List.nil_append]
  rfl
def mz (k : Int) : Nat → List Int → List Int → List Int
  | _, [], out => out
  | i, x :: r, out => if i = 0 ∨ (i : Int) % 2 = k then mz k (i + 1) r (out ++ [x]) else mz k (i + 1) r (x :: out)
theorem s_l04Monge_l3_ev (p : List Int) (hp : p.length ≤ 12) (k : Int) (hk : k = 0 ∨ k = 1) : ∀ (r : List Int) (i : Nat) (out : List Int), p.drop i = r → out.length = i → Ev (fun f => s_l04Monge_l3 f k p (p.length : Int) (i : Int) out) (mz k i r out)
  | [], i, out, h, ho => by
    have a := at_nil h
    refine Ev.step (fun f => s_l04Monge_l3_eq f _ _ _ _ _) ?_
    simp only [a.g, cond_false]
    exact Ev.pure _
  | x :: r, i, out, h, ho => by
    have a := at_cons h (by rw [maxLen_eq]; omega)
    have hlt := a.lt
    have ih := fun out ho => s_l04Monge_l3_ev p hp k hk r (i + 1) out a.next ho
    refine Ev.step (fun f => s_l04Monge_l3_eq f _ _ _ _ _) ?_
    simp only [a.g, a.z, a.get, a.w, cond_true]
    rw [Int.tmod_eq_emod_of_nonneg (by omega)]
    unfold mz
    refine Ev.ite (fun c => ?_) (fun c => Ev.ite (fun c2 => ?_) (fun c2 => ?_))
    · have : i = 0 := by have : (i : Int) = 0 := by simpa using c
                         omega
      rw [if_pos (.inl this)]
      exact Ev.yes (by (first | (simp [rowMax_eq]; done) | (simp [rowMax_eq]; omega) | omega)) (ih _ (by simp; omega))
    · have : (i : Int) % 2 = k := by simpa using c2
      rw [if_pos (.inr this)]
      exact Ev.yes (by (first | (simp [rowMax_eq]; done) | (simp [rowMax_eq]; omega) | omega)) (ih _ (by simp; omega))
    · have h1 : ¬ i = 0 := by have : ¬ (i : Int) = 0 := by simpa using c
                              omega
      have h2 : ¬ (i : Int) % 2 = k := by simpa using c2
      rw [if_neg (by rintro (h | h); exact h1 h; exact h2 h)]
      exact Ev.yes (by (first | (simp [rowMax_eq]; done) | (simp [rowMax_eq]; omega) | omega)) (ih _ (by simp; omega))
theorem i_monge_l3_ev (p : List Int) (hp : p.length ≤ 12) (k : Int) (hk : k = 0 ∨ k = 1) : ∀ (r : List Int) (i : Nat) (out : List Int), p.drop i = r → out.length = i → Ev (fun f => i_monge_l3 f k p (p.length : Int) (i : Int) out) (mz k i r out)
  | [], i, out, h, ho => by
    have a := at_nil h
    refine Ev.step (fun f => i_monge_l3_eq f _ _ _ _ _) ?_
    simp only [a.g, cond_false]
    exact Ev.pure _
  | x :: r, i, out, h, ho => by
    have a := at_cons h (by rw [maxLen_eq]; omega)
    have hlt := a.lt
    have ih := fun out ho => i_monge_l3_ev p hp k hk r (i + 1) out a.next ho
    refine Ev.step (fun f => i_monge_l3_eq f _ _ _ _ _) ?_
    simp only [a.g, a.z, a.get, a.w, cond_true]
    rw [wrap_id (x := (i : Int) + k) (by omega) (by omega), Int.tmod_eq_emod_of_nonneg (by omega)]
    unfold mz
    refine Ev.ite (fun c => Ev.ite (fun c2 => ?_) (fun c2 => ?_)) (fun c => ?_)
    · have h1 : (i : Int) > 0 := by simpa using c
      have h2 : ((i : Int) + k) % 2 = 1 := by simpa using c2
      rw [if_neg (by rintro (h | h) <;> omega)]
      exact Ev.yes (by (first | (simp [rowMax_eq]; done) | (simp [rowMax_eq]; omega) | omega)) (ih _ (by simp; omega))
    · have h1 : (i : Int) > 0 := by simpa using c
      have h2 : ¬ ((i : Int) + k) % 2 = 1 := by simpa using c2
      rw [if_pos (.inr (by omega))]
      exact Ev.yes (by (first | (simp [rowMax_eq]; done) | (simp [rowMax_eq]; omega) | omega)) (ih _ (by simp; omega))
    · have h1 : ¬ (i : Int) > 0 := by simpa using c
      rw [if_pos (.inl (by omega))]
      exact Ev.yes (by (first | (simp [rowMax_eq]; done) | (simp [rowMax_eq]; omega) | omega)) (ih _ (by simp; omega))
def kz : Nat → List Int → List Int → List Int
  | 0, p, out => p ++ out
  | n + 1, p, out => if 1 < p.length then kz n ((p.take (p.length - 1)).drop 1) (p.getD 0 0 :: p.getD (p.length - 1) 0 :: out) else p ++ out
theorem s_l04Milk_l2_ev : ∀ (n : Nat) (p out : List Int), p.length ≤ n → p.length + out.length ≤ 12 → Ev (fun f => s_l04Milk_l2 f p out) (kz n p out)
  | n, p, out, h, ho => by
    refine Ev.step (fun f => s_l04Milk_l2_eq f _ _) ?_
    by_cases c : 1 < p.length
    · match n, h with
      | 0, h => exact absurd c (by omega)
      | n + 1, h =>
      have e : ((p.length : Int) - 1) = ((p.length - 1 : Nat) : Int) := by omega
      unfold kz
      rw [if_pos c]
      simp only [e, wrap_id (x := ((p.length - 1 : Nat) : Int)) (by omega) (by omega), Int.toNat_natCast]
      refine Ev.yes (by simp; omega) ?_
      (repeat (first | refine Ev.yes (by (first | (simp [rowMax_eq]; done) | (simp [rowMax_eq]; omega) | omega)) ?_ | refine Ev.no (by (first | (simp [rowMax_eq]; done) | (simp [rowMax_eq]; omega) | omega)) ?_))
      exact s_l04Milk_l2_ev n _ _ (by simp; omega) (by simp; omega)
    · have : kz n p out = p ++ out := by cases n <;> simp [kz, c]
      rw [this]
      refine Ev.no (by simp; omega) (Ev.yes (by (first | (simp [rowMax_eq]; done) | (simp [rowMax_eq]; omega) | omega)) ?_)
      rw [List.nil_append]
      refine Ev.yes (by rw [rowMax_eq]; exact decide_eq_true (by omega)) (Ev.some rfl)
theorem i_milk_l2_ev : ∀ (n : Nat) (p out : List Int), p.length ≤ n → p.length + out.length ≤ 12 → Ev (fun f => i_milk_l2 f p out) (kz n p out)
  | n, p, out, h, ho => by
    refine Ev.step (fun f => i_milk_l2_eq f _ _) ?_
    by_cases c : 1 < p.length
    · match n, h with
      | 0, h => exact absurd c (by omega)
      | n + 1, h =>
      have e : ((p.length : Int) - 1) = ((p.length - 1 : Nat) : Int) := by omega
      unfold kz
      rw [if_pos c]
      simp only [e, wrap_id (x := ((p.length - 1 : Nat) : Int)) (by omega) (by omega), Int.toNat_natCast]
      refine Ev.yes (by simp; omega) ?_
      (repeat (first | refine Ev.yes (by (first | (simp [rowMax_eq]; done) | (simp [rowMax_eq]; omega) | omega)) ?_ | refine Ev.no (by (first | (simp [rowMax_eq]; done) | (simp [rowMax_eq]; omega) | omega)) ?_))
      exact i_milk_l2_ev n _ _ (by simp; omega) (by simp; omega)
    · have : kz n p out = p ++ out := by cases n <;> simp [kz, c]
      rw [this]
      refine Ev.no (by simp; omega) (Ev.bind (Clone_int_ev p (by omega)) (Ev.yes (by rw [rowMax_eq]; exact decide_eq_true (by omega)) (Ev.some rfl)))
def dz : Nat → Bool → List Int → List Int → List Int
  | 0, _, q, out => q.getD 0 0 :: out
  | n + 1, f, q, out => if 1 < q.length then (bif f then dz n false (q.drop 1) (q.getD 0 0 :: out) else dz n true (q.drop 1 ++ [q.getD 0 0]) out) else q.getD 0 0 :: out
theorem odd_step (s : Nat) : (((s + 1 : Nat) : Int).tmod 2 == 1) = !(((s : Nat) : Int).tmod 2 == 1) := parity 1 (.inr rfl) s
theorem s_l04Duck_l4_ev : ∀ (n : Nat) (s : Nat) (q out : List Int), 1 ≤ q.length → 2 * q.length + (bif ((s : Int).tmod 2 == 1) then 0 else 1) ≤ n → q.length + out.length ≤ 12 → s + n ≤ 1000 →
    Ev (fun f => s_l04Duck_l4 f (s : Int) q out) (dz n ((s : Int).tmod 2 == 1) q out)
  | 0, s, q, out, h1, h, ho, hs => by omega
  | n + 1, s, q, out, h1, h, ho, hs => by
    have ih := fun q out h1 h ho => s_l04Duck_l4_ev n (s + 1) q out h1 h ho (by omega)
    rw [odd_step] at ih
    refine Ev.step (fun f => s_l04Duck_l4_eq f _ _ _) ?_
    have ew : IntKind.i64.wrap ((s : Int) + 1) = ((s + 1 : Nat) : Int) := by rw [wrap_id (by omega) (by omega)]; omega
    simp only [ew, take_all]
    unfold dz
    by_cases c : 1 < q.length
    · rw [if_pos c]
      refine Ev.yes (by simp; omega) ?_
      cases hf : ((s : Int).tmod 2 == 1) with
      | true =>
        rw [hf] at h ih
        refine Ev.yes (by (first | (simp [rowMax_eq]; done) | (simp [rowMax_eq]; omega) | omega)) (Ev.yes (by (first | (simp [rowMax_eq]; done) | (simp [rowMax_eq]; omega) | omega)) (Ev.yes (by (first | (simp [rowMax_eq]; done) | (simp [rowMax_eq]; omega) | omega)) (Ev.yes (by (first | (simp [rowMax_eq]; done) | (simp [rowMax_eq]; omega) | omega)) (Ev.yes rfl ?_))))
        refine Ev.yes (by (first | (simp [rowMax_eq]; done) | (simp [rowMax_eq]; omega) | omega)) ?_
        exact ih (q.drop 1) (q.getD 0 0 :: out) (by simp; omega) (by simp at h ⊢; omega) (by simp; omega)
      | false =>
        rw [hf] at h ih
        refine Ev.yes (by (first | (simp [rowMax_eq]; done) | (simp [rowMax_eq]; omega) | omega)) (Ev.yes (by (first | (simp [rowMax_eq]; done) | (simp [rowMax_eq]; omega) | omega)) (Ev.yes (by (first | (simp [rowMax_eq]; done) | (simp [rowMax_eq]; omega) | omega)) (Ev.yes (by (first | (simp [rowMax_eq]; done) | (simp [rowMax_eq]; omega) | omega)) (Ev.no rfl ?_))))
        refine Ev.yes (by (first | (simp [rowMax_eq]; done) | (simp [rowMax_eq]; omega) | omega)) ?_
        exact ih (q.drop 1 ++ [q.getD 0 0]) out (by simp) (by simp at h ⊢; omega) (by simp; omega)
    · rw [if_neg c]
      refine Ev.no (by simp; omega) ?_
      (repeat (first | refine Ev.yes (by (first | (simp [rowMax_eq]; done) | (simp [rowMax_eq]; omega) | omega)) ?_ | refine Ev.no (by (first | (simp [rowMax_eq]; done) | (simp [rowMax_eq]; omega) | omega)) ?_))
      exact Ev.pure _
theorem i_dealt_l4_ev : ∀ (n : Nat) (f : Bool) (q out : List Int), 1 ≤ q.length → 2 * q.length + (bif f then 0 else 1) ≤ n → q.length + out.length ≤ 12 →
    ∃ y, Ev (fun k => i_dealt_l4 k f out q) y ∧ y.reverse = dz n f q out.reverse ∧ y.length = q.length + out.length
  | 0, f, q, out, h1, h, ho => by omega
  | n + 1, f, q, out, h1, h, ho => by
    have ih := fun f q out h1 h ho => i_dealt_l4_ev n f q out h1 h ho
    unfold dz
    by_cases c : 1 < q.length
    · rw [if_pos c]
      cases f with
      | true =>
        obtain ⟨y, e1, e2, e3⟩ := ih false (q.drop 1) (out ++ [q.getD 0 0]) (by simp; omega) (by simp at h ⊢; omega) (by simp; omega)
        refine ⟨y, Ev.step (fun k => i_dealt_l4_eq k _ _ _) ?_, ?_, by simp at e3; omega⟩
        · simp only [take_all]
          refine Ev.yes (by simp; omega) (Ev.yes rfl ?_)
          (repeat (first | refine Ev.yes (by (first | (simp [rowMax_eq]; done) | (simp [rowMax_eq]; omega) | omega)) ?_ | refine Ev.no (by (first | (simp [rowMax_eq]; done) | (simp [rowMax_eq]; omega) | omega)) ?_))
          exact e1
        · rw [e2]; simp
      | false =>
        obtain ⟨y, e1, e2, e3⟩ := ih true (q.drop 1 ++ [q.getD 0 0]) out (by simp) (by simp at h ⊢; omega) (by simp; omega)
        refine ⟨y, Ev.step (fun k => i_dealt_l4_eq k _ _ _) ?_, ?_, by simp at e3; omega⟩
        · have ed : (q ++ [q.getD 0 0]).drop 1 = q.drop 1 ++ [q.getD 0 0] := List.drop_append_of_le_length h1
          simp only [take_all, ed]
          refine Ev.yes (by simp; omega) (Ev.no rfl ?_)
          (repeat (first | refine Ev.yes (by (first | (simp [rowMax_eq]; done) | (simp [rowMax_eq]; omega) | omega)) ?_ | refine Ev.no (by (first | (simp [rowMax_eq]; done) | (simp [rowMax_eq]; omega) | omega)) ?_))
          exact e1
        · rw [e2]; rfl
    · rw [if_neg c]
      match q, h1, c with
      | [x], _, _ =>
        refine ⟨out ++ [x], Ev.step (fun k => i_dealt_l4_eq k _ _ _) (Ev.no (by simp) (Ev.yes (by (first | (simp [rowMax_eq]; done) | (simp [rowMax_eq]; omega) | omega)) (Ev.some rfl))), by simp, by simp; omega⟩
      | _ :: _ :: _, _, c => simp at c
end Qq
namespace Qq
open Go Go.Vt Pt
set_option linter.unusedVariables false
set_option linter.unusedSimpArgs false
def lessL : List Int → List Int → Bool
  | [], b => decide (0 < b.length)
  | _ :: _, [] => false
  | x :: a, y :: b => if x = y then lessL a b else decide (x < y)
def cmpL : List Int → List Int → Int
  | [], b => if 0 < b.length then -1 else 0
  | _ :: _, [] => 1
  | x :: a, y :: b => if x = y then cmpL a b else if x < y then -1 else 1
theorem cmpL_less : ∀ a b, decide (cmpL a b ≥ 0) = !lessL a b
  | [], [] => rfl
  | [], _ :: _ => by simp [cmpL, lessL]
  | _ :: _, [] => rfl
  | x :: a, y :: b => by
    unfold cmpL lessL
    by_cases h : x = y
    · rw [if_pos h, if_pos h, cmpL_less a b]
    · rw [if_neg h, if_neg h]
      by_cases h2 : x < y
      · simp [h2]
      · simp [h2]
theorem drop_len {α : Type} {xs r : List α} {i : Nat} (h : xs.drop i = r) : xs.length - i = r.length := by rw [← h, List.length_drop]
theorem s_l05Less_l2_ev (xs ys : List Int) (hm : xs.length ≤ maxLen) (hy : ys.length ≤ maxLen) : ∀ (r s : List Int) (i : Nat), i ≤ xs.length → xs.drop i = r → ys.drop i = s → Ev (fun k => s_l05Less_l2 k xs ys xs (xs.length : Int) (i : Int)) (lessL r s)
  | [], s, i, hi, h, h2 => by
    have a := at_nil h
    have := a.ge
    have hl := drop_len h2
    refine Ev.step (fun k => s_l05Less_l2_eq k _ _ _ _ _) ?_
    simp only [a.g, cond_false]
    refine Ev.some ?_
    unfold lessL
    rw [Bool.eq_iff_iff]; simp; omega
  | x :: r, [], i, hi, h, h2 => by
    have a := at_cons h hm
    have b := at_nil h2
    refine Ev.step (fun k => s_l05Less_l2_eq k _ _ _ _ _) ?_
    simp only [a.g, a.z, cond_true]
    refine Ev.yes (by have := b.ge; simp; omega) (Ev.some rfl)
  | x :: r, y :: s, i, hi, h, h2 => by
    have a := at_cons h hm
    have b := at_cons h2 hy
    have hlt := a.lt
    have ih := s_l05Less_l2_ev xs ys hm hy r s (i + 1) (by omega) a.next b.next
    refine Ev.step (fun k => s_l05Less_l2_eq k _ _ _ _ _) ?_
    simp only [a.g, a.z, a.get, a.w, cond_true]
    refine Ev.no (by have := b.lt; simp; omega) ?_
    simp only [b.g, b.get, cond_true]
    unfold lessL
    refine Ev.ite (fun c => Ev.some ?_) (fun c => ih.to ?_)
    · have : ¬ x = y := by simpa using c
      rw [if_neg this]
    · have : x = y := by simpa using c
      rw [if_pos this]
theorem s_l05Less_ev (xs ys : List Int) (hm : xs.length ≤ maxLen) (hy : ys.length ≤ maxLen) : Ev (fun k => s_l05Less k (xs, ys)) (lessL xs ys) :=
  Ev.step (fun k => s_l05Less_eq k xs ys) (s_l05Less_l2_ev xs ys hm hy xs ys 0 (by omega) rfl rfl)
abbrev Packs : Type := List (List Int)
/-- Numbers and lengths are such as a machine bears. -/
def FitS (l : Packs) : Prop := l.length ≤ maxLen ∧ ∀ p ∈ l, p.length ≤ maxLen ∧ Ins p
theorem FitS.of {l : Packs} (h : Fits (.slice (.slice (.int .i64))) l) : FitS l :=
  ⟨h.1, fun p hp => ⟨(h.2 p hp).1, fun x hx => In.of_fits ((h.2 p hp).2 x hx)⟩⟩
end Qq
namespace Qq
open Go Go.Vt Pt
set_option linter.unusedVariables false
set_option linter.unusedSimpArgs false
theorem getD_in {p : List Int} (h : Ins p) (i : Nat) : In (p.getD i 0) := by
  rw [List.getD]
  cases hi : p[i]? with
  | none => exact ⟨by decide, by decide⟩
  | some x => exact h x (List.mem_of_getElem? hi)
end Qq
namespace Qq
open Go Go.Vt Pt
set_option linter.unusedVariables false
set_option linter.unusedSimpArgs false
set_option linter.unnecessarySimpa false
theorem Concat_l11_ev (ls : List (List Int)) (hl : ls.length ≤ maxLen) : ∀ (r : List (List Int)) (i : Nat) (out : List Int), ls.drop i = r → out.length + r.flatten.length ≤ 1048576 → Ev (fun k => slices_Concat_int_l11 k ls (ls.length : Int) (i : Int) out) (out ++ r.flatten)
  | [], i, out, h, ho => by
    have a := at_nil h
    refine Ev.step (fun k => slices_Concat_int_l11_eq k _ _ _ _) ?_
    simp only [a.g, cond_false]
    exact Ev.some (by simp)
  | x :: r, i, out, h, ho => by
    have a := at_cons h hl
    have hlt := a.lt
    simp only [List.flatten_cons, List.length_append] at ho
    refine Ev.step (fun k => slices_Concat_int_l11_eq k _ _ _ _) ?_
    simp only [a.g, a.z, a.get, a.w, cond_true]
    refine Ev.yes (by rw [rowMax_eq]; exact decide_eq_true (by omega)) ?_
    exact (Concat_l11_ev ls hl r (i + 1) (out ++ x) a.next (by simp; simp at ho; omega)).to (by simp)
theorem Concat_l3_ev (ls : List (List Int)) (hl : ls.length ≤ maxLen) (ht : ls.flatten.length ≤ 1048576) : ∀ (r : List (List Int)) (i : Nat) (n : Nat), ls.drop i = r → n + r.flatten.length ≤ 1048576 → Ev (fun k => slices_Concat_int_l3 k ls (n : Int) ls (ls.length : Int) (i : Int)) ls.flatten
  | [], i, n, h, hn => by
    have a := at_nil h
    refine Ev.step (fun k => slices_Concat_int_l3_eq k _ _ _ _ _) ?_
    simp only [a.g, cond_false]
    have hg : Ev (fun k => slices_Grow_int k ([], (n : Int))) [] := Ev.congr (fun k => slices_Grow_int_eq k [] (n : Int)) (by
      show Ev (fun _ => growF (n : Int)) []
      unfold growF
      simp at hn
      exact Ev.yes (by simp; omega) (Ev.pure _))
    exact Ev.bind hg ((Concat_l11_ev ls hl ls 0 [] rfl (by simpa using ht)).to (by simp))
  | x :: r, i, n, h, hn => by
    have a := at_cons h hl
    have hlt := a.lt
    simp only [List.flatten_cons, List.length_append] at hn
    refine Ev.step (fun k => slices_Concat_int_l3_eq k _ _ _ _ _) ?_
    have e : (n : Int) + (x.length : Int) = ((n + x.length : Nat) : Int) := by omega
    simp only [a.g, a.z, a.get, a.w, cond_true, e, wrap_id (x := ((n + x.length : Nat) : Int)) (by omega) (by omega)]
    refine Ev.no (by simp; omega) ?_
    exact Concat_l3_ev ls hl ht r (i + 1) (n + x.length) a.next (by omega)
theorem Concat_ev (ls : List (List Int)) (hl : ls.length ≤ maxLen) (ht : ls.flatten.length ≤ 1048576) : Ev (fun k => slices_Concat_int k ls) ls.flatten :=
  Ev.step (fun k => slices_Concat_int_eq k _) (Concat_l3_ev ls hl ht ls 0 0 rfl (by omega))
theorem reversed_ev (p : List Int) (hp : p.length ≤ 1048576) : Ev (fun k => i_reversed k p) p.reverse := by
  have hr : Ev (fun k => slices_Reverse_int k p) ((), p.reverse) := Ev.congr (fun k => slices_Reverse_int_eq k p) (by
    unfold reverseF
    exact Ev.yes (by simp; omega) (Ev.pure _))
  exact Ev.step (fun k => i_reversed_eq k _) (Ev.bind (Clone_int_ev p hp) (Ev.bind hr (Ev.pure _)))
theorem i_moved_l10_ev (K : Nat) : ∀ (m : Nat) (pre r : List Int), m ≤ r.length → pre.length + m = K → pre.length + r.length ≤ 12 → Ins r → Ev (fun k => i_moved_l10 k (K : Int) (pre.length : Int) (pre ++ r)) (pre ++ (r.take m).map turn ++ r.drop m)
  | 0, pre, r, hm, hK, h12, hi => by
    refine Ev.step (fun k => i_moved_l10_eq k _ _ _) (Ev.no (by simp; omega) (Ev.some (by simp)))
  | m + 1, pre, [], hm, hK, h12, hi => by simp at hm
  | m + 1, pre, x :: r, hm, hK, h12, hi => by
    simp at hm h12
    have hx : In x := hi x (by simp)
    have hg : (pre ++ x :: r).getD (pre.length : Int).toNat 0 = x := by simp [List.getD]
    have hs : (pre ++ x :: r).set (pre.length : Int).toNat (turn x) = pre ++ turn x :: r := by simp
    have ew : IntKind.i64.wrap ((pre.length : Int) + 1) = ((pre.length + 1 : Nat) : Int) := by rw [wrap_id (by omega) (by omega)]; omega
    refine Ev.step (fun k => i_moved_l10_eq k _ _ _) ?_
    simp only [hg, hs, ew]
    refine Ev.yes (by simp; omega) (Ev.yes (by simp) (Ev.yes (by (first | (simp [rowMax_eq]; done) | (simp [rowMax_eq]; omega) | omega)) (Ev.yes (by (first | (simp [rowMax_eq]; done) | (simp [rowMax_eq]; omega) | omega)) (Ev.bind (i_TurnCard_ev x hx) ?_))))
    simp only [hs]
    refine Ev.yes (by simp) (Ev.yes (by (first | (simp [rowMax_eq]; done) | (simp [rowMax_eq]; omega) | omega)) (Ev.yes (by (first | (simp [rowMax_eq]; done) | (simp [rowMax_eq]; omega) | omega)) ?_))
    have := i_moved_l10_ev K m (pre ++ [turn x]) r hm (by simp; omega) (by simp; omega) (fun y hy => hi y (by simp [hy]))
    simp only [List.length_append, List.length_singleton, List.append_assoc, List.singleton_append] at this
    exact this.to (by simp)
def doMove (p : List Int) (m : Int × Int) : List Int :=
  if m.1 = 1 then p.drop m.2.toNat ++ p.take m.2.toNat
  else if m.1 = 2 then (p.take m.2.toNat).reverse ++ p.drop m.2.toNat
  else if m.1 = 3 then (p.take m.2.toNat).reverse.map turn ++ p.drop m.2.toNat
  else if m.1 = 4 then faroL p m.2
  else if m.1 = 5 then mz m.2 0 p []
  else if m.1 = 6 then kz p.length p []
  else if m.1 = 7 then dz (2 * p.length + 1) (m.2 == 1) p []
  else if m.1 = 8 then p.set m.2.toNat (turn (p.getD m.2.toNat 0))
  else p.take m.2.toNat ++ p.drop (m.2.toNat + 1) ++ [p.getD m.2.toNat 0]
structure MoveFit (n : Nat) (m : Int × Int) : Prop where
  n1 : 1 ≤ n
  n12 : n ≤ 12
  k0 : 0 ≤ m.2
  kn : m.2 ≤ n ∨ m.2 ≤ 1
  c : m.1 = 1 ∨ m.1 = 2 ∨ m.1 = 3 → m.2 ≤ n
  f : m.1 = 4 ∨ m.1 = 5 ∨ m.1 = 7 → m.2 = 0 ∨ m.2 = 1
  t : m.1 ≠ 1 → m.1 ≠ 2 → m.1 ≠ 3 → m.1 ≠ 4 → m.1 ≠ 5 → m.1 ≠ 6 → m.1 ≠ 7 → m.2 < n
theorem s_l04Do_ev (p : List Int) (m : Int × Int) (h : MoveFit p.length m) (hi : Ins p) : Ev (fun k => s_l04Do k (p, m)) (doMove p m) := by
  have hp := h.n12
  have hp1 := h.n1
  obtain ⟨a, b⟩ := m
  have h0 := h.k0
  obtain ⟨j, rfl⟩ : ∃ j : Nat, b = (j : Int) := ⟨b.toNat, by have := h0; simp at this; omega⟩
  have hc := h.c
  have hf := h.f
  have ht := h.t
  dsimp only at hc hf ht
  clear h h0
  refine Ev.step (fun k => s_l04Do_eq k p (a, (j : Int))) ?_
  unfold doMove
  simp only [take_all, Int.toNat_natCast, List.take_length, List.drop_zero, List.nil_append]
  refine Ev.ite (fun c => ?_) (fun c1 => Ev.ite (fun c => ?_) (fun c2 => Ev.ite (fun c => ?_) (fun c3 => Ev.ite (fun c => ?_) (fun c4 => Ev.ite (fun c => ?_) (fun c5 => Ev.ite (fun c => ?_) (fun c6 => Ev.ite (fun c => ?_) (fun c7 => Ev.ite (fun c => ?_) (fun c8 => ?_))))))))
  all_goals simp only [beq_iff_eq, beq_eq_false_iff_ne, ne_eq] at *
  · have := hc (by omega)
    rw [if_pos c]
    (repeat (first | refine Ev.yes (by (first | (simp [rowMax_eq]; done) | (simp [rowMax_eq]; omega) | omega)) ?_ | refine Ev.no (by (first | (simp [rowMax_eq]; done) | (simp [rowMax_eq]; omega) | omega)) ?_))
    exact Ev.pure _
  · have := hc (by omega)
    rw [if_neg c1, if_pos c]
    exact Ev.bind (s_l04Back_ev p hp hi j (by omega) false) (Ev.some (by simp))
  · have := hc (by omega)
    rw [if_neg c1, if_neg c2, if_pos c]
    exact Ev.bind (s_l04Back_ev p hp hi j (by omega) true) (Ev.some (by simp))
  · rw [if_neg c1, if_neg c2, if_neg c3, if_pos c]
    exact Ev.bind (s_l04Faro_ev p hp _ (hf (by omega))) (Ev.pure _)
  · rw [if_neg c1, if_neg c2, if_neg c3, if_neg c4, if_pos c]
    exact Ev.bind (Ev.step (fun k => s_l04Monge_eq k _ _) (s_l04Monge_l3_ev p hp _ (hf (by omega)) p 0 [] rfl rfl)) (Ev.pure _)
  · rw [if_neg c1, if_neg c2, if_neg c3, if_neg c4, if_neg c5, if_pos c]
    exact Ev.bind (Ev.step (fun k => s_l04Milk_eq k _) (s_l04Milk_l2_ev p.length p [] (Nat.le_refl _) (by simp; omega))) (Ev.pure _)
  · rw [if_neg c1, if_neg c2, if_neg c3, if_neg c4, if_neg c5, if_neg c6, if_pos c]
    have hj := hf (by omega)
    have e : ((j : Int).tmod 2 == 1) = ((j : Int) == 1) := by rcases hj with hj | hj <;> rw [hj] <;> rfl
    have hd := s_l04Duck_l4_ev (2 * p.length + 1) j p [] hp1 (by cases ((j : Int).tmod 2 == 1) <;> simp) (by simp; omega) (by omega)
    rw [e] at hd
    refine Ev.bind (Ev.step (fun k => s_l04Duck_eq k _ _) (Ev.yes (by (first | (simp [rowMax_eq]; done) | (simp [rowMax_eq]; omega) | omega)) ?_)) (Ev.pure _)
    rw [List.nil_append]
    exact hd
  · rw [if_neg c1, if_neg c2, if_neg c3, if_neg c4, if_neg c5, if_neg c6, if_neg c7, if_pos c]
    have := ht c1 c2 c3 c4 c5 c6 c7
    have hin : In (p.getD j 0) := getD_in hi _
    (repeat (first | refine Ev.yes (by (first | (simp [rowMax_eq]; done) | (simp [rowMax_eq]; omega) | omega)) ?_ | refine Ev.no (by (first | (simp [rowMax_eq]; done) | (simp [rowMax_eq]; omega) | omega)) ?_))
    refine Ev.bind (s_TurnCard_ev _ hin) ?_
    (repeat (first | refine Ev.yes (by (first | (simp [rowMax_eq]; done) | (simp [rowMax_eq]; omega) | omega)) ?_ | refine Ev.no (by (first | (simp [rowMax_eq]; done) | (simp [rowMax_eq]; omega) | omega)) ?_))
    exact Ev.pure _
  · rw [if_neg c1, if_neg c2, if_neg c3, if_neg c4, if_neg c5, if_neg c6, if_neg c7, if_neg c8]
    have := ht c1 c2 c3 c4 c5 c6 c7
    have e : IntKind.i64.wrap ((j : Int) + 1) = ((j + 1 : Nat) : Int) := by rw [wrap_id (by omega) (by omega)]; omega
    simp only [e, Int.toNat_natCast]
    (repeat (first | refine Ev.yes (by (first | (simp [rowMax_eq]; done) | (simp [rowMax_eq]; omega) | omega)) ?_ | refine Ev.no (by (first | (simp [rowMax_eq]; done) | (simp [rowMax_eq]; omega) | omega)) ?_))
    exact Ev.pure _
theorem i_moved_ev (p : List Int) (m : Int × Int) (h : MoveFit p.length m) (hi : Ins p) : Ev (fun k => i_moved k (p, m)) (doMove p m) := by
  have hp := h.n12
  have hp1 := h.n1
  obtain ⟨a, b⟩ := m
  have h0 := h.k0
  obtain ⟨j, rfl⟩ : ∃ j : Nat, b = (j : Int) := ⟨b.toNat, by have := h0; simp at this; omega⟩
  have hc := h.c
  have hf := h.f
  have ht := h.t
  dsimp only at hc hf ht
  clear h h0
  refine Ev.step (fun k => i_moved_eq k p (a, (j : Int))) ?_
  unfold doMove
  simp only [take_all, Int.toNat_natCast, List.take_length, List.drop_zero, List.nil_append]
  have hlen2 : ∀ (x y : List Int), x.length + y.length ≤ 1048576 → Ev (fun k => slices_Concat_int k [x, y]) (x ++ y) := fun x y hxy => (Concat_ev [x, y] (by rw [maxLen_eq]; simp) (by simpa using hxy)).to (by simp)
  refine Ev.ite (fun c => ?_) (fun c1 => Ev.ite (fun c => ?_) (fun c2 => Ev.ite (fun c => ?_) (fun c3 => Ev.ite (fun c => ?_) (fun c4 => Ev.ite (fun c => ?_) (fun c5 => Ev.ite (fun c => ?_) (fun c6 => Ev.ite (fun c => ?_) (fun c7 => Ev.ite (fun c => ?_) (fun c8 => ?_))))))))
  all_goals simp only [beq_iff_eq, beq_eq_false_iff_ne, ne_eq] at *
  · have := hc (by omega)
    rw [if_pos c]
    (repeat (first | refine Ev.yes (by (first | (simp [rowMax_eq]; done) | (simp [rowMax_eq]; omega) | omega)) ?_ | refine Ev.no (by (first | (simp [rowMax_eq]; done) | (simp [rowMax_eq]; omega) | omega)) ?_))
    exact Ev.bind (hlen2 _ _ (by simp; omega)) (Ev.pure _)
  · have := hc (by omega)
    rw [if_neg c1, if_pos c]
    (repeat (first | refine Ev.yes (by (first | (simp [rowMax_eq]; done) | (simp [rowMax_eq]; omega) | omega)) ?_ | refine Ev.no (by (first | (simp [rowMax_eq]; done) | (simp [rowMax_eq]; omega) | omega)) ?_))
    refine Ev.bind (reversed_ev _ (by simp; omega)) ?_
    (repeat (first | refine Ev.yes (by (first | (simp [rowMax_eq]; done) | (simp [rowMax_eq]; omega) | omega)) ?_ | refine Ev.no (by (first | (simp [rowMax_eq]; done) | (simp [rowMax_eq]; omega) | omega)) ?_))
    exact Ev.bind (hlen2 _ _ (by simp; omega)) (Ev.pure _)
  · have := hc (by omega)
    rw [if_neg c1, if_neg c2, if_pos c]
    (repeat (first | refine Ev.yes (by (first | (simp [rowMax_eq]; done) | (simp [rowMax_eq]; omega) | omega)) ?_ | refine Ev.no (by (first | (simp [rowMax_eq]; done) | (simp [rowMax_eq]; omega) | omega)) ?_))
    refine Ev.bind (reversed_ev _ (by simp; omega)) ?_
    (repeat (first | refine Ev.yes (by (first | (simp [rowMax_eq]; done) | (simp [rowMax_eq]; omega) | omega)) ?_ | refine Ev.no (by (first | (simp [rowMax_eq]; done) | (simp [rowMax_eq]; omega) | omega)) ?_))
    refine Ev.bind (hlen2 _ _ (by simp; omega)) ?_
    have hr : (p.take j).reverse.length = j := by simp; omega
    have := i_moved_l10_ev j j [] ((p.take j).reverse ++ p.drop j) (by simp; omega) (by simp) (by simp; omega) (fun x hx => by
      rcases List.mem_append.1 hx with h | h
      · exact hi x (List.mem_of_mem_take (List.mem_reverse.1 h))
      · exact hi x (List.mem_of_mem_drop h))
    refine this.to ?_
    rw [List.nil_append, List.take_append_of_le_length (by omega), List.drop_append_of_le_length (by omega), List.take_of_length_le (by omega), List.drop_eq_nil_of_le (by omega), List.nil_append]
  · rw [if_neg c1, if_neg c2, if_neg c3, if_pos c]
    exact Ev.bind (i_faro_ev p hp _) (Ev.pure _)
  · rw [if_neg c1, if_neg c2, if_neg c3, if_neg c4, if_pos c]
    exact Ev.bind (Ev.step (fun k => i_monge_eq k _ _) (i_monge_l3_ev p hp _ (hf (by omega)) p 0 [] rfl rfl)) (Ev.pure _)
  · rw [if_neg c1, if_neg c2, if_neg c3, if_neg c4, if_neg c5, if_pos c]
    exact Ev.bind (Ev.step (fun k => i_milk_eq k _) (i_milk_l2_ev p.length p [] (Nat.le_refl _) (by simp; omega))) (Ev.pure _)
  · rw [if_neg c1, if_neg c2, if_neg c3, if_neg c4, if_neg c5, if_neg c6, if_pos c]
    obtain ⟨y, e1, e2, e3⟩ := i_dealt_l4_ev (2 * p.length + 1) ((j : Int) == 1) p [] hp1 (by cases ((j : Int) == 1) <;> simp) (by simp; omega)
    refine Ev.bind (Ev.step (fun k => i_dealt_eq k _ _) (Ev.bind (Clone_int_ev p (by omega)) e1)) (Ev.bind (reversed_ev y (by simp at e3; omega)) (Ev.some ?_))
    rw [e2]; rfl
  · rw [if_neg c1, if_neg c2, if_neg c3, if_neg c4, if_neg c5, if_neg c6, if_neg c7, if_pos c]
    have := ht c1 c2 c3 c4 c5 c6 c7
    have hin : In (p.getD j 0) := getD_in hi _
    refine Ev.bind (Clone_int_ev p (by omega)) ?_
    (repeat (first | refine Ev.yes (by (first | (simp [rowMax_eq]; done) | (simp [rowMax_eq]; omega) | omega)) ?_ | refine Ev.no (by (first | (simp [rowMax_eq]; done) | (simp [rowMax_eq]; omega) | omega)) ?_))
    refine Ev.bind (i_TurnCard_ev _ hin) ?_
    (repeat (first | refine Ev.yes (by (first | (simp [rowMax_eq]; done) | (simp [rowMax_eq]; omega) | omega)) ?_ | refine Ev.no (by (first | (simp [rowMax_eq]; done) | (simp [rowMax_eq]; omega) | omega)) ?_))
    exact Ev.pure _
  · rw [if_neg c1, if_neg c2, if_neg c3, if_neg c4, if_neg c5, if_neg c6, if_neg c7, if_neg c8]
    have := ht c1 c2 c3 c4 c5 c6 c7
    have hjl : j < p.length := by omega
    have e : IntKind.i64.wrap ((j : Int) + 1) = ((j + 1 : Nat) : Int) := by rw [wrap_id (by omega) (by omega)]; omega
    simp only [e, Int.toNat_natCast]
    (repeat (first | refine Ev.yes (by (first | (simp [rowMax_eq]; done) | (simp [rowMax_eq]; omega) | omega)) ?_ | refine Ev.no (by (first | (simp [rowMax_eq]; done) | (simp [rowMax_eq]; omega) | omega)) ?_))
    refine Ev.bind ((Concat_ev [p.take j, p.drop (j + 1), (p.take (j + 1)).drop j] (by rw [maxLen_eq]; simp) (by simp; omega)).to ?_) (Ev.pure _)
    have : (p.take (j + 1)).drop j = [p.getD j 0] := by
      rw [List.take_add_one, List.getElem?_eq_getElem hjl, List.drop_append_of_le_length (by simp; omega), List.drop_eq_nil_of_le (by simp; omega)]
      simp [List.getD, hjl]
    rw [this]
    simp
end Qq
namespace Qq
open Go Go.Vt Pt
set_option linter.unusedVariables false
set_option linter.unusedSimpArgs false
theorem SamePacket_l4_ev (xs ys : List Int) (hx : xs.length ≤ maxLen) (hy : ys.length ≤ maxLen) : ∀ (r s : List Int) (i : Nat), xs.drop i = r → ys.drop i = s → s.length = r.length → Ev (fun k => s_SamePacket_l4 k ys xs (xs.length : Int) (i : Int)) (r == s)
  | [], [], i, h1, h2, hl => by
    have a := at_nil h1
    refine Ev.step (fun k => s_SamePacket_l4_eq k ys xs _ i) ?_
    simp only [a.g, cond_false]
    exact Ev.pure _
  | x :: r, y :: s, i, h1, h2, hl => by
    have a := at_cons h1 hx
    have b := at_cons h2 hy
    refine Ev.step (fun k => s_SamePacket_l4_eq k ys xs _ i) ?_
    simp only [a.g, a.z, b.g, a.get, b.get, a.w, cond_true]
    have ih := SamePacket_l4_ev xs ys hx hy r s (i + 1) a.next b.next (by simpa using hl)
    refine Ev.ite (fun h => Ev.some ?_) (fun h => ih.to ?_)
    · have : ¬ x = y := by simpa using h
      simp [this]
    · have : x = y := by simpa using h
      simp [this]
  | [], _ :: _, _, _, _, hl => by simp at hl
  | _ :: _, [], _, _, _, hl => by simp at hl
theorem SamePacket_ev (xs ys : List Int) (hx : xs.length ≤ maxLen) (hy : ys.length ≤ maxLen) : Ev (fun k => s_SamePacket k (xs, ys)) (xs == ys) := by
  refine Ev.step (fun k => s_SamePacket_eq k xs ys) (Ev.ite (fun h => Ev.some ?_) (fun h => SamePacket_l4_ev xs ys hx hy xs ys 0 rfl rfl ?_))
  · have h' : ¬ xs.length = ys.length := by simp at h; omega
    have : ¬ xs = ys := fun e => h' (by rw [e])
    simp [this]
  · simp at h; omega
theorem Equal_int_l4_ev (xs ys : List Int) (hx : xs.length ≤ maxLen) (hy : ys.length ≤ maxLen) : ∀ (r s : List Int) (i : Nat), xs.drop i = r → ys.drop i = s → s.length = r.length → Ev (fun k => slices_Equal_int_l4 k xs ys (xs.length : Int) (i : Int)) (r == s)
  | [], [], i, h1, h2, hl => by
    have a := at_nil h1
    refine Ev.step (fun k => slices_Equal_int_l4_eq k xs ys _ i) ?_
    simp only [a.g, cond_false]
    exact Ev.pure _
  | x :: r, y :: s, i, h1, h2, hl => by
    have a := at_cons h1 hx
    have b := at_cons h2 hy
    refine Ev.step (fun k => slices_Equal_int_l4_eq k xs ys _ i) ?_
    simp only [a.g, a.z, b.g, a.get, b.get, a.w, cond_true]
    have ih := Equal_int_l4_ev xs ys hx hy r s (i + 1) a.next b.next (by simpa using hl)
    refine Ev.ite (fun h => Ev.some ?_) (fun h => ih.to ?_)
    · have : ¬ x = y := by simpa using h
      simp [this]
    · have : x = y := by simpa using h
      simp [this]
  | [], _ :: _, _, _, _, hl => by simp at hl
  | _ :: _, [], _, _, _, hl => by simp at hl
theorem Equal_int_ev (xs ys : List Int) (hx : xs.length ≤ maxLen) (hy : ys.length ≤ maxLen) : Ev (fun k => slices_Equal_int k (xs, ys)) (xs == ys) := by
  refine Ev.step (fun k => slices_Equal_int_eq k xs ys) (Ev.ite (fun h => Ev.some ?_) (fun h => Equal_int_l4_ev xs ys hx hy xs ys 0 rfl rfl ?_))
  · have h' : ¬ xs.length = ys.length := by simp at h; omega
    have : ¬ xs = ys := fun e => h' (by rw [e])
    simp [this]
  · simp at h; omega
end Qq
namespace Qq
open Go Go.Vt Pt
set_option linter.unusedVariables false
set_option linter.unusedSimpArgs false
set_option linter.unnecessarySimpa false
theorem cmpL_I : ∀ a b, cmpL a b = cmpI a b
  | [], _ => rfl
  | _ :: _, [] => rfl
  | x :: a, y :: b => by unfold cmpL cmpI; rw [cmpL_I a b]
theorem lessL_I (a b : List Int) : lessL a b = decide (cmpI a b < 0) := by
  have := cmpL_less a b
  rw [cmpL_I] at this
  by_cases h : cmpI a b < 0
  · rw [decide_eq_false (by omega)] at this; rw [decide_eq_true h]; simpa using this.symm
  · rw [decide_eq_true (by omega)] at this; rw [decide_eq_false h]; simpa using this.symm
theorem leI_not {a b : List Int} : leI a b = true ↔ ¬ cmpI b a < 0 := by unfold leI; simp
theorem lt_of_le_ne {a b : List Int} (h : leI a b = true) (hn : a ≠ b) : cmpI a b < 0 := by
  by_cases k : cmpI a b < 0
  · exact k
  · exact (hn (cmpI_anti a b k (leI_not.1 h))).elim
theorem le_of_lt {a b : List Int} (h : cmpI a b < 0) : leI a b = true := leI_not.2 fun k => cmpI_irrefl a (cmpI_trans a b a h k)
/-- Strictly ascending. -/
def SS (l : Packs) : Prop := l.Pairwise fun a b => cmpI a b < 0
theorem ss_unique : ∀ {l m : Packs}, SS l → SS m → (∀ x, x ∈ l ↔ x ∈ m) → l = m
  | [], [], _, _, _ => rfl
  | [], y :: m, _, _, h => by have := (h y).2 (by simp); simp at this
  | x :: l, [], _, _, h => by have := (h x).1 (by simp); simp at this
  | x :: l, y :: m, hl, hm, h => by
    obtain ⟨hl1, hl2⟩ := List.pairwise_cons.1 hl
    obtain ⟨hm1, hm2⟩ := List.pairwise_cons.1 hm
    have e : x = y := by
      rcases List.mem_cons.1 ((h x).1 (by simp)) with e | hx
      · exact e
      · rcases List.mem_cons.1 ((h y).2 (by simp)) with e | hy
        · exact e.symm
        · exact (cmpI_irrefl x (cmpI_trans x y x (hl1 y hy) (hm1 x hx))).elim
    subst e
    have : l = m := ss_unique hl2 hm2 fun z => by
      constructor
      · intro hz
        rcases List.mem_cons.1 ((h z).1 (List.mem_cons_of_mem _ hz)) with e | hz2
        · subst e; exact (cmpI_irrefl _ (hl1 _ hz)).elim
        · exact hz2
      · intro hz
        rcases List.mem_cons.1 ((h z).2 (List.mem_cons_of_mem _ hz)) with e | hz2
        · subst e; exact (cmpI_irrefl _ (hm1 _ hz)).elim
        · exact hz2
    rw [this]
theorem dedupFrom_ok : ∀ (r : Packs) (p : List Int), (p :: r).Pairwise (fun a b => leI a b = true) → SS (p :: dedupFrom p r) ∧ ∀ z, z ∈ p :: dedupFrom p r ↔ z ∈ p :: r
  | [], p, _ => ⟨List.pairwise_singleton _ _, fun z => Iff.rfl⟩
  | y :: r, p, h => by
    obtain ⟨h1, h2⟩ := List.pairwise_cons.1 h
    obtain ⟨i1, i2⟩ := dedupFrom_ok r y h2
    unfold dedupFrom
    by_cases e : y = p
    · subst e
      rw [if_pos rfl]
      refine ⟨i1, fun z => ?_⟩
      rw [i2]; simp
    · rw [if_neg e]
      have hlt : cmpI p y < 0 := lt_of_le_ne (h1 y (by simp)) (Ne.symm e)
      refine ⟨List.pairwise_cons.2 ⟨fun z hz => ?_, i1⟩, fun z => ?_⟩
      · rcases List.mem_cons.1 hz with rfl | hz
        · exact hlt
        · exact cmpI_trans _ _ _ hlt ((List.pairwise_cons.1 i1).1 z hz)
      · rw [List.mem_cons, i2, ← List.mem_cons]
theorem dedup_ok {l : Packs} (h : l.Pairwise (fun a b => leI a b = true)) : SS (dedupL l) ∧ ∀ z, z ∈ dedupL l ↔ z ∈ l := by
  cases l with
  | nil => exact ⟨List.Pairwise.nil, fun _ => Iff.rfl⟩
  | cons x r => exact dedupFrom_ok r x h
/-- The packets in order, each once. -/
def setL (l : Packs) : Packs := dedupL (sortL l)
theorem setL_ss (l : Packs) : SS (setL l) := (dedup_ok (sortL_sorted l)).1
theorem setL_mem (l : Packs) (z : List Int) : z ∈ setL l ↔ z ∈ l := ((dedup_ok (sortL_sorted l)).2 z).trans (sortL_perm l).mem_iff
theorem setL_of {l m : Packs} (h : SS m) (hm : ∀ z, z ∈ m ↔ z ∈ l) : m = setL l := ss_unique h (setL_ss l) fun z => (hm z).trans (setL_mem l z).symm
theorem dedupFrom_len : ∀ (r : Packs) (p : List Int), (dedupFrom p r).length ≤ r.length
  | [], _ => Nat.le_refl _
  | y :: r, p => by unfold dedupFrom; have := dedupFrom_len r y; split <;> simp <;> omega
theorem setL_len (l : Packs) : (setL l).length ≤ l.length := by
  have h1 : (sortL l).length = l.length := (sortL_perm l).length_eq
  unfold setL
  rw [← h1]
  cases sortL l with
  | nil => exact Nat.le_refl _
  | cons x r => have := dedupFrom_len r x; simp [dedupL]; omega
theorem i_SortPackets_l3_ev (l : Packs) (hl : l.length ≤ 16777216) (h12 : ∀ p ∈ l, p.length ≤ 1048576) : ∀ (r : Packs) (i : Nat), l.drop i = r → Ev (fun k => i_SortPackets_l3 k l (l.length : Int) (i : Int) (l.take i)) (setL l)
  | [], i, h => by
    have a := at_nil h
    refine Ev.step (fun k => i_SortPackets_l3_eq k _ _ _ _) ?_
    simp only [a.g, cond_false]
    rw [List.take_of_length_le a.ge]
    have small : ∀ m : Packs, m.length ≤ 16777216 → (∀ p ∈ m, p.length ≤ 1048576) → smallL m = true := fun m hm hp => by
      unfold smallL
      rw [Bool.and_eq_true]
      exact ⟨decide_eq_true (by omega), List.all_eq_true.2 fun p hpm => decide_eq_true (by have := hp p hpm; omega)⟩
    have e1 : Ev (fun k => slices_SortFunc_int_int k (l, false)) ((), sortL l) := Ev.congr (fun k => slices_SortFunc_int_int_eq k l false) (by
      show Ev (fun _ => sortF l) _
      unfold sortF
      exact Ev.yes (small l hl h12) (Ev.pure _))
    have e2 : Ev (fun k => slices_CompactFunc_int_int k (sortL l, false)) (setL l) := Ev.congr (fun k => slices_CompactFunc_int_int_eq k (sortL l) false) (by
      show Ev (fun _ => compactF (sortL l)) _
      unfold compactF
      exact Ev.yes (small _ (by rw [(sortL_perm l).length_eq]; exact hl) (fun p hp => h12 p ((sortL_perm l).mem_iff.1 hp))) (Ev.pure _))
    exact Ev.bind e1 (Ev.bind e2 (Ev.pure _))
  | p :: r, i, h => by
    have a := at_cons h (by rw [maxLen_eq]; omega)
    have hlt := a.lt
    have hp := h12 p a.mem
    have ih := i_SortPackets_l3_ev l hl h12 r (i + 1) a.next
    have et : l.take (i + 1) = l.take i ++ [p] := by
      rw [List.take_add_one, List.getElem?_eq_getElem hlt]
      have := a.gt []
      simp [List.getD, hlt] at this
      rw [this]; rfl
    rw [et] at ih
    refine Ev.step (fun k => i_SortPackets_l3_eq k _ _ _ _) ?_
    simp only [a.g, a.z, a.get, a.w, cond_true]
    exact Ev.bind (Clone_int_ev p hp) (Ev.yes (by rw [rowMax_eq]; exact decide_eq_true (by simp; omega)) ih)
theorem i_SortPackets_ev (l : Packs) (hl : l.length ≤ 16777216) (h12 : ∀ p ∈ l, p.length ≤ 1048576) : Ev (fun k => i_SortPackets k l) (setL l) :=
  Ev.step (fun k => i_SortPackets_eq k l) (i_SortPackets_l3_ev l hl h12 l 0 rfl)
def pushU (out : Packs) (x : List Int) : Packs := if out.length = 0 then [x] else if out.getD (out.length - 1) [] = x then out else out ++ [x]
theorem pushU_len (out : Packs) (x : List Int) : (pushU out x).length ≤ out.length + 1 := by
  unfold pushU
  split
  · simp
  · split <;> simp
theorem pushU_ok {out : Packs} {x : List Int} (h : SS out) (hx : ∀ o ∈ out, leI o x = true) : SS (pushU out x) ∧ ∀ z, z ∈ pushU out x ↔ z ∈ out ∨ z = x := by
  unfold pushU
  split
  · rename_i h0
    have : out = [] := List.length_eq_zero_iff.1 h0
    subst this
    exact ⟨List.pairwise_singleton _ _, fun z => by simp⟩
  · rename_i h0
    obtain ⟨init, l, rfl⟩ : ∃ init l, out = init ++ [l] := by
      rcases List.eq_nil_or_concat out with h | ⟨i, l, h⟩
      · subst h; simp at h0
      · exact ⟨i, l, by rw [h]; simp⟩
    have el : (init ++ [l]).getD ((init ++ [l]).length - 1) [] = l := by simp [List.getD]
    rw [el]
    split
    · rename_i e
      subst e
      exact ⟨h, fun z => ⟨.inl, fun hz => hz.elim id fun e => by simp [e]⟩⟩
    · rename_i e
      have hlt : cmpI l x < 0 := lt_of_le_ne (hx l (by simp)) e
      refine ⟨?_, fun z => by simp [or_assoc]⟩
      refine List.pairwise_append.2 ⟨h, List.pairwise_singleton _ _, fun o ho y hy => ?_⟩
      have : y = x := by simpa using hy
      subst this
      rcases List.mem_append.1 ho with ho | ho
      · exact cmpI_trans _ _ _ ((List.pairwise_append.1 h).2.2 o ho l (by simp)) hlt
      · have : o = l := by simpa using ho
        subst this; exact hlt
def mergeU : Packs → Packs → Packs → Packs
  | [], [], out => out
  | x :: a, [], out => mergeU a [] (pushU out x)
  | [], y :: b, out => mergeU [] b (pushU out y)
  | x :: a, y :: b, out => if lessL y x then mergeU (x :: a) b (pushU out y) else mergeU a (y :: b) (pushU out x)
termination_by a b => a.length + b.length
theorem mergeU_ok : ∀ (n : Nat) (a b out : Packs), a.length + b.length = n → a.Pairwise (fun x y => leI x y = true) → b.Pairwise (fun x y => leI x y = true) → SS out → (∀ o ∈ out, ∀ z, z ∈ a ∨ z ∈ b → leI o z = true) →
    SS (mergeU a b out) ∧ ∀ z, z ∈ mergeU a b out ↔ z ∈ out ∨ z ∈ a ∨ z ∈ b
  | n, a, b, out, hn, ha, hb, ho, hz => by
    match a, b, n, hn, ha, hb with
    | [], [], _, _, _, _ => unfold mergeU; exact ⟨ho, fun z => by simp⟩
    | x :: a, [], n + 1, hn, ha, hb =>
      obtain ⟨a1, a2⟩ := List.pairwise_cons.1 ha
      obtain ⟨p1, p2⟩ := pushU_ok ho (fun o h => hz o h x (by simp))
      unfold mergeU
      obtain ⟨q1, q2⟩ := mergeU_ok n a [] (pushU out x) (by simp at hn ⊢; omega) a2 hb p1 (fun o h z hz' => by
        rcases (p2 o).1 h with h | rfl
        · exact hz o h z (by rcases hz' with h | h; exact .inl (by simp [h]); exact .inr h)
        · rcases hz' with h | h
          · exact a1 z h
          · cases h)
      exact ⟨q1, fun z => by rw [q2, p2]; simp [or_assoc]⟩
    | [], y :: b, n + 1, hn, ha, hb =>
      obtain ⟨b1, b2⟩ := List.pairwise_cons.1 hb
      obtain ⟨p1, p2⟩ := pushU_ok ho (fun o h => hz o h y (by simp))
      unfold mergeU
      obtain ⟨q1, q2⟩ := mergeU_ok n [] b (pushU out y) (by simp at hn ⊢; omega) ha b2 p1 (fun o h z hz' => by
        rcases (p2 o).1 h with h | rfl
        · exact hz o h z (by rcases hz' with h | h; exact .inl h; exact .inr (by simp [h]))
        · rcases hz' with h | h
          · cases h
          · exact b1 z h)
      exact ⟨q1, fun z => by rw [q2, p2]; simp [or_assoc]⟩
    | x :: a, y :: b, n + 1, hn, ha, hb =>
      obtain ⟨a1, a2⟩ := List.pairwise_cons.1 ha
      obtain ⟨b1, b2⟩ := List.pairwise_cons.1 hb
      unfold mergeU
      split
      · rename_i c
        rw [lessL_I] at c
        have hyx : leI y x = true := le_of_lt (of_decide_eq_true c)
        obtain ⟨p1, p2⟩ := pushU_ok ho (fun o h => hz o h y (by simp))
        obtain ⟨q1, q2⟩ := mergeU_ok n (x :: a) b (pushU out y) (by simp at hn ⊢; omega) ha b2 p1 (fun o h z hz' => by
          rcases (p2 o).1 h with h | rfl
          · exact hz o h z (by rcases hz' with h | h; exact .inl h; exact .inr (by simp [h]))
          · rcases hz' with h | h
            · rcases List.mem_cons.1 h with rfl | h
              · exact hyx
              · exact leI_trans _ _ _ hyx (a1 z h)
            · exact b1 z h)
        refine ⟨q1, fun z => ?_⟩
        rw [q2, p2]
        simp only [List.mem_cons]
        constructor
        · rintro ((h | h) | (h | h) | h) <;> simp [h]
        · rintro (h | (h | h) | h | h) <;> simp [h]
      · rename_i c
        rw [lessL_I] at c
        have hxy : leI x y = true := leI_not.2 (by simpa using c)
        obtain ⟨p1, p2⟩ := pushU_ok ho (fun o h => hz o h x (by simp))
        obtain ⟨q1, q2⟩ := mergeU_ok n a (y :: b) (pushU out x) (by simp at hn ⊢; omega) a2 hb p1 (fun o h z hz' => by
          rcases (p2 o).1 h with h | rfl
          · exact hz o h z (by rcases hz' with h | h; exact .inl (by simp [h]); exact .inr h)
          · rcases hz' with h | h
            · exact a1 z h
            · rcases List.mem_cons.1 h with rfl | h
              · exact hxy
              · exact leI_trans _ _ _ hxy (b1 z h))
        refine ⟨q1, fun z => ?_⟩
        rw [q2, p2]
        simp only [List.mem_cons]
        constructor
        · rintro ((h | h) | h | h | h) <;> simp [h]
        · rintro (h | (h | h) | h | h) <;> simp [h]
theorem ss_le {l : Packs} (h : SS l) : l.Pairwise (fun x y => leI x y = true) := h.imp fun h => le_of_lt h
theorem mergeU_set {a b : Packs} (ha : SS a) (hb : SS b) : mergeU a b [] = setL (a ++ b) := by
  obtain ⟨h1, h2⟩ := mergeU_ok _ a b [] rfl (ss_le ha) (ss_le hb) List.Pairwise.nil (fun o h => by cases h)
  exact setL_of h1 fun z => by rw [h2]; simp
theorem set_last (out : Packs) : out.set (out.length - 1) (out.getD (out.length - 1) []) = out := by
  apply List.ext_getElem
  · simp
  · intro i h1 h2
    rw [List.getElem_set]
    split
    · rename_i e
      subst e
      simp [List.getD, h2]
    · rfl
theorem push_ev {C : Nat → Packs → Option Packs} {z : Packs} (out : Packs) (x : List Int) (hx : x.length ≤ 1048576) (ho : out.length ≤ 4194304) (h12 : ∀ p ∈ out, p.length ≤ 1048576) (h : Ev (fun k => C k (pushU out x)) z) :
    Ev (fun k => bif ((out.length : Int) == (0 : Int)) then
        (bif decide (([] : List Int).length + x.length ≤ rowMax) then
          (bif decide (out.length + ([(([] : List Int) ++ x)]).length ≤ rowMax) then C k (out ++ ([(([] : List Int) ++ x)])) else none) else none)
      else (bif decide (0 ≤ (IntKind.i64.wrap ((out.length : Int) - (1 : Int)))) then
        (bif decide ((IntKind.i64.wrap ((out.length : Int) - (1 : Int))) < (out.length : Int)) then
          (bif decide ((IntKind.i64.wrap ((out.length : Int) - (1 : Int))).toNat < out.length) then
            ((s_SamePacket k ((out.getD (IntKind.i64.wrap ((out.length : Int) - (1 : Int))).toNat []), x)).bind fun y =>
              bif (!y) then
                (bif decide (([] : List Int).length + x.length ≤ rowMax) then
                  (bif decide ((out.set (IntKind.i64.wrap ((out.length : Int) - (1 : Int))).toNat (out.getD (IntKind.i64.wrap ((out.length : Int) - (1 : Int))).toNat [])).length + ([(([] : List Int) ++ x)]).length ≤ rowMax) then
                    C k ((out.set (IntKind.i64.wrap ((out.length : Int) - (1 : Int))).toNat (out.getD (IntKind.i64.wrap ((out.length : Int) - (1 : Int))).toNat [])) ++ ([(([] : List Int) ++ x)])) else none) else none)
              else C k (out.set (IntKind.i64.wrap ((out.length : Int) - (1 : Int))).toNat (out.getD (IntKind.i64.wrap ((out.length : Int) - (1 : Int))).toNat []))) else none) else none) else none)) z := by
  unfold pushU at h
  refine Ev.ite (fun c => ?_) (fun c => ?_)
  · have h0 : out.length = 0 := by have : (out.length : Int) = 0 := by simpa using c
                                   omega
    rw [if_pos h0] at h
    have e : out = [] := List.length_eq_zero_iff.1 h0
    subst e
    exact Ev.yes (by rw [rowMax_eq]; exact decide_eq_true (by simp; omega)) (Ev.yes (by rw [rowMax_eq]; simp) h)
  · have h0 : ¬ out.length = 0 := by have : ¬ (out.length : Int) = 0 := by simpa using c
                                     omega
    rw [if_neg h0] at h
    have e : ((out.length : Int) - 1) = ((out.length - 1 : Nat) : Int) := by omega
    have hl : (out.getD (out.length - 1) []).length ≤ 1048576 := by
      have : out.length - 1 < out.length := by omega
      rw [List.getD, List.getElem?_eq_getElem this]
      exact h12 _ (List.getElem_mem this)
    simp only [e, wrap_id (x := ((out.length - 1 : Nat) : Int)) (by omega) (by omega), Int.toNat_natCast, set_last]
    refine Ev.yes (by simp) (Ev.yes (by simp; omega) (Ev.yes (by simp; omega) (Ev.bind (SamePacket_ev _ x (by rw [maxLen_eq]; omega) (by rw [maxLen_eq]; omega)) (Ev.ite (fun c2 => ?_) (fun c2 => ?_)))))
    · have : ¬ out.getD (out.length - 1) [] = x := by simpa using c2
      rw [if_neg this] at h
      exact Ev.yes (by rw [rowMax_eq]; exact decide_eq_true (by simp; omega)) (Ev.yes (by rw [rowMax_eq]; exact decide_eq_true (by simp; omega)) h)
    · have : out.getD (out.length - 1) [] = x := by simpa using c2
      rw [if_pos this] at h
      exact h
theorem pushU_small {out : Packs} {x : List Int} (hx : x.length ≤ 1048576) (h12 : ∀ p ∈ out, p.length ≤ 1048576) : ∀ p ∈ pushU out x, p.length ≤ 1048576 := fun p hp => by
  unfold pushU at hp
  split at hp
  · have : p = x := by simpa using hp
    subst this; exact hx
  · split at hp
    · exact h12 p hp
    · rcases List.mem_append.1 hp with h | h
      · exact h12 p h
      · have : p = x := by simpa using h
        subst this; exact hx
theorem take_all2 {α : Type} (l : List α) : l.take ((l.length : Int)).toNat = l := by simp
theorem s_l05Merge_l2_ev : ∀ (n : Nat) (a b out : Packs), a.length + b.length = n → out.length + n ≤ 4194304 → (∀ p ∈ a, p.length ≤ 1048576) → (∀ p ∈ b, p.length ≤ 1048576) → (∀ p ∈ out, p.length ≤ 1048576) →
    Ev (fun k => s_l05Merge_l2 k a b out) (mergeU a b out)
  | 0, a, b, out, hn, hl, h1, h2, h3 => by
    have ea : a = [] := List.length_eq_zero_iff.1 (by omega)
    have eb : b = [] := List.length_eq_zero_iff.1 (by omega)
    subst ea eb
    unfold mergeU
    exact Ev.step (fun k => s_l05Merge_l2_eq k _ _ _) (Ev.no (by (first | (simp; done) | (simp; omega) | omega)) (Ev.no (by (first | (simp; done) | (simp; omega) | omega)) (Ev.pure _)))
  | n + 1, [], [], out, hn, hl, h1, h2, h3 => by simp at hn
  | n + 1, x :: a, [], out, hn, hl, h1, h2, h3 => by
    have hx := h1 x (by simp)
    have hp := pushU_len out x
    have ih := s_l05Merge_l2_ev n a [] (pushU out x) (by simp at hn ⊢; omega) (by omega) (fun p hp => h1 p (by simp [hp])) h2 (pushU_small hx h3)
    unfold mergeU
    refine Ev.step (fun k => s_l05Merge_l2_eq k _ _ _) ?_
    simp only [take_all2, List.getD_cons_zero, List.drop_succ_cons, List.drop_zero]
    refine Ev.yes (by (first | (simp; done) | (simp; omega) | omega)) (Ev.yes (by (first | (simp; done) | (simp; omega) | omega)) (Ev.yes (by (first | (simp; done) | (simp; omega) | omega)) (Ev.yes (by (first | (simp; done) | (simp; omega) | omega)) (Ev.yes (by (first | (simp; done) | (simp; omega) | omega)) ?_))))
    exact push_ev (C := fun k o => s_l05Merge_l2 k a [] o) out x hx (by omega) h3 ih
  | n + 1, [], y :: b, out, hn, hl, h1, h2, h3 => by
    have hy := h2 y (by simp)
    have hp := pushU_len out y
    have ih := s_l05Merge_l2_ev n [] b (pushU out y) (by simp at hn ⊢; omega) (by omega) h1 (fun p hp => h2 p (by simp [hp])) (pushU_small hy h3)
    unfold mergeU
    refine Ev.step (fun k => s_l05Merge_l2_eq k _ _ _) ?_
    simp only [take_all2, List.getD_cons_zero, List.drop_succ_cons, List.drop_zero]
    refine Ev.no (by (first | (simp; done) | (simp; omega) | omega)) (Ev.yes (by (first | (simp; done) | (simp; omega) | omega)) (Ev.no (by (first | (simp; done) | (simp; omega) | omega)) (Ev.no (by (first | (simp; done) | (simp; omega) | omega)) (Ev.yes (by (first | (simp; done) | (simp; omega) | omega)) (Ev.yes (by (first | (simp; done) | (simp; omega) | omega)) (Ev.yes (by (first | (simp; done) | (simp; omega) | omega)) ?_))))))
    exact push_ev (C := fun k o => s_l05Merge_l2 k [] b o) out y hy (by omega) h3 ih
  | n + 1, x :: a, y :: b, out, hn, hl, h1, h2, h3 => by
    have hx := h1 x (by simp)
    have hy := h2 y (by simp)
    have hp := pushU_len out x
    have hp2 := pushU_len out y
    have ihx := s_l05Merge_l2_ev n a (y :: b) (pushU out x) (by simp at hn ⊢; omega) (by omega) (fun p hp => h1 p (by simp [hp])) h2 (pushU_small hx h3)
    have ihy := s_l05Merge_l2_ev n (x :: a) b (pushU out y) (by simp at hn ⊢; omega) (by omega) h1 (fun p hp => h2 p (by simp [hp])) (pushU_small hy h3)
    unfold mergeU
    refine Ev.step (fun k => s_l05Merge_l2_eq k _ _ _) ?_
    simp only [take_all2, List.getD_cons_zero, List.drop_succ_cons, List.drop_zero]
    refine Ev.yes (by (first | (simp; done) | (simp; omega) | omega)) (Ev.no (by (first | (simp; done) | (simp; omega) | omega)) (Ev.yes (by (first | (simp; done) | (simp; omega) | omega)) (Ev.yes (by (first | (simp; done) | (simp; omega) | omega)) (Ev.yes (by (first | (simp; done) | (simp; omega) | omega)) (Ev.bind (s_l05Less_ev y x (by rw [maxLen_eq]; omega) (by rw [maxLen_eq]; omega)) (Ev.ite (fun c => ?_) (fun c => ?_)))))))
    · have : lessL y x = false := by simpa using c
      rw [this, if_neg (by simp)]
      refine Ev.yes (by (first | (simp; done) | (simp; omega) | omega)) (Ev.yes (by (first | (simp; done) | (simp; omega) | omega)) (Ev.yes (by (first | (simp; done) | (simp; omega) | omega)) ?_))
      exact push_ev (C := fun k o => s_l05Merge_l2 k a (y :: b) o) out x hx (by omega) h3 ihx
    · have : lessL y x = true := by simpa using c
      rw [this, if_pos rfl]
      refine Ev.yes (by (first | (simp; done) | (simp; omega) | omega)) (Ev.yes (by (first | (simp; done) | (simp; omega) | omega)) (Ev.yes (by (first | (simp; done) | (simp; omega) | omega)) ?_))
      exact push_ev (C := fun k o => s_l05Merge_l2 k (x :: a) b o) out y hy (by omega) h3 ihy
theorem s_l05Merge_ev (a b : Packs) (hl : a.length + b.length ≤ 4194304) (h1 : ∀ p ∈ a, p.length ≤ 1048576) (h2 : ∀ p ∈ b, p.length ≤ 1048576) : Ev (fun k => s_l05Merge k (a, b)) (mergeU a b []) :=
  Ev.step (fun k => s_l05Merge_eq k a b) (s_l05Merge_l2_ev _ a b [] rfl (by simpa using hl) h1 h2 (fun p hp => by cases hp))
theorem half2 (n : Nat) (h : n ≤ 4194304) : IntKind.i64.wrap ((n : Int).tdiv 2) = ((n / 2 : Nat) : Int) := by
  have : (n : Int).tdiv 2 = ((n / 2 : Nat) : Int) := by rw [Int.tdiv_eq_ediv_of_nonneg (by omega)]; omega
  rw [this, wrap_id (by omega) (by omega)]
theorem s_SortPackets_ev : ∀ (n : Nat) (l : Packs), l.length ≤ n → l.length ≤ 1048576 → (∀ p ∈ l, p.length ≤ 1048576) → Ev (fun k => s_SortPackets k l) (setL l)
  | n, l, hn, hl, h12 => by
    refine Ev.step (fun k => s_SortPackets_eq k l) ?_
    refine Ev.ite (fun c => ?_) (fun c => ?_)
    · have hlt : l.length < 2 := by have : (l.length : Int) < 2 := by simpa using c
                                    omega
      have hs : SS l := by
        match l, hlt with
        | [], _ => exact List.Pairwise.nil
        | [x], _ => exact List.pairwise_singleton _ _
      refine Ev.bind (s_l05Merge_ev l [] (by simp; omega) h12 (fun p hp => by cases hp)) (Ev.some ?_)
      rw [mergeU_set hs List.Pairwise.nil, List.append_nil]
    · have hge : ¬ l.length < 2 := by have : ¬ (l.length : Int) < 2 := by simpa using c
                                      omega
      match n, hn with
      | 0, hn => omega
      | n + 1, hn =>
      have hA := s_SortPackets_ev n (l.take (l.length / 2)) (by simp; omega) (by simp; omega) (fun p hp => h12 p (List.mem_of_mem_take hp))
      have hB := s_SortPackets_ev n (l.drop (l.length / 2)) (by simp; omega) (by simp; omega) (fun p hp => h12 p (List.mem_of_mem_drop hp))
      have lA := setL_len (l.take (l.length / 2))
      have lB := setL_len (l.drop (l.length / 2))
      simp at lA lB
      simp only [half2 l.length (by omega), take_all2, Int.toNat_natCast, List.drop_zero, List.take_length]
      refine Ev.yes (by (first | (simp; done) | (simp; omega) | omega)) (Ev.yes (by (first | (simp; done) | (simp; omega) | omega)) (Ev.bind hA (Ev.yes (by (first | (simp; done) | (simp; omega) | omega)) (Ev.yes (by (first | (simp; done) | (simp; omega) | omega)) (Ev.yes (by (first | (simp; done) | (simp; omega) | omega)) (Ev.bind hB (Ev.bind (s_l05Merge_ev _ _ (by omega) (fun p hp => ?_) (fun p hp => ?_)) (Ev.some ?_))))))))
      · exact h12 p (List.mem_of_mem_take ((setL_mem _ p).1 hp))
      · exact h12 p (List.mem_of_mem_drop ((setL_mem _ p).1 hp))
      · rw [mergeU_set (setL_ss _) (setL_ss _)]
        refine setL_of (setL_ss _) fun z => ?_
        rw [setL_mem, List.mem_append, setL_mem, setL_mem, ← List.mem_append, List.take_append_drop]
end Qq
namespace Qq
open Go Go.Vt Pt
set_option linter.unusedVariables false
set_option linter.unusedSimpArgs false
end Qq
namespace Qq
open Go Go.Vt Pt
set_option linter.unusedVariables false
set_option linter.unusedSimpArgs false
end Qq
namespace Qq
open Go Go.Vt Pt
set_option linter.unusedVariables false
set_option linter.unusedSimpArgs false
end Qq
namespace Qq
open Go Go.Vt Pt
set_option linter.unusedVariables false
set_option linter.unusedSimpArgs false
end Qq
namespace Qq
open Go Go.Vt Pt
set_option linter.unusedVariables false
set_option linter.unusedSimpArgs false
end Qq
namespace Qq
open Go Go.Vt Pt
set_option linter.unusedVariables false
set_option linter.unusedSimpArgs false
end Qq
namespace Qq
open Go Go.Vt Pt
set_option linter.unusedVariables false
set_option linter.unusedSimpArgs false
set_option linter.unnecessarySimpa false
end Qq
namespace Qq
open Go Go.Vt Pt
set_option linter.unusedVariables false
set_option linter.unusedSimpArgs false
set_option linter.unnecessarySimpa false
def cutL (p : List Int) (k : Nat) : List Int := p.drop k ++ p.take k
def cutsL (p : List Int) : Packs := (List.range p.length).map (cutL p)
theorem cut_fit {p : List Int} {i : Nat} (hp : p.length ≤ 12) (hi : i < p.length) : MoveFit p.length (1, (i : Int)) :=
  ⟨by omega, hp, by simp, .inl (by simp; omega), fun _ => by simp; omega, fun h => by simp at h, fun h => by simp at h⟩
theorem doMove_cut (p : List Int) (i : Nat) : doMove p (1, (i : Int)) = cutL p i := by simp [doMove, cutL]
theorem range_next (n : Nat) (f : Nat → List Int) : (List.range (n + 1)).map f = (List.range n).map f ++ [f n] := by rw [List.range_succ, List.map_append]; rfl
theorem s_l05Cuts_l3_ev (p : List Int) (hp : p.length ≤ 12) (hi : Ins p) : ∀ (m i : Nat), i + m = p.length → Ev (fun k => s_l05Cuts_l3 k p (p.length : Int) (i : Int) ((List.range i).map (cutL p))) (cutsL p)
  | 0, i, h => by
    refine Ev.step (fun k => s_l05Cuts_l3_eq k _ _ _ _) (Ev.no (by simp; omega) (Ev.some ?_))
    have : i = p.length := by omega
    rw [this]; rfl
  | m + 1, i, h => by
    have ih := s_l05Cuts_l3_ev p hp hi m (i + 1) (by omega)
    rw [range_next] at ih
    have ew : IntKind.i64.wrap ((i : Int) + 1) = ((i + 1 : Nat) : Int) := by rw [wrap_id (by omega) (by omega)]; omega
    refine Ev.step (fun k => s_l05Cuts_l3_eq k _ _ _ _) ?_
    simp only [ew]
    refine Ev.yes (by simp; omega) (Ev.bind (s_l04Do_ev p _ (cut_fit hp (by omega)) hi) ?_)
    rw [doMove_cut]
    exact Ev.yes (by rw [rowMax_eq]; exact decide_eq_true (by simp; omega)) ih
theorem s_l05Cuts_ev (p : List Int) (hp : p.length ≤ 12) (hi : Ins p) : Ev (fun k => s_l05Cuts k p) (cutsL p) :=
  Ev.step (fun k => s_l05Cuts_eq k _) (s_l05Cuts_l3_ev p hp hi p.length 0 (by omega))
theorem i_cuts_l3_ev (p : List Int) (hp : p.length ≤ 12) (hi : Ins p) : ∀ (m i : Nat), i + m = p.length → Ev (fun k => i_cuts_l3 k p (p.length : Int) (i : Int) ((List.range i).map (cutL p))) (cutsL p)
  | 0, i, h => by
    refine Ev.step (fun k => i_cuts_l3_eq k _ _ _ _) (Ev.no (by simp; omega) (Ev.some ?_))
    have : i = p.length := by omega
    rw [this]; rfl
  | m + 1, i, h => by
    have ih := i_cuts_l3_ev p hp hi m (i + 1) (by omega)
    rw [range_next] at ih
    have ew : IntKind.i64.wrap ((i : Int) + 1) = ((i + 1 : Nat) : Int) := by rw [wrap_id (by omega) (by omega)]; omega
    refine Ev.step (fun k => i_cuts_l3_eq k _ _ _ _) ?_
    simp only [ew]
    refine Ev.yes (by simp; omega) (Ev.bind (i_moved_ev p _ (cut_fit hp (by omega)) hi) ?_)
    rw [doMove_cut]
    exact Ev.yes (by rw [rowMax_eq]; exact decide_eq_true (by simp; omega)) ih
theorem i_cuts_ev (p : List Int) (hp : p.length ≤ 12) (hi : Ins p) : Ev (fun k => i_cuts k p) (cutsL p) :=
  Ev.step (fun k => i_cuts_eq k _) (i_cuts_l3_ev p hp hi p.length 0 (by omega))
def pickL (p : List Int) (i : Nat) : List Int := [p.getD i 0] ++ (p.take i ++ p.drop (i + 1))
def picksL (p : List Int) : Packs := (List.range p.length).map (pickL p)
theorem s_l05Of_l15_ev (p : List Int) (hp : p.length ≤ 12) : ∀ (m i : Nat), i + m = p.length → Ev (fun k => s_l05Of_l15 k p p (p.length : Int) (i : Int) ((List.range i).map (pickL p))) (picksL p)
  | 0, i, h => by
    refine Ev.step (fun k => s_l05Of_l15_eq k _ _ _ _ _) (Ev.no (by simp; omega) (Ev.some ?_))
    have : i = p.length := by omega
    rw [this]; rfl
  | m + 1, i, h => by
    have ih := s_l05Of_l15_ev p hp m (i + 1) (by omega)
    rw [range_next] at ih
    have ew : IntKind.i64.wrap ((i : Int) + 1) = ((i + 1 : Nat) : Int) := by rw [wrap_id (by omega) (by omega)]; omega
    refine Ev.step (fun k => s_l05Of_l15_eq k _ _ _ _ _) ?_
    simp only [ew, take_all, Int.toNat_natCast, List.take_length, List.drop_zero, List.nil_append]
    refine Ev.yes (by simp; omega) ?_
    (repeat (first | refine Ev.yes (by (first | (simp [rowMax_eq]; done) | (simp [rowMax_eq]; omega) | omega)) ?_ | refine Ev.no (by (first | (simp [rowMax_eq]; done) | (simp [rowMax_eq]; omega) | omega)) ?_))
    exact ih
theorem i_all_l20_ev (p : List Int) (hp : p.length ≤ 12) : ∀ (m i : Nat), i + m = p.length → Ev (fun k => i_all_l20 k p (p.length : Int) (i : Int) ((List.range i).map (pickL p))) (picksL p, true)
  | 0, i, h => by
    refine Ev.step (fun k => i_all_l20_eq k _ _ _ _) (Ev.no (by simp; omega) (Ev.some ?_))
    have : i = p.length := by omega
    rw [this]; rfl
  | m + 1, i, h => by
    have ih := i_all_l20_ev p hp m (i + 1) (by omega)
    rw [range_next] at ih
    have hil : i < p.length := by omega
    have ew : IntKind.i64.wrap ((i : Int) + 1) = ((i + 1 : Nat) : Int) := by rw [wrap_id (by omega) (by omega)]; omega
    refine Ev.step (fun k => i_all_l20_eq k _ _ _ _) ?_
    simp only [ew, take_all, Int.toNat_natCast, List.take_length, List.drop_zero, List.nil_append]
    refine Ev.yes (by simp; omega) ?_
    (repeat (first | refine Ev.yes (by (first | (simp [rowMax_eq]; done) | (simp [rowMax_eq]; omega) | omega)) ?_ | refine Ev.no (by (first | (simp [rowMax_eq]; done) | (simp [rowMax_eq]; omega) | omega)) ?_))
    have e1 : (p.take (i + 1)).drop i = [p.getD i 0] := by
      rw [List.take_add_one, List.getElem?_eq_getElem hil, List.drop_append_of_le_length (by simp; omega), List.drop_eq_nil_of_le (by simp; omega)]
      simp [List.getD, hil]
    refine Ev.bind ((Concat_ev [(p.take (i + 1)).drop i, p.take i, p.drop (i + 1)] (by rw [maxLen_eq]; simp) (by simp; omega)).to (show _ = pickL p i by rw [e1]; simp [pickL])) ?_
    exact Ev.yes (by rw [rowMax_eq]; exact decide_eq_true (by simp; omega)) ih
def wv : List Int → List Int → List Int → Packs
  | d, [], [] => [d]
  | d, x :: a, [] => wv (d ++ [x]) a []
  | d, [], y :: b => wv (d ++ [y]) [] b
  | d, x :: a, y :: b => wv (d ++ [x]) a (y :: b) ++ wv (d ++ [y]) (x :: a) b
termination_by _ a b => a.length + b.length
theorem wv_len : ∀ (n : Nat) (d a b : List Int), a.length + b.length = n → (wv d a b).length ≤ 2 ^ n
  | n, d, [], [], h => by unfold wv; simp; exact Nat.one_le_two_pow
  | n + 1, d, x :: a, [], h => by
    unfold wv
    have := wv_len n (d ++ [x]) a [] (by simp at h ⊢; omega)
    rw [Nat.pow_succ]; omega
  | n + 1, d, [], y :: b, h => by
    unfold wv
    have := wv_len n (d ++ [y]) [] b (by simp at h ⊢; omega)
    rw [Nat.pow_succ]; omega
  | n + 1, d, x :: a, y :: b, h => by
    unfold wv
    have h1 := wv_len n (d ++ [x]) a (y :: b) (by simp at h ⊢; omega)
    have h2 := wv_len n (d ++ [y]) (x :: a) b (by simp at h ⊢; omega)
    rw [List.length_append, Nat.pow_succ]; omega
  | 0, d, x :: a, _, h => by simp at h
  | 0, d, [], y :: b, h => by simp at h
theorem s_l05Weave_ev : ∀ (n : Nat) (out : Packs) (d a b : List Int), a.length + b.length = n → d.length + n ≤ 100 → out.length + 2 ^ n ≤ 1048576 → Ev (fun k => s_l05Weave k (out, d, a, b)) (out ++ wv d a b)
  | n, out, d, [], [], h, hd, ho => by
    have : 1 ≤ 2 ^ n := Nat.one_le_two_pow
    unfold wv
    refine Ev.step (fun k => s_l05Weave_eq k _ _ _ _) (Ev.yes (by (first | (simp [rowMax_eq]; done) | (simp [rowMax_eq]; omega) | omega)) (Ev.yes (by (first | (simp [rowMax_eq]; done) | (simp [rowMax_eq]; omega) | omega)) (Ev.yes (by rw [rowMax_eq]; exact decide_eq_true (by simp; omega)) (Ev.pure _))))
  | n + 1, out, d, x :: a, [], h, hd, ho => by
    rw [Nat.pow_succ] at ho
    have ih := s_l05Weave_ev n out (d ++ [x]) a [] (by simp at h ⊢; omega) (by simp; omega) (by omega)
    unfold wv
    refine Ev.step (fun k => s_l05Weave_eq k _ _ _ _) ?_
    simp only [take_all, List.nil_append, List.getD_cons_zero, List.drop_succ_cons, List.drop_zero]
    refine Ev.no (by (first | (simp [rowMax_eq]; done) | (simp [rowMax_eq]; omega) | omega)) (Ev.yes (by (first | (simp [rowMax_eq]; done) | (simp [rowMax_eq]; omega) | omega)) (Ev.yes (by (first | (simp [rowMax_eq]; done) | (simp [rowMax_eq]; omega) | omega)) (Ev.yes (by (first | (simp [rowMax_eq]; done) | (simp [rowMax_eq]; omega) | omega)) (Ev.yes (by (first | (simp [rowMax_eq]; done) | (simp [rowMax_eq]; omega) | omega)) (Ev.yes (by (first | (simp [rowMax_eq]; done) | (simp [rowMax_eq]; omega) | omega)) (Ev.yes (by (first | (simp [rowMax_eq]; done) | (simp [rowMax_eq]; omega) | omega)) (Ev.bind ih (Ev.no (by (first | (simp [rowMax_eq]; done) | (simp [rowMax_eq]; omega) | omega)) (Ev.pure _)))))))))
  | n + 1, out, d, [], y :: b, h, hd, ho => by
    rw [Nat.pow_succ] at ho
    have ih := s_l05Weave_ev n out (d ++ [y]) [] b (by simp at h ⊢; omega) (by simp; omega) (by omega)
    unfold wv
    refine Ev.step (fun k => s_l05Weave_eq k _ _ _ _) ?_
    simp only [take_all, List.nil_append, List.getD_cons_zero, List.drop_succ_cons, List.drop_zero]
    refine Ev.yes (by (first | (simp [rowMax_eq]; done) | (simp [rowMax_eq]; omega) | omega)) (Ev.no (by (first | (simp [rowMax_eq]; done) | (simp [rowMax_eq]; omega) | omega)) (Ev.no (by (first | (simp [rowMax_eq]; done) | (simp [rowMax_eq]; omega) | omega)) (Ev.yes (by (first | (simp [rowMax_eq]; done) | (simp [rowMax_eq]; omega) | omega)) (Ev.yes (by (first | (simp [rowMax_eq]; done) | (simp [rowMax_eq]; omega) | omega)) (Ev.yes (by (first | (simp [rowMax_eq]; done) | (simp [rowMax_eq]; omega) | omega)) (Ev.yes (by (first | (simp [rowMax_eq]; done) | (simp [rowMax_eq]; omega) | omega)) (Ev.yes (by (first | (simp [rowMax_eq]; done) | (simp [rowMax_eq]; omega) | omega)) (Ev.yes (by (first | (simp [rowMax_eq]; done) | (simp [rowMax_eq]; omega) | omega)) (Ev.bind ih (Ev.pure _))))))))))
  | n + 1, out, d, x :: a, y :: b, h, hd, ho => by
    rw [Nat.pow_succ] at ho
    have hl := wv_len n (d ++ [x]) a (y :: b) (by simp at h ⊢; omega)
    have i1 := s_l05Weave_ev n out (d ++ [x]) a (y :: b) (by simp at h ⊢; omega) (by simp; omega) (by omega)
    have i2 := s_l05Weave_ev n (out ++ wv (d ++ [x]) a (y :: b)) (d ++ [y]) (x :: a) b (by simp at h ⊢; omega) (by simp; omega) (by simp; omega)
    unfold wv
    refine Ev.step (fun k => s_l05Weave_eq k _ _ _ _) ?_
    simp only [take_all, List.nil_append, List.getD_cons_zero, List.drop_succ_cons, List.drop_zero]
    refine Ev.no (by (first | (simp [rowMax_eq]; done) | (simp [rowMax_eq]; omega) | omega)) (Ev.yes (by (first | (simp [rowMax_eq]; done) | (simp [rowMax_eq]; omega) | omega)) (Ev.yes (by (first | (simp [rowMax_eq]; done) | (simp [rowMax_eq]; omega) | omega)) (Ev.yes (by (first | (simp [rowMax_eq]; done) | (simp [rowMax_eq]; omega) | omega)) (Ev.yes (by (first | (simp [rowMax_eq]; done) | (simp [rowMax_eq]; omega) | omega)) (Ev.yes (by (first | (simp [rowMax_eq]; done) | (simp [rowMax_eq]; omega) | omega)) (Ev.yes (by (first | (simp [rowMax_eq]; done) | (simp [rowMax_eq]; omega) | omega)) (Ev.bind i1 ?_)))))))
    refine Ev.yes (by (first | (simp [rowMax_eq]; done) | (simp [rowMax_eq]; omega) | omega)) (Ev.yes (by (first | (simp [rowMax_eq]; done) | (simp [rowMax_eq]; omega) | omega)) (Ev.yes (by (first | (simp [rowMax_eq]; done) | (simp [rowMax_eq]; omega) | omega)) (Ev.yes (by (first | (simp [rowMax_eq]; done) | (simp [rowMax_eq]; omega) | omega)) (Ev.yes (by (first | (simp [rowMax_eq]; done) | (simp [rowMax_eq]; omega) | omega)) (Ev.yes (by (first | (simp [rowMax_eq]; done) | (simp [rowMax_eq]; omega) | omega)) (Ev.bind i2 (Ev.some (by simp))))))))
  | 0, out, d, x :: a, _, h, hd, ho => by simp at h
  | 0, out, d, [], y :: b, h, hd, ho => by simp at h
end Qq
namespace Qq
open Go Go.Vt Pt
set_option linter.unusedVariables false
set_option linter.unusedSimpArgs false
/-- A riffle by bits: whether each card comes from the second part. -/
def rfi : Nat → Nat → List Bool → List Nat
  | _, _, [] => []
  | f, s, true :: r => s :: rfi f (s + 1) r
  | f, s, false :: r => f :: rfi (f + 1) s r
def zerosB : List Bool → Nat
  | [] => 0 | true :: r => zerosB r | false :: r => zerosB r + 1
def onesB : List Bool → Nat
  | [] => 0 | true :: r => onesB r + 1 | false :: r => onesB r
def bitsD : Nat → Nat → List Bool
  | 0, _ => [] | m + 1, w => Nat.beq (w % 2) 1 :: bitsD m (w / 2)
def riffI (n w : Nat) : List Nat := rfi 0 (zerosB (bitsD n w)) (bitsD n w)
def decGo : Nat → Option Nat → List Nat → Nat
  | _, _, [] => 0
  | i, none, x :: r => bif Nat.beq x i then decGo (i + 1) none r else 2 ^ i + decGo (i + 1) (some x) r
  | i, some s, x :: r => (bif Nat.ble s x then 2 ^ i else 0) + decGo (i + 1) (some s) r
def isIdB : Nat → List Nat → Bool
  | _, [] => true | i, x :: r => Nat.beq x i && isIdB (i + 1) r
def wellW (w : Nat) : Bool := !isIdB 0 (riffI 12 w)
theorem riff12 : ((List.range 4096).all fun w => isIdB 0 (riffI 12 w) || Nat.beq (decGo 0 none (riffI 12 w)) w) = true := by kernel_rfl
theorem riff12_count : ((List.range 4096).filter wellW).length = 4083 := by kernel_rfl
theorem nodup_sub {α : Type} [DecidableEq α] : ∀ {l m : List α}, l.Nodup → (∀ x ∈ l, x ∈ m) → l.length ≤ m.length
  | [], m, _, _ => Nat.zero_le _
  | x :: l, m, h, hs => by
    obtain ⟨h1, h2⟩ := List.nodup_cons.1 h
    have hx := hs x (by simp)
    have := nodup_sub (l := l) (m := m.erase x) h2 fun y hy => (List.mem_erase_of_ne (fun e => h1 (by rw [e] at hy; exact hy))).2 (hs y (by simp [hy]))
    rw [List.length_erase_of_mem hx] at this
    have : 0 < m.length := List.length_pos_of_mem hx
    simp; omega
end Qq
namespace Qq
open Go Go.Vt Pt
set_option linter.unusedVariables false
set_option linter.unusedSimpArgs false
set_option linter.unnecessarySimpa false
theorem bitsD_len : ∀ (m w : Nat), (bitsD m w).length = m
  | 0, _ => rfl
  | m + 1, w => by rw [bitsD, List.length_cons, bitsD_len]
theorem zo_len : ∀ l : List Bool, zerosB l + onesB l = l.length
  | [] => rfl
  | true :: r => by have := zo_len r; simp [zerosB, onesB]; omega
  | false :: r => by have := zo_len r; simp [zerosB, onesB]; omega
def rfp (p : List Int) : Nat → Nat → List Bool → List Int
  | _, _, [] => []
  | f, s, true :: r => p.getD s 0 :: rfp p f (s + 1) r
  | f, s, false :: r => p.getD f 0 :: rfp p (f + 1) s r
def riffp (p : List Int) (w : Nat) : List Int := rfp p 0 (zerosB (bitsD p.length w)) (bitsD p.length w)
theorem div_next (w i : Nat) : w / 2 ^ i / 2 = w / 2 ^ (i + 1) := by rw [Nat.div_div_eq_div_mul, Nat.pow_succ]
theorem bitsD_step (m w i : Nat) : bitsD (m + 1) (w / 2 ^ i) = Nat.beq (w / 2 ^ i % 2) 1 :: bitsD m (w / 2 ^ (i + 1)) := by rw [bitsD, div_next]
theorem i_riffledp_l9_ev (p : List Int) (hp : p.length ≤ 12) (w : Nat) (hw : w ≤ 4096) : ∀ (m i f s : Nat) (out : List Int), i + m = p.length → f + zerosB (bitsD m (w / 2 ^ i)) ≤ p.length → s + onesB (bitsD m (w / 2 ^ i)) ≤ p.length → out.length ≤ i →
    Ev (fun k => i_riffled_l9 k p (w : Int) (f : Int) (s : Int) (p.length : Int) (i : Int) out) (out ++ rfp p f s (bitsD m (w / 2 ^ i)))
  | 0, i, f, s, out, h, hf, hs, ho => by
    refine Ev.step (fun k => i_riffled_l9_eq k _ _ _ _ _ _ _) (Ev.no (by simp; omega) (Ev.some ?_))
    simp [bitsD, rfp]
  | m + 1, i, f, s, out, h, hf, hs, ho => by
    have ih := fun f s out => i_riffledp_l9_ev p hp w hw m (i + 1) f s out (by omega)
    have ew : ∀ j : Nat, j ≤ 12 → IntKind.i64.wrap ((j : Int) + 1) = ((j + 1 : Nat) : Int) := fun j hj => by rw [wrap_id (by omega) (by omega)]; omega
    rw [bitsD_step] at hf hs ⊢
    refine Ev.step (fun k => i_riffled_l9_eq k _ _ _ _ _ _ _) ?_
    simp only [bit_wrap w i (by omega) (by omega), ew i (by omega)]
    simp only [Int.toNat_natCast]
    refine Ev.yes (by simp; omega) (Ev.yes (by simp) ?_)
    cases hb : Nat.beq (w / 2 ^ i % 2) 1 with
    | true =>
      rw [hb] at hf hs
      have hb' := Nat.eq_of_beq_eq_true hb
      simp only [zerosB, onesB] at hf hs
      rw [ew s (by omega)]
      refine Ev.yes (by rw [hb']; rfl) (Ev.yes (by simp) (Ev.yes (by simp; omega) (Ev.yes (by rw [rowMax_eq]; exact decide_eq_true (by simp; omega)) ?_)))
      exact (ih f (s + 1) (out ++ [p.getD s 0]) (by omega) (by omega) (by simp; omega)).to (by simp [rfp])
    | false =>
      rw [hb] at hf hs
      have hb' : ¬ w / 2 ^ i % 2 = 1 := fun e => by rw [e] at hb; cases hb
      simp only [zerosB, onesB] at hf hs
      rw [ew f (by omega)]
      have h0 : w / 2 ^ i % 2 = 0 := by omega
      refine Ev.no (by rw [h0]; rfl) (Ev.yes (by simp) (Ev.yes (by simp; omega) (Ev.yes (by rw [rowMax_eq]; exact decide_eq_true (by simp; omega)) ?_)))
      exact (ih (f + 1) s (out ++ [p.getD f 0]) (by omega) (by omega) (by simp; omega)).to (by simp [rfp])
theorem i_riffledp_l3_ev (p : List Int) (hp : p.length ≤ 12) (w : Nat) (hw : w ≤ 4096) : ∀ (m i z : Nat), i + m = p.length → z ≤ i →
    Ev (fun k => i_riffled_l3 k p (w : Int) 0 (z : Int) (p.length : Int) (i : Int)) (rfp p 0 (z + zerosB (bitsD m (w / 2 ^ i))) (bitsD p.length w)) ∨ z + zerosB (bitsD m (w / 2 ^ i)) ≠ zerosB (bitsD p.length w)
  | 0, i, z, h, hz => by
    by_cases hzz : z + zerosB (bitsD 0 (w / 2 ^ i)) = zerosB (bitsD p.length w)
    · left
      refine Ev.step (fun k => i_riffled_l3_eq k _ _ _ _ _ _) (Ev.no (by simp; omega) ?_)
      have e : zerosB (bitsD 0 (w / 2 ^ i)) = 0 := rfl
      rw [e] at hzz ⊢
      have hl := zo_len (bitsD p.length w)
      rw [bitsD_len] at hl
      have := i_riffledp_l9_ev p hp w hw p.length 0 0 z [] (by omega) (by rw [Nat.pow_zero, Nat.div_one]; omega) (by rw [Nat.pow_zero, Nat.div_one]; omega) (Nat.le_refl _)
      rw [Nat.pow_zero, Nat.div_one, List.nil_append] at this
      exact this
    · exact .inr hzz
  | m + 1, i, z, h, hz => by
    rw [bitsD_step]
    have ew : IntKind.i64.wrap ((i : Int) + 1) = ((i + 1 : Nat) : Int) := by rw [wrap_id (by omega) (by omega)]; omega
    cases hb : Nat.beq (w / 2 ^ i % 2) 1 with
    | true =>
      have hb' := Nat.eq_of_beq_eq_true hb
      simp only [zerosB]
      refine (i_riffledp_l3_ev p hp w hw m (i + 1) z (by omega) (by omega)).imp_left fun ih => ?_
      refine Ev.step (fun k => i_riffled_l3_eq k _ _ _ _ _ _) ?_
      simp only [bit_wrap w i (by omega) (by omega), ew, hb']
      refine Ev.yes (by simp; omega) (Ev.yes (by simp) ?_)
      have e2 : IntKind.i64.wrap ((z : Int) + IntKind.i64.wrap (1 - ((1 : Nat) : Int))) = (z : Int) := by rw [wrap_id (x := 1 - ((1 : Nat) : Int)) (by omega) (by omega), wrap_id (by omega) (by omega)]; omega
      rw [e2]
      exact ih
    | false =>
      have hb' : w / 2 ^ i % 2 = 0 := by
        have : ¬ w / 2 ^ i % 2 = 1 := fun e => by rw [e] at hb; cases hb
        omega
      simp only [zerosB]
      rw [show z + (zerosB (bitsD m (w / 2 ^ (i + 1))) + 1) = (z + 1) + zerosB (bitsD m (w / 2 ^ (i + 1))) by omega]
      refine (i_riffledp_l3_ev p hp w hw m (i + 1) (z + 1) (by omega) (by omega)).imp_left fun ih => ?_
      refine Ev.step (fun k => i_riffled_l3_eq k _ _ _ _ _ _) ?_
      simp only [bit_wrap w i (by omega) (by omega), ew, hb']
      refine Ev.yes (by simp; omega) (Ev.yes (by simp) ?_)
      have e2 : IntKind.i64.wrap ((z : Int) + IntKind.i64.wrap (1 - ((0 : Nat) : Int))) = ((z + 1 : Nat) : Int) := by rw [wrap_id (x := 1 - ((0 : Nat) : Int)) (by omega) (by omega), wrap_id (by omega) (by omega)]; omega
      rw [e2]
      exact ih
theorem i_riffledp_ev (p : List Int) (hp : p.length ≤ 12) (w : Nat) (hw : w ≤ 4096) : Ev (fun k => i_riffled k (p, (w : Int))) (riffp p w) := by
  refine Ev.step (fun k => i_riffled_eq k _ _) ?_
  have := i_riffledp_l3_ev p hp w hw p.length 0 0 (by omega) (Nat.le_refl _)
  rw [Nat.pow_zero, Nat.div_one, Nat.zero_add] at this
  exact this.resolve_right (fun h => h rfl)
def riffsB (p : List Int) : Packs := (List.range (2 ^ p.length)).map (riffp p)
theorem two_le {n : Nat} (h : n ≤ 12) : 2 ^ n ≤ 4096 := Nat.pow_le_pow_right (by decide) h
theorem i_all_l9_ev (p : List Int) (hp : p.length ≤ 12) : ∀ (m i : Nat), i + m = 2 ^ p.length → Ev (fun k => i_all_l9 k p (i : Int) ((List.range i).map (riffp p))) (riffsB p, true)
  | m, i, h => by
    have h2 := two_le hp
    have e : IntKind.i64.wrap ((1 : Int) * 2 ^ (min (p.length : Int).toNat IntKind.i64.bits)) = ((2 ^ p.length : Nat) : Int) := by
      have hm : min (p.length : Int).toNat IntKind.i64.bits = p.length := by
        have : IntKind.i64.bits = 64 := rfl
        rw [this, Int.toNat_natCast]; omega
      rw [hm, Int.one_mul, show (2 : Int) ^ p.length = ((2 ^ p.length : Nat) : Int) by simp, wrap_id (by omega) (by omega)]
    refine Ev.step (fun k => i_all_l9_eq k _ _ _) (Ev.yes (by simp) ?_)
    rw [e]
    match m, h with
    | 0, h =>
      refine Ev.no (by simp only [decide_eq_false_iff_not]; omega) (Ev.some ?_)
      have : i = 2 ^ p.length := by omega
      rw [this]; rfl
    | m + 1, h =>
      have ih := i_all_l9_ev p hp m (i + 1) (by omega)
      rw [range_next] at ih
      have ew : IntKind.i64.wrap ((i : Int) + 1) = ((i + 1 : Nat) : Int) := by rw [wrap_id (by omega) (by omega)]; omega
      rw [ew]
      refine Ev.yes (by simp only [decide_eq_true_eq]; omega) (Ev.bind (i_riffledp_ev p hp i (by omega)) (Ev.yes (by rw [rowMax_eq]; exact decide_eq_true (by simp; omega)) ih))
def riffsW (p : List Int) : Packs := (List.range (p.length + 1)).flatMap fun k => wv [] (p.take k) (p.drop k)
theorem flat_len : ∀ (n i : Nat) (p : List Int), p.length = n → ((List.range i).flatMap fun k => wv [] (p.take k) (p.drop k)).length ≤ i * 2 ^ n
  | n, 0, p, h => by simp
  | n, i + 1, p, h => by
    have h1 := flat_len n i p h
    have h2 := wv_len n [] (p.take i) (p.drop i) (by simp; omega)
    rw [List.range_succ, List.flatMap_append, List.length_append, Nat.add_mul, Nat.one_mul]
    simp only [List.flatMap_cons, List.flatMap_nil, List.append_nil]
    omega
theorem s_l05Of_l7_ev (p : List Int) (hp : p.length ≤ 12) : ∀ (m i : Nat), i + m = p.length + 1 → Ev (fun k => s_l05Of_l7 k p (i : Int) ((List.range i).flatMap fun k => wv [] (p.take k) (p.drop k))) (riffsW p)
  | 0, i, h => by
    refine Ev.step (fun k => s_l05Of_l7_eq k _ _ _) (Ev.no (by simp; omega) (Ev.some ?_))
    have : i = p.length + 1 := by omega
    rw [this]; rfl
  | m + 1, i, h => by
    have ih := s_l05Of_l7_ev p hp m (i + 1) (by omega)
    have e : (List.range (i + 1)).flatMap (fun k => wv [] (p.take k) (p.drop k)) = ((List.range i).flatMap fun k => wv [] (p.take k) (p.drop k)) ++ wv [] (p.take i) (p.drop i) := by
      rw [List.range_succ, List.flatMap_append]; simp
    rw [e] at ih
    have ew : IntKind.i64.wrap ((i : Int) + 1) = ((i + 1 : Nat) : Int) := by rw [wrap_id (by omega) (by omega)]; omega
    have h2 := two_le hp
    have hl := flat_len p.length i p rfl
    have hl2 : i * 2 ^ p.length ≤ 13 * 4096 := Nat.mul_le_mul (by omega) h2
    refine Ev.step (fun k => s_l05Of_l7_eq k _ _ _) ?_
    simp only [ew, take_all, Int.toNat_natCast, List.take_length, List.drop_zero]
    refine Ev.yes (by simp; omega) ?_
    (repeat (first | refine Ev.yes (by (first | (simp [rowMax_eq]; done) | (simp [rowMax_eq]; omega) | omega)) ?_ | refine Ev.no (by (first | (simp [rowMax_eq]; done) | (simp [rowMax_eq]; omega) | omega)) ?_))
    exact Ev.bind (s_l05Weave_ev p.length _ [] _ _ (by simp; omega) (by simp; omega) (by omega)) ih
def weaveB : List Bool → List Int → List Int → List Int
  | true :: r, a, y :: b => y :: weaveB r a b
  | false :: r, x :: a, b => x :: weaveB r a b
  | _, _, _ => []
theorem wv_mem : ∀ (n : Nat) (d a b q : List Int), a.length + b.length = n → (q ∈ wv d a b ↔ ∃ bits, zerosB bits = a.length ∧ onesB bits = b.length ∧ q = d ++ weaveB bits a b)
  | n, d, [], [], q, h => by
    unfold wv
    constructor
    · intro hq
      exact ⟨[], rfl, rfl, by simpa [weaveB] using hq⟩
    · rintro ⟨bits, h1, h2, rfl⟩
      have : bits = [] := by
        have := zo_len bits
        simp at h1 h2
        exact List.length_eq_zero_iff.1 (by omega)
      subst this
      simp [weaveB]
  | n + 1, d, x :: a, [], q, h => by
    unfold wv
    rw [wv_mem n (d ++ [x]) a [] q (by simp at h ⊢; omega)]
    constructor
    · rintro ⟨bits, h1, h2, rfl⟩
      exact ⟨false :: bits, by simp [zerosB, h1], by simpa [onesB] using h2, by simp [weaveB]⟩
    · rintro ⟨bits, h1, h2, rfl⟩
      match bits, h1, h2 with
      | false :: bits, h1, h2 => exact ⟨bits, by simpa [zerosB] using h1, by simpa [onesB] using h2, by simp [weaveB]⟩
      | true :: bits, h1, h2 => simp [onesB] at h2
      | [], h1, h2 => simp [zerosB] at h1
  | n + 1, d, [], y :: b, q, h => by
    unfold wv
    rw [wv_mem n (d ++ [y]) [] b q (by simp at h ⊢; omega)]
    constructor
    · rintro ⟨bits, h1, h2, rfl⟩
      exact ⟨true :: bits, by simpa [zerosB] using h1, by simp [onesB, h2], by simp [weaveB]⟩
    · rintro ⟨bits, h1, h2, rfl⟩
      match bits, h1, h2 with
      | true :: bits, h1, h2 => exact ⟨bits, by simpa [zerosB] using h1, by simpa [onesB] using h2, by simp [weaveB]⟩
      | false :: bits, h1, h2 => simp [zerosB] at h1
      | [], h1, h2 => simp [onesB] at h2
  | n + 1, d, x :: a, y :: b, q, h => by
    unfold wv
    rw [List.mem_append, wv_mem n (d ++ [x]) a (y :: b) q (by simp at h ⊢; omega), wv_mem n (d ++ [y]) (x :: a) b q (by simp at h ⊢; omega)]
    constructor
    · rintro (⟨bits, h1, h2, rfl⟩ | ⟨bits, h1, h2, rfl⟩)
      · exact ⟨false :: bits, by simp [zerosB, h1], by simpa [onesB] using h2, by simp [weaveB]⟩
      · exact ⟨true :: bits, by simpa [zerosB] using h1, by simp [onesB, h2], by simp [weaveB]⟩
    · rintro ⟨bits, h1, h2, rfl⟩
      match bits, h1, h2 with
      | true :: bits, h1, h2 => exact .inr ⟨bits, by simpa [zerosB] using h1, by simpa [onesB] using h2, by simp [weaveB]⟩
      | false :: bits, h1, h2 => exact .inl ⟨bits, by simpa [zerosB] using h1, by simpa [onesB] using h2, by simp [weaveB]⟩
      | [], h1, h2 => simp [onesB] at h2
  | 0, d, x :: a, _, q, h => by simp at h
  | 0, d, [], y :: b, q, h => by simp at h
theorem rfp_weave (p : List Int) (k : Nat) (hk : k ≤ p.length) : ∀ (bits : List Bool) (f s : Nat), f + zerosB bits = k → s + onesB bits = p.length → rfp p f s bits = weaveB bits ((p.take k).drop f) (p.drop s)
  | [], f, s, h1, h2 => by unfold rfp weaveB; rfl
  | true :: r, f, s, h1, h2 => by
    simp only [zerosB, onesB] at h1 h2
    have hs : s < p.length := by omega
    rw [List.drop_eq_getElem_cons hs]
    unfold rfp weaveB
    rw [rfp_weave p k hk r f (s + 1) h1 (by omega)]
    simp [List.getD, hs]
  | false :: r, f, s, h1, h2 => by
    simp only [zerosB, onesB] at h1 h2
    have hf : f < (p.take k).length := by simp; omega
    rw [List.drop_eq_getElem_cons hf]
    unfold rfp weaveB
    rw [rfp_weave p k hk r (f + 1) s (by omega) h2]
    have : f < p.length := by omega
    simp [List.getD, this]
def nb : List Bool → Nat
  | [] => 0 | b :: r => (bif b then 1 else 0) + 2 * nb r
theorem bitsD_nb : ∀ l : List Bool, bitsD l.length (nb l) = l ∧ nb l < 2 ^ l.length
  | [] => ⟨rfl, by decide⟩
  | b :: r => by
    obtain ⟨h1, h2⟩ := bitsD_nb r
    rw [List.length_cons, bitsD, nb, Nat.pow_succ]
    have e1 : ((bif b then 1 else 0) + 2 * nb r) / 2 = nb r := by cases b <;> simp <;> omega
    have e2 : ((bif b then 1 else 0) + 2 * nb r) % 2 = (bif b then 1 else 0) := by cases b <;> simp <;> omega
    rw [e1, e2, h1]
    refine ⟨by cases b <;> rfl, ?_⟩
    cases b <;> simp <;> omega
theorem riffs_same (p q : List Int) : q ∈ riffsB p ↔ q ∈ riffsW p := by
  unfold riffsB riffsW
  rw [List.mem_map, List.mem_flatMap]
  constructor
  · rintro ⟨w, hw, rfl⟩
    have hl := zo_len (bitsD p.length w)
    rw [bitsD_len] at hl
    refine ⟨zerosB (bitsD p.length w), by simp; omega, ?_⟩
    rw [wv_mem p.length [] _ _ _ (by simp; omega)]
    refine ⟨bitsD p.length w, by simp; omega, by simp; omega, ?_⟩
    unfold riffp
    rw [rfp_weave p (zerosB (bitsD p.length w)) (by omega) _ 0 _ (by omega) (by omega)]
    simp
  · rintro ⟨k, hk, hq⟩
    have hk' : k ≤ p.length := by have := List.mem_range.1 hk; omega
    rw [wv_mem p.length [] _ _ _ (by simp; omega)] at hq
    obtain ⟨bits, h1, h2, rfl⟩ := hq
    simp at h1 h2
    have hl := zo_len bits
    obtain ⟨b1, b2⟩ := bitsD_nb bits
    have hbl : bits.length = p.length := by omega
    rw [hbl] at b1 b2
    refine ⟨nb bits, List.mem_range.2 b2, ?_⟩
    unfold riffp
    rw [b1, rfp_weave p k hk' bits 0 _ (by omega) (by omega)]
    have : zerosB bits = k := by omega
    rw [this]
    simp
end Qq
namespace Qq
open Go Go.Vt Pt
set_option linter.unusedVariables false
set_option linter.unusedSimpArgs false
set_option linter.unnecessarySimpa false
theorem rfp_rfi (p : List Int) : ∀ (bits : List Bool) (f s : Nat), rfp p f s bits = (rfi f s bits).map fun i => p.getD i 0
  | [], _, _ => rfl
  | true :: r, f, s => by unfold rfp rfi; rw [rfp_rfi p r]; rfl
  | false :: r, f, s => by unfold rfp rfi; rw [rfp_rfi p r]; rfl
theorem rfi_lt (n : Nat) : ∀ (bits : List Bool) (f s : Nat), f + zerosB bits ≤ n → s + onesB bits ≤ n → ∀ x ∈ rfi f s bits, x < n
  | [], _, _, _, _, x, hx => by cases hx
  | true :: r, f, s, h1, h2, x, hx => by
    simp only [zerosB, onesB] at h1 h2
    rcases List.mem_cons.1 hx with rfl | hx
    · omega
    · exact rfi_lt n r f (s + 1) h1 (by omega) x hx
  | false :: r, f, s, h1, h2, x, hx => by
    simp only [zerosB, onesB] at h1 h2
    rcases List.mem_cons.1 hx with rfl | hx
    · omega
    · exact rfi_lt n r (f + 1) s (by omega) h2 x hx
theorem map_inj_on {g : Nat → Int} {n : Nat} (hg : ∀ i j, i < n → j < n → g i = g j → i = j) : ∀ {l m : List Nat}, (∀ x ∈ l, x < n) → (∀ x ∈ m, x < n) → l.map g = m.map g → l = m
  | [], [], _, _, _ => rfl
  | [], _ :: _, _, _, h => by simp at h
  | _ :: _, [], _, _, h => by simp at h
  | x :: l, y :: m, hl, hm, h => by
    simp only [List.map_cons, List.cons.injEq] at h
    rw [hg x y (hl x (by simp)) (hm y (by simp)) h.1, map_inj_on hg (fun z hz => hl z (by simp [hz])) (fun z hz => hm z (by simp [hz])) h.2]
theorem riffs12 {p : List Int} (hl : p.length = 12) (hn : p.Nodup) : 3000 < (setL (riffsB p)).length := by
  have hg : ∀ i j, i < 12 → j < 12 → p.getD i 0 = p.getD j 0 → i = j := fun i j hi hj e => by
    have h1 : i < p.length := by omega
    have h2 : j < p.length := by omega
    simp only [List.getD, List.getElem?_eq_getElem h1, List.getElem?_eq_getElem h2, Option.getD_some] at e
    have hpw := List.pairwise_iff_getElem.1 (show p.Pairwise (fun a b => a ≠ b) from hn)
    rcases Nat.lt_trichotomy i j with h | h | h
    · exact (hpw i j h1 h2 h e).elim
    · exact h
    · exact (hpw j i h2 h1 h e.symm).elim
  have hlt : ∀ w, ∀ x ∈ riffI 12 w, x < 12 := fun w => by
    have := zo_len (bitsD 12 w)
    rw [bitsD_len] at this
    exact rfi_lt 12 _ 0 _ (by omega) (by omega)
  have hr : ∀ w, riffp p w = (riffI 12 w).map fun i => p.getD i 0 := fun w => by unfold riffp riffI; rw [hl, rfp_rfi]
  have hdec : ∀ w, w < 4096 → wellW w = true → decGo 0 none (riffI 12 w) = w := fun w hw hwell => by
    have := List.all_eq_true.1 riff12 w (List.mem_range.2 hw)
    unfold wellW at hwell
    rw [Bool.not_eq_true'] at hwell
    rw [hwell, Bool.false_or] at this
    exact Nat.eq_of_beq_eq_true this
  have hnd : (((List.range 4096).filter wellW).map (riffp p)).Nodup := by
    rw [List.Nodup, List.pairwise_map]
    refine List.Pairwise.imp_of_mem (fun {a b} ha hb hab e => hab ?_) ((List.nodup_range (n := 4096)).filter wellW)
    obtain ⟨a1, a2⟩ := List.mem_filter.1 ha
    obtain ⟨b1, b2⟩ := List.mem_filter.1 hb
    rw [hr, hr] at e
    have := map_inj_on hg (hlt a) (hlt b) e
    rw [← hdec a (List.mem_range.1 a1) a2, ← hdec b (List.mem_range.1 b1) b2, this]
  have := nodup_sub hnd (m := setL (riffsB p)) (fun q hq => by
    obtain ⟨w, hw, rfl⟩ := List.mem_map.1 hq
    rw [setL_mem]
    unfold riffsB
    rw [hl]
    exact List.mem_map.2 ⟨w, (List.mem_filter.1 hw).1, rfl⟩)
  rw [List.length_map, riff12_count] at this
  omega
theorem riffs_len {p : List Int} (hp : p.length ≤ 11) : (setL (riffsB p)).length ≤ 2048 := by
  refine Nat.le_trans (setL_len _) ?_
  unfold riffsB
  rw [List.length_map, List.length_range]
  exact Nat.pow_le_pow_right (by decide) hp
def flip2 (p : List Int) : List Int := (p.take 2).reverse.map turn ++ p.drop 2
def allOf (p : List Int) (c : Int) : Packs := if c = 1 then cutsL p else if c = 2 then riffsB p else if c = 3 then cutsL (flip2 p) else if c = 4 then picksL p else [p]
def chOk (p : List Int) (c : Int) : Bool := packetOk p && (!(p.length == 0) && (decide (0 ≤ c ∧ c ≤ 4) && (!(decide (c = 3) && decide (p.length < 2)) && !(decide (c = 2) && decide (12 ≤ p.length)))))
structure ChFit (p : List Int) (c : Int) : Prop where
  ok : packetOk p = true
  l1 : 1 ≤ p.length
  l12 : p.length ≤ 12
  c0 : 0 ≤ c
  c4 : c ≤ 4
  c3 : c = 3 → 2 ≤ p.length
  c2 : c = 2 → p.length ≤ 11
theorem chOk_fit {p : List Int} {c : Int} (h : chOk p c = true) : ChFit p c := by
  unfold chOk at h
  simp only [Bool.and_eq_true, Bool.not_eq_true', Bool.and_eq_false_iff, decide_eq_true_eq, decide_eq_false_iff_not, beq_eq_false_iff_ne] at h
  obtain ⟨h1, h2, ⟨h3, h4⟩, h5, h6⟩ := h
  exact ⟨h1, by omega, (packetOk_fit h1).2.2, h3, h4, fun e => by omega, fun e => by omega⟩
theorem flip2_len (p : List Int) : (flip2 p).length = p.length := by unfold flip2; simp; omega
theorem flip2_ins {p : List Int} (hi : Ins p) : Ins (flip2 p) := fun x hx => by
  unfold flip2 at hx
  rcases List.mem_append.1 hx with h | h
  · obtain ⟨y, hy, rfl⟩ := List.mem_map.1 h
    exact in_turn (hi y (List.mem_of_mem_take (List.mem_reverse.1 hy)))
  · exact hi x (List.mem_of_mem_drop h)
theorem allOf_small {p : List Int} {c : Int} (hp : p.length ≤ 12) : (allOf p c).length ≤ 4096 ∧ ∀ q ∈ allOf p c, q.length ≤ 12 := by
  have h2 := two_le hp
  unfold allOf
  split
  · refine ⟨by unfold cutsL; simp; omega, fun q hq => ?_⟩
    obtain ⟨i, _, rfl⟩ := List.mem_map.1 hq
    unfold cutL; simp; omega
  split
  · refine ⟨by unfold riffsB; simpa using h2, fun q hq => ?_⟩
    obtain ⟨w, _, rfl⟩ := List.mem_map.1 hq
    unfold riffp
    rw [rfp_rfi, List.length_map]
    have : ∀ (bits : List Bool) (f s : Nat), (rfi f s bits).length = bits.length := fun bits => by
      induction bits with
      | nil => intro f s; rfl
      | cons b r ih => intro f s; cases b <;> simp [rfi, ih]
    rw [this, bitsD_len]; exact hp
  split
  · refine ⟨by unfold cutsL; simp [flip2_len]; omega, fun q hq => ?_⟩
    obtain ⟨i, _, rfl⟩ := List.mem_map.1 hq
    unfold cutL; simp [flip2_len]; have := flip2_len p; omega
  split
  · refine ⟨by unfold picksL; simp; omega, fun q hq => ?_⟩
    obtain ⟨i, hi, rfl⟩ := List.mem_map.1 hq
    have := List.mem_range.1 hi
    unfold pickL; simp; omega
  · exact ⟨by simp, fun q hq => by have : q = p := by simpa using hq
                                   rw [this]; exact hp⟩
theorem allOf_few {p : List Int} {c : Int} (hp : p.length ≤ 12) (c2 : c ≠ 2) : (allOf p c).length ≤ 12 := by
  unfold allOf
  split
  · unfold cutsL; simpa using hp
  split
  · unfold cutsL; simpa [flip2_len] using hp
  split
  · unfold picksL; simpa using hp
  · simp
/-- The reference's list holds the same packets. -/
theorem s_l05Of_ev (p : List Int) (c : Int) (h : ChFit p c) (hi : Ins p) : ∃ y, Ev (fun k => s_l05Of k (p, c)) y ∧ y.length ≤ 1048576 ∧ ∀ q, q ∈ y ↔ q ∈ allOf p c := by
  have hp := h.l12
  by_cases c1 : c = 1
  · refine ⟨cutsL p, Ev.step (fun k => s_l05Of_eq k p c) (Ev.yes (by simp [c1]) (Ev.bind (s_l05Cuts_ev p hp hi) (Ev.pure _))), by unfold cutsL; simp; omega, fun q => by simp [allOf, c1]⟩
  by_cases c2 : c = 2
  · refine ⟨riffsW p, Ev.step (fun k => s_l05Of_eq k p c) (Ev.no (by simp [c1]) (Ev.yes (by simp [c2]) (s_l05Of_l7_ev p hp (p.length + 1) 0 (by omega)))), ?_, fun q => by rw [← riffs_same]; simp [allOf, c2]⟩
    have := flat_len p.length (p.length + 1) p rfl
    have h2 := two_le hp
    have h3 : (p.length + 1) * 2 ^ p.length ≤ 13 * 4096 := Nat.mul_le_mul (by omega) h2
    unfold riffsW
    omega
  by_cases c3 : c = 3
  · have h2 := h.c3 c3
    have hb := s_l04Back_ev p hp hi 2 h2 true
    have e : (p.take 2).reverse.map (fun x => bif true then turn x else x) ++ p.drop 2 = flip2 p := rfl
    rw [e] at hb
    refine ⟨cutsL (flip2 p), Ev.step (fun k => s_l05Of_eq k p c) (Ev.no (by simp [c1]) (Ev.no (by simp [c2]) (Ev.yes (by simp [c3]) (Ev.bind hb (Ev.bind (s_l05Cuts_ev _ (by rw [flip2_len]; exact hp) (flip2_ins hi)) (Ev.pure _)))))), by unfold cutsL; simp [flip2_len]; omega, fun q => by simp [allOf, c3]⟩
  by_cases c4 : c = 4
  · refine ⟨picksL p, Ev.step (fun k => s_l05Of_eq k p c) (Ev.no (by simp [c1]) (Ev.no (by simp [c2]) (Ev.no (by simp [c3]) (Ev.yes (by simp [c4]) (s_l05Of_l15_ev p hp p.length 0 (by omega)))))), by unfold picksL; simp; omega, fun q => by simp [allOf, c4]⟩
  · refine ⟨[p], Ev.step (fun k => s_l05Of_eq k p c) (Ev.no (by simp [c1]) (Ev.no (by simp [c2]) (Ev.no (by simp [c3]) (Ev.no (by simp [c4]) (Ev.yes (by rw [rowMax_eq]; simp) (Ev.some rfl)))))), by simp, fun q => by simp [allOf, c1, c2, c3, c4]⟩
/-- What a choice leads to; nothing where there is none, or too many. -/
def resOf (p : List Int) (c : Int) : Packs × Bool := if chOk p c then (setL (allOf p c), true) else ([], false)
theorem i_all_ev (p : List Int) (c : Int) (hp : p.length ≤ 12) (hi : Ins p) (h0 : 1 ≤ p.length) : Ev (fun k => i_all k (p, c)) (if (0 ≤ c ∧ c ≤ 4) ∧ ¬ (c = 3 ∧ p.length < 2) then (allOf p c, true) else ([], false)) := by
  refine Ev.step (fun k => i_all_eq k p c) ?_
  refine Ev.ite (fun e => ?_) (fun n0 => Ev.ite (fun e => ?_) (fun n1 => Ev.ite (fun e => ?_) (fun n2 => Ev.ite (fun e => ?_) (fun n3 => Ev.ite (fun e => ?_) (fun n4 => Ev.some ?_)))))
  all_goals simp only [beq_iff_eq, beq_eq_false_iff_ne, ne_eq] at *
  · subst e
    exact Ev.bind (Clone_int_ev p (by omega)) (Ev.some (by simp [allOf]))
  · subst e
    exact Ev.bind (i_cuts_ev p hp hi) (Ev.some (by simp [allOf]))
  · subst e
    exact (i_all_l9_ev p hp (2 ^ p.length) 0 (by omega)).to (by simp [allOf])
  · subst e
    refine Ev.ite (fun h => Ev.some ?_) (fun h => ?_)
    · have : p.length < 2 := by have : (p.length : Int) < 2 := by simpa using h
                                omega
      simp [this]
    · have h2 : ¬ p.length < 2 := by have : ¬ (p.length : Int) < 2 := by simpa using h
                                     omega
      have hm := i_moved_ev p (3, ((2 : Nat) : Int)) ⟨h0, hp, by simp, .inl (by simp; omega), fun _ => by simp; omega, fun h => by simp at h, fun _ _ h3 => absurd rfl h3⟩ hi
      have ed : doMove p (3, ((2 : Nat) : Int)) = flip2 p := by simp [doMove, flip2]
      rw [ed] at hm
      exact Ev.bind hm (Ev.bind (i_cuts_ev _ (by rw [flip2_len]; exact hp) (flip2_ins hi)) (Ev.some (by simp [allOf, h2])))
  · subst e
    exact (i_all_l20_ev p hp p.length 0 (by omega)).to (by simp [allOf])
  · rw [if_neg (by omega)]
theorem i_ResultsOf_ev (p : List Int) (c : Int) (hp : p.length ≤ maxLen) (hi : Ins p) : Ev (fun k => i_ResultsOf k (p, c)) (resOf p c) := by
  unfold resOf
  refine Ev.step (fun k => i_ResultsOf_eq k p c) (Ev.bind (i_PacketOk_ev p hp hi) (Ev.ite (fun h => Ev.some ?_) (fun h => Ev.ite (fun h2 => Ev.some ?_) (fun h2 => ?_))))
  · have : packetOk p = false := by simpa using h
    simp [chOk, this]
  · have : p.length = 0 := by have : (p.length : Int) = 0 := by simpa using h2
                              omega
    simp [chOk, this]
  · have e1 : packetOk p = true := by simpa using h
    have e2 : ¬ p.length = 0 := by have : ¬ (p.length : Int) = 0 := by simpa using h2
                                   omega
    have hl := (packetOk_fit e1).2.2
    have hnd : p.Nodup := by
      have := (packetOk_fit e1).1
      rw [List.Nodup, List.pairwise_map] at this
      exact this.imp fun h e => h (by rw [e])
    refine Ev.bind (i_all_ev p c hl hi (by omega)) ?_
    by_cases hc : (0 ≤ c ∧ c ≤ 4) ∧ ¬ (c = 3 ∧ p.length < 2)
    · rw [if_pos hc]
      have hs := allOf_small (c := c) hl
      refine Ev.bind (i_SortPackets_ev _ (Nat.le_trans hs.1 (by decide)) (fun q hq => Nat.le_trans (hs.2 q hq) (by decide))) (Ev.no rfl ?_)
      refine Ev.ite (fun h3 => Ev.some ?_) (fun h3 => Ev.some ?_)
      · have h3' : 3000 < (setL (allOf p c)).length := by have : ((setL (allOf p c)).length : Int) > 3000 := by simpa using h3
                                                          omega
        have : c = 2 ∧ 12 ≤ p.length := by
          apply Classical.byContradiction
          intro hcon
          have h5 := setL_len (allOf p c)
          by_cases c2 : c = 2
          · have := riffs_len (p := p) (by omega)
            rw [c2] at h3'
            simp only [allOf] at h3'
            simp at h3'
            omega
          · have := allOf_few (p := p) hl c2
            omega
        rw [if_neg]
        unfold chOk
        simp [this.1, this.2]
      · have h3' : ¬ 3000 < (setL (allOf p c)).length := by have : ¬ ((setL (allOf p c)).length : Int) > 3000 := by simpa using h3
                                                            omega
        have : ¬ (c = 2 ∧ 12 ≤ p.length) := fun ⟨a, b⟩ => h3' (by
          have := riffs12 (p := p) (by omega) hnd
          rw [a]
          simpa [allOf] using this)
        rw [if_pos]
        unfold chOk
        rw [e1, decide_eq_true hc.1]
        have h6 := hc.2
        by_cases x3 : c = 3
        · have : ¬ p.length < 2 := fun h => h6 ⟨x3, h⟩
          simp [e2, x3, this]
        · by_cases x2 : c = 2
          · have : ¬ 12 ≤ p.length := fun h => this ⟨x2, h⟩
            simp [e2, x2, this]
          · simp [e2, x3, x2]
    · rw [if_neg hc]
      refine Ev.bind (i_SortPackets_ev [] (by simp) (fun q hq => by cases hq)) (Ev.yes rfl (Ev.some ?_))
      rw [if_neg]
      unfold chOk
      by_cases c04 : 0 ≤ c ∧ c ≤ 4
      · have : c = 3 ∧ p.length < 2 := Classical.byContradiction fun h => hc ⟨c04, h⟩
        simp [this.1, this.2]
      · rw [decide_eq_false c04]; simp
end Qq
namespace Qq
open Go Go.Vt Pt
set_option linter.unusedVariables false
set_option linter.unusedSimpArgs false
set_option linter.unnecessarySimpa false
abbrev Pm (q p : List Int) : Prop := (q.map card).Perm (p.map card)
theorem Pm.of {q p : List Int} (h : q.Perm p) : Pm q p := h.map card
theorem rfi_perm : ∀ (bits : List Bool) (f s : Nat), (rfi f s bits).Perm (List.range' f (zerosB bits) ++ List.range' s (onesB bits))
  | [], f, s => by simp [rfi, zerosB, onesB]
  | true :: r, f, s => by
    unfold rfi zerosB onesB
    rw [List.range'_succ]
    exact ((rfi_perm r f (s + 1)).cons s).trans List.perm_middle.symm
  | false :: r, f, s => by
    unfold rfi zerosB onesB
    rw [List.range'_succ]
    exact (rfi_perm r (f + 1) s).cons f
theorem riffp_perm (p : List Int) (w : Nat) : (riffp p w).Perm p := by
  unfold riffp
  rw [rfp_rfi]
  have hz := zo_len (bitsD p.length w)
  rw [bitsD_len] at hz
  refine ((rfi_perm _ _ _).map _).trans ?_
  have e : List.range' 0 (zerosB (bitsD p.length w)) ++ List.range' (zerosB (bitsD p.length w)) (onesB (bitsD p.length w)) = List.range p.length := by
    have := List.range'_append_1 (s := 0) (m := zerosB (bitsD p.length w)) (n := onesB (bitsD p.length w))
    rw [Nat.zero_add] at this
    rw [this, List.range_eq_range']
    congr 1
  rw [e]
  have : (List.range p.length).map (fun i => p.getD i 0) = p := by
    apply List.ext_getElem
    · simp
    · intro i h1 h2
      simp [List.getD, h2]
  rw [this]
end Qq
namespace Qq
open Go Go.Vt Pt
set_option linter.unusedVariables false
set_option linter.unusedSimpArgs false
def cnt (n : Nat) (P : List Bool → Bool) : Nat := (List.range (2 ^ n)).countP fun w => P (bits n w)
/-- How many riffles of n cards begin with p. -/
def ways (n : Nat) (p : List Int) : Nat := cnt n fun l => (riff l 0 (zeros l)).take p.length == p
end Qq
namespace Qq
open Go Go.Vt Pt
set_option linter.unusedVariables false
set_option linter.unusedSimpArgs false
theorem two_pow (n N : Nat) (hn : n ≤ 12) (hN : 2 ^ n = N) : IntKind.i64.wrap ((1 : Int) * 2 ^ (min ((n : Int)).toNat IntKind.i64.bits)) = (N : Int) ∧ N ≤ 4096 := by
  have hb : IntKind.i64.bits = 64 := by decide
  have h : (2 : Nat) ^ n ≤ 2 ^ 12 := Nat.pow_le_pow_right (by decide) hn
  rw [hN] at h
  rw [hb, Int.toNat_natCast, Nat.min_eq_left (by omega), Int.one_mul]
  have e : ((2 : Int) ^ n) = (N : Int) := by rw [← hN]; norm_cast
  rw [e, wrap_id (by omega) (by omega)]
  exact ⟨rfl, h⟩
def wayB (n : Nat) (p : List Int) (w : Nat) : Bool := (riff (bits n w) 0 (zeros (bits n w))).take p.length == p
theorem ways_count (n : Nat) (p : List Int) : ways n p = (List.range (2 ^ n)).countP (wayB n p) := rfl
theorem i_WaysWith_l5_ev (n N : Nat) (p : List Int) (hn : n ≤ 12) (hN : 2 ^ n = N) (hp : p.length ≤ n) : ∀ (d i : Nat), i + d = N →
    Ev (fun k => i_WaysWith_l5 k (n : Int) p ((List.range i).countP (wayB n p) : Nat) (i : Int) (upTo n)) (ways n p : Nat) := by
  obtain ⟨hpow, hle⟩ := two_pow n N hn hN
  intro d
  induction d with
  | zero =>
    intro i h
    refine Ev.step (fun k => i_WaysWith_l5_eq k _ _ _ _ _) (Ev.yes (by simp) (Ev.no (by rw [hpow]; simp; omega) (Ev.some ?_)))
    rw [ways_count, hN, show i = N by omega]
  | succ d ih =>
    intro i h
    refine Ev.step (fun k => i_WaysWith_l5_eq k _ _ _ _ _) (Ev.yes (by simp) (Ev.yes (by rw [hpow]; simp; omega) (Ev.bind (i_riffled_ev n i hn (by omega)) (Ev.yes (by simp) (Ev.yes (by rw [riff_len, bits_len]; simp; omega) ?_)))))
    rw [Int.toNat_natCast, List.drop_zero]
    have hc : (List.range i).countP (wayB n p) ≤ i := by have := List.countP_le_length (p := wayB n p) (l := List.range i); simpa using this
    refine Ev.bind (Equal_int_ev _ _ (by rw [List.length_take, maxLen_eq]; omega) (by rw [maxLen_eq]; omega)) ?_
    rw [wrap_id (x := (i : Int) + 1) (by omega) (by omega), wrap_id (by omega) (by omega)]
    have ih' := ih (i + 1) (by omega)
    rw [List.range_succ, List.countP_append, List.countP_singleton] at ih'
    refine Ev.ite (fun c => ?_) (fun c => ?_)
    · have c' : wayB n p i = true := c
      rw [c', if_pos rfl] at ih'
      simpa using ih'
    · have c' : wayB n p i = false := c
      rw [c'] at ih'
      simpa using ih'
theorem i_WaysWith_ev (n : Int) (p : List Int) (hm : p.length ≤ maxLen) : Ev (fun k => i_WaysWith k (n, p)) (if isPre n p then (ways n.toNat p : Nat) else -1) := by
  refine Ev.step (fun k => i_WaysWith_eq k n p) (Ev.bind (i_isPrefix_ev n p hm) (Ev.ite (fun h => Ev.some ?_) (fun h => ?_)))
  · have : isPre n p = false := by simpa using h
    rw [this]; rfl
  · have hp : isPre n p = true := by simpa using h
    obtain ⟨h1, h2, h3, h4, h5⟩ := isPre_fit hp
    have en : n = ((n.toNat : Nat) : Int) := by omega
    rw [hp, if_pos rfl]
    have hu := i_upTo_ev n.toNat (by omega)
    rw [← en] at hu
    refine Ev.bind hu ?_
    have := i_WaysWith_l5_ev n.toNat _ p (by omega) rfl (by omega) (2 ^ n.toNat) 0 (by omega)
    rw [← en] at this
    simpa using this
end Qq
namespace Qq
open Go Go.Vt Pt
set_option linter.unusedVariables false
set_option linter.unusedSimpArgs false
/-- The ways with each next card; none where there is no next card. -/
def nextWays (n : Nat) (p : List Int) : List Int := (List.range n).map fun (x : Nat) => ((ways n (p ++ [(x : Int)]) : Nat) : Int)
def nextList (n : Int) (p : List Int) : List Int := if isPre n p then (if (p.length : Int) = n then [] else nextWays n.toNat p) else []
theorem nextWays_len (n : Nat) (p : List Int) : (nextWays n p).length = n := by simp [nextWays]
end Qq
namespace Qq
open Go Go.Vt Pt
set_option linter.unusedVariables false
set_option linter.unusedSimpArgs false
theorem riff_lt : ∀ (l : List Bool) (a b : Nat) (y : Int), a + zeros l ≤ b → y ∈ riff l a b → 0 ≤ y ∧ y < (b : Int) + ones l
  | [], a, b, y, _, h => by simp [riff] at h
  | false :: l, a, b, y, hz, h => by
    have z1 : zeros (false :: l) = zeros l + 1 := by simp [zeros]
    have z2 : ones (false :: l) = ones l := by simp [ones]
    rcases List.mem_cons.1 (show y ∈ (a : Int) :: riff l (a + 1) b from h) with e | h
    · omega
    · have := riff_lt l (a + 1) b y (by omega) h; omega
  | true :: l, a, b, y, hz, h => by
    have z1 : zeros (true :: l) = zeros l := by simp [zeros]
    have z2 : ones (true :: l) = ones l + 1 := by simp [ones]
    rcases List.mem_cons.1 (show y ∈ (b : Int) :: riff l a (b + 1) from h) with e | h
    · omega
    · have := riff_lt l a (b + 1) y (by omega) h; omega
/-- The riffle by the bits of w. -/
def rw_ (n w : Nat) : List Int := riff (bits n w) 0 (zeros (bits n w))
theorem rw_len (n w : Nat) : (rw_ n w).length = n := by rw [rw_, riff_len, bits_len]
theorem rw_lt (n w i : Nat) (h : i < n) : ∃ c : Nat, c < n ∧ (rw_ n w)[i]? = some (c : Int) := by
  have hl : i < (rw_ n w).length := by rw [rw_len]; exact h
  have := riff_lt (bits n w) 0 (zeros (bits n w)) (rw_ n w)[i] (by omega) (List.getElem_mem hl)
  have z := zo (bits n w)
  rw [bits_len] at z
  refine ⟨(rw_ n w)[i].toNat, by omega, ?_⟩
  rw [List.getElem?_eq_getElem hl]
  congr 1; omega
theorem way_next (n w : Nat) (p : List Int) (hl : p.length < n) (c : Nat) (hc : (rw_ n w)[p.length]? = some (c : Int)) (x : Nat) : wayB n (p ++ [(x : Int)]) w = (wayB n p w && (x == c)) := by
  have hlt : p.length < (rw_ n w).length := by rw [rw_len]; exact hl
  have e : (rw_ n w).take (p.length + 1) = (rw_ n w).take p.length ++ [(c : Int)] := by
    rw [List.take_succ_eq_append_getElem hlt]
    rw [List.getElem?_eq_getElem hlt] at hc
    injection hc with hc
    rw [hc]
  show ((rw_ n w).take (p ++ [(x : Int)]).length == p ++ [(x : Int)]) = ((rw_ n w).take p.length == p && (x == c))
  rw [List.length_append, List.length_singleton, e, Bool.eq_iff_iff]
  simp only [beq_iff_eq, Bool.and_eq_true]
  constructor
  · intro h
    have := List.append_inj h (by rw [List.length_take]; omega)
    refine ⟨this.1, ?_⟩
    have h2 := this.2
    simp at h2; omega
  · rintro ⟨h1, h2⟩
    rw [h1, h2]
def partWays (n : Nat) (p : List Int) (i : Nat) : List Int := (List.range n).map fun (x : Nat) => (((List.range i).countP (wayB n (p ++ [(x : Int)])) : Nat) : Int)
theorem partWays_len (n : Nat) (p : List Int) (i : Nat) : (partWays n p i).length = n := by simp [partWays]
theorem partWays_get (n : Nat) (p : List Int) (i x : Nat) (h : x < n) : (partWays n p i)[x]? = some (((List.range i).countP (wayB n (p ++ [(x : Int)])) : Nat) : Int) := by simp [partWays, h]
theorem partWays_next (n : Nat) (p : List Int) (i : Nat) (hl : p.length < n) (c : Nat) (hc : (rw_ n i)[p.length]? = some (c : Int)) (hcn : c < n) (hw : wayB n p i = true) : (partWays n p i).set c ((partWays n p i).getD c 0 + 1) = partWays n p (i + 1) := by
  apply List.ext_getElem?
  intro x
  rw [List.getElem?_set]
  by_cases hx : x < n
  · rw [partWays_get n p (i + 1) x hx, List.range_succ, List.countP_append, List.countP_singleton, way_next n i p hl c hc x, hw]
    by_cases e : c = x
    · subst e
      have hg : (partWays n p i).getD c 0 = (((List.range i).countP (wayB n (p ++ [(c : Int)])) : Nat) : Int) := by rw [List.getD, partWays_get n p i c hx]; rfl
      rw [if_pos rfl, hg, partWays_len, if_pos hx]
      simp
    · have : ¬ x = c := fun h => e h.symm
      simp [e, this, partWays_get n p i x hx]
  · have h1 : ¬ c = x := by omega
    rw [if_neg h1, List.getElem?_eq_none (by rw [partWays_len]; omega), List.getElem?_eq_none (by rw [partWays_len]; omega)]
theorem partWays_same (n : Nat) (p : List Int) (i : Nat) (hl : p.length < n) (hw : wayB n p i = false) : partWays n p i = partWays n p (i + 1) := by
  unfold partWays
  apply List.map_congr_left
  intro x hx
  obtain ⟨c, hcn, hc⟩ := rw_lt n i p.length hl
  rw [List.range_succ, List.countP_append, List.countP_singleton, way_next n i p hl c hc x, hw]
  simp
theorem i_NextWays_l5_ev (n N : Nat) (p : List Int) (h1 : 1 ≤ n) (hn : n ≤ 12) (hN : 2 ^ n = N) (hp : p.length < n) : ∀ (d i : Nat), i + d = N →
    Ev (fun k => i_NextWays_l5 k (n : Int) p (i : Int) (upTo n) (partWays n p i)) (nextWays n p) := by
  obtain ⟨hpow, hle⟩ := two_pow n N hn hN
  intro d
  induction d with
  | zero =>
    intro i h
    refine Ev.step (fun k => i_NextWays_l5_eq k _ _ _ _ _) (Ev.yes (by simp) (Ev.no (by rw [hpow]; simp; omega) (Ev.yes ?_ (Ev.some ?_))))
    · have := partWays_len n p i
      cases hx : partWays n p i with
      | nil => rw [hx] at this; simp at this; omega
      | cons => rfl
    · have e : i = N := by omega
      rw [e, ← hN]; rfl
  | succ d ih =>
    intro i h
    obtain ⟨c, hcn, hc⟩ := rw_lt n i p.length hp
    have hg : ∀ dd, (rw_ n i).getD p.length dd = (c : Int) := fun dd => by rw [List.getD, hc]; rfl
    refine Ev.step (fun k => i_NextWays_l5_eq k _ _ _ _ _) (Ev.yes (by simp) (Ev.yes (by rw [hpow]; simp; omega) (Ev.bind (i_riffled_ev n i hn (by omega)) (Ev.yes (by simp) (Ev.yes (by rw [riff_len, bits_len]; simp; omega) ?_)))))
    rw [Int.toNat_natCast, List.drop_zero]
    refine Ev.bind (Equal_int_ev _ _ (by rw [List.length_take, maxLen_eq]; omega) (by rw [maxLen_eq]; omega)) ?_
    rw [wrap_id (x := (i : Int) + 1) (by omega) (by omega)]
    have hrw : riff (bits n i) 0 (zeros (bits n i)) = rw_ n i := rfl
    rw [hrw, hg 0, Int.toNat_natCast]
    have hin : wayB n p i = ((rw_ n i).take p.length == p) := rfl
    have ih' := ih (i + 1) (by omega)
    refine Ev.ite (fun cc => ?_) (fun cc => ?_)
    · rw [← hin] at cc
      have hnum : (partWays n p i).getD c 0 ≤ i := by
        rw [List.getD, partWays_get n p i c hcn]
        have := List.countP_le_length (p := wayB n (p ++ [(c : Int)])) (l := List.range i)
        simp at this ⊢; omega
      have hnum2 : 0 ≤ (partWays n p i).getD c 0 := by
        rw [List.getD, partWays_get n p i c hcn]; simp
      have L := partWays_len n p i
      refine Ev.yes (by simp) (Ev.yes (by rw [rw_len]; simp; omega) (Ev.yes (by simp) (Ev.yes (by rw [L]; simp; omega) (Ev.yes (by rw [L]; simp; omega) (Ev.yes (by simp) (Ev.yes (by rw [L]; simp; omega) (Ev.yes (by rw [L]; simp; omega) ?_)))))))
      rw [wrap_id (by omega) (by omega), partWays_next n p i hp c hc hcn cc]
      exact_mod_cast ih'
    · rw [← hin] at cc
      rw [partWays_same n p i hp cc]
      exact_mod_cast ih'
theorem i_NextWays_ev (n : Int) (p : List Int) (hm : p.length ≤ maxLen) : Ev (fun k => i_NextWays k (n, p)) (nextList n p) := by
  refine Ev.step (fun k => i_NextWays_eq k n p) (Ev.bind (i_isPrefix_ev n p hm) (Ev.ite (fun h => Ev.some ?_) (fun h => Ev.ite (fun h' => Ev.some ?_) (fun h' => ?_))))
  · have : isPre n p = false := by simpa using h
    simp [nextList, this]
  · have : (p.length : Int) = n := by simpa using h'
    simp [nextList, this]
  · have hp : isPre n p = true := by simpa using h
    have hne : ¬ (p.length : Int) = n := by simpa using h'
    obtain ⟨h1, h2, h3, h4, h5⟩ := isPre_fit hp
    have en : n = ((n.toNat : Nat) : Int) := by omega
    unfold nextList
    rw [if_pos hp, if_neg hne]
    have hu := i_upTo_ev n.toNat (by omega)
    rw [← en] at hu
    refine Ev.bind hu (Ev.yes (by simp; omega) (Ev.yes (by rw [rowMax_eq]; simp; omega) (Ev.yes (by simp) ?_)))
    have := i_NextWays_l5_ev n.toNat _ p (by omega) (by omega) rfl (by omega) (2 ^ n.toNat) 0 (by omega)
    have e0 : partWays n.toNat p 0 = List.replicate n.toNat 0 := by
      apply List.ext_getElem?
      intro x
      simp [partWays, List.getElem?_replicate]
      by_cases hx : x < n.toNat
      · simp [hx]; omega
      · simp [hx]; omega
    rw [e0, ← en] at this
    simpa using this
end Qq
namespace Qq
open Go Go.Vt Pt
set_option linter.unusedVariables false
set_option linter.unusedSimpArgs false
def mx (v y : Int) : Int := bif decide (y > v) then y else v
def maxF (v : Int) (r : List Int) : Int := r.foldl mx v
theorem mx_ge (v y : Int) : v ≤ mx v y ∧ y ≤ mx v y ∧ (mx v y = v ∨ mx v y = y) := by
  unfold mx
  by_cases h : y > v
  · simp [h]; omega
  · simp [h]; omega
theorem maxF_ge : ∀ (r : List Int) (v : Int), v ≤ maxF v r
  | [], v => by simp [maxF]
  | y :: r, v => by
    have := maxF_ge r (mx v y)
    have := mx_ge v y
    show v ≤ maxF (mx v y) r
    omega
theorem Max_int_l5_ev (xs : List Int) (hm : xs.length ≤ maxLen) : ∀ (r : List Int) (i : Nat) (v : Int), xs.drop i = r → Ev (fun k => slices_Max_int_l5 k xs v (i : Int)) (maxF v r)
  | [], i, v, h => by
    have a := at_nil h
    refine Ev.step (fun k => slices_Max_int_l5_eq k xs v i) ?_
    simp only [a.g, cond_false]
    exact Ev.pure _
  | y :: r, i, v, h => by
    have a := at_cons h hm
    refine Ev.step (fun k => slices_Max_int_l5_eq k xs v i) ?_
    simp only [a.g, a.z, a.get, a.w, cond_true]
    exact Max_int_l5_ev xs hm r (i + 1) _ a.next
theorem Max_int_ev (x : Int) (r : List Int) (hm : (x :: r).length ≤ maxLen) : Ev (fun k => slices_Max_int k (x :: r)) (maxF x r) := by
  refine Ev.step (fun k => slices_Max_int_eq k _) (Ev.no (by simp; omega) (Ev.yes (by simp) ?_))
  exact Max_int_l5_ev (x :: r) hm r 1 x rfl
theorem Max_pos_ev (xs : List Int) (hm : xs.length ≤ maxLen) (hne : xs ≠ []) (hp : ∀ x ∈ xs, 0 ≤ x) : Ev (fun k => slices_Max_int k xs) (maxF 0 xs) := by
  cases xs with
  | nil => exact absurd rfl hne
  | cons x r =>
    refine (Max_int_ev x r hm).to ?_
    have hx : 0 ≤ x := hp x (by simp)
    show _ = maxF (mx 0 x) r
    have : mx 0 x = x := by unfold mx; by_cases h : x > 0 <;> simp [h]; omega
    rw [this]
end Qq
namespace Qq
open Go Go.Vt Pt
set_option linter.unusedVariables false
set_option linter.unusedSimpArgs false
/-- The first place of a number greater than all ahead, and than most. -/
def bestF : Int → Int → Nat → List Int → Int
  | b, _, _, [] => b
  | b, m, i, y :: r => if y > m then bestF i y (i + 1) r else bestF b m (i + 1) r
theorem bestF_eq : ∀ (r : List Int) (b m : Int) (i : Nat), bestF b m i r = if maxF m r > m then idx (maxF m r) i r else b
  | [], b, m, i => by simp [bestF, maxF]
  | y :: r, b, m, i => by
    unfold bestF idx
    show _ = if maxF (mx m y) r > m then _ else b
    have hf : maxF m (y :: r) = maxF (mx m y) r := rfl
    rw [hf]
    by_cases h : y > m
    · have e : mx m y = y := by unfold mx; simp [h]
      have hg := maxF_ge r y
      rw [if_pos h, e, bestF_eq r i y (i + 1), if_pos (show maxF y r > m by omega)]
      by_cases h2 : maxF y r > y
      · rw [if_pos h2, if_neg (by omega)]
      · rw [if_neg h2, if_pos (by omega)]
    · have e : mx m y = m := by unfold mx; simp [h]
      rw [if_neg h, e, bestF_eq r b m (i + 1)]
      by_cases h2 : maxF m r > m
      · rw [if_pos h2, if_pos h2, if_neg (by omega)]
      · rw [if_neg h2, if_neg h2]
def bestGuess (n : Int) (p : List Int) : Int := bestF (-1) 0 0 (nextList n p)
theorem nextList_len (n : Int) (p : List Int) : (nextList n p).length ≤ 12 := by
  unfold nextList
  split
  · rename_i h
    have := isPre_fit h
    split
    · simp
    · rw [nextWays_len]; omega
  · simp
theorem nextList_pos (n : Int) (p : List Int) : ∀ x ∈ nextList n p, 0 ≤ x := by
  unfold nextList nextWays
  intro x hx
  split at hx
  · split at hx
    · cases hx
    · obtain ⟨y, _, rfl⟩ := List.mem_map.1 hx
      simp
  · cases hx
theorem i_BestGuess_ev (n : Int) (p : List Int) (hm : p.length ≤ maxLen) : Ev (fun k => i_BestGuess k (n, p)) (bestGuess n p) := by
  refine Ev.step (fun k => i_BestGuess_eq k n p) (Ev.bind (i_NextWays_ev n p hm) ?_)
  have hl := nextList_len n p
  have hp := nextList_pos n p
  unfold bestGuess
  rw [bestF_eq]
  revert hl hp
  cases nextList n p with
  | nil => intro _ _; exact Ev.yes rfl (Ev.some rfl)
  | cons x r =>
    intro hl hp
    have hm' : (x :: r).length ≤ maxLen := by rw [maxLen_eq]; omega
    have hx : 0 ≤ x := hp x (by simp)
    have e : maxF 0 (x :: r) = maxF x r := by
      show maxF (mx 0 x) r = _
      have : mx 0 x = x := by unfold mx; by_cases h : x > 0 <;> simp [h]; omega
      rw [this]
    have hg := maxF_ge r x
    rw [e]
    refine Ev.no rfl (Ev.bind (Max_int_ev x r hm') (Ev.ite (fun c => Ev.some ?_) (fun c => Ev.bind (Max_int_ev x r hm') (Ev.bind (Index_int_ev _ _ hm') (Ev.some ?_)))))
    · have : maxF x r = 0 := by simpa using c
      rw [if_neg (by omega)]
    · have : ¬ maxF x r = 0 := by simpa using c
      rw [if_pos (by omega)]
end Qq
namespace Qq
open Go Go.Vt Pt
set_option linter.unusedVariables false
set_option linter.unusedSimpArgs false
end Qq
namespace Qq
open Go Go.Vt Pt
set_option linter.unusedVariables false
set_option linter.unusedSimpArgs false
end Qq
namespace Qq
open Go Go.Vt Pt
set_option linter.unusedVariables false
set_option linter.unusedSimpArgs false
theorem s_NewPacket_l5_ev (n : Nat) (hn : 1 ≤ n) (hm : n ≤ 12) : ∀ (d i : Nat), i + d = n → Ev (fun k => s_NewPacket_l5 k (n : Int) (i : Int) (upTo i)) (upTo n)
  | 0, i, h => by
    have e : i = n := by omega
    subst e
    refine Ev.step (fun k => s_NewPacket_l5_eq k _ _ _) ?_
    rw [at_end (by omega)]
    refine Ev.no rfl (Ev.yes ?_ (Ev.pure _))
    have : (upTo i).length = i := by simp [upTo]
    cases hx : upTo i with
    | nil => rw [hx] at this; simp at this; omega
    | cons => rfl
  | d + 1, i, h => by
    have u := at_up (n := (n : Int)) (i := i) (by omega) (by omega)
    refine Ev.step (fun k => s_NewPacket_l5_eq k _ _ _) ?_
    simp only [u.g, u.w, cond_true]
    refine Ev.yes (by rw [rowMax_eq]; simp [upTo]; omega) ?_
    have := s_NewPacket_l5_ev n hn hm d (i + 1) (by omega)
    have e : upTo (i + 1) = upTo i ++ [(i : Int)] := by simp [upTo, List.range_succ]
    rw [e] at this
    exact this
end Qq
namespace Qq
open Go Go.Vt Pt
set_option linter.unusedVariables false
set_option linter.unusedSimpArgs false
def permOk (a : List Int) : Bool := decide (a.length ≤ 12) && preOk a.length [] a
theorem take_at {xs : List Int} {i : Nat} {x : Int} {r : List Int} (a : AtCons xs i x r) : xs.take (i + 1) = xs.take i ++ [x] := by
  have hlt := a.lt
  have e : xs[i] = x := by have := a.get 0; rw [Int.toNat_natCast, List.getD, List.getElem?_eq_getElem hlt] at this; exact this
  rw [List.take_succ_eq_append_getElem hlt, e]
theorem i_PermOk_l2_ev (xs : List Int) (hm : xs.length ≤ maxLen) : ∀ (r : List Int) (i : Nat), xs.drop i = r → Ev (fun k => i_PermOk_l2 k xs xs (xs.length : Int) (i : Int)) (decide (xs.length ≤ 12) && preOk xs.length (xs.take i) r)
  | [], i, h => by
    have a := at_nil h
    refine Ev.step (fun k => i_PermOk_l2_eq k _ _ _ _) ?_
    simp only [a.g, cond_false]
    exact Ev.some (by unfold preOk; rw [Bool.and_true, Bool.eq_iff_iff]; simp; omega)
  | x :: r, i, h => by
    have a := at_cons h hm
    have hlt := a.lt
    have ih := i_PermOk_l2_ev xs hm r (i + 1) a.next
    rw [take_at a] at ih
    refine Ev.step (fun k => i_PermOk_l2_eq k _ _ _ _) ?_
    simp only [a.g, a.z, a.get, a.w, cond_true]
    unfold preOk
    refine Ev.ite (fun h => Ev.some ?_) (fun h => Ev.ite (fun h2 => Ev.some ?_) (fun h2 => ?_))
    · have : ¬ 0 ≤ x := by simp at h; omega
      simp [this]
    · have : ¬ x < (xs.length : Int) := by simp at h2; omega
      simp [this]
    · have hx : 0 ≤ x ∧ x < (xs.length : Int) := by simp at h h2; omega
      refine Ev.yes (by simp; omega) ?_
      rw [List.drop_zero, Int.toNat_natCast]
      have e1 : decide (0 ≤ x) = true := by simp [hx.1]
      have e2 : decide (x < (xs.length : Int)) = true := by simp [hx.2]
      rw [e1, e2]
      refine Ev.bind (Contains_int_ev _ x (Nat.le_trans (by rw [List.length_take]; omega) hm)) (Ev.ite (fun h => Ev.some ?_) (fun h => ih.to ?_))
      · rw [h]; simp
      · rw [h]; rfl
theorem i_PermOk_ev (a : List Int) (hm : a.length ≤ maxLen) : Ev (fun k => i_PermOk k a) (permOk a) :=
  Ev.step (fun k => i_PermOk_eq k a) (i_PermOk_l2_ev a hm a 0 rfl)
/-- A permutation: different numbers below its length, at most 12. -/
theorem perm_fit {a : List Int} (h : permOk a = true) : a.length ≤ 12 ∧ a.Nodup ∧ (∀ x ∈ a, 0 ≤ x ∧ x < (a.length : Int)) := by
  unfold permOk at h
  rw [Bool.and_eq_true, decide_eq_true_eq] at h
  obtain ⟨k1, k2⟩ := preOk_nodup a.length a [] List.nodup_nil h.2
  exact ⟨h.1, by simpa using k1, k2⟩
theorem perm_all {a : List Int} (h : permOk a = true) (y : Int) (h0 : 0 ≤ y) (h1 : y < (a.length : Int)) : y ∈ a := by
  obtain ⟨_, k1, k2⟩ := perm_fit h
  by_cases hm : y ∈ a
  · exact hm
  · exfalso
    have := nodup_len a.length (y :: a) (List.nodup_cons.2 ⟨hm, k1⟩) (fun x hx => by
      rcases List.mem_cons.1 hx with rfl | hx
      · exact ⟨h0, h1⟩
      · exact k2 x hx)
    rw [List.length_cons] at this
    omega
end Qq
namespace Qq
open Go Go.Vt Pt
set_option linter.unusedVariables false
set_option linter.unusedSimpArgs false
theorem idx_at (c : Int) : ∀ (r : List Int) (i j : Nat), r.Nodup → r[j]? = some c → idx c i r = ((i + j : Nat) : Int)
  | [], i, j, _, h => by simp at h
  | y :: r, i, 0, hn, h => by
    simp at h
    subst h
    unfold idx
    rw [if_pos rfl]; simp
  | y :: r, i, j + 1, hn, h => by
    rw [List.nodup_cons] at hn
    have hm : c ∈ r := List.mem_of_getElem? (by simpa using h)
    have hne : ¬ c = y := fun e => hn.1 (e ▸ hm)
    unfold idx
    rw [if_neg hne, idx_at c r (i + 1) j hn.2 (by simpa using h)]
    congr 1; omega
def at_ (a : List Int) (n : Nat) : Int := idx (n : Int) 0 a
theorem at_spec {a : List Int} (h : permOk a = true) (n : Nat) (hn : n < a.length) : ∃ j, j < a.length ∧ a[j]? = some (n : Int) ∧ at_ a n = (j : Int) := by
  obtain ⟨j, hj⟩ := List.getElem?_of_mem (perm_all h (n : Int) (by omega) (by omega))
  refine ⟨j, ?_, hj, ?_⟩
  · rcases Nat.lt_or_ge j a.length with h1 | h1
    · exact h1
    · rw [List.getElem?_eq_none h1] at hj; cases hj
  · have := idx_at (n : Int) a 0 j (perm_fit h).2.1 hj
    rw [Nat.zero_add] at this
    exact this
theorem at_ne {a : List Int} (h : permOk a = true) (n m : Nat) (hn : n < a.length) (hm : m < a.length) (hne : n ≠ m) : at_ a n ≠ at_ a m := by
  obtain ⟨j, _, e1, e2⟩ := at_spec h n hn
  obtain ⟨l, _, f1, f2⟩ := at_spec h m hm
  intro e
  rw [e2, f2] at e
  have : j = l := by omega
  subst this
  rw [e1] at f1
  injection f1 with f1
  omega
def invPart (a : List Int) (i : Nat) : List Int := (List.range a.length).map fun (x : Nat) => if (x : Int) ∈ a.take i then at_ a x else 0
theorem invPart_len (a : List Int) (i : Nat) : (invPart a i).length = a.length := by simp [invPart]
theorem invPart_set {a : List Int} (h : permOk a = true) {i : Nat} {x : Int} {r : List Int} (q : AtCons a i x r) : (invPart a i).set x.toNat (i : Int) = invPart a (i + 1) := by
  obtain ⟨h1, h2, h3⟩ := perm_fit h
  have hlt := q.lt
  have e : a[i] = x := by have := q.get 0; rw [Int.toNat_natCast, List.getD, List.getElem?_eq_getElem hlt] at this; exact this
  have hx := h3 x (e ▸ List.getElem_mem hlt)
  have hxi : a[i]? = some x := by rw [List.getElem?_eq_getElem hlt, e]
  apply List.ext_getElem?
  intro y
  rw [List.getElem?_set, invPart_len]
  by_cases hy : y < a.length
  · have g : (invPart a (i + 1))[y]? = some (if (y : Int) ∈ a.take (i + 1) then at_ a y else 0) := by simp [invPart, hy]
    have g2 : (invPart a i)[y]? = some (if (y : Int) ∈ a.take i then at_ a y else 0) := by simp [invPart, hy]
    rw [g, g2, take_at q]
    by_cases exy : x.toNat = y
    · have exy' : (y : Int) = x := by omega
      rw [if_pos exy, if_pos (by omega), if_pos (by rw [exy']; simp)]
      congr 1
      have := idx_at (y : Int) a 0 i h2 (by rw [exy']; exact hxi)
      unfold at_
      simpa using this.symm
    · have exy' : ¬ (y : Int) = x := by omega
      rw [if_neg exy]
      congr 1
      simp [exy']
  · rw [if_neg (by omega), List.getElem?_eq_none (by rw [invPart_len]; omega), List.getElem?_eq_none (by rw [invPart_len]; omega)]
theorem inverse_l3_ev {a : List Int} (h : permOk a = true) : ∀ (r : List Int) (i : Nat), a.drop i = r → Ev (fun k => i_inverse_l3 k a (a.length : Int) (i : Int) (invPart a i)) (invPart a a.length)
  | [], i, hd => by
    have q := at_nil hd
    refine Ev.step (fun k => i_inverse_l3_eq k _ _ _ _) ?_
    simp only [q.g, cond_false]
    exact Ev.some (by unfold invPart; rw [List.take_of_length_le q.ge, List.take_of_length_le (Nat.le_refl _)])
  | x :: r, i, hd => by
    obtain ⟨h1, h2, h3⟩ := perm_fit h
    have q := at_cons hd (by rw [maxLen_eq]; omega)
    have hx := h3 x (List.mem_of_mem_drop (hd ▸ List.mem_cons_self))
    have ih := inverse_l3_ev h r (i + 1) q.next
    rw [← invPart_set h q] at ih
    refine Ev.step (fun k => i_inverse_l3_eq k _ _ _ _) ?_
    simp only [q.g, q.z, q.get, q.w, cond_true]
    have L := invPart_len a i
    exact Ev.yes (by simpa using hx.1) (Ev.yes (by rw [L]; simpa using hx.2) (Ev.yes (by rw [L]; simp; omega) ih))
def invL (a : List Int) : List Int := (List.range a.length).map fun (x : Nat) => at_ a x
theorem inverse_ev {a : List Int} (h : permOk a = true) : Ev (fun k => i_inverse k a) (invL a) := by
  obtain ⟨h1, _, _⟩ := perm_fit h
  refine Ev.step (fun k => i_inverse_eq k a) (Ev.yes (by simp) (Ev.yes (by rw [rowMax_eq]; simp; omega) (Ev.yes (by simp) ?_)))
  have e0 : List.replicate (a.length : Int).toNat (0 : Int) = invPart a 0 := by
    unfold invPart
    apply List.ext_getElem?
    intro x
    simp [List.getElem?_replicate]
    by_cases hx : x < a.length
    · simp [hx]
    · simp [hx]
  rw [e0]
  refine (inverse_l3_ev h a 0 rfl).to ?_
  unfold invPart invL
  apply List.map_congr_left
  intro x hx
  rw [List.mem_range] at hx
  rw [List.take_of_length_le (Nat.le_refl _), if_pos (perm_all h (x : Int) (by omega) (by omega))]
theorem invL_get {a : List Int} {n : Nat} (h : n < a.length) (d : Int) : (invL a).getD n d = at_ a n := by
  simp [invL, List.getD, h]
def rsNext (out : List (List Int)) (i : Nat) (new : Bool) : List (List Int) :=
  if new then out ++ [[(i : Int)]] else out.set (out.length - 1) (out.getD (out.length - 1) [] ++ [(i : Int)])
def newB (a : List Int) (i : Nat) : Bool := i == 0 || !decide (at_ a i > at_ a (i - 1))
def rsN (a : List Int) : Nat → List (List Int)
  | 0 => []
  | i + 1 => rsNext (rsN a i) i (newB a i)
theorem rsN_new {a : List Int} {i : Nat} (h : newB a i = true) : rsN a (i + 1) = rsN a i ++ [[(i : Int)]] := by
  show rsNext _ _ _ = _
  rw [h]; rfl
theorem rsN_old {a : List Int} {i : Nat} (h : newB a i = false) : rsN a (i + 1) = (rsN a i).set ((rsN a i).length - 1) ((rsN a i).getD ((rsN a i).length - 1) [] ++ [(i : Int)]) := by
  show rsNext _ _ _ = _
  rw [h]; rfl
theorem rsN_fit (a : List Int) : ∀ i, (rsN a i).length ≤ i ∧ (1 ≤ i → 1 ≤ (rsN a i).length) ∧ ∀ l ∈ rsN a i, l.length ≤ i
  | 0 => ⟨Nat.le_refl _, fun h => h, fun l hl => by cases hl⟩
  | i + 1 => by
    obtain ⟨h1, h2, h3⟩ := rsN_fit a i
    unfold rsN rsNext
    split
    · refine ⟨by simp; omega, fun _ => by simp, fun l hl => ?_⟩
      rcases List.mem_append.1 hl with hl | hl
      · have := h3 l hl; omega
      · simp at hl; subst hl; simp
    · rename_i hb
      have hi : 1 ≤ i := by
        rcases Nat.eq_zero_or_pos i with e | e
        · subst e; simp [newB] at hb
        · exact e
      have hg : ((rsN a i).getD ((rsN a i).length - 1) []).length ≤ i := by
        have hlt : (rsN a i).length - 1 < (rsN a i).length := by have := h2 hi; omega
        rw [List.getD, List.getElem?_eq_getElem hlt]
        exact h3 _ (List.getElem_mem hlt)
      refine ⟨by simp; omega, fun _ => by rw [List.length_set]; exact h2 hi, fun l hl => ?_⟩
      rcases List.mem_or_eq_of_mem_set hl with hl | rfl
      · have := h3 l hl; omega
      · simp; exact hg
theorem i_Rising_l6_ev {a : List Int} (h : permOk a = true) : ∀ (d i : Nat), i + d = a.length → Ev (fun k => i_RisingSequences_l6 k (a.length : Int) (i : Int) (rsN a i) (invL a)) (rsN a a.length)
  | 0, i, hd => by
    refine Ev.step (fun k => i_RisingSequences_l6_eq k _ _ _ _) ?_
    rw [at_end (by omega)]
    have e : i = a.length := by omega
    exact Ev.some (by rw [e])
  | d + 1, i, hd => by
    obtain ⟨h1, _, _⟩ := perm_fit h
    have u := at_up (n := (a.length : Int)) (i := i) (by omega) (by omega)
    have ih := i_Rising_l6_ev h d (i + 1) (by omega)
    obtain ⟨f1, f2, f3⟩ := rsN_fit a i
    have hL : (invL a).length = a.length := by simp [invL]
    have e0 : ((rsN a i ++ [[]]).length : Int) - 1 = ((rsN a i).length : Int) := by simp
    have e1 : IntKind.i64.wrap (((rsN a i ++ [[]]).length : Int) - 1) = ((rsN a i).length : Int) := by rw [e0, wrap_id (by omega) (by omega)]
    have e2 : (rsN a i ++ [[]]).getD ((rsN a i).length : Int).toNat [] = [] := by
      rw [Int.toNat_natCast, List.getD, List.getElem?_append_right (Nat.le_refl _)]; simp
    have e3 : (rsN a i ++ [[]]).set ((rsN a i).length : Int).toNat ([] ++ [(i : Int)]) = rsN a i ++ [[(i : Int)]] := by
      rw [Int.toNat_natCast, List.set_append_right _ _ (Nat.le_refl _)]; simp
    refine Ev.step (fun k => i_RisingSequences_l6_eq k _ _ _ _) ?_
    simp only [u.g, u.w, u.z, e1, e2, e3, cond_true]
    refine Ev.ite (fun hi => ?_) (fun hi => ?_)
    · have hi' : i = 0 := by simpa using hi
      have hnew : newB a i = true := by unfold newB; rw [hi']; rfl
      rw [rsN_new hnew] at ih
      exact Ev.yes (by rw [rowMax_eq]; simp; omega) (Ev.yes (by simp) (Ev.yes (by simp; omega) (Ev.yes (by simp) (Ev.yes (by rw [rowMax_eq]; simp) (Ev.yes (by simp) (Ev.yes (by simp; omega) (Ev.yes (by simp) ih)))))))
    · have hi' : ¬ i = 0 := by simpa using hi
      have e4 : (i : Int) - 1 = ((i - 1 : Nat) : Int) := by omega
      rw [e4, wrap_id (x := ((i - 1 : Nat) : Int)) (by omega) (by omega), Int.toNat_natCast, Int.toNat_natCast, invL_get (by omega), invL_get (by omega)]
      refine Ev.yes (by rw [hL]; simp; omega) (Ev.yes (by rw [hL]; simp; omega) (Ev.yes (by simp) (Ev.yes (by rw [hL]; simp; omega) (Ev.yes (by rw [hL]; simp; omega) (Ev.ite (fun hlt => ?_) (fun hlt => ?_))))))
      · have hnew : newB a i = true := by
          unfold newB
          have : ¬ at_ a i > at_ a (i - 1) := by simp at hlt; omega
          simp [this]
        rw [rsN_new hnew] at ih
        exact Ev.yes (by rw [rowMax_eq]; simp; omega) (Ev.yes (by simp) (Ev.yes (by simp; omega) (Ev.yes (by simp) (Ev.yes (by rw [rowMax_eq]; simp) (Ev.yes (by simp) (Ev.yes (by simp; omega) (Ev.yes (by simp) ih)))))))
      · have hne := at_ne h i (i - 1) (by omega) (by omega) (by omega)
        have hnew : newB a i = false := by
          unfold newB
          have : at_ a i > at_ a (i - 1) := by simp at hlt; omega
          simp [this, hi']
        have hl1 := f2 (by omega)
        have hlt2 : (rsN a i).length - 1 < (rsN a i).length := by omega
        have e5 : ((rsN a i).length : Int) - 1 = (((rsN a i).length - 1 : Nat) : Int) := by omega
        have hg : ((rsN a i).getD ((rsN a i).length - 1) []).length ≤ i := by
          rw [List.getD, List.getElem?_eq_getElem hlt2]
          exact f3 _ (List.getElem_mem hlt2)
        rw [rsN_old hnew] at ih
        rw [e5, wrap_id (by omega) (by omega), Int.toNat_natCast]
        exact Ev.yes (by simp) (Ev.yes (by simp; omega) (Ev.yes (by simp; omega) (Ev.yes (decide_eq_true (by rw [rowMax_eq, List.length_singleton]; omega)) (Ev.yes (by simp) (Ev.yes (by simp; omega) (Ev.yes (by simp) ih))))))
def rising (a : List Int) : List (List Int) := if permOk a then rsN a a.length else []
theorem i_Rising_ev (a : List Int) (hm : a.length ≤ maxLen) : Ev (fun k => i_RisingSequences k a) (rising a) := by
  unfold rising
  refine Ev.step (fun k => i_RisingSequences_eq k a) (Ev.bind (i_PermOk_ev a hm) (Ev.ite (fun h => Ev.some ?_) (fun h => ?_)))
  · have : permOk a = false := by simpa using h
    rw [this]; rfl
  · have e : permOk a = true := by simpa using h
    rw [if_pos e]
    exact Ev.bind (inverse_ev e) (i_Rising_l6_ev e a.length 0 (by omega))
def isRiffle (a : List Int) : Bool := permOk a && decide ((rising a).length ≤ 2)
theorem i_IsRiffle_ev (a : List Int) (hm : a.length ≤ maxLen) : Ev (fun k => i_IsRiffle k a) (isRiffle a) := by
  unfold isRiffle
  refine Ev.step (fun k => i_IsRiffle_eq k a) (Ev.bind (i_PermOk_ev a hm) (Ev.ite (fun h => Ev.bind (i_Rising_ev a hm) (Ev.some ?_)) (fun h => Ev.some ?_)))
  · rw [h, Bool.true_and, Bool.eq_iff_iff]; simp; omega
  · rw [h]; rfl
end Qq
namespace Qq
open Go Go.Vt Pt
set_option linter.unusedVariables false
set_option linter.unusedSimpArgs false
def runF (a : List Int) : Nat → List Int → Int → Int
  | _, [], v => v
  | i, x :: r, v => runF a (i + 1) r (if bestGuess a.length (a.take i) = x then IntKind.i64.wrap (v + 1) else v)
theorem i_GuessRun_l5_ev (a : List Int) (hm : a.length ≤ 8) : ∀ (r : List Int) (i : Nat) (v : Int), a.drop i = r → Ev (fun k => i_GuessRun_l5 k a v a (a.length : Int) (i : Int)) (runF a i r v)
  | [], i, v, h => by
    have q := at_nil h
    refine Ev.step (fun k => i_GuessRun_l5_eq k _ _ _ _ _) ?_
    simp only [q.g, cond_false]
    exact Ev.pure _
  | x :: r, i, v, h => by
    have q := at_cons h (by rw [maxLen_eq]; omega)
    have hlt := q.lt
    refine Ev.step (fun k => i_GuessRun_l5_eq k _ _ _ _ _) ?_
    simp only [q.g, q.z, q.get, q.w, cond_true]
    unfold runF
    refine Ev.yes (by simp; omega) ?_
    rw [List.drop_zero, Int.toNat_natCast]
    refine Ev.bind (i_BestGuess_ev _ _ (by rw [maxLen_eq, List.length_take]; omega)) (Ev.ite (fun c => ?_) (fun c => ?_))
    · rw [if_pos (by simpa using c)]
      exact i_GuessRun_l5_ev a hm r (i + 1) _ q.next
    · rw [if_neg (by simpa using c)]
      exact i_GuessRun_l5_ev a hm r (i + 1) _ q.next
def guessRun (a : List Int) : Int := if isRiffle a = true ∧ 1 ≤ a.length ∧ a.length ≤ 8 then runF a 0 a 0 else -1
theorem i_GuessRun_ev (a : List Int) (hm : a.length ≤ maxLen) : Ev (fun k => i_GuessRun k a) (guessRun a) := by
  unfold guessRun
  refine Ev.step (fun k => i_GuessRun_eq k a) (Ev.bind (i_IsRiffle_ev a hm) (Ev.ite (fun h => Ev.some ?_) (fun h => Ev.ite (fun h2 => Ev.some ?_) (fun h2 => Ev.ite (fun h3 => Ev.some ?_) (fun h3 => ?_)))))
  · have : isRiffle a = false := by simpa using h
    rw [if_neg (by rw [this]; simp)]
  · rw [if_neg (by simp at h2; omega)]
  · rw [if_neg (by simp at h3; omega)]
  · have e : isRiffle a = true := by simpa using h
    rw [if_pos ⟨e, by simp at h2; omega, by simp at h3; omega⟩]
    exact i_GuessRun_l5_ev a (by simp at h3; omega) a 0 0 rfl
end Qq
namespace Qq
open Go Go.Vt Pt
set_option linter.unusedVariables false
set_option linter.unusedSimpArgs false
/-- The sum over the places of positive numbers. -/
def tsum (T : Int → Int) : List Int → Nat → Int → Int
  | [], _, v => v
  | k :: r, i, v => tsum T r (i + 1) (if k > 0 then IntKind.i64.wrap (v + T i) else v)
def tot (n : Int) : Nat → List Int → Int
  | 0, _ => 0
  | f + 1, p => tsum (fun x => tot n f (p ++ [x])) (nextList n p) 0 (maxF 0 (nextList n p))
theorem nextList_lt (n : Int) (p : List Int) : ∀ x ∈ nextList n p, x ≤ 4096 := by
  intro x hx
  unfold nextList at hx
  split at hx
  · rename_i hp
    have h1 := isPre_fit hp
    split at hx
    · cases hx
    · have e : nextWays n.toNat p = partWays n.toNat p (2 ^ n.toNat) := rfl
      rw [e] at hx
      obtain ⟨y, _, rfl⟩ := List.mem_map.1 hx
      have := List.countP_le_length (p := wayB n.toNat (p ++ [(y : Int)])) (l := List.range (2 ^ n.toNat))
      rw [List.length_range] at this
      have : 2 ^ n.toNat ≤ 2 ^ 12 := Nat.pow_le_pow_right (by omega) (by omega)
      omega
  · cases hx
theorem nextList_end {n : Int} {p : List Int} (h : n ≤ p.length) : nextList n p = [] := by
  unfold nextList
  split
  · rename_i hp
    have := isPre_fit hp
    rw [if_pos (by omega)]
  · rfl
theorem i_total_ev (n : Int) : ∀ (f : Nat) (p : List Int), n ≤ (p.length : Int) + f → p.length ≤ 13 → Ev (fun k => i_total k (n, p)) (tot n f p) := by
  intro f
  induction f with
  | zero =>
    intro p h hp
    refine Ev.step (fun k => i_total_eq k n p) (Ev.bind (i_NextWays_ev n p (by rw [maxLen_eq]; omega)) ?_)
    rw [nextList_end (by omega)]
    exact Ev.yes rfl (Ev.some rfl)
  | succ f ih =>
    intro p h hp
    refine Ev.step (fun k => i_total_eq k n p) (Ev.bind (i_NextWays_ev n p (by rw [maxLen_eq]; omega)) ?_)
    have hl := nextList_len n p
    have hpos := nextList_pos n p
    have hnil : nextList n p = [] ∨ p.length ≤ 12 := by
      by_cases e : nextList n p = []
      · exact .inl e
      · right
        unfold nextList at e
        split at e
        · rename_i hpp
          have := isPre_fit hpp; omega
        · exact absurd rfl e
    unfold tot
    revert hl hpos hnil
    generalize nextList n p = xs
    intro hl hpos hnil
    have loop : ∀ (r : List Int) (i : Nat) (v : Int), xs.drop i = r → Ev (fun k => i_total_l6 k n p v (xs.length : Int) (i : Int) xs) (tsum (fun x => tot n f (p ++ [x])) r i v) := by
      intro r
      induction r with
      | nil =>
        intro i v h'
        have a := at_nil h'
        refine Ev.step (fun k => i_total_l6_eq k _ _ _ _ _ _) ?_
        simp only [a.g, cond_false]
        exact Ev.pure _
      | cons y r ihr =>
        intro i v h'
        have a := at_cons h' (by rw [maxLen_eq]; omega)
        refine Ev.step (fun k => i_total_l6_eq k _ _ _ _ _ _) ?_
        simp only [a.g, a.z, a.n, a.get, a.w, cond_true]
        have hp12 : p.length ≤ 12 := by
          rcases hnil with e | e
          · rw [e] at h'; simp at h'
          · exact e
        unfold tsum
        refine Ev.ite (fun c => ?_) (fun c => ?_)
        · have c' : y > 0 := by simpa using c
          rw [if_pos c']
          refine Ev.bind (Clone_int_ev p (by omega)) (Ev.yes (by rw [rowMax_eq]; simp; omega) ?_)
          refine Ev.bind (ih (p ++ [(i : Int)]) (by simp; omega) (by simp; omega)) ?_
          exact ihr (i + 1) _ a.next
        · have c' : ¬ y > 0 := by simpa using c
          rw [if_neg c']
          exact ihr (i + 1) v a.next
    refine Ev.ite (fun c => ?_) (fun c => ?_)
    · have : xs = [] := by simpa using c
      subst this
      exact Ev.some rfl
    · have hne : xs ≠ [] := by simpa using c
      exact Ev.bind (Max_pos_ev xs (by rw [maxLen_eq]; omega) hne hpos) (loop xs 0 _ rfl)
end Qq
namespace Qq
open Go Go.Vt Pt
set_option linter.unusedVariables false
set_option linter.unusedSimpArgs false
def wB (a : List Int) : Int := if isRiffle a = true then (if (rising a).length = 2 then 1 else (a.length : Int) + 1) else 0
theorem i_RiffleWays_ev (a : List Int) (hm : a.length ≤ 12) : Ev (fun k => i_RiffleWays k a) (wB a) := by
  have hml : a.length ≤ maxLen := by rw [maxLen_eq]; omega
  unfold wB
  refine Ev.step (fun k => i_RiffleWays_eq k a) (Ev.bind (i_IsRiffle_ev a hml) (Ev.ite (fun h => Ev.some ?_) (fun h => Ev.bind (i_Rising_ev a hml) (Ev.ite (fun h2 => Ev.some ?_) (fun h2 => Ev.some ?_)))))
  · have : isRiffle a = false := by simpa using h
    simp [this]
  · have e1 : isRiffle a = true := by simpa using h
    have e2 : (rising a).length = 2 := by simp at h2; omega
    simp [e1, e2]
  · have e1 : isRiffle a = true := by simpa using h
    have e2 : ¬ (rising a).length = 2 := by simp at h2; omega
    rw [if_pos e1, if_neg e2, wrap_id (by omega) (by omega)]
/-- Rows put in their order, each once. -/
def insU (x : List Int) : Packs → Packs
  | [] => [x]
  | y :: r => if cmpI x y < 0 then x :: y :: r else if x = y then y :: r else y :: insU x r
def ssB : Packs → Bool
  | [] => true
  | x :: r => r.all (fun y => decide (cmpI x y < 0)) && ssB r
theorem ssB_ss : ∀ {l : Packs}, ssB l = true → SS l
  | [], _ => List.Pairwise.nil
  | x :: r, h => by
    unfold ssB at h
    rw [Bool.and_eq_true, List.all_eq_true] at h
    exact List.pairwise_cons.2 ⟨fun y hy => of_decide_eq_true (h.1 y hy), ssB_ss h.2⟩
def rifs (n : Nat) : Packs := (riffsB (upTo n)).foldr insU []
def sumG (m : Packs) (v : Int) : Int := m.foldl (fun v a => v + wB a * guessRun a) v
def rifOk (n : Nat) (a : List Int) : Bool := isPre (n : Int) a && (decide (a.length = n) && (decide (1 ≤ wB a) && (decide (wB a ≤ 8) && (decide (0 ≤ guessRun a) && (decide (guessRun a ≤ (n : Int)) && ((ways n a : Int) == wB a))))))
def finB (n : Nat) : Bool := ssB (rifs n) && ((rifs n).all (fun a => (riffsB (upTo n)).contains a) && ((riffsB (upTo n)).all (fun a => (rifs n).contains a) && ((rifs n).all (rifOk n) && (sumG (rifs n) 0 == tot (n : Int) 8 [] && (decide ((rifs n).length ≤ 32) && (ways n [] == 2 ^ n))))))
set_option maxRecDepth 100000 in
theorem fin_ok : ∀ n, 1 ≤ n → n ≤ 5 → finB n = true := by
  intro n h1 h5
  have : (List.range 6).all (fun n => (n == 0) || finB n) = true := by decide +kernel
  have := List.all_eq_true.1 this n (List.mem_range.2 (by omega))
  have h0 : (n == 0) = false := by simp; omega
  rwa [h0, Bool.false_or] at this
structure Fin5 (n : Nat) : Prop where
  set : setL (riffsB (upTo n)) = rifs n
  ok : ∀ a ∈ rifs n, rifOk n a = true
  sum : sumG (rifs n) 0 = tot (n : Int) 8 []
  len : (rifs n).length ≤ 32
  all : ways n [] = 2 ^ n
theorem fin5 {n : Nat} (h1 : 1 ≤ n) (h5 : n ≤ 5) : Fin5 n := by
  have h := fin_ok n h1 h5
  unfold finB at h
  simp only [Bool.and_eq_true, List.all_eq_true, List.contains_iff_mem, beq_iff_eq, decide_eq_true_eq] at h
  obtain ⟨k1, k2, k3, k4, k5, k6, k7⟩ := h
  exact ⟨(setL_of (ssB_ss k1) (fun z => ⟨k2 z, k3 z⟩)).symm, k4, k5, k6, k7⟩
set_option maxRecDepth 100000 in
theorem riffp_rw : ∀ n, n ≤ 7 → ∀ w, w < 2 ^ n → riffp (upTo n) w = rw_ n w := by
  intro n hn w hw
  have : (List.range 8).all (fun n => (List.range (2 ^ n)).all fun w => riffp (upTo n) w == rw_ n w) = true := by decide +kernel
  have := List.all_eq_true.1 this n (List.mem_range.2 (by omega))
  have := List.all_eq_true.1 this w (List.mem_range.2 hw)
  simpa using this
def sN (f : Nat → Int) : Nat → Int
  | 0 => 0 | n + 1 => sN f n + f n
theorem sN_add (f g : Nat → Int) : ∀ n, sN (fun x => f x + g x) n = sN f n + sN g n
  | 0 => rfl
  | n + 1 => by unfold sN; rw [sN_add f g n]; omega
theorem sN_zero : ∀ n, sN (fun _ => 0) n = 0
  | 0 => rfl
  | n + 1 => by unfold sN; rw [sN_zero n]; rfl
theorem sN_congr {f g : Nat → Int} : ∀ n, (∀ x, x < n → f x = g x) → sN f n = sN g n
  | 0, _ => rfl
  | n + 1, h => by unfold sN; rw [sN_congr n (fun x hx => h x (by omega)), h n (by omega)]
theorem sN_hit (c : Nat) (b : Int) : ∀ n, sN (fun x => if x = c then b else 0) n = if c < n then b else 0
  | 0 => rfl
  | n + 1 => by
    unfold sN
    rw [sN_hit c b n]
    by_cases h : c < n
    · rw [if_pos h, if_neg (show ¬ n = c by omega), if_pos (show c < n + 1 by omega)]; omega
    · rw [if_neg h]
      by_cases h2 : n = c
      · rw [if_pos h2, if_pos (show c < n + 1 by omega)]; omega
      · rw [if_neg h2, if_neg (show ¬ c < n + 1 by omega)]; rfl
theorem split_count (n k : Nat) (p : List Int) (hp : p.length = k) (hk : k < n) : ∀ (W : List Nat),
    sN (fun x => ((W.countP (fun w => (rw_ n w).take (p ++ [(x : Int)]).length == p ++ [(x : Int)]) : Nat) : Int)) n = ((W.countP (fun w => (rw_ n w).take p.length == p) : Nat) : Int)
  | [] => by
    simp only [List.countP_nil]
    exact sN_zero n
  | w :: W => by
    have ih := split_count n k p hp hk W
    obtain ⟨c, hc, hg⟩ := rw_lt n w k hk
    have hlen := rw_len n w
    have e1 : ∀ x : Nat, ((rw_ n w).take (p ++ [(x : Int)]).length == p ++ [(x : Int)]) = (((rw_ n w).take p.length == p) && decide (x = c)) := fun x => by
      have hl : (p ++ [(x : Int)]).length = k + 1 := by simp [hp]
      have ht : (rw_ n w).take (k + 1) = (rw_ n w).take k ++ [(c : Int)] := by
        rw [List.take_add_one, hg]; rfl
      rw [hl, ht, hp, Bool.eq_iff_iff, beq_iff_eq, Bool.and_eq_true, beq_iff_eq, decide_eq_true_eq]
      constructor
      · intro h
        have := List.append_inj h (by rw [List.length_take]; omega)
        refine ⟨this.1, ?_⟩
        have h2 := this.2
        simp at h2
        omega
      · rintro ⟨h1, h2⟩
        rw [h1, h2]
    have e2 : (fun x : Nat => (((w :: W).countP (fun w => (rw_ n w).take (p ++ [(x : Int)]).length == p ++ [(x : Int)]) : Nat) : Int)) = fun x : Nat => ((W.countP (fun w => (rw_ n w).take (p ++ [(x : Int)]).length == p ++ [(x : Int)]) : Nat) : Int) + (if x = c then (if ((rw_ n w).take p.length == p) = true then 1 else 0) else 0) := by
      funext x
      rw [List.countP_cons, e1 x]
      by_cases hx : x = c
      · rw [if_pos hx, decide_eq_true hx, Bool.and_true]
        by_cases hb : ((rw_ n w).take p.length == p) = true
        · rw [if_pos hb, if_pos hb]; omega
        · rw [if_neg hb, if_neg hb]; omega
      · rw [if_neg hx, decide_eq_false hx, Bool.and_false, if_neg (by simp)]; omega
    rw [e2, sN_add, ih, sN_hit, if_pos hc, List.countP_cons]
    by_cases hb : ((rw_ n w).take p.length == p) = true
    · rw [if_pos hb, if_pos hb]; omega
    · rw [if_neg hb, if_neg hb]; omega
theorem ways_split (n k : Nat) (p : List Int) (hp : p.length = k) (hk : k < n) : sN (fun x => ((ways n (p ++ [(x : Int)]) : Nat) : Int)) n = ((ways n p : Nat) : Int) := split_count n k p hp hk (List.range (2 ^ n))
theorem sumL_map (f : Nat → Int) : ∀ n, ((List.range n).map f).foldl (fun v y => v + y) 0 = sN f n
  | 0 => rfl
  | n + 1 => by
    rw [List.range_succ, List.map_append, List.foldl_append, sumL_map f n]; rfl
theorem foldl_up : ∀ (r : List Int) (v : Int), (∀ x ∈ r, 0 ≤ x ∧ x ≤ 4096) → v ≤ r.foldl (fun v y => v + y) v ∧ r.foldl (fun v y => v + y) v ≤ v + 4096 * r.length
  | [], v, _ => ⟨Int.le_refl _, by simp⟩
  | y :: r, v, h => by
    have hy := h y (by simp)
    have := foldl_up r (v + y) (fun x hx => h x (List.mem_cons_of_mem _ hx))
    simp only [List.foldl_cons, List.length_cons]
    constructor
    · omega
    · have := this.2; push_cast; omega
theorem maxF_all : ∀ (r : List Int) (v : Int), ∀ y ∈ r, y ≤ maxF v r
  | [], v, y, h => by cases h
  | x :: r, v, y, h => by
    show y ≤ maxF (mx v x) r
    rcases List.mem_cons.1 h with e | h
    · have h1 := maxF_ge r (mx v x)
      have h2 := (mx_ge v x).2.1
      omega
    · exact maxF_all r _ y h
theorem maxF_in : ∀ (r : List Int) (v : Int), maxF v r = v ∨ maxF v r ∈ r
  | [], v => .inl rfl
  | x :: r, v => by
    show maxF (mx v x) r = v ∨ maxF (mx v x) r ∈ x :: r
    rcases maxF_in r (mx v x) with h | h
    · rw [h]
      rcases (mx_ge v x).2.2 with h2 | h2
      · exact .inl h2
      · exact .inr (by rw [h2]; simp)
    · exact .inr (List.mem_cons_of_mem _ h)
theorem idx_first (c : Int) : ∀ (r : List Int) (i : Nat), c ∈ r → ∃ j, j < r.length ∧ idx c i r = ((i + j : Nat) : Int) ∧ r.getD j 0 = c
  | [], i, h => by cases h
  | y :: r, i, h => by
    by_cases e : c = y
    · exact ⟨0, by simp, by unfold idx; rw [if_pos e]; simp, by simp [e]⟩
    · have hr : c ∈ r := by
        rcases List.mem_cons.1 h with e2 | h
        · exact (e e2).elim
        · exact h
      obtain ⟨j, h1, h2, h3⟩ := idx_first c r (i + 1) hr
      refine ⟨j + 1, by simp; omega, ?_, by simpa using h3⟩
      unfold idx
      rw [if_neg e, h2]; congr 1; omega
theorem maxF_idx (xs : List Int) (h : maxF 0 xs > 0) : ∃ j, j < xs.length ∧ idx (maxF 0 xs) 0 xs = (j : Int) ∧ xs.getD j 0 = maxF 0 xs := by
  rcases maxF_in xs 0 with h1 | h1
  · omega
  · obtain ⟨j, h2, h3, h4⟩ := idx_first _ xs 0 h1
    exact ⟨j, h2, by rw [h3]; congr 1; omega, h4⟩
theorem foldl_snoc2 (l : List Int) (v y : Int) : maxF v (l ++ [y]) = (bif decide (y > maxF v l) then y else maxF v l) := by unfold maxF; rw [List.foldl_append]; rfl
structure RifA (n : Nat) (a : List Int) : Prop where
  w : ∃ w, w < 2 ^ n ∧ a = rw_ n w
theorem MakeRiffle_ev (code : List Int) (hm : code.length ≤ 9223372036854775807) : ∃ (n : Nat) (a : List Int), 1 ≤ n ∧ n ≤ 7 ∧ Ev (fun k => s_MakeRiffle k code) a ∧ RifA n a := by
  obtain ⟨c, e, hc⟩ := l01New_ev code hm
  obtain ⟨y, c1, e1, a1, a2, hc1⟩ := l01Below_ev c hc 7
  have hy := a2 (by omega)
  obtain ⟨j, rfl⟩ : ∃ j : Nat, y = (j : Int) := ⟨y.toNat, by omega⟩
  have hw : IntKind.i64.wrap ((1 : Int) + (j : Int)) = ((j + 1 : Nat) : Int) := by rw [wrap_id (by omega) (by omega)]; omega
  have hn : Ev (fun k => s_NewPacket k ((j + 1 : Nat) : Int)) (upTo (j + 1)) := by
    refine Ev.step (fun k => s_NewPacket_eq k _) (Ev.bind (l01In_ev _ _ _) (Ev.no (by simp; omega) ?_))
    exact s_NewPacket_l5_ev (j + 1) (by omega) (by omega) (j + 1) 0 (by omega)
  have hl := upTo_len (j + 1)
  have hfit : ChFit (upTo (j + 1)) 2 := chOk_fit (by
    have h5 : packetOk (upTo (j + 1)) = true := by
      have hI := perm_PkI (n := j + 1) (by omega) (List.Perm.refl _)
      exact packetOk_of (by rw [hI.m]; exact upTo_nodup _) (fun x hx => by have := upTo_mem hx; unfold card; rw [if_pos (by omega)]; omega)
    unfold chOk
    rw [h5, hl]
    simp; omega)
  have hin : Ins (upTo (j + 1)) := fun x hx => by have := upTo_mem hx; unfold In; omega
  obtain ⟨z, e3, z1, z2⟩ := s_l05Of_ev (upTo (j + 1)) 2 hfit hin
  have hz : ∀ p ∈ z, p.length ≤ 1048576 := fun p hp => by
    have hq := (z2 p).1 hp
    have hp2 : p ∈ riffsB (upTo (j + 1)) := hq
    obtain ⟨w, hw, rfl⟩ := List.mem_map.1 hp2
    rw [(riffp_perm _ w).length_eq, hl]; omega
  have e4 := s_SortPackets_ev _ z (Nat.le_refl _) z1 hz
  have hmem : ∀ q, q ∈ setL z ↔ q ∈ riffsB (upTo (j + 1)) := fun q => (setL_mem z q).trans (z2 q)
  have hpos : 0 < (setL z).length := by
    have : riffp (upTo (j + 1)) 0 ∈ setL z := (hmem _).2 (List.mem_map_of_mem (List.mem_range.2 (Nat.two_pow_pos _)))
    exact List.length_pos_iff.2 (List.ne_nil_of_mem this)
  obtain ⟨x, c2, e5, b1, b2, _⟩ := l01Below_ev c1 hc1 ((setL z).length : Int)
  have hx := b2 (by omega)
  obtain ⟨i, rfl⟩ : ∃ i : Nat, x = (i : Int) := ⟨x.toNat, by omega⟩
  have hi : i < (setL z).length := by omega
  have hg : (setL z).getD i [] = (setL z)[i] := by simp [List.getD, hi]
  have hin2 : (setL z).getD i [] ∈ riffsB (upTo (j + 1)) := by rw [hg]; exact (hmem _).1 (List.getElem_mem hi)
  refine ⟨j + 1, (setL z).getD i [], by omega, by omega, ?_, ?_⟩
  · refine Ev.step (fun k => s_MakeRiffle_eq k code) (Ev.bind e (Ev.bind e1 ?_))
    dsimp only
    rw [hw]
    refine Ev.bind hn (Ev.bind e3 (Ev.bind e4 (Ev.bind e5 (Ev.yes (by simp) (Ev.yes (decide_eq_true (by omega)) (Ev.yes (by simp; omega) (Ev.some ?_)))))))
    dsimp only
    rw [Int.toNat_natCast]
  · obtain ⟨w, hw, e⟩ := List.mem_map.1 hin2
    have hw' := List.mem_range.1 hw
    rw [hl] at hw'
    exact ⟨w, hw', by rw [← e, riffp_rw _ (by omega) w hw']⟩
theorem rif_perm {n : Nat} (hn : n ≤ 7) {a : List Int} (h : RifA n a) : a.Perm (upTo n) := by
  obtain ⟨w, hw, rfl⟩ := h.w
  rw [← riffp_rw n hn w hw]
  exact riffp_perm _ w
theorem preG_of (n : Int) : ∀ (r done : List Int), (done ++ r).Nodup → (∀ x ∈ r, 0 ≤ x ∧ x < n) → preOk n done r = true
  | [], done, _, _ => rfl
  | x :: r, done, hn, h0 => by
    unfold preOk
    have hx : x ∉ done := fun hm => by
      rw [List.nodup_append] at hn
      exact hn.2.2 _ hm _ (by simp) rfl
    have hc : done.contains x = false := by simpa using hx
    rw [hc, preG_of n r (done ++ [x]) (by simpa using hn) (fun y hy => h0 y (List.mem_cons_of_mem _ hy))]
    have := h0 x (by simp)
    simp [this.1, this.2]
theorem rif_pre {n : Nat} (h1 : 1 ≤ n) (hn : n ≤ 7) {a : List Int} (h : RifA n a) (k : Nat) : isPre (n : Int) (a.take k) = true := by
  have hp := rif_perm hn h
  have hnd : a.Nodup := hp.nodup_iff.2 (upTo_nodup n)
  unfold isPre
  rw [preG_of (n : Int) (a.take k) [] (by simpa using hnd.sublist (List.take_sublist k a)) (fun x hx => upTo_mem (hp.mem_iff.1 (List.mem_of_mem_take hx)))]
  simp; omega
theorem ways_pos {n : Nat} {a : List Int} (h : RifA n a) (k : Nat) (hk : k ≤ n) : 0 < ways n (a.take k) := by
  obtain ⟨w, hw, rfl⟩ := h.w
  unfold ways cnt
  rw [List.countP_pos_iff]
  refine ⟨w, List.mem_range.2 hw, ?_⟩
  have hl : ((rw_ n w).take k).length = k := by rw [List.length_take, rw_len]; omega
  rw [hl, beq_iff_eq]
  rfl
theorem next_eq {n : Nat} (h1 : 1 ≤ n) (hn : n ≤ 7) {a : List Int} (h : RifA n a) {k : Nat} (hk : k < n) : nextList (n : Int) (a.take k) = (List.range n).map (fun (x : Nat) => ((ways n (a.take k ++ [(x : Int)]) : Nat) : Int)) := by
  have hal : a.length = n := by rw [(rif_perm hn h).length_eq, upTo_len]
  have hl : (a.take k).length = k := by rw [List.length_take]; omega
  unfold nextList
  rw [rif_pre h1 hn h k, hl]
  rw [if_pos rfl, if_neg (by omega), Int.toNat_natCast]
  rfl
theorem w_l23_ev {n : Nat} (h1 : 1 ≤ n) (hn : n ≤ 7) {a : List Int} (h : RifA n a) {k0 : Nat} (hk : k0 < n) {m : Nat} (hm1 : 1 ≤ m) (hm5 : m ≤ 5) (total : Int) (ht : total = tot (m : Int) 8 []) (xs : List Int) (hxs : xs = nextList (n : Int) (a.take k0)) :
    ∀ (r : List Int) (i : Nat), xs.drop i = r → Ev (fun k => w_FnGuesses_l23 k (m : Int) total a (k0 : Int) xs ((xs.take i).foldl (fun v y => v + y) 0) (maxF 0 (xs.take i)) xs (xs.length : Int) (i : Int)) true
  | [], i, hr => by
    have q := at_nil hr
    have hal : a.length = n := by rw [(rif_perm hn h).length_eq, upTo_len]
    have hl : (a.take k0).length = k0 := by rw [List.length_take]; omega
    have hxl : xs.length = n := by rw [hxs, next_eq h1 hn h hk]; simp
    have ht2 : xs.take i = xs := List.take_of_length_le q.ge
    have hsum : xs.foldl (fun v y => v + y) 0 = ((ways n (a.take k0) : Nat) : Int) := by
      rw [hxs, next_eq h1 hn h hk, sumL_map, ways_split n k0 _ hl hk]
    have hwp := ways_pos h k0 (by omega)
    have hbest : bestGuess (n : Int) (a.take k0) = if maxF 0 xs > 0 then idx (maxF 0 xs) 0 xs else -1 := by
      unfold bestGuess
      rw [← hxs, bestF_eq]
    have hmax : maxF 0 xs > 0 := by
      rcases Int.lt_or_le 0 (maxF 0 xs) with hh | hh
      · exact hh
      · exfalso
        have hall : ∀ y ∈ xs, y ≤ 0 := fun y hy => Int.le_trans (maxF_all xs 0 y hy) hh
        have : ∀ (l : List Int) (v : Int), (∀ y ∈ l, y ≤ 0) → l.foldl (fun v y => v + y) v ≤ v := by
          intro l
          induction l with
          | nil => intro v _; exact Int.le_refl _
          | cons y l ih =>
            intro v hl
            have := ih (v + y) (fun z hz => hl z (List.mem_cons_of_mem _ hz))
            have hy := hl y (by simp)
            simp only [List.foldl_cons]
            omega
        have := this xs 0 hall
        rw [hsum] at this
        omega
    obtain ⟨j, hj, hidx, hget⟩ := maxF_idx xs hmax
    have hmlen : (a.take k0).length ≤ maxLen := by rw [hl, maxLen_eq]; omega
    have hdr : (a.take (k0 : Int).toNat).drop 0 = a.take k0 := by rw [Int.toNat_natCast]; rfl
    refine Ev.step (fun k => w_FnGuesses_l23_eq k _ _ _ _ _ _ _ _ _ _) (Ev.no q.g ?_)
    rw [hdr, hal, ht2]
    refine Ev.yes (by simp) (Ev.yes (by simp; omega) (Ev.bind (i_BestGuess_ev (n : Int) (a.take k0) hmlen) ?_))
    have hT : Ev (fun k => i_GuessTotal k (m : Int)) (tot (m : Int) 8 []) := Ev.step (fun k => i_GuessTotal_eq k _) (Ev.no (by simp; omega) (Ev.no (by simp; omega) (Ev.bind (i_total_ev (m : Int) 8 [] (by simp; omega) (by simp)) (Ev.pure _))))
    refine Ev.bind hT (Ev.yes (by rw [ht]; simp) (Ev.yes (by rw [hxl]; simp) (Ev.yes (by simp) (Ev.yes (by simp; omega) (Ev.bind (i_WaysWith_ev (n : Int) (a.take k0) hmlen) ?_)))))
    rw [rif_pre h1 hn h k0, hbest, if_pos hmax, hidx, hsum, Int.toNat_natCast, if_pos rfl]
    refine Ev.yes (by simp) (Ev.yes (by simp) (Ev.yes (by simp; omega) (Ev.yes (by simp) (Ev.yes (by simp; omega) (Ev.some ?_)))))
    rw [Int.toNat_natCast, hget]; simp
  | y :: r, i, hr => by
    have hxl : xs.length = n := by rw [hxs, next_eq h1 hn h hk]; simp
    have q := at_cons hr (by rw [maxLen_eq]; omega)
    have ih := w_l23_ev h1 hn h hk hm1 hm5 total ht xs hxs r (i + 1) q.next
    have htk : xs.take (i + 1) = xs.take i ++ [y] := take_next hr
    have hb : ∀ x ∈ xs.take (i + 1), 0 ≤ x ∧ x ≤ 4096 := fun x hx => by
      have hx' := List.mem_of_mem_take hx
      rw [hxs] at hx'
      exact ⟨nextList_pos _ _ x hx', nextList_lt _ _ x hx'⟩
    have hs := foldl_up (xs.take (i + 1)) 0 hb
    have hle : ((xs.take (i + 1)).length : Int) ≤ 7 := by rw [List.length_take]; omega
    rw [htk, List.foldl_append, foldl_snoc2] at ih
    rw [htk, List.foldl_append] at hs
    rw [htk] at hle
    refine Ev.step (fun k => w_FnGuesses_l23_eq k _ _ _ _ _ _ _ _ _ _) ?_
    simp only [q.g, q.z, q.get, q.w, cond_true]
    have hsw : IntKind.i64.wrap ((xs.take i).foldl (fun v y => v + y) 0 + y) = (xs.take i).foldl (fun v y => v + y) 0 + y := by
      have h2 := hs.1
      have h3 := hs.2
      simp only [List.foldl_cons, List.foldl_nil] at h2 h3
      exact wrap_id (by omega) (by omega)
    rw [hsw]
    exact ih
theorem w_l9_ev (code : List Int) (hm : code.length ≤ 9223372036854775807) {m : Nat} (hm1 : 1 ≤ m) (hm5 : m ≤ 5) (F : Fin5 m) :
    ∀ (r : Packs) (i : Nat) (v : Int), (rifs m).drop i = r → sumG r v = tot (m : Int) 8 [] → 0 ≤ v → v ≤ 40 * i → Ev (fun k => w_FnGuesses_l9 k code (m : Int) v ((rifs m).length : Int) (i : Int) (rifs m)) true
  | [], i, v, hr, hs, hv0, hv => by
    have q := at_nil hr
    obtain ⟨n, a, h1, h7, e, hA⟩ := MakeRiffle_ev code hm
    obtain ⟨y, e2, a1, a2⟩ := MakeNum_ev code hm 40 (by omega)
    have hal : a.length = n := by rw [(rif_perm h7 hA).length_eq, upTo_len]
    have hb := tmod_bound a1 (n := (n : Int)) (by omega)
    obtain ⟨k0, hk0⟩ : ∃ k0 : Nat, y.tmod (n : Int) = (k0 : Int) := ⟨(y.tmod (n : Int)).toNat, by omega⟩
    refine Ev.step (fun k => w_FnGuesses_l9_eq k _ _ _ _ _ _) (Ev.no q.g (Ev.bind e (Ev.bind e2 ?_)))
    rw [hal, hk0]
    have hdr : (a.take (k0 : Int).toNat).drop 0 = a.take k0 := by rw [Int.toNat_natCast]; rfl
    have hkn : k0 < n := by omega
    have hl : (a.take k0).length = k0 := by rw [List.length_take]; omega
    refine Ev.yes (by simp; omega) (Ev.yes (by simp) (Ev.yes (by simp; omega) ?_))
    rw [hdr]
    refine Ev.bind (i_NextWays_ev (n : Int) (a.take k0) (by rw [hl, maxLen_eq]; omega)) ?_
    have hx := w_l23_ev h1 h7 hA hkn hm1 hm5 v hs _ rfl _ 0 rfl
    exact hx
  | a :: r, i, v, hr, hs, hv0, hv => by
    have q := at_cons hr (by rw [maxLen_eq]; have := F.len; omega)
    have lt := q.lt
    have hlen := F.len
    have hok := F.ok a q.mem
    unfold rifOk at hok
    simp only [Bool.and_eq_true, decide_eq_true_eq, beq_iff_eq] at hok
    obtain ⟨k1, k2, k3, k3b, k4, k5, k6⟩ := hok
    have ha12 : a.length ≤ 12 := by omega
    have haml : a.length ≤ maxLen := by rw [maxLen_eq]; omega
    have hmul : 0 ≤ wB a * guessRun a ∧ wB a * guessRun a ≤ 40 := by
      constructor
      · exact Int.mul_nonneg (by omega) k4
      · have := Int.mul_le_mul (a := wB a) (b := guessRun a) (c := 8) (d := 5) k3b (by omega) k4 (by omega)
        omega
    have hw1 : IntKind.i64.wrap (v + IntKind.i64.wrap (wB a * guessRun a)) = v + wB a * guessRun a := by
      rw [wrap_id (x := wB a * guessRun a) (by omega) (by omega), wrap_id (by omega) (by omega)]
    have ih := w_l9_ev code hm hm1 hm5 F r (i + 1) (v + wB a * guessRun a) q.next hs (by omega) (by push_cast; omega)
    refine Ev.step (fun k => w_FnGuesses_l9_eq k _ _ _ _ _ _) ?_
    simp only [q.g, q.z, q.n, q.get, q.w, cond_true]
    refine Ev.bind (i_RiffleWays_ev a ha12) (Ev.bind (i_GuessRun_ev a haml) (Ev.no (by simp; omega) (Ev.no (by simp; omega) (Ev.no (by simp; omega) (Ev.bind (i_WaysWith_ev (m : Int) a haml) (Ev.no ?_ ?_))))))
    · rw [k1, if_pos rfl, Int.toNat_natCast, k6]; simp
    · rw [hw1]
      exact ih
theorem FnGuesses_ev (code : List Int) (f0 : Fits (.slice (.int .u8)) code) : Ev (fun k => w_FnGuesses k code) true := by
  have hm : code.length ≤ 9223372036854775807 := by have := f0.1; rw [maxLen_eq] at this; exact this
  refine Ev.step (fun k => w_FnGuesses_eq k code) (Ev.ite (fun h => Ev.pure _) (fun h => ?_))
  obtain ⟨y, e, a1, a2⟩ := MakeNum_ev code hm 1 (by omega)
  have hb := tmod_bound a1 (n := 5) (by omega)
  obtain ⟨m, hme⟩ : ∃ m : Nat, IntKind.i64.wrap ((1 : Int) + y.tmod 5) = (m : Int) := ⟨(1 + y.tmod 5).toNat, by rw [wrap_id (by omega) (by omega)]; omega⟩
  have hmv : (m : Int) = 1 + y.tmod 5 := by rw [← hme, wrap_id (by omega) (by omega)]
  have hm1 : 1 ≤ m := by omega
  have hm5 : m ≤ 5 := by omega
  have F := fin5 hm1 hm5
  have hl := upTo_len m
  have hnp : Ev (fun k => i_NewPacket k (m : Int)) (upTo m) := Ev.step (fun k => i_NewPacket_eq k _) (Ev.no (by simp) (Ev.no (by simp; omega) (Ev.bind (i_upTo_ev m (by omega)) (Ev.pure _))))
  have hin : Ins (upTo m) := fun x hx => by have := upTo_mem hx; unfold In; omega
  have hch : chOk (upTo m) 2 = true := by
    have h5 : packetOk (upTo m) = true := by
      have hI := perm_PkI (n := m) (by omega) (List.Perm.refl _)
      exact packetOk_of (by rw [hI.m]; exact upTo_nodup _) (fun x hx => by have := upTo_mem hx; unfold card; rw [if_pos (by omega)]; omega)
    unfold chOk
    rw [h5, hl]
    simp; omega
  have hres : resOf (upTo m) 2 = (rifs m, true) := by
    unfold resOf
    rw [if_pos hch]
    have : allOf (upTo m) 2 = riffsB (upTo m) := rfl
    rw [this, F.set]
  refine Ev.bind e ?_
  rw [hme]
  refine Ev.bind hnp (Ev.bind (i_ResultsOf_ev (upTo m) 2 (by rw [hl, maxLen_eq]; omega) hin) ?_)
  rw [hres]
  have hpre : isPre (m : Int) [] = true := by unfold isPre preOk; simp; omega
  refine Ev.no rfl (Ev.bind (i_WaysWith_ev (m : Int) [] (by rw [maxLen_eq]; simp)) (Ev.yes (by simp) (Ev.no ?_ ?_)))
  · rw [hpre, if_pos rfl, Int.toNat_natCast, F.all]
    have e1 : min m IntKind.i64.bits = m := by
      have : IntKind.i64.bits = 64 := by decide
      rw [this]; omega
    rw [e1]
    have e2 : IntKind.i64.wrap ((1 : Int) * 2 ^ m) = ((2 ^ m : Nat) : Int) := by
      have : (2 : Nat) ^ m ≤ 2 ^ 5 := Nat.pow_le_pow_right (by omega) hm5
      have h3 : ((2 : Int) ^ m) = ((2 ^ m : Nat) : Int) := by push_cast; rfl
      have h5 : ((2 ^ m : Nat) : Int) ≤ 32 := by exact_mod_cast this
      rw [Int.one_mul, h3, wrap_id (Int.le_trans (by decide) (Int.natCast_nonneg _)) (Int.le_trans h5 (by decide))]
    rw [e2]; simp
  · exact w_l9_ev code hm hm1 hm5 F (rifs m) 0 0 rfl F.sum (by omega) (by omega)
end Qq
