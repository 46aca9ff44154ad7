/-
  The law FnKnows comes to true: what is seen never adds possibilities, and the parts of all that may be seen are the whole.
  Conditions: texts of bytes are such as a machine bears.
-/
import Derived.Test.YtlgkjckddpnfnaaDoorPt
import Derived.Test.YtlgkjckddpnfnaaDoorXvzd
import Derived.Laws.BitsLemmas
import Derived.Test.YtlgkjckddpnfnaaDoorXord
import Derived.Lib.ItoaLen
namespace Go.Vt
end Go.Vt
namespace Qq
open Go Go.Vt
set_option linter.unusedVariables false
set_option linter.unusedSimpArgs false
theorem maxLen_eq : maxLen = 9223372036854775807 := by unfold maxLen; decide
theorem rowMax_eq : rowMax = 4294967296 := rfl
theorem wrap_id {x : Int} (h1 : -9223372036854775808 ≤ x) (h2 : x ≤ 9223372036854775807) : IntKind.i64.wrap x = x := by
  rw [IntKind.wrap_i64]; omega
/-- Numbers of a machine's kind. -/
def In (x : Int) : Prop := -9223372036854775808 ≤ x ∧ x ≤ 9223372036854775807
theorem In.of_fits {x : Int} (h : Fits (.int .i64) x) : In x := by
  have h' : IntKind.i64.min ≤ x ∧ x ≤ IntKind.i64.max := h
  have e1 : IntKind.i64.min = -9223372036854775808 := by decide
  have e2 : IntKind.i64.max = 9223372036854775807 := by decide
  unfold In; rw [e1, e2] at h'; exact h'
def Ins (xs : List Int) : Prop := ∀ x ∈ xs, In x
structure AtCons {α : Type} (xs : List α) (i : Nat) (y : α) (rest : List α) : Prop where
  lt : i < xs.length
  g : decide ((i : Int) < (xs.length : Int)) = true
  z : decide ((0 : Int) ≤ (i : Int)) = true
  n : decide ((i : Int).toNat < xs.length) = true
  get : ∀ d, xs.getD (i : Int).toNat d = y
  w : IntKind.i64.wrap ((i : Int) + 1) = ((i + 1 : Nat) : Int)
  next : xs.drop (i + 1) = rest
  mem : y ∈ xs
  gt : ∀ d, xs.getD i d = y
  le : decide ((i : Int) ≤ (xs.length : Int)) = true
theorem at_cons {α : Type} {xs : List α} {i : Nat} {y : α} {rest : List α} (h : xs.drop i = y :: rest) (hm : xs.length ≤ maxLen) : AtCons xs i y rest := by
  rw [maxLen_eq] at hm
  have lt : i < xs.length := by
    rcases Nat.lt_or_ge i xs.length with h1 | h1
    · exact h1
    · rw [List.drop_eq_nil_of_le h1] at h; cases h
  have e := List.drop_eq_getElem_cons lt
  rw [e] at h
  have hy : xs[i] = y := by injection h
  refine ⟨lt, by simp; omega, by simp, by simp; omega, fun d => by simp [List.getD, lt, hy], by rw [wrap_id (by omega) (by omega)]; simp, by injection h, by rw [← hy]; exact List.getElem_mem lt, fun d => by simp [List.getD, lt, hy], by simp; omega⟩
structure AtNil {α : Type} (xs : List α) (i : Nat) : Prop where
  ge : xs.length ≤ i
  g : decide ((i : Int) < (xs.length : Int)) = false
theorem at_nil {α : Type} {xs : List α} {i : Nat} (h : xs.drop i = []) : AtNil xs i := by
  have ge : xs.length ≤ i := List.drop_eq_nil_iff.1 h
  exact ⟨ge, by simp; omega⟩
/-- Counting from i up to n. -/
structure AtUp (n : Int) (i : Nat) : Prop where
  lt : (i : Int) < n
  g : decide ((i : Int) < n) = true
  z : decide ((0 : Int) ≤ (i : Int)) = true
  w : IntKind.i64.wrap ((i : Int) + 1) = ((i + 1 : Nat) : Int)
theorem at_up {n : Int} {i : Nat} (h : (i : Int) < n) (hn : n ≤ 9223372036854775807) : AtUp n i :=
  ⟨h, by simp [h], by simp, by rw [wrap_id (by omega) (by omega)]; simp⟩
theorem at_end {n : Int} {i : Nat} (h : n ≤ (i : Int)) : decide ((i : Int) < n) = false := by simp [h]
end Qq
namespace Qq
open Go Go.Vt Pt
set_option linter.unusedVariables false
set_option linter.unusedSimpArgs false
abbrev Cur : Type := List Int × Int × Int
def CurOk (c : Cur) : Prop := c.1.length ≤ 9223372036854775807 ∧ 0 ≤ c.2.1 ∧ c.2.1 ≤ c.1.length
theorem and255 (x : BitVec 64) : (x &&& BitVec.ofInt 64 255).toNat ≤ 255 := by
  rw [BitVec.toNat_and]
  exact Nat.and_le_right
theorem wrap255 (x : BitVec IntKind.i64.bits) : 0 ≤ IntKind.i64.wrap (((x &&& BitVec.ofInt IntKind.i64.bits (255 : Int)).toNat : Nat) : Int) ∧ IntKind.i64.wrap (((x &&& BitVec.ofInt IntKind.i64.bits (255 : Int)).toNat : Nat) : Int) ≤ 255 := by
  have h : (x &&& BitVec.ofInt IntKind.i64.bits (255 : Int)).toNat ≤ 255 := and255 x
  rw [wrap_id (by omega) (by omega)]
  omega
theorem l01Byte_ev (c : Cur) (h : CurOk c) : ∃ (y : Int) (c' : Cur), Ev (fun k => s_l01Byte k c) (y, c') ∧ 0 ≤ y ∧ y ≤ 255 ∧ CurOk c' := by
  obtain ⟨h1, h2, h3⟩ := h
  by_cases hl : c.2.1 < c.1.length
  · refine ⟨_, _, Ev.step (fun k => s_l01Byte_eq k c) (Ev.yes (decide_eq_true hl) (Ev.yes (decide_eq_true h2) (Ev.yes (decide_eq_true hl) (Ev.pure _)))), (wrap255 _).1, (wrap255 _).2, ?_⟩
    refine ⟨h1, ?_, ?_⟩ <;> (dsimp only; rw [wrap_id (by omega) (by omega)]; omega)
  · exact ⟨_, _, Ev.step (fun k => s_l01Byte_eq k c) (Ev.no (decide_eq_false hl) (Ev.pure _)), (wrap255 _).1, (wrap255 _).2, ⟨h1, h2, h3⟩⟩
theorem tmod_bound {a n : Int} (ha : 0 ≤ a) (hn : 0 < n) : 0 ≤ a.tmod n ∧ a.tmod n < n := by
  rw [Int.tmod_eq_emod_of_nonneg ha]
  exact ⟨Int.emod_nonneg _ (by omega), Int.emod_lt_of_pos _ hn⟩
theorem l01Below_ev (c : Cur) (h : CurOk c) (n : Int) : ∃ (y : Int) (c' : Cur), Ev (fun k => s_l01Below k (c, n)) (y, c') ∧ 0 ≤ y ∧ (0 < n → y < n) ∧ CurOk c' := by
  by_cases h0 : n ≤ 0
  · exact ⟨0, c, Ev.step (fun k => s_l01Below_eq k c n) (Ev.yes (decide_eq_true h0) (Ev.pure _)), Int.le_refl _, fun h => by omega, h⟩
  · have hn : 0 < n := by omega
    by_cases h1 : n ≤ 256
    · obtain ⟨y, c', e, a1, a2, a3⟩ := l01Byte_ev c h
      have hb := tmod_bound a1 hn
      exact ⟨_, _, Ev.step (fun k => s_l01Below_eq k c n) (Ev.no (decide_eq_false h0) (Ev.yes (decide_eq_true h1) (Ev.bind e (Ev.yes (by simp; omega) (Ev.pure _))))), hb.1, fun _ => hb.2, a3⟩
    · obtain ⟨y, c1, e, a1, a2, a3⟩ := l01Byte_ev c h
      obtain ⟨z, c2, f, b1, b2, b3⟩ := l01Byte_ev c1 a3
      obtain ⟨u, c3, g, d1, d2, d3⟩ := l01Byte_ev c2 b3
      obtain ⟨v, c4, i, f1, f2, f3⟩ := l01Byte_ev c3 d3
      have w1 : IntKind.i64.wrap (y * (16777216 : Int)) = y * 16777216 := wrap_id (by omega) (by omega)
      have w2 : IntKind.i64.wrap (z * (65536 : Int)) = z * 65536 := wrap_id (by omega) (by omega)
      have w3 : IntKind.i64.wrap (u * (256 : Int)) = u * 256 := wrap_id (by omega) (by omega)
      have hnn : 0 ≤ IntKind.i64.wrap ((IntKind.i64.wrap ((IntKind.i64.wrap ((IntKind.i64.wrap (y * (16777216 : Int))) + (IntKind.i64.wrap (z * (65536 : Int))))) + (IntKind.i64.wrap (u * (256 : Int))))) + v) := by
        rw [w1, w2, w3, wrap_id (x := y * 16777216 + z * 65536) (by omega) (by omega), wrap_id (x := y * 16777216 + z * 65536 + u * 256) (by omega) (by omega), wrap_id (by omega) (by omega)]
        omega
      have hb := tmod_bound hnn hn
      exact ⟨_, _, Ev.step (fun k => s_l01Below_eq k c n) (Ev.no (decide_eq_false h0) (Ev.no (decide_eq_false h1) (Ev.bind e (Ev.bind f (Ev.bind g (Ev.bind i (Ev.yes (by simp; omega) (Ev.pure _)))))))), hb.1, fun _ => hb.2, f3⟩
theorem l01Once_ev (c : Cur) (h : CurOk c) (n : Int) : ∃ (b : Bool) (c' : Cur), Ev (fun k => s_l01Once k (c, n)) (b, c') ∧ CurOk c' := by
  obtain ⟨y, c', e, _, _, a3⟩ := l01Below_ev c h n
  exact ⟨_, _, Ev.step (fun k => s_l01Once_eq k c n) (Ev.bind e (Ev.pure _)), a3⟩
theorem l01New_l3_ev (code : List Int) (hm : code.length ≤ 9223372036854775807) : ∀ (r : List Int) (i : Nat) (h : Int), code.drop i = r → ∃ h' : Int, Ev (fun k => s_l01New_l3 k code h (i : Int)) (code, ((0 : Int), h'))
  | [], i, h, hr => by
    have a := at_nil hr
    exact ⟨h, Ev.step (fun k => s_l01New_l3_eq k _ _ _) (Ev.no a.g (Ev.pure _))⟩
  | x :: r, i, h, hr => by
    have a := at_cons hr (by rw [maxLen_eq]; exact hm)
    by_cases h4 : (i : Int) < 4000
    · obtain ⟨h', ih⟩ := l01New_l3_ev code hm r (i + 1) _ a.next
      refine ⟨h', Ev.step (fun k => s_l01New_l3_eq k _ _ _) (Ev.yes a.g (Ev.yes (decide_eq_true h4) (Ev.yes a.z (Ev.yes a.g ?_))))⟩
      rw [a.w]
      exact ih
    · exact ⟨h, Ev.step (fun k => s_l01New_l3_eq k _ _ _) (Ev.yes a.g (Ev.no (decide_eq_false h4) (Ev.pure _)))⟩
theorem l01New_ev (code : List Int) (hm : code.length ≤ 9223372036854775807) : ∃ c : Cur, Ev (fun k => s_l01New k code) c ∧ CurOk c := by
  obtain ⟨h', e⟩ := l01New_l3_ev code hm _ 0 (IntKind.i64.wrap ((2070 : Int) + (code.length : Int))) rfl
  exact ⟨_, Ev.step (fun k => s_l01New_eq k code) e, hm, Int.le_refl _, by simp⟩
theorem l23New_l3_ev (n : Int) (hn : n ≤ 1000000) : ∀ (m : Nat) (i : Int) (c : Cur), 0 ≤ i → n ≤ i + m → CurOk c → ∃ c' : Cur, Ev (fun k => s_l23New_l3 k n i c.1 c.2.1 c.2.2) c' ∧ CurOk c'
  | 0, i, c, h0, hm, hc => ⟨c, Ev.step (fun k => s_l23New_l3_eq k _ _ _ _ _) (Ev.no (decide_eq_false (by omega)) (Ev.pure _)), hc⟩
  | m + 1, i, c, h0, hm, hc => by
    by_cases h : i < n
    · obtain ⟨y, c1, e, _, _, a3⟩ := l01Byte_ev c hc
      obtain ⟨c2, e2, hc2⟩ := l23New_l3_ev n hn m (i + 1) c1 (by omega) (by omega) a3
      refine ⟨c2, Ev.step (fun k => s_l23New_l3_eq k _ _ _ _ _) (Ev.yes (decide_eq_true h) (Ev.bind e ?_)), hc2⟩
      rw [wrap_id (by omega) (by omega)]
      exact e2
    · exact ⟨c, Ev.step (fun k => s_l23New_l3_eq k _ _ _ _ _) (Ev.no (decide_eq_false h) (Ev.pure _)), hc⟩
theorem l23New_ev (code : List Int) (hm : code.length ≤ 9223372036854775807) (n : Int) (hn : n ≤ 1000000) : ∃ c : Cur, Ev (fun k => s_l23New k (code, n)) c ∧ CurOk c := by
  obtain ⟨c, e, hc⟩ := l01New_ev code hm
  obtain ⟨c2, e2, hc2⟩ := l23New_l3_ev n hn n.toNat 0 c (by omega) (by omega) hc
  exact ⟨c2, Ev.step (fun k => s_l23New_eq k code n) (Ev.bind e e2), hc2⟩
theorem MakeNum_ev (code : List Int) (hm : code.length ≤ 9223372036854775807) (n : Int) (hn : n ≤ 1000000) : ∃ y : Int, Ev (fun k => s_MakeNum k (code, n)) y ∧ 0 ≤ y ∧ y ≤ 65535 := by
  obtain ⟨c, e, hc⟩ := l23New_ev code hm n hn
  obtain ⟨y, c1, e1, a1, a2, a3⟩ := l01Byte_ev c hc
  obtain ⟨z, c2, e2, b1, b2, b3⟩ := l01Byte_ev c1 a3
  refine ⟨y * 256 + z, Ev.step (fun k => s_MakeNum_eq k code n) (Ev.bind e (Ev.bind e1 (Ev.bind e2 (Ev.some ?_)))), by omega, by omega⟩
  rw [wrap_id (x := y * 256) (by omega) (by omega), wrap_id (by omega) (by omega)]
end Qq
namespace Qq
open Go Go.Vt Pt
set_option linter.unusedVariables false
set_option linter.unusedSimpArgs false
theorem l01In_ev (x lo hi : Int) : Ev (fun k => s_l01In k (x, lo, hi)) (decide (lo ≤ x) && decide (x ≤ hi)) := by
  refine Ev.step (fun k => s_l01In_eq k x lo hi) (Ev.ite (fun h => ?_) (fun h => ?_))
  · have h' : lo ≤ x := by simpa using h
    exact Ev.some (by simp [h'])
  · have h' : ¬ lo ≤ x := by simpa using h
    exact Ev.some (by simp [h'])
end Qq
namespace Qq
open Go Go.Vt Pt
set_option linter.unusedVariables false
set_option linter.unusedSimpArgs false
theorem l02Has_l2_ev (x : Int) (xs : List Int) (hm : xs.length ≤ maxLen) : ∀ (r : List Int) (i : Nat), xs.drop i = r → Ev (fun k => s_l02Has_l2 k x xs (xs.length : Int) (i : Int)) (r.contains x)
  | [], i, h => by
    have a := at_nil h
    refine Ev.step (fun k => s_l02Has_l2_eq k x xs _ i) ?_
    simp only [a.g, cond_false]
    exact Ev.pure _
  | y :: r, i, h => by
    have a := at_cons h hm
    refine Ev.step (fun k => s_l02Has_l2_eq k x xs _ i) ?_
    simp only [a.g, a.z, a.get, a.w, cond_true]
    refine Ev.ite (fun h => Ev.some ?_) (fun h => (l02Has_l2_ev x xs hm r (i + 1) a.next).to ?_)
    · have : y = x := by simpa using h
      simp [this]
    · have : ¬ y = x := by simpa using h
      have h2 : ¬ x = y := fun e => this e.symm
      simp [h2]
theorem l02Has_ev (xs : List Int) (x : Int) (hm : xs.length ≤ maxLen) : Ev (fun k => s_l02Has k (xs, x)) (xs.contains x) :=
  Ev.step (fun k => s_l02Has_eq k xs x) (l02Has_l2_ev x xs hm xs 0 rfl)
end Qq
namespace Qq
open Go Go.Vt Pt
set_option linter.unusedVariables false
set_option linter.unusedSimpArgs false
theorem take_next {α : Type} {xs : List α} {i : Nat} {y : α} {r : List α} (h : xs.drop i = y :: r) : xs.take (i + 1) = xs.take i ++ [y] := by
  have lt : i < xs.length := by
    rcases Nat.lt_or_ge i xs.length with h1 | h1
    · exact h1
    · rw [List.drop_eq_nil_of_le h1] at h; cases h
  rw [List.drop_eq_getElem_cons lt] at h
  rw [List.take_succ_eq_append_getElem lt]
  injection h with h1 h2
  rw [h1]
theorem nodup_len : ∀ (n : Nat) (l : List Int), l.Nodup → (∀ x ∈ l, 0 ≤ x ∧ x < (n : Int)) → l.length ≤ n
  | 0, l, _, h => by
    cases l with
    | nil => simp
    | cons x l => have := h x (by simp); omega
  | n + 1, l, hd, h => by
    have h1 := nodup_len n (l.erase (n : Int)) (hd.erase _) (fun x hx => by
      have hx' := (hd.mem_erase_iff).1 hx
      have := h x hx'.2
      have : x ≠ (n : Int) := hx'.1
      omega)
    have h2 := List.length_erase (a := (n : Int)) (l := l)
    split at h2 <;> omega
end Qq
namespace Qq
open Go Go.Vt Pt
set_option linter.unusedVariables false
set_option linter.unusedSimpArgs false
def card (x : Int) : Int := if 0 ≤ x ∧ x ≤ 11 then x else if -12 ≤ x ∧ x ≤ -1 then -1 - x else -1
theorem card_lt (x : Int) : -1 ≤ card x ∧ card x ≤ 11 := by unfold card; split; · omega
                                                            split <;> omega
theorem s_CardOf_ev (x : Int) : Ev (fun k => s_CardOf k x) (card x) := by
  refine Ev.step (fun k => s_CardOf_eq k x) (Ev.bind (l01In_ev _ _ _) (Ev.ite (fun h => Ev.some ?_) (fun h => Ev.bind (l01In_ev _ _ _) (Ev.ite (fun h' => ?_) (fun h' => Ev.some ?_)))))
  · have : 0 ≤ x ∧ x ≤ 11 := by simpa using h
    simp [card, this]
  · have h1 : ¬ (0 ≤ x ∧ x ≤ 11) := by simp at h; omega
    have h2 : -12 ≤ x ∧ x ≤ -1 := by simpa using h'
    rw [wrap_id (by omega) (by omega)]
    exact Ev.some (by unfold card; rw [if_neg h1, if_pos h2])
  · have h1 : ¬ (0 ≤ x ∧ x ≤ 11) := by simp at h; omega
    have h2 : ¬ (-12 ≤ x ∧ x ≤ -1) := by simp at h'; omega
    unfold card; rw [if_neg h1, if_neg h2]
theorem i_CardOf_ev (x : Int) (hx : In x) : Ev (fun k => i_CardOf k x) (card x) := by
  obtain ⟨a, b⟩ := hx
  refine Ev.step (fun k => i_CardOf_eq k x) ?_
  refine Ev.ite (fun h => ?_) (fun h => ?_)
  · have h1 : x < 0 := by simpa using h
    rw [wrap_id (by omega) (by omega)]
    have h2 : ¬ (0 ≤ x ∧ x ≤ 11) := by omega
    refine Ev.ite (fun h' => Ev.some ?_) (fun h' => Ev.some ?_)
    · have h3 : ¬ (-12 ≤ x ∧ x ≤ -1) := by simp at h'; omega
      unfold card; rw [if_neg h2, if_neg h3]
    · have h3 : (-12 ≤ x ∧ x ≤ -1) := by simp at h'; omega
      unfold card; rw [if_neg h2, if_pos h3]
  · have h1 : ¬ x < 0 := by simpa using h
    have h3 : ¬ (-12 ≤ x ∧ x ≤ -1) := by omega
    refine Ev.ite (fun h' => Ev.some ?_) (fun h' => Ev.some ?_)
    · have h2 : ¬ (0 ≤ x ∧ x ≤ 11) := by simp at h'; omega
      unfold card; rw [if_neg h2, if_neg h3]
    · have h2 : (0 ≤ x ∧ x ≤ 11) := by simp at h'; omega
      unfold card; rw [if_pos h2]
def pk : List Int → List Int → Bool
  | _, [] => true
  | done, x :: r => decide (0 ≤ card x) && (!(done.contains (card x)) && pk (done ++ [card x]) r)
def packetOk (p : List Int) : Bool := pk [] p
theorem pk_nodup : ∀ (r done : List Int), done.Nodup → pk done r = true → (done ++ r.map card).Nodup ∧ ∀ x ∈ r, 0 ≤ card x
  | [], done, hd, h => by simp [hd]
  | x :: r, done, hd, h => by
    unfold pk at h
    simp only [Bool.and_eq_true, decide_eq_true_eq, Bool.not_eq_true'] at h
    obtain ⟨h1, h3, h4⟩ := h
    have hx : card x ∉ done := by simpa using h3
    obtain ⟨k1, k2⟩ := pk_nodup r (done ++ [card x]) (by
      rw [List.nodup_append]
      exact ⟨hd, by simp, fun a ha b hb e => by simp at hb; subst hb; subst e; exact hx ha⟩) h4
    refine ⟨by simpa using k1, fun y hy => ?_⟩
    rcases List.mem_cons.1 hy with rfl | hy
    · exact h1
    · exact k2 y hy
theorem packetOk_fit {p : List Int} (h : packetOk p = true) : (p.map card).Nodup ∧ (∀ x ∈ p, 0 ≤ card x ∧ card x ≤ 11) ∧ p.length ≤ 12 := by
  obtain ⟨k1, k2⟩ := pk_nodup p [] (by simp) h
  have k1' : (p.map card).Nodup := by simpa using k1
  have k3 := nodup_len 12 (p.map card) k1' (fun x hx => by
    obtain ⟨y, hy, rfl⟩ := List.mem_map.1 hx
    have := k2 y hy
    have := card_lt y
    omega)
  exact ⟨k1', fun x hx => ⟨k2 x hx, (card_lt x).2⟩, by simpa using k3⟩
theorem s_PacketOk_l5_ev (xs : List Int) (hm : xs.length ≤ 12) : ∀ (r : List Int) (i : Nat) (done : List Int), xs.drop i = r → done.length = i → Ev (fun k => s_PacketOk_l5 k xs (xs.length : Int) (i : Int) done) (pk done r)
  | [], i, done, h, hd => by
    have a := at_nil h
    refine Ev.step (fun k => s_PacketOk_l5_eq k _ _ _ _) ?_
    simp only [a.g, cond_false]
    exact Ev.pure _
  | x :: r, i, done, h, hd => by
    have a := at_cons h (by rw [maxLen_eq]; omega)
    have hlt := a.lt
    refine Ev.step (fun k => s_PacketOk_l5_eq k _ _ _ _) ?_
    simp only [a.g, a.z, a.get, a.w, cond_true]
    unfold pk
    refine Ev.bind (s_CardOf_ev x) (Ev.ite (fun c => Ev.some ?_) (fun c => Ev.bind (l02Has_ev done (card x) (by rw [maxLen_eq]; omega)) (Ev.ite (fun c2 => Ev.some ?_) (fun c2 => Ev.yes (by rw [rowMax_eq]; simp; omega) ?_))))
    · have : ¬ 0 ≤ card x := by simpa using c
      simp [this]
    · simp only [c2, Bool.not_true, Bool.false_and, Bool.and_false]
    · have e1 : decide (0 ≤ card x) = true := by simpa using c
      rw [e1, c2]
      exact s_PacketOk_l5_ev xs hm r (i + 1) _ a.next (by simp [hd])
theorem s_PacketOk_ev (p : List Int) (hm : p.length ≤ maxLen) : Ev (fun k => s_PacketOk k p) (packetOk p) := by
  refine Ev.step (fun k => s_PacketOk_eq k p) (Ev.ite (fun h => Ev.some ?_) (fun h => ?_))
  · symm
    rw [Bool.eq_false_iff]
    intro hp
    have := (packetOk_fit hp).2.2
    simp at h; omega
  · exact s_PacketOk_l5_ev p (by simp at h; omega) p 0 [] rfl rfl
/-- The cards that were met. -/
def metL (done : List Int) : List Bool := (List.range 12).map fun (c : Nat) => done.contains (c : Int)
theorem metL_len (done : List Int) : (metL done).length = 12 := by simp [metL]
theorem metL_get (done : List Int) (c : Nat) (h : c < 12) (d : Bool) : (metL done).getD c d = done.contains (c : Int) := by
  simp [metL, List.getD, h]
theorem metL_set (done : List Int) (c : Nat) (h : c < 12) : (metL done).set c true = metL (done ++ [(c : Int)]) := by
  apply List.ext_getElem?
  intro x
  rw [List.getElem?_set]
  by_cases hx : x < 12
  · by_cases e : c = x
    · subst e; simp [metL, h]
    · have : ¬ x = c := fun h => e h.symm
      simp [metL, hx, e, this]; intro h; omega
  · rw [if_neg (by omega), List.getElem?_eq_none (by rw [metL_len]; omega), List.getElem?_eq_none (by rw [metL_len]; omega)]
theorem i_PacketOk_l3_ev (xs : List Int) (hm : xs.length ≤ maxLen) (hi : Ins xs) : ∀ (r : List Int) (i : Nat) (done : List Int), xs.drop i = r → Ev (fun k => i_PacketOk_l3 k xs (xs.length : Int) (i : Int) (metL done)) (pk done r)
  | [], i, done, h => by
    have a := at_nil h
    refine Ev.step (fun k => i_PacketOk_l3_eq k _ _ _ _) ?_
    simp only [a.g, cond_false]
    exact Ev.pure _
  | x :: r, i, done, h => by
    have a := at_cons h hm
    refine Ev.step (fun k => i_PacketOk_l3_eq k _ _ _ _) ?_
    simp only [a.g, a.z, a.get, a.w, cond_true]
    unfold pk
    refine Ev.bind (i_CardOf_ev x (hi x a.mem)) (Ev.ite (fun c => Ev.some ?_) (fun c => ?_))
    · have : ¬ 0 ≤ card x := by simpa using c
      simp [this]
    · have hc : 0 ≤ card x := by simpa using c
      have hc2 := (card_lt x).2
      have en : card x = ((card x).toNat : Int) := by omega
      have g1 : decide (0 ≤ card x) = true := by simp [hc]
      have g2 : decide (card x < ((metL done).length : Int)) = true := by rw [metL_len]; simp; omega
      have g3 : decide ((card x).toNat < (metL done).length) = true := by rw [metL_len]; simp; omega
      have g4 : (Nat.beq (metL done).length 12 && true) = true := by rw [metL_len]; rfl
      have g5 := metL_get done (card x).toNat (by omega) false
      rw [← en] at g5
      have g6 := metL_set done (card x).toNat (by omega)
      rw [← en] at g6
      simp only [g1, g2, g3, g4, g5, g6, cond_true, Bool.true_and]
      refine Ev.ite (fun c2 => Ev.some ?_) (fun c2 => ?_)
      · rw [c2]; rfl
      · rw [c2]
        exact i_PacketOk_l3_ev xs hm hi r (i + 1) _ a.next
theorem i_PacketOk_ev (p : List Int) (hm : p.length ≤ maxLen) (hi : Ins p) : Ev (fun k => i_PacketOk k p) (packetOk p) :=
  Ev.step (fun k => i_PacketOk_eq k p) (i_PacketOk_l3_ev p hm hi p 0 [] rfl)
def posF (c : Int) : Nat → List Int → Int
  | _, [] => -1
  | i, y :: r => if card y = c then (i : Int) else posF c (i + 1) r
/-- Where a card lies, or -1. -/
def pos (p : List Int) (c : Int) : Int := if c < 0 then -1 else posF c 0 p
theorem i_PosFunc_l2_ev (c : Int) (xs : List Int) (hm : xs.length ≤ maxLen) (hi : Ins xs) : ∀ (r : List Int) (i : Nat), xs.drop i = r → Ev (fun k => slices_IndexFunc_int_of_i_PositionOf_1_l2 k xs c (xs.length : Int) (i : Int)) (posF c i r)
  | [], i, h => by
    have a := at_nil h
    refine Ev.step (fun k => slices_IndexFunc_int_of_i_PositionOf_1_l2_eq k _ _ _ _) ?_
    simp only [a.g, cond_false]
    exact Ev.pure _
  | x :: r, i, h => by
    have a := at_cons h hm
    have ih := i_PosFunc_l2_ev c xs hm hi r (i + 1) a.next
    refine Ev.step (fun k => slices_IndexFunc_int_of_i_PositionOf_1_l2_eq k _ _ _ _) ?_
    simp only [a.g, a.z, a.get, a.w, cond_true]
    unfold posF
    have h1 : Ev (fun k => i_PositionOf_1 k (x, c)) (card x == c) := Ev.step (fun k => i_PositionOf_1_eq k x c) (Ev.bind (i_CardOf_ev x (hi x a.mem)) (Ev.pure _))
    refine Ev.bind h1 (Ev.ite (fun h => Ev.some ?_) (fun h => ih.to ?_))
    · have : card x = c := by simpa using h
      rw [if_pos this]
    · have : ¬ card x = c := by simpa using h
      rw [if_neg this]
theorem i_PositionOf_ev (p : List Int) (c : Int) (hm : p.length ≤ maxLen) (hi : Ins p) : Ev (fun k => i_PositionOf k (p, c)) (pos p c) := by
  refine Ev.step (fun k => i_PositionOf_eq k p c) ?_
  unfold pos
  refine Ev.ite (fun h => Ev.some ?_) (fun h => Ev.bind (Ev.step (fun k => slices_IndexFunc_int_of_i_PositionOf_1_eq k p c) (i_PosFunc_l2_ev c p hm hi p 0 rfl)) (Ev.some ?_))
  · have : c < 0 := by simpa using h
    rw [if_pos this]
  · have : ¬ c < 0 := by simpa using h
    rw [if_neg this]
def isArr (p q : List Int) : Bool := packetOk p && (packetOk q && (p.length == q.length && p.all fun x => decide (0 ≤ pos q (card x))))
def noPos (q : List Int) : Nat → List Int → Int
  | _, [] => -1
  | i, x :: r => if pos q (card x) < 0 then (i : Int) else noPos q (i + 1) r
theorem noPos_all (q : List Int) : ∀ (r : List Int) (i : Nat), (!(decide (noPos q i r ≥ 0))) = r.all fun x => decide (0 ≤ pos q (card x))
  | [], i => by simp [noPos]
  | x :: r, i => by
    unfold noPos
    by_cases h : pos q (card x) < 0
    · rw [if_pos h]
      have : ¬ 0 ≤ pos q (card x) := by omega
      simp [this]
    · rw [if_neg h, noPos_all q r (i + 1)]
      have : 0 ≤ pos q (card x) := by omega
      simp [this]
theorem i_ArrFunc_l2_ev (q xs : List Int) (hm : xs.length ≤ maxLen) (hi : Ins xs) (hq : q.length ≤ maxLen) (hiq : Ins q) : ∀ (r : List Int) (i : Nat), xs.drop i = r → Ev (fun k => slices_IndexFunc_int_of_i_IsArrangement_1_l2 k xs q (xs.length : Int) (i : Int)) (noPos q i r)
  | [], i, h => by
    have a := at_nil h
    refine Ev.step (fun k => slices_IndexFunc_int_of_i_IsArrangement_1_l2_eq k _ _ _ _) ?_
    simp only [a.g, cond_false]
    exact Ev.pure _
  | x :: r, i, h => by
    have a := at_cons h hm
    have ih := i_ArrFunc_l2_ev q xs hm hi hq hiq r (i + 1) a.next
    refine Ev.step (fun k => slices_IndexFunc_int_of_i_IsArrangement_1_l2_eq k _ _ _ _) ?_
    simp only [a.g, a.z, a.get, a.w, cond_true]
    unfold noPos
    have h1 : Ev (fun k => i_IsArrangement_1 k (x, q)) (decide (pos q (card x) < 0)) := Ev.step (fun k => i_IsArrangement_1_eq k x q) (Ev.bind (i_CardOf_ev x (hi x a.mem)) (Ev.bind (i_PositionOf_ev q _ hq hiq) (Ev.pure _)))
    refine Ev.bind h1 (Ev.ite (fun h => Ev.some ?_) (fun h => ih.to ?_))
    · have : pos q (card x) < 0 := by simpa using h
      rw [if_pos this]
    · have : ¬ pos q (card x) < 0 := by simpa using h
      rw [if_neg this]
theorem i_IsArrangement_ev (p q : List Int) (hp : p.length ≤ maxLen) (hip : Ins p) (hq : q.length ≤ maxLen) (hiq : Ins q) : Ev (fun k => i_IsArrangement k (p, q)) (isArr p q) := by
  unfold isArr
  refine Ev.step (fun k => i_IsArrangement_eq k p q) (Ev.bind (i_PacketOk_ev p hp hip) (Ev.ite (fun h => Ev.some ?_) (fun h => Ev.bind (i_PacketOk_ev q hq hiq) (Ev.ite (fun h2 => Ev.some ?_) (fun h2 => Ev.ite (fun h3 => Ev.some ?_) (fun h3 => ?_))))))
  · have : packetOk p = false := by simpa using h
    rw [this]; rfl
  · have : packetOk q = false := by simpa using h2
    rw [this]; simp
  · have : (p.length == q.length) = false := by simp at h3 ⊢; omega
    rw [this]; simp
  · have e1 : packetOk p = true := by simpa using h
    have e2 : packetOk q = true := by simpa using h2
    have e3 : (p.length == q.length) = true := by simp at h3 ⊢; omega
    rw [e1, e2, e3, ← noPos_all q p 0]
    exact Ev.bind (Ev.step (fun k => slices_ContainsFunc_int_of_i_IsArrangement_1_eq k p q) (Ev.bind (Ev.step (fun k => slices_IndexFunc_int_of_i_IsArrangement_1_eq k p q) (i_ArrFunc_l2_ev q p hp hip hq hiq p 0 rfl)) (Ev.pure _))) (Ev.some (by simp))
end Qq
namespace Qq
open Go Go.Vt Pt
set_option linter.unusedVariables false
set_option linter.unusedSimpArgs false
def bits : Nat → Nat → List Bool
  | 0, _ => []
  | n + 1, w => (w % 2 == 1) :: bits n (w / 2)
def upTo (n : Nat) : List Int := (List.range n).map fun (i : Nat) => (i : Int)
theorem upTo_len (n : Nat) : (upTo n).length = n := by simp [upTo]
theorem upTo_succ (n : Nat) : upTo (n + 1) = upTo n ++ [(n : Int)] := by simp [upTo, List.range_succ]
end Qq
namespace Qq
open Go Go.Vt Pt
set_option linter.unusedVariables false
set_option linter.unusedSimpArgs false
theorem l02Shuffle_l3_ev (n : Nat) (hn : n ≤ 12) : ∀ (m i : Nat) (out : List Int) (c : Cur), i + m = n → out.length = i → out.Perm (upTo i) → CurOk c →
    ∃ (p : List Int) (c' : Cur), Ev (fun k => s_l02Shuffle_l3 k (n : Int) (i : Int) out c.1 c.2.1 c.2.2) (p, c') ∧ p.Perm (upTo n) ∧ CurOk c'
  | 0, i, out, c, h, hl, hp, hc => by
    have hi : i = n := by omega
    subst hi
    exact ⟨out, c, Ev.step (fun k => s_l02Shuffle_l3_eq k _ _ _ _ _ _) (Ev.no (decide_eq_false (by omega)) (Ev.pure _)), hp, hc⟩
  | m + 1, i, out, c, h, hl, hp, hc => by
    have hw : IntKind.i64.wrap ((i : Int) + (1 : Int)) = ((i + 1 : Nat) : Int) := by rw [wrap_id (by omega) (by omega)]; simp
    obtain ⟨y, c1, e, a1, a2, a3⟩ := l01Below_ev c hc ((i + 1 : Nat) : Int)
    have hy := a2 (by omega)
    obtain ⟨j, rfl⟩ : ∃ j : Nat, y = (j : Int) := ⟨y.toNat, by omega⟩
    have hj : j < i + 1 := by omega
    have hvl : (out ++ [(i : Int)]).length = i + 1 := by simp [hl]
    have hi' : i < (out ++ [(i : Int)]).length := by omega
    have hj' : j < (out ++ [(i : Int)]).length := by omega
    have hvi : (out ++ [(i : Int)])[i] = (i : Int) := by rw [List.getElem_append_right (by omega)]; simp
    have hgd : (out ++ [(i : Int)]).getD j 0 = (out ++ [(i : Int)])[j] := by rw [List.getD, List.getElem?_eq_getElem hj']; rfl
    have hperm := List.set_set_perm hi' hj'
    rw [hvi] at hperm
    have hperm2 : (((out ++ [(i : Int)]).set i ((out ++ [(i : Int)]).getD j 0)).set j (i : Int)).Perm (upTo (i + 1)) := by
      rw [hgd, upTo_succ]
      exact hperm.trans (hp.append_right _)
    obtain ⟨p, c2, e2, b1, b2⟩ := l02Shuffle_l3_ev n hn m (i + 1) _ c1 (by omega) (by simp [hl]) hperm2 a3
    refine ⟨p, c2, Ev.step (fun k => s_l02Shuffle_l3_eq k _ _ _ _ _ _) (Ev.yes (decide_eq_true (by omega)) ?_), b1, b2⟩
    rw [hw]
    refine Ev.bind e ?_
    simp only [Int.toNat_natCast]
    refine Ev.yes (by rw [rowMax_eq]; simp; omega) (Ev.yes (by simp) (Ev.yes (by rw [hvl]; simp; omega) (Ev.yes (by rw [hvl]; simp; omega) (Ev.yes (by simp) (Ev.yes (by rw [hvl]; simp; omega) (Ev.yes (by rw [hvl]; simp) (Ev.yes (by simp) (Ev.yes (by simp [hl]; omega) (Ev.yes (by simp [hl]; omega) e2)))))))))
theorem l02Shuffle_ev (c : Cur) (hc : CurOk c) (n : Nat) (hn : n ≤ 12) : ∃ (p : List Int) (c' : Cur), Ev (fun k => s_l02Shuffle k (c, (n : Int))) (p, c') ∧ p.Perm (upTo n) ∧ CurOk c' := by
  obtain ⟨p, c', e, h1, h2⟩ := l02Shuffle_l3_ev n hn n 0 [] c (by omega) rfl (by simp [upTo]) hc
  exact ⟨p, c', Ev.step (fun k => s_l02Shuffle_eq k _ _) e, h1, h2⟩
theorem pk_ofC : ∀ (r done : List Int), (done ++ r.map card).Nodup → (∀ x ∈ r, 0 ≤ card x) → pk done r = true
  | [], done, _, _ => rfl
  | x :: r, done, hn, h0 => by
    unfold pk
    have hx : card x ∉ done := fun hm => by
      rw [List.map_cons, List.nodup_append] at hn
      exact hn.2.2 _ hm _ (by simp) rfl
    have hc : done.contains (card x) = false := by simpa using hx
    rw [hc, pk_ofC r (done ++ [card x]) (by simpa using hn) (fun y hy => h0 y (List.mem_cons_of_mem _ hy))]
    simp [h0 x (by simp)]
theorem packetOk_of {p : List Int} (hn : (p.map card).Nodup) (h0 : ∀ x ∈ p, 0 ≤ card x) : packetOk p = true := pk_ofC p [] (by simpa using hn) h0
/-- A packet on the way: its cards, turned or not. -/
structure PkI (q p : List Int) : Prop where
  m : p.map card = q
  b : ∀ x ∈ p, -12 ≤ x ∧ x ≤ 11
theorem card_flip {x : Int} (h1 : -12 ≤ x) (h2 : x ≤ 11) : card (-1 - x) = card x := by
  unfold card
  by_cases h : 0 ≤ x
  · rw [if_neg (by omega), if_pos (by omega), if_pos (by omega)]; omega
  · rw [if_pos (by omega), if_neg (by omega), if_pos (by omega)]
theorem PkI.flip {q p : List Int} (h : PkI q p) {i : Nat} (hi : i < p.length) : PkI q (p.set i (-1 - p.getD i 0)) := by
  have hg : p.getD i 0 = p[i] := by rw [List.getD, List.getElem?_eq_getElem hi]; rfl
  have hb := h.b p[i] (List.getElem_mem hi)
  refine ⟨?_, fun x hx => ?_⟩
  · rw [hg, List.map_set, card_flip hb.1 hb.2, ← h.m]
    have : card p[i] = (p.map card)[i]'(by simpa using hi) := by simp
    rw [this, List.set_getElem_self]
  · rcases List.mem_or_eq_of_mem_set hx with h1 | h1
    · exact h.b x h1
    · rw [h1, hg]; omega
theorem l02Draw_l4_ev (q : List Int) (n : Nat) (hn : n ≤ 12) : ∀ (m i : Nat) (p : List Int) (c : Cur), i + m = n → p.length = n → PkI q p → CurOk c →
    ∃ (p' : List Int) (c' : Cur), Ev (fun k => s_l02Draw_l4 k (n : Int) (i : Int) p c.1 c.2.1 c.2.2) (p', c') ∧ PkI q p' ∧ p'.length = n ∧ CurOk c'
  | 0, i, p, c, h, hl, hp, hc => by
    exact ⟨p, c, Ev.step (fun k => s_l02Draw_l4_eq k _ _ _ _ _ _) (Ev.no (decide_eq_false (by omega)) (Ev.pure _)), hp, hl, hc⟩
  | m + 1, i, p, c, h, hl, hp, hc => by
    have hw : IntKind.i64.wrap ((i : Int) + (1 : Int)) = ((i + 1 : Nat) : Int) := by rw [wrap_id (by omega) (by omega)]; simp
    obtain ⟨b, c1, e, a3⟩ := l01Once_ev c hc 3
    have hi : i < p.length := by omega
    cases b with
    | true =>
      have hf := hp.flip hi
      have hg : p.getD i 0 = p[i] := by rw [List.getD, List.getElem?_eq_getElem hi]; rfl
      have hb := hp.b p[i] (List.getElem_mem hi)
      obtain ⟨p', c2, e2, b1, b2, b3⟩ := l02Draw_l4_ev q n hn m (i + 1) _ c1 (by omega) (by simpa using hl) hf a3
      refine ⟨p', c2, Ev.step (fun k => s_l02Draw_l4_eq k _ _ _ _ _ _) (Ev.yes (decide_eq_true (by omega)) (Ev.bind e ?_)), b1, b2, b3⟩
      simp only [Int.toNat_natCast]
      have hw2 : IntKind.i64.wrap ((-1 : Int) - p.getD i 0) = -1 - p.getD i 0 := by rw [hg]; exact wrap_id (by omega) (by omega)
      rw [hw, hw2]
      exact Ev.yes rfl (Ev.yes (by simp) (Ev.yes (by simp; omega) (Ev.yes (by simp; omega) (Ev.yes (by simp) (Ev.yes (by simp; omega) (Ev.yes (by simp; omega) e2))))))
    | false =>
      obtain ⟨p', c2, e2, b1, b2, b3⟩ := l02Draw_l4_ev q n hn m (i + 1) p c1 (by omega) hl hp a3
      refine ⟨p', c2, Ev.step (fun k => s_l02Draw_l4_eq k _ _ _ _ _ _) (Ev.yes (decide_eq_true (by omega)) (Ev.bind e ?_)), b1, b2, b3⟩
      rw [hw]
      exact Ev.no rfl e2
theorem upTo_mem {n : Nat} {x : Int} (h : x ∈ upTo n) : 0 ≤ x ∧ x < n := by
  unfold upTo at h
  obtain ⟨i, hi, rfl⟩ := List.mem_map.1 h
  have := List.mem_range.1 hi
  omega
theorem upTo_nodup (n : Nat) : (upTo n).Nodup := by
  unfold upTo
  exact List.Pairwise.map _ (fun a b h e => h (by omega)) List.nodup_range
theorem perm_PkI {n : Nat} (hn : n ≤ 12) {p : List Int} (h : p.Perm (upTo n)) : PkI p p := by
  have hb : ∀ x ∈ p, 0 ≤ x ∧ x ≤ 11 := fun x hx => by have := upTo_mem (h.mem_iff.1 hx); omega
  refine ⟨?_, fun x hx => by have := hb x hx; omega⟩
  conv => rhs; rw [← List.map_id p]
  exact List.map_congr_left fun x hx => by unfold card; rw [if_pos (hb x hx)]; rfl
/-- What is drawn: a valid packet, not empty. -/
structure Drawn (most : Nat) (p : List Int) : Prop where
  ok : packetOk p = true
  pos : 1 ≤ p.length
  le : p.length ≤ most
theorem l02Draw_ev (c : Cur) (hc : CurOk c) (most : Nat) (h1 : 1 ≤ most) (h12 : most ≤ 12) : ∃ (p : List Int) (c' : Cur), Ev (fun k => s_l02Draw k (c, (most : Int))) (p, c') ∧ Drawn most p ∧ CurOk c' := by
  obtain ⟨y, c1, e1, a1, a2, a3⟩ := l01Below_ev c hc (most : Int)
  have hy := a2 (by omega)
  obtain ⟨j, rfl⟩ : ∃ j : Nat, y = (j : Int) := ⟨y.toNat, by omega⟩
  have hw : IntKind.i64.wrap ((1 : Int) + (j : Int)) = ((j + 1 : Nat) : Int) := by rw [wrap_id (by omega) (by omega)]; omega
  obtain ⟨p, c2, e2, b1, b2⟩ := l02Shuffle_ev c1 a3 (j + 1) (by omega)
  have hl : p.length = j + 1 := by rw [b1.length_eq, upTo_len]
  obtain ⟨b, c3, e3, d3⟩ := l01Once_ev c2 b2 2
  have hI := perm_PkI (by omega) b1
  have hnd : p.Nodup := b1.nodup_iff.2 (upTo_nodup _)
  have h0 : ∀ x ∈ p, 0 ≤ x := fun x hx => (upTo_mem (b1.mem_iff.1 hx)).1
  have fin : ∀ p', PkI p p' → p'.length = j + 1 → Drawn most p' := fun p' hp' hl' => by
    refine ⟨packetOk_of (by rw [hp'.m]; exact hnd) (fun x hx => h0 _ ?_), by omega, by omega⟩
    rw [← hp'.m]; exact List.mem_map_of_mem hx
  cases b with
  | true =>
    obtain ⟨p', c4, e4, f1, f2, f3⟩ := l02Draw_l4_ev p (j + 1) (by omega) (j + 1) 0 p c3 (by omega) hl hI d3
    refine ⟨p', c4, Ev.step (fun k => s_l02Draw_eq k _ _) (Ev.bind e1 ?_), fin p' f1 f2, f3⟩
    dsimp only
    rw [hw]
    refine Ev.bind e2 (Ev.bind e3 (Ev.yes rfl ?_))
    dsimp only
    rw [hl]
    exact e4
  | false =>
    refine ⟨p, c3, Ev.step (fun k => s_l02Draw_eq k _ _) (Ev.bind e1 ?_), fin p hI hl, d3⟩
    dsimp only
    rw [hw]
    exact Ev.bind e2 (Ev.bind e3 (Ev.no rfl (Ev.pure _)))
end Qq
namespace Qq
open Go Go.Vt Pt
set_option linter.unusedVariables false
set_option linter.unusedSimpArgs false
end Qq
namespace Qq
open Go Go.Vt Pt
set_option linter.unusedVariables false
set_option linter.unusedSimpArgs false
theorem Clone_int_ev (xs : List Int) (hm : xs.length ≤ 1048576) : Ev (fun k => slices_Clone_int k xs) xs := by
  refine Ev.step (fun k => slices_Clone_int_eq k xs) (Ev.ite (fun h => ?_) (fun h => ?_))
  · exact Ev.yes (by rw [rowMax_eq]; simp; omega) (Ev.some (by simp))
  · have : xs = [] := by simpa using h
    subst this
    exact Ev.both (Ev.pure _) (Ev.yes (by simp) (Ev.some rfl))
end Qq
namespace Qq
open Go Go.Vt Pt
set_option linter.unusedVariables false
set_option linter.unusedSimpArgs false
set_option linter.unnecessarySimpa false
theorem take_all {α : Type} (l : List α) : l.take ((l.length : Int)).toNat = l := by simp
def turn (x : Int) : Int := if card x < 0 then x else -1 - x
theorem in_turn {x : Int} (h : In x) : In (turn x) := by
  unfold turn
  unfold In at *
  split
  · exact h
  · omega
theorem s_TurnCard_ev (x : Int) (hx : In x) : Ev (fun k => s_TurnCard k x) (turn x) := by
  have h1 := hx.1
  have h2 := hx.2
  refine Ev.step (fun k => s_TurnCard_eq k x) (Ev.bind (s_CardOf_ev x) ?_)
  rw [wrap_id (by omega) (by omega)]
  refine Ev.ite (fun h => Ev.some ?_) (fun h => Ev.some ?_)
  · have : card x < 0 := by simpa using h
    simp [turn, this]
  · have : ¬ card x < 0 := by simpa using h
    simp only [turn, if_neg this]
theorem take_back {α : Type} (p : List α) (i : Nat) (h : i < p.length) : (p.take (i + 1)).reverse = p[i] :: (p.take i).reverse := by
  rw [List.take_add_one, List.getElem?_eq_getElem h]; simp
theorem s_l04Back_l3_ev (p : List Int) (hp : p.length ≤ 12) (hi : Ins p) (n : Nat) (hn : n ≤ p.length) (up : Bool) : ∀ (i : Nat) (out : List Int), i ≤ n → out.length + i ≤ 12 →
    Ev (fun k => s_l04Back_l3 k p (n : Int) up ((i : Int) - 1) out) (out ++ (p.take i).reverse.map (fun x => bif up then turn x else x) ++ p.drop n)
  | 0, out, h, ho => by
    refine Ev.step (fun k => s_l04Back_l3_eq k _ _ _ _ _) ?_
    simp only [take_all, Int.toNat_natCast]
    refine Ev.no (by simp) (Ev.yes (by (first | (simp [rowMax_eq]; done) | (simp [rowMax_eq]; omega) | omega)) (Ev.yes (by (first | (simp [rowMax_eq]; done) | (simp [rowMax_eq]; omega) | omega)) (Ev.yes (by (first | (simp [rowMax_eq]; done) | (simp [rowMax_eq]; omega) | omega)) (Ev.yes (by (first | (simp [rowMax_eq]; done) | (simp [rowMax_eq]; omega) | omega)) (Ev.some ?_)))))
    simp
  | i + 1, out, h, ho => by
    have hlt : i < p.length := by omega
    have e0 : ((i + 1 : Nat) : Int) - 1 = (i : Int) := by omega
    have hg : p.getD (i : Int).toNat 0 = p[i] := by simp [List.getD, hlt]
    have hin : In p[i] := hi _ (List.getElem_mem hlt)
    refine Ev.step (fun k => s_l04Back_l3_eq k _ _ _ _ _) ?_
    simp only [e0, hg, wrap_id (x := (i : Int) - 1) (by omega) (by omega)]
    have ih := fun o (ho : o.length + i ≤ 12) => s_l04Back_l3_ev p hp hi n hn up i o (by omega) ho
    rw [take_back p i hlt]
    cases up with
    | true =>
      refine Ev.yes (by simp) (Ev.yes rfl (Ev.yes (by simp) (Ev.yes (by (first | (simp [rowMax_eq]; done) | (simp [rowMax_eq]; omega) | omega)) (Ev.bind (s_TurnCard_ev _ hin) (Ev.yes (by (first | (simp [rowMax_eq]; done) | (simp [rowMax_eq]; omega) | omega)) ?_)))))
      exact (ih _ (by simp; omega)).to (by simp)
    | false =>
      refine Ev.yes (by simp) (Ev.no rfl (Ev.yes (by simp) (Ev.yes (by (first | (simp [rowMax_eq]; done) | (simp [rowMax_eq]; omega) | omega)) (Ev.yes (by (first | (simp [rowMax_eq]; done) | (simp [rowMax_eq]; omega) | omega)) ?_))))
      exact (ih _ (by simp; omega)).to (by simp)
theorem s_l04Back_ev (p : List Int) (hp : p.length ≤ 12) (hi : Ins p) (n : Nat) (hn : n ≤ p.length) (up : Bool) :
    Ev (fun k => s_l04Back k (p, (n : Int), up)) ((p.take n).reverse.map (fun x => bif up then turn x else x) ++ p.drop n) := by
  refine Ev.step (fun k => s_l04Back_eq k _ _ _) ?_
  rw [wrap_id (x := (n : Int) - 1) (by omega) (by omega)]
  exact (s_l04Back_l3_ev p hp hi n hn up n [] (Nat.le_refl _) (by simp; omega)).to (by simp)
def fz : Bool → List Int → List Int → List Int
  | _, [], [] => []
  | f, x :: a, [] => x :: fz (!f) a []
  | f, [], y :: b => y :: fz (!f) [] b
  | true, x :: a, y :: b => x :: fz false a (y :: b)
  | false, x :: a, y :: b => y :: fz true (x :: a) b
termination_by _ a b => a.length + b.length
theorem parity (k : Int) (hk : k = 0 ∨ k = 1) (n : Nat) : (((n + 1 : Nat) : Int).tmod 2 == k) = !(((n : Nat) : Int).tmod 2 == k) := by
  rw [show ((n + 1 : Nat) : Int) = (n : Int) + 1 by omega, Int.tmod_eq_emod_of_nonneg (by omega), Int.tmod_eq_emod_of_nonneg (by omega)]
  by_cases h : (n : Int) % 2 = k
  · have h2 : ¬ ((n : Int) + 1) % 2 = k := by omega
    rw [beq_iff_eq.2 h, beq_eq_false_iff_ne.2 h2]; rfl
  · have h2 : ((n : Int) + 1) % 2 = k := by omega
    rw [beq_iff_eq.2 h2, beq_eq_false_iff_ne.2 h]; rfl
theorem s_l04Faro_l4_ev (k : Int) (hk : k = 0 ∨ k = 1) : ∀ (n : Nat) (a b out : List Int), a.length + b.length = n → out.length + n ≤ 12 →
    Ev (fun f => s_l04Faro_l4 f k a b out) (out ++ fz ((out.length : Int).tmod 2 == k) a b)
  | 0, a, b, out, h, ho => by
    have ea : a = [] := List.length_eq_zero_iff.1 (by omega)
    have eb : b = [] := List.length_eq_zero_iff.1 (by omega)
    subst ea eb
    refine Ev.step (fun f => s_l04Faro_l4_eq f _ _ _ _) (Ev.no (by simp) (Ev.no (by simp) (Ev.some ?_)))
    unfold fz; simp
  | n + 1, a, b, out, h, ho => by
    have ih := fun a b out h1 h2 => s_l04Faro_l4_ev k hk n a b out h1 h2
    refine Ev.step (fun f => s_l04Faro_l4_eq f _ _ _ _) ?_
    simp only [take_all]
    cases a with
    | nil =>
      cases b with
      | nil => simp at h
      | cons y b =>
        simp at h
        refine Ev.no (by simp) (Ev.yes (by (first | (simp [rowMax_eq]; done) | (simp [rowMax_eq]; omega) | omega)) (Ev.no (by (first | (simp [rowMax_eq]; done) | (simp [rowMax_eq]; omega) | omega)) (Ev.no (by simp) ?_)))
        (repeat (first | refine Ev.yes (by (first | (simp [rowMax_eq]; done) | (simp [rowMax_eq]; omega) | omega)) ?_ | refine Ev.no (by (first | (simp [rowMax_eq]; done) | (simp [rowMax_eq]; omega) | omega)) ?_))
        refine (ih [] b (out ++ [y]) (by simp; omega) (by simp; omega)).to ?_
        rw [List.length_append, List.length_singleton, parity k hk]
        conv => rhs; unfold fz
        simp
    | cons x a =>
      refine Ev.yes (by (first | (simp [rowMax_eq]; done) | (simp [rowMax_eq]; omega) | omega)) ?_
      cases b with
      | nil =>
        simp at h
        refine Ev.yes (by simp) ?_
        (repeat (first | refine Ev.yes (by (first | (simp [rowMax_eq]; done) | (simp [rowMax_eq]; omega) | omega)) ?_ | refine Ev.no (by (first | (simp [rowMax_eq]; done) | (simp [rowMax_eq]; omega) | omega)) ?_))
        refine (ih a [] (out ++ [x]) (by simp; omega) (by simp; omega)).to ?_
        rw [List.length_append, List.length_singleton, parity k hk]
        conv => rhs; unfold fz
        simp
      | cons y b =>
        simp at h
        refine Ev.no (by (first | (simp [rowMax_eq]; done) | (simp [rowMax_eq]; omega) | omega)) (Ev.yes (by (first | (simp [rowMax_eq]; done) | (simp [rowMax_eq]; omega) | omega)) ?_)
        refine Ev.ite (fun hf => ?_) (fun hf => ?_)
        · (repeat (first | refine Ev.yes (by (first | (simp [rowMax_eq]; done) | (simp [rowMax_eq]; omega) | omega)) ?_ | refine Ev.no (by (first | (simp [rowMax_eq]; done) | (simp [rowMax_eq]; omega) | omega)) ?_))
          refine (ih a (y :: b) (out ++ [x]) (by simp; omega) (by simp; omega)).to ?_
          rw [List.length_append, List.length_singleton, parity k hk, hf]
          conv => rhs; unfold fz
          simp
        · (repeat (first | refine Ev.yes (by (first | (simp [rowMax_eq]; done) | (simp [rowMax_eq]; omega) | omega)) ?_ | refine Ev.no (by (first | (simp [rowMax_eq]; done) | (simp [rowMax_eq]; omega) | omega)) ?_))
          refine (ih (x :: a) b (out ++ [y]) (by simp; omega) (by simp; omega)).to ?_
          rw [List.length_append, List.length_singleton, parity k hk, hf]
          conv => rhs; unfold fz
          simp
def faroL (p : List Int) (k : Int) : List Int := fz (k == 0) (p.take (p.length / 2)) (p.drop (p.length / 2))
theorem half (n : Nat) (h : n ≤ 4194304) : IntKind.i64.wrap ((n : Int).tdiv 2) = ((n / 2 : Nat) : Int) := by
  have : (n : Int).tdiv 2 = ((n / 2 : Nat) : Int) := by rw [Int.tdiv_eq_ediv_of_nonneg (by omega)]; omega
  rw [this, wrap_id (by omega) (by omega)]
theorem s_l04Faro_ev (p : List Int) (hp : p.length ≤ 12) (k : Int) (hk : k = 0 ∨ k = 1) : Ev (fun f => s_l04Faro f (p, k)) (faroL p k) := by
  refine Ev.step (fun f => s_l04Faro_eq f _ _) ?_
  simp only [half p.length (by omega), take_all, Int.toNat_natCast, List.take_length, List.drop_zero]
  (repeat (first | refine Ev.yes (by (first | (simp [rowMax_eq]; done) | (simp [rowMax_eq]; omega) | omega)) ?_ | refine Ev.no (by (first | (simp [rowMax_eq]; done) | (simp [rowMax_eq]; omega) | omega)) ?_))
  refine (s_l04Faro_l4_ev k hk p.length _ _ [] (by simp; omega) (by simp; omega)).to ?_
  rw [List.nil_append]
  unfold faroL
  congr 1
  rcases hk with rfl | rfl <;> rfl
def mz (k : Int) : Nat → List Int → List Int → List Int
  | _, [], out => out
  | i, x :: r, out => if i = 0 ∨ (i : Int) % 2 = k then mz k (i + 1) r (out ++ [x]) else mz k (i + 1) r (x :: out)
theorem s_l04Monge_l3_ev (p : List Int) (hp : p.length ≤ 12) (k : Int) (hk : k = 0 ∨ k = 1) : ∀ (r : List Int) (i : Nat) (out : List Int), p.drop i = r → out.length = i → Ev (fun f => s_l04Monge_l3 f k p (p.length : Int) (i : Int) out) (mz k i r out)
  | [], i, out, h, ho => by
    have a := at_nil h
    refine Ev.step (fun f => s_l04Monge_l3_eq f _ _ _ _ _) ?_
    simp only [a.g, cond_false]
    exact Ev.pure _
  | x :: r, i, out, h, ho => by
    have a := at_cons h (by rw [maxLen_eq]; omega)
    have hlt := a.lt
    have ih := fun out ho => s_l04Monge_l3_ev p hp k hk r (i + 1) out a.next ho
    refine Ev.step (fun f => s_l04Monge_l3_eq f _ _ _ _ _) ?_
    simp only [a.g, a.z, a.get, a.w, cond_true]
    rw [Int.tmod_eq_emod_of_nonneg (by omega)]
    unfold mz
    refine Ev.ite (fun c => ?_) (fun c => Ev.ite (fun c2 => ?_) (fun c2 => ?_))
    · have : i = 0 := by have : (i : Int) = 0 := by simpa using c
                         omega
      rw [if_pos (.inl this)]
      exact Ev.yes (by (first | (simp [rowMax_eq]; done) | (simp [rowMax_eq]; omega) | omega)) (ih _ (by simp; omega))
    · have : (i : Int) % 2 = k := by simpa using c2
      rw [if_pos (.inr this)]
      exact Ev.yes (by (first | (simp [rowMax_eq]; done) | (simp [rowMax_eq]; omega) | omega)) (ih _ (by simp; omega))
    · have h1 : ¬ i = 0 := by have : ¬ (i : Int) = 0 := by simpa using c
                              omega
      have h2 : ¬ (i : Int) % 2 = k := by simpa using c2
      rw [if_neg (by rintro (h | h); exact h1 h; exact h2 h)]
      exact Ev.yes (by (first | (simp [rowMax_eq]; done) | (simp [rowMax_eq]; omega) | omega)) (ih _ (by simp; omega))
def kz : Nat → List Int → List Int → List Int
  | 0, p, out => p ++ out
  | n + 1, p, out => if 1 < p.length then kz n ((p.take (p.length - 1)).drop 1) (p.getD 0 0 :: p.getD (p.length - 1) 0 :: out) else p ++ out
theorem s_l04Milk_l2_ev : ∀ (n : Nat) (p out : List Int), p.length ≤ n → p.length + out.length ≤ 12 → Ev (fun f => s_l04Milk_l2 f p out) (kz n p out)
  | n, p, out, h, ho => by
    refine Ev.step (fun f => s_l04Milk_l2_eq f _ _) ?_
    by_cases c : 1 < p.length
    · match n, h with
      | 0, h => exact absurd c (by omega)
      | n + 1, h =>
      have e : ((p.length : Int) - 1) = ((p.length - 1 : Nat) : Int) := by omega
      unfold kz
      rw [if_pos c]
      simp only [e, wrap_id (x := ((p.length - 1 : Nat) : Int)) (by omega) (by omega), Int.toNat_natCast]
      refine Ev.yes (by simp; omega) ?_
      (repeat (first | refine Ev.yes (by (first | (simp [rowMax_eq]; done) | (simp [rowMax_eq]; omega) | omega)) ?_ | refine Ev.no (by (first | (simp [rowMax_eq]; done) | (simp [rowMax_eq]; omega) | omega)) ?_))
      exact s_l04Milk_l2_ev n _ _ (by simp; omega) (by simp; omega)
    · have : kz n p out = p ++ out := by cases n <;> simp [kz, c]
      rw [this]
      refine Ev.no (by simp; omega) (Ev.yes (by (first | (simp [rowMax_eq]; done) | (simp [rowMax_eq]; omega) | omega)) ?_)
      rw [List.nil_append]
      refine Ev.yes (by rw [rowMax_eq]; exact decide_eq_true (by omega)) (Ev.some rfl)
def dz : Nat → Bool → List Int → List Int → List Int
  | 0, _, q, out => q.getD 0 0 :: out
  | n + 1, f, q, out => if 1 < q.length then (bif f then dz n false (q.drop 1) (q.getD 0 0 :: out) else dz n true (q.drop 1 ++ [q.getD 0 0]) out) else q.getD 0 0 :: out
theorem odd_step (s : Nat) : (((s + 1 : Nat) : Int).tmod 2 == 1) = !(((s : Nat) : Int).tmod 2 == 1) := parity 1 (.inr rfl) s
theorem s_l04Duck_l4_ev : ∀ (n : Nat) (s : Nat) (q out : List Int), 1 ≤ q.length → 2 * q.length + (bif ((s : Int).tmod 2 == 1) then 0 else 1) ≤ n → q.length + out.length ≤ 12 → s + n ≤ 1000 →
    Ev (fun f => s_l04Duck_l4 f (s : Int) q out) (dz n ((s : Int).tmod 2 == 1) q out)
  | 0, s, q, out, h1, h, ho, hs => by omega
  | n + 1, s, q, out, h1, h, ho, hs => by
    have ih := fun q out h1 h ho => s_l04Duck_l4_ev n (s + 1) q out h1 h ho (by omega)
    rw [odd_step] at ih
    refine Ev.step (fun f => s_l04Duck_l4_eq f _ _ _) ?_
    have ew : IntKind.i64.wrap ((s : Int) + 1) = ((s + 1 : Nat) : Int) := by rw [wrap_id (by omega) (by omega)]; omega
    simp only [ew, take_all]
    unfold dz
    by_cases c : 1 < q.length
    · rw [if_pos c]
      refine Ev.yes (by simp; omega) ?_
      cases hf : ((s : Int).tmod 2 == 1) with
      | true =>
        rw [hf] at h ih
        refine Ev.yes (by (first | (simp [rowMax_eq]; done) | (simp [rowMax_eq]; omega) | omega)) (Ev.yes (by (first | (simp [rowMax_eq]; done) | (simp [rowMax_eq]; omega) | omega)) (Ev.yes (by (first | (simp [rowMax_eq]; done) | (simp [rowMax_eq]; omega) | omega)) (Ev.yes (by (first | (simp [rowMax_eq]; done) | (simp [rowMax_eq]; omega) | omega)) (Ev.yes rfl ?_))))
        refine Ev.yes (by (first | (simp [rowMax_eq]; done) | (simp [rowMax_eq]; omega) | omega)) ?_
        exact ih (q.drop 1) (q.getD 0 0 :: out) (by simp; omega) (by simp at h ⊢; omega) (by simp; omega)
      | false =>
        rw [hf] at h ih
        refine Ev.yes (by (first | (simp [rowMax_eq]; done) | (simp [rowMax_eq]; omega) | omega)) (Ev.yes (by (first | (simp [rowMax_eq]; done) | (simp [rowMax_eq]; omega) | omega)) (Ev.yes (by (first | (simp [rowMax_eq]; done) | (simp [rowMax_eq]; omega) | omega)) (Ev.yes (by (first | (simp [rowMax_eq]; done) | (simp [rowMax_eq]; omega) | omega)) (Ev.no rfl ?_))))
        refine Ev.yes (by (first | (simp [rowMax_eq]; done) | (simp [rowMax_eq]; omega) | omega)) ?_
        exact ih (q.drop 1 ++ [q.getD 0 0]) out (by simp) (by simp at h ⊢; omega) (by simp; omega)
    · rw [if_neg c]
      refine Ev.no (by simp; omega) ?_
      (repeat (first | refine Ev.yes (by (first | (simp [rowMax_eq]; done) | (simp [rowMax_eq]; omega) | omega)) ?_ | refine Ev.no (by (first | (simp [rowMax_eq]; done) | (simp [rowMax_eq]; omega) | omega)) ?_))
      exact Ev.pure _
end Qq
namespace Qq
open Go Go.Vt Pt
set_option linter.unusedVariables false
set_option linter.unusedSimpArgs false
def lessL : List Int → List Int → Bool
  | [], b => decide (0 < b.length)
  | _ :: _, [] => false
  | x :: a, y :: b => if x = y then lessL a b else decide (x < y)
def cmpL : List Int → List Int → Int
  | [], b => if 0 < b.length then -1 else 0
  | _ :: _, [] => 1
  | x :: a, y :: b => if x = y then cmpL a b else if x < y then -1 else 1
theorem cmpL_less : ∀ a b, decide (cmpL a b ≥ 0) = !lessL a b
  | [], [] => rfl
  | [], _ :: _ => by simp [cmpL, lessL]
  | _ :: _, [] => rfl
  | x :: a, y :: b => by
    unfold cmpL lessL
    by_cases h : x = y
    · rw [if_pos h, if_pos h, cmpL_less a b]
    · rw [if_neg h, if_neg h]
      by_cases h2 : x < y
      · simp [h2]
      · simp [h2]
theorem drop_len {α : Type} {xs r : List α} {i : Nat} (h : xs.drop i = r) : xs.length - i = r.length := by rw [← h, List.length_drop]
theorem s_l05Less_l2_ev (xs ys : List Int) (hm : xs.length ≤ maxLen) (hy : ys.length ≤ maxLen) : ∀ (r s : List Int) (i : Nat), i ≤ xs.length → xs.drop i = r → ys.drop i = s → Ev (fun k => s_l05Less_l2 k xs ys xs (xs.length : Int) (i : Int)) (lessL r s)
  | [], s, i, hi, h, h2 => by
    have a := at_nil h
    have := a.ge
    have hl := drop_len h2
    refine Ev.step (fun k => s_l05Less_l2_eq k _ _ _ _ _) ?_
    simp only [a.g, cond_false]
    refine Ev.some ?_
    unfold lessL
    rw [Bool.eq_iff_iff]; simp; omega
  | x :: r, [], i, hi, h, h2 => by
    have a := at_cons h hm
    have b := at_nil h2
    refine Ev.step (fun k => s_l05Less_l2_eq k _ _ _ _ _) ?_
    simp only [a.g, a.z, cond_true]
    refine Ev.yes (by have := b.ge; simp; omega) (Ev.some rfl)
  | x :: r, y :: s, i, hi, h, h2 => by
    have a := at_cons h hm
    have b := at_cons h2 hy
    have hlt := a.lt
    have ih := s_l05Less_l2_ev xs ys hm hy r s (i + 1) (by omega) a.next b.next
    refine Ev.step (fun k => s_l05Less_l2_eq k _ _ _ _ _) ?_
    simp only [a.g, a.z, a.get, a.w, cond_true]
    refine Ev.no (by have := b.lt; simp; omega) ?_
    simp only [b.g, b.get, cond_true]
    unfold lessL
    refine Ev.ite (fun c => Ev.some ?_) (fun c => ih.to ?_)
    · have : ¬ x = y := by simpa using c
      rw [if_neg this]
    · have : x = y := by simpa using c
      rw [if_pos this]
theorem s_l05Less_ev (xs ys : List Int) (hm : xs.length ≤ maxLen) (hy : ys.length ≤ maxLen) : Ev (fun k => s_l05Less k (xs, ys)) (lessL xs ys) :=
  Ev.step (fun k => s_l05Less_eq k xs ys) (s_l05Less_l2_ev xs ys hm hy xs ys 0 (by omega) rfl rfl)
theorem cmp_int_ev (x y : Int) : Ev (fun k => cmp_Compare_int k (x, y)) (if x < y then -1 else if x > y then 1 else 0) := by
  have hn : ∀ z : Int, Ev (fun k => cmp_isNaN_int k z) false := fun z => Ev.step (fun k => cmp_isNaN_int_eq k z) (Ev.some (by simp))
  refine Ev.step (fun k => cmp_Compare_int_eq k x y) (Ev.bind (hn x) (Ev.bind (hn y) (Ev.no rfl (Ev.no rfl (Ev.ite (fun c => Ev.some ?_) (fun c => Ev.ite (fun c2 => Ev.some ?_) (fun c2 => Ev.some ?_)))))))
  · have : x < y := by simpa using c
    rw [if_pos this]
  · have h1 : ¬ x < y := by simpa using c
    have h2 : x > y := by simpa using c2
    rw [if_neg h1, if_pos h2]
  · have h1 : ¬ x < y := by simpa using c
    have h2 : ¬ x > y := by simpa using c2
    rw [if_neg h1, if_neg h2]
theorem Compare_l2_ev (xs ys : List Int) (hm : xs.length ≤ maxLen) (hy : ys.length ≤ maxLen) : ∀ (r s : List Int) (i : Nat), i ≤ xs.length → xs.drop i = r → ys.drop i = s → Ev (fun k => slices_Compare_int_l2 k xs ys xs (xs.length : Int) (i : Int)) (cmpL r s)
  | [], s, i, hi, h, h2 => by
    have a := at_nil h
    have := a.ge
    have hl := drop_len h2
    refine Ev.step (fun k => slices_Compare_int_l2_eq k _ _ _ _ _) ?_
    simp only [a.g, cond_false]
    unfold cmpL
    refine Ev.ite (fun c => Ev.some ?_) (fun c => Ev.some ?_)
    · rw [if_pos (by simp at c; omega)]
    · rw [if_neg (by simp at c; omega)]
  | x :: r, [], i, hi, h, h2 => by
    have a := at_cons h hm
    have b := at_nil h2
    refine Ev.step (fun k => slices_Compare_int_l2_eq k _ _ _ _ _) ?_
    simp only [a.g, a.z, cond_true]
    refine Ev.yes (by have := b.ge; simp; omega) (Ev.some rfl)
  | x :: r, y :: s, i, hi, h, h2 => by
    have a := at_cons h hm
    have b := at_cons h2 hy
    have hlt := a.lt
    have ih := Compare_l2_ev xs ys hm hy r s (i + 1) (by omega) a.next b.next
    refine Ev.step (fun k => slices_Compare_int_l2_eq k _ _ _ _ _) ?_
    simp only [a.g, a.z, a.get, a.w, cond_true]
    refine Ev.no (by have := b.lt; simp; omega) ?_
    simp only [b.g, b.get, cond_true]
    unfold cmpL
    refine Ev.bind (cmp_int_ev x y) (Ev.ite (fun c => Ev.some ?_) (fun c => ih.to ?_))
    · by_cases h3 : x < y
      · rw [if_pos h3, if_neg (by omega), if_pos h3]
      · by_cases h4 : x > y
        · rw [if_neg h3, if_pos h4, if_neg (by omega), if_neg h3]
        · rw [if_neg h3, if_neg h4] at c; simp at c
    · have : x = y := by
        by_cases h3 : x < y
        · rw [if_pos h3] at c; simp at c
        · by_cases h4 : x > y
          · rw [if_neg h3, if_pos h4] at c; simp at c
          · omega
      rw [if_pos this]
theorem Compare_ev (xs ys : List Int) (hm : xs.length ≤ maxLen) (hy : ys.length ≤ maxLen) : Ev (fun k => slices_Compare_int k (xs, ys)) (cmpL xs ys) :=
  Ev.step (fun k => slices_Compare_int_eq k xs ys) (Compare_l2_ev xs ys hm hy xs ys 0 (by omega) rfl rfl)
abbrev Packs : Type := List (List Int)
/-- Numbers and lengths are such as a machine bears. -/
def FitS (l : Packs) : Prop := l.length ≤ maxLen ∧ ∀ p ∈ l, p.length ≤ maxLen ∧ Ins p
theorem FitS.of {l : Packs} (h : Fits (.slice (.slice (.int .i64))) l) : FitS l :=
  ⟨h.1, fun p hp => ⟨(h.2 p hp).1, fun x hx => In.of_fits ((h.2 p hp).2 x hx)⟩⟩
def kF (p0 : List Int) : Option (List Int) → Packs → Bool
  | _, [] => true
  | pv, q :: r => isArr p0 q && ((match pv with | none => true | some p => lessL p q) && kF p0 (some q) r)
def knowOk (l : Packs) : Bool := match l with
  | [] => false
  | p0 :: _ => decide (l.length ≤ 3000) && (!(p0.length == 0) && kF p0 none l)
def prev (l : Packs) (i : Nat) : Option (List Int) := if i = 0 then none else some (l.getD (i - 1) [])
theorem prev_next {l : Packs} {i : Nat} {q : List Int} {r : Packs} (a : AtCons l i q r) : prev l (i + 1) = some q := by
  unfold prev
  rw [if_neg (by omega), show i + 1 - 1 = i by omega, a.gt]
theorem prev_get {l : Packs} {i : Nat} (h : 0 < i) (hi : (i : Int) ≤ 9223372036854775807) : prev l i = some (l.getD (IntKind.i64.wrap ((i : Int) - 1)).toNat []) := by
  unfold prev
  rw [if_neg (by omega), wrap_id (by omega) (by omega), show ((i : Int) - 1).toNat = i - 1 by omega]
theorem i_KnowOk_l4_ev (l : Packs) (p0 : List Int) (hf : FitS l) (h0 : l.getD 0 [] = p0) (hl : 0 < l.length) : ∀ (r : Packs) (i : Nat), l.drop i = r → Ev (fun k => i_KnowOk_l4 k l l (l.length : Int) (i : Int)) (kF p0 (prev l i) r)
  | [], i, h => by
    have a := at_nil h
    refine Ev.step (fun k => i_KnowOk_l4_eq k _ _ _ _) ?_
    simp only [a.g, cond_false]
    exact Ev.pure _
  | q :: r, i, h => by
    have a := at_cons h hf.1
    have hlt := a.lt
    have hm1 := hf.1
    rw [maxLen_eq] at hm1
    have ih := i_KnowOk_l4_ev l p0 hf h0 hl r (i + 1) a.next
    rw [prev_next a] at ih
    have hp0 : p0 ∈ l := by rw [← h0]; simp [List.getD, hl]
    refine Ev.step (fun k => i_KnowOk_l4_eq k _ _ _ _) ?_
    simp only [a.g, a.z, a.get, a.w, h0, cond_true]
    refine Ev.yes (by simp; omega) ?_
    unfold kF
    refine Ev.bind (i_IsArrangement_ev p0 q (hf.2 p0 hp0).1 (hf.2 p0 hp0).2 (hf.2 q a.mem).1 (hf.2 q a.mem).2) (Ev.ite (fun c => Ev.some ?_) (fun c => Ev.ite (fun c2 => ?_) (fun c2 => ih.to ?_)))
    · have : isArr p0 q = false := by simpa using c
      rw [this]; rfl
    · have c1 : isArr p0 q = true := by simpa using c
      have hi : 0 < i := by simp at c2; omega
      rw [prev_get hi (by omega)]
      have w1 : IntKind.i64.wrap ((i : Int) - 1) = ((i - 1 : Nat) : Int) := by rw [wrap_id (by omega) (by omega)]; omega
      rw [w1]
      refine Ev.yes (by simp) (Ev.yes (by simp; omega) ?_)
      rw [Int.toNat_natCast]
      have hmem : l.getD (i - 1) [] ∈ l := by
        have : i - 1 < l.length := by omega
        simp [List.getD, this]
      refine Ev.bind (Compare_ev _ q (hf.2 _ hmem).1 (hf.2 q a.mem).1) (Ev.ite (fun c3 => Ev.some ?_) (fun c3 => ih.to ?_))
      · rw [cmpL_less] at c3
        have : lessL (l.getD (i - 1) []) q = false := by simpa using c3
        simp only [this, Bool.false_and, Bool.and_false]
      · rw [cmpL_less] at c3
        have : lessL (l.getD (i - 1) []) q = true := by simpa using c3
        simp only [c1, this, Bool.true_and]
    · have c1 : isArr p0 q = true := by simpa using c
      have hi : i = 0 := by simp at c2; omega
      subst hi
      simp [prev, c1]
theorem i_KnowOk_ev (l : Packs) (hf : FitS l) : Ev (fun k => i_KnowOk k l) (knowOk l) := by
  refine Ev.step (fun k => i_KnowOk_eq k l) ?_
  cases l with
  | nil => exact Ev.yes (by simp) (Ev.some rfl)
  | cons p0 r =>
    unfold knowOk
    refine Ev.no (by simp; omega) (Ev.ite (fun c => Ev.some ?_) (fun c => Ev.yes (by simp) (Ev.ite (fun c2 => Ev.some ?_) (fun c2 => ?_))))
    · have : ¬ (p0 :: r).length ≤ 3000 := by simp at c ⊢; omega
      simp only [this, decide_false, Bool.false_and]
    · have : (p0.length == 0) = true := by simpa using c2
      simp [this]
    · have e1 : (p0 :: r).length ≤ 3000 := by simp at c ⊢; omega
      have e2 : (p0.length == 0) = false := by simpa using c2
      simp only [e1, e2, decide_true, Bool.true_and, Bool.not_false]
      exact i_KnowOk_l4_ev (p0 :: r) p0 hf rfl (by simp) (p0 :: r) 0 rfl
theorem kF_arr (p0 : List Int) : ∀ (r : Packs) (pv : Option (List Int)), kF p0 pv r = true → ∀ q ∈ r, isArr p0 q = true
  | [], _, _, q, h => by cases h
  | p :: r, pv, h, q, hq => by
    unfold kF at h
    simp only [Bool.and_eq_true] at h
    rcases List.mem_cons.1 hq with rfl | hq
    · exact h.1
    · exact kF_arr p0 r _ h.2.2 q hq
theorem isArr_fit {p q : List Int} (h : isArr p q = true) : packetOk p = true ∧ packetOk q = true ∧ p.length = q.length ∧ ∀ x ∈ p, 0 ≤ pos q (card x) := by
  unfold isArr at h
  simp only [Bool.and_eq_true, beq_iff_eq, List.all_eq_true, decide_eq_true_eq] at h
  exact ⟨h.1, h.2.1, h.2.2.1, h.2.2.2⟩
/-- All have as many cards as the first, at most 12 and at least one. -/
theorem know_fit {p0 : List Int} {r : Packs} (h : knowOk (p0 :: r) = true) : (p0 :: r).length ≤ 3000 ∧ 1 ≤ p0.length ∧ p0.length ≤ 12 ∧ ∀ q ∈ p0 :: r, packetOk q = true ∧ q.length = p0.length := by
  unfold knowOk at h
  simp only [Bool.and_eq_true, decide_eq_true_eq] at h
  have hk := kF_arr p0 _ _ h.2.2
  have h1 := isArr_fit (hk p0 (by simp))
  have h2 := (packetOk_fit h1.1).2.2
  refine ⟨h.1, ?_, h2, fun q hq => ?_⟩
  · have := h.2.1
    simp at this
    exact List.length_pos_iff.2 this
  · have := isArr_fit (hk q hq)
    exact ⟨this.2.1, this.2.2.1.symm⟩
end Qq
namespace Qq
open Go Go.Vt Pt
set_option linter.unusedVariables false
set_option linter.unusedSimpArgs false
/-- The card at a place, if it is the same in all packets. -/
def knownAt (l : Packs) (at_ : Int) : Int := match l with
  | [] => -1
  | p0 :: _ => if knowOk l && (decide (0 ≤ at_) && decide (at_ < p0.length)) then (if l.all (fun p => card (p.getD at_.toNat 0) == card (p0.getD at_.toNat 0)) then card (p0.getD at_.toNat 0) else -1) else -1
theorem getD_in {p : List Int} (h : Ins p) (i : Nat) : In (p.getD i 0) := by
  rw [List.getD]
  cases hi : p[i]? with
  | none => exact ⟨by decide, by decide⟩
  | some x => exact h x (List.mem_of_getElem? hi)
/-- What the program asks of one packet. -/
def atB (p : List Int) (j : Int) : Int := if 0 ≤ j ∧ j < (p.length : Int) then card (p.getD j.toNat 0) else -1
theorem i_KnownAt_1_ev (p : List Int) (j : Int) (hi : Ins p) : Ev (fun k => i_KnownAt_1 k (p, j)) (atB p j) := by
  unfold atB
  refine Ev.step (fun k => i_KnownAt_1_eq k p j) (Ev.ite (fun c => Ev.some ?_) (fun c => Ev.ite (fun c2 => Ev.some ?_) (fun c2 => Ev.yes (by simp at c ⊢; omega) (Ev.yes (by simp at c2 ⊢; omega) (Ev.bind (i_CardOf_ev _ (getD_in hi _)) (Ev.some ?_))))))
  · rw [if_neg (by simp at c; omega)]
  · rw [if_neg (by simp at c2; omega)]
  · rw [if_pos (by simp at c c2; omega)]
theorem i_common_l5_ev (l : Packs) (j v : Int) (hf : FitS l) : ∀ (r : Packs) (i : Nat), l.drop i = r → Ev (fun k => i_common_of_i_KnownAt_1_l5 k j v l (l.length : Int) (i : Int)) (if r.all (fun p => atB p j == v) then v else -1)
  | [], i, h => by
    have a := at_nil h
    refine Ev.step (fun k => i_common_of_i_KnownAt_1_l5_eq k _ _ _ _ _) ?_
    simp only [a.g, cond_false]
    exact Ev.pure _
  | q :: r, i, h => by
    have a := at_cons h hf.1
    have ih := i_common_l5_ev l j v hf r (i + 1) a.next
    refine Ev.step (fun k => i_common_of_i_KnownAt_1_l5_eq k _ _ _ _ _) ?_
    simp only [a.g, a.z, a.get, a.w, cond_true]
    refine Ev.bind (i_KnownAt_1_ev q j (hf.2 q a.mem).2) (Ev.ite (fun c => Ev.some ?_) (fun c => ih.to ?_))
    · have : (atB q j == v) = false := by simpa using c
      rw [List.all_cons, this, Bool.false_and]; rfl
    · have : (atB q j == v) = true := by simpa using c
      rw [List.all_cons, this, Bool.true_and]
theorem i_KnownAt_ev (l : Packs) (j : Int) (hf : FitS l) : Ev (fun k => i_KnownAt k (l, j)) (knownAt l j) := by
  refine Ev.step (fun k => i_KnownAt_eq k l j) (Ev.bind (x := knownAt l j) (Ev.step (fun k => i_common_of_i_KnownAt_1_eq k l j) (Ev.bind (i_KnowOk_ev l hf) ?_)) (Ev.pure _))
  cases l with
  | nil => exact Ev.yes rfl (Ev.some rfl)
  | cons p0 r =>
    unfold knownAt
    dsimp only
    refine Ev.ite (fun c => Ev.some ?_) (fun c => Ev.yes (by simp) ?_)
    · have : knowOk (p0 :: r) = false := by simpa using c
      simp [this]
    · have hk : knowOk (p0 :: r) = true := by simpa using c
      have kf := know_fit hk
      have e0 : List.getD (p0 :: r) 0 [] = p0 := rfl
      rw [e0]
      refine Ev.bind (i_KnownAt_1_ev p0 j (hf.2 p0 (by simp)).2) ((i_common_l5_ev (p0 :: r) j _ hf (p0 :: r) 0 rfl).to ?_)
      by_cases h1 : 0 ≤ j ∧ j < (p0.length : Int)
      · have e2 : (knowOk (p0 :: r) && (decide (0 ≤ j) && decide (j < (p0.length : Int)))) = true := by simp [hk, h1]
        have e3 : atB p0 j = card (p0.getD j.toNat 0) := by unfold atB; rw [if_pos h1]
        have e4 : (p0 :: r).all (fun p => atB p j == card (p0.getD j.toNat 0)) = (p0 :: r).all (fun p => card (p.getD j.toNat 0) == card (p0.getD j.toNat 0)) := by
          rw [Bool.eq_iff_iff, List.all_eq_true, List.all_eq_true]
          have : ∀ p ∈ p0 :: r, atB p j = card (p.getD j.toNat 0) := fun p hp => by
            have := (kf.2.2.2 p hp).2
            unfold atB; rw [if_pos (by omega)]
          constructor
          · intro h p hp; rw [← this p hp]; exact h p hp
          · intro h p hp; rw [this p hp]; exact h p hp
        rw [if_pos e2, e3, e4]
      · have e2 : ¬ (knowOk (p0 :: r) && (decide (0 ≤ j) && decide (j < (p0.length : Int)))) = true := by simp; omega
        have e3 : atB p0 j = -1 := by unfold atB; rw [if_neg h1]
        rw [if_neg e2, e3, ite_self]
end Qq
namespace Qq
open Go Go.Vt Pt
set_option linter.unusedVariables false
set_option linter.unusedSimpArgs false
set_option linter.unnecessarySimpa false
def doMove (p : List Int) (m : Int × Int) : List Int :=
  if m.1 = 1 then p.drop m.2.toNat ++ p.take m.2.toNat
  else if m.1 = 2 then (p.take m.2.toNat).reverse ++ p.drop m.2.toNat
  else if m.1 = 3 then (p.take m.2.toNat).reverse.map turn ++ p.drop m.2.toNat
  else if m.1 = 4 then faroL p m.2
  else if m.1 = 5 then mz m.2 0 p []
  else if m.1 = 6 then kz p.length p []
  else if m.1 = 7 then dz (2 * p.length + 1) (m.2 == 1) p []
  else if m.1 = 8 then p.set m.2.toNat (turn (p.getD m.2.toNat 0))
  else p.take m.2.toNat ++ p.drop (m.2.toNat + 1) ++ [p.getD m.2.toNat 0]
structure MoveFit (n : Nat) (m : Int × Int) : Prop where
  n1 : 1 ≤ n
  n12 : n ≤ 12
  k0 : 0 ≤ m.2
  kn : m.2 ≤ n ∨ m.2 ≤ 1
  c : m.1 = 1 ∨ m.1 = 2 ∨ m.1 = 3 → m.2 ≤ n
  f : m.1 = 4 ∨ m.1 = 5 ∨ m.1 = 7 → m.2 = 0 ∨ m.2 = 1
  t : m.1 ≠ 1 → m.1 ≠ 2 → m.1 ≠ 3 → m.1 ≠ 4 → m.1 ≠ 5 → m.1 ≠ 6 → m.1 ≠ 7 → m.2 < n
theorem s_l04Do_ev (p : List Int) (m : Int × Int) (h : MoveFit p.length m) (hi : Ins p) : Ev (fun k => s_l04Do k (p, m)) (doMove p m) := by
  have hp := h.n12
  have hp1 := h.n1
  obtain ⟨a, b⟩ := m
  have h0 := h.k0
  obtain ⟨j, rfl⟩ : ∃ j : Nat, b = (j : Int) := ⟨b.toNat, by have := h0; simp at this; omega⟩
  have hc := h.c
  have hf := h.f
  have ht := h.t
  dsimp only at hc hf ht
  clear h h0
  refine Ev.step (fun k => s_l04Do_eq k p (a, (j : Int))) ?_
  unfold doMove
  simp only [take_all, Int.toNat_natCast, List.take_length, List.drop_zero, List.nil_append]
  refine Ev.ite (fun c => ?_) (fun c1 => Ev.ite (fun c => ?_) (fun c2 => Ev.ite (fun c => ?_) (fun c3 => Ev.ite (fun c => ?_) (fun c4 => Ev.ite (fun c => ?_) (fun c5 => Ev.ite (fun c => ?_) (fun c6 => Ev.ite (fun c => ?_) (fun c7 => Ev.ite (fun c => ?_) (fun c8 => ?_))))))))
  all_goals simp only [beq_iff_eq, beq_eq_false_iff_ne, ne_eq] at *
  · have := hc (by omega)
    rw [if_pos c]
    (repeat (first | refine Ev.yes (by (first | (simp [rowMax_eq]; done) | (simp [rowMax_eq]; omega) | omega)) ?_ | refine Ev.no (by (first | (simp [rowMax_eq]; done) | (simp [rowMax_eq]; omega) | omega)) ?_))
    exact Ev.pure _
  · have := hc (by omega)
    rw [if_neg c1, if_pos c]
    exact Ev.bind (s_l04Back_ev p hp hi j (by omega) false) (Ev.some (by simp))
  · have := hc (by omega)
    rw [if_neg c1, if_neg c2, if_pos c]
    exact Ev.bind (s_l04Back_ev p hp hi j (by omega) true) (Ev.some (by simp))
  · rw [if_neg c1, if_neg c2, if_neg c3, if_pos c]
    exact Ev.bind (s_l04Faro_ev p hp _ (hf (by omega))) (Ev.pure _)
  · rw [if_neg c1, if_neg c2, if_neg c3, if_neg c4, if_pos c]
    exact Ev.bind (Ev.step (fun k => s_l04Monge_eq k _ _) (s_l04Monge_l3_ev p hp _ (hf (by omega)) p 0 [] rfl rfl)) (Ev.pure _)
  · rw [if_neg c1, if_neg c2, if_neg c3, if_neg c4, if_neg c5, if_pos c]
    exact Ev.bind (Ev.step (fun k => s_l04Milk_eq k _) (s_l04Milk_l2_ev p.length p [] (Nat.le_refl _) (by simp; omega))) (Ev.pure _)
  · rw [if_neg c1, if_neg c2, if_neg c3, if_neg c4, if_neg c5, if_neg c6, if_pos c]
    have hj := hf (by omega)
    have e : ((j : Int).tmod 2 == 1) = ((j : Int) == 1) := by rcases hj with hj | hj <;> rw [hj] <;> rfl
    have hd := s_l04Duck_l4_ev (2 * p.length + 1) j p [] hp1 (by cases ((j : Int).tmod 2 == 1) <;> simp) (by simp; omega) (by omega)
    rw [e] at hd
    refine Ev.bind (Ev.step (fun k => s_l04Duck_eq k _ _) (Ev.yes (by (first | (simp [rowMax_eq]; done) | (simp [rowMax_eq]; omega) | omega)) ?_)) (Ev.pure _)
    rw [List.nil_append]
    exact hd
  · rw [if_neg c1, if_neg c2, if_neg c3, if_neg c4, if_neg c5, if_neg c6, if_neg c7, if_pos c]
    have := ht c1 c2 c3 c4 c5 c6 c7
    have hin : In (p.getD j 0) := getD_in hi _
    (repeat (first | refine Ev.yes (by (first | (simp [rowMax_eq]; done) | (simp [rowMax_eq]; omega) | omega)) ?_ | refine Ev.no (by (first | (simp [rowMax_eq]; done) | (simp [rowMax_eq]; omega) | omega)) ?_))
    refine Ev.bind (s_TurnCard_ev _ hin) ?_
    (repeat (first | refine Ev.yes (by (first | (simp [rowMax_eq]; done) | (simp [rowMax_eq]; omega) | omega)) ?_ | refine Ev.no (by (first | (simp [rowMax_eq]; done) | (simp [rowMax_eq]; omega) | omega)) ?_))
    exact Ev.pure _
  · rw [if_neg c1, if_neg c2, if_neg c3, if_neg c4, if_neg c5, if_neg c6, if_neg c7, if_neg c8]
    have := ht c1 c2 c3 c4 c5 c6 c7
    have e : IntKind.i64.wrap ((j : Int) + 1) = ((j + 1 : Nat) : Int) := by rw [wrap_id (by omega) (by omega)]; omega
    simp only [e, Int.toNat_natCast]
    (repeat (first | refine Ev.yes (by (first | (simp [rowMax_eq]; done) | (simp [rowMax_eq]; omega) | omega)) ?_ | refine Ev.no (by (first | (simp [rowMax_eq]; done) | (simp [rowMax_eq]; omega) | omega)) ?_))
    exact Ev.pure _
end Qq
namespace Qq
open Go Go.Vt Pt
set_option linter.unusedVariables false
set_option linter.unusedSimpArgs false
theorem SamePacket_l4_ev (xs ys : List Int) (hx : xs.length ≤ maxLen) (hy : ys.length ≤ maxLen) : ∀ (r s : List Int) (i : Nat), xs.drop i = r → ys.drop i = s → s.length = r.length → Ev (fun k => s_SamePacket_l4 k ys xs (xs.length : Int) (i : Int)) (r == s)
  | [], [], i, h1, h2, hl => by
    have a := at_nil h1
    refine Ev.step (fun k => s_SamePacket_l4_eq k ys xs _ i) ?_
    simp only [a.g, cond_false]
    exact Ev.pure _
  | x :: r, y :: s, i, h1, h2, hl => by
    have a := at_cons h1 hx
    have b := at_cons h2 hy
    refine Ev.step (fun k => s_SamePacket_l4_eq k ys xs _ i) ?_
    simp only [a.g, a.z, b.g, a.get, b.get, a.w, cond_true]
    have ih := SamePacket_l4_ev xs ys hx hy r s (i + 1) a.next b.next (by simpa using hl)
    refine Ev.ite (fun h => Ev.some ?_) (fun h => ih.to ?_)
    · have : ¬ x = y := by simpa using h
      simp [this]
    · have : x = y := by simpa using h
      simp [this]
  | [], _ :: _, _, _, _, hl => by simp at hl
  | _ :: _, [], _, _, _, hl => by simp at hl
theorem SamePacket_ev (xs ys : List Int) (hx : xs.length ≤ maxLen) (hy : ys.length ≤ maxLen) : Ev (fun k => s_SamePacket k (xs, ys)) (xs == ys) := by
  refine Ev.step (fun k => s_SamePacket_eq k xs ys) (Ev.ite (fun h => Ev.some ?_) (fun h => SamePacket_l4_ev xs ys hx hy xs ys 0 rfl rfl ?_))
  · have h' : ¬ xs.length = ys.length := by simp at h; omega
    have : ¬ xs = ys := fun e => h' (by rw [e])
    simp [this]
  · simp at h; omega
end Qq
namespace Qq
open Go Go.Vt Pt
set_option linter.unusedVariables false
set_option linter.unusedSimpArgs false
set_option linter.unnecessarySimpa false
theorem cmpL_I : ∀ a b, cmpL a b = cmpI a b
  | [], _ => rfl
  | _ :: _, [] => rfl
  | x :: a, y :: b => by unfold cmpL cmpI; rw [cmpL_I a b]
theorem lessL_I (a b : List Int) : lessL a b = decide (cmpI a b < 0) := by
  have := cmpL_less a b
  rw [cmpL_I] at this
  by_cases h : cmpI a b < 0
  · rw [decide_eq_false (by omega)] at this; rw [decide_eq_true h]; simpa using this.symm
  · rw [decide_eq_true (by omega)] at this; rw [decide_eq_false h]; simpa using this.symm
theorem leI_not {a b : List Int} : leI a b = true ↔ ¬ cmpI b a < 0 := by unfold leI; simp
theorem lt_of_le_ne {a b : List Int} (h : leI a b = true) (hn : a ≠ b) : cmpI a b < 0 := by
  by_cases k : cmpI a b < 0
  · exact k
  · exact (hn (cmpI_anti a b k (leI_not.1 h))).elim
theorem le_of_lt {a b : List Int} (h : cmpI a b < 0) : leI a b = true := leI_not.2 fun k => cmpI_irrefl a (cmpI_trans a b a h k)
/-- Strictly ascending. -/
def SS (l : Packs) : Prop := l.Pairwise fun a b => cmpI a b < 0
theorem ss_unique : ∀ {l m : Packs}, SS l → SS m → (∀ x, x ∈ l ↔ x ∈ m) → l = m
  | [], [], _, _, _ => rfl
  | [], y :: m, _, _, h => by have := (h y).2 (by simp); simp at this
  | x :: l, [], _, _, h => by have := (h x).1 (by simp); simp at this
  | x :: l, y :: m, hl, hm, h => by
    obtain ⟨hl1, hl2⟩ := List.pairwise_cons.1 hl
    obtain ⟨hm1, hm2⟩ := List.pairwise_cons.1 hm
    have e : x = y := by
      rcases List.mem_cons.1 ((h x).1 (by simp)) with e | hx
      · exact e
      · rcases List.mem_cons.1 ((h y).2 (by simp)) with e | hy
        · exact e.symm
        · exact (cmpI_irrefl x (cmpI_trans x y x (hl1 y hy) (hm1 x hx))).elim
    subst e
    have : l = m := ss_unique hl2 hm2 fun z => by
      constructor
      · intro hz
        rcases List.mem_cons.1 ((h z).1 (List.mem_cons_of_mem _ hz)) with e | hz2
        · subst e; exact (cmpI_irrefl _ (hl1 _ hz)).elim
        · exact hz2
      · intro hz
        rcases List.mem_cons.1 ((h z).2 (List.mem_cons_of_mem _ hz)) with e | hz2
        · subst e; exact (cmpI_irrefl _ (hm1 _ hz)).elim
        · exact hz2
    rw [this]
theorem dedupFrom_ok : ∀ (r : Packs) (p : List Int), (p :: r).Pairwise (fun a b => leI a b = true) → SS (p :: dedupFrom p r) ∧ ∀ z, z ∈ p :: dedupFrom p r ↔ z ∈ p :: r
  | [], p, _ => ⟨List.pairwise_singleton _ _, fun z => Iff.rfl⟩
  | y :: r, p, h => by
    obtain ⟨h1, h2⟩ := List.pairwise_cons.1 h
    obtain ⟨i1, i2⟩ := dedupFrom_ok r y h2
    unfold dedupFrom
    by_cases e : y = p
    · subst e
      rw [if_pos rfl]
      refine ⟨i1, fun z => ?_⟩
      rw [i2]; simp
    · rw [if_neg e]
      have hlt : cmpI p y < 0 := lt_of_le_ne (h1 y (by simp)) (Ne.symm e)
      refine ⟨List.pairwise_cons.2 ⟨fun z hz => ?_, i1⟩, fun z => ?_⟩
      · rcases List.mem_cons.1 hz with rfl | hz
        · exact hlt
        · exact cmpI_trans _ _ _ hlt ((List.pairwise_cons.1 i1).1 z hz)
      · rw [List.mem_cons, i2, ← List.mem_cons]
theorem dedup_ok {l : Packs} (h : l.Pairwise (fun a b => leI a b = true)) : SS (dedupL l) ∧ ∀ z, z ∈ dedupL l ↔ z ∈ l := by
  cases l with
  | nil => exact ⟨List.Pairwise.nil, fun _ => Iff.rfl⟩
  | cons x r => exact dedupFrom_ok r x h
/-- The packets in order, each once. -/
def setL (l : Packs) : Packs := dedupL (sortL l)
theorem setL_ss (l : Packs) : SS (setL l) := (dedup_ok (sortL_sorted l)).1
theorem setL_mem (l : Packs) (z : List Int) : z ∈ setL l ↔ z ∈ l := ((dedup_ok (sortL_sorted l)).2 z).trans (sortL_perm l).mem_iff
theorem setL_of {l m : Packs} (h : SS m) (hm : ∀ z, z ∈ m ↔ z ∈ l) : m = setL l := ss_unique h (setL_ss l) fun z => (hm z).trans (setL_mem l z).symm
theorem dedupFrom_len : ∀ (r : Packs) (p : List Int), (dedupFrom p r).length ≤ r.length
  | [], _ => Nat.le_refl _
  | y :: r, p => by unfold dedupFrom; have := dedupFrom_len r y; split <;> simp <;> omega
theorem setL_len (l : Packs) : (setL l).length ≤ l.length := by
  have h1 : (sortL l).length = l.length := (sortL_perm l).length_eq
  unfold setL
  rw [← h1]
  cases sortL l with
  | nil => exact Nat.le_refl _
  | cons x r => have := dedupFrom_len r x; simp [dedupL]; omega
def pushU (out : Packs) (x : List Int) : Packs := if out.length = 0 then [x] else if out.getD (out.length - 1) [] = x then out else out ++ [x]
theorem pushU_len (out : Packs) (x : List Int) : (pushU out x).length ≤ out.length + 1 := by
  unfold pushU
  split
  · simp
  · split <;> simp
theorem pushU_ok {out : Packs} {x : List Int} (h : SS out) (hx : ∀ o ∈ out, leI o x = true) : SS (pushU out x) ∧ ∀ z, z ∈ pushU out x ↔ z ∈ out ∨ z = x := by
  unfold pushU
  split
  · rename_i h0
    have : out = [] := List.length_eq_zero_iff.1 h0
    subst this
    exact ⟨List.pairwise_singleton _ _, fun z => by simp⟩
  · rename_i h0
    obtain ⟨init, l, rfl⟩ : ∃ init l, out = init ++ [l] := by
      rcases List.eq_nil_or_concat out with h | ⟨i, l, h⟩
      · subst h; simp at h0
      · exact ⟨i, l, by rw [h]; simp⟩
    have el : (init ++ [l]).getD ((init ++ [l]).length - 1) [] = l := by simp [List.getD]
    rw [el]
    split
    · rename_i e
      subst e
      exact ⟨h, fun z => ⟨.inl, fun hz => hz.elim id fun e => by simp [e]⟩⟩
    · rename_i e
      have hlt : cmpI l x < 0 := lt_of_le_ne (hx l (by simp)) e
      refine ⟨?_, fun z => by simp [or_assoc]⟩
      refine List.pairwise_append.2 ⟨h, List.pairwise_singleton _ _, fun o ho y hy => ?_⟩
      have : y = x := by simpa using hy
      subst this
      rcases List.mem_append.1 ho with ho | ho
      · exact cmpI_trans _ _ _ ((List.pairwise_append.1 h).2.2 o ho l (by simp)) hlt
      · have : o = l := by simpa using ho
        subst this; exact hlt
def mergeU : Packs → Packs → Packs → Packs
  | [], [], out => out
  | x :: a, [], out => mergeU a [] (pushU out x)
  | [], y :: b, out => mergeU [] b (pushU out y)
  | x :: a, y :: b, out => if lessL y x then mergeU (x :: a) b (pushU out y) else mergeU a (y :: b) (pushU out x)
termination_by a b => a.length + b.length
theorem mergeU_ok : ∀ (n : Nat) (a b out : Packs), a.length + b.length = n → a.Pairwise (fun x y => leI x y = true) → b.Pairwise (fun x y => leI x y = true) → SS out → (∀ o ∈ out, ∀ z, z ∈ a ∨ z ∈ b → leI o z = true) →
    SS (mergeU a b out) ∧ ∀ z, z ∈ mergeU a b out ↔ z ∈ out ∨ z ∈ a ∨ z ∈ b
  | n, a, b, out, hn, ha, hb, ho, hz => by
    match a, b, n, hn, ha, hb with
    | [], [], _, _, _, _ => unfold mergeU; exact ⟨ho, fun z => by simp⟩
    | x :: a, [], n + 1, hn, ha, hb =>
      obtain ⟨a1, a2⟩ := List.pairwise_cons.1 ha
      obtain ⟨p1, p2⟩ := pushU_ok ho (fun o h => hz o h x (by simp))
      unfold mergeU
      obtain ⟨q1, q2⟩ := mergeU_ok n a [] (pushU out x) (by simp at hn ⊢; omega) a2 hb p1 (fun o h z hz' => by
        rcases (p2 o).1 h with h | rfl
        · exact hz o h z (by rcases hz' with h | h; exact .inl (by simp [h]); exact .inr h)
        · rcases hz' with h | h
          · exact a1 z h
          · cases h)
      exact ⟨q1, fun z => by rw [q2, p2]; simp [or_assoc]⟩
    | [], y :: b, n + 1, hn, ha, hb =>
      obtain ⟨b1, b2⟩ := List.pairwise_cons.1 hb
      obtain ⟨p1, p2⟩ := pushU_ok ho (fun o h => hz o h y (by simp))
      unfold mergeU
      obtain ⟨q1, q2⟩ := mergeU_ok n [] b (pushU out y) (by simp at hn ⊢; omega) ha b2 p1 (fun o h z hz' => by
        rcases (p2 o).1 h with h | rfl
        · exact hz o h z (by rcases hz' with h | h; exact .inl h; exact .inr (by simp [h]))
        · rcases hz' with h | h
          · cases h
          · exact b1 z h)
      exact ⟨q1, fun z => by rw [q2, p2]; simp [or_assoc]⟩
    | x :: a, y :: b, n + 1, hn, ha, hb =>
      obtain ⟨a1, a2⟩ := List.pairwise_cons.1 ha
      obtain ⟨b1, b2⟩ := List.pairwise_cons.1 hb
      unfold mergeU
      split
      · rename_i c
        rw [lessL_I] at c
        have hyx : leI y x = true := le_of_lt (of_decide_eq_true c)
        obtain ⟨p1, p2⟩ := pushU_ok ho (fun o h => hz o h y (by simp))
        obtain ⟨q1, q2⟩ := mergeU_ok n (x :: a) b (pushU out y) (by simp at hn ⊢; omega) ha b2 p1 (fun o h z hz' => by
          rcases (p2 o).1 h with h | rfl
          · exact hz o h z (by rcases hz' with h | h; exact .inl h; exact .inr (by simp [h]))
          · rcases hz' with h | h
            · rcases List.mem_cons.1 h with rfl | h
              · exact hyx
              · exact leI_trans _ _ _ hyx (a1 z h)
            · exact b1 z h)
        refine ⟨q1, fun z => ?_⟩
        rw [q2, p2]
        simp only [List.mem_cons]
        constructor
        · rintro ((h | h) | (h | h) | h) <;> simp [h]
        · rintro (h | (h | h) | h | h) <;> simp [h]
      · rename_i c
        rw [lessL_I] at c
        have hxy : leI x y = true := leI_not.2 (by simpa using c)
        obtain ⟨p1, p2⟩ := pushU_ok ho (fun o h => hz o h x (by simp))
        obtain ⟨q1, q2⟩ := mergeU_ok n a (y :: b) (pushU out x) (by simp at hn ⊢; omega) a2 hb p1 (fun o h z hz' => by
          rcases (p2 o).1 h with h | rfl
          · exact hz o h z (by rcases hz' with h | h; exact .inl (by simp [h]); exact .inr h)
          · rcases hz' with h | h
            · exact a1 z h
            · rcases List.mem_cons.1 h with rfl | h
              · exact hxy
              · exact leI_trans _ _ _ hxy (b1 z h))
        refine ⟨q1, fun z => ?_⟩
        rw [q2, p2]
        simp only [List.mem_cons]
        constructor
        · rintro ((h | h) | h | h | h) <;> simp [h]
        · rintro (h | (h | h) | h | h) <;> simp [h]
theorem ss_le {l : Packs} (h : SS l) : l.Pairwise (fun x y => leI x y = true) := h.imp fun h => le_of_lt h
theorem mergeU_set {a b : Packs} (ha : SS a) (hb : SS b) : mergeU a b [] = setL (a ++ b) := by
  obtain ⟨h1, h2⟩ := mergeU_ok _ a b [] rfl (ss_le ha) (ss_le hb) List.Pairwise.nil (fun o h => by cases h)
  exact setL_of h1 fun z => by rw [h2]; simp
theorem set_last (out : Packs) : out.set (out.length - 1) (out.getD (out.length - 1) []) = out := by
  apply List.ext_getElem
  · simp
  · intro i h1 h2
    rw [List.getElem_set]
    split
    · rename_i e
      subst e
      simp [List.getD, h2]
    · rfl
theorem push_ev {C : Nat → Packs → Option Packs} {z : Packs} (out : Packs) (x : List Int) (hx : x.length ≤ 1048576) (ho : out.length ≤ 4194304) (h12 : ∀ p ∈ out, p.length ≤ 1048576) (h : Ev (fun k => C k (pushU out x)) z) :
    Ev (fun k => bif ((out.length : Int) == (0 : Int)) then
        (bif decide (([] : List Int).length + x.length ≤ rowMax) then
          (bif decide (out.length + ([(([] : List Int) ++ x)]).length ≤ rowMax) then C k (out ++ ([(([] : List Int) ++ x)])) else none) else none)
      else (bif decide (0 ≤ (IntKind.i64.wrap ((out.length : Int) - (1 : Int)))) then
        (bif decide ((IntKind.i64.wrap ((out.length : Int) - (1 : Int))) < (out.length : Int)) then
          (bif decide ((IntKind.i64.wrap ((out.length : Int) - (1 : Int))).toNat < out.length) then
            ((s_SamePacket k ((out.getD (IntKind.i64.wrap ((out.length : Int) - (1 : Int))).toNat []), x)).bind fun y =>
              bif (!y) then
                (bif decide (([] : List Int).length + x.length ≤ rowMax) then
                  (bif decide ((out.set (IntKind.i64.wrap ((out.length : Int) - (1 : Int))).toNat (out.getD (IntKind.i64.wrap ((out.length : Int) - (1 : Int))).toNat [])).length + ([(([] : List Int) ++ x)]).length ≤ rowMax) then
                    C k ((out.set (IntKind.i64.wrap ((out.length : Int) - (1 : Int))).toNat (out.getD (IntKind.i64.wrap ((out.length : Int) - (1 : Int))).toNat [])) ++ ([(([] : List Int) ++ x)])) else none) else none)
              else C k (out.set (IntKind.i64.wrap ((out.length : Int) - (1 : Int))).toNat (out.getD (IntKind.i64.wrap ((out.length : Int) - (1 : Int))).toNat []))) else none) else none) else none)) z := by
  unfold pushU at h
  refine Ev.ite (fun c => ?_) (fun c => ?_)
  · have h0 : out.length = 0 := by have : (out.length : Int) = 0 := by simpa using c
                                   omega
    rw [if_pos h0] at h
    have e : out = [] := List.length_eq_zero_iff.1 h0
    subst e
    exact Ev.yes (by rw [rowMax_eq]; exact decide_eq_true (by simp; omega)) (Ev.yes (by rw [rowMax_eq]; simp) h)
  · have h0 : ¬ out.length = 0 := by have : ¬ (out.length : Int) = 0 := by simpa using c
                                     omega
    rw [if_neg h0] at h
    have e : ((out.length : Int) - 1) = ((out.length - 1 : Nat) : Int) := by omega
    have hl : (out.getD (out.length - 1) []).length ≤ 1048576 := by
      have : out.length - 1 < out.length := by omega
      rw [List.getD, List.getElem?_eq_getElem this]
      exact h12 _ (List.getElem_mem this)
    simp only [e, wrap_id (x := ((out.length - 1 : Nat) : Int)) (by omega) (by omega), Int.toNat_natCast, set_last]
    refine Ev.yes (by simp) (Ev.yes (by simp; omega) (Ev.yes (by simp; omega) (Ev.bind (SamePacket_ev _ x (by rw [maxLen_eq]; omega) (by rw [maxLen_eq]; omega)) (Ev.ite (fun c2 => ?_) (fun c2 => ?_)))))
    · have : ¬ out.getD (out.length - 1) [] = x := by simpa using c2
      rw [if_neg this] at h
      exact Ev.yes (by rw [rowMax_eq]; exact decide_eq_true (by simp; omega)) (Ev.yes (by rw [rowMax_eq]; exact decide_eq_true (by simp; omega)) h)
    · have : out.getD (out.length - 1) [] = x := by simpa using c2
      rw [if_pos this] at h
      exact h
theorem pushU_small {out : Packs} {x : List Int} (hx : x.length ≤ 1048576) (h12 : ∀ p ∈ out, p.length ≤ 1048576) : ∀ p ∈ pushU out x, p.length ≤ 1048576 := fun p hp => by
  unfold pushU at hp
  split at hp
  · have : p = x := by simpa using hp
    subst this; exact hx
  · split at hp
    · exact h12 p hp
    · rcases List.mem_append.1 hp with h | h
      · exact h12 p h
      · have : p = x := by simpa using h
        subst this; exact hx
theorem take_all2 {α : Type} (l : List α) : l.take ((l.length : Int)).toNat = l := by simp
theorem s_l05Merge_l2_ev : ∀ (n : Nat) (a b out : Packs), a.length + b.length = n → out.length + n ≤ 4194304 → (∀ p ∈ a, p.length ≤ 1048576) → (∀ p ∈ b, p.length ≤ 1048576) → (∀ p ∈ out, p.length ≤ 1048576) →
    Ev (fun k => s_l05Merge_l2 k a b out) (mergeU a b out)
  | 0, a, b, out, hn, hl, h1, h2, h3 => by
    have ea : a = [] := List.length_eq_zero_iff.1 (by omega)
    have eb : b = [] := List.length_eq_zero_iff.1 (by omega)
    subst ea eb
    unfold mergeU
    exact Ev.step (fun k => s_l05Merge_l2_eq k _ _ _) (Ev.no (by (first | (simp; done) | (simp; omega) | omega)) (Ev.no (by (first | (simp; done) | (simp; omega) | omega)) (Ev.pure _)))
  | n + 1, [], [], out, hn, hl, h1, h2, h3 => by simp at hn
  | n + 1, x :: a, [], out, hn, hl, h1, h2, h3 => by
    have hx := h1 x (by simp)
    have hp := pushU_len out x
    have ih := s_l05Merge_l2_ev n a [] (pushU out x) (by simp at hn ⊢; omega) (by omega) (fun p hp => h1 p (by simp [hp])) h2 (pushU_small hx h3)
    unfold mergeU
    refine Ev.step (fun k => s_l05Merge_l2_eq k _ _ _) ?_
    simp only [take_all2, List.getD_cons_zero, List.drop_succ_cons, List.drop_zero]
    refine Ev.yes (by (first | (simp; done) | (simp; omega) | omega)) (Ev.yes (by (first | (simp; done) | (simp; omega) | omega)) (Ev.yes (by (first | (simp; done) | (simp; omega) | omega)) (Ev.yes (by (first | (simp; done) | (simp; omega) | omega)) (Ev.yes (by (first | (simp; done) | (simp; omega) | omega)) ?_))))
    exact push_ev (C := fun k o => s_l05Merge_l2 k a [] o) out x hx (by omega) h3 ih
  | n + 1, [], y :: b, out, hn, hl, h1, h2, h3 => by
    have hy := h2 y (by simp)
    have hp := pushU_len out y
    have ih := s_l05Merge_l2_ev n [] b (pushU out y) (by simp at hn ⊢; omega) (by omega) h1 (fun p hp => h2 p (by simp [hp])) (pushU_small hy h3)
    unfold mergeU
    refine Ev.step (fun k => s_l05Merge_l2_eq k _ _ _) ?_
    simp only [take_all2, List.getD_cons_zero, List.drop_succ_cons, List.drop_zero]
    refine Ev.no (by (first | (simp; done) | (simp; omega) | omega)) (Ev.yes (by (first | (simp; done) | (simp; omega) | omega)) (Ev.no (by (first | (simp; done) | (simp; omega) | omega)) (Ev.no (by (first | (simp; done) | (simp; omega) | omega)) (Ev.yes (by (first | (simp; done) | (simp; omega) | omega)) (Ev.yes (by (first | (simp; done) | (simp; omega) | omega)) (Ev.yes (by (first | (simp; done) | (simp; omega) | omega)) ?_))))))
    exact push_ev (C := fun k o => s_l05Merge_l2 k [] b o) out y hy (by omega) h3 ih
  | n + 1, x :: a, y :: b, out, hn, hl, h1, h2, h3 => by
    have hx := h1 x (by simp)
    have hy := h2 y (by simp)
    have hp := pushU_len out x
    have hp2 := pushU_len out y
    have ihx := s_l05Merge_l2_ev n a (y :: b) (pushU out x) (by simp at hn ⊢; omega) (by omega) (fun p hp => h1 p (by simp [hp])) h2 (pushU_small hx h3)
    have ihy := s_l05Merge_l2_ev n (x :: a) b (pushU out y) (by simp at hn ⊢; omega) (by omega) h1 (fun p hp => h2 p (by simp [hp])) (pushU_small hy h3)
    unfold mergeU
    refine Ev.step (fun k => s_l05Merge_l2_eq k _ _ _) ?_
    simp only [take_all2, List.getD_cons_zero, List.drop_succ_cons, List.drop_zero]
    refine Ev.yes (by (first | (simp; done) | (simp; omega) | omega)) (Ev.no (by (first | (simp; done) | (simp; omega) | omega)) (Ev.yes (by (first | (simp; done) | (simp; omega) | omega)) (Ev.yes (by (first | (simp; done) | (simp; omega) | omega)) (Ev.yes (by (first | (simp; done) | (simp; omega) | omega)) (Ev.bind (s_l05Less_ev y x (by rw [maxLen_eq]; omega) (by rw [maxLen_eq]; omega)) (Ev.ite (fun c => ?_) (fun c => ?_)))))))
    · have : lessL y x = false := by simpa using c
      rw [this, if_neg (by simp)]
      refine Ev.yes (by (first | (simp; done) | (simp; omega) | omega)) (Ev.yes (by (first | (simp; done) | (simp; omega) | omega)) (Ev.yes (by (first | (simp; done) | (simp; omega) | omega)) ?_))
      exact push_ev (C := fun k o => s_l05Merge_l2 k a (y :: b) o) out x hx (by omega) h3 ihx
    · have : lessL y x = true := by simpa using c
      rw [this, if_pos rfl]
      refine Ev.yes (by (first | (simp; done) | (simp; omega) | omega)) (Ev.yes (by (first | (simp; done) | (simp; omega) | omega)) (Ev.yes (by (first | (simp; done) | (simp; omega) | omega)) ?_))
      exact push_ev (C := fun k o => s_l05Merge_l2 k (x :: a) b o) out y hy (by omega) h3 ihy
theorem s_l05Merge_ev (a b : Packs) (hl : a.length + b.length ≤ 4194304) (h1 : ∀ p ∈ a, p.length ≤ 1048576) (h2 : ∀ p ∈ b, p.length ≤ 1048576) : Ev (fun k => s_l05Merge k (a, b)) (mergeU a b []) :=
  Ev.step (fun k => s_l05Merge_eq k a b) (s_l05Merge_l2_ev _ a b [] rfl (by simpa using hl) h1 h2 (fun p hp => by cases hp))
theorem half2 (n : Nat) (h : n ≤ 4194304) : IntKind.i64.wrap ((n : Int).tdiv 2) = ((n / 2 : Nat) : Int) := by
  have : (n : Int).tdiv 2 = ((n / 2 : Nat) : Int) := by rw [Int.tdiv_eq_ediv_of_nonneg (by omega)]; omega
  rw [this, wrap_id (by omega) (by omega)]
theorem s_SortPackets_ev : ∀ (n : Nat) (l : Packs), l.length ≤ n → l.length ≤ 1048576 → (∀ p ∈ l, p.length ≤ 1048576) → Ev (fun k => s_SortPackets k l) (setL l)
  | n, l, hn, hl, h12 => by
    refine Ev.step (fun k => s_SortPackets_eq k l) ?_
    refine Ev.ite (fun c => ?_) (fun c => ?_)
    · have hlt : l.length < 2 := by have : (l.length : Int) < 2 := by simpa using c
                                    omega
      have hs : SS l := by
        match l, hlt with
        | [], _ => exact List.Pairwise.nil
        | [x], _ => exact List.pairwise_singleton _ _
      refine Ev.bind (s_l05Merge_ev l [] (by simp; omega) h12 (fun p hp => by cases hp)) (Ev.some ?_)
      rw [mergeU_set hs List.Pairwise.nil, List.append_nil]
    · have hge : ¬ l.length < 2 := by have : ¬ (l.length : Int) < 2 := by simpa using c
                                      omega
      match n, hn with
      | 0, hn => omega
      | n + 1, hn =>
      have hA := s_SortPackets_ev n (l.take (l.length / 2)) (by simp; omega) (by simp; omega) (fun p hp => h12 p (List.mem_of_mem_take hp))
      have hB := s_SortPackets_ev n (l.drop (l.length / 2)) (by simp; omega) (by simp; omega) (fun p hp => h12 p (List.mem_of_mem_drop hp))
      have lA := setL_len (l.take (l.length / 2))
      have lB := setL_len (l.drop (l.length / 2))
      simp at lA lB
      simp only [half2 l.length (by omega), take_all2, Int.toNat_natCast, List.drop_zero, List.take_length]
      refine Ev.yes (by (first | (simp; done) | (simp; omega) | omega)) (Ev.yes (by (first | (simp; done) | (simp; omega) | omega)) (Ev.bind hA (Ev.yes (by (first | (simp; done) | (simp; omega) | omega)) (Ev.yes (by (first | (simp; done) | (simp; omega) | omega)) (Ev.yes (by (first | (simp; done) | (simp; omega) | omega)) (Ev.bind hB (Ev.bind (s_l05Merge_ev _ _ (by omega) (fun p hp => ?_) (fun p hp => ?_)) (Ev.some ?_))))))))
      · exact h12 p (List.mem_of_mem_take ((setL_mem _ p).1 hp))
      · exact h12 p (List.mem_of_mem_drop ((setL_mem _ p).1 hp))
      · rw [mergeU_set (setL_ss _) (setL_ss _)]
        refine setL_of (setL_ss _) fun z => ?_
        rw [setL_mem, List.mem_append, setL_mem, setL_mem, ← List.mem_append, List.take_append_drop]
end Qq
namespace Qq
open Go Go.Vt Pt
set_option linter.unusedVariables false
set_option linter.unusedSimpArgs false
end Qq
namespace Qq
open Go Go.Vt Pt
set_option linter.unusedVariables false
set_option linter.unusedSimpArgs false
end Qq
namespace Qq
open Go Go.Vt Pt
set_option linter.unusedVariables false
set_option linter.unusedSimpArgs false
end Qq
namespace Qq
open Go Go.Vt Pt
set_option linter.unusedVariables false
set_option linter.unusedSimpArgs false
end Qq
namespace Qq
open Go Go.Vt Pt
set_option linter.unusedVariables false
set_option linter.unusedSimpArgs false
end Qq
namespace Qq
open Go Go.Vt Pt
set_option linter.unusedVariables false
set_option linter.unusedSimpArgs false
/-- The lists of a valid list for which f holds. -/
def those (l : Packs) (f : List Int → Bool) : Packs := if knowOk l then l.filter f else []
theorem filter_next {l : Packs} {f : List Int → Bool} {i : Nat} {p : List Int} {r : Packs} (a : AtCons l i p r) : (l.take (i + 1)).filter f = (l.take i).filter f ++ (if f p then [p] else []) := by
  have hlt := a.lt
  have e : l[i] = p := by have := a.get []; rw [Int.toNat_natCast, List.getD, List.getElem?_eq_getElem hlt] at this; exact this
  rw [List.take_succ_eq_append_getElem hlt, List.filter_append, e]
  cases h : f p <;> simp [h]
end Qq
namespace Qq
open Go Go.Vt Pt
set_option linter.unusedVariables false
set_option linter.unusedSimpArgs false
set_option linter.unnecessarySimpa false
end Qq
namespace Qq
open Go Go.Vt Pt
set_option linter.unusedVariables false
set_option linter.unusedSimpArgs false
set_option linter.unnecessarySimpa false
def cutL (p : List Int) (k : Nat) : List Int := p.drop k ++ p.take k
def cutsL (p : List Int) : Packs := (List.range p.length).map (cutL p)
theorem cut_fit {p : List Int} {i : Nat} (hp : p.length ≤ 12) (hi : i < p.length) : MoveFit p.length (1, (i : Int)) :=
  ⟨by omega, hp, by simp, .inl (by simp; omega), fun _ => by simp; omega, fun h => by simp at h, fun h => by simp at h⟩
theorem doMove_cut (p : List Int) (i : Nat) : doMove p (1, (i : Int)) = cutL p i := by simp [doMove, cutL]
theorem range_next (n : Nat) (f : Nat → List Int) : (List.range (n + 1)).map f = (List.range n).map f ++ [f n] := by rw [List.range_succ, List.map_append]; rfl
theorem s_l05Cuts_l3_ev (p : List Int) (hp : p.length ≤ 12) (hi : Ins p) : ∀ (m i : Nat), i + m = p.length → Ev (fun k => s_l05Cuts_l3 k p (p.length : Int) (i : Int) ((List.range i).map (cutL p))) (cutsL p)
  | 0, i, h => by
    refine Ev.step (fun k => s_l05Cuts_l3_eq k _ _ _ _) (Ev.no (by simp; omega) (Ev.some ?_))
    have : i = p.length := by omega
    rw [this]; rfl
  | m + 1, i, h => by
    have ih := s_l05Cuts_l3_ev p hp hi m (i + 1) (by omega)
    rw [range_next] at ih
    have ew : IntKind.i64.wrap ((i : Int) + 1) = ((i + 1 : Nat) : Int) := by rw [wrap_id (by omega) (by omega)]; omega
    refine Ev.step (fun k => s_l05Cuts_l3_eq k _ _ _ _) ?_
    simp only [ew]
    refine Ev.yes (by simp; omega) (Ev.bind (s_l04Do_ev p _ (cut_fit hp (by omega)) hi) ?_)
    rw [doMove_cut]
    exact Ev.yes (by rw [rowMax_eq]; exact decide_eq_true (by simp; omega)) ih
theorem s_l05Cuts_ev (p : List Int) (hp : p.length ≤ 12) (hi : Ins p) : Ev (fun k => s_l05Cuts k p) (cutsL p) :=
  Ev.step (fun k => s_l05Cuts_eq k _) (s_l05Cuts_l3_ev p hp hi p.length 0 (by omega))
def pickL (p : List Int) (i : Nat) : List Int := [p.getD i 0] ++ (p.take i ++ p.drop (i + 1))
def picksL (p : List Int) : Packs := (List.range p.length).map (pickL p)
theorem s_l05Of_l15_ev (p : List Int) (hp : p.length ≤ 12) : ∀ (m i : Nat), i + m = p.length → Ev (fun k => s_l05Of_l15 k p p (p.length : Int) (i : Int) ((List.range i).map (pickL p))) (picksL p)
  | 0, i, h => by
    refine Ev.step (fun k => s_l05Of_l15_eq k _ _ _ _ _) (Ev.no (by simp; omega) (Ev.some ?_))
    have : i = p.length := by omega
    rw [this]; rfl
  | m + 1, i, h => by
    have ih := s_l05Of_l15_ev p hp m (i + 1) (by omega)
    rw [range_next] at ih
    have ew : IntKind.i64.wrap ((i : Int) + 1) = ((i + 1 : Nat) : Int) := by rw [wrap_id (by omega) (by omega)]; omega
    refine Ev.step (fun k => s_l05Of_l15_eq k _ _ _ _ _) ?_
    simp only [ew, take_all, Int.toNat_natCast, List.take_length, List.drop_zero, List.nil_append]
    refine Ev.yes (by simp; omega) ?_
    (repeat (first | refine Ev.yes (by (first | (simp [rowMax_eq]; done) | (simp [rowMax_eq]; omega) | omega)) ?_ | refine Ev.no (by (first | (simp [rowMax_eq]; done) | (simp [rowMax_eq]; omega) | omega)) ?_))
    exact ih
def wv : List Int → List Int → List Int → Packs
  | d, [], [] => [d]
  | d, x :: a, [] => wv (d ++ [x]) a []
  | d, [], y :: b => wv (d ++ [y]) [] b
  | d, x :: a, y :: b => wv (d ++ [x]) a (y :: b) ++ wv (d ++ [y]) (x :: a) b
termination_by _ a b => a.length + b.length
theorem wv_len : ∀ (n : Nat) (d a b : List Int), a.length + b.length = n → (wv d a b).length ≤ 2 ^ n
  | n, d, [], [], h => by unfold wv; simp; exact Nat.one_le_two_pow
  | n + 1, d, x :: a, [], h => by
    unfold wv
    have := wv_len n (d ++ [x]) a [] (by simp at h ⊢; omega)
    rw [Nat.pow_succ]; omega
  | n + 1, d, [], y :: b, h => by
    unfold wv
    have := wv_len n (d ++ [y]) [] b (by simp at h ⊢; omega)
    rw [Nat.pow_succ]; omega
  | n + 1, d, x :: a, y :: b, h => by
    unfold wv
    have h1 := wv_len n (d ++ [x]) a (y :: b) (by simp at h ⊢; omega)
    have h2 := wv_len n (d ++ [y]) (x :: a) b (by simp at h ⊢; omega)
    rw [List.length_append, Nat.pow_succ]; omega
  | 0, d, x :: a, _, h => by simp at h
  | 0, d, [], y :: b, h => by simp at h
theorem s_l05Weave_ev : ∀ (n : Nat) (out : Packs) (d a b : List Int), a.length + b.length = n → d.length + n ≤ 100 → out.length + 2 ^ n ≤ 1048576 → Ev (fun k => s_l05Weave k (out, d, a, b)) (out ++ wv d a b)
  | n, out, d, [], [], h, hd, ho => by
    have : 1 ≤ 2 ^ n := Nat.one_le_two_pow
    unfold wv
    refine Ev.step (fun k => s_l05Weave_eq k _ _ _ _) (Ev.yes (by (first | (simp [rowMax_eq]; done) | (simp [rowMax_eq]; omega) | omega)) (Ev.yes (by (first | (simp [rowMax_eq]; done) | (simp [rowMax_eq]; omega) | omega)) (Ev.yes (by rw [rowMax_eq]; exact decide_eq_true (by simp; omega)) (Ev.pure _))))
  | n + 1, out, d, x :: a, [], h, hd, ho => by
    rw [Nat.pow_succ] at ho
    have ih := s_l05Weave_ev n out (d ++ [x]) a [] (by simp at h ⊢; omega) (by simp; omega) (by omega)
    unfold wv
    refine Ev.step (fun k => s_l05Weave_eq k _ _ _ _) ?_
    simp only [take_all, List.nil_append, List.getD_cons_zero, List.drop_succ_cons, List.drop_zero]
    refine Ev.no (by (first | (simp [rowMax_eq]; done) | (simp [rowMax_eq]; omega) | omega)) (Ev.yes (by (first | (simp [rowMax_eq]; done) | (simp [rowMax_eq]; omega) | omega)) (Ev.yes (by (first | (simp [rowMax_eq]; done) | (simp [rowMax_eq]; omega) | omega)) (Ev.yes (by (first | (simp [rowMax_eq]; done) | (simp [rowMax_eq]; omega) | omega)) (Ev.yes (by (first | (simp [rowMax_eq]; done) | (simp [rowMax_eq]; omega) | omega)) (Ev.yes (by (first | (simp [rowMax_eq]; done) | (simp [rowMax_eq]; omega) | omega)) (Ev.yes (by (first | (simp [rowMax_eq]; done) | (simp [rowMax_eq]; omega) | omega)) (Ev.bind ih (Ev.no (by (first | (simp [rowMax_eq]; done) | (simp [rowMax_eq]; omega) | omega)) (Ev.pure _)))))))))
  | n + 1, out, d, [], y :: b, h, hd, ho => by
    rw [Nat.pow_succ] at ho
    have ih := s_l05Weave_ev n out (d ++ [y]) [] b (by simp at h ⊢; omega) (by simp; omega) (by omega)
    unfold wv
    refine Ev.step (fun k => s_l05Weave_eq k _ _ _ _) ?_
    simp only [take_all, List.nil_append, List.getD_cons_zero, List.drop_succ_cons, List.drop_zero]
    refine Ev.yes (by (first | (simp [rowMax_eq]; done) | (simp [rowMax_eq]; omega) | omega)) (Ev.no (by (first | (simp [rowMax_eq]; done) | (simp [rowMax_eq]; omega) | omega)) (Ev.no (by (first | (simp [rowMax_eq]; done) | (simp [rowMax_eq]; omega) | omega)) (Ev.yes (by (first | (simp [rowMax_eq]; done) | (simp [rowMax_eq]; omega) | omega)) (Ev.yes (by (first | (simp [rowMax_eq]; done) | (simp [rowMax_eq]; omega) | omega)) (Ev.yes (by (first | (simp [rowMax_eq]; done) | (simp [rowMax_eq]; omega) | omega)) (Ev.yes (by (first | (simp [rowMax_eq]; done) | (simp [rowMax_eq]; omega) | omega)) (Ev.yes (by (first | (simp [rowMax_eq]; done) | (simp [rowMax_eq]; omega) | omega)) (Ev.yes (by (first | (simp [rowMax_eq]; done) | (simp [rowMax_eq]; omega) | omega)) (Ev.bind ih (Ev.pure _))))))))))
  | n + 1, out, d, x :: a, y :: b, h, hd, ho => by
    rw [Nat.pow_succ] at ho
    have hl := wv_len n (d ++ [x]) a (y :: b) (by simp at h ⊢; omega)
    have i1 := s_l05Weave_ev n out (d ++ [x]) a (y :: b) (by simp at h ⊢; omega) (by simp; omega) (by omega)
    have i2 := s_l05Weave_ev n (out ++ wv (d ++ [x]) a (y :: b)) (d ++ [y]) (x :: a) b (by simp at h ⊢; omega) (by simp; omega) (by simp; omega)
    unfold wv
    refine Ev.step (fun k => s_l05Weave_eq k _ _ _ _) ?_
    simp only [take_all, List.nil_append, List.getD_cons_zero, List.drop_succ_cons, List.drop_zero]
    refine Ev.no (by (first | (simp [rowMax_eq]; done) | (simp [rowMax_eq]; omega) | omega)) (Ev.yes (by (first | (simp [rowMax_eq]; done) | (simp [rowMax_eq]; omega) | omega)) (Ev.yes (by (first | (simp [rowMax_eq]; done) | (simp [rowMax_eq]; omega) | omega)) (Ev.yes (by (first | (simp [rowMax_eq]; done) | (simp [rowMax_eq]; omega) | omega)) (Ev.yes (by (first | (simp [rowMax_eq]; done) | (simp [rowMax_eq]; omega) | omega)) (Ev.yes (by (first | (simp [rowMax_eq]; done) | (simp [rowMax_eq]; omega) | omega)) (Ev.yes (by (first | (simp [rowMax_eq]; done) | (simp [rowMax_eq]; omega) | omega)) (Ev.bind i1 ?_)))))))
    refine Ev.yes (by (first | (simp [rowMax_eq]; done) | (simp [rowMax_eq]; omega) | omega)) (Ev.yes (by (first | (simp [rowMax_eq]; done) | (simp [rowMax_eq]; omega) | omega)) (Ev.yes (by (first | (simp [rowMax_eq]; done) | (simp [rowMax_eq]; omega) | omega)) (Ev.yes (by (first | (simp [rowMax_eq]; done) | (simp [rowMax_eq]; omega) | omega)) (Ev.yes (by (first | (simp [rowMax_eq]; done) | (simp [rowMax_eq]; omega) | omega)) (Ev.yes (by (first | (simp [rowMax_eq]; done) | (simp [rowMax_eq]; omega) | omega)) (Ev.bind i2 (Ev.some (by simp))))))))
  | 0, out, d, x :: a, _, h, hd, ho => by simp at h
  | 0, out, d, [], y :: b, h, hd, ho => by simp at h
end Qq
namespace Qq
open Go Go.Vt Pt
set_option linter.unusedVariables false
set_option linter.unusedSimpArgs false
/-- A riffle by bits: whether each card comes from the second part. -/
def rfi : Nat → Nat → List Bool → List Nat
  | _, _, [] => []
  | f, s, true :: r => s :: rfi f (s + 1) r
  | f, s, false :: r => f :: rfi (f + 1) s r
def zerosB : List Bool → Nat
  | [] => 0 | true :: r => zerosB r | false :: r => zerosB r + 1
def onesB : List Bool → Nat
  | [] => 0 | true :: r => onesB r + 1 | false :: r => onesB r
def bitsD : Nat → Nat → List Bool
  | 0, _ => [] | m + 1, w => Nat.beq (w % 2) 1 :: bitsD m (w / 2)
theorem nodup_sub {α : Type} [DecidableEq α] : ∀ {l m : List α}, l.Nodup → (∀ x ∈ l, x ∈ m) → l.length ≤ m.length
  | [], m, _, _ => Nat.zero_le _
  | x :: l, m, h, hs => by
    obtain ⟨h1, h2⟩ := List.nodup_cons.1 h
    have hx := hs x (by simp)
    have := nodup_sub (l := l) (m := m.erase x) h2 fun y hy => (List.mem_erase_of_ne (fun e => h1 (by rw [e] at hy; exact hy))).2 (hs y (by simp [hy]))
    rw [List.length_erase_of_mem hx] at this
    have : 0 < m.length := List.length_pos_of_mem hx
    simp; omega
end Qq
namespace Qq
open Go Go.Vt Pt
set_option linter.unusedVariables false
set_option linter.unusedSimpArgs false
set_option linter.unnecessarySimpa false
theorem bitsD_len : ∀ (m w : Nat), (bitsD m w).length = m
  | 0, _ => rfl
  | m + 1, w => by rw [bitsD, List.length_cons, bitsD_len]
theorem zo_len : ∀ l : List Bool, zerosB l + onesB l = l.length
  | [] => rfl
  | true :: r => by have := zo_len r; simp [zerosB, onesB]; omega
  | false :: r => by have := zo_len r; simp [zerosB, onesB]; omega
def rfp (p : List Int) : Nat → Nat → List Bool → List Int
  | _, _, [] => []
  | f, s, true :: r => p.getD s 0 :: rfp p f (s + 1) r
  | f, s, false :: r => p.getD f 0 :: rfp p (f + 1) s r
def riffp (p : List Int) (w : Nat) : List Int := rfp p 0 (zerosB (bitsD p.length w)) (bitsD p.length w)
def riffsB (p : List Int) : Packs := (List.range (2 ^ p.length)).map (riffp p)
theorem two_le {n : Nat} (h : n ≤ 12) : 2 ^ n ≤ 4096 := Nat.pow_le_pow_right (by decide) h
def riffsW (p : List Int) : Packs := (List.range (p.length + 1)).flatMap fun k => wv [] (p.take k) (p.drop k)
theorem flat_len : ∀ (n i : Nat) (p : List Int), p.length = n → ((List.range i).flatMap fun k => wv [] (p.take k) (p.drop k)).length ≤ i * 2 ^ n
  | n, 0, p, h => by simp
  | n, i + 1, p, h => by
    have h1 := flat_len n i p h
    have h2 := wv_len n [] (p.take i) (p.drop i) (by simp; omega)
    rw [List.range_succ, List.flatMap_append, List.length_append, Nat.add_mul, Nat.one_mul]
    simp only [List.flatMap_cons, List.flatMap_nil, List.append_nil]
    omega
theorem s_l05Of_l7_ev (p : List Int) (hp : p.length ≤ 12) : ∀ (m i : Nat), i + m = p.length + 1 → Ev (fun k => s_l05Of_l7 k p (i : Int) ((List.range i).flatMap fun k => wv [] (p.take k) (p.drop k))) (riffsW p)
  | 0, i, h => by
    refine Ev.step (fun k => s_l05Of_l7_eq k _ _ _) (Ev.no (by simp; omega) (Ev.some ?_))
    have : i = p.length + 1 := by omega
    rw [this]; rfl
  | m + 1, i, h => by
    have ih := s_l05Of_l7_ev p hp m (i + 1) (by omega)
    have e : (List.range (i + 1)).flatMap (fun k => wv [] (p.take k) (p.drop k)) = ((List.range i).flatMap fun k => wv [] (p.take k) (p.drop k)) ++ wv [] (p.take i) (p.drop i) := by
      rw [List.range_succ, List.flatMap_append]; simp
    rw [e] at ih
    have ew : IntKind.i64.wrap ((i : Int) + 1) = ((i + 1 : Nat) : Int) := by rw [wrap_id (by omega) (by omega)]; omega
    have h2 := two_le hp
    have hl := flat_len p.length i p rfl
    have hl2 : i * 2 ^ p.length ≤ 13 * 4096 := Nat.mul_le_mul (by omega) h2
    refine Ev.step (fun k => s_l05Of_l7_eq k _ _ _) ?_
    simp only [ew, take_all, Int.toNat_natCast, List.take_length, List.drop_zero]
    refine Ev.yes (by simp; omega) ?_
    (repeat (first | refine Ev.yes (by (first | (simp [rowMax_eq]; done) | (simp [rowMax_eq]; omega) | omega)) ?_ | refine Ev.no (by (first | (simp [rowMax_eq]; done) | (simp [rowMax_eq]; omega) | omega)) ?_))
    exact Ev.bind (s_l05Weave_ev p.length _ [] _ _ (by simp; omega) (by simp; omega) (by omega)) ih
def weaveB : List Bool → List Int → List Int → List Int
  | true :: r, a, y :: b => y :: weaveB r a b
  | false :: r, x :: a, b => x :: weaveB r a b
  | _, _, _ => []
theorem wv_mem : ∀ (n : Nat) (d a b q : List Int), a.length + b.length = n → (q ∈ wv d a b ↔ ∃ bits, zerosB bits = a.length ∧ onesB bits = b.length ∧ q = d ++ weaveB bits a b)
  | n, d, [], [], q, h => by
    unfold wv
    constructor
    · intro hq
      exact ⟨[], rfl, rfl, by simpa [weaveB] using hq⟩
    · rintro ⟨bits, h1, h2, rfl⟩
      have : bits = [] := by
        have := zo_len bits
        simp at h1 h2
        exact List.length_eq_zero_iff.1 (by omega)
      subst this
      simp [weaveB]
  | n + 1, d, x :: a, [], q, h => by
    unfold wv
    rw [wv_mem n (d ++ [x]) a [] q (by simp at h ⊢; omega)]
    constructor
    · rintro ⟨bits, h1, h2, rfl⟩
      exact ⟨false :: bits, by simp [zerosB, h1], by simpa [onesB] using h2, by simp [weaveB]⟩
    · rintro ⟨bits, h1, h2, rfl⟩
      match bits, h1, h2 with
      | false :: bits, h1, h2 => exact ⟨bits, by simpa [zerosB] using h1, by simpa [onesB] using h2, by simp [weaveB]⟩
      | true :: bits, h1, h2 => simp [onesB] at h2
      | [], h1, h2 => simp [zerosB] at h1
  | n + 1, d, [], y :: b, q, h => by
    unfold wv
    rw [wv_mem n (d ++ [y]) [] b q (by simp at h ⊢; omega)]
    constructor
    · rintro ⟨bits, h1, h2, rfl⟩
      exact ⟨true :: bits, by simpa [zerosB] using h1, by simp [onesB, h2], by simp [weaveB]⟩
    · rintro ⟨bits, h1, h2, rfl⟩
      match bits, h1, h2 with
      | true :: bits, h1, h2 => exact ⟨bits, by simpa [zerosB] using h1, by simpa [onesB] using h2, by simp [weaveB]⟩
      | false :: bits, h1, h2 => simp [zerosB] at h1
      | [], h1, h2 => simp [onesB] at h2
  | n + 1, d, x :: a, y :: b, q, h => by
    unfold wv
    rw [List.mem_append, wv_mem n (d ++ [x]) a (y :: b) q (by simp at h ⊢; omega), wv_mem n (d ++ [y]) (x :: a) b q (by simp at h ⊢; omega)]
    constructor
    · rintro (⟨bits, h1, h2, rfl⟩ | ⟨bits, h1, h2, rfl⟩)
      · exact ⟨false :: bits, by simp [zerosB, h1], by simpa [onesB] using h2, by simp [weaveB]⟩
      · exact ⟨true :: bits, by simpa [zerosB] using h1, by simp [onesB, h2], by simp [weaveB]⟩
    · rintro ⟨bits, h1, h2, rfl⟩
      match bits, h1, h2 with
      | true :: bits, h1, h2 => exact .inr ⟨bits, by simpa [zerosB] using h1, by simpa [onesB] using h2, by simp [weaveB]⟩
      | false :: bits, h1, h2 => exact .inl ⟨bits, by simpa [zerosB] using h1, by simpa [onesB] using h2, by simp [weaveB]⟩
      | [], h1, h2 => simp [onesB] at h2
  | 0, d, x :: a, _, q, h => by simp at h
  | 0, d, [], y :: b, q, h => by simp at h
theorem rfp_weave (p : List Int) (k : Nat) (hk : k ≤ p.length) : ∀ (bits : List Bool) (f s : Nat), f + zerosB bits = k → s + onesB bits = p.length → rfp p f s bits = weaveB bits ((p.take k).drop f) (p.drop s)
  | [], f, s, h1, h2 => by unfold rfp weaveB; rfl
  | true :: r, f, s, h1, h2 => by
    simp only [zerosB, onesB] at h1 h2
    have hs : s < p.length := by omega
    rw [List.drop_eq_getElem_cons hs]
    unfold rfp weaveB
    rw [rfp_weave p k hk r f (s + 1) h1 (by omega)]
    simp [List.getD, hs]
  | false :: r, f, s, h1, h2 => by
    simp only [zerosB, onesB] at h1 h2
    have hf : f < (p.take k).length := by simp; omega
    rw [List.drop_eq_getElem_cons hf]
    unfold rfp weaveB
    rw [rfp_weave p k hk r (f + 1) s (by omega) h2]
    have : f < p.length := by omega
    simp [List.getD, this]
def nb : List Bool → Nat
  | [] => 0 | b :: r => (bif b then 1 else 0) + 2 * nb r
theorem bitsD_nb : ∀ l : List Bool, bitsD l.length (nb l) = l ∧ nb l < 2 ^ l.length
  | [] => ⟨rfl, by decide⟩
  | b :: r => by
    obtain ⟨h1, h2⟩ := bitsD_nb r
    rw [List.length_cons, bitsD, nb, Nat.pow_succ]
    have e1 : ((bif b then 1 else 0) + 2 * nb r) / 2 = nb r := by cases b <;> simp <;> omega
    have e2 : ((bif b then 1 else 0) + 2 * nb r) % 2 = (bif b then 1 else 0) := by cases b <;> simp <;> omega
    rw [e1, e2, h1]
    refine ⟨by cases b <;> rfl, ?_⟩
    cases b <;> simp <;> omega
theorem riffs_same (p q : List Int) : q ∈ riffsB p ↔ q ∈ riffsW p := by
  unfold riffsB riffsW
  rw [List.mem_map, List.mem_flatMap]
  constructor
  · rintro ⟨w, hw, rfl⟩
    have hl := zo_len (bitsD p.length w)
    rw [bitsD_len] at hl
    refine ⟨zerosB (bitsD p.length w), by simp; omega, ?_⟩
    rw [wv_mem p.length [] _ _ _ (by simp; omega)]
    refine ⟨bitsD p.length w, by simp; omega, by simp; omega, ?_⟩
    unfold riffp
    rw [rfp_weave p (zerosB (bitsD p.length w)) (by omega) _ 0 _ (by omega) (by omega)]
    simp
  · rintro ⟨k, hk, hq⟩
    have hk' : k ≤ p.length := by have := List.mem_range.1 hk; omega
    rw [wv_mem p.length [] _ _ _ (by simp; omega)] at hq
    obtain ⟨bits, h1, h2, rfl⟩ := hq
    simp at h1 h2
    have hl := zo_len bits
    obtain ⟨b1, b2⟩ := bitsD_nb bits
    have hbl : bits.length = p.length := by omega
    rw [hbl] at b1 b2
    refine ⟨nb bits, List.mem_range.2 b2, ?_⟩
    unfold riffp
    rw [b1, rfp_weave p k hk' bits 0 _ (by omega) (by omega)]
    have : zerosB bits = k := by omega
    rw [this]
    simp
end Qq
namespace Qq
open Go Go.Vt Pt
set_option linter.unusedVariables false
set_option linter.unusedSimpArgs false
set_option linter.unnecessarySimpa false
theorem rfp_rfi (p : List Int) : ∀ (bits : List Bool) (f s : Nat), rfp p f s bits = (rfi f s bits).map fun i => p.getD i 0
  | [], _, _ => rfl
  | true :: r, f, s => by unfold rfp rfi; rw [rfp_rfi p r]; rfl
  | false :: r, f, s => by unfold rfp rfi; rw [rfp_rfi p r]; rfl
def flip2 (p : List Int) : List Int := (p.take 2).reverse.map turn ++ p.drop 2
def allOf (p : List Int) (c : Int) : Packs := if c = 1 then cutsL p else if c = 2 then riffsB p else if c = 3 then cutsL (flip2 p) else if c = 4 then picksL p else [p]
def chOk (p : List Int) (c : Int) : Bool := packetOk p && (!(p.length == 0) && (decide (0 ≤ c ∧ c ≤ 4) && (!(decide (c = 3) && decide (p.length < 2)) && !(decide (c = 2) && decide (12 ≤ p.length)))))
structure ChFit (p : List Int) (c : Int) : Prop where
  ok : packetOk p = true
  l1 : 1 ≤ p.length
  l12 : p.length ≤ 12
  c0 : 0 ≤ c
  c4 : c ≤ 4
  c3 : c = 3 → 2 ≤ p.length
  c2 : c = 2 → p.length ≤ 11
theorem chOk_fit {p : List Int} {c : Int} (h : chOk p c = true) : ChFit p c := by
  unfold chOk at h
  simp only [Bool.and_eq_true, Bool.not_eq_true', Bool.and_eq_false_iff, decide_eq_true_eq, decide_eq_false_iff_not, beq_eq_false_iff_ne] at h
  obtain ⟨h1, h2, ⟨h3, h4⟩, h5, h6⟩ := h
  exact ⟨h1, by omega, (packetOk_fit h1).2.2, h3, h4, fun e => by omega, fun e => by omega⟩
theorem flip2_len (p : List Int) : (flip2 p).length = p.length := by unfold flip2; simp; omega
theorem flip2_ins {p : List Int} (hi : Ins p) : Ins (flip2 p) := fun x hx => by
  unfold flip2 at hx
  rcases List.mem_append.1 hx with h | h
  · obtain ⟨y, hy, rfl⟩ := List.mem_map.1 h
    exact in_turn (hi y (List.mem_of_mem_take (List.mem_reverse.1 hy)))
  · exact hi x (List.mem_of_mem_drop h)
theorem allOf_small {p : List Int} {c : Int} (hp : p.length ≤ 12) : (allOf p c).length ≤ 4096 ∧ ∀ q ∈ allOf p c, q.length ≤ 12 := by
  have h2 := two_le hp
  unfold allOf
  split
  · refine ⟨by unfold cutsL; simp; omega, fun q hq => ?_⟩
    obtain ⟨i, _, rfl⟩ := List.mem_map.1 hq
    unfold cutL; simp; omega
  split
  · refine ⟨by unfold riffsB; simpa using h2, fun q hq => ?_⟩
    obtain ⟨w, _, rfl⟩ := List.mem_map.1 hq
    unfold riffp
    rw [rfp_rfi, List.length_map]
    have : ∀ (bits : List Bool) (f s : Nat), (rfi f s bits).length = bits.length := fun bits => by
      induction bits with
      | nil => intro f s; rfl
      | cons b r ih => intro f s; cases b <;> simp [rfi, ih]
    rw [this, bitsD_len]; exact hp
  split
  · refine ⟨by unfold cutsL; simp [flip2_len]; omega, fun q hq => ?_⟩
    obtain ⟨i, _, rfl⟩ := List.mem_map.1 hq
    unfold cutL; simp [flip2_len]; have := flip2_len p; omega
  split
  · refine ⟨by unfold picksL; simp; omega, fun q hq => ?_⟩
    obtain ⟨i, hi, rfl⟩ := List.mem_map.1 hq
    have := List.mem_range.1 hi
    unfold pickL; simp; omega
  · exact ⟨by simp, fun q hq => by have : q = p := by simpa using hq
                                   rw [this]; exact hp⟩
theorem s_l05Ok_ev (p : List Int) (c : Int) (hp : p.length ≤ maxLen) : Ev (fun k => s_l05Ok k (p, c)) (chOk p c) := by
  refine Ev.step (fun k => s_l05Ok_eq k p c) (Ev.bind (s_PacketOk_ev p hp) (Ev.ite (fun h => Ev.some ?_) (fun h => Ev.ite (fun h2 => Ev.some ?_) (fun h2 => Ev.bind (l01In_ev _ _ _) (Ev.ite (fun h3 => Ev.some ?_) (fun h3 => ?_))))))
  · have : packetOk p = false := by simpa using h
    simp [chOk, this]
  · have : p.length = 0 := by have : (p.length : Int) = 0 := by simpa using h2
                              omega
    simp [chOk, this]
  · have : ¬ (0 ≤ c ∧ c ≤ 4) := by simp at h3; omega
    unfold chOk
    rw [decide_eq_false this]
    simp
  · have e1 : packetOk p = true := by simpa using h
    have e2 : ¬ p.length = 0 := by have : ¬ (p.length : Int) = 0 := by simpa using h2
                                   omega
    have e3 : 0 ≤ c ∧ c ≤ 4 := by simpa using h3
    have hl := (packetOk_fit e1).2.2
    have base : chOk p c = (!(decide (c = 3) && decide (p.length < 2)) && !(decide (c = 2) && decide (12 ≤ p.length))) := by
      unfold chOk
      rw [e1, decide_eq_true e3]
      simp [e2]
    rw [base]
    refine Ev.ite (fun h4 => Ev.ite (fun h5 => Ev.some ?_) (fun h5 => Ev.some ?_)) (fun h4 => Ev.ite (fun h6 => Ev.ite (fun h5 => Ev.some ?_) (fun h5 => Ev.some ?_)) (fun h6 => Ev.some ?_))
    · have a : ¬ c = 3 := by simpa using h4
      have b : ¬ c = 2 := by simpa using h5
      simp [a, b]
    · have a : ¬ c = 3 := by simpa using h4
      have b : c = 2 := by simpa using h5
      subst b
      by_cases h7 : 12 ≤ p.length
      · simp [h7]; omega
      · simp [h7]; omega
    · have a : c = 3 := by simpa using h4
      have b : ¬ p.length < 2 := by have : (p.length : Int) ≥ 2 := by simpa using h6
                                    omega
      subst a
      simp [b]
    · have a : c = 3 := by simpa using h4
      have b : c = 2 := by simpa using h5
      omega
    · have a : c = 3 := by simpa using h4
      have b : p.length < 2 := by have : ¬ (p.length : Int) ≥ 2 := by simpa using h6
                                  omega
      subst a
      simp [b]
/-- The reference's list holds the same packets. -/
theorem s_l05Of_ev (p : List Int) (c : Int) (h : ChFit p c) (hi : Ins p) : ∃ y, Ev (fun k => s_l05Of k (p, c)) y ∧ y.length ≤ 1048576 ∧ ∀ q, q ∈ y ↔ q ∈ allOf p c := by
  have hp := h.l12
  by_cases c1 : c = 1
  · refine ⟨cutsL p, Ev.step (fun k => s_l05Of_eq k p c) (Ev.yes (by simp [c1]) (Ev.bind (s_l05Cuts_ev p hp hi) (Ev.pure _))), by unfold cutsL; simp; omega, fun q => by simp [allOf, c1]⟩
  by_cases c2 : c = 2
  · refine ⟨riffsW p, Ev.step (fun k => s_l05Of_eq k p c) (Ev.no (by simp [c1]) (Ev.yes (by simp [c2]) (s_l05Of_l7_ev p hp (p.length + 1) 0 (by omega)))), ?_, fun q => by rw [← riffs_same]; simp [allOf, c2]⟩
    have := flat_len p.length (p.length + 1) p rfl
    have h2 := two_le hp
    have h3 : (p.length + 1) * 2 ^ p.length ≤ 13 * 4096 := Nat.mul_le_mul (by omega) h2
    unfold riffsW
    omega
  by_cases c3 : c = 3
  · have h2 := h.c3 c3
    have hb := s_l04Back_ev p hp hi 2 h2 true
    have e : (p.take 2).reverse.map (fun x => bif true then turn x else x) ++ p.drop 2 = flip2 p := rfl
    rw [e] at hb
    refine ⟨cutsL (flip2 p), Ev.step (fun k => s_l05Of_eq k p c) (Ev.no (by simp [c1]) (Ev.no (by simp [c2]) (Ev.yes (by simp [c3]) (Ev.bind hb (Ev.bind (s_l05Cuts_ev _ (by rw [flip2_len]; exact hp) (flip2_ins hi)) (Ev.pure _)))))), by unfold cutsL; simp [flip2_len]; omega, fun q => by simp [allOf, c3]⟩
  by_cases c4 : c = 4
  · refine ⟨picksL p, Ev.step (fun k => s_l05Of_eq k p c) (Ev.no (by simp [c1]) (Ev.no (by simp [c2]) (Ev.no (by simp [c3]) (Ev.yes (by simp [c4]) (s_l05Of_l15_ev p hp p.length 0 (by omega)))))), by unfold picksL; simp; omega, fun q => by simp [allOf, c4]⟩
  · refine ⟨[p], Ev.step (fun k => s_l05Of_eq k p c) (Ev.no (by simp [c1]) (Ev.no (by simp [c2]) (Ev.no (by simp [c3]) (Ev.no (by simp [c4]) (Ev.yes (by rw [rowMax_eq]; simp) (Ev.some rfl)))))), by simp, fun q => by simp [allOf, c1, c2, c3, c4]⟩
theorem setL_congr {l m : Packs} (h : ∀ q, q ∈ l ↔ q ∈ m) : setL l = setL m := setL_of (setL_ss l) fun q => (setL_mem l q).trans (h q)
end Qq
namespace Qq
open Go Go.Vt Pt
set_option linter.unusedVariables false
set_option linter.unusedSimpArgs false
set_option linter.unnecessarySimpa false
theorem card_turn (x : Int) : card (turn x) = card x := by
  unfold turn
  split
  · rfl
  · rename_i h
    unfold card at h ⊢
    split at h
    · rename_i h1
      rw [if_neg (by omega), if_pos (by omega), if_pos h1]; omega
    · rename_i h1
      split at h
      · rename_i h2
        rw [if_pos (by omega), if_neg h1, if_pos h2]
      · omega
theorem map_turn (l : List Int) : (l.map turn).map card = l.map card := by rw [List.map_map]; exact List.map_congr_left fun x _ => card_turn x
abbrev Pm (q p : List Int) : Prop := (q.map card).Perm (p.map card)
theorem Pm.of {q p : List Int} (h : q.Perm p) : Pm q p := h.map card
theorem perm_out (p : List Int) (i : Nat) (h : i < p.length) : (p.take i ++ p.drop (i + 1) ++ [p.getD i 0]).Perm p := by
  have e : p = p.take i ++ (p.getD i 0 :: p.drop (i + 1)) := by
    have : p.getD i 0 = p[i] := by simp [List.getD, h]
    rw [this, ← List.drop_eq_getElem_cons h, List.take_append_drop]
  have h1 : (p.take i ++ p.drop (i + 1) ++ [p.getD i 0]).Perm (p.take i ++ (p.getD i 0 :: p.drop (i + 1))) := by
    rw [List.append_assoc]
    exact List.Perm.append_left _ (List.perm_append_comm (l₁ := p.drop (i + 1)) (l₂ := [p.getD i 0]))
  rw [← e] at h1
  exact h1
theorem pm_turned (p : List Int) (k : Nat) : Pm ((p.take k).reverse.map turn ++ p.drop k) p := by
  show (List.map card _).Perm _
  rw [List.map_append, map_turn]
  refine (((List.reverse_perm (p.take k)).map card).append_right _).trans ?_
  rw [← List.map_append, List.take_append_drop]
theorem rfi_perm : ∀ (bits : List Bool) (f s : Nat), (rfi f s bits).Perm (List.range' f (zerosB bits) ++ List.range' s (onesB bits))
  | [], f, s => by simp [rfi, zerosB, onesB]
  | true :: r, f, s => by
    unfold rfi zerosB onesB
    rw [List.range'_succ]
    exact ((rfi_perm r f (s + 1)).cons s).trans List.perm_middle.symm
  | false :: r, f, s => by
    unfold rfi zerosB onesB
    rw [List.range'_succ]
    exact (rfi_perm r (f + 1) s).cons f
theorem riffp_perm (p : List Int) (w : Nat) : (riffp p w).Perm p := by
  unfold riffp
  rw [rfp_rfi]
  have hz := zo_len (bitsD p.length w)
  rw [bitsD_len] at hz
  refine ((rfi_perm _ _ _).map _).trans ?_
  have e : List.range' 0 (zerosB (bitsD p.length w)) ++ List.range' (zerosB (bitsD p.length w)) (onesB (bitsD p.length w)) = List.range p.length := by
    have := List.range'_append_1 (s := 0) (m := zerosB (bitsD p.length w)) (n := onesB (bitsD p.length w))
    rw [Nat.zero_add] at this
    rw [this, List.range_eq_range']
    congr 1
  rw [e]
  have : (List.range p.length).map (fun i => p.getD i 0) = p := by
    apply List.ext_getElem
    · simp
    · intro i h1 h2
      simp [List.getD, h2]
  rw [this]
theorem allOf_pm {p : List Int} {c : Int} (q : List Int) (hq : q ∈ allOf p c) : Pm q p := by
  have cut : ∀ (p q : List Int), q ∈ cutsL p → q.Perm p := fun p q hq => by
    obtain ⟨i, _, rfl⟩ := List.mem_map.1 hq
    unfold cutL
    refine List.perm_append_comm.trans ?_
    rw [List.take_append_drop]
  unfold allOf at hq
  split at hq
  · exact Pm.of (cut _ _ hq)
  split at hq
  · obtain ⟨w, _, rfl⟩ := List.mem_map.1 hq
    exact Pm.of (riffp_perm p w)
  split at hq
  · exact (Pm.of (cut _ _ hq)).trans (pm_turned p 2)
  split at hq
  · obtain ⟨i, hi, rfl⟩ := List.mem_map.1 hq
    have := List.mem_range.1 hi
    unfold pickL
    exact Pm.of (List.perm_append_comm.trans (perm_out p i this))
  · have : q = p := by simpa using hq
    rw [this]
/-- Packets of the same cards are right as one. -/
theorem pk_of : ∀ (r done : List Int), (done ++ r.map card).Nodup → (∀ x ∈ r, 0 ≤ card x) → pk done r = true
  | [], done, _, _ => rfl
  | x :: r, done, h, h0 => by
    unfold pk
    rw [List.map_cons] at h
    have hx : card x ∉ done := fun hm => (List.nodup_append.1 h).2.2 _ hm _ (by simp) rfl
    rw [decide_eq_true (h0 x (by simp)), pk_of r (done ++ [card x]) (by simpa using h) (fun y hy => h0 y (by simp [hy]))]
    simp [hx]
theorem packetOk_pm {p q : List Int} (h : packetOk p = true) (hq : Pm q p) : packetOk q = true ∧ q.length = p.length := by
  obtain ⟨h1, h2, h3⟩ := packetOk_fit h
  refine ⟨pk_of q [] (by simpa using hq.nodup_iff.2 h1) (fun x hx => ?_), by have := hq.length_eq; simpa using this⟩
  have := hq.mem_iff.1 (List.mem_map.2 ⟨x, hx, rfl⟩)
  obtain ⟨y, hy, e⟩ := List.mem_map.1 this
  have := (h2 y hy).1
  omega
theorem packetOk_ins {p : List Int} (h : packetOk p = true) : Ins p := fun x hx => by
  have := ((packetOk_fit h).2.1 x hx).1
  unfold card at this
  unfold In
  split at this
  · omega
  · split at this <;> omega
end Qq
namespace Qq
open Go Go.Vt Pt
set_option linter.unusedVariables false
set_option linter.unusedSimpArgs false
set_option linter.unnecessarySimpa false
def unionOf (l : Packs) (c : Int) : Packs := l.flatMap fun p => allOf p c
def resAfter (l : Packs) (c : Int) : Packs × Bool := if (l.all fun p => chOk p c) && decide ((setL (unionOf l c)).length ≤ 3000) then (setL (unionOf l c), true) else ([], false)
theorem ss_nodup {l : Packs} (h : SS l) : l.Nodup := by
  unfold SS at h
  exact h.imp (fun {a b} h (e : a = b) => cmpI_irrefl b (by rw [e] at h; exact h))
theorem setL_mono {l m : Packs} (h : ∀ q, q ∈ l → q ∈ m) : (setL l).length ≤ (setL m).length := nodup_sub (ss_nodup (setL_ss l)) fun q hq => (setL_mem m q).2 (h q ((setL_mem l q).1 hq))
theorem union_next {l : Packs} {i : Nat} {p : List Int} (c : Int) (hlt : i < l.length) (h : l[i] = p) (q : List Int) : q ∈ unionOf (l.take (i + 1)) c ↔ q ∈ unionOf (l.take i) c ∨ q ∈ allOf p c := by
  unfold unionOf
  rw [List.take_add_one, List.getElem?_eq_getElem hlt, h, List.flatMap_append, List.mem_append]
  simp
theorem union_take {l : Packs} {i : Nat} (c : Int) (q : List Int) (h : q ∈ unionOf (l.take i) c) : q ∈ unionOf l c := by
  unfold unionOf at *
  obtain ⟨p, hp, hq⟩ := List.mem_flatMap.1 h
  exact List.mem_flatMap.2 ⟨p, List.mem_of_mem_take hp, hq⟩
theorem union_small {l : Packs} {c : Int} (h : ∀ p ∈ l, p.length ≤ 12) : ∀ q ∈ unionOf l c, q.length ≤ 12 := fun q hq => by
  obtain ⟨p, hp, hq⟩ := List.mem_flatMap.1 hq
  exact (allOf_small (h p hp)).2 q hq
theorem resAfter_no {l : Packs} {c : Int} {p : List Int} (hp : p ∈ l) (h : chOk p c = false) : resAfter l c = ([], false) := by
  unfold resAfter
  rw [if_neg]
  rw [Bool.and_eq_true, List.all_eq_true]
  rintro ⟨h1, _⟩
  rw [h1 p hp] at h; cases h
theorem resAfter_many {l : Packs} {c : Int} (h : 3000 < (setL (unionOf l c)).length) : resAfter l c = ([], false) := by
  unfold resAfter
  rw [if_neg]
  rw [Bool.and_eq_true, decide_eq_true_eq]
  rintro ⟨_, h1⟩
  omega
theorem s_ResultsAfter_l3_ev (l : Packs) (c : Int) (hl : l.length ≤ 3000) (hf : FitS l) : ∀ (r : Packs) (i : Nat), l.drop i = r → (∀ p ∈ l.take i, chOk p c = true) → (setL (unionOf (l.take i) c)).length ≤ 3000 →
    Ev (fun k => s_ResultsAfter_l3 k c l (l.length : Int) (i : Int) (setL (unionOf (l.take i) c))) (resAfter l c)
  | [], i, h, hk, h3 => by
    have a := at_nil h
    refine Ev.step (fun k => s_ResultsAfter_l3_eq k _ _ _ _ _) ?_
    simp only [a.g, cond_false]
    rw [List.take_of_length_le a.ge] at hk h3 ⊢
    refine Ev.some ?_
    unfold resAfter
    rw [if_pos]
    rw [Bool.and_eq_true, decide_eq_true_eq, List.all_eq_true]
    exact ⟨hk, h3⟩
  | p :: r, i, h, hk, h3 => by
    have a := at_cons h (by rw [maxLen_eq]; omega)
    have hlt := a.lt
    have hg : l[i] = p := by have := a.gt []; simpa [List.getD, hlt] using this
    have hpf := hf.2 p a.mem
    refine Ev.step (fun k => s_ResultsAfter_l3_eq k _ _ _ _ _) ?_
    simp only [a.g, a.z, a.get, a.w, cond_true]
    refine Ev.bind (s_l05Ok_ev p c hpf.1) (Ev.ite (fun h1 => Ev.some ?_) (fun h1 => ?_))
    · exact (resAfter_no a.mem (by simpa using h1)).symm
    · have hok : chOk p c = true := by simpa using h1
      have hfit := chOk_fit hok
      obtain ⟨y, e1, e2, e3⟩ := s_l05Of_ev p c hfit hpf.2
      have hy12 : ∀ q ∈ y, q.length ≤ 1048576 := fun q hq => Nat.le_trans ((allOf_small hfit.l12).2 q ((e3 q).1 hq)) (by decide)
      have hu12 : ∀ q ∈ setL (unionOf (l.take i) c), q.length ≤ 1048576 := fun q hq => Nat.le_trans (union_small (fun p hp => (chOk_fit (hk p hp)).l12) q ((setL_mem _ q).1 hq)) (by decide)
      have hyl := setL_len y
      have em : mergeU (setL (unionOf (l.take i) c)) (setL y) [] = setL (unionOf (l.take (i + 1)) c) := by
        rw [mergeU_set (setL_ss _) (setL_ss _)]
        exact setL_congr fun q => by rw [List.mem_append, setL_mem, setL_mem, e3, union_next c hlt hg]
      refine Ev.bind e1 (Ev.bind (s_SortPackets_ev _ y (Nat.le_refl _) e2 hy12) (Ev.bind (s_l05Merge_ev _ _ (by omega) hu12 (fun q hq => hy12 q ((setL_mem _ q).1 hq))) ?_))
      rw [em]
      refine Ev.ite (fun h4 => Ev.some ?_) (fun h4 => ?_)
      · have h4' : 3000 < (setL (unionOf (l.take (i + 1)) c)).length := by have : ((setL (unionOf (l.take (i + 1)) c)).length : Int) > 3000 := by simpa using h4
                                                                           omega
        exact (resAfter_many (Nat.lt_of_lt_of_le h4' (setL_mono fun q hq => union_take c q hq))).symm
      · have h4' : (setL (unionOf (l.take (i + 1)) c)).length ≤ 3000 := by have : ¬ ((setL (unionOf (l.take (i + 1)) c)).length : Int) > 3000 := by simpa using h4
                                                                           omega
        refine s_ResultsAfter_l3_ev l c hl hf r (i + 1) a.next (fun q hq => ?_) h4'
        rw [List.take_add_one, List.getElem?_eq_getElem hlt, hg] at hq
        rcases List.mem_append.1 hq with hq | hq
        · exact hk q hq
        · have : q = p := by simpa using hq
          rw [this]; exact hok
end Qq
namespace Qq
open Go Go.Vt Pt
set_option linter.unusedVariables false
set_option linter.unusedSimpArgs false
set_option linter.unnecessarySimpa false
end Qq
namespace Qq
open Go Go.Vt Pt
set_option linter.unusedVariables false
set_option linter.unusedSimpArgs false
def strB (l : List UInt8) : ByteArray := ⟨l.toArray⟩
theorem strB_size (a : List UInt8) : (strB a).size = a.length := by simp [strB, ByteArray.size]
def itoaB (n : Int) : ByteArray := strB (Lib.itoa n)
theorem Itoa_ev (n : Int) (hn : In n) : Ev (fun k => strconv_Itoa k n) (itoaB n) := by
  refine Ev.congr (fun k => strconv_Itoa_eq k n) ?_
  unfold itoaF
  refine Ev.yes ?_ (Ev.pure _)
  unfold In at hn
  simp; exact hn
theorem i_FormatInt_ev (n : Int) (hn : In n) : Ev (fun k => i_FormatInt k n) (itoaB n) :=
  Ev.step (fun k => i_FormatInt_eq k n) (Ev.bind (Itoa_ev n hn) (Ev.pure _))
theorem itoaB_size (n : Int) (hn : In n) : (itoaB n).size ≤ 21 := by
  unfold In at hn
  rw [itoaB, strB_size]
  exact Lib.itoa_length_le n hn.1 hn.2
end Qq
namespace Qq
open Go Go.Vt Pt
set_option linter.unusedVariables false
set_option linter.unusedSimpArgs false
end Qq
namespace Qq
open Go Go.Vt Pt
set_option linter.unusedVariables false
set_option linter.unusedSimpArgs false
end Qq
namespace Qq
open Go Go.Vt Pt
set_option linter.unusedVariables false
set_option linter.unusedSimpArgs false
set_option linter.unnecessarySimpa false
end Qq
namespace Qq
open Go Go.Vt Pt
set_option linter.unusedVariables false
set_option linter.unusedSimpArgs false
end Qq
namespace Qq
open Go Go.Vt Pt
set_option linter.unusedVariables false
set_option linter.unusedSimpArgs false
end Qq
namespace Qq
open Go Go.Vt Pt
set_option linter.unusedVariables false
set_option linter.unusedSimpArgs false
end Qq
namespace Qq
open Go Go.Vt Pt
set_option linter.unusedVariables false
set_option linter.unusedSimpArgs false
set_option linter.unnecessarySimpa false
end Qq
namespace Qq
open Go Go.Vt Pt
set_option linter.unusedVariables false
set_option linter.unusedSimpArgs false
set_option linter.unnecessarySimpa false
end Qq
namespace Qq
open Go Go.Vt Pt
set_option linter.unusedVariables false
set_option linter.unusedSimpArgs false
set_option linter.unnecessarySimpa false
theorem posF_mem (c : Int) : ∀ (q : List Int) (i : Nat), c ∈ q.map card → 0 ≤ posF c i q
  | [], _, h => by simp at h
  | x :: q, i, h => by
    unfold posF
    split
    · omega
    · rename_i hne
      refine posF_mem c q (i + 1) ?_
      rw [List.map_cons, List.mem_cons] at h
      rcases h with h | h
      · exact (hne h.symm).elim
      · exact h
theorem isArr_pm {p q : List Int} (h : packetOk p = true) (hq : Pm q p) : isArr p q = true := by
  have h2 := packetOk_pm h hq
  unfold isArr
  rw [h, h2.1, h2.2]
  simp only [Bool.true_and, Bool.and_eq_true, beq_self_eq_true, List.all_eq_true, decide_eq_true_eq, true_and]
  intro x hx
  have hc := ((packetOk_fit h).2.1 x hx).1
  unfold pos
  rw [if_neg (by omega)]
  exact posF_mem _ q 0 (hq.mem_iff.2 (List.mem_map.2 ⟨x, hx, rfl⟩))
end Qq
namespace Qq
open Go Go.Vt Pt
set_option linter.unusedVariables false
set_option linter.unusedSimpArgs false
/-- A list that is valid. -/
structure KL (l : Packs) : Prop where
  ne : l ≠ []
  len : l.length ≤ 3000
  ss : SS l
  arr : ∃ p, packetOk p = true ∧ 1 ≤ p.length ∧ ∀ q ∈ l, Pm q p
theorem kF_of (p0 : List Int) : ∀ (r : Packs) (pv : Option (List Int)), (∀ q ∈ r, isArr p0 q = true) → (match pv with | none => SS r | some p => SS (p :: r)) → kF p0 pv r = true
  | [], pv, _, _ => by cases pv <;> rfl
  | q :: r, pv, ha, hs => by
    have h1 : SS (q :: r) := by
      cases pv with
      | none => exact hs
      | some p => exact (List.pairwise_cons.1 hs).2
    unfold kF
    rw [ha q (by simp), kF_of p0 r (some q) (fun x hx => ha x (List.mem_cons_of_mem _ hx)) h1]
    cases pv with
    | none => rfl
    | some p =>
      have : cmpI p q < 0 := (List.pairwise_cons.1 hs).1 q (by simp)
      simp [lessL_I, this]
theorem KL.pm {l : Packs} (h : KL l) {q q' : List Int} (hq : q ∈ l) (hq' : q' ∈ l) : Pm q q' := by
  obtain ⟨p, _, _, h3⟩ := h.arr
  exact (h3 q hq).trans (h3 q' hq').symm
theorem KL.ok {l : Packs} (h : KL l) {q : List Int} (hq : q ∈ l) : packetOk q = true ∧ 1 ≤ q.length ∧ q.length ≤ 12 := by
  obtain ⟨p, h1, h2, h3⟩ := h.arr
  obtain ⟨k1, k2⟩ := packetOk_pm h1 (h3 q hq)
  exact ⟨k1, by omega, (packetOk_fit k1).2.2⟩
theorem KL.lens {l : Packs} (h : KL l) {q q' : List Int} (hq : q ∈ l) (hq' : q' ∈ l) : q.length = q'.length := (packetOk_pm (h.ok hq').1 (h.pm hq hq')).2
theorem KL.know {l : Packs} (h : KL l) : knowOk l = true := by
  cases l with
  | nil => exact (h.ne rfl).elim
  | cons p0 r =>
    have h0 := h.ok (q := p0) (by simp)
    have hl : p0.length ≠ 0 := by omega
    have hk := kF_of p0 (p0 :: r) none (fun q hq => isArr_pm h0.1 (h.pm hq (by simp))) h.ss
    have hlen := h.len
    unfold knowOk
    simp only [hk, Bool.and_true, Bool.and_eq_true, decide_eq_true_eq, Bool.not_eq_true', beq_eq_false_iff_ne]
    exact ⟨hlen, hl⟩
theorem KL.fit {l : Packs} (h : KL l) : FitS l := by
  refine ⟨by rw [maxLen_eq]; have := h.len; omega, fun p hp => ⟨by rw [maxLen_eq]; have := (h.ok hp).2.2; omega, packetOk_ins (h.ok hp).1⟩⟩
theorem KL.filter {l : Packs} (h : KL l) (f : List Int → Bool) (hne : l.filter f ≠ []) : KL (l.filter f) := by
  obtain ⟨p, h1, h2, h3⟩ := h.arr
  exact ⟨hne, Nat.le_trans (List.length_filter_le _ _) h.len, List.Pairwise.filter _ h.ss, p, h1, h2, fun q hq => h3 q (List.mem_filter.1 hq).1⟩
theorem allOf_ne {p : List Int} {c : Int} (h : chOk p c = true) : ∃ q, q ∈ allOf p c := by
  have hf := chOk_fit h
  unfold chOk at h
  simp only [Bool.and_eq_true, decide_eq_true_eq, Bool.not_eq_true', beq_eq_false_iff_ne] at h
  have hp : 0 < p.length := Nat.pos_of_ne_zero h.2.1
  unfold allOf
  split
  · exact ⟨cutL p 0, List.mem_map_of_mem (List.mem_range.2 hp)⟩
  · split
    · exact ⟨riffp p 0, List.mem_map_of_mem (List.mem_range.2 (Nat.two_pow_pos _))⟩
    · split
      · have hl : (flip2 p).length = p.length := by unfold flip2; simp; omega
        exact ⟨cutL (flip2 p) 0, List.mem_map_of_mem (List.mem_range.2 (by rw [hl]; exact hp))⟩
      · split
        · exact ⟨pickL p 0, List.mem_map_of_mem (List.mem_range.2 hp)⟩
        · exact ⟨p, by simp⟩
theorem KL.after {l x : Packs} {c : Int} (h : KL l) (hr : resAfter l c = (x, true)) : KL x ∧ l.all (fun p => chOk p c) = true ∧ x = setL (unionOf l c) := by
  unfold resAfter at hr
  split at hr
  · rename_i hc
    rw [Bool.and_eq_true, decide_eq_true_eq] at hc
    injection hr with h1 _
    subst h1
    obtain ⟨p, k1, k2, k3⟩ := h.arr
    refine ⟨⟨?_, hc.2, setL_ss _, p, k1, k2, fun q hq => ?_⟩, hc.1, rfl⟩
    · cases l with
      | nil => exact (h.ne rfl).elim
      | cons p0 r =>
        have h0 : chOk p0 c = true := List.all_eq_true.1 hc.1 p0 (by simp)
        obtain ⟨q, hq⟩ := allOf_ne h0
        have : q ∈ setL (unionOf (p0 :: r) c) := (setL_mem _ q).2 (List.mem_flatMap.2 ⟨p0, by simp, hq⟩)
        exact List.ne_nil_of_mem this
    · obtain ⟨p', hp', hq'⟩ := List.mem_flatMap.1 ((setL_mem _ q).1 hq)
      exact (allOf_pm q hq').trans (k3 p' hp')
  · injection hr with _ h2; cases h2
theorem s_ResultsAfter_ev (l : Packs) (c : Int) (hl : l.length ≤ 3000) (hf : FitS l) : Ev (fun k => s_ResultsAfter k (l, c)) (resAfter l c) := by
  refine Ev.step (fun k => s_ResultsAfter_eq k l c) ?_
  have := s_ResultsAfter_l3_ev l c hl hf l 0 rfl (fun p hp => by simp at hp) (by simp [unionOf, setL, sortL, dedupL])
  simpa [unionOf, setL, sortL, dedupL] using this
theorem l15Draw_l3_ev : ∀ (m : Nat) (l : Packs) (c : Cur), m ≤ 10 → KL l → CurOk c → ∃ (x : Packs) (c' : Cur), Ev (fun k => s_l15Draw_l3 k (m : Int) l c.1 c.2.1 c.2.2) (x, c') ∧ KL x ∧ CurOk c'
  | 0, l, c, _, h, hc => ⟨l, c, Ev.step (fun k => s_l15Draw_l3_eq k _ _ _ _ _) (Ev.no rfl (Ev.pure _)), h, hc⟩
  | m + 1, l, c, hm, h, hc => by
    obtain ⟨y, c1, e1, _, _, a3⟩ := l01Below_ev c hc 5
    have e2 := s_ResultsAfter_ev l y h.len h.fit
    have hw : IntKind.i64.wrap (((m + 1 : Nat) : Int) - (1 : Int)) = (m : Int) := by rw [wrap_id (by omega) (by omega)]; omega
    cases hb : (resAfter l y).2 with
    | true =>
      have hk := (h.after (x := (resAfter l y).1) (c := y) (by rw [← hb])).1
      obtain ⟨x, c2, e3, b1, b2⟩ := l15Draw_l3_ev m _ c1 (by omega) hk a3
      refine ⟨x, c2, Ev.step (fun k => s_l15Draw_l3_eq k _ _ _ _ _) (Ev.yes (decide_eq_true (by omega)) (Ev.bind e1 (Ev.bind e2 (Ev.yes hb ?_)))), b1, b2⟩
      rw [hw]
      exact e3
    | false =>
      obtain ⟨x, c2, e3, b1, b2⟩ := l15Draw_l3_ev m l c1 (by omega) h a3
      refine ⟨x, c2, Ev.step (fun k => s_l15Draw_l3_eq k _ _ _ _ _) (Ev.yes (decide_eq_true (by omega)) (Ev.bind e1 (Ev.bind e2 (Ev.no hb ?_)))), b1, b2⟩
      rw [hw]
      exact e3
theorem MakeKnown_ev (code : List Int) (hm : code.length ≤ 9223372036854775807) : ∃ l : Packs, Ev (fun k => s_MakeKnown k code) l ∧ KL l := by
  obtain ⟨c, e, hc⟩ := l01New_ev code hm
  obtain ⟨p, c1, e1, hp, hc1⟩ := l02Draw_ev c hc 4 (by omega) (by omega)
  obtain ⟨y, c2, e2, a1, a2, hc2⟩ := l01Below_ev c1 hc1 2
  have hy := a2 (by omega)
  have hk : KL [p] := ⟨by simp, by simp, List.pairwise_singleton _ _, p, hp.ok, hp.pos, fun q hq => by rw [List.mem_singleton.1 hq]⟩
  have hw : IntKind.i64.wrap ((1 : Int) + y) = (((1 + y).toNat : Nat) : Int) := by rw [wrap_id (by omega) (by omega)]; omega
  obtain ⟨x, c3, e3, b1, b2⟩ := l15Draw_l3_ev (1 + y).toNat [p] c2 (by omega) hk hc2
  refine ⟨x, Ev.step (fun k => s_MakeKnown_eq k code) (Ev.bind e (Ev.bind (x := (x, c3)) (Ev.step (fun k => s_l15Draw_eq k c) (Ev.bind e1 (Ev.bind e2 ?_))) (Ev.pure _))), b1⟩
  dsimp only
  rw [hw]
  exact e3
end Qq
namespace Qq
open Go Go.Vt Pt
set_option linter.unusedVariables false
set_option linter.unusedSimpArgs false
def seeB (j c : Int) (p : List Int) : Bool := decide (0 ≤ j) && (decide (j < (p.length : Int)) && card (p.getD j.toNat 0) == c)
theorem i_SeeCard_1_ev (p : List Int) (j c : Int) (hi : Ins p) : Ev (fun k => i_SeeCard_1 k (p, j, c)) (seeB j c p) := by
  unfold seeB
  refine Ev.step (fun k => i_SeeCard_1_eq k p j c) (Ev.ite (fun h => Ev.ite (fun h2 => ?_) (fun h2 => Ev.some ?_)) (fun h => Ev.some ?_))
  · have h' : 0 ≤ j := by simpa using h
    refine Ev.yes (by simpa using h') (Ev.yes h2 (Ev.bind (i_CardOf_ev _ (getD_in hi _)) (Ev.some ?_)))
    rw [decide_eq_true h', h2]; rfl
  · rw [h2]; simp
  · have h' : ¬ 0 ≤ j := by simpa using h
    rw [decide_eq_false h']; rfl
theorem i_those_l5_ev (l : Packs) (j c : Int) (hf : FitS l) (hl : l.length ≤ 3000) (h12 : ∀ p ∈ l, p.length ≤ 12) : ∀ (r : Packs) (i : Nat), l.drop i = r → Ev (fun k => i_those_of_i_SeeCard_1_l5 k j c l (l.length : Int) (i : Int) ((l.take i).filter (seeB j c))) (l.filter (seeB j c))
  | [], i, h => by
    have a := at_nil h
    refine Ev.step (fun k => i_those_of_i_SeeCard_1_l5_eq k _ _ _ _ _ _) ?_
    simp only [a.g, cond_false]
    exact Ev.some (by rw [List.take_of_length_le a.ge])
  | p :: r, i, h => by
    have a := at_cons h (by rw [maxLen_eq]; omega)
    have hmem : p ∈ l := List.mem_of_mem_drop (h ▸ List.mem_cons_self)
    have hp : p.length ≤ 12 := h12 p hmem
    have hfl : ((l.take i).filter (seeB j c)).length ≤ 3000 := Nat.le_trans (List.length_filter_le _ _) (by rw [List.length_take]; omega)
    have ih := i_those_l5_ev l j c hf hl h12 r (i + 1) a.next
    rw [filter_next a] at ih
    refine Ev.step (fun k => i_those_of_i_SeeCard_1_l5_eq k _ _ _ _ _ _) ?_
    simp only [a.g, a.z, a.get, a.w, cond_true]
    refine Ev.bind (i_SeeCard_1_ev p j c (hf.2 p hmem).2) (Ev.ite (fun h => ?_) (fun h => ?_))
    · rw [h, if_pos rfl] at ih
      exact Ev.bind (Clone_int_ev p (by omega)) (Ev.yes (by rw [rowMax_eq]; simp; omega) ih)
    · rw [h, if_neg (by simp), List.append_nil] at ih
      exact ih
theorem i_SeeCard_ev (l : Packs) (j c : Int) (hf : FitS l) : Ev (fun k => i_SeeCard k (l, j, c)) (those l (seeB j c)) := by
  refine Ev.step (fun k => i_SeeCard_eq k l j c) (Ev.bind (Ev.step (fun k => i_those_of_i_SeeCard_1_eq k l (j, c)) (Ev.bind (i_KnowOk_ev l hf) (Ev.ite (fun h => Ev.some ?_) (fun h => ?_)))) (Ev.pure _))
  · have : knowOk l = false := by simpa using h
    simp [those, this]
  · have e : knowOk l = true := by simpa using h
    unfold those
    rw [if_pos e]
    cases l with
    | nil => exact i_those_l5_ev [] j c hf (by simp) (by simp) [] 0 rfl
    | cons p0 r0 =>
      obtain ⟨h1, h2, h3, h4⟩ := know_fit e
      exact i_those_l5_ev (p0 :: r0) j c hf h1 (fun p hp => by have := (h4 p hp).2; omega) _ 0 rfl
end Qq
namespace Qq
open Go Go.Vt Pt
set_option linter.unusedVariables false
end Qq
namespace Qq
open Go Go.Vt Pt
set_option linter.unusedVariables false
set_option linter.unusedSimpArgs false
def mx (v y : Int) : Int := bif decide (y > v) then y else v
def maxF (v : Int) (r : List Int) : Int := r.foldl mx v
theorem Max_int_l5_ev (xs : List Int) (hm : xs.length ≤ maxLen) : ∀ (r : List Int) (i : Nat) (v : Int), xs.drop i = r → Ev (fun k => slices_Max_int_l5 k xs v (i : Int)) (maxF v r)
  | [], i, v, h => by
    have a := at_nil h
    refine Ev.step (fun k => slices_Max_int_l5_eq k xs v i) ?_
    simp only [a.g, cond_false]
    exact Ev.pure _
  | y :: r, i, v, h => by
    have a := at_cons h hm
    refine Ev.step (fun k => slices_Max_int_l5_eq k xs v i) ?_
    simp only [a.g, a.z, a.get, a.w, cond_true]
    exact Max_int_l5_ev xs hm r (i + 1) _ a.next
theorem Max_int_ev (x : Int) (r : List Int) (hm : (x :: r).length ≤ maxLen) : Ev (fun k => slices_Max_int k (x :: r)) (maxF x r) := by
  refine Ev.step (fun k => slices_Max_int_eq k _) (Ev.no (by simp; omega) (Ev.yes (by simp) ?_))
  exact Max_int_l5_ev (x :: r) hm r 1 x rfl
theorem Max_pos_ev (xs : List Int) (hm : xs.length ≤ maxLen) (hne : xs ≠ []) (hp : ∀ x ∈ xs, 0 ≤ x) : Ev (fun k => slices_Max_int k xs) (maxF 0 xs) := by
  cases xs with
  | nil => exact absurd rfl hne
  | cons x r =>
    refine (Max_int_ev x r hm).to ?_
    have hx : 0 ≤ x := hp x (by simp)
    show _ = maxF (mx 0 x) r
    have : mx 0 x = x := by unfold mx; by_cases h : x > 0 <;> simp [h]; omega
    rw [this]
end Qq
namespace Qq
open Go Go.Vt Pt
set_option linter.unusedVariables false
set_option linter.unusedSimpArgs false
theorem mx_eq (a b : Int) : mx a b = if b > a then b else a := by unfold mx; by_cases h : b > a <;> simp [h]
def cntL (j : Nat) (done : Packs) : List Int := (List.range 12).map fun (c : Nat) => ((done.countP (fun p => card (p.getD j 0) == (c : Int)) : Nat) : Int)
theorem cntL_len (j : Nat) (done : Packs) : (cntL j done).length = 12 := by simp [cntL]
theorem cntL_get (j : Nat) (done : Packs) (c : Nat) (h : c < 12) : (cntL j done).getD c 0 = ((done.countP (fun p => card (p.getD j 0) == (c : Int)) : Nat) : Int) := by simp [cntL, List.getD, h]
theorem cntL_set (j : Nat) (done : Packs) (q : List Int) (c : Nat) (h : c < 12) (hq : card (q.getD j 0) = (c : Int)) : (cntL j done).set c ((cntL j done).getD c 0 + 1) = cntL j (done ++ [q]) := by
  rw [cntL_get j done c h]
  apply List.ext_getElem?
  intro x
  rw [List.getElem?_set]
  have ex : ∀ d : Packs, x < 12 → (cntL j d)[x]? = some ((d.countP (fun p => card (p.getD j 0) == (x : Int)) : Nat) : Int) := fun d hx => by simp [cntL, hx]
  by_cases hx : x < 12
  · rw [ex _ hx, ex _ hx, List.countP_append, List.countP_singleton, hq]
    by_cases e : c = x
    · subst e; rw [if_pos rfl, cntL_len, if_pos h]; simp
    · have : ¬ ((c : Int) == (x : Int)) = true := by simp; omega
      rw [if_neg e, if_neg this, Nat.add_zero]
  · rw [if_neg (by omega), List.getElem?_eq_none (by rw [cntL_len]; omega), List.getElem?_eq_none (by rw [cntL_len]; omega)]
def worst (l : Packs) (j : Nat) : Int := maxF 0 (cntL j l)
theorem take_succ_at {α : Type} {l : List α} {i : Nat} {q : α} {r : List α} (h : l.drop i = q :: r) : l.take (i + 1) = l.take i ++ [q] := take_next h
theorem cntL_nil (j : Nat) : cntL j [] = List.replicate 12 0 := rfl
/-- The best place from i on, with b the best ahead. -/
def bestL (l : Packs) : Nat → Nat → Nat → Nat
  | 0, _, b => b
  | d + 1, i, b => if worst l i < worst l b then bestL l d (i + 1) i else bestL l d (i + 1) b
def bestLook (l : Packs) : Int := if knowOk l then ((bestL l (l.getD 0 []).length 0 0 : Nat) : Int) else -1
theorem know_at {p0 : List Int} {r : Packs} (h : knowOk (p0 :: r) = true) : ∀ j, j < p0.length → ∀ p ∈ p0 :: r, j < p.length ∧ 0 ≤ card (p.getD j 0) := by
  intro j hj p hp
  have := (know_fit h).2.2.2 p hp
  have hlt : j < p.length := by omega
  refine ⟨hlt, ?_⟩
  have h2 := (packetOk_fit this.1).2.1 p[j] (List.getElem_mem hlt)
  have e : p.getD j 0 = p[j] := by simp [List.getD, hlt]
  rw [e]; exact h2.1
theorem i_BestLook_l9_ev (l : Packs) (j : Nat) (v3 v4 m j' : Int) (hf : FitS l) (hj : ∀ p ∈ l, j < p.length ∧ 0 ≤ card (p.getD j 0)) (hl : l.length ≤ 3000) (y : Int)
    (hend : Ev (fun k => bif decide (v3 < 0) then i_BestLook_l5 k l (j : Int) (worst l j) m (IntKind.i64.wrap (j' + 1)) else bif decide (worst l j < v4) then i_BestLook_l5 k l (j : Int) (worst l j) m (IntKind.i64.wrap (j' + 1)) else i_BestLook_l5 k l v3 v4 m (IntKind.i64.wrap (j' + 1))) y) :
    ∀ (r : Packs) (i : Nat), l.drop i = r → Ev (fun k => i_BestLook_l9 k l v3 v4 (j : Int) m j' l (l.length : Int) (i : Int) (cntL j (l.take i))) y
  | [], i, h => by
    have a := at_nil h
    have L := cntL_len j (l.take i)
    refine Ev.step (fun k => i_BestLook_l9_eq k _ _ _ _ _ _ _ _ _ _) ?_
    simp only [a.g, cond_false]
    rw [List.take_of_length_le a.ge] at *
    refine Ev.yes (by rw [L]; rfl) (Ev.yes (by simp) (Ev.yes (by simp) ?_))
    have e : ((cntL j l).take ((cntL j l).length : Int).toNat).drop 0 = cntL j l := by simp
    rw [e]
    have hw : Ev (fun k => slices_Max_int k (cntL j l)) (worst l j) := Max_pos_ev (cntL j l) (by rw [L, maxLen_eq]; omega) (by intro h; rw [h] at L; cases L) (fun x hx => by
      unfold cntL at hx
      obtain ⟨c, _, rfl⟩ := List.mem_map.1 hx
      omega)
    exact Ev.bind hw hend
  | q :: r, i, h => by
    have a := at_cons h hf.1
    have ih := i_BestLook_l9_ev l j v3 v4 m j' hf hj hl y hend r (i + 1) a.next
    obtain ⟨q1, q2⟩ := hj q a.mem
    have q3 := (card_lt (q.getD j 0)).2
    have en : card (q.getD j 0) = ((card (q.getD j 0)).toNat : Int) := by omega
    generalize hc : (card (q.getD j 0)).toNat = c at en
    have hc12 : c < 12 := by omega
    have L := cntL_len j (l.take i)
    have hn := cntL_get j (l.take i) c hc12
    have hle : (cntL j (l.take i)).getD c 0 ≤ 3000 ∧ 0 ≤ (cntL j (l.take i)).getD c 0 := by
      rw [hn]
      have h1 := List.countP_le_length (p := fun p : List Int => card (p.getD j 0) == (c : Int)) (l := l.take i)
      have h2 : (l.take i).length ≤ l.length := by rw [List.length_take]; omega
      omega
    have hset := cntL_set j (l.take i) q c hc12 en
    rw [← take_succ_at h] at hset
    refine Ev.step (fun k => i_BestLook_l9_eq k _ _ _ _ _ _ _ _ _ _) ?_
    simp only [a.g, a.z, a.get, a.w, cond_true]
    refine Ev.yes (by simp) (Ev.yes (by simp; omega) ?_)
    rw [Int.toNat_natCast]
    refine Ev.bind (i_CardOf_ev _ (getD_in (hf.2 q a.mem).2 _)) ?_
    rw [en, Int.toNat_natCast, wrap_id (by omega) (by omega), hset]
    have g0 : (Nat.beq (cntL j (l.take i)).length 12 && true) = true := by rw [L]; rfl
    have g1 : decide ((0 : Int) ≤ (c : Int)) = true := by simp
    have g2 : decide ((c : Int) < ((cntL j (l.take i)).length : Int)) = true := by rw [L]; simp; omega
    have g3 : decide (c < (cntL j (l.take i)).length) = true := by rw [L]; simp; omega
    simp only [g0, g1, g2, g3, cond_true]
    exact ih
theorem i_BestLook_l5_ev (l : Packs) (m : Nat) (hm : m ≤ 12) (hf : FitS l) (hj : ∀ j, j < m → ∀ p ∈ l, j < p.length ∧ 0 ≤ card (p.getD j 0)) (hl : l.length ≤ 3000) : ∀ (d i b : Nat), i + d = m → b < m → Ev (fun k => i_BestLook_l5 k l (b : Int) (worst l b) (m : Int) (i : Int)) ((bestL l d i b : Nat) : Int)
  | 0, i, b, h, hb => by
    refine Ev.step (fun k => i_BestLook_l5_eq k _ _ _ _ _) ?_
    rw [at_end (by omega)]
    exact Ev.pure _
  | d + 1, i, b, h, hb => by
    have u := at_up (n := (m : Int)) (i := i) (by omega) (by omega)
    refine Ev.step (fun k => i_BestLook_l5_eq k _ _ _ _ _) ?_
    simp only [u.g, cond_true]
    rw [← cntL_nil i, ← List.take_zero (l := l)]
    refine i_BestLook_l9_ev l i b (worst l b) m i hf (hj i (by omega)) hl _ ?_ l 0 rfl
    rw [u.w]
    unfold bestL
    refine Ev.no (by simp) (Ev.ite (fun c => ?_) (fun c => ?_))
    · rw [if_pos (by simpa using c)]
      exact i_BestLook_l5_ev l m hm hf hj hl d (i + 1) i (by omega) (by omega)
    · rw [if_neg (by simpa using c)]
      exact i_BestLook_l5_ev l m hm hf hj hl d (i + 1) b (by omega) hb
theorem i_BestLook_ev (l : Packs) (hf : FitS l) : Ev (fun k => i_BestLook k l) (bestLook l) := by
  refine Ev.step (fun k => i_BestLook_eq k l) (Ev.bind (i_KnowOk_ev l hf) ?_)
  unfold bestLook
  refine Ev.ite (fun c => Ev.some ?_) (fun c => ?_)
  · have : knowOk l = false := by simpa using c
    rw [this]; rfl
  · have hk : knowOk l = true := by simpa using c
    rw [hk, if_pos rfl]
    cases l with
    | nil => cases hk
    | cons p0 r =>
      have kf := know_fit hk
      refine Ev.yes (by simp) ?_
      have e0 : List.getD (p0 :: r) 0 [] = p0 := rfl
      rw [e0]
      obtain ⟨m, hm⟩ : ∃ m, p0.length = m + 1 := ⟨p0.length - 1, by omega⟩
      have ka := know_at hk
      rw [hm] at ka kf ⊢
      have u := at_up (n := ((m + 1 : Nat) : Int)) (i := 0) (by omega) (by omega)
      refine Ev.step (fun k => i_BestLook_l5_eq k _ _ _ _ _) (Ev.yes (by simp) ?_)
      rw [← cntL_nil 0, ← List.take_zero (l := p0 :: r)]
      refine i_BestLook_l9_ev (p0 :: r) 0 (-1) 0 _ 0 hf (ka 0 (by omega)) kf.1 _ ?_ (p0 :: r) 0 rfl
      refine Ev.yes (by simp) ?_
      have hb : bestL (p0 :: r) (m + 1) 0 0 = bestL (p0 :: r) m 1 0 := by
        show (if worst (p0 :: r) 0 < worst (p0 :: r) 0 then _ else _) = _
        rw [if_neg (by omega)]
      rw [hb]
      have := i_BestLook_l5_ev (p0 :: r) (m + 1) kf.2.2.1 hf ka kf.1 m 1 0 (by omega) (by omega)
      have w0 : IntKind.i64.wrap ((0 : Int) + 1) = ((1 : Nat) : Int) := by decide
      rw [w0]
      exact this
end Qq
namespace Qq
open Go Go.Vt Pt
set_option linter.unusedVariables false
set_option linter.unusedSimpArgs false
/-- How many places from i on are known, with n behind. -/
def knownN (l : Packs) : Nat → Nat → Int → Int
  | 0, _, n => n
  | d + 1, i, n => if knownAt l (i : Int) ≥ 0 then knownN l d (i + 1) (n + 1) else knownN l d (i + 1) n
theorem i_CountKnown_l5_ev (l : Packs) (m : Nat) (hf : FitS l) (hm : m ≤ 12) : ∀ (d i : Nat) (n : Int), i + d = m → 0 ≤ n → n ≤ i → Ev (fun k => i_CountKnown_l5 k l n (m : Int) (i : Int)) (knownN l d i n)
  | 0, i, n, h, h1, h2 => by
    refine Ev.step (fun k => i_CountKnown_l5_eq k _ _ _ _) ?_
    rw [at_end (by omega)]
    exact Ev.pure _
  | d + 1, i, n, h, h1, h2 => by
    have u := at_up (n := (m : Int)) (i := i) (by omega) (by omega)
    refine Ev.step (fun k => i_CountKnown_l5_eq k _ _ _ _) ?_
    simp only [u.g, u.w, cond_true]
    rw [wrap_id (x := n + 1) (by omega) (by omega)]
    unfold knownN
    refine Ev.bind (i_KnownAt_ev l i hf) (Ev.ite (fun c => ?_) (fun c => ?_))
    · rw [if_pos (by simpa using c)]
      exact i_CountKnown_l5_ev l m hf hm d (i + 1) _ (by omega) (by omega) (by omega)
    · rw [if_neg (by simpa using c)]
      exact i_CountKnown_l5_ev l m hf hm d (i + 1) _ (by omega) (by omega) (by omega)
def countKnown (l : Packs) : Int := if knowOk l then knownN l (l.getD 0 []).length 0 0 else -1
theorem i_CountKnown_ev (l : Packs) (hf : FitS l) : Ev (fun k => i_CountKnown k l) (countKnown l) := by
  refine Ev.step (fun k => i_CountKnown_eq k l) (Ev.bind (i_KnowOk_ev l hf) ?_)
  unfold countKnown
  refine Ev.ite (fun c => Ev.some ?_) (fun c => ?_)
  · have : knowOk l = false := by simpa using c
    rw [this]; rfl
  · have hk : knowOk l = true := by simpa using c
    rw [hk, if_pos rfl]
    cases l with
    | nil => cases hk
    | cons p0 r =>
      have kf := know_fit hk
      exact Ev.yes (by simp) (i_CountKnown_l5_ev (p0 :: r) p0.length hf kf.2.2.1 p0.length 0 0 (by omega) (by omega) (by omega))
end Qq
namespace Qq
open Go Go.Vt Pt
set_option linter.unusedVariables false
set_option linter.unusedSimpArgs false
/-- The lengths add up to something small. -/
theorem sz_add {a b : ByteArray} {m n : Nat} (ha : a.size ≤ m) (hb : b.size ≤ n) : (a ++ b).size ≤ m + n := by rw [ByteArray.size_append]; omega
theorem sz_ok {a b : ByteArray} {m n : Nat} (ha : a.size ≤ m) (hb : b.size ≤ n) (h : m + n ≤ 9223372036854775807) : decide (a.size + b.size ≤ 9223372036854775807) = true := decide_eq_true (by omega)
theorem In_card (x : Int) : In (card x) := by have := card_lt x; unfold In; omega
end Qq
namespace Qq
open Go Go.Vt Pt
set_option linter.unusedVariables false
set_option linter.unusedSimpArgs false
def klF (l : Packs) : Nat → Nat → ByteArray → ByteArray
  | 0, _, acc => acc
  | d + 1, i, acc => klF l d (i + 1) (if 0 ≤ knownAt l (i : Int) then (acc ++ ⟨#[32]⟩) ++ itoaB (knownAt l (i : Int)) else acc ++ ⟨#[32, 63]⟩)
def knowLine (l : Packs) : ByteArray := if knowOk l then klF l (l.getD 0 []).length 0 (itoaB (l.length : Int) ++ ⟨#[32, 112, 111, 115, 115, 105, 98, 108, 101, 44, 32, 107, 110, 111, 119, 110]⟩) else ⟨#[]⟩
theorem knownAt_in (l : Packs) (j : Int) : In (knownAt l j) := by
  unfold knownAt
  split
  · unfold In; omega
  · split
    · split
      · exact In_card _
      · unfold In; omega
    · unfold In; omega
theorem i_KnowLine_l5_ev (l : Packs) (hf : FitS l) (n : Nat) (hn : n ≤ 12) : ∀ (d i : Nat) (acc : ByteArray), i + d = n → acc.size ≤ 40 + 22 * i → Ev (fun k => i_KnowLine_l5 k l acc (n : Int) (i : Int)) (klF l d i acc)
  | 0, i, acc, h, hs => by
    refine Ev.step (fun k => i_KnowLine_l5_eq k _ _ _ _) ?_
    rw [at_end (by omega)]
    exact Ev.pure _
  | d + 1, i, acc, h, hs => by
    have u := at_up (n := (n : Int)) (i := i) (by omega) (by omega)
    have hin := knownAt_in l (i : Int)
    have hsz := itoaB_size _ hin
    refine Ev.step (fun k => i_KnowLine_l5_eq k _ _ _ _) ?_
    simp only [u.g, u.w, cond_true]
    unfold klF
    refine Ev.bind (i_KnownAt_ev l (i : Int) hf) (Ev.ite (fun h => ?_) (fun h => ?_))
    · have : 0 ≤ knownAt l (i : Int) := by simpa using h
      rw [if_pos this]
      have s0 := sz_add (a := (⟨#[32]⟩ : ByteArray)) (m := 1) (by decide) hsz
      have s2 := sz_add hs s0
      refine Ev.bind (i_FormatInt_ev _ hin) (Ev.yes (sz_ok (m := 1) (by decide) hsz (by omega)) (Ev.yes (sz_ok hs s0 (by omega)) ?_))
      have e : (acc ++ (⟨#[32]⟩ : ByteArray)) ++ itoaB (knownAt l (i : Int)) = acc ++ ((⟨#[32]⟩ : ByteArray) ++ itoaB (knownAt l (i : Int))) := ByteArray.append_assoc
      rw [e]
      exact i_KnowLine_l5_ev l hf n hn d (i + 1) _ (by omega) (by omega)
    · have : ¬ 0 ≤ knownAt l (i : Int) := by simpa using h
      rw [if_neg this]
      have s1 := sz_add (b := (⟨#[32, 63]⟩ : ByteArray)) (n := 2) hs (by decide)
      exact Ev.yes (sz_ok hs (n := 2) (by decide) (by omega)) (i_KnowLine_l5_ev l hf n hn d (i + 1) _ (by omega) (by omega))
theorem i_KnowLine_ev (l : Packs) (hf : FitS l) : Ev (fun k => i_KnowLine k l) (knowLine l) := by
  unfold knowLine
  refine Ev.step (fun k => i_KnowLine_eq k l) (Ev.bind (i_KnowOk_ev l hf) (Ev.ite (fun h => Ev.some ?_) (fun h => ?_)))
  · have : knowOk l = false := by simpa using h
    rw [this]; rfl
  · have e : knowOk l = true := by simpa using h
    rw [if_pos e]
    cases l with
    | nil => simp [knowOk] at e
    | cons p0 r0 =>
      obtain ⟨h1, h2, h3, h4⟩ := know_fit e
      have hin : In ((p0 :: r0).length : Int) := by unfold In; omega
      have hsz := itoaB_size _ hin
      have s1 := sz_add (b := (⟨#[32, 112, 111, 115, 115, 105, 98, 108, 101, 44, 32, 107, 110, 111, 119, 110]⟩ : ByteArray)) (n := 16) hsz (by decide)
      exact Ev.bind (i_FormatInt_ev _ hin) (Ev.yes (sz_ok hsz (n := 16) (by decide) (by decide)) (Ev.yes (by simp) (i_KnowLine_l5_ev _ hf p0.length h3 p0.length 0 _ (by omega) (by omega))))
end Qq
namespace Qq
open Go Go.Vt Pt
set_option linter.unusedVariables false
set_option linter.unusedSimpArgs false
theorem posF_idx : ∀ (q : List Int) (j i : Nat), (q.map card).Nodup → j < q.length → posF (card (q.getD j 0)) i q = ((i + j : Nat) : Int)
  | [], j, i, _, h => by simp at h
  | x :: r, 0, i, _, _ => by
    show (if card x = card x then _ else _) = _
    rw [if_pos rfl]; rfl
  | x :: r, j + 1, i, hn, h => by
    rw [List.map_cons, List.nodup_cons] at hn
    have hj : j < r.length := by simpa using h
    have hg : (x :: r).getD (j + 1) 0 = r.getD j 0 := rfl
    rw [hg]
    have hne : ¬ card x = card (r.getD j 0) := fun e => hn.1 (by
      rw [e]
      have : r.getD j 0 = r[j] := by simp [List.getD, hj]
      rw [this]
      exact List.mem_map_of_mem (List.getElem_mem hj))
    unfold posF
    rw [if_neg hne, posF_idx r j (i + 1) hn.2 hj]
    congr 1; omega
theorem pos_idx {q : List Int} (h : packetOk q = true) {j : Nat} (hj : j < q.length) : pos q (card (q.getD j 0)) = (j : Int) := by
  have hf := packetOk_fit h
  have hg : q.getD j 0 = q[j] := by simp [List.getD, hj]
  have h0 := (hf.2.1 q[j] (List.getElem_mem hj)).1
  unfold pos
  rw [if_neg (by rw [hg]; omega), posF_idx q j 0 hf.1 hj, Nat.zero_add]
theorem i_commonIdx_l5_ev (l : Packs) (c v : Int) (hf : FitS l) (hv : ∀ q ∈ l, pos q c = v) : ∀ (r : Packs) (i : Nat), l.drop i = r → Ev (fun k => i_common_of_i_KnownIndexOf_1_l5 k c v l (l.length : Int) (i : Int)) v
  | [], i, h => by
    have a := at_nil h
    exact Ev.step (fun k => i_common_of_i_KnownIndexOf_1_l5_eq k _ _ _ _ _) (Ev.no a.g (Ev.pure _))
  | q :: r, i, h => by
    have a := at_cons h hf.1
    have hq := hf.2 q a.mem
    refine Ev.step (fun k => i_common_of_i_KnownIndexOf_1_l5_eq k _ _ _ _ _) ?_
    simp only [a.g, a.z, a.get, a.w, cond_true]
    refine Ev.bind (Ev.step (fun k => i_KnownIndexOf_1_eq k q c) (Ev.bind (i_PositionOf_ev q c hq.1 hq.2) (Ev.pure _))) (Ev.no ?_ (i_commonIdx_l5_ev l c v hf hv r (i + 1) a.next))
    rw [hv q a.mem]; simp
theorem i_KnownIndexOf_ev (l : Packs) (c v : Int) (h : KL l) (hv : ∀ q ∈ l, pos q c = v) : Ev (fun k => i_KnownIndexOf k (l, c)) v := by
  have hf := h.fit
  refine Ev.step (fun k => i_KnownIndexOf_eq k l c) (Ev.bind (x := v) (Ev.step (fun k => i_common_of_i_KnownIndexOf_1_eq k l c) (Ev.bind (i_KnowOk_ev l hf) ?_)) (Ev.pure _))
  have hl : 0 < l.length := List.length_pos_iff.2 h.ne
  have hm : l.getD 0 [] ∈ l := by
    cases l with
    | nil => simp at hl
    | cons p r => simp [List.getD]
  have hq := hf.2 _ hm
  rw [h.know]
  refine Ev.no rfl (Ev.yes (by simp; omega) (Ev.bind (Ev.step (fun k => i_KnownIndexOf_1_eq k _ c) (Ev.bind (i_PositionOf_ev _ c hq.1 hq.2) (Ev.pure _))) ?_))
  rw [hv _ hm]
  exact i_commonIdx_l5_ev l c v hf hv _ 0 rfl
def cnt (l : Packs) (j : Nat) (c : Int) : Nat := l.countP fun p => card (p.getD j 0) == c
def lessC (l : Packs) (j : Nat) (c : Int) : Nat := l.countP fun p => decide (card (p.getD j 0) < c)
theorem lessC_succ (l : Packs) (j : Nat) (c : Int) : lessC l j (c + 1) = lessC l j c + cnt l j c := by
  unfold lessC cnt
  induction l with
  | nil => rfl
  | cons p r ih =>
    rw [List.countP_cons, List.countP_cons, List.countP_cons, ih]
    generalize card (p.getD j 0) = x
    rcases Int.lt_trichotomy x c with h | h | h
    · have h1 : x < c + 1 := by omega
      have h2 : ¬ x = c := by omega
      rw [if_pos (by simpa using h1), if_pos (by simpa using h), if_neg (by simpa using h2)]; omega
    · have h1 : x < c + 1 := by omega
      have h2 : ¬ x < c := by omega
      rw [if_pos (by simpa using h1), if_neg (by simpa using h2), if_pos (by simpa using h)]; omega
    · have h1 : ¬ x < c + 1 := by omega
      have h2 : ¬ x < c := by omega
      have h3 : ¬ x = c := by omega
      simp [h1, h2, h3]
/-- The most packets that a card below c leaves. -/
def mxC (l : Packs) (j : Nat) : Nat → Int
  | 0 => 0
  | c + 1 => if (cnt l j (c : Int) : Int) > mxC l j c then (cnt l j (c : Int) : Int) else mxC l j c
theorem mxC_ge (l : Packs) (j : Nat) : ∀ (n : Nat) (c : Nat), c < n → (cnt l j (c : Int) : Int) ≤ mxC l j n
  | 0, c, h => by omega
  | n + 1, c, h => by
    unfold mxC
    by_cases e : c = n
    · subst e; split <;> omega
    · have := mxC_ge l j n c (by omega)
      split <;> omega
theorem mxC_is (l : Packs) (j : Nat) : ∀ (n : Nat), mxC l j n = 0 ∨ ∃ c, c < n ∧ mxC l j n = (cnt l j ((c : Nat) : Int) : Int)
  | 0 => .inl rfl
  | n + 1 => by
    unfold mxC
    split
    · exact .inr ⟨n, by omega, rfl⟩
    · rcases mxC_is l j n with h | ⟨c, h1, h2⟩
      · exact .inl h
      · exact .inr ⟨c, by omega, h2⟩
theorem mxC_bounds (l : Packs) (j n : Nat) : 0 ≤ mxC l j n ∧ mxC l j n ≤ l.length := by
  rcases mxC_is l j n with h | ⟨c, _, h⟩
  · rw [h]; omega
  · have : cnt l j (c : Int) ≤ l.length := List.countP_le_length
    rw [h]; omega
theorem foldl_snoc (m : Int) (l : List Int) (y : Int) : maxF m (l ++ [y]) = mx (maxF m l) y := by unfold maxF; rw [List.foldl_append]; rfl
theorem maxF_mxC (l : Packs) (j : Nat) : ∀ n : Nat, maxF 0 ((List.range n).map fun (c : Nat) => ((cnt l j (c : Int) : Nat) : Int)) = mxC l j n
  | 0 => rfl
  | n + 1 => by
    rw [List.range_succ, List.map_append, List.map_singleton, foldl_snoc, maxF_mxC l j n, mx_eq]
    rfl
theorem worst_mxC (l : Packs) (j : Nat) : worst l j = mxC l j 12 := maxF_mxC l j 12
theorem bestL_min (l : Packs) : ∀ (d i b : Nat), worst l (bestL l d i b) ≤ worst l b ∧ (∀ j, i ≤ j → j < i + d → worst l (bestL l d i b) ≤ worst l j) ∧ (bestL l d i b = b ∨ (i ≤ bestL l d i b ∧ bestL l d i b < i + d))
  | 0, i, b => ⟨Int.le_refl _, fun j h1 h2 => by omega, .inl rfl⟩
  | d + 1, i, b => by
    unfold bestL
    split
    · rename_i h
      obtain ⟨k1, k2, k3⟩ := bestL_min l d (i + 1) i
      refine ⟨by omega, fun j h1 h2 => ?_, ?_⟩
      · by_cases e : j = i
        · subst e; exact k1
        · exact k2 j (by omega) (by omega)
      · rcases k3 with k3 | k3
        · exact .inr (by rw [k3]; omega)
        · exact .inr (by omega)
    · rename_i h
      obtain ⟨k1, k2, k3⟩ := bestL_min l d (i + 1) b
      refine ⟨k1, fun j h1 h2 => ?_, ?_⟩
      · by_cases e : j = i
        · subst e; omega
        · exact k2 j (by omega) (by omega)
      · rcases k3 with k3 | k3
        · exact .inl k3
        · exact .inr (by omega)
theorem knownN_ge (l : Packs) : ∀ (d i : Nat) (n : Int), n ≤ knownN l d i n
  | 0, i, n => Int.le_refl _
  | d + 1, i, n => by
    unfold knownN
    split
    · have := knownN_ge l d (i + 1) (n + 1); omega
    · exact knownN_ge l d (i + 1) n
theorem klF_size (l : Packs) : ∀ (d i : Nat) (acc : ByteArray), acc.size ≤ (klF l d i acc).size
  | 0, i, acc => Nat.le_refl _
  | d + 1, i, acc => by
    unfold klF
    refine Nat.le_trans ?_ (klF_size l d (i + 1) _)
    split
    · rw [ByteArray.size_append, ByteArray.size_append]; omega
    · rw [ByteArray.size_append]; omega
theorem knowLine_ne {l : Packs} (h : KL l) : knowLine l ≠ ⟨#[]⟩ := by
  intro e
  unfold knowLine at e
  rw [if_pos h.know] at e
  have := klF_size l (l.getD 0 []).length 0 (itoaB (l.length : Int) ++ ⟨#[32, 112, 111, 115, 115, 105, 98, 108, 101, 44, 32, 107, 110, 111, 119, 110]⟩)
  rw [e, ByteArray.size_append] at this
  have e1 : (⟨#[32, 112, 111, 115, 115, 105, 98, 108, 101, 44, 32, 107, 110, 111, 119, 110]⟩ : ByteArray).size = 16 := rfl
  have e2 : (⟨#[]⟩ : ByteArray).size = 0 := rfl
  omega
theorem seen_those {l : Packs} (h : KL l) {j : Nat} (hj : ∀ p ∈ l, j < p.length) (c : Int) : those l (seeB (j : Int) c) = l.filter fun p => card (p.getD j 0) == c := by
  unfold those
  rw [if_pos h.know]
  apply List.filter_congr
  intro p hp
  have := hj p hp
  unfold seeB
  rw [Int.toNat_natCast]
  simp [this]
theorem seen_len {l : Packs} (h : KL l) {j : Nat} (hj : ∀ p ∈ l, j < p.length) (c : Int) : (those l (seeB (j : Int) c)).length = cnt l j c := by
  rw [seen_those h hj, cnt, List.countP_eq_length_filter]
theorem knownAt_all {l : Packs} (h : KL l) {j : Nat} (hj : ∀ p ∈ l, j < p.length) {c : Int} (hc : ∀ p ∈ l, card (p.getD j 0) = c) : knownAt l (j : Int) = c := by
  have hk := h.know
  cases l with
  | nil => exact (h.ne rfl).elim
  | cons p0 r =>
    have h0 := hj p0 (by simp)
    unfold knownAt
    dsimp only
    rw [hk, Int.toNat_natCast]
    have e1 : (decide (0 ≤ (j : Int)) && decide ((j : Int) < (p0.length : Int))) = true := by simp; omega
    rw [e1]
    simp only [Bool.and_self, if_true]
    rw [if_pos]
    · exact hc p0 (by simp)
    · rw [List.all_eq_true]
      intro p hp
      rw [hc p hp, hc p0 (by simp)]; simp
theorem knownAt_not {l : Packs} (h : KL l) {j : Nat} (hn : ¬ ∃ c, ∀ p ∈ l, card (p.getD j 0) = c) : knownAt l (j : Int) = -1 := by
  cases l with
  | nil => exact (h.ne rfl).elim
  | cons p0 r =>
    unfold knownAt
    dsimp only
    split
    · rw [if_neg]
      intro ha
      rw [List.all_eq_true] at ha
      refine hn ⟨card (p0.getD j 0), fun p hp => ?_⟩
      have := ha p hp
      rw [Int.toNat_natCast] at this
      simpa using this
    · rfl
theorem w_FnKnows_l21_ev (l : Packs) (hk : KL l) (w : Int) (b : Nat) (hj : ∀ p ∈ l, b < p.length) (hw : mxC l b 12 ≤ w) : ∀ (m n : Nat), n + m = 12 → Ev (fun k => w_FnKnows_l21 k w (b : Int) (mxC l b n) (n : Int) l) true
  | 0, n, h => by
    have hn : n = 12 := by omega
    subst hn
    refine Ev.step (fun k => w_FnKnows_l21_eq k _ _ _ _ _) (Ev.no rfl (Ev.yes (decide_eq_true hw) (Ev.bind (i_KnowLine_ev l hk.fit) (Ev.some ?_))))
    have hne := knowLine_ne hk
    have : ¬ (knowLine l).toList = (⟨#[]⟩ : ByteArray).toList := fun e => hne (by
      rw [ByteArray.toList_eq, ByteArray.toList_eq] at e
      exact ByteArray.ext (Array.ext' e))
    simpa using this
  | m + 1, n, h => by
    refine Ev.step (fun k => w_FnKnows_l21_eq k _ _ _ _ _) (Ev.yes (decide_eq_true (by omega)) (Ev.bind (i_SeeCard_ev l _ _ hk.fit) ?_))
    rw [seen_len hk hj]
    have hwp : IntKind.i64.wrap ((n : Int) + (1 : Int)) = ((n + 1 : Nat) : Int) := by rw [wrap_id (by omega) (by omega)]; simp
    rw [hwp]
    have e : (bif decide (((cnt l b (n : Int) : Nat) : Int) > mxC l b n) then ((cnt l b (n : Int) : Nat) : Int) else mxC l b n) = mxC l b (n + 1) := by
      show _ = (if (cnt l b (n : Int) : Int) > mxC l b n then (cnt l b (n : Int) : Int) else mxC l b n)
      by_cases h : (cnt l b (n : Int) : Int) > mxC l b n <;> simp [h]
    rw [e]
    exact w_FnKnows_l21_ev l hk w b hj hw m (n + 1) (by omega)
theorem w_FnKnows_l9_ev (l : Packs) (hk : KL l) (n0 : Nat) (hn0 : ∀ p ∈ l, p.length = n0) (j : Nat) (hjn : j < n0) : ∀ (m n : Nat), n + m = 12 →
    Ev (fun k => w_FnKnows_l9 k (n0 : Int) (j : Int) ((lessC l j (n : Int) : Nat) : Int) (mxC l j n) (n : Int) l) true
  | 0, n, h => by
    have hn : n = 12 := by omega
    subst hn
    have hj : ∀ p ∈ l, j < p.length := fun p hp => by rw [hn0 p hp]; exact hjn
    have hf := hk.fit
    have hknow := hk.know
    have hcard : ∀ (i : Nat), i < n0 → ∀ p ∈ l, 0 ≤ card (p.getD i 0) ∧ card (p.getD i 0) ≤ 11 := fun i hi p hp => by
      have hl : i < p.length := by rw [hn0 p hp]; exact hi
      have hg : p.getD i 0 = p[i] := by simp [List.getD, hl]
      rw [hg]
      exact (packetOk_fit (hk.ok hp).1).2.1 p[i] (List.getElem_mem hl)
    have hall : lessC l j 12 = l.length := by
      unfold lessC
      rw [List.countP_eq_length]
      intro p hp
      have := hcard j hjn p hp
      exact decide_eq_true (by omega)
    have hlp : 0 < l.length := List.length_pos_iff.2 hk.ne
    have hl0 : (l.getD 0 []).length = n0 := by
      cases l with
      | nil => simp at hlp
      | cons p r => exact hn0 p (by simp)
    obtain ⟨b1, b2, b3⟩ := bestL_min l n0 0 0
    have hbl : bestL l n0 0 0 < n0 := by rcases b3 with h3 | h3 <;> omega
    have hbest : bestLook l = ((bestL l n0 0 0 : Nat) : Int) := by unfold bestLook; rw [if_pos hknow, hl0]
    have hcase : (decide (knownAt l (j : Int) ≥ 0)) = (mxC l j 12 == (l.length : Int)) := by
      by_cases hc : ∃ c, ∀ p ∈ l, card (p.getD j 0) = c
      · obtain ⟨c, hc⟩ := hc
        rw [knownAt_all hk hj hc]
        have hc0 : 0 ≤ c ∧ c ≤ 11 := by
          cases l with
          | nil => simp at hlp
          | cons p r => rw [← hc p (by simp)]; exact hcard j hjn p (by simp)
        have hcnt : cnt l j c = l.length := by
          unfold cnt
          rw [List.countP_eq_length]
          intro p hp
          simp only [beq_iff_eq]
          exact hc p hp
        have hge := mxC_ge l j 12 c.toNat (by omega)
        have e : ((c.toNat : Nat) : Int) = c := by omega
        rw [e, hcnt] at hge
        have hle := (mxC_bounds l j 12).2
        have : mxC l j 12 = (l.length : Int) := by omega
        rw [this]
        simp; omega
      · rw [knownAt_not hk hc]
        have : ¬ mxC l j 12 = (l.length : Int) := fun e => by
          rcases mxC_is l j 12 with h1 | ⟨c, _, h2⟩
          · omega
          · have h3 : cnt l j (c : Int) = l.length := by omega
            unfold cnt at h3
            rw [List.countP_eq_length] at h3
            exact hc ⟨(c : Int), fun p hp => by simpa using h3 p hp⟩
        simp [this]
    have hck : 0 ≤ countKnown l := by unfold countKnown; rw [if_pos hknow]; exact knownN_ge l _ 0 0
    refine Ev.step (fun k => w_FnKnows_l9_eq k _ _ _ _ _ _) (Ev.no rfl (Ev.bind (i_BestLook_ev l hf) (Ev.bind (i_KnowOk_ev l hf) ?_)))
    rw [hknow, hbest]
    refine Ev.no rfl (Ev.no ?_ (Ev.no (by simp) (Ev.no (by simp; omega) (Ev.bind (i_KnownAt_ev l (j : Int) hf) (Ev.no ?_ (Ev.bind (i_CountKnown_ev l hf) (Ev.no (by simp; omega) ?_)))))))
    · have : ((12 : Nat) : Int) = 12 := rfl
      rw [this, hall]; simp
    · rw [hcase]; simp
    · have hjb : ∀ p ∈ l, bestL l n0 0 0 < p.length := fun p hp => by rw [hn0 p hp]; exact hbl
      have hw := b2 j (by omega) (by omega)
      rw [worst_mxC, worst_mxC] at hw
      exact w_FnKnows_l21_ev l hk _ _ hjb hw 12 0 rfl
  | m + 1, n, h => by
    have hj : ∀ p ∈ l, j < p.length := fun p hp => by rw [hn0 p hp]; exact hjn
    have hwp : IntKind.i64.wrap ((n : Int) + (1 : Int)) = ((n + 1 : Nat) : Int) := by rw [wrap_id (by omega) (by omega)]; simp
    have hls := lessC_succ l j (n : Int)
    have hle : lessC l j ((n : Int) + 1) ≤ l.length := List.countP_le_length
    have hlen := hk.len
    have hsum : IntKind.i64.wrap (((lessC l j (n : Int) : Nat) : Int) + ((cnt l j (n : Int) : Nat) : Int)) = ((lessC l j ((n + 1 : Nat) : Int) : Nat) : Int) := by
      rw [wrap_id (by omega) (by omega)]
      have : ((n + 1 : Nat) : Int) = (n : Int) + 1 := by omega
      rw [this, hls]; omega
    have e : (bif decide (((cnt l j (n : Int) : Nat) : Int) > mxC l j n) then ((cnt l j (n : Int) : Nat) : Int) else mxC l j n) = mxC l j (n + 1) := by
      show _ = (if (cnt l j (n : Int) : Int) > mxC l j n then (cnt l j (n : Int) : Int) else mxC l j n)
      by_cases h : (cnt l j (n : Int) : Int) > mxC l j n <;> simp [h]
    have ih := w_FnKnows_l9_ev l hk n0 hn0 j hjn m (n + 1) (by omega)
    have hsl := seen_len hk hj (n : Int)
    refine Ev.step (fun k => w_FnKnows_l9_eq k _ _ _ _ _ _) (Ev.yes (decide_eq_true (by omega)) (Ev.bind (i_SeeCard_ev l _ _ hk.fit) ?_))
    by_cases hpos : 0 < cnt l j (n : Int)
    · have hs := seen_those hk hj (n : Int)
      have hne : l.filter (fun p => card (p.getD j 0) == (n : Int)) ≠ [] := fun e => by
        rw [← hs] at e
        rw [e] at hsl
        simp at hsl; omega
      have hkf := hk.filter _ hne
      have hcs : ∀ p ∈ those l (seeB (j : Int) (n : Int)), card (p.getD j 0) = (n : Int) := fun p hp => by
        rw [hs] at hp
        simpa using (List.mem_filter.1 hp).2
      have hjs : ∀ p ∈ those l (seeB (j : Int) (n : Int)), j < p.length := fun p hp => by
        rw [hs] at hp
        exact hj p (List.mem_filter.1 hp).1
      rw [← hs] at hkf
      refine Ev.yes (by rw [hsl]; simp; omega) (Ev.bind (i_KnownAt_ev _ (j : Int) hkf.fit) (Ev.no ?_ (Ev.bind (i_KnownIndexOf_ev _ (n : Int) (j : Int) hkf (fun q hq => ?_)) (Ev.no (by simp) ?_))))
      · rw [knownAt_all hkf hjs hcs]; simp
      · rw [← hcs q hq]
        exact pos_idx (hkf.ok hq).1 (hjs q hq)
      · rw [hsl, hsum, e, hwp]
        exact ih
    · refine Ev.no (by rw [hsl]; simp; omega) ?_
      rw [hsl, hsum, e, hwp]
      exact ih
theorem FnKnows_ev (code : List Int) (f0 : Fits (.slice (.int .u8)) code) : Ev (fun k => w_FnKnows k code) true := by
  have hm : code.length ≤ 9223372036854775807 := by have := f0.1; rw [maxLen_eq] at this; exact this
  refine Ev.step (fun k => w_FnKnows_eq k code) (Ev.ite (fun h => Ev.pure _) (fun h => ?_))
  obtain ⟨l, e, hk⟩ := MakeKnown_ev code hm
  obtain ⟨y, e2, a1, a2⟩ := MakeNum_ev code hm 40 (by omega)
  have hlp : 0 < l.length := List.length_pos_iff.2 hk.ne
  obtain ⟨p0, r, rfl⟩ : ∃ p0 r, l = p0 :: r := by
    cases l with
    | nil => simp at hlp
    | cons p r => exact ⟨p, r, rfl⟩
  have h0 := hk.ok (q := p0) (by simp)
  have hg : (p0 :: r).getD 0 [] = p0 := rfl
  refine Ev.bind e (Ev.yes (by simp) (Ev.yes (by simp) (Ev.bind e2 ?_)))
  rw [hg]
  refine Ev.yes (by simp; intro h; rw [h] at h0; simp at h0) ?_
  have hb := tmod_bound a1 (n := (p0.length : Int)) (by omega)
  have ej : y.tmod (p0.length : Int) = (((y.tmod (p0.length : Int)).toNat : Nat) : Int) := by omega
  rw [ej]
  have := w_FnKnows_l9_ev (p0 :: r) hk p0.length (fun p hp => hk.lens hp (by simp)) (y.tmod (p0.length : Int)).toNat (by omega) 12 0 rfl
  have hz : lessC (p0 :: r) (y.tmod (p0.length : Int)).toNat ((0 : Nat) : Int) = 0 := by
    unfold lessC
    rw [List.countP_eq_zero]
    intro p hp
    have hl := hk.lens hp (q' := p0) (by simp)
    have hi : (y.tmod (p0.length : Int)).toNat < p.length := by omega
    have hgp : p.getD (y.tmod (p0.length : Int)).toNat 0 = p[(y.tmod (p0.length : Int)).toNat] := by simp [List.getD, hi]
    have := ((packetOk_fit (hk.ok hp).1).2.1 _ (List.getElem_mem hi)).1
    rw [hgp]
    simp; omega
  rw [hz] at this
  exact this
end Qq
