/-
  The law FnRuns comes to true.
  Conditions: none.
-/
import Derived.Test.YtlgkjckddpnfnaaGreatDoorPt
import Derived.Test.YtlgkjckddpnfnaaGreatDoorXvzd
import Derived.Laws.BitsLemmas
import Derived.Test.YtlgkjckddpnfnaaGreatDoorXvzj
import Derived.Test.YtlgkjckddpnfnaaGreatDoorXvzk
import Derived.Test.YtlgkjckddpnfnaaGreatDoorCmf
import Derived.Lib.ItoaLen
namespace Go.Vt
end Go.Vt
namespace Qq
open Go Go.Vt
set_option linter.unusedVariables false
set_option linter.unusedSimpArgs false
theorem maxLen_eq : maxLen = 9223372036854775807 := by unfold maxLen; decide
theorem rowMax_eq : rowMax = 4294967296 := rfl
theorem wrap_id {x : Int} (h1 : -9223372036854775808 ≤ x) (h2 : x ≤ 9223372036854775807) : IntKind.i64.wrap x = x := by
  rw [IntKind.wrap_i64]; omega
/-- Numbers of a machine's kind. -/
def In (x : Int) : Prop := -9223372036854775808 ≤ x ∧ x ≤ 9223372036854775807
theorem In.of_fits {x : Int} (h : Fits (.int .i64) x) : In x := by
  have h' : IntKind.i64.min ≤ x ∧ x ≤ IntKind.i64.max := h
  have e1 : IntKind.i64.min = -9223372036854775808 := by decide
  have e2 : IntKind.i64.max = 9223372036854775807 := by decide
  unfold In; rw [e1, e2] at h'; exact h'
def Ins (xs : List Int) : Prop := ∀ x ∈ xs, In x
structure AtCons {α : Type} (xs : List α) (i : Nat) (y : α) (rest : List α) : Prop where
  lt : i < xs.length
  g : decide ((i : Int) < (xs.length : Int)) = true
  z : decide ((0 : Int) ≤ (i : Int)) = true
  n : decide ((i : Int).toNat < xs.length) = true
  get : ∀ d, xs.getD (i : Int).toNat d = y
  w : IntKind.i64.wrap ((i : Int) + 1) = ((i + 1 : Nat) : Int)
  next : xs.drop (i + 1) = rest
  mem : y ∈ xs
  gt : ∀ d, xs.getD i d = y
  le : decide ((i : Int) ≤ (xs.length : Int)) = true
theorem at_cons {α : Type} {xs : List α} {i : Nat} {y : α} {rest : List α} (h : xs.drop i = y :: rest) (hm : xs.length ≤ maxLen) : AtCons xs i y rest := by
  rw [maxLen_eq] at hm
  have lt : i < xs.length := by
    rcases Nat.lt_or_ge i xs.length with h1 | h1
    · exact h1
    · rw [List.drop_eq_nil_of_le h1] at h; cases h
  have e := List.drop_eq_getElem_cons lt
  rw [e] at h
  have hy : xs[i] = y := by injection h
  refine ⟨lt, by simp; omega, by simp, by simp; omega, fun d => by simp [List.getD, lt, hy], by rw [wrap_id (by omega) (by omega)]; simp, by injection h, by rw [← hy]; exact List.getElem_mem lt, fun d => by simp [List.getD, lt, hy], by simp; omega⟩
structure AtNil {α : Type} (xs : List α) (i : Nat) : Prop where
  ge : xs.length ≤ i
  g : decide ((i : Int) < (xs.length : Int)) = false
theorem at_nil {α : Type} {xs : List α} {i : Nat} (h : xs.drop i = []) : AtNil xs i := by
  have ge : xs.length ≤ i := List.drop_eq_nil_iff.1 h
  exact ⟨ge, by simp; omega⟩
/-- Counting from i up to n. -/
structure AtUp (n : Int) (i : Nat) : Prop where
  lt : (i : Int) < n
  g : decide ((i : Int) < n) = true
  z : decide ((0 : Int) ≤ (i : Int)) = true
  w : IntKind.i64.wrap ((i : Int) + 1) = ((i + 1 : Nat) : Int)
theorem at_up {n : Int} {i : Nat} (h : (i : Int) < n) (hn : n ≤ 9223372036854775807) : AtUp n i :=
  ⟨h, by simp [h], by simp, by rw [wrap_id (by omega) (by omega)]; simp⟩
theorem at_end {n : Int} {i : Nat} (h : n ≤ (i : Int)) : decide ((i : Int) < n) = false := by simp [h]
end Qq
namespace Qq
open Go Go.Vt Pt
set_option linter.unusedVariables false
set_option linter.unusedSimpArgs false
abbrev Cur : Type := List Int × Int × Int
def CurOk (c : Cur) : Prop := c.1.length ≤ 9223372036854775807 ∧ 0 ≤ c.2.1 ∧ c.2.1 ≤ c.1.length
theorem and255 (x : BitVec 64) : (x &&& BitVec.ofInt 64 255).toNat ≤ 255 := by
  rw [BitVec.toNat_and]
  exact Nat.and_le_right
theorem wrap255 (x : BitVec IntKind.i64.bits) : 0 ≤ IntKind.i64.wrap (((x &&& BitVec.ofInt IntKind.i64.bits (255 : Int)).toNat : Nat) : Int) ∧ IntKind.i64.wrap (((x &&& BitVec.ofInt IntKind.i64.bits (255 : Int)).toNat : Nat) : Int) ≤ 255 := by
  have h : (x &&& BitVec.ofInt IntKind.i64.bits (255 : Int)).toNat ≤ 255 := and255 x
  rw [wrap_id (by omega) (by omega)]
  omega
theorem l01Byte_ev (c : Cur) (h : CurOk c) : ∃ (y : Int) (c' : Cur), Ev (fun k => s_l01Byte k c) (y, c') ∧ 0 ≤ y ∧ y ≤ 255 ∧ CurOk c' := by
  obtain ⟨h1, h2, h3⟩ := h
  by_cases hl : c.2.1 < c.1.length
  · refine ⟨_, _, Ev.step (fun k => s_l01Byte_eq k c) (Ev.yes (decide_eq_true hl) (Ev.yes (decide_eq_true h2) (Ev.yes (decide_eq_true hl) (Ev.pure _)))), (wrap255 _).1, (wrap255 _).2, ?_⟩
    refine ⟨h1, ?_, ?_⟩ <;> (dsimp only; rw [wrap_id (by omega) (by omega)]; omega)
  · exact ⟨_, _, Ev.step (fun k => s_l01Byte_eq k c) (Ev.no (decide_eq_false hl) (Ev.pure _)), (wrap255 _).1, (wrap255 _).2, ⟨h1, h2, h3⟩⟩
theorem tmod_bound {a n : Int} (ha : 0 ≤ a) (hn : 0 < n) : 0 ≤ a.tmod n ∧ a.tmod n < n := by
  rw [Int.tmod_eq_emod_of_nonneg ha]
  exact ⟨Int.emod_nonneg _ (by omega), Int.emod_lt_of_pos _ hn⟩
theorem l01Below_ev (c : Cur) (h : CurOk c) (n : Int) : ∃ (y : Int) (c' : Cur), Ev (fun k => s_l01Below k (c, n)) (y, c') ∧ 0 ≤ y ∧ (0 < n → y < n) ∧ CurOk c' := by
  by_cases h0 : n ≤ 0
  · exact ⟨0, c, Ev.step (fun k => s_l01Below_eq k c n) (Ev.yes (decide_eq_true h0) (Ev.pure _)), Int.le_refl _, fun h => by omega, h⟩
  · have hn : 0 < n := by omega
    by_cases h1 : n ≤ 256
    · obtain ⟨y, c', e, a1, a2, a3⟩ := l01Byte_ev c h
      have hb := tmod_bound a1 hn
      exact ⟨_, _, Ev.step (fun k => s_l01Below_eq k c n) (Ev.no (decide_eq_false h0) (Ev.yes (decide_eq_true h1) (Ev.bind e (Ev.yes (by simp; omega) (Ev.pure _))))), hb.1, fun _ => hb.2, a3⟩
    · obtain ⟨y, c1, e, a1, a2, a3⟩ := l01Byte_ev c h
      obtain ⟨z, c2, f, b1, b2, b3⟩ := l01Byte_ev c1 a3
      obtain ⟨u, c3, g, d1, d2, d3⟩ := l01Byte_ev c2 b3
      obtain ⟨v, c4, i, f1, f2, f3⟩ := l01Byte_ev c3 d3
      have w1 : IntKind.i64.wrap (y * (16777216 : Int)) = y * 16777216 := wrap_id (by omega) (by omega)
      have w2 : IntKind.i64.wrap (z * (65536 : Int)) = z * 65536 := wrap_id (by omega) (by omega)
      have w3 : IntKind.i64.wrap (u * (256 : Int)) = u * 256 := wrap_id (by omega) (by omega)
      have hnn : 0 ≤ IntKind.i64.wrap ((IntKind.i64.wrap ((IntKind.i64.wrap ((IntKind.i64.wrap (y * (16777216 : Int))) + (IntKind.i64.wrap (z * (65536 : Int))))) + (IntKind.i64.wrap (u * (256 : Int))))) + v) := by
        rw [w1, w2, w3, wrap_id (x := y * 16777216 + z * 65536) (by omega) (by omega), wrap_id (x := y * 16777216 + z * 65536 + u * 256) (by omega) (by omega), wrap_id (by omega) (by omega)]
        omega
      have hb := tmod_bound hnn hn
      exact ⟨_, _, Ev.step (fun k => s_l01Below_eq k c n) (Ev.no (decide_eq_false h0) (Ev.no (decide_eq_false h1) (Ev.bind e (Ev.bind f (Ev.bind g (Ev.bind i (Ev.yes (by simp; omega) (Ev.pure _)))))))), hb.1, fun _ => hb.2, f3⟩
theorem l01Once_ev (c : Cur) (h : CurOk c) (n : Int) : ∃ (b : Bool) (c' : Cur), Ev (fun k => s_l01Once k (c, n)) (b, c') ∧ CurOk c' := by
  obtain ⟨y, c', e, _, _, a3⟩ := l01Below_ev c h n
  exact ⟨_, _, Ev.step (fun k => s_l01Once_eq k c n) (Ev.bind e (Ev.pure _)), a3⟩
theorem l01New_l3_ev (code : List Int) (hm : code.length ≤ 9223372036854775807) : ∀ (r : List Int) (i : Nat) (h : Int), code.drop i = r → ∃ h' : Int, Ev (fun k => s_l01New_l3 k code h (i : Int)) (code, ((0 : Int), h'))
  | [], i, h, hr => by
    have a := at_nil hr
    exact ⟨h, Ev.step (fun k => s_l01New_l3_eq k _ _ _) (Ev.no a.g (Ev.pure _))⟩
  | x :: r, i, h, hr => by
    have a := at_cons hr (by rw [maxLen_eq]; exact hm)
    by_cases h4 : (i : Int) < 4000
    · obtain ⟨h', ih⟩ := l01New_l3_ev code hm r (i + 1) _ a.next
      refine ⟨h', Ev.step (fun k => s_l01New_l3_eq k _ _ _) (Ev.yes a.g (Ev.yes (decide_eq_true h4) (Ev.yes a.z (Ev.yes a.g ?_))))⟩
      rw [a.w]
      exact ih
    · exact ⟨h, Ev.step (fun k => s_l01New_l3_eq k _ _ _) (Ev.yes a.g (Ev.no (decide_eq_false h4) (Ev.pure _)))⟩
theorem l01New_ev (code : List Int) (hm : code.length ≤ 9223372036854775807) : ∃ c : Cur, Ev (fun k => s_l01New k code) c ∧ CurOk c := by
  obtain ⟨h', e⟩ := l01New_l3_ev code hm _ 0 (IntKind.i64.wrap ((2070 : Int) + (code.length : Int))) rfl
  exact ⟨_, Ev.step (fun k => s_l01New_eq k code) e, hm, Int.le_refl _, by simp⟩
theorem l23New_l3_ev (n : Int) (hn : n ≤ 1000000) : ∀ (m : Nat) (i : Int) (c : Cur), 0 ≤ i → n ≤ i + m → CurOk c → ∃ c' : Cur, Ev (fun k => s_l23New_l3 k n i c.1 c.2.1 c.2.2) c' ∧ CurOk c'
  | 0, i, c, h0, hm, hc => ⟨c, Ev.step (fun k => s_l23New_l3_eq k _ _ _ _ _) (Ev.no (decide_eq_false (by omega)) (Ev.pure _)), hc⟩
  | m + 1, i, c, h0, hm, hc => by
    by_cases h : i < n
    · obtain ⟨y, c1, e, _, _, a3⟩ := l01Byte_ev c hc
      obtain ⟨c2, e2, hc2⟩ := l23New_l3_ev n hn m (i + 1) c1 (by omega) (by omega) a3
      refine ⟨c2, Ev.step (fun k => s_l23New_l3_eq k _ _ _ _ _) (Ev.yes (decide_eq_true h) (Ev.bind e ?_)), hc2⟩
      rw [wrap_id (by omega) (by omega)]
      exact e2
    · exact ⟨c, Ev.step (fun k => s_l23New_l3_eq k _ _ _ _ _) (Ev.no (decide_eq_false h) (Ev.pure _)), hc⟩
theorem l23New_ev (code : List Int) (hm : code.length ≤ 9223372036854775807) (n : Int) (hn : n ≤ 1000000) : ∃ c : Cur, Ev (fun k => s_l23New k (code, n)) c ∧ CurOk c := by
  obtain ⟨c, e, hc⟩ := l01New_ev code hm
  obtain ⟨c2, e2, hc2⟩ := l23New_l3_ev n hn n.toNat 0 c (by omega) (by omega) hc
  exact ⟨c2, Ev.step (fun k => s_l23New_eq k code n) (Ev.bind e e2), hc2⟩
theorem MakeNum_ev (code : List Int) (hm : code.length ≤ 9223372036854775807) (n : Int) (hn : n ≤ 1000000) : ∃ y : Int, Ev (fun k => s_MakeNum k (code, n)) y ∧ 0 ≤ y ∧ y ≤ 65535 := by
  obtain ⟨c, e, hc⟩ := l23New_ev code hm n hn
  obtain ⟨y, c1, e1, a1, a2, a3⟩ := l01Byte_ev c hc
  obtain ⟨z, c2, e2, b1, b2, b3⟩ := l01Byte_ev c1 a3
  refine ⟨y * 256 + z, Ev.step (fun k => s_MakeNum_eq k code n) (Ev.bind e (Ev.bind e1 (Ev.bind e2 (Ev.some ?_)))), by omega, by omega⟩
  rw [wrap_id (x := y * 256) (by omega) (by omega), wrap_id (by omega) (by omega)]
end Qq
namespace Qq
open Go Go.Vt Pt
set_option linter.unusedVariables false
set_option linter.unusedSimpArgs false
theorem l01In_ev (x lo hi : Int) : Ev (fun k => s_l01In k (x, lo, hi)) (decide (lo ≤ x) && decide (x ≤ hi)) := by
  refine Ev.step (fun k => s_l01In_eq k x lo hi) (Ev.ite (fun h => ?_) (fun h => ?_))
  · have h' : lo ≤ x := by simpa using h
    exact Ev.some (by simp [h'])
  · have h' : ¬ lo ≤ x := by simpa using h
    exact Ev.some (by simp [h'])
end Qq
namespace Qq
open Go Go.Vt Pt
set_option linter.unusedVariables false
set_option linter.unusedSimpArgs false
end Qq
namespace Qq
open Go Go.Vt Pt
set_option linter.unusedVariables false
set_option linter.unusedSimpArgs false
theorem take_next {α : Type} {xs : List α} {i : Nat} {y : α} {r : List α} (h : xs.drop i = y :: r) : xs.take (i + 1) = xs.take i ++ [y] := by
  have lt : i < xs.length := by
    rcases Nat.lt_or_ge i xs.length with h1 | h1
    · exact h1
    · rw [List.drop_eq_nil_of_le h1] at h; cases h
  rw [List.drop_eq_getElem_cons lt] at h
  rw [List.take_succ_eq_append_getElem lt]
  injection h with h1 h2
  rw [h1]
theorem nodup_len : ∀ (n : Nat) (l : List Int), l.Nodup → (∀ x ∈ l, 0 ≤ x ∧ x < (n : Int)) → l.length ≤ n
  | 0, l, _, h => by
    cases l with
    | nil => simp
    | cons x l => have := h x (by simp); omega
  | n + 1, l, hd, h => by
    have h1 := nodup_len n (l.erase (n : Int)) (hd.erase _) (fun x hx => by
      have hx' := (hd.mem_erase_iff).1 hx
      have := h x hx'.2
      have : x ≠ (n : Int) := hx'.1
      omega)
    have h2 := List.length_erase (a := (n : Int)) (l := l)
    split at h2 <;> omega
end Qq
namespace Qq
open Go Go.Vt Pt
set_option linter.unusedVariables false
set_option linter.unusedSimpArgs false
def card (x : Int) : Int := if 0 ≤ x ∧ x ≤ 11 then x else if -12 ≤ x ∧ x ≤ -1 then -1 - x else -1
theorem card_lt (x : Int) : -1 ≤ card x ∧ card x ≤ 11 := by unfold card; split; · omega
                                                            split <;> omega
theorem s_CardOf_ev (x : Int) : Ev (fun k => s_CardOf k x) (card x) := by
  refine Ev.step (fun k => s_CardOf_eq k x) (Ev.bind (l01In_ev _ _ _) (Ev.ite (fun h => Ev.some ?_) (fun h => Ev.bind (l01In_ev _ _ _) (Ev.ite (fun h' => ?_) (fun h' => Ev.some ?_)))))
  · have : 0 ≤ x ∧ x ≤ 11 := by simpa using h
    simp [card, this]
  · have h1 : ¬ (0 ≤ x ∧ x ≤ 11) := by simp at h; omega
    have h2 : -12 ≤ x ∧ x ≤ -1 := by simpa using h'
    rw [wrap_id (by omega) (by omega)]
    exact Ev.some (by unfold card; rw [if_neg h1, if_pos h2])
  · have h1 : ¬ (0 ≤ x ∧ x ≤ 11) := by simp at h; omega
    have h2 : ¬ (-12 ≤ x ∧ x ≤ -1) := by simp at h'; omega
    unfold card; rw [if_neg h1, if_neg h2]
theorem i_CardOf_ev (x : Int) (hx : In x) : Ev (fun k => i_CardOf k x) (card x) := by
  obtain ⟨a, b⟩ := hx
  refine Ev.step (fun k => i_CardOf_eq k x) ?_
  refine Ev.ite (fun h => ?_) (fun h => ?_)
  · have h1 : x < 0 := by simpa using h
    rw [wrap_id (by omega) (by omega)]
    have h2 : ¬ (0 ≤ x ∧ x ≤ 11) := by omega
    refine Ev.ite (fun h' => Ev.some ?_) (fun h' => Ev.some ?_)
    · have h3 : ¬ (-12 ≤ x ∧ x ≤ -1) := by simp at h'; omega
      unfold card; rw [if_neg h2, if_neg h3]
    · have h3 : (-12 ≤ x ∧ x ≤ -1) := by simp at h'; omega
      unfold card; rw [if_neg h2, if_pos h3]
  · have h1 : ¬ x < 0 := by simpa using h
    have h3 : ¬ (-12 ≤ x ∧ x ≤ -1) := by omega
    refine Ev.ite (fun h' => Ev.some ?_) (fun h' => Ev.some ?_)
    · have h2 : ¬ (0 ≤ x ∧ x ≤ 11) := by simp at h'; omega
      unfold card; rw [if_neg h2, if_neg h3]
    · have h2 : (0 ≤ x ∧ x ≤ 11) := by simp at h'; omega
      unfold card; rw [if_pos h2]
def pk : List Int → List Int → Bool
  | _, [] => true
  | done, x :: r => decide (0 ≤ card x) && (!(done.contains (card x)) && pk (done ++ [card x]) r)
def packetOk (p : List Int) : Bool := pk [] p
theorem pk_nodup : ∀ (r done : List Int), done.Nodup → pk done r = true → (done ++ r.map card).Nodup ∧ ∀ x ∈ r, 0 ≤ card x
  | [], done, hd, h => by simp [hd]
  | x :: r, done, hd, h => by
    unfold pk at h
    simp only [Bool.and_eq_true, decide_eq_true_eq, Bool.not_eq_true'] at h
    obtain ⟨h1, h3, h4⟩ := h
    have hx : card x ∉ done := by simpa using h3
    obtain ⟨k1, k2⟩ := pk_nodup r (done ++ [card x]) (by
      rw [List.nodup_append]
      exact ⟨hd, by simp, fun a ha b hb e => by simp at hb; subst hb; subst e; exact hx ha⟩) h4
    refine ⟨by simpa using k1, fun y hy => ?_⟩
    rcases List.mem_cons.1 hy with rfl | hy
    · exact h1
    · exact k2 y hy
theorem packetOk_fit {p : List Int} (h : packetOk p = true) : (p.map card).Nodup ∧ (∀ x ∈ p, 0 ≤ card x ∧ card x ≤ 11) ∧ p.length ≤ 12 := by
  obtain ⟨k1, k2⟩ := pk_nodup p [] (by simp) h
  have k1' : (p.map card).Nodup := by simpa using k1
  have k3 := nodup_len 12 (p.map card) k1' (fun x hx => by
    obtain ⟨y, hy, rfl⟩ := List.mem_map.1 hx
    have := k2 y hy
    have := card_lt y
    omega)
  exact ⟨k1', fun x hx => ⟨k2 x hx, (card_lt x).2⟩, by simpa using k3⟩
/-- The cards that were met. -/
def metL (done : List Int) : List Bool := (List.range 12).map fun (c : Nat) => done.contains (c : Int)
theorem metL_len (done : List Int) : (metL done).length = 12 := by simp [metL]
theorem metL_get (done : List Int) (c : Nat) (h : c < 12) (d : Bool) : (metL done).getD c d = done.contains (c : Int) := by
  simp [metL, List.getD, h]
theorem metL_set (done : List Int) (c : Nat) (h : c < 12) : (metL done).set c true = metL (done ++ [(c : Int)]) := by
  apply List.ext_getElem?
  intro x
  rw [List.getElem?_set]
  by_cases hx : x < 12
  · by_cases e : c = x
    · subst e; simp [metL, h]
    · have : ¬ x = c := fun h => e h.symm
      simp [metL, hx, e, this]; intro h; omega
  · rw [if_neg (by omega), List.getElem?_eq_none (by rw [metL_len]; omega), List.getElem?_eq_none (by rw [metL_len]; omega)]
theorem i_PacketOk_l3_ev (xs : List Int) (hm : xs.length ≤ maxLen) (hi : Ins xs) : ∀ (r : List Int) (i : Nat) (done : List Int), xs.drop i = r → Ev (fun k => i_PacketOk_l3 k xs (xs.length : Int) (i : Int) (metL done)) (pk done r)
  | [], i, done, h => by
    have a := at_nil h
    refine Ev.step (fun k => i_PacketOk_l3_eq k _ _ _ _) ?_
    simp only [a.g, cond_false]
    exact Ev.pure _
  | x :: r, i, done, h => by
    have a := at_cons h hm
    refine Ev.step (fun k => i_PacketOk_l3_eq k _ _ _ _) ?_
    simp only [a.g, a.z, a.get, a.w, cond_true]
    unfold pk
    refine Ev.bind (i_CardOf_ev x (hi x a.mem)) (Ev.ite (fun c => Ev.some ?_) (fun c => ?_))
    · have : ¬ 0 ≤ card x := by simpa using c
      simp [this]
    · have hc : 0 ≤ card x := by simpa using c
      have hc2 := (card_lt x).2
      have en : card x = ((card x).toNat : Int) := by omega
      have g1 : decide (0 ≤ card x) = true := by simp [hc]
      have g2 : decide (card x < ((metL done).length : Int)) = true := by rw [metL_len]; simp; omega
      have g3 : decide ((card x).toNat < (metL done).length) = true := by rw [metL_len]; simp; omega
      have g4 : (Nat.beq (metL done).length 12 && true) = true := by rw [metL_len]; rfl
      have g5 := metL_get done (card x).toNat (by omega) false
      rw [← en] at g5
      have g6 := metL_set done (card x).toNat (by omega)
      rw [← en] at g6
      simp only [g1, g2, g3, g4, g5, g6, cond_true, Bool.true_and]
      refine Ev.ite (fun c2 => Ev.some ?_) (fun c2 => ?_)
      · rw [c2]; rfl
      · rw [c2]
        exact i_PacketOk_l3_ev xs hm hi r (i + 1) _ a.next
theorem i_PacketOk_ev (p : List Int) (hm : p.length ≤ maxLen) (hi : Ins p) : Ev (fun k => i_PacketOk k p) (packetOk p) :=
  Ev.step (fun k => i_PacketOk_eq k p) (i_PacketOk_l3_ev p hm hi p 0 [] rfl)
def posF (c : Int) : Nat → List Int → Int
  | _, [] => -1
  | i, y :: r => if card y = c then (i : Int) else posF c (i + 1) r
/-- Where a card lies, or -1. -/
def pos (p : List Int) (c : Int) : Int := if c < 0 then -1 else posF c 0 p
theorem i_PosFunc_l2_ev (c : Int) (xs : List Int) (hm : xs.length ≤ maxLen) (hi : Ins xs) : ∀ (r : List Int) (i : Nat), xs.drop i = r → Ev (fun k => slices_IndexFunc_int_of_i_PositionOf_1_l2 k xs c (xs.length : Int) (i : Int)) (posF c i r)
  | [], i, h => by
    have a := at_nil h
    refine Ev.step (fun k => slices_IndexFunc_int_of_i_PositionOf_1_l2_eq k _ _ _ _) ?_
    simp only [a.g, cond_false]
    exact Ev.pure _
  | x :: r, i, h => by
    have a := at_cons h hm
    have ih := i_PosFunc_l2_ev c xs hm hi r (i + 1) a.next
    refine Ev.step (fun k => slices_IndexFunc_int_of_i_PositionOf_1_l2_eq k _ _ _ _) ?_
    simp only [a.g, a.z, a.get, a.w, cond_true]
    unfold posF
    have h1 : Ev (fun k => i_PositionOf_1 k (x, c)) (card x == c) := Ev.step (fun k => i_PositionOf_1_eq k x c) (Ev.bind (i_CardOf_ev x (hi x a.mem)) (Ev.pure _))
    refine Ev.bind h1 (Ev.ite (fun h => Ev.some ?_) (fun h => ih.to ?_))
    · have : card x = c := by simpa using h
      rw [if_pos this]
    · have : ¬ card x = c := by simpa using h
      rw [if_neg this]
theorem i_PositionOf_ev (p : List Int) (c : Int) (hm : p.length ≤ maxLen) (hi : Ins p) : Ev (fun k => i_PositionOf k (p, c)) (pos p c) := by
  refine Ev.step (fun k => i_PositionOf_eq k p c) ?_
  unfold pos
  refine Ev.ite (fun h => Ev.some ?_) (fun h => Ev.bind (Ev.step (fun k => slices_IndexFunc_int_of_i_PositionOf_1_eq k p c) (i_PosFunc_l2_ev c p hm hi p 0 rfl)) (Ev.some ?_))
  · have : c < 0 := by simpa using h
    rw [if_pos this]
  · have : ¬ c < 0 := by simpa using h
    rw [if_neg this]
def isArr (p q : List Int) : Bool := packetOk p && (packetOk q && (p.length == q.length && p.all fun x => decide (0 ≤ pos q (card x))))
def noPos (q : List Int) : Nat → List Int → Int
  | _, [] => -1
  | i, x :: r => if pos q (card x) < 0 then (i : Int) else noPos q (i + 1) r
theorem noPos_all (q : List Int) : ∀ (r : List Int) (i : Nat), (!(decide (noPos q i r ≥ 0))) = r.all fun x => decide (0 ≤ pos q (card x))
  | [], i => by simp [noPos]
  | x :: r, i => by
    unfold noPos
    by_cases h : pos q (card x) < 0
    · rw [if_pos h]
      have : ¬ 0 ≤ pos q (card x) := by omega
      simp [this]
    · rw [if_neg h, noPos_all q r (i + 1)]
      have : 0 ≤ pos q (card x) := by omega
      simp [this]
theorem i_ArrFunc_l2_ev (q xs : List Int) (hm : xs.length ≤ maxLen) (hi : Ins xs) (hq : q.length ≤ maxLen) (hiq : Ins q) : ∀ (r : List Int) (i : Nat), xs.drop i = r → Ev (fun k => slices_IndexFunc_int_of_i_IsArrangement_1_l2 k xs q (xs.length : Int) (i : Int)) (noPos q i r)
  | [], i, h => by
    have a := at_nil h
    refine Ev.step (fun k => slices_IndexFunc_int_of_i_IsArrangement_1_l2_eq k _ _ _ _) ?_
    simp only [a.g, cond_false]
    exact Ev.pure _
  | x :: r, i, h => by
    have a := at_cons h hm
    have ih := i_ArrFunc_l2_ev q xs hm hi hq hiq r (i + 1) a.next
    refine Ev.step (fun k => slices_IndexFunc_int_of_i_IsArrangement_1_l2_eq k _ _ _ _) ?_
    simp only [a.g, a.z, a.get, a.w, cond_true]
    unfold noPos
    have h1 : Ev (fun k => i_IsArrangement_1 k (x, q)) (decide (pos q (card x) < 0)) := Ev.step (fun k => i_IsArrangement_1_eq k x q) (Ev.bind (i_CardOf_ev x (hi x a.mem)) (Ev.bind (i_PositionOf_ev q _ hq hiq) (Ev.pure _)))
    refine Ev.bind h1 (Ev.ite (fun h => Ev.some ?_) (fun h => ih.to ?_))
    · have : pos q (card x) < 0 := by simpa using h
      rw [if_pos this]
    · have : ¬ pos q (card x) < 0 := by simpa using h
      rw [if_neg this]
theorem i_IsArrangement_ev (p q : List Int) (hp : p.length ≤ maxLen) (hip : Ins p) (hq : q.length ≤ maxLen) (hiq : Ins q) : Ev (fun k => i_IsArrangement k (p, q)) (isArr p q) := by
  unfold isArr
  refine Ev.step (fun k => i_IsArrangement_eq k p q) (Ev.bind (i_PacketOk_ev p hp hip) (Ev.ite (fun h => Ev.some ?_) (fun h => Ev.bind (i_PacketOk_ev q hq hiq) (Ev.ite (fun h2 => Ev.some ?_) (fun h2 => Ev.ite (fun h3 => Ev.some ?_) (fun h3 => ?_))))))
  · have : packetOk p = false := by simpa using h
    rw [this]; rfl
  · have : packetOk q = false := by simpa using h2
    rw [this]; simp
  · have : (p.length == q.length) = false := by simp at h3 ⊢; omega
    rw [this]; simp
  · have e1 : packetOk p = true := by simpa using h
    have e2 : packetOk q = true := by simpa using h2
    have e3 : (p.length == q.length) = true := by simp at h3 ⊢; omega
    rw [e1, e2, e3, ← noPos_all q p 0]
    exact Ev.bind (Ev.step (fun k => slices_ContainsFunc_int_of_i_IsArrangement_1_eq k p q) (Ev.bind (Ev.step (fun k => slices_IndexFunc_int_of_i_IsArrangement_1_eq k p q) (i_ArrFunc_l2_ev q p hp hip hq hiq p 0 rfl)) (Ev.pure _))) (Ev.some (by simp))
end Qq
namespace Qq
open Go Go.Vt Pt
set_option linter.unusedVariables false
set_option linter.unusedSimpArgs false
def bits : Nat → Nat → List Bool
  | 0, _ => []
  | n + 1, w => (w % 2 == 1) :: bits n (w / 2)
/-- A bit, as the program takes it. -/
theorem bit_wrap (w i : Nat) (hi : i < 64) (hw : w < 9223372036854775808) : IntKind.i64.wrap (((BitVec.ofInt IntKind.i64.bits (((w : Int)).fdiv (2 ^ (min ((i : Int)).toNat IntKind.i64.bits))) &&& BitVec.ofInt IntKind.i64.bits (1 : Int)).toNat : Int)) = ((w / 2 ^ i % 2 : Nat) : Int) := by
  have hb : IntKind.i64.bits = 64 := by decide
  rw [hb, Int.toNat_natCast, Nat.min_eq_left (by omega)]
  have e1 : ((w : Int)).fdiv (2 ^ i) = ((w / 2 ^ i : Nat) : Int) := by
    rw [Int.fdiv_eq_ediv_of_nonneg _ (by exact Int.le_of_lt (Int.pow_pos (by decide)))]
    norm_cast
  have e2 : (BitVec.ofInt 64 ((w / 2 ^ i : Nat) : Int) &&& BitVec.ofInt 64 (1 : Int)).toNat = w / 2 ^ i % 2 := by
    have h1 : (1 : Int) = ((1 : Nat) : Int) := rfl
    rw [h1, BitVec.ofInt_natCast, BitVec.ofInt_natCast, BitVec.toNat_and, BitVec.toNat_ofNat, BitVec.toNat_ofNat]
    have hlt : w / 2 ^ i < 2 ^ 64 := by
      have := Nat.div_le_self w (2 ^ i)
      omega
    rw [Nat.mod_eq_of_lt hlt]
    exact Nat.and_one_is_mod _
  rw [e1, e2, wrap_id (by omega) (by omega)]
def upTo (n : Nat) : List Int := (List.range n).map fun (i : Nat) => (i : Int)
theorem upTo_len (n : Nat) : (upTo n).length = n := by simp [upTo]
theorem upTo_succ (n : Nat) : upTo (n + 1) = upTo n ++ [(n : Int)] := by simp [upTo, List.range_succ]
end Qq
namespace Qq
open Go Go.Vt Pt
set_option linter.unusedVariables false
set_option linter.unusedSimpArgs false
theorem l02Shuffle_l3_ev (n : Nat) (hn : n ≤ 12) : ∀ (m i : Nat) (out : List Int) (c : Cur), i + m = n → out.length = i → out.Perm (upTo i) → CurOk c →
    ∃ (p : List Int) (c' : Cur), Ev (fun k => s_l02Shuffle_l3 k (n : Int) (i : Int) out c.1 c.2.1 c.2.2) (p, c') ∧ p.Perm (upTo n) ∧ CurOk c'
  | 0, i, out, c, h, hl, hp, hc => by
    have hi : i = n := by omega
    subst hi
    exact ⟨out, c, Ev.step (fun k => s_l02Shuffle_l3_eq k _ _ _ _ _ _) (Ev.no (decide_eq_false (by omega)) (Ev.pure _)), hp, hc⟩
  | m + 1, i, out, c, h, hl, hp, hc => by
    have hw : IntKind.i64.wrap ((i : Int) + (1 : Int)) = ((i + 1 : Nat) : Int) := by rw [wrap_id (by omega) (by omega)]; simp
    obtain ⟨y, c1, e, a1, a2, a3⟩ := l01Below_ev c hc ((i + 1 : Nat) : Int)
    have hy := a2 (by omega)
    obtain ⟨j, rfl⟩ : ∃ j : Nat, y = (j : Int) := ⟨y.toNat, by omega⟩
    have hj : j < i + 1 := by omega
    have hvl : (out ++ [(i : Int)]).length = i + 1 := by simp [hl]
    have hi' : i < (out ++ [(i : Int)]).length := by omega
    have hj' : j < (out ++ [(i : Int)]).length := by omega
    have hvi : (out ++ [(i : Int)])[i] = (i : Int) := by rw [List.getElem_append_right (by omega)]; simp
    have hgd : (out ++ [(i : Int)]).getD j 0 = (out ++ [(i : Int)])[j] := by rw [List.getD, List.getElem?_eq_getElem hj']; rfl
    have hperm := List.set_set_perm hi' hj'
    rw [hvi] at hperm
    have hperm2 : (((out ++ [(i : Int)]).set i ((out ++ [(i : Int)]).getD j 0)).set j (i : Int)).Perm (upTo (i + 1)) := by
      rw [hgd, upTo_succ]
      exact hperm.trans (hp.append_right _)
    obtain ⟨p, c2, e2, b1, b2⟩ := l02Shuffle_l3_ev n hn m (i + 1) _ c1 (by omega) (by simp [hl]) hperm2 a3
    refine ⟨p, c2, Ev.step (fun k => s_l02Shuffle_l3_eq k _ _ _ _ _ _) (Ev.yes (decide_eq_true (by omega)) ?_), b1, b2⟩
    rw [hw]
    refine Ev.bind e ?_
    simp only [Int.toNat_natCast]
    refine Ev.yes (by rw [rowMax_eq]; simp; omega) (Ev.yes (by simp) (Ev.yes (by rw [hvl]; simp; omega) (Ev.yes (by rw [hvl]; simp; omega) (Ev.yes (by simp) (Ev.yes (by rw [hvl]; simp; omega) (Ev.yes (by rw [hvl]; simp) (Ev.yes (by simp) (Ev.yes (by simp [hl]; omega) (Ev.yes (by simp [hl]; omega) e2)))))))))
theorem l02Shuffle_ev (c : Cur) (hc : CurOk c) (n : Nat) (hn : n ≤ 12) : ∃ (p : List Int) (c' : Cur), Ev (fun k => s_l02Shuffle k (c, (n : Int))) (p, c') ∧ p.Perm (upTo n) ∧ CurOk c' := by
  obtain ⟨p, c', e, h1, h2⟩ := l02Shuffle_l3_ev n hn n 0 [] c (by omega) rfl (by simp [upTo]) hc
  exact ⟨p, c', Ev.step (fun k => s_l02Shuffle_eq k _ _) e, h1, h2⟩
theorem pk_ofC : ∀ (r done : List Int), (done ++ r.map card).Nodup → (∀ x ∈ r, 0 ≤ card x) → pk done r = true
  | [], done, _, _ => rfl
  | x :: r, done, hn, h0 => by
    unfold pk
    have hx : card x ∉ done := fun hm => by
      rw [List.map_cons, List.nodup_append] at hn
      exact hn.2.2 _ hm _ (by simp) rfl
    have hc : done.contains (card x) = false := by simpa using hx
    rw [hc, pk_ofC r (done ++ [card x]) (by simpa using hn) (fun y hy => h0 y (List.mem_cons_of_mem _ hy))]
    simp [h0 x (by simp)]
theorem packetOk_of {p : List Int} (hn : (p.map card).Nodup) (h0 : ∀ x ∈ p, 0 ≤ card x) : packetOk p = true := pk_ofC p [] (by simpa using hn) h0
/-- A packet on the way: its cards, turned or not. -/
structure PkI (q p : List Int) : Prop where
  m : p.map card = q
  b : ∀ x ∈ p, -12 ≤ x ∧ x ≤ 11
theorem card_flip {x : Int} (h1 : -12 ≤ x) (h2 : x ≤ 11) : card (-1 - x) = card x := by
  unfold card
  by_cases h : 0 ≤ x
  · rw [if_neg (by omega), if_pos (by omega), if_pos (by omega)]; omega
  · rw [if_pos (by omega), if_neg (by omega), if_pos (by omega)]
theorem PkI.flip {q p : List Int} (h : PkI q p) {i : Nat} (hi : i < p.length) : PkI q (p.set i (-1 - p.getD i 0)) := by
  have hg : p.getD i 0 = p[i] := by rw [List.getD, List.getElem?_eq_getElem hi]; rfl
  have hb := h.b p[i] (List.getElem_mem hi)
  refine ⟨?_, fun x hx => ?_⟩
  · rw [hg, List.map_set, card_flip hb.1 hb.2, ← h.m]
    have : card p[i] = (p.map card)[i]'(by simpa using hi) := by simp
    rw [this, List.set_getElem_self]
  · rcases List.mem_or_eq_of_mem_set hx with h1 | h1
    · exact h.b x h1
    · rw [h1, hg]; omega
theorem l02Draw_l4_ev (q : List Int) (n : Nat) (hn : n ≤ 12) : ∀ (m i : Nat) (p : List Int) (c : Cur), i + m = n → p.length = n → PkI q p → CurOk c →
    ∃ (p' : List Int) (c' : Cur), Ev (fun k => s_l02Draw_l4 k (n : Int) (i : Int) p c.1 c.2.1 c.2.2) (p', c') ∧ PkI q p' ∧ p'.length = n ∧ CurOk c'
  | 0, i, p, c, h, hl, hp, hc => by
    exact ⟨p, c, Ev.step (fun k => s_l02Draw_l4_eq k _ _ _ _ _ _) (Ev.no (decide_eq_false (by omega)) (Ev.pure _)), hp, hl, hc⟩
  | m + 1, i, p, c, h, hl, hp, hc => by
    have hw : IntKind.i64.wrap ((i : Int) + (1 : Int)) = ((i + 1 : Nat) : Int) := by rw [wrap_id (by omega) (by omega)]; simp
    obtain ⟨b, c1, e, a3⟩ := l01Once_ev c hc 3
    have hi : i < p.length := by omega
    cases b with
    | true =>
      have hf := hp.flip hi
      have hg : p.getD i 0 = p[i] := by rw [List.getD, List.getElem?_eq_getElem hi]; rfl
      have hb := hp.b p[i] (List.getElem_mem hi)
      obtain ⟨p', c2, e2, b1, b2, b3⟩ := l02Draw_l4_ev q n hn m (i + 1) _ c1 (by omega) (by simpa using hl) hf a3
      refine ⟨p', c2, Ev.step (fun k => s_l02Draw_l4_eq k _ _ _ _ _ _) (Ev.yes (decide_eq_true (by omega)) (Ev.bind e ?_)), b1, b2, b3⟩
      simp only [Int.toNat_natCast]
      have hw2 : IntKind.i64.wrap ((-1 : Int) - p.getD i 0) = -1 - p.getD i 0 := by rw [hg]; exact wrap_id (by omega) (by omega)
      rw [hw, hw2]
      exact Ev.yes rfl (Ev.yes (by simp) (Ev.yes (by simp; omega) (Ev.yes (by simp; omega) (Ev.yes (by simp) (Ev.yes (by simp; omega) (Ev.yes (by simp; omega) e2))))))
    | false =>
      obtain ⟨p', c2, e2, b1, b2, b3⟩ := l02Draw_l4_ev q n hn m (i + 1) p c1 (by omega) hl hp a3
      refine ⟨p', c2, Ev.step (fun k => s_l02Draw_l4_eq k _ _ _ _ _ _) (Ev.yes (decide_eq_true (by omega)) (Ev.bind e ?_)), b1, b2, b3⟩
      rw [hw]
      exact Ev.no rfl e2
theorem upTo_mem {n : Nat} {x : Int} (h : x ∈ upTo n) : 0 ≤ x ∧ x < n := by
  unfold upTo at h
  obtain ⟨i, hi, rfl⟩ := List.mem_map.1 h
  have := List.mem_range.1 hi
  omega
theorem upTo_nodup (n : Nat) : (upTo n).Nodup := by
  unfold upTo
  exact List.Pairwise.map _ (fun a b h e => h (by omega)) List.nodup_range
theorem perm_PkI {n : Nat} (hn : n ≤ 12) {p : List Int} (h : p.Perm (upTo n)) : PkI p p := by
  have hb : ∀ x ∈ p, 0 ≤ x ∧ x ≤ 11 := fun x hx => by have := upTo_mem (h.mem_iff.1 hx); omega
  refine ⟨?_, fun x hx => by have := hb x hx; omega⟩
  conv => rhs; rw [← List.map_id p]
  exact List.map_congr_left fun x hx => by unfold card; rw [if_pos (hb x hx)]; rfl
/-- What is drawn: a valid packet, not empty. -/
structure Drawn (most : Nat) (p : List Int) : Prop where
  ok : packetOk p = true
  pos : 1 ≤ p.length
  le : p.length ≤ most
theorem l02Draw_ev (c : Cur) (hc : CurOk c) (most : Nat) (h1 : 1 ≤ most) (h12 : most ≤ 12) : ∃ (p : List Int) (c' : Cur), Ev (fun k => s_l02Draw k (c, (most : Int))) (p, c') ∧ Drawn most p ∧ CurOk c' := by
  obtain ⟨y, c1, e1, a1, a2, a3⟩ := l01Below_ev c hc (most : Int)
  have hy := a2 (by omega)
  obtain ⟨j, rfl⟩ : ∃ j : Nat, y = (j : Int) := ⟨y.toNat, by omega⟩
  have hw : IntKind.i64.wrap ((1 : Int) + (j : Int)) = ((j + 1 : Nat) : Int) := by rw [wrap_id (by omega) (by omega)]; omega
  obtain ⟨p, c2, e2, b1, b2⟩ := l02Shuffle_ev c1 a3 (j + 1) (by omega)
  have hl : p.length = j + 1 := by rw [b1.length_eq, upTo_len]
  obtain ⟨b, c3, e3, d3⟩ := l01Once_ev c2 b2 2
  have hI := perm_PkI (by omega) b1
  have hnd : p.Nodup := b1.nodup_iff.2 (upTo_nodup _)
  have h0 : ∀ x ∈ p, 0 ≤ x := fun x hx => (upTo_mem (b1.mem_iff.1 hx)).1
  have fin : ∀ p', PkI p p' → p'.length = j + 1 → Drawn most p' := fun p' hp' hl' => by
    refine ⟨packetOk_of (by rw [hp'.m]; exact hnd) (fun x hx => h0 _ ?_), by omega, by omega⟩
    rw [← hp'.m]; exact List.mem_map_of_mem hx
  cases b with
  | true =>
    obtain ⟨p', c4, e4, f1, f2, f3⟩ := l02Draw_l4_ev p (j + 1) (by omega) (j + 1) 0 p c3 (by omega) hl hI d3
    refine ⟨p', c4, Ev.step (fun k => s_l02Draw_eq k _ _) (Ev.bind e1 ?_), fin p' f1 f2, f3⟩
    dsimp only
    rw [hw]
    refine Ev.bind e2 (Ev.bind e3 (Ev.yes rfl ?_))
    dsimp only
    rw [hl]
    exact e4
  | false =>
    refine ⟨p, c3, Ev.step (fun k => s_l02Draw_eq k _ _) (Ev.bind e1 ?_), fin p hI hl, d3⟩
    dsimp only
    rw [hw]
    exact Ev.bind e2 (Ev.bind e3 (Ev.no rfl (Ev.pure _)))
end Qq
namespace Qq
open Go Go.Vt Pt
set_option linter.unusedVariables false
set_option linter.unusedSimpArgs false
def moveOk (n : Int) (m : Int × Int) : Bool :=
  decide (1 ≤ n) && (decide (n ≤ 12) && (decide (0 ≤ m.2) &&
    (if m.1 = 1 then decide (m.2 ≤ n) else if m.1 = 2 then decide (m.2 ≤ n) else if m.1 = 3 then decide (m.2 ≤ n) else
     if m.1 = 4 then decide (m.2 ≤ 1) else if m.1 = 5 then decide (m.2 ≤ 1) else if m.1 = 7 then decide (m.2 ≤ 1) else
     if m.1 = 6 then m.2 == 0 else if m.1 = 8 then decide (m.2 < n) else if m.1 = 9 then decide (m.2 < n) else false)))
theorem i_MoveOk_ev (n : Int) (m : Int × Int) : Ev (fun k => i_MoveOk k (n, m)) (moveOk n m) := by
  obtain ⟨a, b⟩ := m
  refine Ev.step (fun k => i_MoveOk_eq k n (a, b)) ?_
  unfold moveOk
  refine Ev.ite (fun h => Ev.some ?_) (fun h => ?_)
  · have : ¬ 1 ≤ n := by simpa using h
    simp [this]
  have h1 : 1 ≤ n := by simpa using h
  refine Ev.ite (fun h => Ev.some ?_) (fun h => ?_)
  · have : ¬ n ≤ 12 := by simpa using h
    simp [this]
  have h2 : n ≤ 12 := by simpa using h
  refine Ev.ite (fun h => Ev.some ?_) (fun h => ?_)
  · have : ¬ 0 ≤ b := by simpa using h
    simp [this]
  have h3 : 0 ≤ b := by simpa using h
  clear h
  simp only [h1, h2, h3, decide_true, Bool.true_and]
  iterate 9 (refine Ev.ite (fun h => ?_) (fun h => ?_); · exact Ev.some (by simp at *; simp [*]))
  exact Ev.some (by simp at *; simp [*])
def stepOk (n : Int) (s : Int × (Int × Int) × Int) : Bool :=
  decide (1 ≤ n) && (decide (n ≤ 12) &&
    (if s.1 = 1 then moveOk n s.2.1 && s.2.2 == 0 else
     if s.1 = 2 then s.2.1.1 == 0 && (s.2.1.2 == 0 && (decide (0 ≤ s.2.2) && (decide (s.2.2 ≤ 4) && ((!(s.2.2 == 3) || decide (2 ≤ n)) && (!(s.2.2 == 2) || decide (n ≤ 7)))))) else
     if s.1 = 3 then s.2.1.1 == 0 && (s.2.1.2 == 0 && (decide (0 ≤ s.2.2) && decide (s.2.2 < n))) else false))
theorem i_StepOk_ev (n : Int) (s : Int × (Int × Int) × Int) : Ev (fun k => i_StepOk k (n, s)) (stepOk n s) := by
  obtain ⟨t, ⟨a, b⟩, c⟩ := s
  refine Ev.step (fun k => i_StepOk_eq k n (t, (a, b), c)) ?_
  unfold stepOk
  refine Ev.ite (fun h => Ev.some ?_) (fun h => ?_)
  · have : ¬ 1 ≤ n := by simpa using h
    simp [this]
  have h1 : 1 ≤ n := by simpa using h
  refine Ev.ite (fun h => Ev.some ?_) (fun h => ?_)
  · have : ¬ n ≤ 12 := by simpa using h
    simp [this]
  have h2 : n ≤ 12 := by simpa using h
  clear h
  simp only [h1, h2, decide_true, Bool.true_and]
  refine Ev.ite (fun h => ?_) (fun h => ?_)
  · have e : t = 1 := by simpa using h
    subst e
    exact Ev.bind (i_MoveOk_ev n (a, b)) (Ev.ite (fun h => Ev.some (by simp at *; simp [*])) (fun h => Ev.some (by simp at *; simp [*])))
  have t1 : ¬ t = 1 := by simpa using h
  simp only [t1, if_false]
  repeat (first | (refine Ev.ite (fun h => ?_) (fun h => ?_)) | focus (refine Ev.some ?_; simp_all; done) | focus (refine Ev.some ?_; simp_all; omega) | focus (refine Ev.some ?_; rw [Bool.eq_iff_iff]; simp at *; omega))
end Qq
namespace Qq
open Go Go.Vt Pt
set_option linter.unusedVariables false
set_option linter.unusedSimpArgs false
theorem Clone_int_ev (xs : List Int) (hm : xs.length ≤ 1048576) : Ev (fun k => slices_Clone_int k xs) xs := by
  refine Ev.step (fun k => slices_Clone_int_eq k xs) (Ev.ite (fun h => ?_) (fun h => ?_))
  · exact Ev.yes (by rw [rowMax_eq]; simp; omega) (Ev.some (by simp))
  · have : xs = [] := by simpa using h
    subst this
    exact Ev.both (Ev.pure _) (Ev.yes (by simp) (Ev.some rfl))
end Qq
namespace Qq
open Go Go.Vt Pt
set_option linter.unusedVariables false
set_option linter.unusedSimpArgs false
set_option linter.unnecessarySimpa false
theorem take_all {α : Type} (l : List α) : l.take ((l.length : Int)).toNat = l := by simp
def turn (x : Int) : Int := if card x < 0 then x else -1 - x
theorem in_turn {x : Int} (h : In x) : In (turn x) := by
  unfold turn
  unfold In at *
  split
  · exact h
  · omega
theorem i_TurnCard_ev (x : Int) (hx : In x) : Ev (fun k => i_TurnCard k x) (turn x) := by
  have h1 := hx.1
  have h2 := hx.2
  refine Ev.step (fun k => i_TurnCard_eq k x) (Ev.bind (i_CardOf_ev x hx) ?_)
  rw [wrap_id (by omega) (by omega)]
  refine Ev.ite (fun h => Ev.some ?_) (fun h => Ev.some ?_)
  · have : card x < 0 := by simpa using h
    simp [turn, this]
  · have : ¬ card x < 0 := by simpa using h
    simp only [turn, if_neg this]
def fz : Bool → List Int → List Int → List Int
  | _, [], [] => []
  | f, x :: a, [] => x :: fz (!f) a []
  | f, [], y :: b => y :: fz (!f) [] b
  | true, x :: a, y :: b => x :: fz false a (y :: b)
  | false, x :: a, y :: b => y :: fz true (x :: a) b
termination_by _ a b => a.length + b.length
theorem i_faro_l4_ev : ∀ (n : Nat) (f : Bool) (a b out : List Int), a.length + b.length = n → out.length + n ≤ 12 → Ev (fun k => i_faro_l4 k a b f out) (out ++ fz f a b)
  | 0, f, a, b, out, h, ho => by
    have ea : a = [] := List.length_eq_zero_iff.1 (by omega)
    have eb : b = [] := List.length_eq_zero_iff.1 (by omega)
    subst ea eb
    refine Ev.step (fun k => i_faro_l4_eq k _ _ _ _) (Ev.no (by simp) (Ev.no (by simp) (Ev.some ?_)))
    unfold fz; simp
  | n + 1, f, a, b, out, h, ho => by
    have ih := fun f a b out h1 h2 => i_faro_l4_ev n f a b out h1 h2
    refine Ev.step (fun k => i_faro_l4_eq k _ _ _ _) ?_
    simp only [take_all]
    cases a with
    | nil =>
      cases b with
      | nil => simp at h
      | cons y b =>
        simp at h
        refine Ev.no (by simp) (Ev.yes (by (first | (simp [rowMax_eq]; done) | (simp [rowMax_eq]; omega) | omega)) ?_)
        cases f with
        | true =>
          refine Ev.yes rfl (Ev.no (by simp) ?_)
          (repeat (first | refine Ev.yes (by (first | (simp [rowMax_eq]; done) | (simp [rowMax_eq]; omega) | omega)) ?_ | refine Ev.no (by (first | (simp [rowMax_eq]; done) | (simp [rowMax_eq]; omega) | omega)) ?_))
          refine (ih false [] b (out ++ [y]) (by simp; omega) (by simp; omega)).to ?_
          conv => rhs; unfold fz
          simp
        | false =>
          refine Ev.no rfl (Ev.no (by (first | (simp [rowMax_eq]; done) | (simp [rowMax_eq]; omega) | omega)) ?_)
          (repeat (first | refine Ev.yes (by (first | (simp [rowMax_eq]; done) | (simp [rowMax_eq]; omega) | omega)) ?_ | refine Ev.no (by (first | (simp [rowMax_eq]; done) | (simp [rowMax_eq]; omega) | omega)) ?_))
          refine (ih true [] b (out ++ [y]) (by simp; omega) (by simp; omega)).to ?_
          conv => rhs; unfold fz
          simp
    | cons x a =>
      refine Ev.yes (by (first | (simp [rowMax_eq]; done) | (simp [rowMax_eq]; omega) | omega)) ?_
      cases f with
      | true =>
        refine Ev.yes rfl ?_
        (repeat (first | refine Ev.yes (by (first | (simp [rowMax_eq]; done) | (simp [rowMax_eq]; omega) | omega)) ?_ | refine Ev.no (by (first | (simp [rowMax_eq]; done) | (simp [rowMax_eq]; omega) | omega)) ?_))
        refine (ih false a b (out ++ [x]) (by simp at h ⊢; omega) (by simp; omega)).to ?_
        cases b with
        | nil => conv => rhs; unfold fz
                 simp
        | cons y b => conv => rhs; unfold fz
                      simp
      | false =>
        refine Ev.no rfl ?_
        cases b with
        | nil =>
          simp at h
          refine Ev.yes (by simp) ?_
          (repeat (first | refine Ev.yes (by (first | (simp [rowMax_eq]; done) | (simp [rowMax_eq]; omega) | omega)) ?_ | refine Ev.no (by (first | (simp [rowMax_eq]; done) | (simp [rowMax_eq]; omega) | omega)) ?_))
          refine (ih true a [] (out ++ [x]) (by simp; omega) (by simp; omega)).to ?_
          conv => rhs; unfold fz
          simp
        | cons y b =>
          simp at h
          refine Ev.no (by (first | (simp [rowMax_eq]; done) | (simp [rowMax_eq]; omega) | omega)) ?_
          (repeat (first | refine Ev.yes (by (first | (simp [rowMax_eq]; done) | (simp [rowMax_eq]; omega) | omega)) ?_ | refine Ev.no (by (first | (simp [rowMax_eq]; done) | (simp [rowMax_eq]; omega) | omega)) ?_))
          refine (ih true (x :: a) b (out ++ [y]) (by simp; omega) (by simp; omega)).to ?_
          conv => rhs; unfold fz
          simp
def faroL (p : List Int) (k : Int) : List Int := fz (k == 0) (p.take (p.length / 2)) (p.drop (p.length / 2))
theorem half (n : Nat) (h : n ≤ 4194304) : IntKind.i64.wrap ((n : Int).tdiv 2) = ((n / 2 : Nat) : Int) := by
  have : (n : Int).tdiv 2 = ((n / 2 : Nat) : Int) := by rw [Int.tdiv_eq_ediv_of_nonneg (by omega)]; omega
  rw [this, wrap_id (by omega) (by omega)]
theorem i_faro_ev (p : List Int) (hp : p.length ≤ 12) (k : Int) : Ev (fun f => i_faro f (p, k)) (faroL p k) := by
  refine Ev.step (fun f => i_faro_eq f _ _) ?_
  simp only [half p.length (by omega), take_all, Int.toNat_natCast, List.take_length, List.drop_zero]
  (repeat (first | refine Ev.yes (by (first | (simp [rowMax_eq]; done) | (simp [rowMax_eq]; omega) | omega)) ?_ | refine Ev.no (by (first | (simp [rowMax_eq]; done) | (simp [rowMax_eq]; omega) | omega)) ?_))
  refine (i_faro_l4_ev p.length (k == 0) _ _ [] (by simp; omega) (by simp; omega)).to ?_
  rw [List.nil_append]
  rfl
def mz (k : Int) : Nat → List Int → List Int → List Int
  | _, [], out => out
  | i, x :: r, out => if i = 0 ∨ (i : Int) % 2 = k then mz k (i + 1) r (out ++ [x]) else mz k (i + 1) r (x :: out)
theorem i_monge_l3_ev (p : List Int) (hp : p.length ≤ 12) (k : Int) (hk : k = 0 ∨ k = 1) : ∀ (r : List Int) (i : Nat) (out : List Int), p.drop i = r → out.length = i → Ev (fun f => i_monge_l3 f k p (p.length : Int) (i : Int) out) (mz k i r out)
  | [], i, out, h, ho => by
    have a := at_nil h
    refine Ev.step (fun f => i_monge_l3_eq f _ _ _ _ _) ?_
    simp only [a.g, cond_false]
    exact Ev.pure _
  | x :: r, i, out, h, ho => by
    have a := at_cons h (by rw [maxLen_eq]; omega)
    have hlt := a.lt
    have ih := fun out ho => i_monge_l3_ev p hp k hk r (i + 1) out a.next ho
    refine Ev.step (fun f => i_monge_l3_eq f _ _ _ _ _) ?_
    simp only [a.g, a.z, a.get, a.w, cond_true]
    rw [wrap_id (x := (i : Int) + k) (by omega) (by omega), Int.tmod_eq_emod_of_nonneg (by omega)]
    unfold mz
    refine Ev.ite (fun c => Ev.ite (fun c2 => ?_) (fun c2 => ?_)) (fun c => ?_)
    · have h1 : (i : Int) > 0 := by simpa using c
      have h2 : ((i : Int) + k) % 2 = 1 := by simpa using c2
      rw [if_neg (by rintro (h | h) <;> omega)]
      exact Ev.yes (by (first | (simp [rowMax_eq]; done) | (simp [rowMax_eq]; omega) | omega)) (ih _ (by simp; omega))
    · have h1 : (i : Int) > 0 := by simpa using c
      have h2 : ¬ ((i : Int) + k) % 2 = 1 := by simpa using c2
      rw [if_pos (.inr (by omega))]
      exact Ev.yes (by (first | (simp [rowMax_eq]; done) | (simp [rowMax_eq]; omega) | omega)) (ih _ (by simp; omega))
    · have h1 : ¬ (i : Int) > 0 := by simpa using c
      rw [if_pos (.inl (by omega))]
      exact Ev.yes (by (first | (simp [rowMax_eq]; done) | (simp [rowMax_eq]; omega) | omega)) (ih _ (by simp; omega))
def kz : Nat → List Int → List Int → List Int
  | 0, p, out => p ++ out
  | n + 1, p, out => if 1 < p.length then kz n ((p.take (p.length - 1)).drop 1) (p.getD 0 0 :: p.getD (p.length - 1) 0 :: out) else p ++ out
theorem i_milk_l2_ev : ∀ (n : Nat) (p out : List Int), p.length ≤ n → p.length + out.length ≤ 12 → Ev (fun f => i_milk_l2 f p out) (kz n p out)
  | n, p, out, h, ho => by
    refine Ev.step (fun f => i_milk_l2_eq f _ _) ?_
    by_cases c : 1 < p.length
    · match n, h with
      | 0, h => exact absurd c (by omega)
      | n + 1, h =>
      have e : ((p.length : Int) - 1) = ((p.length - 1 : Nat) : Int) := by omega
      unfold kz
      rw [if_pos c]
      simp only [e, wrap_id (x := ((p.length - 1 : Nat) : Int)) (by omega) (by omega), Int.toNat_natCast]
      refine Ev.yes (by simp; omega) ?_
      (repeat (first | refine Ev.yes (by (first | (simp [rowMax_eq]; done) | (simp [rowMax_eq]; omega) | omega)) ?_ | refine Ev.no (by (first | (simp [rowMax_eq]; done) | (simp [rowMax_eq]; omega) | omega)) ?_))
      exact i_milk_l2_ev n _ _ (by simp; omega) (by simp; omega)
    · have : kz n p out = p ++ out := by cases n <;> simp [kz, c]
      rw [this]
      refine Ev.no (by simp; omega) (Ev.bind (Clone_int_ev p (by omega)) (Ev.yes (by rw [rowMax_eq]; exact decide_eq_true (by omega)) (Ev.some rfl)))
def dz : Nat → Bool → List Int → List Int → List Int
  | 0, _, q, out => q.getD 0 0 :: out
  | n + 1, f, q, out => if 1 < q.length then (bif f then dz n false (q.drop 1) (q.getD 0 0 :: out) else dz n true (q.drop 1 ++ [q.getD 0 0]) out) else q.getD 0 0 :: out
theorem i_dealt_l4_ev : ∀ (n : Nat) (f : Bool) (q out : List Int), 1 ≤ q.length → 2 * q.length + (bif f then 0 else 1) ≤ n → q.length + out.length ≤ 12 →
    ∃ y, Ev (fun k => i_dealt_l4 k f out q) y ∧ y.reverse = dz n f q out.reverse ∧ y.length = q.length + out.length
  | 0, f, q, out, h1, h, ho => by omega
  | n + 1, f, q, out, h1, h, ho => by
    have ih := fun f q out h1 h ho => i_dealt_l4_ev n f q out h1 h ho
    unfold dz
    by_cases c : 1 < q.length
    · rw [if_pos c]
      cases f with
      | true =>
        obtain ⟨y, e1, e2, e3⟩ := ih false (q.drop 1) (out ++ [q.getD 0 0]) (by simp; omega) (by simp at h ⊢; omega) (by simp; omega)
        refine ⟨y, Ev.step (fun k => i_dealt_l4_eq k _ _ _) ?_, ?_, by simp at e3; omega⟩
        · simp only [take_all]
          refine Ev.yes (by simp; omega) (Ev.yes rfl ?_)
          (repeat (first | refine Ev.yes (by (first | (simp [rowMax_eq]; done) | (simp [rowMax_eq]; omega) | omega)) ?_ | refine Ev.no (by (first | (simp [rowMax_eq]; done) | (simp [rowMax_eq]; omega) | omega)) ?_))
          exact e1
        · rw [e2]; simp
      | false =>
        obtain ⟨y, e1, e2, e3⟩ := ih true (q.drop 1 ++ [q.getD 0 0]) out (by simp) (by simp at h ⊢; omega) (by simp; omega)
        refine ⟨y, Ev.step (fun k => i_dealt_l4_eq k _ _ _) ?_, ?_, by simp at e3; omega⟩
        · have ed : (q ++ [q.getD 0 0]).drop 1 = q.drop 1 ++ [q.getD 0 0] := List.drop_append_of_le_length h1
          simp only [take_all, ed]
          refine Ev.yes (by simp; omega) (Ev.no rfl ?_)
          (repeat (first | refine Ev.yes (by (first | (simp [rowMax_eq]; done) | (simp [rowMax_eq]; omega) | omega)) ?_ | refine Ev.no (by (first | (simp [rowMax_eq]; done) | (simp [rowMax_eq]; omega) | omega)) ?_))
          exact e1
        · rw [e2]; rfl
    · rw [if_neg c]
      match q, h1, c with
      | [x], _, _ =>
        refine ⟨out ++ [x], Ev.step (fun k => i_dealt_l4_eq k _ _ _) (Ev.no (by simp) (Ev.yes (by (first | (simp [rowMax_eq]; done) | (simp [rowMax_eq]; omega) | omega)) (Ev.some rfl))), by simp, by simp; omega⟩
      | _ :: _ :: _, _, c => simp at c
end Qq
namespace Qq
open Go Go.Vt Pt
set_option linter.unusedVariables false
set_option linter.unusedSimpArgs false
def lessL : List Int → List Int → Bool
  | [], b => decide (0 < b.length)
  | _ :: _, [] => false
  | x :: a, y :: b => if x = y then lessL a b else decide (x < y)
abbrev Packs : Type := List (List Int)
/-- Numbers and lengths are such as a machine bears. -/
def FitS (l : Packs) : Prop := l.length ≤ maxLen ∧ ∀ p ∈ l, p.length ≤ maxLen ∧ Ins p
theorem FitS.of {l : Packs} (h : Fits (.slice (.slice (.int .i64))) l) : FitS l :=
  ⟨h.1, fun p hp => ⟨(h.2 p hp).1, fun x hx => In.of_fits ((h.2 p hp).2 x hx)⟩⟩
def kF (p0 : List Int) : Option (List Int) → Packs → Bool
  | _, [] => true
  | pv, q :: r => isArr p0 q && ((match pv with | none => true | some p => lessL p q) && kF p0 (some q) r)
def knowOk (l : Packs) : Bool := match l with
  | [] => false
  | p0 :: _ => decide (l.length ≤ 3000) && (!(p0.length == 0) && kF p0 none l)
end Qq
namespace Qq
open Go Go.Vt Pt
set_option linter.unusedVariables false
set_option linter.unusedSimpArgs false
theorem getD_in {p : List Int} (h : Ins p) (i : Nat) : In (p.getD i 0) := by
  rw [List.getD]
  cases hi : p[i]? with
  | none => exact ⟨by decide, by decide⟩
  | some x => exact h x (List.mem_of_getElem? hi)
end Qq
namespace Qq
open Go Go.Vt Pt
set_option linter.unusedVariables false
set_option linter.unusedSimpArgs false
set_option linter.unnecessarySimpa false
theorem Concat_l11_ev (ls : List (List Int)) (hl : ls.length ≤ maxLen) : ∀ (r : List (List Int)) (i : Nat) (out : List Int), ls.drop i = r → out.length + r.flatten.length ≤ 1048576 → Ev (fun k => slices_Concat_int_l11 k ls (ls.length : Int) (i : Int) out) (out ++ r.flatten)
  | [], i, out, h, ho => by
    have a := at_nil h
    refine Ev.step (fun k => slices_Concat_int_l11_eq k _ _ _ _) ?_
    simp only [a.g, cond_false]
    exact Ev.some (by simp)
  | x :: r, i, out, h, ho => by
    have a := at_cons h hl
    have hlt := a.lt
    simp only [List.flatten_cons, List.length_append] at ho
    refine Ev.step (fun k => slices_Concat_int_l11_eq k _ _ _ _) ?_
    simp only [a.g, a.z, a.get, a.w, cond_true]
    refine Ev.yes (by rw [rowMax_eq]; exact decide_eq_true (by omega)) ?_
    exact (Concat_l11_ev ls hl r (i + 1) (out ++ x) a.next (by simp; simp at ho; omega)).to (by simp)
theorem Concat_l3_ev (ls : List (List Int)) (hl : ls.length ≤ maxLen) (ht : ls.flatten.length ≤ 1048576) : ∀ (r : List (List Int)) (i : Nat) (n : Nat), ls.drop i = r → n + r.flatten.length ≤ 1048576 → Ev (fun k => slices_Concat_int_l3 k ls (n : Int) ls (ls.length : Int) (i : Int)) ls.flatten
  | [], i, n, h, hn => by
    have a := at_nil h
    refine Ev.step (fun k => slices_Concat_int_l3_eq k _ _ _ _ _) ?_
    simp only [a.g, cond_false]
    have hg : Ev (fun k => slices_Grow_int k ([], (n : Int))) [] := Ev.congr (fun k => slices_Grow_int_eq k [] (n : Int)) (by
      show Ev (fun _ => growF (n : Int)) []
      unfold growF
      simp at hn
      exact Ev.yes (by simp; omega) (Ev.pure _))
    exact Ev.bind hg ((Concat_l11_ev ls hl ls 0 [] rfl (by simpa using ht)).to (by simp))
  | x :: r, i, n, h, hn => by
    have a := at_cons h hl
    have hlt := a.lt
    simp only [List.flatten_cons, List.length_append] at hn
    refine Ev.step (fun k => slices_Concat_int_l3_eq k _ _ _ _ _) ?_
    have e : (n : Int) + (x.length : Int) = ((n + x.length : Nat) : Int) := by omega
    simp only [a.g, a.z, a.get, a.w, cond_true, e, wrap_id (x := ((n + x.length : Nat) : Int)) (by omega) (by omega)]
    refine Ev.no (by simp; omega) ?_
    exact Concat_l3_ev ls hl ht r (i + 1) (n + x.length) a.next (by omega)
theorem Concat_ev (ls : List (List Int)) (hl : ls.length ≤ maxLen) (ht : ls.flatten.length ≤ 1048576) : Ev (fun k => slices_Concat_int k ls) ls.flatten :=
  Ev.step (fun k => slices_Concat_int_eq k _) (Concat_l3_ev ls hl ht ls 0 0 rfl (by omega))
theorem reversed_ev (p : List Int) (hp : p.length ≤ 1048576) : Ev (fun k => i_reversed k p) p.reverse := by
  have hr : Ev (fun k => slices_Reverse_int k p) ((), p.reverse) := Ev.congr (fun k => slices_Reverse_int_eq k p) (by
    unfold reverseF
    exact Ev.yes (by simp; omega) (Ev.pure _))
  exact Ev.step (fun k => i_reversed_eq k _) (Ev.bind (Clone_int_ev p hp) (Ev.bind hr (Ev.pure _)))
theorem i_moved_l10_ev (K : Nat) : ∀ (m : Nat) (pre r : List Int), m ≤ r.length → pre.length + m = K → pre.length + r.length ≤ 12 → Ins r → Ev (fun k => i_moved_l10 k (K : Int) (pre.length : Int) (pre ++ r)) (pre ++ (r.take m).map turn ++ r.drop m)
  | 0, pre, r, hm, hK, h12, hi => by
    refine Ev.step (fun k => i_moved_l10_eq k _ _ _) (Ev.no (by simp; omega) (Ev.some (by simp)))
  | m + 1, pre, [], hm, hK, h12, hi => by simp at hm
  | m + 1, pre, x :: r, hm, hK, h12, hi => by
    simp at hm h12
    have hx : In x := hi x (by simp)
    have hg : (pre ++ x :: r).getD (pre.length : Int).toNat 0 = x := by simp [List.getD]
    have hs : (pre ++ x :: r).set (pre.length : Int).toNat (turn x) = pre ++ turn x :: r := by simp
    have ew : IntKind.i64.wrap ((pre.length : Int) + 1) = ((pre.length + 1 : Nat) : Int) := by rw [wrap_id (by omega) (by omega)]; omega
    refine Ev.step (fun k => i_moved_l10_eq k _ _ _) ?_
    simp only [hg, hs, ew]
    refine Ev.yes (by simp; omega) (Ev.yes (by simp) (Ev.yes (by (first | (simp [rowMax_eq]; done) | (simp [rowMax_eq]; omega) | omega)) (Ev.yes (by (first | (simp [rowMax_eq]; done) | (simp [rowMax_eq]; omega) | omega)) (Ev.bind (i_TurnCard_ev x hx) ?_))))
    simp only [hs]
    refine Ev.yes (by simp) (Ev.yes (by (first | (simp [rowMax_eq]; done) | (simp [rowMax_eq]; omega) | omega)) (Ev.yes (by (first | (simp [rowMax_eq]; done) | (simp [rowMax_eq]; omega) | omega)) ?_))
    have := i_moved_l10_ev K m (pre ++ [turn x]) r hm (by simp; omega) (by simp; omega) (fun y hy => hi y (by simp [hy]))
    simp only [List.length_append, List.length_singleton, List.append_assoc, List.singleton_append] at this
    exact this.to (by simp)
def doMove (p : List Int) (m : Int × Int) : List Int :=
  if m.1 = 1 then p.drop m.2.toNat ++ p.take m.2.toNat
  else if m.1 = 2 then (p.take m.2.toNat).reverse ++ p.drop m.2.toNat
  else if m.1 = 3 then (p.take m.2.toNat).reverse.map turn ++ p.drop m.2.toNat
  else if m.1 = 4 then faroL p m.2
  else if m.1 = 5 then mz m.2 0 p []
  else if m.1 = 6 then kz p.length p []
  else if m.1 = 7 then dz (2 * p.length + 1) (m.2 == 1) p []
  else if m.1 = 8 then p.set m.2.toNat (turn (p.getD m.2.toNat 0))
  else p.take m.2.toNat ++ p.drop (m.2.toNat + 1) ++ [p.getD m.2.toNat 0]
structure MoveFit (n : Nat) (m : Int × Int) : Prop where
  n1 : 1 ≤ n
  n12 : n ≤ 12
  k0 : 0 ≤ m.2
  kn : m.2 ≤ n ∨ m.2 ≤ 1
  c : m.1 = 1 ∨ m.1 = 2 ∨ m.1 = 3 → m.2 ≤ n
  f : m.1 = 4 ∨ m.1 = 5 ∨ m.1 = 7 → m.2 = 0 ∨ m.2 = 1
  t : m.1 ≠ 1 → m.1 ≠ 2 → m.1 ≠ 3 → m.1 ≠ 4 → m.1 ≠ 5 → m.1 ≠ 6 → m.1 ≠ 7 → m.2 < n
theorem moveOk_fit {n : Nat} {m : Int × Int} (h : moveOk (n : Int) m = true) : MoveFit n m := by
  unfold moveOk at h
  simp only [Bool.and_eq_true, decide_eq_true_eq] at h
  obtain ⟨h1, h2, h3, h4⟩ := h
  have key : (m.1 = 1 ∧ m.2 ≤ n) ∨ (m.1 = 2 ∧ m.2 ≤ n) ∨ (m.1 = 3 ∧ m.2 ≤ n) ∨ (m.1 = 4 ∧ m.2 ≤ 1) ∨ (m.1 = 5 ∧ m.2 ≤ 1) ∨ (m.1 = 7 ∧ m.2 ≤ 1) ∨ (m.1 = 6 ∧ m.2 = 0) ∨ (m.1 = 8 ∧ m.2 < n) ∨ (m.1 = 9 ∧ m.2 < n) := by
    repeat' (split at h4)
    all_goals simp at h4
    all_goals simp [*]
  exact ⟨by omega, by omega, h3, by omega, by omega, by omega, by omega⟩
theorem i_moved_ev (p : List Int) (m : Int × Int) (h : MoveFit p.length m) (hi : Ins p) : Ev (fun k => i_moved k (p, m)) (doMove p m) := by
  have hp := h.n12
  have hp1 := h.n1
  obtain ⟨a, b⟩ := m
  have h0 := h.k0
  obtain ⟨j, rfl⟩ : ∃ j : Nat, b = (j : Int) := ⟨b.toNat, by have := h0; simp at this; omega⟩
  have hc := h.c
  have hf := h.f
  have ht := h.t
  dsimp only at hc hf ht
  clear h h0
  refine Ev.step (fun k => i_moved_eq k p (a, (j : Int))) ?_
  unfold doMove
  simp only [take_all, Int.toNat_natCast, List.take_length, List.drop_zero, List.nil_append]
  have hlen2 : ∀ (x y : List Int), x.length + y.length ≤ 1048576 → Ev (fun k => slices_Concat_int k [x, y]) (x ++ y) := fun x y hxy => (Concat_ev [x, y] (by rw [maxLen_eq]; simp) (by simpa using hxy)).to (by simp)
  refine Ev.ite (fun c => ?_) (fun c1 => Ev.ite (fun c => ?_) (fun c2 => Ev.ite (fun c => ?_) (fun c3 => Ev.ite (fun c => ?_) (fun c4 => Ev.ite (fun c => ?_) (fun c5 => Ev.ite (fun c => ?_) (fun c6 => Ev.ite (fun c => ?_) (fun c7 => Ev.ite (fun c => ?_) (fun c8 => ?_))))))))
  all_goals simp only [beq_iff_eq, beq_eq_false_iff_ne, ne_eq] at *
  · have := hc (by omega)
    rw [if_pos c]
    (repeat (first | refine Ev.yes (by (first | (simp [rowMax_eq]; done) | (simp [rowMax_eq]; omega) | omega)) ?_ | refine Ev.no (by (first | (simp [rowMax_eq]; done) | (simp [rowMax_eq]; omega) | omega)) ?_))
    exact Ev.bind (hlen2 _ _ (by simp; omega)) (Ev.pure _)
  · have := hc (by omega)
    rw [if_neg c1, if_pos c]
    (repeat (first | refine Ev.yes (by (first | (simp [rowMax_eq]; done) | (simp [rowMax_eq]; omega) | omega)) ?_ | refine Ev.no (by (first | (simp [rowMax_eq]; done) | (simp [rowMax_eq]; omega) | omega)) ?_))
    refine Ev.bind (reversed_ev _ (by simp; omega)) ?_
    (repeat (first | refine Ev.yes (by (first | (simp [rowMax_eq]; done) | (simp [rowMax_eq]; omega) | omega)) ?_ | refine Ev.no (by (first | (simp [rowMax_eq]; done) | (simp [rowMax_eq]; omega) | omega)) ?_))
    exact Ev.bind (hlen2 _ _ (by simp; omega)) (Ev.pure _)
  · have := hc (by omega)
    rw [if_neg c1, if_neg c2, if_pos c]
    (repeat (first | refine Ev.yes (by (first | (simp [rowMax_eq]; done) | (simp [rowMax_eq]; omega) | omega)) ?_ | refine Ev.no (by (first | (simp [rowMax_eq]; done) | (simp [rowMax_eq]; omega) | omega)) ?_))
    refine Ev.bind (reversed_ev _ (by simp; omega)) ?_
    (repeat (first | refine Ev.yes (by (first | (simp [rowMax_eq]; done) | (simp [rowMax_eq]; omega) | omega)) ?_ | refine Ev.no (by (first | (simp [rowMax_eq]; done) | (simp [rowMax_eq]; omega) | omega)) ?_))
    refine Ev.bind (hlen2 _ _ (by simp; omega)) ?_
    have hr : (p.take j).reverse.length = j := by simp; omega
    have := i_moved_l10_ev j j [] ((p.take j).reverse ++ p.drop j) (by simp; omega) (by simp) (by simp; omega) (fun x hx => by
      rcases List.mem_append.1 hx with h | h
      · exact hi x (List.mem_of_mem_take (List.mem_reverse.1 h))
      · exact hi x (List.mem_of_mem_drop h))
    refine this.to ?_
    rw [List.nil_append, List.take_append_of_le_length (by omega), List.drop_append_of_le_length (by omega), List.take_of_length_le (by omega), List.drop_eq_nil_of_le (by omega), List.nil_append]
  · rw [if_neg c1, if_neg c2, if_neg c3, if_pos c]
    exact Ev.bind (i_faro_ev p hp _) (Ev.pure _)
  · rw [if_neg c1, if_neg c2, if_neg c3, if_neg c4, if_pos c]
    exact Ev.bind (Ev.step (fun k => i_monge_eq k _ _) (i_monge_l3_ev p hp _ (hf (by omega)) p 0 [] rfl rfl)) (Ev.pure _)
  · rw [if_neg c1, if_neg c2, if_neg c3, if_neg c4, if_neg c5, if_pos c]
    exact Ev.bind (Ev.step (fun k => i_milk_eq k _) (i_milk_l2_ev p.length p [] (Nat.le_refl _) (by simp; omega))) (Ev.pure _)
  · rw [if_neg c1, if_neg c2, if_neg c3, if_neg c4, if_neg c5, if_neg c6, if_pos c]
    obtain ⟨y, e1, e2, e3⟩ := i_dealt_l4_ev (2 * p.length + 1) ((j : Int) == 1) p [] hp1 (by cases ((j : Int) == 1) <;> simp) (by simp; omega)
    refine Ev.bind (Ev.step (fun k => i_dealt_eq k _ _) (Ev.bind (Clone_int_ev p (by omega)) e1)) (Ev.bind (reversed_ev y (by simp at e3; omega)) (Ev.some ?_))
    rw [e2]; rfl
  · rw [if_neg c1, if_neg c2, if_neg c3, if_neg c4, if_neg c5, if_neg c6, if_neg c7, if_pos c]
    have := ht c1 c2 c3 c4 c5 c6 c7
    have hin : In (p.getD j 0) := getD_in hi _
    refine Ev.bind (Clone_int_ev p (by omega)) ?_
    (repeat (first | refine Ev.yes (by (first | (simp [rowMax_eq]; done) | (simp [rowMax_eq]; omega) | omega)) ?_ | refine Ev.no (by (first | (simp [rowMax_eq]; done) | (simp [rowMax_eq]; omega) | omega)) ?_))
    refine Ev.bind (i_TurnCard_ev _ hin) ?_
    (repeat (first | refine Ev.yes (by (first | (simp [rowMax_eq]; done) | (simp [rowMax_eq]; omega) | omega)) ?_ | refine Ev.no (by (first | (simp [rowMax_eq]; done) | (simp [rowMax_eq]; omega) | omega)) ?_))
    exact Ev.pure _
  · rw [if_neg c1, if_neg c2, if_neg c3, if_neg c4, if_neg c5, if_neg c6, if_neg c7, if_neg c8]
    have := ht c1 c2 c3 c4 c5 c6 c7
    have hjl : j < p.length := by omega
    have e : IntKind.i64.wrap ((j : Int) + 1) = ((j + 1 : Nat) : Int) := by rw [wrap_id (by omega) (by omega)]; omega
    simp only [e, Int.toNat_natCast]
    (repeat (first | refine Ev.yes (by (first | (simp [rowMax_eq]; done) | (simp [rowMax_eq]; omega) | omega)) ?_ | refine Ev.no (by (first | (simp [rowMax_eq]; done) | (simp [rowMax_eq]; omega) | omega)) ?_))
    refine Ev.bind ((Concat_ev [p.take j, p.drop (j + 1), (p.take (j + 1)).drop j] (by rw [maxLen_eq]; simp) (by simp; omega)).to ?_) (Ev.pure _)
    have : (p.take (j + 1)).drop j = [p.getD j 0] := by
      rw [List.take_add_one, List.getElem?_eq_getElem hjl, List.drop_append_of_le_length (by simp; omega), List.drop_eq_nil_of_le (by simp; omega)]
      simp [List.getD, hjl]
    rw [this]
    simp
end Qq
namespace Qq
open Go Go.Vt Pt
set_option linter.unusedVariables false
set_option linter.unusedSimpArgs false
theorem Equal_int_l4_ev (xs ys : List Int) (hx : xs.length ≤ maxLen) (hy : ys.length ≤ maxLen) : ∀ (r s : List Int) (i : Nat), xs.drop i = r → ys.drop i = s → s.length = r.length → Ev (fun k => slices_Equal_int_l4 k xs ys (xs.length : Int) (i : Int)) (r == s)
  | [], [], i, h1, h2, hl => by
    have a := at_nil h1
    refine Ev.step (fun k => slices_Equal_int_l4_eq k xs ys _ i) ?_
    simp only [a.g, cond_false]
    exact Ev.pure _
  | x :: r, y :: s, i, h1, h2, hl => by
    have a := at_cons h1 hx
    have b := at_cons h2 hy
    refine Ev.step (fun k => slices_Equal_int_l4_eq k xs ys _ i) ?_
    simp only [a.g, a.z, b.g, a.get, b.get, a.w, cond_true]
    have ih := Equal_int_l4_ev xs ys hx hy r s (i + 1) a.next b.next (by simpa using hl)
    refine Ev.ite (fun h => Ev.some ?_) (fun h => ih.to ?_)
    · have : ¬ x = y := by simpa using h
      simp [this]
    · have : x = y := by simpa using h
      simp [this]
  | [], _ :: _, _, _, _, hl => by simp at hl
  | _ :: _, [], _, _, _, hl => by simp at hl
theorem Equal_int_ev (xs ys : List Int) (hx : xs.length ≤ maxLen) (hy : ys.length ≤ maxLen) : Ev (fun k => slices_Equal_int k (xs, ys)) (xs == ys) := by
  refine Ev.step (fun k => slices_Equal_int_eq k xs ys) (Ev.ite (fun h => Ev.some ?_) (fun h => Equal_int_l4_ev xs ys hx hy xs ys 0 rfl rfl ?_))
  · have h' : ¬ xs.length = ys.length := by simp at h; omega
    have : ¬ xs = ys := fun e => h' (by rw [e])
    simp [this]
  · simp at h; omega
end Qq
namespace Qq
open Go Go.Vt Pt
set_option linter.unusedVariables false
set_option linter.unusedSimpArgs false
set_option linter.unnecessarySimpa false
theorem leI_not {a b : List Int} : leI a b = true ↔ ¬ cmpI b a < 0 := by unfold leI; simp
theorem lt_of_le_ne {a b : List Int} (h : leI a b = true) (hn : a ≠ b) : cmpI a b < 0 := by
  by_cases k : cmpI a b < 0
  · exact k
  · exact (hn (cmpI_anti a b k (leI_not.1 h))).elim
/-- Strictly ascending. -/
def SS (l : Packs) : Prop := l.Pairwise fun a b => cmpI a b < 0
theorem dedupFrom_ok : ∀ (r : Packs) (p : List Int), (p :: r).Pairwise (fun a b => leI a b = true) → SS (p :: dedupFrom p r) ∧ ∀ z, z ∈ p :: dedupFrom p r ↔ z ∈ p :: r
  | [], p, _ => ⟨List.pairwise_singleton _ _, fun z => Iff.rfl⟩
  | y :: r, p, h => by
    obtain ⟨h1, h2⟩ := List.pairwise_cons.1 h
    obtain ⟨i1, i2⟩ := dedupFrom_ok r y h2
    unfold dedupFrom
    by_cases e : y = p
    · subst e
      rw [if_pos rfl]
      refine ⟨i1, fun z => ?_⟩
      rw [i2]; simp
    · rw [if_neg e]
      have hlt : cmpI p y < 0 := lt_of_le_ne (h1 y (by simp)) (Ne.symm e)
      refine ⟨List.pairwise_cons.2 ⟨fun z hz => ?_, i1⟩, fun z => ?_⟩
      · rcases List.mem_cons.1 hz with rfl | hz
        · exact hlt
        · exact cmpI_trans _ _ _ hlt ((List.pairwise_cons.1 i1).1 z hz)
      · rw [List.mem_cons, i2, ← List.mem_cons]
theorem dedup_ok {l : Packs} (h : l.Pairwise (fun a b => leI a b = true)) : SS (dedupL l) ∧ ∀ z, z ∈ dedupL l ↔ z ∈ l := by
  cases l with
  | nil => exact ⟨List.Pairwise.nil, fun _ => Iff.rfl⟩
  | cons x r => exact dedupFrom_ok r x h
/-- The packets in order, each once. -/
def setL (l : Packs) : Packs := dedupL (sortL l)
theorem setL_mem (l : Packs) (z : List Int) : z ∈ setL l ↔ z ∈ l := ((dedup_ok (sortL_sorted l)).2 z).trans (sortL_perm l).mem_iff
theorem dedupFrom_len : ∀ (r : Packs) (p : List Int), (dedupFrom p r).length ≤ r.length
  | [], _ => Nat.le_refl _
  | y :: r, p => by unfold dedupFrom; have := dedupFrom_len r y; split <;> simp <;> omega
theorem setL_len (l : Packs) : (setL l).length ≤ l.length := by
  have h1 : (sortL l).length = l.length := (sortL_perm l).length_eq
  unfold setL
  rw [← h1]
  cases sortL l with
  | nil => exact Nat.le_refl _
  | cons x r => have := dedupFrom_len r x; simp [dedupL]; omega
theorem i_SortPackets_l3_ev (l : Packs) (hl : l.length ≤ 16777216) (h12 : ∀ p ∈ l, p.length ≤ 1048576) : ∀ (r : Packs) (i : Nat), l.drop i = r → Ev (fun k => i_SortPackets_l3 k l (l.length : Int) (i : Int) (l.take i)) (setL l)
  | [], i, h => by
    have a := at_nil h
    refine Ev.step (fun k => i_SortPackets_l3_eq k _ _ _ _) ?_
    simp only [a.g, cond_false]
    rw [List.take_of_length_le a.ge]
    have small : ∀ m : Packs, m.length ≤ 16777216 → (∀ p ∈ m, p.length ≤ 1048576) → smallL m = true := fun m hm hp => by
      unfold smallL
      rw [Bool.and_eq_true]
      exact ⟨decide_eq_true (by omega), List.all_eq_true.2 fun p hpm => decide_eq_true (by have := hp p hpm; omega)⟩
    have e1 : Ev (fun k => slices_SortFunc_int_int k (l, false)) ((), sortL l) := Ev.congr (fun k => slices_SortFunc_int_int_eq k l false) (by
      show Ev (fun _ => sortF l) _
      unfold sortF
      exact Ev.yes (small l hl h12) (Ev.pure _))
    have e2 : Ev (fun k => slices_CompactFunc_int_int k (sortL l, false)) (setL l) := Ev.congr (fun k => slices_CompactFunc_int_int_eq k (sortL l) false) (by
      show Ev (fun _ => compactF (sortL l)) _
      unfold compactF
      exact Ev.yes (small _ (by rw [(sortL_perm l).length_eq]; exact hl) (fun p hp => h12 p ((sortL_perm l).mem_iff.1 hp))) (Ev.pure _))
    exact Ev.bind e1 (Ev.bind e2 (Ev.pure _))
  | p :: r, i, h => by
    have a := at_cons h (by rw [maxLen_eq]; omega)
    have hlt := a.lt
    have hp := h12 p a.mem
    have ih := i_SortPackets_l3_ev l hl h12 r (i + 1) a.next
    have et : l.take (i + 1) = l.take i ++ [p] := by
      rw [List.take_add_one, List.getElem?_eq_getElem hlt]
      have := a.gt []
      simp [List.getD, hlt] at this
      rw [this]; rfl
    rw [et] at ih
    refine Ev.step (fun k => i_SortPackets_l3_eq k _ _ _ _) ?_
    simp only [a.g, a.z, a.get, a.w, cond_true]
    exact Ev.bind (Clone_int_ev p hp) (Ev.yes (by rw [rowMax_eq]; exact decide_eq_true (by simp; omega)) ih)
theorem i_SortPackets_ev (l : Packs) (hl : l.length ≤ 16777216) (h12 : ∀ p ∈ l, p.length ≤ 1048576) : Ev (fun k => i_SortPackets k l) (setL l) :=
  Ev.step (fun k => i_SortPackets_eq k l) (i_SortPackets_l3_ev l hl h12 l 0 rfl)
end Qq
namespace Qq
open Go Go.Vt Pt
set_option linter.unusedVariables false
set_option linter.unusedSimpArgs false
end Qq
namespace Qq
open Go Go.Vt Pt
set_option linter.unusedVariables false
set_option linter.unusedSimpArgs false
end Qq
namespace Qq
open Go Go.Vt Pt
set_option linter.unusedVariables false
set_option linter.unusedSimpArgs false
abbrev Step : Type := Int × (Int × Int) × Int
abbrev Trick : Type := List Int × List Step × Int × Int × Int
abbrev Scene : Type := List Int × Int
end Qq
namespace Qq
open Go Go.Vt Pt
set_option linter.unusedVariables false
set_option linter.unusedSimpArgs false
def claimOk (n : Int) (p : List Int) (noted : Bool) (c a b : Int) : Bool :=
  if c = 0 then a == 0 && b == 0 else
  if c = 4 then a == 0 && b == 0 else
  if c = 1 then noted && (decide (0 ≤ a) && (decide (a < n) && b == 0)) else
  if c = 2 then decide (0 ≤ a) && (decide (a ≤ n) && b == 0) else
  if c = 3 then decide (0 ≤ pos p a) && (decide (0 ≤ b) && decide (b < n)) else false
def stepsOk (n : Int) (l : List Step) : Bool := l.all (stepOk n)
def hasNote (l : List Step) : Bool := l.any fun s => s.1 == 3
def trickOk (t : Trick) : Bool :=
  packetOk t.1 && (!(t.1.length == 0) && (decide (t.2.1.length ≤ 12) && (stepsOk t.1.length t.2.1 && claimOk t.1.length t.1 (hasNote t.2.1) t.2.2.1 t.2.2.2.1 t.2.2.2.2)))
theorem claim_i (xs : List Step) (hm : xs.length ≤ maxLen) (p : List Int) (hp : p.length ≤ maxLen) (hi : Ins p) (c a b n : Int) (hn : n = p.length) : ∀ (r : List Step) (i : Nat) (nt : Bool), xs.drop i = r →
    Ev (fun k => i_TrickOk_l6 k n nt xs (xs.length : Int) (i : Int) p xs c a b) (stepsOk n r && claimOk n p (nt || hasNote r) c a b)
  | [], i, nt, h => by
    have q := at_nil h
    refine Ev.step (fun k => i_TrickOk_l6_eq k _ _ _ _ _ _ _ _ _ _) ?_
    simp only [q.g, cond_false]
    have e : (stepsOk n [] && claimOk n p (nt || hasNote []) c a b) = claimOk n p nt c a b := by simp [stepsOk, hasNote]
    rw [e]
    unfold claimOk
    refine Ev.ite (fun h => ?_) (fun h => ?_)
    · have e : c = 0 := by simpa using h
      rw [if_pos e]
      refine Ev.ite (fun h => Ev.some ?_) (fun h => Ev.some ?_) <;> simp [h]
    have e0 : ¬ c = 0 := by simpa using h
    rw [if_neg e0]
    refine Ev.ite (fun h => ?_) (fun h => ?_)
    · have e : c = 4 := by simpa using h
      rw [if_pos e]
      refine Ev.ite (fun h => Ev.some ?_) (fun h => Ev.some ?_) <;> simp [h]
    have e4 : ¬ c = 4 := by simpa using h
    rw [if_neg e4]
    refine Ev.ite (fun h => ?_) (fun h => ?_)
    · have e : c = 1 := by simpa using h
      rw [if_pos e]
      repeat (first | (refine Ev.ite (fun h => ?_) (fun h => ?_)) | focus (refine Ev.some ?_; simp_all; done) | focus (refine Ev.some ?_; simp_all; omega))
    have e1 : ¬ c = 1 := by simpa using h
    rw [if_neg e1]
    refine Ev.ite (fun h => ?_) (fun h => ?_)
    · have e : c = 2 := by simpa using h
      rw [if_pos e]
      repeat (first | (refine Ev.ite (fun h => ?_) (fun h => ?_)) | focus (refine Ev.some ?_; simp_all; done) | focus (refine Ev.some ?_; simp_all; omega))
    have e2 : ¬ c = 2 := by simpa using h
    rw [if_neg e2]
    refine Ev.ite (fun h => ?_) (fun h => Ev.some ?_)
    · have e : c = 3 := by simpa using h
      rw [if_pos e]
      refine Ev.bind (i_PositionOf_ev p a hp hi) (Ev.ite (fun h' => Ev.ite (fun h2 => Ev.some ?_) (fun h2 => Ev.some ?_)) (fun h' => Ev.some ?_))
      · have h3 : 0 ≤ pos p a := by simpa using h'
        have h4 : 0 ≤ b := by simpa using h2
        simp [h3, h4]
      · have h4 : ¬ 0 ≤ b := by simpa using h2
        simp [h4]
      · have h3 : ¬ 0 ≤ pos p a := by simpa using h'
        simp [h3]
    · have e3 : ¬ c = 3 := by simpa using h
      rw [if_neg e3]
  | s :: r, i, nt, h => by
    have q := at_cons h hm
    refine Ev.step (fun k => i_TrickOk_l6_eq k _ _ _ _ _ _ _ _ _ _) ?_
    simp only [q.g, q.z, q.get, q.w, cond_true]
    refine Ev.bind (i_StepOk_ev n s) (Ev.ite (fun h => Ev.some ?_) (fun h => Ev.ite (fun h2 => ?_) (fun h2 => ?_)))
    · have : stepOk n s = false := by simpa using h
      simp [stepsOk, this]
    · have e : stepOk n s = true := by simpa using h
      refine (claim_i xs hm p hp hi c a b n hn r (i + 1) true q.next).to ?_
      simp [stepsOk, e, h2]
    · have e : stepOk n s = true := by simpa using h
      refine (claim_i xs hm p hp hi c a b n hn r (i + 1) (s.1 == 3) q.next).to ?_
      simp [stepsOk, e, h2, hasNote]
theorem i_TrickOk_ev (t : Trick) (h1 : t.1.length ≤ maxLen) (hi : Ins t.1) (h2 : t.2.1.length ≤ maxLen) : Ev (fun k => i_TrickOk k t) (trickOk t) := by
  obtain ⟨p, st, c, a, b⟩ := t
  unfold trickOk
  refine Ev.step (fun k => i_TrickOk_eq k _) (Ev.bind (i_PacketOk_ev p h1 hi) (Ev.ite (fun h => Ev.some ?_) (fun h => Ev.ite (fun h' => Ev.some ?_) (fun h' => Ev.ite (fun h3 => Ev.some ?_) (fun h3 => ?_)))))
  · have : packetOk p = false := by simpa using h
    simp [this]
  · have : p.length = 0 := by simp at h'; simp [h']
    simp [this]
  · have : ¬ st.length ≤ 12 := by simp at h3; omega
    simp [this]
  · refine (claim_i st h2 p h1 hi c a b _ rfl st 0 false rfl).to ?_
    have e1 : packetOk p = true := by simpa using h
    have e2 : (p.length == 0) = false := by simp at h' ⊢; exact h'
    have e3 : st.length ≤ 12 := by simp at h3; omega
    simp [e1, e3, e2]
/-- How many steps are of the kind. -/
def countK (b : Int → Bool) (l : List Step) : Nat := l.countP fun s => b s.1
theorem countK_cons (b : Int → Bool) (s : Step) (l : List Step) : countK b (s :: l) = countK b l + (if b s.1 then 1 else 0) := by unfold countK; rw [List.countP_cons]
theorem trickOk_len {t : Trick} (h : trickOk t = true) : t.2.1.length ≤ 12 ∧ 1 ≤ t.1.length ∧ t.1.length ≤ 12 ∧ packetOk t.1 = true := by
  unfold trickOk at h
  simp only [Bool.and_eq_true, decide_eq_true_eq] at h
  have := packetOk_fit h.1
  have h2 := h.2.1
  refine ⟨h.2.2.1, ?_, this.2.2, h.1⟩
  have : ¬ t.1.length = 0 := by simpa using h2
  omega
end Qq
namespace Qq
open Go Go.Vt Pt
set_option linter.unusedVariables false
set_option linter.unusedSimpArgs false
end Qq
namespace Qq
open Go Go.Vt Pt
set_option linter.unusedVariables false
set_option linter.unusedSimpArgs false
/-- The lists of a valid list for which f holds. -/
def those (l : Packs) (f : List Int → Bool) : Packs := if knowOk l then l.filter f else []
end Qq
namespace Qq
open Go Go.Vt Pt
set_option linter.unusedVariables false
set_option linter.unusedSimpArgs false
set_option linter.unnecessarySimpa false
end Qq
namespace Qq
open Go Go.Vt Pt
set_option linter.unusedVariables false
set_option linter.unusedSimpArgs false
set_option linter.unnecessarySimpa false
def cutL (p : List Int) (k : Nat) : List Int := p.drop k ++ p.take k
def cutsL (p : List Int) : Packs := (List.range p.length).map (cutL p)
theorem cut_fit {p : List Int} {i : Nat} (hp : p.length ≤ 12) (hi : i < p.length) : MoveFit p.length (1, (i : Int)) :=
  ⟨by omega, hp, by simp, .inl (by simp; omega), fun _ => by simp; omega, fun h => by simp at h, fun h => by simp at h⟩
theorem doMove_cut (p : List Int) (i : Nat) : doMove p (1, (i : Int)) = cutL p i := by simp [doMove, cutL]
theorem range_next (n : Nat) (f : Nat → List Int) : (List.range (n + 1)).map f = (List.range n).map f ++ [f n] := by rw [List.range_succ, List.map_append]; rfl
theorem i_cuts_l3_ev (p : List Int) (hp : p.length ≤ 12) (hi : Ins p) : ∀ (m i : Nat), i + m = p.length → Ev (fun k => i_cuts_l3 k p (p.length : Int) (i : Int) ((List.range i).map (cutL p))) (cutsL p)
  | 0, i, h => by
    refine Ev.step (fun k => i_cuts_l3_eq k _ _ _ _) (Ev.no (by simp; omega) (Ev.some ?_))
    have : i = p.length := by omega
    rw [this]; rfl
  | m + 1, i, h => by
    have ih := i_cuts_l3_ev p hp hi m (i + 1) (by omega)
    rw [range_next] at ih
    have ew : IntKind.i64.wrap ((i : Int) + 1) = ((i + 1 : Nat) : Int) := by rw [wrap_id (by omega) (by omega)]; omega
    refine Ev.step (fun k => i_cuts_l3_eq k _ _ _ _) ?_
    simp only [ew]
    refine Ev.yes (by simp; omega) (Ev.bind (i_moved_ev p _ (cut_fit hp (by omega)) hi) ?_)
    rw [doMove_cut]
    exact Ev.yes (by rw [rowMax_eq]; exact decide_eq_true (by simp; omega)) ih
theorem i_cuts_ev (p : List Int) (hp : p.length ≤ 12) (hi : Ins p) : Ev (fun k => i_cuts k p) (cutsL p) :=
  Ev.step (fun k => i_cuts_eq k _) (i_cuts_l3_ev p hp hi p.length 0 (by omega))
def pickL (p : List Int) (i : Nat) : List Int := [p.getD i 0] ++ (p.take i ++ p.drop (i + 1))
def picksL (p : List Int) : Packs := (List.range p.length).map (pickL p)
theorem i_all_l20_ev (p : List Int) (hp : p.length ≤ 12) : ∀ (m i : Nat), i + m = p.length → Ev (fun k => i_all_l20 k p (p.length : Int) (i : Int) ((List.range i).map (pickL p))) (picksL p, true)
  | 0, i, h => by
    refine Ev.step (fun k => i_all_l20_eq k _ _ _ _) (Ev.no (by simp; omega) (Ev.some ?_))
    have : i = p.length := by omega
    rw [this]; rfl
  | m + 1, i, h => by
    have ih := i_all_l20_ev p hp m (i + 1) (by omega)
    rw [range_next] at ih
    have hil : i < p.length := by omega
    have ew : IntKind.i64.wrap ((i : Int) + 1) = ((i + 1 : Nat) : Int) := by rw [wrap_id (by omega) (by omega)]; omega
    refine Ev.step (fun k => i_all_l20_eq k _ _ _ _) ?_
    simp only [ew, take_all, Int.toNat_natCast, List.take_length, List.drop_zero, List.nil_append]
    refine Ev.yes (by simp; omega) ?_
    (repeat (first | refine Ev.yes (by (first | (simp [rowMax_eq]; done) | (simp [rowMax_eq]; omega) | omega)) ?_ | refine Ev.no (by (first | (simp [rowMax_eq]; done) | (simp [rowMax_eq]; omega) | omega)) ?_))
    have e1 : (p.take (i + 1)).drop i = [p.getD i 0] := by
      rw [List.take_add_one, List.getElem?_eq_getElem hil, List.drop_append_of_le_length (by simp; omega), List.drop_eq_nil_of_le (by simp; omega)]
      simp [List.getD, hil]
    refine Ev.bind ((Concat_ev [(p.take (i + 1)).drop i, p.take i, p.drop (i + 1)] (by rw [maxLen_eq]; simp) (by simp; omega)).to (show _ = pickL p i by rw [e1]; simp [pickL])) ?_
    exact Ev.yes (by rw [rowMax_eq]; exact decide_eq_true (by simp; omega)) ih
end Qq
namespace Qq
open Go Go.Vt Pt
set_option linter.unusedVariables false
set_option linter.unusedSimpArgs false
/-- A riffle by bits: whether each card comes from the second part. -/
def rfi : Nat → Nat → List Bool → List Nat
  | _, _, [] => []
  | f, s, true :: r => s :: rfi f (s + 1) r
  | f, s, false :: r => f :: rfi (f + 1) s r
def zerosB : List Bool → Nat
  | [] => 0 | true :: r => zerosB r | false :: r => zerosB r + 1
def onesB : List Bool → Nat
  | [] => 0 | true :: r => onesB r + 1 | false :: r => onesB r
def bitsD : Nat → Nat → List Bool
  | 0, _ => [] | m + 1, w => Nat.beq (w % 2) 1 :: bitsD m (w / 2)
def riffI (n w : Nat) : List Nat := rfi 0 (zerosB (bitsD n w)) (bitsD n w)
def decGo : Nat → Option Nat → List Nat → Nat
  | _, _, [] => 0
  | i, none, x :: r => bif Nat.beq x i then decGo (i + 1) none r else 2 ^ i + decGo (i + 1) (some x) r
  | i, some s, x :: r => (bif Nat.ble s x then 2 ^ i else 0) + decGo (i + 1) (some s) r
def isIdB : Nat → List Nat → Bool
  | _, [] => true | i, x :: r => Nat.beq x i && isIdB (i + 1) r
def wellW (w : Nat) : Bool := !isIdB 0 (riffI 12 w)
theorem riff12 : ((List.range 4096).all fun w => isIdB 0 (riffI 12 w) || Nat.beq (decGo 0 none (riffI 12 w)) w) = true := by kernel_rfl
theorem riff12_count : ((List.range 4096).filter wellW).length = 4083 := by kernel_rfl
theorem nodup_sub {α : Type} [DecidableEq α] : ∀ {l m : List α}, l.Nodup → (∀ x ∈ l, x ∈ m) → l.length ≤ m.length
  | [], m, _, _ => Nat.zero_le _
  | x :: l, m, h, hs => by
    obtain ⟨h1, h2⟩ := List.nodup_cons.1 h
    have hx := hs x (by simp)
    have := nodup_sub (l := l) (m := m.erase x) h2 fun y hy => (List.mem_erase_of_ne (fun e => h1 (by rw [e] at hy; exact hy))).2 (hs y (by simp [hy]))
    rw [List.length_erase_of_mem hx] at this
    have : 0 < m.length := List.length_pos_of_mem hx
    simp; omega
end Qq
namespace Qq
open Go Go.Vt Pt
set_option linter.unusedVariables false
set_option linter.unusedSimpArgs false
set_option linter.unnecessarySimpa false
theorem bitsD_len : ∀ (m w : Nat), (bitsD m w).length = m
  | 0, _ => rfl
  | m + 1, w => by rw [bitsD, List.length_cons, bitsD_len]
theorem zo_len : ∀ l : List Bool, zerosB l + onesB l = l.length
  | [] => rfl
  | true :: r => by have := zo_len r; simp [zerosB, onesB]; omega
  | false :: r => by have := zo_len r; simp [zerosB, onesB]; omega
def rfp (p : List Int) : Nat → Nat → List Bool → List Int
  | _, _, [] => []
  | f, s, true :: r => p.getD s 0 :: rfp p f (s + 1) r
  | f, s, false :: r => p.getD f 0 :: rfp p (f + 1) s r
def riffp (p : List Int) (w : Nat) : List Int := rfp p 0 (zerosB (bitsD p.length w)) (bitsD p.length w)
theorem div_next (w i : Nat) : w / 2 ^ i / 2 = w / 2 ^ (i + 1) := by rw [Nat.div_div_eq_div_mul, Nat.pow_succ]
theorem bitsD_step (m w i : Nat) : bitsD (m + 1) (w / 2 ^ i) = Nat.beq (w / 2 ^ i % 2) 1 :: bitsD m (w / 2 ^ (i + 1)) := by rw [bitsD, div_next]
theorem i_riffledp_l9_ev (p : List Int) (hp : p.length ≤ 12) (w : Nat) (hw : w ≤ 4096) : ∀ (m i f s : Nat) (out : List Int), i + m = p.length → f + zerosB (bitsD m (w / 2 ^ i)) ≤ p.length → s + onesB (bitsD m (w / 2 ^ i)) ≤ p.length → out.length ≤ i →
    Ev (fun k => i_riffled_l9 k p (w : Int) (f : Int) (s : Int) (p.length : Int) (i : Int) out) (out ++ rfp p f s (bitsD m (w / 2 ^ i)))
  | 0, i, f, s, out, h, hf, hs, ho => by
    refine Ev.step (fun k => i_riffled_l9_eq k _ _ _ _ _ _ _) (Ev.no (by simp; omega) (Ev.some ?_))
    simp [bitsD, rfp]
  | m + 1, i, f, s, out, h, hf, hs, ho => by
    have ih := fun f s out => i_riffledp_l9_ev p hp w hw m (i + 1) f s out (by omega)
    have ew : ∀ j : Nat, j ≤ 12 → IntKind.i64.wrap ((j : Int) + 1) = ((j + 1 : Nat) : Int) := fun j hj => by rw [wrap_id (by omega) (by omega)]; omega
    rw [bitsD_step] at hf hs ⊢
    refine Ev.step (fun k => i_riffled_l9_eq k _ _ _ _ _ _ _) ?_
    simp only [bit_wrap w i (by omega) (by omega), ew i (by omega)]
    simp only [Int.toNat_natCast]
    refine Ev.yes (by simp; omega) (Ev.yes (by simp) ?_)
    cases hb : Nat.beq (w / 2 ^ i % 2) 1 with
    | true =>
      rw [hb] at hf hs
      have hb' := Nat.eq_of_beq_eq_true hb
      simp only [zerosB, onesB] at hf hs
      rw [ew s (by omega)]
      refine Ev.yes (by rw [hb']; rfl) (Ev.yes (by simp) (Ev.yes (by simp; omega) (Ev.yes (by rw [rowMax_eq]; exact decide_eq_true (by simp; omega)) ?_)))
      exact (ih f (s + 1) (out ++ [p.getD s 0]) (by omega) (by omega) (by simp; omega)).to (by simp [rfp])
    | false =>
      rw [hb] at hf hs
      have hb' : ¬ w / 2 ^ i % 2 = 1 := fun e => by rw [e] at hb; cases hb
      simp only [zerosB, onesB] at hf hs
      rw [ew f (by omega)]
      have h0 : w / 2 ^ i % 2 = 0 := by omega
      refine Ev.no (by rw [h0]; rfl) (Ev.yes (by simp) (Ev.yes (by simp; omega) (Ev.yes (by rw [rowMax_eq]; exact decide_eq_true (by simp; omega)) ?_)))
      exact (ih (f + 1) s (out ++ [p.getD f 0]) (by omega) (by omega) (by simp; omega)).to (by simp [rfp])
theorem i_riffledp_l3_ev (p : List Int) (hp : p.length ≤ 12) (w : Nat) (hw : w ≤ 4096) : ∀ (m i z : Nat), i + m = p.length → z ≤ i →
    Ev (fun k => i_riffled_l3 k p (w : Int) 0 (z : Int) (p.length : Int) (i : Int)) (rfp p 0 (z + zerosB (bitsD m (w / 2 ^ i))) (bitsD p.length w)) ∨ z + zerosB (bitsD m (w / 2 ^ i)) ≠ zerosB (bitsD p.length w)
  | 0, i, z, h, hz => by
    by_cases hzz : z + zerosB (bitsD 0 (w / 2 ^ i)) = zerosB (bitsD p.length w)
    · left
      refine Ev.step (fun k => i_riffled_l3_eq k _ _ _ _ _ _) (Ev.no (by simp; omega) ?_)
      have e : zerosB (bitsD 0 (w / 2 ^ i)) = 0 := rfl
      rw [e] at hzz ⊢
      have hl := zo_len (bitsD p.length w)
      rw [bitsD_len] at hl
      have := i_riffledp_l9_ev p hp w hw p.length 0 0 z [] (by omega) (by rw [Nat.pow_zero, Nat.div_one]; omega) (by rw [Nat.pow_zero, Nat.div_one]; omega) (Nat.le_refl _)
      rw [Nat.pow_zero, Nat.div_one, List.nil_append] at this
      exact this
    · exact .inr hzz
  | m + 1, i, z, h, hz => by
    rw [bitsD_step]
    have ew : IntKind.i64.wrap ((i : Int) + 1) = ((i + 1 : Nat) : Int) := by rw [wrap_id (by omega) (by omega)]; omega
    cases hb : Nat.beq (w / 2 ^ i % 2) 1 with
    | true =>
      have hb' := Nat.eq_of_beq_eq_true hb
      simp only [zerosB]
      refine (i_riffledp_l3_ev p hp w hw m (i + 1) z (by omega) (by omega)).imp_left fun ih => ?_
      refine Ev.step (fun k => i_riffled_l3_eq k _ _ _ _ _ _) ?_
      simp only [bit_wrap w i (by omega) (by omega), ew, hb']
      refine Ev.yes (by simp; omega) (Ev.yes (by simp) ?_)
      have e2 : IntKind.i64.wrap ((z : Int) + IntKind.i64.wrap (1 - ((1 : Nat) : Int))) = (z : Int) := by rw [wrap_id (x := 1 - ((1 : Nat) : Int)) (by omega) (by omega), wrap_id (by omega) (by omega)]; omega
      rw [e2]
      exact ih
    | false =>
      have hb' : w / 2 ^ i % 2 = 0 := by
        have : ¬ w / 2 ^ i % 2 = 1 := fun e => by rw [e] at hb; cases hb
        omega
      simp only [zerosB]
      rw [show z + (zerosB (bitsD m (w / 2 ^ (i + 1))) + 1) = (z + 1) + zerosB (bitsD m (w / 2 ^ (i + 1))) by omega]
      refine (i_riffledp_l3_ev p hp w hw m (i + 1) (z + 1) (by omega) (by omega)).imp_left fun ih => ?_
      refine Ev.step (fun k => i_riffled_l3_eq k _ _ _ _ _ _) ?_
      simp only [bit_wrap w i (by omega) (by omega), ew, hb']
      refine Ev.yes (by simp; omega) (Ev.yes (by simp) ?_)
      have e2 : IntKind.i64.wrap ((z : Int) + IntKind.i64.wrap (1 - ((0 : Nat) : Int))) = ((z + 1 : Nat) : Int) := by rw [wrap_id (x := 1 - ((0 : Nat) : Int)) (by omega) (by omega), wrap_id (by omega) (by omega)]; omega
      rw [e2]
      exact ih
theorem i_riffledp_ev (p : List Int) (hp : p.length ≤ 12) (w : Nat) (hw : w ≤ 4096) : Ev (fun k => i_riffled k (p, (w : Int))) (riffp p w) := by
  refine Ev.step (fun k => i_riffled_eq k _ _) ?_
  have := i_riffledp_l3_ev p hp w hw p.length 0 0 (by omega) (Nat.le_refl _)
  rw [Nat.pow_zero, Nat.div_one, Nat.zero_add] at this
  exact this.resolve_right (fun h => h rfl)
def riffsB (p : List Int) : Packs := (List.range (2 ^ p.length)).map (riffp p)
theorem two_le {n : Nat} (h : n ≤ 12) : 2 ^ n ≤ 4096 := Nat.pow_le_pow_right (by decide) h
theorem i_all_l9_ev (p : List Int) (hp : p.length ≤ 12) : ∀ (m i : Nat), i + m = 2 ^ p.length → Ev (fun k => i_all_l9 k p (i : Int) ((List.range i).map (riffp p))) (riffsB p, true)
  | m, i, h => by
    have h2 := two_le hp
    have e : IntKind.i64.wrap ((1 : Int) * 2 ^ (min (p.length : Int).toNat IntKind.i64.bits)) = ((2 ^ p.length : Nat) : Int) := by
      have hm : min (p.length : Int).toNat IntKind.i64.bits = p.length := by
        have : IntKind.i64.bits = 64 := rfl
        rw [this, Int.toNat_natCast]; omega
      rw [hm, Int.one_mul, show (2 : Int) ^ p.length = ((2 ^ p.length : Nat) : Int) by simp, wrap_id (by omega) (by omega)]
    refine Ev.step (fun k => i_all_l9_eq k _ _ _) (Ev.yes (by simp) ?_)
    rw [e]
    match m, h with
    | 0, h =>
      refine Ev.no (by simp only [decide_eq_false_iff_not]; omega) (Ev.some ?_)
      have : i = 2 ^ p.length := by omega
      rw [this]; rfl
    | m + 1, h =>
      have ih := i_all_l9_ev p hp m (i + 1) (by omega)
      rw [range_next] at ih
      have ew : IntKind.i64.wrap ((i : Int) + 1) = ((i + 1 : Nat) : Int) := by rw [wrap_id (by omega) (by omega)]; omega
      rw [ew]
      refine Ev.yes (by simp only [decide_eq_true_eq]; omega) (Ev.bind (i_riffledp_ev p hp i (by omega)) (Ev.yes (by rw [rowMax_eq]; exact decide_eq_true (by simp; omega)) ih))
def nb : List Bool → Nat
  | [] => 0 | b :: r => (bif b then 1 else 0) + 2 * nb r
end Qq
namespace Qq
open Go Go.Vt Pt
set_option linter.unusedVariables false
set_option linter.unusedSimpArgs false
set_option linter.unnecessarySimpa false
theorem rfp_rfi (p : List Int) : ∀ (bits : List Bool) (f s : Nat), rfp p f s bits = (rfi f s bits).map fun i => p.getD i 0
  | [], _, _ => rfl
  | true :: r, f, s => by unfold rfp rfi; rw [rfp_rfi p r]; rfl
  | false :: r, f, s => by unfold rfp rfi; rw [rfp_rfi p r]; rfl
theorem rfi_lt (n : Nat) : ∀ (bits : List Bool) (f s : Nat), f + zerosB bits ≤ n → s + onesB bits ≤ n → ∀ x ∈ rfi f s bits, x < n
  | [], _, _, _, _, x, hx => by cases hx
  | true :: r, f, s, h1, h2, x, hx => by
    simp only [zerosB, onesB] at h1 h2
    rcases List.mem_cons.1 hx with rfl | hx
    · omega
    · exact rfi_lt n r f (s + 1) h1 (by omega) x hx
  | false :: r, f, s, h1, h2, x, hx => by
    simp only [zerosB, onesB] at h1 h2
    rcases List.mem_cons.1 hx with rfl | hx
    · omega
    · exact rfi_lt n r (f + 1) s (by omega) h2 x hx
theorem map_inj_on {g : Nat → Int} {n : Nat} (hg : ∀ i j, i < n → j < n → g i = g j → i = j) : ∀ {l m : List Nat}, (∀ x ∈ l, x < n) → (∀ x ∈ m, x < n) → l.map g = m.map g → l = m
  | [], [], _, _, _ => rfl
  | [], _ :: _, _, _, h => by simp at h
  | _ :: _, [], _, _, h => by simp at h
  | x :: l, y :: m, hl, hm, h => by
    simp only [List.map_cons, List.cons.injEq] at h
    rw [hg x y (hl x (by simp)) (hm y (by simp)) h.1, map_inj_on hg (fun z hz => hl z (by simp [hz])) (fun z hz => hm z (by simp [hz])) h.2]
theorem riffs12 {p : List Int} (hl : p.length = 12) (hn : p.Nodup) : 3000 < (setL (riffsB p)).length := by
  have hg : ∀ i j, i < 12 → j < 12 → p.getD i 0 = p.getD j 0 → i = j := fun i j hi hj e => by
    have h1 : i < p.length := by omega
    have h2 : j < p.length := by omega
    simp only [List.getD, List.getElem?_eq_getElem h1, List.getElem?_eq_getElem h2, Option.getD_some] at e
    have hpw := List.pairwise_iff_getElem.1 (show p.Pairwise (fun a b => a ≠ b) from hn)
    rcases Nat.lt_trichotomy i j with h | h | h
    · exact (hpw i j h1 h2 h e).elim
    · exact h
    · exact (hpw j i h2 h1 h e.symm).elim
  have hlt : ∀ w, ∀ x ∈ riffI 12 w, x < 12 := fun w => by
    have := zo_len (bitsD 12 w)
    rw [bitsD_len] at this
    exact rfi_lt 12 _ 0 _ (by omega) (by omega)
  have hr : ∀ w, riffp p w = (riffI 12 w).map fun i => p.getD i 0 := fun w => by unfold riffp riffI; rw [hl, rfp_rfi]
  have hdec : ∀ w, w < 4096 → wellW w = true → decGo 0 none (riffI 12 w) = w := fun w hw hwell => by
    have := List.all_eq_true.1 riff12 w (List.mem_range.2 hw)
    unfold wellW at hwell
    rw [Bool.not_eq_true'] at hwell
    rw [hwell, Bool.false_or] at this
    exact Nat.eq_of_beq_eq_true this
  have hnd : (((List.range 4096).filter wellW).map (riffp p)).Nodup := by
    rw [List.Nodup, List.pairwise_map]
    refine List.Pairwise.imp_of_mem (fun {a b} ha hb hab e => hab ?_) ((List.nodup_range (n := 4096)).filter wellW)
    obtain ⟨a1, a2⟩ := List.mem_filter.1 ha
    obtain ⟨b1, b2⟩ := List.mem_filter.1 hb
    rw [hr, hr] at e
    have := map_inj_on hg (hlt a) (hlt b) e
    rw [← hdec a (List.mem_range.1 a1) a2, ← hdec b (List.mem_range.1 b1) b2, this]
  have := nodup_sub hnd (m := setL (riffsB p)) (fun q hq => by
    obtain ⟨w, hw, rfl⟩ := List.mem_map.1 hq
    rw [setL_mem]
    unfold riffsB
    rw [hl]
    exact List.mem_map.2 ⟨w, (List.mem_filter.1 hw).1, rfl⟩)
  rw [List.length_map, riff12_count] at this
  omega
theorem riffs_len {p : List Int} (hp : p.length ≤ 11) : (setL (riffsB p)).length ≤ 2048 := by
  refine Nat.le_trans (setL_len _) ?_
  unfold riffsB
  rw [List.length_map, List.length_range]
  exact Nat.pow_le_pow_right (by decide) hp
def flip2 (p : List Int) : List Int := (p.take 2).reverse.map turn ++ p.drop 2
def allOf (p : List Int) (c : Int) : Packs := if c = 1 then cutsL p else if c = 2 then riffsB p else if c = 3 then cutsL (flip2 p) else if c = 4 then picksL p else [p]
def chOk (p : List Int) (c : Int) : Bool := packetOk p && (!(p.length == 0) && (decide (0 ≤ c ∧ c ≤ 4) && (!(decide (c = 3) && decide (p.length < 2)) && !(decide (c = 2) && decide (12 ≤ p.length)))))
structure ChFit (p : List Int) (c : Int) : Prop where
  ok : packetOk p = true
  l1 : 1 ≤ p.length
  l12 : p.length ≤ 12
  c0 : 0 ≤ c
  c4 : c ≤ 4
  c3 : c = 3 → 2 ≤ p.length
  c2 : c = 2 → p.length ≤ 11
theorem flip2_len (p : List Int) : (flip2 p).length = p.length := by unfold flip2; simp; omega
theorem flip2_ins {p : List Int} (hi : Ins p) : Ins (flip2 p) := fun x hx => by
  unfold flip2 at hx
  rcases List.mem_append.1 hx with h | h
  · obtain ⟨y, hy, rfl⟩ := List.mem_map.1 h
    exact in_turn (hi y (List.mem_of_mem_take (List.mem_reverse.1 hy)))
  · exact hi x (List.mem_of_mem_drop h)
theorem allOf_small {p : List Int} {c : Int} (hp : p.length ≤ 12) : (allOf p c).length ≤ 4096 ∧ ∀ q ∈ allOf p c, q.length ≤ 12 := by
  have h2 := two_le hp
  unfold allOf
  split
  · refine ⟨by unfold cutsL; simp; omega, fun q hq => ?_⟩
    obtain ⟨i, _, rfl⟩ := List.mem_map.1 hq
    unfold cutL; simp; omega
  split
  · refine ⟨by unfold riffsB; simpa using h2, fun q hq => ?_⟩
    obtain ⟨w, _, rfl⟩ := List.mem_map.1 hq
    unfold riffp
    rw [rfp_rfi, List.length_map]
    have : ∀ (bits : List Bool) (f s : Nat), (rfi f s bits).length = bits.length := fun bits => by
      induction bits with
      | nil => intro f s; rfl
      | cons b r ih => intro f s; cases b <;> simp [rfi, ih]
    rw [this, bitsD_len]; exact hp
  split
  · refine ⟨by unfold cutsL; simp [flip2_len]; omega, fun q hq => ?_⟩
    obtain ⟨i, _, rfl⟩ := List.mem_map.1 hq
    unfold cutL; simp [flip2_len]; have := flip2_len p; omega
  split
  · refine ⟨by unfold picksL; simp; omega, fun q hq => ?_⟩
    obtain ⟨i, hi, rfl⟩ := List.mem_map.1 hq
    have := List.mem_range.1 hi
    unfold pickL; simp; omega
  · exact ⟨by simp, fun q hq => by have : q = p := by simpa using hq
                                   rw [this]; exact hp⟩
theorem allOf_few {p : List Int} {c : Int} (hp : p.length ≤ 12) (c2 : c ≠ 2) : (allOf p c).length ≤ 12 := by
  unfold allOf
  split
  · unfold cutsL; simpa using hp
  split
  · unfold cutsL; simpa [flip2_len] using hp
  split
  · unfold picksL; simpa using hp
  · simp
/-- What a choice leads to; nothing where there is none, or too many. -/
def resOf (p : List Int) (c : Int) : Packs × Bool := if chOk p c then (setL (allOf p c), true) else ([], false)
theorem i_all_ev (p : List Int) (c : Int) (hp : p.length ≤ 12) (hi : Ins p) (h0 : 1 ≤ p.length) : Ev (fun k => i_all k (p, c)) (if (0 ≤ c ∧ c ≤ 4) ∧ ¬ (c = 3 ∧ p.length < 2) then (allOf p c, true) else ([], false)) := by
  refine Ev.step (fun k => i_all_eq k p c) ?_
  refine Ev.ite (fun e => ?_) (fun n0 => Ev.ite (fun e => ?_) (fun n1 => Ev.ite (fun e => ?_) (fun n2 => Ev.ite (fun e => ?_) (fun n3 => Ev.ite (fun e => ?_) (fun n4 => Ev.some ?_)))))
  all_goals simp only [beq_iff_eq, beq_eq_false_iff_ne, ne_eq] at *
  · subst e
    exact Ev.bind (Clone_int_ev p (by omega)) (Ev.some (by simp [allOf]))
  · subst e
    exact Ev.bind (i_cuts_ev p hp hi) (Ev.some (by simp [allOf]))
  · subst e
    exact (i_all_l9_ev p hp (2 ^ p.length) 0 (by omega)).to (by simp [allOf])
  · subst e
    refine Ev.ite (fun h => Ev.some ?_) (fun h => ?_)
    · have : p.length < 2 := by have : (p.length : Int) < 2 := by simpa using h
                                omega
      simp [this]
    · have h2 : ¬ p.length < 2 := by have : ¬ (p.length : Int) < 2 := by simpa using h
                                     omega
      have hm := i_moved_ev p (3, ((2 : Nat) : Int)) ⟨h0, hp, by simp, .inl (by simp; omega), fun _ => by simp; omega, fun h => by simp at h, fun _ _ h3 => absurd rfl h3⟩ hi
      have ed : doMove p (3, ((2 : Nat) : Int)) = flip2 p := by simp [doMove, flip2]
      rw [ed] at hm
      exact Ev.bind hm (Ev.bind (i_cuts_ev _ (by rw [flip2_len]; exact hp) (flip2_ins hi)) (Ev.some (by simp [allOf, h2])))
  · subst e
    exact (i_all_l20_ev p hp p.length 0 (by omega)).to (by simp [allOf])
  · rw [if_neg (by omega)]
theorem i_ResultsOf_ev (p : List Int) (c : Int) (hp : p.length ≤ maxLen) (hi : Ins p) : Ev (fun k => i_ResultsOf k (p, c)) (resOf p c) := by
  unfold resOf
  refine Ev.step (fun k => i_ResultsOf_eq k p c) (Ev.bind (i_PacketOk_ev p hp hi) (Ev.ite (fun h => Ev.some ?_) (fun h => Ev.ite (fun h2 => Ev.some ?_) (fun h2 => ?_))))
  · have : packetOk p = false := by simpa using h
    simp [chOk, this]
  · have : p.length = 0 := by have : (p.length : Int) = 0 := by simpa using h2
                              omega
    simp [chOk, this]
  · have e1 : packetOk p = true := by simpa using h
    have e2 : ¬ p.length = 0 := by have : ¬ (p.length : Int) = 0 := by simpa using h2
                                   omega
    have hl := (packetOk_fit e1).2.2
    have hnd : p.Nodup := by
      have := (packetOk_fit e1).1
      rw [List.Nodup, List.pairwise_map] at this
      exact this.imp fun h e => h (by rw [e])
    refine Ev.bind (i_all_ev p c hl hi (by omega)) ?_
    by_cases hc : (0 ≤ c ∧ c ≤ 4) ∧ ¬ (c = 3 ∧ p.length < 2)
    · rw [if_pos hc]
      have hs := allOf_small (c := c) hl
      refine Ev.bind (i_SortPackets_ev _ (Nat.le_trans hs.1 (by decide)) (fun q hq => Nat.le_trans (hs.2 q hq) (by decide))) (Ev.no rfl ?_)
      refine Ev.ite (fun h3 => Ev.some ?_) (fun h3 => Ev.some ?_)
      · have h3' : 3000 < (setL (allOf p c)).length := by have : ((setL (allOf p c)).length : Int) > 3000 := by simpa using h3
                                                          omega
        have : c = 2 ∧ 12 ≤ p.length := by
          apply Classical.byContradiction
          intro hcon
          have h5 := setL_len (allOf p c)
          by_cases c2 : c = 2
          · have := riffs_len (p := p) (by omega)
            rw [c2] at h3'
            simp only [allOf] at h3'
            simp at h3'
            omega
          · have := allOf_few (p := p) hl c2
            omega
        rw [if_neg]
        unfold chOk
        simp [this.1, this.2]
      · have h3' : ¬ 3000 < (setL (allOf p c)).length := by have : ¬ ((setL (allOf p c)).length : Int) > 3000 := by simpa using h3
                                                            omega
        have : ¬ (c = 2 ∧ 12 ≤ p.length) := fun ⟨a, b⟩ => h3' (by
          have := riffs12 (p := p) (by omega) hnd
          rw [a]
          simpa [allOf] using this)
        rw [if_pos]
        unfold chOk
        rw [e1, decide_eq_true hc.1]
        have h6 := hc.2
        by_cases x3 : c = 3
        · have : ¬ p.length < 2 := fun h => h6 ⟨x3, h⟩
          simp [e2, x3, this]
        · by_cases x2 : c = 2
          · have : ¬ 12 ≤ p.length := fun h => this ⟨x2, h⟩
            simp [e2, x2, this]
          · simp [e2, x3, x2]
    · rw [if_neg hc]
      refine Ev.bind (i_SortPackets_ev [] (by simp) (fun q hq => by cases hq)) (Ev.yes rfl (Ev.some ?_))
      rw [if_neg]
      unfold chOk
      by_cases c04 : 0 ≤ c ∧ c ≤ 4
      · have : c = 3 ∧ p.length < 2 := Classical.byContradiction fun h => hc ⟨c04, h⟩
        simp [this.1, this.2]
      · rw [decide_eq_false c04]; simp
end Qq
namespace Qq
open Go Go.Vt Pt
set_option linter.unusedVariables false
set_option linter.unusedSimpArgs false
set_option linter.unnecessarySimpa false
theorem card_turn (x : Int) : card (turn x) = card x := by
  unfold turn
  split
  · rfl
  · rename_i h
    unfold card at h ⊢
    split at h
    · rename_i h1
      rw [if_neg (by omega), if_pos (by omega), if_pos h1]; omega
    · rename_i h1
      split at h
      · rename_i h2
        rw [if_pos (by omega), if_neg h1, if_pos h2]
      · omega
theorem map_turn (l : List Int) : (l.map turn).map card = l.map card := by rw [List.map_map]; exact List.map_congr_left fun x _ => card_turn x
abbrev Pm (q p : List Int) : Prop := (q.map card).Perm (p.map card)
theorem Pm.of {q p : List Int} (h : q.Perm p) : Pm q p := h.map card
theorem fz_perm : ∀ (n : Nat) (f : Bool) (a b : List Int), a.length + b.length = n → (fz f a b).Perm (a ++ b)
  | n, f, [], [], h => by unfold fz; exact .refl _
  | n, f, x :: a, [], h => by
    match n, h with
    | n + 1, h =>
    unfold fz
    exact (fz_perm n (!f) a [] (by simp at h ⊢; omega)).cons x
  | n, f, [], y :: b, h => by
    match n, h with
    | n + 1, h =>
    unfold fz
    exact (fz_perm n (!f) [] b (by simp at h ⊢; omega)).cons y
  | n, true, x :: a, y :: b, h => by
    match n, h with
    | n + 1, h =>
    unfold fz
    exact (fz_perm n false a (y :: b) (by simp at h ⊢; omega)).cons x
  | n, false, x :: a, y :: b, h => by
    match n, h with
    | n + 1, h =>
    unfold fz
    exact ((fz_perm n true (x :: a) b (by simp at h ⊢; omega)).cons y).trans List.perm_middle.symm
termination_by n => n
theorem mz_perm (k : Int) : ∀ (r : List Int) (i : Nat) (out : List Int), (mz k i r out).Perm (r ++ out)
  | [], i, out => by unfold mz; exact .refl _
  | x :: r, i, out => by
    unfold mz
    split
    · refine (mz_perm k r (i + 1) (out ++ [x])).trans ?_
      rw [← List.append_assoc]
      exact List.perm_append_comm
    · exact (mz_perm k r (i + 1) (x :: out)).trans List.perm_middle
theorem ends (p : List Int) (h : 1 < p.length) : p = p.getD 0 0 :: ((p.take (p.length - 1)).drop 1 ++ [p.getD (p.length - 1) 0]) := by
  cases p with
  | nil => simp at h
  | cons x r =>
    simp at h
    have hr : r ≠ [] := by intro e; subst e; simp at h
    have e1 : (x :: r).length - 1 = r.length - 1 + 1 := by simp; omega
    rw [e1, List.take_succ_cons, List.drop_one, List.tail_cons]
    have e2 : (x :: r).getD (r.length - 1 + 1) 0 = r.getLast hr := by
      simp only [List.getD, List.getElem?_cons_succ]
      rw [List.getLast_eq_getElem, List.getElem?_eq_getElem (by omega)]
      rfl
    rw [e2, ← List.dropLast_eq_take, List.dropLast_concat_getLast hr]
    rfl
theorem kz_perm : ∀ (n : Nat) (p out : List Int), (kz n p out).Perm (p ++ out)
  | 0, p, out => by unfold kz; exact .refl _
  | n + 1, p, out => by
    unfold kz
    split
    · rename_i h
      refine (kz_perm n _ _).trans ?_
      have e := ends p h
      generalize p.getD 0 0 = x at *
      generalize p.getD (p.length - 1) 0 = y at *
      generalize (p.take (p.length - 1)).drop 1 = m at *
      rw [e]
      refine List.perm_middle.trans (List.Perm.cons x ?_)
      simp
    · exact .refl _
theorem dz_perm : ∀ (n : Nat) (f : Bool) (q out : List Int), 1 ≤ q.length → 2 * q.length + (bif f then 0 else 1) ≤ n → (dz n f q out).Perm (q ++ out)
  | 0, f, q, out, h, hn => by omega
  | n + 1, f, q, out, h, hn => by
    unfold dz
    cases q with
    | nil => simp at h
    | cons x r =>
      split
      · rename_i h1
        cases f with
        | true =>
          simp at h1 hn
          refine (dz_perm n false r (x :: out) (by omega) (by simp; omega)).trans ?_
          exact List.perm_middle
        | false =>
          simp at h1 hn
          refine (dz_perm n true (r ++ [x]) out (by simp) (by simp; omega)).trans ?_
          rw [List.append_assoc]
          exact List.perm_middle
      · rename_i h1
        simp at h1
        subst h1
        exact .refl _
theorem perm_out (p : List Int) (i : Nat) (h : i < p.length) : (p.take i ++ p.drop (i + 1) ++ [p.getD i 0]).Perm p := by
  have e : p = p.take i ++ (p.getD i 0 :: p.drop (i + 1)) := by
    have : p.getD i 0 = p[i] := by simp [List.getD, h]
    rw [this, ← List.drop_eq_getElem_cons h, List.take_append_drop]
  have h1 : (p.take i ++ p.drop (i + 1) ++ [p.getD i 0]).Perm (p.take i ++ (p.getD i 0 :: p.drop (i + 1))) := by
    rw [List.append_assoc]
    exact List.Perm.append_left _ (List.perm_append_comm (l₁ := p.drop (i + 1)) (l₂ := [p.getD i 0]))
  rw [← e] at h1
  exact h1
theorem pm_turned (p : List Int) (k : Nat) : Pm ((p.take k).reverse.map turn ++ p.drop k) p := by
  show (List.map card _).Perm _
  rw [List.map_append, map_turn]
  refine (((List.reverse_perm (p.take k)).map card).append_right _).trans ?_
  rw [← List.map_append, List.take_append_drop]
theorem doMove_pm {p : List Int} {m : Int × Int} (h : MoveFit p.length m) : Pm (doMove p m) p := by
  have h1 := h.n1
  have ht := h.t
  unfold doMove
  split
  · refine Pm.of (List.perm_append_comm.trans ?_)
    rw [List.take_append_drop]
  split
  · refine Pm.of (((List.reverse_perm (p.take m.2.toNat)).append_right _).trans ?_)
    rw [List.take_append_drop]
  split
  · exact pm_turned p _
  split
  · unfold faroL
    refine Pm.of ((fz_perm _ _ _ _ rfl).trans ?_)
    rw [List.take_append_drop]
  split
  · exact Pm.of ((mz_perm m.2 p 0 []).trans (by simp))
  split
  · exact Pm.of ((kz_perm p.length p []).trans (by simp))
  split
  · exact Pm.of ((dz_perm (2 * p.length + 1) (m.2 == 1) p [] h1 (by cases (m.2 == 1) <;> simp)).trans (by simp))
  split
  · rename_i a1 a2 a3 a4 a5 a6 a7 a8
    have h5 := ht a1 a2 a3 a4 a5 a6 a7
    have h6 := h.k0
    have hlt : m.2.toNat < p.length := by omega
    show (List.map card _).Perm _
    rw [List.map_set, card_turn]
    have e : card (p.getD m.2.toNat 0) = (p.map card)[m.2.toNat]'(by simpa using hlt) := by simp [List.getD, hlt]
    rw [e, List.set_getElem_self]
  · rename_i a1 a2 a3 a4 a5 a6 a7 a8
    have h5 := ht a1 a2 a3 a4 a5 a6 a7
    have h6 := h.k0
    exact Pm.of (perm_out p _ (by omega))
theorem rfi_perm : ∀ (bits : List Bool) (f s : Nat), (rfi f s bits).Perm (List.range' f (zerosB bits) ++ List.range' s (onesB bits))
  | [], f, s => by simp [rfi, zerosB, onesB]
  | true :: r, f, s => by
    unfold rfi zerosB onesB
    rw [List.range'_succ]
    exact ((rfi_perm r f (s + 1)).cons s).trans List.perm_middle.symm
  | false :: r, f, s => by
    unfold rfi zerosB onesB
    rw [List.range'_succ]
    exact (rfi_perm r (f + 1) s).cons f
theorem riffp_perm (p : List Int) (w : Nat) : (riffp p w).Perm p := by
  unfold riffp
  rw [rfp_rfi]
  have hz := zo_len (bitsD p.length w)
  rw [bitsD_len] at hz
  refine ((rfi_perm _ _ _).map _).trans ?_
  have e : List.range' 0 (zerosB (bitsD p.length w)) ++ List.range' (zerosB (bitsD p.length w)) (onesB (bitsD p.length w)) = List.range p.length := by
    have := List.range'_append_1 (s := 0) (m := zerosB (bitsD p.length w)) (n := onesB (bitsD p.length w))
    rw [Nat.zero_add] at this
    rw [this, List.range_eq_range']
    congr 1
  rw [e]
  have : (List.range p.length).map (fun i => p.getD i 0) = p := by
    apply List.ext_getElem
    · simp
    · intro i h1 h2
      simp [List.getD, h2]
  rw [this]
theorem allOf_pm {p : List Int} {c : Int} (q : List Int) (hq : q ∈ allOf p c) : Pm q p := by
  have cut : ∀ (p q : List Int), q ∈ cutsL p → q.Perm p := fun p q hq => by
    obtain ⟨i, _, rfl⟩ := List.mem_map.1 hq
    unfold cutL
    refine List.perm_append_comm.trans ?_
    rw [List.take_append_drop]
  unfold allOf at hq
  split at hq
  · exact Pm.of (cut _ _ hq)
  split at hq
  · obtain ⟨w, _, rfl⟩ := List.mem_map.1 hq
    exact Pm.of (riffp_perm p w)
  split at hq
  · exact (Pm.of (cut _ _ hq)).trans (pm_turned p 2)
  split at hq
  · obtain ⟨i, hi, rfl⟩ := List.mem_map.1 hq
    have := List.mem_range.1 hi
    unfold pickL
    exact Pm.of (List.perm_append_comm.trans (perm_out p i this))
  · have : q = p := by simpa using hq
    rw [this]
/-- Packets of the same cards are right as one. -/
theorem pk_of : ∀ (r done : List Int), (done ++ r.map card).Nodup → (∀ x ∈ r, 0 ≤ card x) → pk done r = true
  | [], done, _, _ => rfl
  | x :: r, done, h, h0 => by
    unfold pk
    rw [List.map_cons] at h
    have hx : card x ∉ done := fun hm => (List.nodup_append.1 h).2.2 _ hm _ (by simp) rfl
    rw [decide_eq_true (h0 x (by simp)), pk_of r (done ++ [card x]) (by simpa using h) (fun y hy => h0 y (by simp [hy]))]
    simp [hx]
theorem packetOk_pm {p q : List Int} (h : packetOk p = true) (hq : Pm q p) : packetOk q = true ∧ q.length = p.length := by
  obtain ⟨h1, h2, h3⟩ := packetOk_fit h
  refine ⟨pk_of q [] (by simpa using hq.nodup_iff.2 h1) (fun x hx => ?_), by have := hq.length_eq; simpa using this⟩
  have := hq.mem_iff.1 (List.mem_map.2 ⟨x, hx, rfl⟩)
  obtain ⟨y, hy, e⟩ := List.mem_map.1 this
  have := (h2 y hy).1
  omega
theorem packetOk_ins {p : List Int} (h : packetOk p = true) : Ins p := fun x hx => by
  have := ((packetOk_fit h).2.1 x hx).1
  unfold card at this
  unfold In
  split at this
  · omega
  · split at this <;> omega
end Qq
namespace Qq
open Go Go.Vt Pt
set_option linter.unusedVariables false
set_option linter.unusedSimpArgs false
set_option linter.unnecessarySimpa false
end Qq
namespace Qq
open Go Go.Vt Pt
set_option linter.unusedVariables false
set_option linter.unusedSimpArgs false
set_option linter.unnecessarySimpa false
abbrev StepT : Type := Int × (Int × Int) × Int
def nextOf (c : Scene) (s : StepT) : List Scene :=
  if s.1 = 1 then [(doMove c.1 s.2.1, c.2)] else if s.1 = 3 then [(c.1, card (c.1.getD s.2.2.toNat 0))] else (setL (allOf c.1 s.2.2)).map fun q => (q, c.2)
structure SceneOk (n : Nat) (c : Scene) : Prop where
  ok : packetOk c.1 = true
  len : c.1.length = n
  n0 : -1 ≤ c.2
  n12 : c.2 < 12
inductive StepKind (n : Nat) (s : StepT) : Prop
  | mv (h : s.1 = 1) (m : MoveFit n s.2.1)
  | ch (h : s.1 = 2) (c0 : 0 ≤ s.2.2) (c4 : s.2.2 ≤ 4) (c3 : s.2.2 = 3 → 2 ≤ n) (c2 : s.2.2 = 2 → n ≤ 11)
  | nt (h : s.1 = 3) (a0 : 0 ≤ s.2.2) (an : s.2.2 < n)
theorem stepOk_kind {n : Nat} {s : StepT} (h : stepOk (n : Int) s = true) : 1 ≤ n ∧ n ≤ 12 ∧ StepKind n s := by
  unfold stepOk at h
  simp only [Bool.and_eq_true, decide_eq_true_eq] at h
  obtain ⟨h1, h2, h3⟩ := h
  refine ⟨by omega, by omega, ?_⟩
  split at h3
  · rename_i e
    simp only [Bool.and_eq_true] at h3
    exact .mv e (moveOk_fit h3.1)
  split at h3
  · rename_i e
    simp only [Bool.and_eq_true, decide_eq_true_eq, Bool.or_eq_true, Bool.not_eq_true', beq_eq_false_iff_ne, ne_eq] at h3
    obtain ⟨_, _, a, b, c, d⟩ := h3
    exact .ch e a b (fun q => by rcases c with c | c; exact absurd q c; omega) (fun q => by rcases d with d | d; exact absurd q d; omega)
  split at h3
  · rename_i e
    simp only [Bool.and_eq_true, decide_eq_true_eq] at h3
    exact .nt e h3.2.2.1 h3.2.2.2
  · cases h3
theorem ch_fit {n : Nat} {c : Scene} {s : StepT} (hc : SceneOk n c) (h1 : 1 ≤ n) (h2 : n ≤ 12) (c0 : 0 ≤ s.2.2) (c4 : s.2.2 ≤ 4) (c3 : s.2.2 = 3 → 2 ≤ n) (c2 : s.2.2 = 2 → n ≤ 11) : ChFit c.1 s.2.2 :=
  ⟨hc.ok, by rw [hc.len]; exact h1, by rw [hc.len]; exact h2, c0, c4, fun e => by rw [hc.len]; exact c3 e, fun e => by rw [hc.len]; exact c2 e⟩
theorem next_ok {n : Nat} {c : Scene} {s : StepT} (hc : SceneOk n c) (hs : stepOk (n : Int) s = true) : ∀ d ∈ nextOf c s, SceneOk n d := by
  obtain ⟨h1, h2, hk⟩ := stepOk_kind hs
  intro d hd
  unfold nextOf at hd
  rcases hk with ⟨e, m⟩ | ⟨e, c0, c4, c3, c2⟩ | ⟨e, a0, an⟩
  · rw [if_pos e] at hd
    have hd : d = (doMove c.1 s.2.1, c.2) := by simpa using hd
    subst hd
    have := packetOk_pm hc.ok (doMove_pm (by rw [hc.len]; exact m))
    exact ⟨this.1, this.2.trans hc.len, hc.n0, hc.n12⟩
  · rw [if_neg (by omega), if_neg (by omega)] at hd
    obtain ⟨q, hq, rfl⟩ := List.mem_map.1 hd
    have := packetOk_pm hc.ok (allOf_pm q ((setL_mem _ q).1 hq))
    exact ⟨this.1, this.2.trans hc.len, hc.n0, hc.n12⟩
  · rw [if_neg (by omega), if_pos e] at hd
    have hd : d = (c.1, card (c.1.getD s.2.2.toNat 0)) := by simpa using hd
    subst hd
    have := card_lt (c.1.getD s.2.2.toNat 0)
    exact ⟨hc.ok, hc.len, this.1, by show card _ < 12; omega⟩
theorem allOf_one {p : List Int} {c : Int} (h : ChFit p c) : allOf p c ≠ [] := by
  have h1 := h.l1
  unfold allOf
  split
  · intro e; have := congrArg List.length e; unfold cutsL at this; rw [List.length_map, List.length_range, List.length_nil] at this; omega
  split
  · intro e; have := congrArg List.length e; simp [riffsB] at this
  split
  · intro e; have := congrArg List.length e; unfold cutsL at this; rw [List.length_map, List.length_range, List.length_nil, flip2_len] at this; omega
  split
  · intro e; have := congrArg List.length e; unfold picksL at this; rw [List.length_map, List.length_range, List.length_nil] at this; omega
  · simp
theorem next_len {n : Nat} {c : Scene} {s : StepT} (hc : SceneOk n c) (hs : stepOk (n : Int) s = true) : 1 ≤ (nextOf c s).length ∧ (nextOf c s).length ≤ 4096 := by
  obtain ⟨h1, h2, hk⟩ := stepOk_kind hs
  unfold nextOf
  split
  · simp
  split
  · simp
  · rename_i a b
    rcases hk with ⟨e, m⟩ | ⟨e, c0, c4, c3, c2⟩ | ⟨e, a0, an⟩
    · exact absurd e a
    · have hf := ch_fit hc h1 h2 c0 c4 c3 c2
      have hs := (allOf_small (c := s.2.2) hf.l12).1
      have := setL_len (allOf c.1 s.2.2)
      rw [List.length_map]
      refine ⟨?_, by omega⟩
      rcases Nat.eq_zero_or_pos (setL (allOf c.1 s.2.2)).length with h0 | h0
      · exfalso
        have hne := allOf_one hf
        cases hl : allOf c.1 s.2.2 with
        | nil => exact hne hl
        | cons q r =>
          have := (setL_mem (allOf c.1 s.2.2) q).2 (by rw [hl]; simp)
          rw [List.eq_nil_of_length_eq_zero h0] at this
          cases this
      · exact h0
    · exact absurd e b
theorem i_NextScenes_l11_ev (p : List Int) (x : Int) (l : List (List Int)) (hl : l.length ≤ 16384) : ∀ (r : List (List Int)) (i : Nat) (out : List Scene), l.drop i = r → out.length = i →
    Ev (fun k => i_NextScenes_l11 k (l.length : Int) (i : Int) p x out l i) (out ++ r.map fun q => (q, x))
  | [], i, out, h, ho => by
    have a := at_nil h
    refine Ev.step (fun k => i_NextScenes_l11_eq k _ _ _ _ _ _ _) ?_
    simp only [a.g, cond_false]
    exact Ev.some (by simp)
  | q :: r, i, out, h, ho => by
    have a := at_cons h (by rw [maxLen_eq]; omega)
    have hlt := a.lt
    refine Ev.step (fun k => i_NextScenes_l11_eq k _ _ _ _ _ _ _) ?_
    simp only [a.g, a.z, a.n, a.get, a.w, cond_true]
    refine Ev.yes (by simp) (Ev.yes (by rw [rowMax_eq]; simp; omega) ?_)
    exact (i_NextScenes_l11_ev p x l hl r (i + 1) (out ++ [(q, x)]) a.next (by simp [ho])).to (by simp)
theorem i_NextScenes_ev (c : Scene) (s : StepT) (a : c.1.length ≤ maxLen) (hi : Ins c.1) :
    Ev (fun k => i_NextScenes k (c, s)) (if packetOk c.1 && (decide (-1 ≤ c.2 ∧ c.2 < 12) && stepOk (c.1.length : Int) s) then nextOf c s else []) := by
  obtain ⟨p, x⟩ := c
  refine Ev.step (fun k => i_NextScenes_eq k (p, x) s) (Ev.bind (i_PacketOk_ev p a hi) (Ev.ite (fun h => Ev.some ?_) (fun h => Ev.ite (fun h2 => Ev.some ?_) (fun h2 => Ev.ite (fun h3 => Ev.some ?_) (fun h3 => Ev.bind (i_StepOk_ev _ s) (Ev.ite (fun h4 => Ev.some ?_) (fun h4 => ?_)))))))
  · have : packetOk p = false := by simpa using h
    simp [this]
  · have : ¬ -1 ≤ x := by simpa using h2
    simp [this]
  · have : ¬ x < 12 := by simpa using h3
    simp [this]
  · have : stepOk (p.length : Int) s = false := by simpa using h4
    simp [this]
  · have e1 : packetOk p = true := by simpa using h
    have e2 : -1 ≤ x := by have : ¬ x < -1 := by simpa using h2
                           omega
    have e3 : x < 12 := by simpa using h3
    have e4 : stepOk (p.length : Int) s = true := by simpa using h4
    have hc : SceneOk p.length (p, x) := ⟨e1, rfl, e2, e3⟩
    rw [if_pos (by simp [e1, e2, e3, e4])]
    obtain ⟨h1, h2, hk⟩ := stepOk_kind e4
    unfold nextOf
    rcases hk with ⟨e, m⟩ | ⟨e, c0, c4, c3, c2⟩ | ⟨e, a0, an⟩
    · rw [if_pos e]
      exact Ev.yes (by simp [e]) (Ev.bind (i_moved_ev p s.2.1 m hi) (Ev.pure _))
    · rw [if_neg (by omega), if_neg (by omega)]
      have hf := ch_fit hc h1 h2 c0 c4 c3 c2
      have hsm : (allOf p s.2.2).length ≤ 4096 ∧ ∀ q ∈ allOf p s.2.2, q.length ≤ 12 := allOf_small (c := s.2.2) hf.l12
      have hsl := setL_len (allOf p s.2.2)
      have hok : chOk p s.2.2 = true := by
        unfold chOk
        have a3 : ¬ (s.2.2 = 3 ∧ p.length < 2) := fun h => by have := c3 h.1; omega
        have a2 : ¬ (s.2.2 = 2 ∧ 12 ≤ p.length) := fun h => by have := c2 h.1; omega
        rw [e1, decide_eq_true ⟨c0, c4⟩]
        simp only [Bool.true_and, Bool.and_eq_true, Bool.not_eq_true', Bool.and_eq_false_iff, decide_eq_false_iff_not, beq_eq_false_iff_ne]
        refine ⟨by omega, ?_, ?_⟩
        · by_cases q : s.2.2 = 3
          · exact .inr fun h => a3 ⟨q, h⟩
          · exact .inl q
        · by_cases q : s.2.2 = 2
          · exact .inr fun h => a2 ⟨q, h⟩
          · exact .inl q
      have er : resOf p s.2.2 = (setL (allOf p s.2.2), true) := by unfold resOf; rw [if_pos hok]
      refine Ev.no (by simp [e]) (Ev.no (by simp [e]) (Ev.bind (i_ResultsOf_ev p s.2.2 a hi) ?_))
      rw [er]
      exact i_NextScenes_l11_ev p x _ (by have := hsm.1; show (setL (allOf p s.2.2)).length ≤ _; omega) _ 0 [] rfl rfl
    · rw [if_neg (by omega), if_pos e]
      refine Ev.no (by simp [e]) (Ev.yes (by simp [e]) (Ev.bind (Clone_int_ev p (by omega)) (Ev.yes (by simpa using a0) (Ev.yes (by simpa using an) (Ev.bind (i_CardOf_ev _ ?_) (Ev.pure _))))))
      have hlt : s.2.2.toNat < p.length := by omega
      have : p.getD s.2.2.toNat 0 = p[s.2.2.toNat] := by simp [List.getD, hlt]
      rw [this]
      exact hi _ (List.getElem_mem hlt)
/-- The program's, at a scene and a step that are right. -/
theorem i_NextScenes_ok {n : Nat} {c : Scene} {s : StepT} (hc : SceneOk n c) (hs : stepOk (n : Int) s = true) : Ev (fun k => i_NextScenes k (c, s)) (nextOf c s) := by
  obtain ⟨h1, h2, hk⟩ := stepOk_kind hs
  have := i_NextScenes_ev c s (by rw [hc.len, maxLen_eq]; omega) (packetOk_ins hc.ok)
  rw [hc.len, hc.ok, hs, decide_eq_true ⟨hc.n0, hc.n12⟩] at this
  exact this
end Qq
namespace Qq
open Go Go.Vt Pt
set_option linter.unusedVariables false
set_option linter.unusedSimpArgs false
def strB (l : List UInt8) : ByteArray := ⟨l.toArray⟩
theorem strB_add (a b : List UInt8) : strB a ++ strB b = strB (a ++ b) := by unfold strB; apply ByteArray.ext; simp
theorem strB_size (a : List UInt8) : (strB a).size = a.length := by simp [strB, ByteArray.size]
def itoaB (n : Int) : ByteArray := strB (Lib.itoa n)
theorem dec_small {u : Nat} (h : u < 10) : Lib.decDigits u = [UInt8.ofNat (48 + u)] := by rw [Lib.decDigits, dif_pos h]
theorem dec_big {u : Nat} (h : ¬ u < 10) : Lib.decDigits u = Lib.decDigits (u / 10) ++ [UInt8.ofNat (48 + u % 10)] := by rw [Lib.decDigits, dif_neg h]
theorem Itoa_ev (n : Int) (hn : In n) : Ev (fun k => strconv_Itoa k n) (itoaB n) := by
  refine Ev.congr (fun k => strconv_Itoa_eq k n) ?_
  unfold itoaF
  refine Ev.yes ?_ (Ev.pure _)
  unfold In at hn
  simp; exact hn
theorem i_FormatInt_ev (n : Int) (hn : In n) : Ev (fun k => i_FormatInt k n) (itoaB n) :=
  Ev.step (fun k => i_FormatInt_eq k n) (Ev.bind (Itoa_ev n hn) (Ev.pure _))
theorem itoaB_size (n : Int) (hn : In n) : (itoaB n).size ≤ 21 := by
  unfold In at hn
  rw [itoaB, strB_size]
  exact Lib.itoa_length_le n hn.1 hn.2
end Qq
namespace Qq
open Go Go.Vt Pt
set_option linter.unusedVariables false
set_option linter.unusedSimpArgs false
def bytesOf (x : ByteArray) : List UInt8 := x.data.toList
theorem bytes_len (x : ByteArray) : (bytesOf x).length = x.size := by unfold bytesOf; simp
def joinL (l : List ByteArray) (sep : ByteArray) : List UInt8 := Lib.join (l.map bytesOf) (bytesOf sep)
def joinB (l : List ByteArray) (sep : ByteArray) : ByteArray := strB (joinL l sep)
theorem joinTail_len {B S : Nat} (sep : List UInt8) (hs : sep.length ≤ S) : ∀ (r : List ByteArray), (∀ x ∈ r, x.size ≤ B) → (Lib.joinTail sep (r.map bytesOf)).length ≤ r.length * (B + S)
  | [], _ => by simp [Lib.joinTail]
  | x :: r, h => by
    have ih := joinTail_len sep hs r (fun y hy => h y (by simp [hy]))
    have hx := h x (by simp)
    have e : Lib.joinTail sep ((x :: r).map bytesOf) = (sep ++ bytesOf x) ++ Lib.joinTail sep (r.map bytesOf) := by simp [Lib.joinTail]
    rw [e, List.length_append, List.length_append, bytes_len, List.length_cons, Nat.add_mul, Nat.one_mul]
    omega
theorem join_len {B S : Nat} (sep : ByteArray) (hs : sep.size ≤ S) (l : List ByteArray) (h : ∀ x ∈ l, x.size ≤ B) : (joinL l sep).length ≤ l.length * (B + S) := by
  cases l with
  | nil => simp [joinL, Lib.join_nil]
  | cons x r =>
    have hx := h x (by simp)
    have := joinTail_len (B := B) (S := S) (bytesOf sep) (by rw [bytes_len]; exact hs) r (fun y hy => h y (by simp [hy]))
    unfold joinL
    rw [List.map_cons, Lib.join_cons, List.length_append, bytes_len, List.length_cons, Nat.add_mul, Nat.one_mul]
    omega
theorem i_Join_ev (l : List ByteArray) (sep : ByteArray) (B : Nat) (hl : l.length ≤ 1048576) (hB : ∀ x ∈ l, x.size ≤ B) (hBB : B ≤ 100) (hs : sep.size ≤ 100) : Ev (fun k => i_Join k (l, sep)) (joinB l sep) := by
  refine Ev.step (fun k => i_Join_eq k l sep) (Ev.bind (Ev.congr (fun k => strings_Join_eq k l sep) ?_) (Ev.pure _))
  unfold joinF
  have jl := join_len (B := B) (S := 100) sep hs l hB
  have hmul : l.length * (B + 100) ≤ 1048576 * 200 := Nat.mul_le_mul hl (by omega)
  refine Ev.yes ?_ (Ev.pure _)
  rw [Bool.and_eq_true, decide_eq_true_eq, decide_eq_true_eq]
  exact ⟨by omega, by show (joinL l sep).length ≤ _; omega⟩
theorem numbersOf_l3_ev (xs : List Int) (hm : xs.length ≤ 1048576) (hi : Ins xs) : ∀ (r : List Int) (i : Nat), xs.drop i = r → Ev (fun k => i_numbersOf_l3 k xs (xs.length : Int) (i : Int) ((xs.take i).map itoaB)) (xs.map itoaB)
  | [], i, h => by
    have a := at_nil h
    refine Ev.step (fun k => i_numbersOf_l3_eq k _ _ _ _) ?_
    simp only [a.g, cond_false]
    exact Ev.some (by rw [List.take_of_length_le a.ge])
  | x :: r, i, h => by
    have a := at_cons h (by rw [maxLen_eq]; omega)
    have hlt := a.lt
    have hx : In x := hi x (List.mem_of_mem_drop (h ▸ List.mem_cons_self))
    refine Ev.step (fun k => i_numbersOf_l3_eq k _ _ _ _) ?_
    simp only [a.g, a.z, a.get, a.w, cond_true]
    refine Ev.bind (i_FormatInt_ev x hx) (Ev.yes (by rw [rowMax_eq]; simp; omega) ?_)
    have := numbersOf_l3_ev xs hm hi r (i + 1) a.next
    rw [List.take_succ_eq_append_getElem hlt, List.map_append] at this
    have e : xs[i] = x := by have := a.get 0; rw [Int.toNat_natCast, List.getD, List.getElem?_eq_getElem hlt] at this; exact this
    rw [e] at this
    exact this
theorem numbersOf_ev (xs : List Int) (hm : xs.length ≤ 1048576) (hi : Ins xs) : Ev (fun k => i_numbersOf k xs) (xs.map itoaB) :=
  Ev.step (fun k => i_numbersOf_eq k xs) (numbersOf_l3_ev xs hm hi xs 0 rfl)
theorem itoaB_map_size {xs : List Int} (hi : Ins xs) : ∀ x ∈ xs.map itoaB, x.size ≤ 21 := by
  intro x hx
  obtain ⟨n, hn, rfl⟩ := List.mem_map.1 hx
  exact itoaB_size n (hi n hn)
end Qq
namespace Qq
open Go Go.Vt Pt
set_option linter.unusedVariables false
set_option linter.unusedSimpArgs false
def formatPicks (xs : List Int) : ByteArray := if xs = [] then ⟨#[45]⟩ else joinB (xs.map itoaB) ⟨#[44]⟩
theorem i_FormatPicks_ev (xs : List Int) (hm : xs.length ≤ 1048576) (hi : Ins xs) : Ev (fun k => i_FormatPicks k xs) (formatPicks xs) := by
  refine Ev.step (fun k => i_FormatPicks_eq k xs) ?_
  unfold formatPicks
  refine Ev.ite (fun h => Ev.some ?_) (fun h => ?_)
  · have : xs = [] := by simp at h; exact h
    rw [if_pos this]
  · have : ¬ xs = [] := by simp at h; exact h
    rw [if_neg this]
    exact Ev.bind (numbersOf_ev xs hm hi) (Ev.bind (i_Join_ev _ _ 21 (by simpa using hm) (itoaB_map_size hi) (by omega) (by show (1 : Nat) ≤ _; omega)) (Ev.pure _))
end Qq
namespace Qq
open Go Go.Vt Pt
set_option linter.unusedVariables false
set_option linter.unusedSimpArgs false
set_option linter.unnecessarySimpa false
def numB (l : List UInt8) : Nat := l.foldl (fun a c => a * 10 + (c.toNat - 48)) 0
theorem byte48 {d : Nat} (h : d < 10) : (UInt8.ofNat (48 + d)).toNat = 48 + d := by
  rw [UInt8.toNat_ofNat']; omega
theorem dec_facts : ∀ (n u : Nat), u ≤ n → numB (Lib.decDigits u) = u ∧ (∀ c ∈ Lib.decDigits u, 48 ≤ c.toNat ∧ c.toNat ≤ 57) ∧ Lib.decDigits u ≠ []
  | n, u, h => by
    by_cases hu : u < 10
    · rw [dec_small hu]
      refine ⟨by simp only [numB, List.foldl_cons, List.foldl_nil, byte48 hu]; omega, fun c hc => ?_, by simp⟩
      have : c = UInt8.ofNat (48 + u) := by simpa using hc
      rw [this, byte48 hu]; omega
    · match n, h with
      | 0, h => omega
      | n + 1, h =>
      have hd : u % 10 < 10 := Nat.mod_lt _ (by omega)
      obtain ⟨h1, h2, h3⟩ := dec_facts n (u / 10) (by omega)
      rw [dec_big hu]
      refine ⟨?_, fun c hc => ?_, by simp⟩
      · unfold numB at h1 ⊢
        rw [List.foldl_append, h1]
        simp only [List.foldl_cons, List.foldl_nil, byte48 hd]
        omega
      · rcases List.mem_append.1 hc with hc | hc
        · exact h2 c hc
        · have : c = UInt8.ofNat (48 + u % 10) := by simpa using hc
          rw [this, byte48 hd]; omega
theorem itoa_byte (n : Int) : ∀ c ∈ Lib.itoa n, c ≠ 44 ∧ c ≠ 47 := by
  intro c hc
  have key : c = 45 ∨ (48 ≤ c.toNat ∧ c.toNat ≤ 57) := by
    unfold Lib.itoa at hc
    split at hc
    · rcases List.mem_cons.1 hc with rfl | hc
      · exact .inl rfl
      · exact .inr ((dec_facts _ _ (Nat.le_refl _)).2.1 c hc)
    · exact .inr ((dec_facts _ _ (Nat.le_refl _)).2.1 c hc)
  refine ⟨fun e => ?_, fun e => ?_⟩
  · subst e
    rcases key with h | h
    · exact absurd h (by decide)
    · have : (44 : UInt8).toNat = 44 := rfl
      omega
  · subst e
    rcases key with h | h
    · exact absurd h (by decide)
    · have : (47 : UInt8).toNat = 47 := rfl
      omega
theorem itoa_inj {a b : Int} (h : Lib.itoa a = Lib.itoa b) : a = b := by
  have pos : ∀ (u : Nat) (l : List UInt8), Lib.decDigits u = 45 :: l → False := fun u l e => by
    have := ((dec_facts _ u (Nat.le_refl _)).2.1 45 (by rw [e]; simp)).1
    exact absurd this (by decide)
  have val : ∀ u v : Nat, Lib.decDigits u = Lib.decDigits v → u = v := fun u v e => by
    rw [← (dec_facts _ u (Nat.le_refl _)).1, ← (dec_facts _ v (Nat.le_refl _)).1, e]
  unfold Lib.itoa at h
  split at h
  · split at h
    · have := val _ _ (List.cons.inj h).2
      omega
    · exact (pos _ _ h.symm).elim
  · split at h
    · exact (pos _ _ h).elim
    · have := val _ _ h
      omega
theorem cut_eq {s : UInt8} : ∀ {A A' B B' : List UInt8}, s ∉ A → s ∉ A' → A ++ s :: B = A' ++ s :: B' → A = A' ∧ B = B'
  | [], [], B, B', _, _, h => ⟨rfl, (List.cons.inj h).2⟩
  | [], y :: A', B, B', _, h2, h => (h2 (by rw [(List.cons.inj h).1]; simp)).elim
  | x :: A, [], B, B', h1, _, h => (h1 (by rw [← (List.cons.inj h).1]; simp)).elim
  | x :: A, y :: A', B, B', h1, h2, h => by
    have e := List.cons.inj h
    obtain ⟨e1, e2⟩ := cut_eq (A := A) (A' := A') (fun hm => h1 (by simp [hm])) (fun hm => h2 (by simp [hm])) e.2
    exact ⟨by rw [e.1, e1], e2⟩
theorem tail_cons (s : UInt8) (x : List UInt8) (r : List (List UInt8)) : Lib.joinTail [s] (x :: r) = s :: (x ++ Lib.joinTail [s] r) := by simp [Lib.joinTail]
theorem join_inj {s : UInt8} : ∀ {x y : List UInt8} {r q : List (List UInt8)}, (∀ z ∈ x :: r, s ∉ z) → (∀ z ∈ y :: q, s ∉ z) → x ++ Lib.joinTail [s] r = y ++ Lib.joinTail [s] q → x :: r = y :: q
  | x, y, [], [], _, _, h => by simpa [Lib.joinTail] using h
  | x, y, [], z :: q, h1, _, h => by
    rw [tail_cons] at h
    exact (h1 x (by simp) (by have : s ∈ x ++ Lib.joinTail [s] [] := by rw [h]; simp
                              simpa [Lib.joinTail] using this)).elim
  | x, y, z :: r, [], _, h2, h => by
    rw [tail_cons] at h
    exact (h2 y (by simp) (by have : s ∈ y ++ Lib.joinTail [s] [] := by rw [← h]; simp
                              simpa [Lib.joinTail] using this)).elim
  | x, y, z :: r, u :: q, h1, h2, h => by
    rw [tail_cons, tail_cons] at h
    obtain ⟨e1, e2⟩ := cut_eq (h1 x (by simp)) (h2 y (by simp)) h
    rw [e1, join_inj (fun w hw => h1 w (by simp [hw])) (fun w hw => h2 w (by simp [hw])) e2]
def keyB (c : Scene) : ByteArray := (formatPicks c.1 ++ (⟨#[47]⟩ : ByteArray)) ++ itoaB c.2
theorem keyB_bytes (c : Scene) (h : c.1 ≠ []) : keyB c = strB (Lib.join (c.1.map Lib.itoa) [44] ++ 47 :: Lib.itoa c.2) := by
  unfold keyB formatPicks itoaB
  rw [if_neg h]
  have e1 : joinB (c.1.map itoaB) ⟨#[44]⟩ = strB (Lib.join (c.1.map Lib.itoa) [44]) := by
    unfold joinB joinL
    rw [List.map_map]
    congr 2
  have e2 : (⟨#[47]⟩ : ByteArray) = strB [47] := rfl
  show joinB (c.1.map itoaB) ⟨#[44]⟩ ++ (⟨#[47]⟩ : ByteArray) ++ strB (Lib.itoa c.2) = _
  rw [e1, e2, strB_add, strB_add]
  congr 1
  simp
theorem join_byte {s : UInt8} (hs : s ≠ 44) : ∀ {x : List UInt8} {r : List (List UInt8)}, (∀ z ∈ x :: r, s ∉ z) → s ∉ x ++ Lib.joinTail [44] r
  | x, [], h => by simpa [Lib.joinTail] using h x (by simp)
  | x, y :: r, h => by
    rw [tail_cons]
    intro hm
    rcases List.mem_append.1 hm with hm | hm
    · exact h x (by simp) hm
    · rcases List.mem_cons.1 hm with hm | hm
      · exact hs hm
      · exact join_byte hs (x := y) (r := r) (fun z hz => h z (by simp at hz ⊢; exact .inr hz)) hm
theorem map_itoa_inj : ∀ {p q : List Int}, p.map Lib.itoa = q.map Lib.itoa → p = q
  | [], [], _ => rfl
  | [], _ :: _, h => by simp at h
  | _ :: _, [], h => by simp at h
  | x :: p, y :: q, h => by
    simp only [List.map_cons, List.cons.injEq] at h
    rw [itoa_inj h.1, map_itoa_inj h.2]
theorem keyB_inj {c d : Scene} (hc : c.1 ≠ []) (hd : d.1 ≠ []) (h : keyB c = keyB d) : c = d := by
  rw [keyB_bytes c hc, keyB_bytes d hd] at h
  have h' : Lib.join (c.1.map Lib.itoa) [44] ++ 47 :: Lib.itoa c.2 = Lib.join (d.1.map Lib.itoa) [44] ++ 47 :: Lib.itoa d.2 := by
    have := congrArg (fun b => b.data.toList) h
    simpa [strB] using this
  obtain ⟨p, n⟩ := c
  obtain ⟨q, m⟩ := d
  cases p with
  | nil => exact (hc rfl).elim
  | cons x p =>
    cases q with
    | nil => exact (hd rfl).elim
    | cons y q =>
      rw [List.map_cons, List.map_cons, Lib.join_cons, Lib.join_cons] at h'
      have nb : ∀ (x : Int) (p : List Int), ∀ z ∈ Lib.itoa x :: p.map Lib.itoa, (47 : UInt8) ∉ z ∧ (44 : UInt8) ∉ z := fun x p z hz => by
        have : ∃ n, z = Lib.itoa n := by
          rcases List.mem_cons.1 hz with rfl | hz
          · exact ⟨x, rfl⟩
          · obtain ⟨n, _, rfl⟩ := List.mem_map.1 hz
            exact ⟨n, rfl⟩
        obtain ⟨n, rfl⟩ := this
        exact ⟨fun hm => (itoa_byte n _ hm).2 rfl, fun hm => (itoa_byte n _ hm).1 rfl⟩
      obtain ⟨e1, e2⟩ := cut_eq (join_byte (by decide) fun z hz => (nb x p z hz).1) (join_byte (by decide) fun z hz => (nb y q z hz).1) h'
      have e3 := join_inj (fun z hz => (nb x p z hz).2) (fun z hz => (nb y q z hz).2) e1
      have e4 := map_itoa_inj (p := x :: p) (q := y :: q) (by simpa using e3)
      have e5 := itoa_inj e2
      dsimp only at e5
      rw [e4, e5]
theorem mpHas_map {l : List Scene} {x : Scene} (hl : ∀ c ∈ l, c.1 ≠ []) (hx : x.1 ≠ []) : mpHas (l.map keyB) (keyB x) = decide (x ∈ l) := by
  rw [Bool.eq_iff_iff, decide_eq_true_eq]
  unfold mpHas
  rw [List.any_eq_true]
  constructor
  · rintro ⟨k, hk, he⟩
    obtain ⟨c, hc, rfl⟩ := List.mem_map.1 hk
    rw [keyB_inj hx (hl c hc) (beqBA he)]
    exact hc
  · intro hm
    exact ⟨keyB x, List.mem_map.2 ⟨x, hm, rfl⟩, beqBA_self _⟩
theorem i_keyOf_ev (c : Scene) (h : c.1.length ≤ 12) (hi : Ins c.1) (hn : In c.2) : Ev (fun k => i_keyOf k c) (keyB c) := by
  obtain ⟨p, n⟩ := c
  have h1 : (formatPicks p).size ≤ 1000 := by
    unfold formatPicks
    split
    · decide
    · have := join_len (B := 21) (S := 1) (⟨#[44]⟩ : ByteArray) (by decide) (p.map itoaB) (itoaB_map_size hi)
      rw [List.length_map] at this
      rw [joinB, strB_size]
      have h : p.length ≤ 12 := h
      omega
  have h2 := itoaB_size n hn
  have h3 : (⟨#[47]⟩ : ByteArray).size = 1 := rfl
  refine Ev.step (fun k => i_keyOf_eq k (p, n)) (Ev.bind (i_FormatPicks_ev p (by have h : p.length ≤ 12 := h; omega) hi) (Ev.yes (decide_eq_true (by omega)) (Ev.bind (i_FormatInt_ev n hn) (Ev.yes (decide_eq_true (by rw [ByteArray.size_append]; omega)) (Ev.some rfl)))))
end Qq
namespace Qq
open Go Go.Vt Pt
set_option linter.unusedVariables false
set_option linter.unusedSimpArgs false
end Qq
namespace Qq
open Go Go.Vt Pt
set_option linter.unusedVariables false
set_option linter.unusedSimpArgs false
def startScene (t : Trick) : List Int × Int × Bool := if trickOk t then (t.1, -1, true) else ([], 0, false)
theorem StartScene_ev (t : Trick) (a1 : t.1.length ≤ maxLen) (ai : Ins t.1) (a2 : t.2.1.length ≤ maxLen) : Ev (fun k => i_StartScene k t) (startScene t) := by
  refine Ev.step (fun k => i_StartScene_eq k t) (Ev.bind (i_TrickOk_ev t a1 ai a2) (Ev.ite (fun h => Ev.some ?_) (fun h => ?_)))
  · have : trickOk t = false := by simpa using h
    simp [startScene, this]
  · have e : trickOk t = true := by simpa using h
    have hl := trickOk_len e
    refine Ev.bind (Clone_int_ev t.1 (by omega)) ?_
    have : (!t.1.isEmpty) = true := by
      cases hx : t.1 with
      | nil => rw [hx] at hl; simp at hl
      | cons => rfl
    rw [this]
    exact Ev.some (by simp [startScene, e])
end Qq
namespace Qq
open Go Go.Vt Pt
set_option linter.unusedVariables false
set_option linter.unusedSimpArgs false
end Qq
namespace Qq
open Go Go.Vt Pt
set_option linter.unusedVariables false
set_option linter.unusedSimpArgs false
set_option linter.unnecessarySimpa false
abbrev Way : Type := Scene × List Int
/-- The scenes of a list that are new, each behind those before, with the picks that lead to it. -/
def addP (s : StepT) (w : List Int) : Nat → List Scene → List Way → List Way
  | _, [], acc => acc
  | j, x :: r, acc => if x ∈ acc.map Prod.fst then addP s w (j + 1) r acc else addP s w (j + 1) r (acc ++ [(x, if s.1 = 2 then w ++ [(j : Int)] else w)])
def goP (s : StepT) : List Way → List Way → List Way
  | [], acc => acc
  | c :: r, acc => goP s r (addP s c.2 0 (nextOf c.1 s) acc)
def endsP : List StepT → List Way → Option (List Way)
  | [], l => some l
  | s :: r, l => if (goP s l []).length ≤ 3000 then endsP r (goP s l []) else none
end Qq
namespace Qq
open Go Go.Vt Pt
set_option linter.unusedVariables false
set_option linter.unusedSimpArgs false
set_option linter.unnecessarySimpa false
theorem endsP_cons (s : StepT) (r : List StepT) (l : List Way) : endsP (s :: r) l = if (goP s l []).length ≤ 3000 then endsP r (goP s l []) else none := rfl
def startW (t : Trick) : List Way := [((t.1, -1), [])]
theorem trick_start {t : Trick} (h : trickOk t = true) : SceneOk t.1.length (t.1, -1) ∧ (∀ s ∈ t.2.1, stepOk (t.1.length : Int) s = true) := by
  refine ⟨⟨(trickOk_len h).2.2.2, rfl, by show (-1 : Int) ≤ -1; decide, by show (-1 : Int) < 12; decide⟩, ?_⟩
  unfold trickOk at h
  simp only [Bool.and_eq_true] at h
  exact fun s hs => List.all_eq_true.1 h.2.2.2.1 s hs
def addU : List Scene → List Scene → List Scene
  | [], acc => acc | x :: r, acc => if x ∈ acc then addU r acc else addU r (acc ++ [x])
def goU (s : StepT) : List Scene → List Scene → List Scene
  | [], acc => acc | c :: r, acc => goU s r (addU (nextOf c s) acc)
theorem addU_len : ∀ (r acc : List Scene), acc.length ≤ (addU r acc).length ∧ (addU r acc).length ≤ acc.length + r.length
  | [], _ => ⟨Nat.le_refl _, Nat.le_refl _⟩
  | x :: r, acc => by
    unfold addU
    split
    · have := addU_len r acc; simp only [List.length_cons]; omega
    · have := addU_len r (acc ++ [x]); simp only [List.length_cons, List.length_append, List.length_nil] at this ⊢; omega
theorem goU_len (s : StepT) : ∀ (l acc : List Scene), acc.length ≤ (goU s l acc).length
  | [], _ => Nat.le_refl _
  | c :: r, acc => Nat.le_trans (addU_len _ acc).1 (goU_len s r _)
theorem addP_fst (s : StepT) (w : List Int) : ∀ (r : List Scene) (j : Nat) (acc : List Way), (addP s w j r acc).map Prod.fst = addU r (acc.map Prod.fst)
  | [], _, _ => rfl
  | x :: r, j, acc => by
    unfold addP addU
    by_cases h : x ∈ acc.map Prod.fst
    · rw [if_pos h, if_pos h, addP_fst]
    · rw [if_neg h, if_neg h, addP_fst, List.map_append]; rfl
theorem goP_fst (s : StepT) : ∀ (l acc : List Way), (goP s l acc).map Prod.fst = goU s (l.map Prod.fst) (acc.map Prod.fst)
  | [], _ => rfl
  | c :: r, acc => by unfold goP goU; rw [goP_fst, addP_fst]; rfl
def SAll (n : Nat) (l : List Scene) : Prop := ∀ c ∈ l, SceneOk n c
theorem start_all {t : Trick} (h : trickOk t = true) : SAll t.1.length [(t.1, -1)] := by
  intro c hc
  have e : c = (t.1, -1) := by simpa using hc
  rw [e]
  exact (trick_start h).1
/-- The levels from a list on; none if one holds too many. -/
def levU : List StepT → List Scene → Option (List (List Scene))
  | [], l => some [l]
  | s :: r, l => if (goU s l []).length ≤ 3000 then (levU r (goU s l [])).map (l :: ·) else none
theorem levU_cons (s : StepT) (r : List StepT) (l : List Scene) : levU (s :: r) l = if (goU s l []).length ≤ 3000 then (levU r (goU s l [])).map (l :: ·) else none := rfl
def outU (pre : List (List Scene)) : Option (List (List Scene)) → List (List Scene) × Bool
  | some l => (pre ++ l, true) | none => ([], false)
def resU (pre : List (List Scene)) (r : List StepT) (A : List Scene) : List (List Scene) × Bool := if A.length ≤ 3000 then outU pre (levU r A) else outU pre none
theorem key_ok {n : Nat} (h1 : 1 ≤ n) {c : Scene} (hc : SceneOk n c) : c.1 ≠ [] := fun e => by have := hc.len; rw [e] at this; simp at this; omega
theorem lev_ends : ∀ (r : List StepT) (l : List Way), (levU r (l.map Prod.fst)).map (fun L => L.getLastD []) = (endsP r l).map (fun A => A.map Prod.fst) ∧ (∀ L, levU r (l.map Prod.fst) = some L → L.length = r.length + 1)
  | [], l => ⟨rfl, fun L h => by cases h; rfl⟩
  | s :: r, l => by
    have e : goU s (l.map Prod.fst) [] = (goP s l []).map Prod.fst := by rw [goP_fst]; rfl
    have hlen : (goU s (l.map Prod.fst) []).length = (goP s l []).length := by rw [e, List.length_map]
    obtain ⟨h1, h2⟩ := lev_ends r (goP s l [])
    rw [levU_cons, endsP_cons, hlen, e]
    by_cases hc : (goP s l []).length ≤ 3000
    · rw [if_pos hc, if_pos hc]
      constructor
      · rw [← h1]
        cases hL : levU r ((goP s l []).map Prod.fst) with
        | none => rfl
        | some L =>
          have := h2 L hL
          cases L with
          | nil => simp at this
          | cons a L => simp [List.getLastD]
      · intro L hL
        obtain ⟨L', hL', rfl⟩ := Option.map_eq_some_iff.1 hL
        rw [List.length_cons, h2 L' hL', List.length_cons]
    · rw [if_neg hc, if_neg hc]
      exact ⟨rfl, fun L hL => by cases hL⟩
def endsOf (t : Trick) : Option (List Way) := endsP t.2.1 (startW t)
def allScenes (t : Trick) : List Scene × Bool :=
  if trickOk t then (match endsOf t with | some A => (A.map Prod.fst, true) | none => ([], false)) else ([], false)
end Qq
namespace Qq
open Go Go.Vt Pt
set_option linter.unusedVariables false
set_option linter.unusedSimpArgs false
set_option linter.unnecessarySimpa false
theorem next_pm {n : Nat} {p0 : List Int} {c : Scene} {s : StepT} (hc : SceneOk n c) (hp : Pm c.1 p0) (hs : stepOk (n : Int) s = true) : ∀ d ∈ nextOf c s, Pm d.1 p0 := by
  obtain ⟨h1, h2, hk⟩ := stepOk_kind hs
  intro d hd
  unfold nextOf at hd
  rcases hk with ⟨e, m⟩ | ⟨e, c0, c4, c3, c2⟩ | ⟨e, a0, an⟩
  · rw [if_pos e] at hd
    have hd : d = (doMove c.1 s.2.1, c.2) := by simpa using hd
    subst hd
    exact (doMove_pm (by rw [hc.len]; exact m)).trans hp
  · rw [if_neg (by omega), if_neg (by omega)] at hd
    obtain ⟨q, hq, rfl⟩ := List.mem_map.1 hd
    exact (allOf_pm q ((setL_mem _ q).1 hq)).trans hp
  · rw [if_neg (by omega), if_pos e] at hd
    have hd : d = (c.1, card (c.1.getD s.2.2.toNat 0)) := by simpa using hd
    subst hd
    exact hp
theorem posF_mem (c : Int) : ∀ (q : List Int) (i : Nat), c ∈ q.map card → 0 ≤ posF c i q
  | [], _, h => by simp at h
  | x :: q, i, h => by
    unfold posF
    split
    · omega
    · rename_i hne
      refine posF_mem c q (i + 1) ?_
      rw [List.map_cons, List.mem_cons] at h
      rcases h with h | h
      · exact (hne h.symm).elim
      · exact h
theorem isArr_pm {p q : List Int} (h : packetOk p = true) (hq : Pm q p) : isArr p q = true := by
  have h2 := packetOk_pm h hq
  unfold isArr
  rw [h, h2.1, h2.2]
  simp only [Bool.true_and, Bool.and_eq_true, beq_self_eq_true, List.all_eq_true, decide_eq_true_eq, true_and]
  intro x hx
  have hc := ((packetOk_fit h).2.1 x hx).1
  unfold pos
  rw [if_neg (by omega)]
  exact posF_mem _ q 0 (hq.mem_iff.2 (List.mem_map.2 ⟨x, hx, rfl⟩))
end Qq
namespace Qq
open Go Go.Vt Pt
set_option linter.unusedVariables false
set_option linter.unusedSimpArgs false
/-- A list that is valid. -/
structure KL (l : Packs) : Prop where
  ne : l ≠ []
  len : l.length ≤ 3000
  ss : SS l
  arr : ∃ p, packetOk p = true ∧ 1 ≤ p.length ∧ ∀ q ∈ l, Pm q p
theorem KL.pm {l : Packs} (h : KL l) {q q' : List Int} (hq : q ∈ l) (hq' : q' ∈ l) : Pm q q' := by
  obtain ⟨p, _, _, h3⟩ := h.arr
  exact (h3 q hq).trans (h3 q' hq').symm
theorem KL.ok {l : Packs} (h : KL l) {q : List Int} (hq : q ∈ l) : packetOk q = true ∧ 1 ≤ q.length ∧ q.length ≤ 12 := by
  obtain ⟨p, h1, h2, h3⟩ := h.arr
  obtain ⟨k1, k2⟩ := packetOk_pm h1 (h3 q hq)
  exact ⟨k1, by omega, (packetOk_fit k1).2.2⟩
end Qq
namespace Qq
open Go Go.Vt Pt
set_option linter.unusedVariables false
set_option linter.unusedSimpArgs false
def putAll (x : Int) (q : List Int) : Packs := (List.range (q.length + 1)).map fun i => q.take i ++ x :: q.drop i
def arrsC : List Int → Packs
  | [] => [[]]
  | c :: cs => (arrsC cs).flatMap fun q => putAll c q ++ putAll (-1 - c) q
theorem arrsC_len : ∀ (cs : List Int), (∀ q ∈ arrsC cs, q.length = cs.length)
  | [], q, h => by simp [arrsC] at h; simp [h]
  | c :: cs, q, h => by
    obtain ⟨q', h1, h2⟩ := List.mem_flatMap.1 h
    have hl := arrsC_len cs q' h1
    rcases List.mem_append.1 h2 with h2 | h2 <;>
    · obtain ⟨i, hi, rfl⟩ := List.mem_map.1 h2
      have := List.mem_range.1 hi
      simp; omega
def fct : Nat → Nat
  | 0 => 1 | n + 1 => 2 * (n + 1) * fct n
theorem arrsC_count : ∀ (cs : List Int), (arrsC cs).length ≤ fct cs.length
  | [] => by simp [arrsC, fct]
  | c :: cs => by
    have ih := arrsC_count cs
    have hl := arrsC_len cs
    have key : ∀ (l : Packs), (∀ q ∈ l, q.length = cs.length) → (l.flatMap fun q => putAll c q ++ putAll (-1 - c) q).length = 2 * (cs.length + 1) * l.length := by
      intro l
      induction l with
      | nil => intro _; simp
      | cons q l ih2 =>
        intro h
        have hq := h q (by simp)
        have := ih2 (fun x hx => h x (List.mem_cons_of_mem _ hx))
        rw [List.flatMap_cons, List.length_append, this]
        simp only [List.length_append, putAll, List.length_map, List.length_range, List.length_cons, hq]
        have e := Nat.mul_succ (2 * (cs.length + 1)) l.length
        have e2 : l.length + 1 = l.length.succ := rfl
        rw [e2, e]; omega
    show (List.flatMap _ _).length ≤ _
    rw [key _ hl]
    exact Nat.mul_le_mul (Nat.le_refl _) ih
theorem arrsC_mem : ∀ (cs : List Int) (q : List Int), (∀ x ∈ q, 0 ≤ card x) → (q.map card).Perm cs → q ∈ arrsC cs
  | [], q, _, h => by
    have : q = [] := by simpa using h.eq_nil
    subst this; simp [arrsC]
  | c :: cs, q, h0, h => by
    have hc : c ∈ q.map card := h.mem_iff.2 (by simp)
    obtain ⟨x, hx, hxc⟩ := List.mem_map.1 hc
    obtain ⟨a, b, rfl⟩ := List.append_of_mem hx
    have h1 : ((a ++ b).map card).Perm cs := by
      have h2 : ((a ++ x :: b).map card).Perm (c :: (a ++ b).map card) := by
        rw [List.map_append, List.map_cons, hxc, List.map_append]
        exact List.perm_middle
      exact (List.perm_cons c).1 (h2.symm.trans h)
    have ih := arrsC_mem cs (a ++ b) (fun y hy => h0 y (by rcases List.mem_append.1 hy with h | h <;> simp [h])) h1
    refine List.mem_flatMap.2 ⟨a ++ b, ih, ?_⟩
    have hput : ∀ y : Int, a ++ y :: b ∈ putAll y (a ++ b) := fun y => List.mem_map.2 ⟨a.length, List.mem_range.2 (by simp; omega), by simp⟩
    have hx0 := h0 x (by simp)
    have hcase : x = c ∨ x = -1 - c := by
      unfold card at hxc hx0
      split at hxc
      · exact .inl hxc
      · split at hxc
        · right; omega
        · rename_i k1 k2; rw [if_neg k1, if_neg k2] at hx0; omega
    rcases hcase with e | e
    · rw [e]; exact List.mem_append.2 (.inl (hput c))
    · rw [e]; exact List.mem_append.2 (.inr (hput (-1 - c)))
end Qq
namespace Qq
open Go Go.Vt Pt
set_option linter.unusedVariables false
set_option linter.unusedSimpArgs false
end Qq
namespace Qq
open Go Go.Vt Pt
set_option linter.unusedVariables false
set_option linter.unusedSimpArgs false
theorem l04Draw_ev (c : Cur) (hc : CurOk c) (n : Nat) (h1 : 1 ≤ n) (h12 : n ≤ 12) : ∃ (m : Int × Int) (c' : Cur), Ev (fun k => s_l04Draw k (c, (n : Int))) (m, c') ∧ moveOk (n : Int) m = true ∧ CurOk c' := by
  obtain ⟨y, c1, e1, a1, a2, a3⟩ := l01Below_ev c hc 9
  have hy := a2 (by omega)
  have hw : IntKind.i64.wrap ((1 : Int) + y) = 1 + y := wrap_id (by omega) (by omega)
  have hw2 : IntKind.i64.wrap ((n : Int) + (1 : Int)) = (n : Int) + 1 := wrap_id (by omega) (by omega)
  obtain ⟨u, cu, eu, u1, u2, u3⟩ := l01Below_ev c1 a3 ((n : Int) + 1)
  obtain ⟨v, cv, ev, v1, v2, v3⟩ := l01Below_ev c1 a3 2
  obtain ⟨w, cw, ew, w1, w2, w3⟩ := l01Below_ev c1 a3 (n : Int)
  have hu := u2 (by omega)
  have hv := v2 (by omega)
  have hww := w2 (by omega)
  have dn : decide ((1 : Int) ≤ (n : Int)) = true := decide_eq_true (by omega)
  have dm : decide ((n : Int) ≤ (12 : Int)) = true := decide_eq_true (by omega)
  have st : ∀ {z : (Int × Int) × Cur}, Ev (fun k => (s_l01Below k (c, (9 : Int))).bind fun y1 =>
      bif ((IntKind.i64.wrap ((1 : Int) + y1.1)) == (1 : Int)) then ((s_l01Below k (y1.2, (IntKind.i64.wrap ((n : Int) + (1 : Int))))).bind fun y2 => some (((IntKind.i64.wrap ((1 : Int) + y1.1)), y2.1), y2.2))
      else (bif ((IntKind.i64.wrap ((1 : Int) + y1.1)) == (2 : Int)) then ((s_l01Below k (y1.2, (IntKind.i64.wrap ((n : Int) + (1 : Int))))).bind fun y3 => some (((IntKind.i64.wrap ((1 : Int) + y1.1)), y3.1), y3.2))
      else (bif ((IntKind.i64.wrap ((1 : Int) + y1.1)) == (3 : Int)) then ((s_l01Below k (y1.2, (IntKind.i64.wrap ((n : Int) + (1 : Int))))).bind fun y4 => some (((IntKind.i64.wrap ((1 : Int) + y1.1)), y4.1), y4.2))
      else (bif ((IntKind.i64.wrap ((1 : Int) + y1.1)) == (4 : Int)) then ((s_l01Below k (y1.2, (2 : Int))).bind fun y5 => some (((IntKind.i64.wrap ((1 : Int) + y1.1)), y5.1), y5.2))
      else (bif ((IntKind.i64.wrap ((1 : Int) + y1.1)) == (5 : Int)) then ((s_l01Below k (y1.2, (2 : Int))).bind fun y6 => some (((IntKind.i64.wrap ((1 : Int) + y1.1)), y6.1), y6.2))
      else (bif ((IntKind.i64.wrap ((1 : Int) + y1.1)) == (7 : Int)) then ((s_l01Below k (y1.2, (2 : Int))).bind fun y7 => some (((IntKind.i64.wrap ((1 : Int) + y1.1)), y7.1), y7.2))
      else (bif ((IntKind.i64.wrap ((1 : Int) + y1.1)) == (8 : Int)) then ((s_l01Below k (y1.2, (n : Int))).bind fun y8 => some (((IntKind.i64.wrap ((1 : Int) + y1.1)), y8.1), y8.2))
      else (bif ((IntKind.i64.wrap ((1 : Int) + y1.1)) == (9 : Int)) then ((s_l01Below k (y1.2, (n : Int))).bind fun y9 => some (((IntKind.i64.wrap ((1 : Int) + y1.1)), y9.1), y9.2))
      else (some (((IntKind.i64.wrap ((1 : Int) + y1.1)), (0 : Int)), y1.2)))))))))) z → Ev (fun k => s_l04Draw k (c, (n : Int))) z := fun h => Ev.step (fun k => s_l04Draw_eq k c (n : Int)) h
  have hcase : y = 0 ∨ y = 1 ∨ y = 2 ∨ y = 3 ∨ y = 4 ∨ y = 5 ∨ y = 6 ∨ y = 7 ∨ y = 8 := by omega
  rcases hcase with rfl | rfl | rfl | rfl | rfl | rfl | rfl | rfl | rfl
  · refine ⟨(1, u), cu, st (Ev.bind e1 (Ev.yes rfl ?_)), ?_, u3⟩
    · rw [hw2]; exact Ev.bind eu (Ev.some rfl)
    · unfold moveOk; simp [dn, dm]; omega
  · refine ⟨(2, u), cu, st (Ev.bind e1 (Ev.no rfl (Ev.yes rfl ?_))), ?_, u3⟩
    · rw [hw2]; exact Ev.bind eu (Ev.some rfl)
    · unfold moveOk; simp [dn, dm]; omega
  · refine ⟨(3, u), cu, st (Ev.bind e1 (Ev.no rfl (Ev.no rfl (Ev.yes rfl ?_)))), ?_, u3⟩
    · rw [hw2]; exact Ev.bind eu (Ev.some rfl)
    · unfold moveOk; simp [dn, dm]; omega
  · refine ⟨(4, v), cv, st (Ev.bind e1 (Ev.no rfl (Ev.no rfl (Ev.no rfl (Ev.yes rfl ?_))))), ?_, v3⟩
    · exact Ev.bind ev (Ev.some rfl)
    · unfold moveOk; simp [dn, dm]; omega
  · refine ⟨(5, v), cv, st (Ev.bind e1 (Ev.no rfl (Ev.no rfl (Ev.no rfl (Ev.no rfl (Ev.yes rfl ?_)))))), ?_, v3⟩
    · exact Ev.bind ev (Ev.some rfl)
    · unfold moveOk; simp [dn, dm]; omega
  · refine ⟨(6, 0), c1, st (Ev.bind e1 (Ev.no rfl (Ev.no rfl (Ev.no rfl (Ev.no rfl (Ev.no rfl (Ev.no rfl (Ev.no rfl (Ev.no rfl ?_))))))))), ?_, a3⟩
    · exact Ev.some rfl
    · unfold moveOk; simp [dn, dm] <;> omega
  · refine ⟨(7, v), cv, st (Ev.bind e1 (Ev.no rfl (Ev.no rfl (Ev.no rfl (Ev.no rfl (Ev.no rfl (Ev.yes rfl ?_))))))), ?_, v3⟩
    · exact Ev.bind ev (Ev.some rfl)
    · unfold moveOk; simp [dn, dm]; omega
  · refine ⟨(8, w), cw, st (Ev.bind e1 (Ev.no rfl (Ev.no rfl (Ev.no rfl (Ev.no rfl (Ev.no rfl (Ev.no rfl (Ev.yes rfl ?_)))))))), ?_, w3⟩
    · exact Ev.bind ew (Ev.some rfl)
    · unfold moveOk; simp [dn, dm]; omega
  · refine ⟨(9, w), cw, st (Ev.bind e1 (Ev.no rfl (Ev.no rfl (Ev.no rfl (Ev.no rfl (Ev.no rfl (Ev.no rfl (Ev.no rfl (Ev.yes rfl ?_))))))))), ?_, w3⟩
    · exact Ev.bind ew (Ev.some rfl)
    · unfold moveOk; simp [dn, dm]; omega
theorem same_l4_ev (xs ys : List Int) (hx : xs.length ≤ 9223372036854775807) (hl : xs.length = ys.length) : ∀ (r : List Int) (i : Nat), xs.drop i = r → xs.take i = ys.take i → Ev (fun k => w_same_l4 k ys xs (xs.length : Int) (i : Int)) (decide (xs = ys))
  | [], i, h, ht => by
    have a := at_nil h
    have e : xs = ys := by
      rw [List.take_of_length_le a.ge, List.take_of_length_le (by rw [← hl]; exact a.ge)] at ht
      exact ht
    exact Ev.step (fun k => w_same_l4_eq k _ _ _ _) (Ev.no a.g (Ev.some (by simp [e])))
  | x :: r, i, h, ht => by
    have a := at_cons h (by rw [maxLen_eq]; exact hx)
    have lt := a.lt
    have gy : decide ((i : Int) < (ys.length : Int)) = true := decide_eq_true (by omega)
    refine Ev.step (fun k => w_same_l4_eq k _ _ _ _) ?_
    simp only [a.g, a.z, a.get, a.w, gy, cond_true, Int.toNat_natCast]
    have hg : xs.getD i 0 = x := a.gt 0
    have hy : i < ys.length := by omega
    have hgy : ys.getD i 0 = ys[i] := by simp [List.getD, hy]
    by_cases e : x = ys.getD i 0
    · refine Ev.no (by rw [hg, e]; simp) (same_l4_ev xs ys hx hl r (i + 1) a.next ?_)
      rw [take_next h, ht, List.take_add_one, List.getElem?_eq_getElem hy, e, hgy]; rfl
    · refine Ev.yes (by rw [hg]; simp at e ⊢; exact e) (Ev.some ?_)
      have : xs ≠ ys := fun h2 => e (by rw [← hg, h2])
      simp [this]
theorem same_ev (xs ys : List Int) (hx : xs.length ≤ 9223372036854775807) : Ev (fun k => w_same k (xs, ys)) (decide (xs = ys)) := by
  refine Ev.step (fun k => w_same_eq k xs ys) ?_
  by_cases h : xs.length = ys.length
  · exact Ev.no (by simp [h]) (same_l4_ev xs ys hx h _ 0 rfl (by simp))
  · have : xs ≠ ys := fun e => h (by rw [e])
    exact Ev.yes (by simp; omega) (Ev.some (by simp [this]))
end Qq
namespace Qq
open Go Go.Vt Pt
set_option linter.unusedVariables false
set_option linter.unusedSimpArgs false
theorem s_NewPacket_l5_ev (n : Nat) (hn : 1 ≤ n) (hm : n ≤ 12) : ∀ (d i : Nat), i + d = n → Ev (fun k => s_NewPacket_l5 k (n : Int) (i : Int) (upTo i)) (upTo n)
  | 0, i, h => by
    have e : i = n := by omega
    subst e
    refine Ev.step (fun k => s_NewPacket_l5_eq k _ _ _) ?_
    rw [at_end (by omega)]
    refine Ev.no rfl (Ev.yes ?_ (Ev.pure _))
    have : (upTo i).length = i := by simp [upTo]
    cases hx : upTo i with
    | nil => rw [hx] at this; simp at this; omega
    | cons => rfl
  | d + 1, i, h => by
    have u := at_up (n := (n : Int)) (i := i) (by omega) (by omega)
    refine Ev.step (fun k => s_NewPacket_l5_eq k _ _ _) ?_
    simp only [u.g, u.w, cond_true]
    refine Ev.yes (by rw [rowMax_eq]; simp [upTo]; omega) ?_
    have := s_NewPacket_l5_ev n hn hm d (i + 1) (by omega)
    have e : upTo (i + 1) = upTo i ++ [(i : Int)] := by simp [upTo, List.range_succ]
    rw [e] at this
    exact this
theorem s_NewPacket4_ev : Ev (fun k => s_NewPacket k 4) (upTo 4) := by
  refine Ev.step (fun k => s_NewPacket_eq k _) (Ev.bind (l01In_ev _ _ _) (Ev.no rfl ?_))
  exact s_NewPacket_l5_ev 4 (by omega) (by omega) 4 0 rfl
end Qq
namespace Qq
open Go Go.Vt Pt
set_option linter.unusedVariables false
set_option linter.unusedSimpArgs false
set_option linter.unnecessarySimpa false
theorem l16Step_ev (c : Cur) (hc : CurOk c) (n : Nat) (h1 : 1 ≤ n) (h7 : n ≤ 7) : ∃ (s : Step) (c' : Cur), Ev (fun k => s_l16Step k (c, (n : Int))) ((s.1, (s.2.1.1, (s.2.1.2, s.2.2))), c') ∧ stepOk (n : Int) s = true ∧ CurOk c' := by
  obtain ⟨y, c1, e1, a1, a2, a3⟩ := l01Below_ev c hc 4
  have hy := a2 (by omega)
  have dn : decide ((1 : Int) ≤ (n : Int)) = true := decide_eq_true (by omega)
  have dm : decide ((n : Int) ≤ (12 : Int)) = true := decide_eq_true (by omega)
  have st : ∀ {z : (Int × Int × Int × Int) × Cur}, Ev (fun k => (s_l01Below k (c, (4 : Int))).bind fun y1 =>
      bif (y1.1 == (0 : Int)) then
        ((s_l01Pick k (y1.2, [(0 : Int), (1 : Int), (1 : Int), (3 : Int), (4 : Int)])).bind fun y2 =>
        bif (y2.1 == (3 : Int)) then
          (bif decide ((n : Int) < (2 : Int)) then
            (some (((2 : Int), ((0 : Int), ((0 : Int), (1 : Int)))), y2.2))
          else (some (((2 : Int), ((0 : Int), ((0 : Int), y2.1))), y2.2)))
        else (some (((2 : Int), ((0 : Int), ((0 : Int), y2.1))), y2.2)))
      else (bif (y1.1 == (1 : Int)) then
          ((s_l01Below k (y1.2, (n : Int))).bind fun y3 =>
          some (((3 : Int), ((0 : Int), ((0 : Int), y3.1))), y3.2))
        else ((s_l04Draw k (y1.2, (n : Int))).bind fun y4 =>
          some (((1 : Int), (y4.1.1, (y4.1.2, (0 : Int)))), y4.2)))) z → Ev (fun k => s_l16Step k (c, (n : Int))) z := fun h => Ev.step (fun k => s_l16Step_eq k c (n : Int)) h
  have hcase : y = 0 ∨ y = 1 ∨ 2 ≤ y := by omega
  rcases hcase with rfl | rfl | h2
  · obtain ⟨u, cu, eu, u1, u2, u3⟩ := l01Below_ev c1 a3 5
    have hu := u2 (by omega)
    have ep : Ev (fun k => s_l01Pick k (c1, [(0 : Int), (1 : Int), (1 : Int), (3 : Int), (4 : Int)])) (([(0 : Int), (1 : Int), (1 : Int), (3 : Int), (4 : Int)].getD u.toNat 0), cu) := by
      refine Ev.step (fun k => s_l01Pick_eq k c1 _) (Ev.bind eu (Ev.yes (decide_eq_true u1) (Ev.yes (decide_eq_true (by simpa using hu)) (Ev.pure _))))
    have hcu : u = 0 ∨ u = 1 ∨ u = 2 ∨ u = 3 ∨ u = 4 := by omega
    have one : Ev (fun k => s_l16Step k (c, (n : Int))) (((2 : Int), ((0 : Int), ((0 : Int), (1 : Int)))), cu) → ∃ (s : Step) (c' : Cur), Ev (fun k => s_l16Step k (c, (n : Int))) ((s.1, (s.2.1.1, (s.2.1.2, s.2.2))), c') ∧ stepOk (n : Int) s = true ∧ CurOk c' := fun h => ⟨(2, (0, 0), 1), cu, h, by unfold stepOk; simp [dn, dm], u3⟩
    rcases hcu with rfl | rfl | rfl | rfl | rfl
    · exact ⟨(2, (0, 0), 0), cu, st (Ev.bind e1 (Ev.yes rfl (Ev.bind ep (Ev.no rfl (Ev.pure _))))), by unfold stepOk; simp [dn, dm], u3⟩
    · exact one (st (Ev.bind e1 (Ev.yes rfl (Ev.bind ep (Ev.no rfl (Ev.pure _))))))
    · exact one (st (Ev.bind e1 (Ev.yes rfl (Ev.bind ep (Ev.no rfl (Ev.pure _))))))
    · by_cases h2 : (n : Int) < 2
      · exact one (st (Ev.bind e1 (Ev.yes rfl (Ev.bind ep (Ev.yes rfl (Ev.yes (decide_eq_true h2) (Ev.pure _)))))))
      · exact ⟨(2, (0, 0), 3), cu, st (Ev.bind e1 (Ev.yes rfl (Ev.bind ep (Ev.yes rfl (Ev.no (decide_eq_false h2) (Ev.pure _)))))), by unfold stepOk; simp [dn, dm]; omega, u3⟩
    · exact ⟨(2, (0, 0), 4), cu, st (Ev.bind e1 (Ev.yes rfl (Ev.bind ep (Ev.no rfl (Ev.pure _))))), by unfold stepOk; simp [dn, dm], u3⟩
  · obtain ⟨u, cu, eu, u1, u2, u3⟩ := l01Below_ev c1 a3 (n : Int)
    have hu := u2 (by omega)
    exact ⟨(3, (0, 0), u), cu, st (Ev.bind e1 (Ev.no rfl (Ev.yes rfl (Ev.bind eu (Ev.pure _))))), by unfold stepOk; simp [dn, dm]; omega, u3⟩
  · obtain ⟨m, cm, em, m1, m2⟩ := l04Draw_ev c1 a3 n h1 (by omega)
    refine ⟨(1, m, 0), cm, st (Ev.bind e1 (Ev.no (by simp; omega) (Ev.no (by simp; omega) (Ev.bind em (Ev.pure _))))), ?_, m2⟩
    unfold stepOk
    rw [dn, dm]
    simp [m1]
theorem pos_first {p : List Int} (h : packetOk p = true) (h1 : 1 ≤ p.length) : 0 ≤ pos p (card (p.getD 0 0)) := by
  cases p with
  | nil => simp at h1
  | cons x r =>
    have := ((packetOk_fit h).2.1 x (by simp)).1
    show 0 ≤ pos (x :: r) (card x)
    unfold pos
    rw [if_neg (by omega)]
    unfold posF
    rw [if_pos rfl]
    omega
/-- A trick of the laws' own making. -/
structure Made (t : Trick) : Prop where
  ok : trickOk t = true
  le : t.1.length ≤ 4
  st : t.2.1.length ≤ 4
theorem hasNote_snoc (st : List Step) (s : Step) : hasNote (st ++ [s]) = (hasNote st || s.1 == 3) := by unfold hasNote; simp
theorem made_of {p : List Int} {st : List Step} {c a b : Int} (hp : packetOk p = true) (h1 : 1 ≤ p.length) (h4 : p.length ≤ 4) (hs : st.length ≤ 4) (hk : ∀ s ∈ st, stepOk (p.length : Int) s = true) (hc : claimOk p.length p (hasNote st) c a b = true) : Made (p, st, c, a, b) := by
  refine ⟨?_, h4, hs⟩
  unfold trickOk
  have hz : (p.length == 0) = false := by simp; intro e; rw [e] at h1; simp at h1
  have e12 : decide (st.length ≤ 12) = true := decide_eq_true (by omega)
  simp only [hp, hz, e12, Bool.true_and, Bool.not_false]
  rw [hc, Bool.and_true]
  exact List.all_eq_true.2 hk
theorem l16Draw_l7_ev (p : List Int) (hp : packetOk p = true) (h1 : 1 ≤ p.length) (h4 : p.length ≤ 4) : ∀ (m : Nat) (st : List Step) (c : Cur), st.length + m ≤ 4 → (∀ s ∈ st, stepOk (p.length : Int) s = true) → CurOk c →
    ∃ (t : Trick) (c' : Cur), Ev (fun k => s_l16Draw_l7 k (p.length : Int) (hasNote st) (m : Int) 0 0 0 0 0 0 p st c.1 c.2.1 c.2.2) (t, c') ∧ Made t ∧ CurOk c'
  | 0, st, c, hl, hs, hc => by
    obtain ⟨y, c1, e1, a1, a2, a3⟩ := l01Below_ev c hc 4
    have hy := a2 (by omega)
    have hw : IntKind.i64.wrap ((p.length : Int) + (1 : Int)) = (p.length : Int) + 1 := wrap_id (by omega) (by omega)
    have st0 : ∀ {z : Trick × Cur} {f : Nat → Option (Trick × Cur)}, (∀ k, s_l16Draw_l7 (k + 1) (p.length : Int) (hasNote st) ((0 : Nat) : Int) 0 0 0 0 0 0 p st c.1 c.2.1 c.2.2 = f k) → Ev f z → Ev (fun k => s_l16Draw_l7 k (p.length : Int) (hasNote st) ((0 : Nat) : Int) 0 0 0 0 0 0 p st c.1 c.2.1 c.2.2) z := fun h1 h2 => Ev.step h1 h2
    have hcase : y = 0 ∨ y = 1 ∨ y = 2 ∨ y = 3 := by omega
    rcases hcase with rfl | rfl | rfl | rfl
    · cases hn : hasNote st with
      | true =>
        obtain ⟨u, cu, eu, u1, u2, u3⟩ := l01Below_ev c1 a3 (p.length : Int)
        have hu := u2 (by omega)
        refine ⟨(p, st, 1, u, 0), cu, Ev.step (fun k => s_l16Draw_l7_eq k _ _ _ _ _ _ _ _ _ _ _ _ _ _) (Ev.no rfl (Ev.bind e1 (Ev.yes rfl (Ev.yes rfl (Ev.bind eu (Ev.pure _)))))), made_of hp h1 h4 (by omega) hs ?_, u3⟩
        unfold claimOk
        rw [hn]
        simp; omega
      | false =>
        refine ⟨(p, st, 0, 0, 0), c1, Ev.step (fun k => s_l16Draw_l7_eq k _ _ _ _ _ _ _ _ _ _ _ _ _ _) (Ev.no rfl (Ev.bind e1 (Ev.yes rfl (Ev.no rfl (Ev.pure _))))), made_of hp h1 h4 (by omega) hs ?_, a3⟩
        unfold claimOk
        simp
    · obtain ⟨u, cu, eu, u1, u2, u3⟩ := l01Below_ev c1 a3 ((p.length : Int) + 1)
      have hu := u2 (by omega)
      refine ⟨(p, st, 2, u, 0), cu, Ev.step (fun k => s_l16Draw_l7_eq k _ _ _ _ _ _ _ _ _ _ _ _ _ _) (Ev.no rfl (Ev.bind e1 (Ev.no rfl (Ev.yes rfl ?_)))), made_of hp h1 h4 (by omega) hs ?_, u3⟩
      · rw [hw]; exact Ev.bind eu (Ev.pure _)
      · unfold claimOk
        simp; omega
    · obtain ⟨u, cu, eu, u1, u2, u3⟩ := l01Below_ev c1 a3 (p.length : Int)
      have hu := u2 (by omega)
      refine ⟨(p, st, 3, card (p.getD 0 0), u), cu, Ev.step (fun k => s_l16Draw_l7_eq k _ _ _ _ _ _ _ _ _ _ _ _ _ _) (Ev.no rfl (Ev.bind e1 (Ev.no rfl (Ev.no rfl (Ev.yes rfl (Ev.yes (decide_eq_true (by omega)) (Ev.yes (decide_eq_true (by omega)) (Ev.bind (s_CardOf_ev _) (Ev.bind eu (Ev.pure _)))))))))), made_of hp h1 h4 (by omega) hs ?_, u3⟩
      have := pos_first hp h1
      unfold claimOk
      simp only [this]
      simp; omega
    · refine ⟨(p, st, 4, 0, 0), c1, Ev.step (fun k => s_l16Draw_l7_eq k _ _ _ _ _ _ _ _ _ _ _ _ _ _) (Ev.no rfl (Ev.bind e1 (Ev.no rfl (Ev.no rfl (Ev.no rfl (Ev.pure _)))))), made_of hp h1 h4 (by omega) hs ?_, a3⟩
      unfold claimOk
      simp
  | m + 1, st, c, hl, hs, hc => by
    obtain ⟨s, c1, e1, s1, hc1⟩ := l16Step_ev c hc p.length h1 (by omega)
    obtain ⟨t, c2, e2, ht, hc2⟩ := l16Draw_l7_ev p hp h1 h4 m (st ++ [s]) c1 (by simp; omega) (fun q hq => by
      rcases List.mem_append.1 hq with hq | hq
      · exact hs q hq
      · have : q = s := by simpa using hq
        rw [this]; exact s1) hc1
    have hw : IntKind.i64.wrap (((m + 1 : Nat) : Int) - (1 : Int)) = (m : Int) := by rw [wrap_id (by omega) (by omega)]; omega
    refine ⟨t, c2, Ev.step (fun k => s_l16Draw_l7_eq k _ _ _ _ _ _ _ _ _ _ _ _ _ _) (Ev.yes (decide_eq_true (by omega)) (Ev.bind e1 ?_)), ht, hc2⟩
    rw [hw]
    rw [hasNote_snoc] at e2
    cases hn : hasNote st with
    | true =>
      rw [hn, Bool.true_or] at e2
      exact Ev.yes rfl (Ev.yes (by rw [rowMax_eq]; simp; omega) e2)
    | false =>
      rw [hn, Bool.false_or] at e2
      exact Ev.no rfl (Ev.yes (by rw [rowMax_eq]; simp; omega) e2)
theorem l16Known_ev (c : Cur) (hc : CurOk c) : ∃ (t : Trick) (c' : Cur), Ev (fun k => s_l16Known k c) (t, c') ∧ Made t ∧ CurOk c' := by
  obtain ⟨y, c1, e1, a1, a2, a3⟩ := l01Below_ev c hc 4
  have hy := a2 (by omega)
  have hcase : y = 0 ∨ y = 1 ∨ y = 2 ∨ y = 3 := by omega
  rcases hcase with rfl | rfl | rfl | rfl
  · exact ⟨_, c1, Ev.step (fun k => s_l16Known_eq k c) (Ev.bind e1 (Ev.yes rfl (Ev.bind s_NewPacket4_ev (Ev.pure _)))), ⟨by decide, by decide, by decide⟩, a3⟩
  · exact ⟨_, c1, Ev.step (fun k => s_l16Known_eq k c) (Ev.bind e1 (Ev.no rfl (Ev.yes rfl (Ev.bind s_NewPacket4_ev (Ev.pure _))))), ⟨by decide, by decide, by decide⟩, a3⟩
  · exact ⟨_, c1, Ev.step (fun k => s_l16Known_eq k c) (Ev.bind e1 (Ev.no rfl (Ev.no rfl (Ev.yes rfl (Ev.bind s_NewPacket4_ev (Ev.pure _)))))), ⟨by decide, by decide, by decide⟩, a3⟩
  · exact ⟨_, c1, Ev.step (fun k => s_l16Known_eq k c) (Ev.bind e1 (Ev.no rfl (Ev.no rfl (Ev.no rfl (Ev.bind s_NewPacket4_ev (Ev.pure _)))))), ⟨by decide, by decide, by decide⟩, a3⟩
theorem l16Draw_ev (c : Cur) (hc : CurOk c) : ∃ (t : Trick) (c' : Cur), Ev (fun k => s_l16Draw k c) (t, c') ∧ Made t ∧ CurOk c' := by
  obtain ⟨b, c1, e1, hc1⟩ := l01Once_ev c hc 3
  cases b with
  | true =>
    obtain ⟨t, c2, e2, ht, hc2⟩ := l16Known_ev c1 hc1
    exact ⟨t, c2, Ev.step (fun k => s_l16Draw_eq k c) (Ev.bind e1 (Ev.yes rfl (Ev.bind e2 (Ev.pure _)))), ht, hc2⟩
  | false =>
    obtain ⟨p, c2, e2, hp, hc2⟩ := l02Draw_ev c1 hc1 4 (by omega) (by omega)
    obtain ⟨y, c3, e3, a1, a2, hc3⟩ := l01Below_ev c2 hc2 5
    have hy := a2 (by omega)
    obtain ⟨j, rfl⟩ : ∃ j : Nat, y = (j : Int) := ⟨y.toNat, by omega⟩
    obtain ⟨t, c4, e4, ht, hc4⟩ := l16Draw_l7_ev p hp.ok hp.pos hp.le j [] c3 (by simp; omega) (fun s hs => by cases hs) hc3
    exact ⟨t, c4, Ev.step (fun k => s_l16Draw_eq k c) (Ev.bind e1 (Ev.no rfl (Ev.bind e2 (Ev.bind e3 e4)))), ht, hc4⟩
theorem MakeTrick_ev (code : List Int) (hm : code.length ≤ 9223372036854775807) : ∃ t : Trick, Ev (fun k => s_MakeTrick k code) t ∧ Made t := by
  obtain ⟨c, e, hc⟩ := l01New_ev code hm
  obtain ⟨t, c2, e2, ht, _⟩ := l16Draw_ev c hc
  exact ⟨t, Ev.step (fun k => s_MakeTrick_eq k code) (Ev.bind e (Ev.bind e2 (Ev.pure _))), ht⟩
end Qq
namespace Qq
open Go Go.Vt Pt
set_option linter.unusedVariables false
theorem i_CountChoices_l5_ev (xs : List Step) (hm : xs.length ≤ 12) : ∀ (r : List Step) (i : Nat) (v : Nat), xs.drop i = r → v ≤ i → Ev (fun k => i_CountChoices_l5 k (v : Int) xs (xs.length : Int) (i : Int)) ((v : Int) + countK (· == 2) r)
  | [], i, v, h, hv => by
    have q := at_nil h
    refine Ev.step (fun k => i_CountChoices_l5_eq k _ _ _ _) ?_
    simp only [q.g, cond_false]
    exact Ev.some (by simp [countK])
  | s :: r, i, v, h, hv => by
    have q := at_cons h (by rw [maxLen_eq]; omega)
    have := q.lt
    refine Ev.step (fun k => i_CountChoices_l5_eq k _ _ _ _) ?_
    simp only [q.g, q.z, q.get, q.w, cond_true]
    rw [countK_cons]
    refine Ev.ite (fun h => ?_) (fun h => ?_)
    · rw [wrap_id (by omega) (by omega)]
      refine (i_CountChoices_l5_ev xs hm r (i + 1) (v + 1) q.next (by omega)).to ?_
      rw [if_pos h]; omega
    · refine (i_CountChoices_l5_ev xs hm r (i + 1) v q.next (by omega)).to ?_
      rw [h]; simp
def countChoices (t : Trick) : Int := if trickOk t then (countK (· == 2) t.2.1 : Int) else -1
theorem i_CountChoices_ev (t : Trick) (a1 : t.1.length ≤ maxLen) (ai : Ins t.1) (a2 : t.2.1.length ≤ maxLen) : Ev (fun k => i_CountChoices k t) (countChoices t) := by
  refine Ev.step (fun k => i_CountChoices_eq k t) (Ev.bind (i_TrickOk_ev t a1 ai a2) (Ev.ite (fun h => Ev.some ?_) (fun h => ?_)))
  · have : trickOk t = false := by simpa using h
    simp [countChoices, this]
  · have e : trickOk t = true := by simpa using h
    refine (i_CountChoices_l5_ev t.2.1 (trickOk_len e).1 t.2.1 0 0 rfl (by omega)).to ?_
    simp [countChoices, e]
end Qq
namespace Qq
open Go Go.Vt Pt
set_option linter.unusedVariables false
set_option linter.unusedSimpArgs false
set_option linter.unnecessarySimpa false
def runL : List Step → Scene → List Int → List Int × Int × Bool
  | [], c, _ => (c.1, c.2, true)
  | s :: r, c, ps =>
    let k := if s.1 = 2 then ps.getD 0 0 else 0
    if 0 ≤ k ∧ k < (nextOf c s).length then runL r ((nextOf c s).getD k.toNat ([], 0)) (if s.1 = 2 then ps.drop 1 else ps) else ([], 0, false)
def runTrick (t : Trick) (ps : List Int) : List Int × Int × Bool :=
  if trickOk t = true ∧ (ps.length : Int) = countChoices t then runL t.2.1 (t.1, -1) ps else ([], 0, false)
theorem steps_fit {n : Int} {l : List Step} (h : stepsOk n l = true) : ∀ s ∈ l, stepOk n s = true := fun s hs => List.all_eq_true.1 h s hs
theorem getD_mem {α : Type} {l : List α} {k : Int} {d : α} (h0 : 0 ≤ k) (h1 : k < l.length) : l.getD k.toNat d ∈ l := by
  have : k.toNat < l.length := by omega
  rw [List.getD, List.getElem?_eq_getElem this]
  exact List.getElem_mem this
theorem i_RunTrick_l5_ev {n : Nat} (xs : List Step) (hm : xs.length ≤ 12) (z : Int) : ∀ (r : List Step) (i : Nat) (c : Scene) (ps : List Int), xs.drop i = r → (∀ s ∈ r, stepOk (n : Int) s = true) → SceneOk n c → ps.length = countK (· == 2) r →
    Ev (fun k => i_RunTrick_l5 k ps xs (xs.length : Int) (i : Int) z c.2 c.1) (runL r c ps)
  | [], i, c, ps, h, hs, hc, hp => by
    have a := at_nil h
    refine Ev.step (fun k => i_RunTrick_l5_eq k _ _ _ _ _ _ _) ?_
    simp only [a.g, cond_false]
    exact Ev.some rfl
  | s :: r, i, c, ps, h, hs, hc, hp => by
    have a := at_cons h (by rw [maxLen_eq]; omega)
    have hlt := a.lt
    have hso := hs s (by simp)
    have hn := i_NextScenes_ok hc hso
    obtain ⟨l1, l2⟩ := next_len hc hso
    have hok := next_ok hc hso
    have ih := fun (d : Scene) (hd : d ∈ nextOf c s) ps hps => i_RunTrick_l5_ev xs hm z r (i + 1) d ps a.next (fun q hq => hs q (by simp [hq])) (hok d hd) hps
    rw [countK_cons] at hp
    refine Ev.step (fun k => i_RunTrick_l5_eq k _ _ _ _ _ _ _) ?_
    simp only [a.g, a.z, a.get, a.w, cond_true]
    unfold runL
    refine Ev.ite (fun h2 => ?_) (fun h2 => ?_)
    · have e2 : s.1 = 2 := by simpa using h2
      rw [if_pos (by simp [e2])] at hp
      have hp1 : 1 ≤ ps.length := by omega
      have et : (ps.take ((ps.length : Int)).toNat).drop 1 = ps.drop 1 := by simp
      simp only [if_pos e2, et]
      refine Ev.yes (by simp; omega) (Ev.yes (by simp; omega) (Ev.yes (by simp) (Ev.bind hn (Ev.ite (fun h3 => Ev.some ?_) (fun h3 => Ev.ite (fun h4 => Ev.some ?_) (fun h4 => ?_))))))
      · rw [if_neg (by have : ps.getD 0 0 < 0 := by simpa using h3
                       omega)]
      · rw [if_neg (by have : ps.getD 0 0 ≥ ((nextOf c s).length : Int) := by simpa using h4
                       omega)]
      · have g3 : ¬ ps.getD 0 0 < 0 := by simpa using h3
        have g4 : ¬ ps.getD 0 0 ≥ ((nextOf c s).length : Int) := by simpa using h4
        rw [if_pos (by omega)]
        refine Ev.yes (decide_eq_true (by omega)) (Ev.yes (decide_eq_true (by omega)) (Ev.yes (decide_eq_true (by omega)) ?_))
        exact ih _ (getD_mem (by omega) (by omega)) _ (by simp; omega)
    · have e2 : ¬ s.1 = 2 := by simpa using h2
      rw [if_neg (by simpa using e2)] at hp
      simp only [if_neg e2]
      refine Ev.bind hn (Ev.no (decide_eq_false (by omega)) (Ev.yes (decide_eq_true (by omega)) (Ev.yes (decide_eq_true (by omega)) ?_)))
      rw [if_pos (by omega)]
      exact ih _ (getD_mem (k := 0) (by omega) (by omega)) _ (by omega)
theorem start_ok {t : Trick} (h : trickOk t = true) : SceneOk t.1.length (t.1, -1) ∧ (∀ s ∈ t.2.1, stepOk (t.1.length : Int) s = true) := by
  refine ⟨⟨(trickOk_len h).2.2.2, rfl, by show (-1 : Int) ≤ -1; decide, by show (-1 : Int) < 12; decide⟩, ?_⟩
  unfold trickOk at h
  simp only [Bool.and_eq_true] at h
  exact steps_fit h.2.2.2.1
theorem i_RunTrick_ev (t : Trick) (ps : List Int) (a1 : t.1.length ≤ maxLen) (ai : Ins t.1) (a2 : t.2.1.length ≤ maxLen) (a3 : ps.length ≤ 1048576) : Ev (fun k => i_RunTrick k (t, ps)) (runTrick t ps) := by
  refine Ev.step (fun k => i_RunTrick_eq k t ps) (Ev.bind (StartScene_ev t a1 ai a2) ?_)
  unfold runTrick startScene
  by_cases e : trickOk t = true
  · rw [if_pos e]
    refine Ev.no rfl (Ev.bind (i_CountChoices_ev t a1 ai a2) (Ev.ite (fun h => Ev.some ?_) (fun h => ?_)))
    · rw [if_neg (fun hc => by rw [hc.2] at h; simp at h)]
    · have hl : (ps.length : Int) = countChoices t := by simpa using h
      rw [if_pos ⟨e, hl⟩]
      have hl2 : ps.length = countK (· == 2) t.2.1 := by unfold countChoices at hl; rw [if_pos e] at hl; omega
      obtain ⟨s1, s2⟩ := start_ok e
      exact i_RunTrick_l5_ev t.2.1 (trickOk_len e).1 0 t.2.1 0 (t.1, -1) ps rfl s2 s1 hl2
  · rw [if_neg e, if_neg (fun hc => e hc.1)]
    exact Ev.yes rfl (Ev.pure _)
end Qq
namespace Qq
open Go Go.Vt Pt
set_option linter.unusedVariables false
set_option linter.unusedSimpArgs false
set_option linter.unnecessarySimpa false
theorem addU_mem (d : Scene) : ∀ (r acc : List Scene), d ∈ addU r acc ↔ (d ∈ r ∨ d ∈ acc)
  | [], acc => by simp [addU]
  | x :: r, acc => by
    unfold addU
    by_cases h : x ∈ acc
    · rw [if_pos h, addU_mem d r acc, List.mem_cons]
      constructor
      · rintro (h1 | h1); exact .inl (.inr h1); exact .inr h1
      · rintro ((h1 | h1) | h1); exact .inr (h1 ▸ h); exact .inl h1; exact .inr h1
    · rw [if_neg h, addU_mem d r _, List.mem_cons, List.mem_append, List.mem_singleton]
      constructor
      · rintro (h1 | h1 | h1); exact .inl (.inr h1); exact .inr h1; exact .inl (.inl h1)
      · rintro ((h1 | h1) | h1); exact .inr (.inr h1); exact .inl h1; exact .inr (.inl h1)
theorem addU_nodup : ∀ (r acc : List Scene), acc.Nodup → (addU r acc).Nodup
  | [], acc, h => h
  | x :: r, acc, h => by
    unfold addU
    by_cases hx : x ∈ acc
    · rw [if_pos hx]; exact addU_nodup r acc h
    · rw [if_neg hx]
      refine addU_nodup r _ ?_
      rw [List.nodup_append]
      refine ⟨h, by simp, fun a ha b hb e => hx ?_⟩
      have : b = x := by simpa using hb
      rw [← this, ← e]; exact ha
theorem goU_mem (s : StepT) (d : Scene) : ∀ (l acc : List Scene), d ∈ goU s l acc ↔ ((∃ c ∈ l, d ∈ nextOf c s) ∨ d ∈ acc)
  | [], acc => by simp [goU]
  | c :: r, acc => by
    unfold goU
    rw [goU_mem s d r, addU_mem]
    constructor
    · rintro (⟨c', h1, h2⟩ | h1 | h1)
      · exact .inl ⟨c', by simp [h1], h2⟩
      · exact .inl ⟨c, by simp, h1⟩
      · exact .inr h1
    · rintro (⟨c', h1, h2⟩ | h1)
      · rcases List.mem_cons.1 h1 with h1 | h1
        · exact .inr (.inl (h1 ▸ h2))
        · exact .inl ⟨c', h1, h2⟩
      · exact .inr (.inr h1)
theorem goU_nodup (s : StepT) : ∀ (l acc : List Scene), acc.Nodup → (goU s l acc).Nodup
  | [], acc, h => h
  | c :: r, acc, h => goU_nodup s r _ (addU_nodup _ _ h)
/-- A scene of the trick that begins with p0. -/
structure Of (p0 : List Int) (c : Scene) : Prop where
  ok : SceneOk p0.length c
  pm : Pm c.1 p0
  card : c.2 = -1 ∨ c.2 ∈ p0.map card
theorem next_of {p0 : List Int} {c : Scene} {s : StepT} (hc : Of p0 c) (hs : stepOk (p0.length : Int) s = true) : ∀ d ∈ nextOf c s, Of p0 d := by
  intro d hd
  refine ⟨next_ok hc.ok hs d hd, next_pm hc.ok hc.pm hs d hd, ?_⟩
  obtain ⟨h1, h2, hk⟩ := stepOk_kind hs
  unfold nextOf at hd
  rcases hk with ⟨e, m⟩ | ⟨e, c0, c4, c3, c2⟩ | ⟨e, a0, an⟩
  · rw [if_pos e] at hd
    have hd : d = (doMove c.1 s.2.1, c.2) := by simpa using hd
    subst hd
    exact hc.card
  · rw [if_neg (by omega), if_neg (by omega)] at hd
    obtain ⟨q, hq, rfl⟩ := List.mem_map.1 hd
    exact hc.card
  · rw [if_neg (by omega), if_pos e] at hd
    have hd : d = (c.1, card (c.1.getD s.2.2.toNat 0)) := by simpa using hd
    subst hd
    right
    have hlt : s.2.2.toNat < c.1.length := by rw [hc.ok.len]; omega
    have hm : c.1.getD s.2.2.toNat 0 ∈ c.1 := by rw [List.getD, List.getElem?_eq_getElem hlt]; exact List.getElem_mem hlt
    exact hc.pm.mem_iff.1 (List.mem_map_of_mem hm)
theorem len_flat {α β : Type} {b : Nat} (f : α → List β) (hf : ∀ x, (f x).length = b) : ∀ l : List α, (l.flatMap f).length = l.length * b
  | [] => by simp
  | x :: l => by rw [List.flatMap_cons, List.length_append, len_flat f hf l, hf, List.length_cons, Nat.succ_mul]; omega
theorem few_of {p0 : List Int} (h : packetOk p0 = true) (h4 : p0.length ≤ 4) {l : List Scene} (hn : l.Nodup) (hl : ∀ c ∈ l, Of p0 c) : l.length ≤ 3000 := by
  have h1 := nodup_sub hn (m := (arrsC (p0.map card)).flatMap fun q => (-1 :: p0.map card).map fun x => (q, x)) (fun c hc => by
    have ho := hl c hc
    refine List.mem_flatMap.2 ⟨c.1, arrsC_mem _ _ (fun x hx => ((packetOk_fit ho.ok.ok).2.1 x hx).1) ho.pm, List.mem_map.2 ⟨c.2, ?_, rfl⟩⟩
    rcases ho.card with h | h
    · rw [h]; simp
    · exact List.mem_cons_of_mem _ h)
  rw [len_flat (b := p0.length + 1) _ (fun q => by simp)] at h1
  have h2 := arrsC_count (p0.map card)
  rw [List.length_map] at h2
  have h3 : ∀ n, n ≤ 4 → fct n * (n + 1) ≤ 3000 := by decide
  have := h3 p0.length h4
  exact Nat.le_trans h1 (Nat.le_trans (Nat.mul_le_mul_right _ h2) this)
/-- The lists of all ends, where none is too long. -/
theorem ends_few {p0 : List Int} (hp : packetOk p0 = true) (h4 : p0.length ≤ 4) : ∀ (r : List StepT) (l : List Way), (∀ s ∈ r, stepOk (p0.length : Int) s = true) → (l.map Prod.fst).Nodup → (∀ c ∈ l.map Prod.fst, Of p0 c) → l ≠ [] →
    ∃ A, endsP r l = some A ∧ (A.map Prod.fst).Nodup ∧ (∀ c ∈ A.map Prod.fst, Of p0 c) ∧ A ≠ [] ∧
      ∀ c ∈ l.map Prod.fst, ∀ ps, (runL r c ps).2.2 = true → ((runL r c ps).1, (runL r c ps).2.1) ∈ A.map Prod.fst
  | [], l, hs, hn, ho, hne => ⟨l, rfl, hn, ho, hne, fun c hc ps _ => hc⟩
  | s :: r, l, hs, hn, ho, hne => by
    have hso := hs s (by simp)
    have ef : (goP s l []).map Prod.fst = goU s (l.map Prod.fst) [] := by rw [goP_fst]; rfl
    have hn2 : ((goP s l []).map Prod.fst).Nodup := by rw [ef]; exact goU_nodup s _ _ List.nodup_nil
    have ho2 : ∀ c ∈ (goP s l []).map Prod.fst, Of p0 c := fun d hd => by
      rw [ef, goU_mem] at hd
      rcases hd with ⟨c, h1, h2⟩ | hd
      · exact next_of (ho c h1) hso d h2
      · cases hd
    have hlen : (goP s l []).length ≤ 3000 := by
      have := few_of hp h4 hn2 ho2
      rwa [List.length_map] at this
    have hne2 : goP s l [] ≠ [] := by
      intro e
      cases hl : l with
      | nil => exact hne hl
      | cons c l' =>
        have hc := ho c.1 (by rw [hl]; simp)
        have hl1 := (next_len hc.ok hso).1
        cases hx : nextOf c.1 s with
        | nil => rw [hx] at hl1; simp at hl1
        | cons d _ =>
          have : d ∈ (goP s l []).map Prod.fst := by
            rw [ef, goU_mem]
            exact .inl ⟨c.1, by rw [hl]; simp, by rw [hx]; simp⟩
          rw [e] at this; cases this
    obtain ⟨A, h1, h2, h3, h5, h6⟩ := ends_few hp h4 r (goP s l []) (fun q hq => hs q (by simp [hq])) hn2 ho2 hne2
    refine ⟨A, by rw [endsP_cons, if_pos hlen]; exact h1, h2, h3, h5, fun c hc ps hr => ?_⟩
    unfold runL at hr ⊢
    dsimp only at hr ⊢
    by_cases hk : 0 ≤ (if s.1 = 2 then ps.getD 0 0 else 0) ∧ (if s.1 = 2 then ps.getD 0 0 else 0) < ((nextOf c s).length : Int)
    · rw [if_pos hk] at hr ⊢
      refine h6 _ ?_ _ hr
      rw [ef, goU_mem]
      exact .inl ⟨c, hc, getD_mem hk.1 hk.2⟩
    · rw [if_neg hk] at hr; cases hr
theorem allScenes_few {t : Trick} (h : trickOk t = true) (h4 : t.1.length ≤ 4) : ∃ L : List Scene, allScenes t = (L, true) ∧ L.Nodup ∧ (∀ c ∈ L, Of t.1 c) ∧ L ≠ [] ∧
    ∀ ps, (runL t.2.1 (t.1, -1) ps).2.2 = true → ((runL t.2.1 (t.1, -1) ps).1, (runL t.2.1 (t.1, -1) ps).2.1) ∈ L := by
  obtain ⟨h1, h2, h3, hp⟩ := trickOk_len h
  have hst := trick_start h
  have hof : Of t.1 (t.1, -1) := ⟨hst.1, List.Perm.refl _, .inl rfl⟩
  obtain ⟨A, a1, a2, a3, a4, a5⟩ := ends_few hp h4 t.2.1 (startW t) hst.2 (by simp [startW]) (fun c hc => by
    have e : c = (t.1, -1) := by simpa [startW] using hc
    rw [e]; exact hof) (by simp [startW])
  refine ⟨A.map Prod.fst, ?_, a2, a3, fun e => a4 (List.map_eq_nil_iff.1 e), fun ps hr => a5 _ (by simp [startW]) ps hr⟩
  unfold allScenes endsOf
  rw [if_pos h, a1]
end Qq
namespace Qq
open Go Go.Vt Pt
set_option linter.unusedVariables false
set_option linter.unusedSimpArgs false
set_option linter.unnecessarySimpa false
end Qq
namespace Qq
open Go Go.Vt Pt
set_option linter.unusedVariables false
set_option linter.unusedSimpArgs false
set_option linter.unnecessarySimpa false
theorem set_getD_self {α : Type} {l : List α} {i : Nat} {d : α} (h : i < l.length) : l.set i (l.getD i d) = l := by
  rw [List.getD, List.getElem?_eq_getElem h]; simp
theorem j_levels_l12_ev {n : Nat} (h1n : 1 ≤ n) (hn : n ≤ 12) (steps : List StepT) (si : Nat) (l : List Scene) (hl : l.length ≤ 3000) (ci : Nat) (s : StepT) (out : List (List Scene)) (rs : List StepT) (rc : List Scene) (nx : List Scene) (hnx : nx.length ≤ 4096)
    (K : ∀ acc : List Scene, acc.length ≤ 3000 → SAll n acc → Ev (fun k => i_levels_l9 k steps (steps.length : Int) (si : Int) (l.length : Int) ((ci + 1 : Nat) : Int) out si s.1 s.2.1.1 s.2.1.2 s.2.2 (acc.map keyB) acc l) (resU out rs (goU s rc acc))) :
    ∀ (xs : List Scene) (j : Nat) (acc : List Scene), nx.drop j = xs → SAll n xs → acc.length + xs.length ≤ 8000 → SAll n acc → ci < 3000 →
      Ev (fun k => i_levels_l12 k steps (steps.length : Int) (si : Int) (l.length : Int) (ci : Int) (nx.length : Int) (j : Int) out si s.1 s.2.1.1 s.2.1.2 s.2.2 (acc.map keyB) acc l nx j) (resU out rs (goU s rc (addU xs acc)))
  | [], j, acc, h, hx, ha, hk, hci => by
    have a := at_nil h
    have ew : IntKind.i64.wrap ((ci : Int) + 1) = ((ci + 1 : Nat) : Int) := by rw [wrap_id (by omega) (by omega)]; omega
    refine Ev.step (fun k => i_levels_l12_eq k _ _ _ _ _ _ _ _ _ _ _ _ _ _ _ _ _ _) ?_
    simp only [a.g, cond_false, ew]
    unfold addU
    refine Ev.ite (fun h2 => Ev.some ?_) (fun h2 => ?_)
    · unfold resU
      rw [if_neg]
      · rfl
      · have := goU_len s rc acc
        have h3 : (acc.length : Int) > 3000 := by simpa using h2
        omega
    · have h3 : ¬ (acc.length : Int) > 3000 := by simpa using h2
      exact K acc (by omega) hk
  | x :: xs, j, acc, h, hx, ha, hk, hci => by
    have a := at_cons h (by rw [maxLen_eq]; omega)
    have hxo := hx x (by simp)
    have hxi := packetOk_ins hxo.ok
    have hx0 := hxo.n0
    have hx12 := hxo.n12
    have hkx := i_keyOf_ev x (by rw [hxo.len]; exact hn) hxi (by unfold In; omega)
    have hmp := mpHas_map (l := acc) (x := x) (fun c hc => key_ok h1n (hk c hc)) (key_ok h1n hxo)
    have hbeq : Nat.beq (j : Int).toNat j = true := by simp
    rw [List.length_cons] at ha
    have ih := fun acc ha hk => j_levels_l12_ev h1n hn steps si l hl ci s out rs rc nx hnx K xs (j + 1) acc a.next (fun y hy => hx y (by simp [hy])) ha hk hci
    refine Ev.step (fun k => i_levels_l12_eq k _ _ _ _ _ _ _ _ _ _ _ _ _ _ _ _ _ _) ?_
    simp only [a.g, a.z, a.n, a.get, a.w, hbeq, cond_true]
    unfold addU
    refine Ev.bind hkx ?_
    rw [hmp]
    by_cases hm : x ∈ acc
    · rw [if_pos hm, decide_eq_true hm]
      exact Ev.no rfl (ih acc (by omega) hk)
    · rw [if_neg hm, decide_eq_false hm]
      refine Ev.yes rfl (Ev.yes (by rw [rowMax_eq]; simp; omega) ?_)
      have := ih (acc ++ [x]) (by simp; omega) (fun c hc => by
        rcases List.mem_append.1 hc with hc | hc
        · exact hk c hc
        · have : c = x := by simpa using hc
          rw [this]; exact hxo)
      simpa using this
theorem j_levels_l9_ev {n : Nat} (h1n : 1 ≤ n) (hn : n ≤ 12) (steps : List StepT) (h12 : steps.length ≤ 12) (si : Nat) (hsi : si < steps.length) (l : List Scene) (hl : l.length ≤ 3000) (hok : SAll n l) (s : StepT) (hs : stepOk (n : Int) s = true) (out : List (List Scene)) (hout : out.length = si + 1) (hoi : out.set si l = out) (rs : List StepT)
    (K : ∀ acc : List Scene, acc.length ≤ 3000 → SAll n acc → Ev (fun k => i_levels_l4 k steps (steps.length : Int) ((si + 1 : Nat) : Int) (out ++ [acc])) (outU out (levU rs acc))) :
    ∀ (rc : List Scene) (ci : Nat) (acc : List Scene), l.drop ci = rc → acc.length ≤ 3000 → SAll n acc →
      Ev (fun k => i_levels_l9 k steps (steps.length : Int) (si : Int) (l.length : Int) (ci : Int) out si s.1 s.2.1.1 s.2.1.2 s.2.2 (acc.map keyB) acc l) (resU out rs (goU s rc acc))
  | [], ci, acc, h, ha, hk => by
    have a := at_nil h
    have ew : IntKind.i64.wrap ((si : Int) + 1) = ((si + 1 : Nat) : Int) := by rw [wrap_id (by omega) (by omega)]; omega
    refine Ev.step (fun k => i_levels_l9_eq k _ _ _ _ _ _ _ _ _ _ _ _ _ _) ?_
    simp only [a.g, cond_false, ew, hoi]
    unfold goU resU
    rw [if_pos ha]
    exact Ev.yes (by rw [rowMax_eq]; simp; omega) (K acc ha hk)
  | c :: rc, ci, acc, h, ha, hk => by
    have a := at_cons h (by rw [maxLen_eq]; omega)
    have hlt := a.lt
    have hco := hok c a.mem
    have hnl := next_len hco hs
    have hst : l.set (ci : Int).toNat c = l := by
      have := set_getD_self (d := (([], 0) : Scene)) hlt
      rw [a.gt] at this
      simpa using this
    refine Ev.step (fun k => i_levels_l9_eq k _ _ _ _ _ _ _ _ _ _ _ _ _ _) ?_
    simp only [a.g, a.z, a.n, a.get, hst, cond_true]
    refine Ev.bind (i_NextScenes_ok hco hs) ?_
    unfold goU
    exact j_levels_l12_ev h1n hn steps si l hl ci s out rs rc (nextOf c s) hnl.2
      (fun acc ha hk => j_levels_l9_ev h1n hn steps h12 si hsi l hl hok s hs out hout hoi rs K rc (ci + 1) acc a.next ha hk)
      (nextOf c s) 0 acc rfl (next_ok hco hs) (by omega) hk (by omega)
theorem j_levels_l4_ev {n : Nat} (h1n : 1 ≤ n) (hn : n ≤ 12) (steps : List StepT) (h12 : steps.length ≤ 12) : ∀ (rs : List StepT) (si : Nat) (pre : List (List Scene)) (l : List Scene), steps.drop si = rs → (∀ s ∈ rs, stepOk (n : Int) s = true) → pre.length = si → l.length ≤ 3000 → SAll n l →
    Ev (fun k => i_levels_l4 k steps (steps.length : Int) (si : Int) (pre ++ [l])) (outU pre (levU rs l))
  | [], si, pre, l, h, hs, hp, hl, hok => by
    have a := at_nil h
    refine Ev.step (fun k => i_levels_l4_eq k _ _ _ _) ?_
    simp only [a.g, cond_false]
    exact Ev.some rfl
  | s :: rs, si, pre, l, h, hs, hp, hl, hok => by
    have a := at_cons h (by rw [maxLen_eq]; omega)
    have hlt := a.lt
    have hso := hs s (by simp)
    have g1 : decide ((si : Int) < ((pre ++ [l]).length : Int)) = true := decide_eq_true (by simp; omega)
    have g2 : decide ((si : Int).toNat < (pre ++ [l]).length) = true := decide_eq_true (by simp; omega)
    have hg : (pre ++ [l]).getD (si : Int).toNat [] = l := by
      rw [Int.toNat_natCast, List.getD, ← hp, List.getElem?_append_right (Nat.le_refl _)]; simp
    have hoi : (pre ++ [l]).set si l = pre ++ [l] := by
      have h1 : si < (pre ++ [l]).length := by simp; omega
      have := set_getD_self (d := ([] : List Scene)) h1
      rw [show (pre ++ [l]).getD si [] = l by simpa using hg] at this
      exact this
    refine Ev.step (fun k => i_levels_l4_eq k _ _ _ _) ?_
    simp only [a.g, a.z, a.get, g1, g2, hg, cond_true]
    simp only [Int.toNat_natCast]
    have := j_levels_l9_ev h1n hn steps h12 si hlt l hl hok s hso (pre ++ [l]) (by simp [hp]) hoi rs (fun acc ha hk => j_levels_l4_ev h1n hn steps h12 rs (si + 1) (pre ++ [l]) acc a.next (fun q hq => hs q (by simp [hq])) (by simp [hp]) ha hk)
      l 0 [] rfl (by simp) (fun c hc => by cases hc)
    refine this.to ?_
    rw [levU_cons]
    unfold resU
    split
    · cases levU rs (goU s l []) with
      | none => rfl
      | some L => simp [outU]
    · rfl
theorem j_levels_ev (t : Trick) (h : trickOk t = true) (a1 : t.1.length ≤ maxLen) (ai : Ins t.1) (a2 : t.2.1.length ≤ maxLen) : Ev (fun k => i_levels k t) (outU [] (levU t.2.1 [(t.1, -1)])) := by
  obtain ⟨h1, h2, h3, h4⟩ := trickOk_len h
  have hs := trick_start h
  refine Ev.step (fun k => i_levels_eq k t) (Ev.bind (StartScene_ev t a1 ai a2) ?_)
  have e : startScene t = (t.1, -1, true) := by unfold startScene; rw [if_pos h]
  rw [e]
  exact j_levels_l4_ev h2 h3 t.2.1 h1 t.2.1 0 [] [(t.1, -1)] rfl hs.2 rfl (by simp) (start_all h)
theorem j_AllScenes_ev (t : Trick) (a1 : t.1.length ≤ maxLen) (ai : Ins t.1) (a2 : t.2.1.length ≤ maxLen) : Ev (fun k => i_AllScenes k t) (allScenes t) := by
  refine Ev.step (fun k => i_AllScenes_eq k t) (Ev.bind (i_TrickOk_ev t a1 ai a2) (Ev.ite (fun h => Ev.some ?_) (fun h => ?_)))
  · have : trickOk t = false := by simpa using h
    simp [allScenes, this]
  · have e : trickOk t = true := by simpa using h
    obtain ⟨h1, h2⟩ := lev_ends t.2.1 (startW t)
    have hst : (startW t).map Prod.fst = [(t.1, -1)] := rfl
    rw [hst] at h1 h2
    refine Ev.bind (j_levels_ev t e a1 ai a2) ?_
    unfold allScenes endsOf
    rw [if_pos e]
    cases hL : levU t.2.1 [(t.1, -1)] with
    | none =>
      rw [hL] at h1
      cases hE : endsP t.2.1 (startW t) with
      | some A => rw [hE] at h1; cases h1
      | none => exact Ev.yes rfl (Ev.pure _)
    | some L =>
      rw [hL] at h1
      cases hE : endsP t.2.1 (startW t) with
      | none => rw [hE] at h1; cases h1
      | some A =>
        rw [hE] at h1
        have hlast : L.getLastD [] = A.map Prod.fst := Option.some.inj h1
        have hlen := h2 L hL
        have h12 := (trickOk_len e).1
        have ew : IntKind.i64.wrap ((L.length : Int) - 1) = ((L.length - 1 : Nat) : Int) := by rw [wrap_id (by omega) (by omega)]; omega
        simp only [outU, List.nil_append, ew]
        refine Ev.no rfl (Ev.yes (by simp) (Ev.yes (by simp; omega) (Ev.yes (by simp; omega) (Ev.some ?_))))
        show (L.getD ((L.length - 1 : Nat) : Int).toNat [], true) = (A.map Prod.fst, true)
        rw [← hlast, Int.toNat_natCast]
        congr 1
        cases L with
        | nil => simp at hlen
        | cons a L => rw [List.getLastD_cons, List.getD, ← List.getLast?_eq_getElem?, List.getLast?_cons]; simp [List.getLastD_eq_getLast?]
end Qq
namespace Qq
open Go Go.Vt Pt
set_option linter.unusedVariables false
set_option linter.unusedSimpArgs false
set_option linter.unnecessarySimpa false
def countEnds (t : Trick) : Int := if (allScenes t).2 = true then ((allScenes t).1.length : Int) else -1
end Qq
namespace Qq
open Go Go.Vt Pt
set_option linter.unusedVariables false
set_option linter.unusedSimpArgs false
set_option linter.unnecessarySimpa false
theorem j_SameScene_ev (c d : Scene) (hc : c.1.length ≤ maxLen) (hd : d.1.length ≤ maxLen) : Ev (fun k => i_SameScene k (c, d)) (decide (c = d)) := by
  obtain ⟨p, n⟩ := c
  obtain ⟨q, m⟩ := d
  refine Ev.step (fun k => i_SameScene_eq k (p, n) (q, m)) (Ev.bind (Equal_int_ev p q hc hd) (Ev.ite (fun h => Ev.some ?_) (fun h => Ev.some ?_)))
  · have : p = q := by simpa using h
    subst this
    rw [Bool.eq_iff_iff]; simp
  · have : ¬ p = q := by simpa using h
    simp [this]
theorem j_CountEnds_ev (t : Trick) (a1 : t.1.length ≤ maxLen) (ai : Ins t.1) (a2 : t.2.1.length ≤ maxLen) : Ev (fun k => i_CountEnds k t) (countEnds t) := by
  refine Ev.step (fun k => i_CountEnds_eq k t) (Ev.bind (j_AllScenes_ev t a1 ai a2) (Ev.ite (fun h => Ev.some ?_) (fun h => Ev.some ?_)))
  · unfold countEnds; rw [if_neg (by simpa using h)]
  · unfold countEnds; rw [if_pos (by simpa using h)]
theorem r_fit (t : Trick) (L : List Scene) (hok : trickOk t = true) (hL : L.length ≤ 3000) (hn : L.Nodup) (ho : ∀ c ∈ L, Of t.1 c) {c : Scene} (hc : c ∈ L) : c.1.length ≤ maxLen := by
  have := (ho c hc).ok.len
  have := (trickOk_len hok).2.2.1
  rw [maxLen_eq]; omega
theorem r_l29_ev (t : Trick) (L : List Scene) (hok : trickOk t = true) (hL : L.length ≤ 3000) (hn : L.Nodup) (ho : ∀ c ∈ L, Of t.1 c) (i : Nat) (c : Scene) (hi : i < L.length) (hc : L[i] = c) (K : Ev (fun k => w_FnRuns_l24 k L L (L.length : Int) ((i + 1 : Nat) : Int) t.2.2.1 t.2.2.2.1 t.2.2.2.2 t.1 t.2.1) true) :
    ∀ (m j : Nat), j + m = i → Ev (fun k => w_FnRuns_l29 k L (i : Int) (j : Int) L (L.length : Int) (i : Int) t.2.2.1 t.2.2.2.1 t.2.2.2.2 t.1 t.2.1 c.1 c.2) true
  | 0, j, h => by
    have e : j = i := by omega
    subst e
    refine Ev.step (fun k => w_FnRuns_l29_eq k _ _ _ _ _ _ _ _ _ _ _ _ _) (Ev.no (decide_eq_false (by omega)) ?_)
    rw [show IntKind.i64.wrap ((j : Int) + (1 : Int)) = ((j + 1 : Nat) : Int) by rw [wrap_id (by omega) (by omega)]; omega]
    exact K
  | m + 1, j, h => by
    have hj : j < L.length := by omega
    have hg : L.getD (j : Int).toNat ([], 0) = L[j] := by simp [List.getD, hj]
    have hne : L[j] ≠ c := by
      rw [← hc]
      intro e
      have := (List.nodup_iff_pairwise_ne.1 hn)
      exact List.pairwise_iff_getElem.1 this j i hj hi (by omega) e
    refine Ev.step (fun k => w_FnRuns_l29_eq k _ _ _ _ _ _ _ _ _ _ _ _ _) (Ev.yes (decide_eq_true (by omega)) (Ev.yes (decide_eq_true (by omega)) (Ev.yes (decide_eq_true (by omega)) ?_)))
    rw [hg]
    refine Ev.bind (j_SameScene_ev L[j] c (r_fit t L hok hL hn ho (List.getElem_mem hj)) (r_fit t L hok hL hn ho (hc ▸ List.getElem_mem hi))) (Ev.no (by simp [hne]) ?_)
    rw [show IntKind.i64.wrap ((j : Int) + (1 : Int)) = ((j + 1 : Nat) : Int) by rw [wrap_id (by omega) (by omega)]; omega]
    exact r_l29_ev t L hok hL hn ho i c hi hc K m (j + 1) (by omega)
theorem r_l24_ev (t : Trick) (L : List Scene) (hok : trickOk t = true) (hL : L.length ≤ 3000) (hn : L.Nodup) (ho : ∀ c ∈ L, Of t.1 c) (a2 : t.2.1.length ≤ maxLen) : ∀ (r : List Scene) (i : Nat), L.drop i = r → Ev (fun k => w_FnRuns_l24 k L L (L.length : Int) (i : Int) t.2.2.1 t.2.2.2.1 t.2.2.2.2 t.1 t.2.1) true
  | [], i, h => by
    have a := at_nil h
    obtain ⟨h1, h2, h3, hp⟩ := trickOk_len hok
    have a1 : t.1.length ≤ maxLen := by rw [maxLen_eq]; omega
    have e : startScene t = (t.1, -1, true) := by unfold startScene; rw [if_pos hok]
    refine Ev.step (fun k => w_FnRuns_l24_eq k _ _ _ _ _ _ _ _ _) (Ev.no a.g (Ev.bind (StartScene_ev t a1 (packetOk_ins hp) a2) ?_))
    rw [e]
    exact Ev.yes rfl (Ev.bind (same_ev t.1 t.1 (by omega)) (Ev.yes (by simp) (Ev.pure _)))
  | c :: r, i, h => by
    have a := at_cons h (by rw [maxLen_eq]; omega)
    have hlt := a.lt
    have hg : L[i] = c := by have := a.gt (([], 0) : Scene); simpa [List.getD, hlt] using this
    obtain ⟨h1, h2, h3, hp⟩ := trickOk_len hok
    have a1 : t.1.length ≤ maxLen := by rw [maxLen_eq]; omega
    have hc := ho c a.mem
    refine Ev.step (fun k => w_FnRuns_l24_eq k _ _ _ _ _ _ _ _ _) ?_
    simp only [a.g, a.z, a.get, cond_true]
    refine Ev.bind (i_IsArrangement_ev t.1 c.1 a1 (packetOk_ins hp) (r_fit t L hok hL hn ho a.mem) (packetOk_ins hc.ok.ok)) ?_
    rw [isArr_pm hp hc.pm]
    exact Ev.no rfl (r_l29_ev t L hok hL hn ho i c hlt hg (r_l24_ev t L hok hL hn ho a2 r (i + 1) a.next) i 0 (by omega))
theorem r_l17_ev (t : Trick) (L : List Scene) (hok : trickOk t = true) (hL : L.length ≤ 3000) (hn : L.Nodup) (ho : ∀ c ∈ L, Of t.1 c) (x : Scene) (hx : x ∈ L) (K : Ev (fun k => w_FnRuns_l24 k L L (L.length : Int) (0 : Int) t.2.2.1 t.2.2.2.1 t.2.2.2.2 t.1 t.2.1) true) : ∀ (r : List Scene) (i : Nat) (b : Bool), L.drop i = r → (b = true ∨ x ∈ r) →
    Ev (fun k => w_FnRuns_l17 k L b L (L.length : Int) (i : Int) t.2.2.1 t.2.2.2.1 t.2.2.2.2 t.1 t.2.1 x.2 x.1) true
  | [], i, b, h, hb => by
    have a := at_nil h
    have hb : b = true := by rcases hb with h | h; exact h; cases h
    subst hb
    exact Ev.step (fun k => w_FnRuns_l17_eq k _ _ _ _ _ _ _ _ _ _ _ _) (Ev.no a.g (Ev.no rfl K))
  | c :: r, i, b, h, hb => by
    have a := at_cons h (by rw [maxLen_eq]; omega)
    refine Ev.step (fun k => w_FnRuns_l17_eq k _ _ _ _ _ _ _ _ _ _ _ _) ?_
    simp only [a.g, a.z, a.get, a.w, cond_true]
    refine Ev.ite (fun h1 => r_l17_ev t L hok hL hn ho x hx K r (i + 1) true a.next (.inl rfl)) (fun h1 => ?_)
    refine Ev.bind (j_SameScene_ev c x (r_fit t L hok hL hn ho a.mem) (r_fit t L hok hL hn ho hx)) (r_l17_ev t L hok hL hn ho x hx K r (i + 1) _ a.next ?_)
    rcases hb with hb | hb
    · rw [h1] at hb; cases hb
    · rcases List.mem_cons.1 hb with hb | hb
      · left; simp [hb]
      · exact .inr hb
theorem r_run_ev (t : Trick) (L : List Scene) (hok : trickOk t = true) (hL : L.length ≤ 3000) (hn : L.Nodup) (ho : ∀ c ∈ L, Of t.1 c) (a2 : t.2.1.length ≤ maxLen) (hrun : ∀ ps, (runL t.2.1 (t.1, -1) ps).2.2 = true → ((runL t.2.1 (t.1, -1) ps).1, (runL t.2.1 (t.1, -1) ps).2.1) ∈ L) (ps : List Int) (hps : ps.length ≤ 1048576) :
    Ev (fun k => (i_RunTrick k ((t.1, (t.2.1, (t.2.2.1, (t.2.2.2.1, t.2.2.2.2)))), ps)).bind fun y2 =>
      bif y2.2.2 then
        (w_FnRuns_l17 k L false L (L.length : Int) (0 : Int) t.2.2.1 t.2.2.2.1 t.2.2.2.2 t.1 t.2.1 y2.2.1 y2.1)
      else (w_FnRuns_l24 k L L (L.length : Int) (0 : Int) t.2.2.1 t.2.2.2.1 t.2.2.2.2 t.1 t.2.1)) true := by
  obtain ⟨h1, h2, h3, hp⟩ := trickOk_len hok
  have a1 : t.1.length ≤ maxLen := by rw [maxLen_eq]; omega
  have K := r_l24_ev t L hok hL hn ho a2 L 0 rfl
  refine Ev.bind (i_RunTrick_ev t ps a1 (packetOk_ins hp) a2 hps) (Ev.ite (fun h => ?_) (fun h => K))
  have hmem : ((runTrick t ps).1, (runTrick t ps).2.1) ∈ L := by
    unfold runTrick at h ⊢
    split at h
    · rename_i hc
      rw [if_pos hc]
      exact hrun ps h
    · cases h
  exact r_l17_ev t L hok hL hn ho ((runTrick t ps).1, (runTrick t ps).2.1) hmem K L 0 false rfl (.inr hmem)
theorem r_l10_ev (t : Trick) (L : List Scene) (hok : trickOk t = true) (hL : L.length ≤ 3000) (hn : L.Nodup) (ho : ∀ c ∈ L, Of t.1 c) (code : List Int) (hm : code.length ≤ 9223372036854775807) (a2 : t.2.1.length ≤ maxLen) (hrun : ∀ ps, (runL t.2.1 (t.1, -1) ps).2.2 = true → ((runL t.2.1 (t.1, -1) ps).1, (runL t.2.1 (t.1, -1) ps).2.1) ∈ L) (n : Int) :
    ∀ (m i : Nat) (ps : List Int), i + m = 12 → ps.length = i → Ev (fun k => w_FnRuns_l10 k code n (i : Int) t.2.2.1 t.2.2.2.1 t.2.2.2.2 t.1 t.2.1 L ps) true
  | 0, i, ps, h, hp => by
    have hr := r_run_ev t L hok hL hn ho a2 hrun ps (by omega)
    exact Ev.step (fun k => w_FnRuns_l10_eq k _ _ _ _ _ _ _ _ _ _) (Ev.ite (fun h1 => Ev.no (decide_eq_false (by omega)) hr) (fun h1 => hr))
  | m + 1, i, ps, h, hp => by
    have hr := r_run_ev t L hok hL hn ho a2 hrun ps (by omega)
    refine Ev.step (fun k => w_FnRuns_l10_eq k _ _ _ _ _ _ _ _ _ _) (Ev.ite (fun h1 => Ev.yes (decide_eq_true (by omega)) ?_) (fun h1 => hr))
    rw [show IntKind.i64.wrap ((40 : Int) + (i : Int)) = 40 + (i : Int) by rw [wrap_id (by omega) (by omega)], show IntKind.i64.wrap ((i : Int) + (1 : Int)) = ((i + 1 : Nat) : Int) by rw [wrap_id (by omega) (by omega)]; omega]
    obtain ⟨y, ey, _, _⟩ := MakeNum_ev code hm (40 + (i : Int)) (by omega)
    exact Ev.bind ey (Ev.yes (by rw [rowMax_eq]; simp; omega) (r_l10_ev t L hok hL hn ho code hm a2 hrun n m (i + 1) _ (by omega) (by simp; omega)))
theorem FnRuns_ev (code : List Int) (f0 : Fits (.slice (.int .u8)) code) : Ev (fun k => w_FnRuns k code) true := by
  have hm : code.length ≤ 9223372036854775807 := by have := f0.1; rw [maxLen_eq] at this; exact this
  refine Ev.step (fun k => w_FnRuns_eq k code) (Ev.ite (fun h => Ev.pure _) (fun h => ?_))
  obtain ⟨t, e, ht⟩ := MakeTrick_ev code hm
  obtain ⟨h1, h2, h3, hp⟩ := trickOk_len ht.ok
  have a1 : t.1.length ≤ maxLen := by rw [maxLen_eq]; omega
  have a2 : t.2.1.length ≤ maxLen := by rw [maxLen_eq]; omega
  have ai := packetOk_ins hp
  obtain ⟨L, l1, l2, l3, l4, l5⟩ := allScenes_few ht.ok ht.le
  have hL := few_of hp ht.le l2 l3
  have hpos : 0 < L.length := by
    cases hc : L with
    | nil => exact (l4 hc).elim
    | cons => simp
  have hc : countChoices t = (countK (· == 2) t.2.1 : Int) := by unfold countChoices; rw [if_pos ht.ok]
  have hce : countEnds t = (L.length : Int) := by unfold countEnds; rw [l1]; rfl
  refine Ev.bind e (Ev.bind (j_AllScenes_ev t a1 ai a2) (Ev.bind (i_CountChoices_ev t a1 ai a2) ?_))
  rw [l1, hc]
  refine Ev.no rfl (Ev.no (by simp; omega) (Ev.no (decide_eq_false (by omega)) (Ev.bind (j_CountEnds_ev t a1 ai a2) ?_)))
  rw [hce]
  exact Ev.no (by simp) (r_l10_ev t L ht.ok hL l2 l3 code hm a2 l5 _ 12 0 [] (by omega) rfl)
end Qq
