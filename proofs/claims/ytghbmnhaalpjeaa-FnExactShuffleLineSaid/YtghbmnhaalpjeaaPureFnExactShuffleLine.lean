/-
  The program's ShuffleLine and the reference's ShuffleLine return the same text for every list of integers, and the law answers true: the one pure statement that the printed walk leaves.
  Conditions: none beyond those of the printed statement (each number fits its kind, the list takes at most 2^47 - 4096 bytes).
-/
import Derived.Test.YtghbmnhaalpjeaaPFnExactShuffleLinex1
namespace Go.Proofs.Ytghbmnhaalpjeaa.Pure
open Go.RowKit Go.Proofs.Ytghbmnhaalpjeaa.PFnExactShuffleLine Go.Proofs.YtghbmnhaalpjeaaW.PrintWords Go.Proofs.YtghbmnhaalpjeaaW.PrintLast

theorem wrap_succ {i : Int} {n : Nat} (h0 : 0 ≤ i) (h : i < (n : Int)) (hn : n ≤ 140737488351232) : wrap64 (i + 1) = i + 1 := by
  unfold wrap64
  omega

/-- The copying loop: from place i on it hands back the list whose first i places are copied. -/
theorem toIntS_loop (l : List Int) (hn : l.length ≤ 140737488351232) (d : Nat) : ∀ (k : Nat) (ys : List Int) (i : Nat), ys.length = l.length → i + d = l.length → d < k → ys.take i = l.take i →
    laws_toIntS.l0 k l ys (i : Int) = some l := by
  induction d with
  | zero =>
    intro k ys i hy hi hk ht
    obtain ⟨k, rfl⟩ : ∃ m, k = m + 1 := ⟨k - 1, by omega⟩
    simp only [laws_toIntS.l0]
    rw [if_neg (by omega)]
    rw [List.take_of_length_le (by omega), List.take_of_length_le (by omega)] at ht
    rw [ht]
  | succ d ih =>
    intro k ys i hy hi hk ht
    obtain ⟨k, rfl⟩ : ∃ m, k = m + 1 := ⟨k - 1, by omega⟩
    simp only [laws_toIntS.l0]
    rw [if_pos (by omega), if_pos (by omega), if_pos (by omega), wrap_succ (n := l.length) (by omega) (by omega) hn]
    have e : ((i : Int) + 1) = ((i + 1 : Nat) : Int) := by omega
    rw [e]
    refine ih k _ (i + 1) (by simpa using hy) (by omega) (by omega) ?_
    have hlt : i < l.length := by omega
    rw [List.take_succ_eq_append_getElem (by simp; omega), List.take_succ_eq_append_getElem hlt]
    simp only [Int.toNat_natCast, List.getElem_set_self]
    rw [List.take_set_of_le (by omega), ht]
    simp [rd, hlt]

theorem toIntS_eq (l : List Int) (hn : l.length ≤ 1048576) (k : Nat) (hk : l.length < k) : laws_toIntS.f k l = some l := by
  unfold laws_toIntS.f
  rw [if_pos (by omega), if_pos (by simp; omega)]
  exact toIntS_loop l (by omega) l.length k _ 0 (by simp) (by omega) hk (by simp)

theorem eqIntS_loop (l : List Int) (hn : l.length ≤ 140737488351232) (d : Nat) : ∀ (k : Nat) (i : Int), 0 ≤ i → (l.length : Int) - i = d → d < k → laws_eqIntS.l0 k l l i = some true := by
  induction d with
  | zero =>
    intro k i h0 hi hk
    obtain ⟨k, rfl⟩ : ∃ m, k = m + 1 := ⟨k - 1, by omega⟩
    simp only [laws_eqIntS.l0]
    rw [if_neg (by omega)]
  | succ d ih =>
    intro k i h0 hi hk
    obtain ⟨k, rfl⟩ : ∃ m, k = m + 1 := ⟨k - 1, by omega⟩
    simp only [laws_eqIntS.l0]
    rw [if_pos (by omega), if_pos h0, if_pos (by omega), wrap_succ h0 (by omega) hn]
    exact ih k (i + 1) (by omega) (by omega) (by omega)

theorem eqIntS_self (l : List Int) (hn : l.length ≤ 1048576) (k : Nat) (hk : l.length < k) : laws_eqIntS.f k l l = some true := by
  unfold laws_eqIntS.f
  rw [if_pos rfl]
  exact eqIntS_loop l (by omega) l.length k 0 (by omega) (by omega) hk

/-- Both loops are one text. -/
theorem shuffle_loops : ∀ (k : Nat) (s : ByteArray) (l : List Int) (n i : Int), impl_ShuffleLine.l0 k s l n i = spec_ShuffleLine.l0 k s l n i := by
  intro k
  induction k with
  | zero => intro s l n i; rfl
  | succ k ih => intro s l n i; simp only [impl_ShuffleLine.l0, spec_ShuffleLine.l0, ih]

theorem shuffle_some (l : List Int) (hn : l.length ≤ 1048576) (d : Nat) : ∀ (k : Nat) (s : ByteArray) (i : Int), 0 ≤ i → s.size = i.toNat → (l.length : Int) - i = d → d < k → ∃ r, spec_ShuffleLine.l0 k s l (l.length : Int) i = some r := by
  induction d with
  | zero =>
    intro k s i h0 hs hi hk
    obtain ⟨k, rfl⟩ : ∃ m, k = m + 1 := ⟨k - 1, by omega⟩
    simp only [spec_ShuffleLine.l0]
    rw [if_neg (by omega)]
    split <;> exact ⟨_, rfl⟩
  | succ d ih =>
    intro k s i h0 hs hi hk
    obtain ⟨k, rfl⟩ : ∃ m, k = m + 1 := ⟨k - 1, by omega⟩
    simp only [spec_ShuffleLine.l0]
    have hw := wrap_succ (n := l.length) h0 (by omega) (by omega)
    rw [if_pos (by omega), if_pos h0, if_pos (by omega)]
    have hc : s.size + 1 ≤ 9223372036854775807 := by omega
    rw [if_pos hc, if_pos hc, hw]
    split
    · exact ih k _ (i + 1) (by omega) (by rw [ByteArray.size_append, hs]; show i.toNat + 1 = _; omega) (by omega) (by omega)
    · exact ih k _ (i + 1) (by omega) (by rw [ByteArray.size_append, hs]; show i.toNat + 1 = _; omega) (by omega) (by omega)

theorem FnExactShuffleLine : laws_FnExactShuffleLine.Pure := by
  intro l hm hb hw
  refine ⟨l.length + 1, ?_⟩
  unfold laws_FnExactShuffleLine.f
  by_cases hg : (l.length : Int) > 1048576
  · rw [if_pos hg]
  · have hn : l.length ≤ 1048576 := by omega
    rw [if_neg hg, toIntS_eq l hn _ (by omega)]
    obtain ⟨r, hr⟩ := shuffle_some l hn l.length (l.length + 1) (⟨#[]⟩ : ByteArray) 0 (by omega) rfl (by omega) (by omega)
    have h1 : spec_ShuffleLine.f (l.length + 1) l = some r := hr
    have h2 : impl_ShuffleLine.f (l.length + 1) l = some r := (shuffle_loops _ _ _ _ _).trans hr
    simp only [Option.bind_some, h1, h2, if_true]
    rw [eqIntS_self l hn _ (by omega)]
    simp

end Go.Proofs.Ytghbmnhaalpjeaa.Pure
