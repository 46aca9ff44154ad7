/-
  Riffles by bits, and their walk.
  Conditions: at most 12 cards.
-/
import Derived.Test.YtghbmnhaalpjeaaQg
namespace Qq
open Go Go.Vt Pt
set_option linter.unusedVariables false
set_option linter.unusedSimpArgs false

/-! ### bits -/
def bits : Nat → Nat → List Bool
  | 0, _ => []
  | n + 1, w => (w % 2 == 1) :: bits n (w / 2)
theorem bits_len : ∀ n w, (bits n w).length = n
  | 0, _ => rfl
  | n + 1, w => by simp [bits, bits_len n]
theorem bits_get : ∀ (n w i : Nat), i < n → (bits n w)[i]? = some (w / 2 ^ i % 2 == 1)
  | 0, _, _, h => by omega
  | n + 1, w, 0, h => by simp [bits]
  | n + 1, w, i + 1, h => by
    show (bits n (w / 2))[i]? = _
    rw [bits_get n (w / 2) i (by omega), Nat.div_div_eq_div_mul, Nat.pow_succ, Nat.mul_comm 2 (2 ^ i)]
theorem bits_drop {n w i : Nat} (h : i < n) : (bits n w).drop i = (w / 2 ^ i % 2 == 1) :: (bits n w).drop (i + 1) := by
  have hl : i < (bits n w).length := by rw [bits_len]; exact h
  rw [List.drop_eq_getElem_cons hl]
  have := bits_get n w i h
  rw [List.getElem?_eq_getElem hl] at this
  injection this with e
  rw [e]
/-- A bit, as the program takes it. -/
theorem bit_wrap (w i : Nat) (hi : i < 64) (hw : w < 9223372036854775808) : IntKind.i64.wrap (((BitVec.ofInt IntKind.i64.bits (((w : Int)).fdiv (2 ^ (min ((i : Int)).toNat IntKind.i64.bits))) &&& BitVec.ofInt IntKind.i64.bits (1 : Int)).toNat : Int)) = ((w / 2 ^ i % 2 : Nat) : Int) := by
  have hb : IntKind.i64.bits = 64 := by decide
  rw [hb, Int.toNat_natCast, Nat.min_eq_left (by omega)]
  have e1 : ((w : Int)).fdiv (2 ^ i) = ((w / 2 ^ i : Nat) : Int) := by
    rw [Int.fdiv_eq_ediv_of_nonneg _ (by exact Int.le_of_lt (Int.pow_pos (by decide)))]
    norm_cast
  have e2 : (BitVec.ofInt 64 ((w / 2 ^ i : Nat) : Int) &&& BitVec.ofInt 64 (1 : Int)).toNat = w / 2 ^ i % 2 := by
    have h1 : (1 : Int) = ((1 : Nat) : Int) := rfl
    rw [h1, BitVec.ofInt_natCast, BitVec.ofInt_natCast, BitVec.toNat_and, BitVec.toNat_ofNat, BitVec.toNat_ofNat]
    have hlt : w / 2 ^ i < 2 ^ 64 := by
      have := Nat.div_le_self w (2 ^ i)
      omega
    rw [Nat.mod_eq_of_lt hlt]
    exact Nat.and_one_is_mod _
  rw [e1, e2, wrap_id (by omega) (by omega)]

def zeros (l : List Bool) : Nat := l.count false
def ones (l : List Bool) : Nat := l.count true
theorem zo : ∀ l : List Bool, zeros l + ones l = l.length
  | [] => rfl
  | b :: l => by
    have := zo l
    unfold zeros ones at *
    cases b <;> simp <;> omega
/-- The cards of two parts that begin at a and at b, in turn as the bits say. -/
def riff : List Bool → Nat → Nat → List Int
  | [], _, _ => []
  | false :: l, a, b => (a : Int) :: riff l (a + 1) b
  | true :: l, a, b => (b : Int) :: riff l a (b + 1)
theorem riff_len : ∀ (l : List Bool) (a b : Nat), (riff l a b).length = l.length
  | [], _, _ => rfl
  | false :: l, a, b => by simp [riff, riff_len l]
  | true :: l, a, b => by simp [riff, riff_len l]

def upTo (n : Nat) : List Int := (List.range n).map fun (i : Nat) => (i : Int)
theorem upTo_len (n : Nat) : (upTo n).length = n := by simp [upTo]
theorem upTo_get {n i : Nat} (h : i < n) (d : Int) : (upTo n).getD i d = i := by simp [upTo, List.getD, h]
theorem upTo_succ (n : Nat) : upTo (n + 1) = upTo n ++ [(n : Int)] := by simp [upTo, List.range_succ]

/-! ### the walk -/
theorem i_upTo_l3_ev (n : Nat) (hn : n ≤ 1048576) : ∀ (m i : Nat), i + m = n → Ev (fun k => i_upTo_l3 k (n : Int) (i : Int) (upTo i)) (upTo n)
  | 0, i, h => by
    refine Ev.step (fun k => i_upTo_l3_eq k n i _) ?_
    rw [at_end (by omega)]
    have : i = n := by omega
    subst this
    exact Ev.pure _
  | m + 1, i, h => by
    have a := at_up (n := (n : Int)) (i := i) (by omega) (by omega)
    refine Ev.step (fun k => i_upTo_l3_eq k n i _) ?_
    simp only [a.g, a.w, cond_true]
    refine Ev.yes (by rw [upTo_len, rowMax_eq]; simp; omega) ?_
    rw [← upTo_succ]
    exact i_upTo_l3_ev n hn m (i + 1) (by omega)
theorem i_upTo_ev (n : Nat) (hn : n ≤ 1048576) : Ev (fun k => i_upTo k (n : Int)) (upTo n) :=
  Ev.step (fun k => i_upTo_eq k n) (i_upTo_l3_ev n hn n 0 (by omega))

theorem i_riffled_l9_ev (n w a0 : Nat) (hn : n ≤ 12) (hw : w < 9223372036854775808) : ∀ (m i a b : Nat) (acc : List Int), i + m = n → acc.length = i → a + zeros ((bits n w).drop i) ≤ n → b + ones ((bits n w).drop i) ≤ n →
    Ev (fun k => i_riffled_l9 k (upTo n) (w : Int) (a : Int) (b : Int) (n : Int) (i : Int) acc) (acc ++ riff ((bits n w).drop i) a b)
  | 0, i, a, b, acc, h, hl, ha, hb => by
    refine Ev.step (fun k => i_riffled_l9_eq k _ _ _ _ _ _ _) ?_
    rw [at_end (by omega)]
    have : (bits n w).drop i = [] := List.drop_eq_nil_of_le (by rw [bits_len]; omega)
    rw [this]
    exact Ev.some (by simp [riff])
  | m + 1, i, a, b, acc, h, hl, ha, hb => by
    have u := at_up (n := (n : Int)) (i := i) (by omega) (by omega)
    have hd := bits_drop (n := n) (w := w) (i := i) (by omega)
    refine Ev.step (fun k => i_riffled_l9_eq k _ _ _ _ _ _ _) ?_
    rw [bit_wrap w i (by omega) hw]
    simp only [u.g, u.z, u.w, cond_true]
    rw [hd] at ha hb ⊢
    cases hbit : (w / 2 ^ i % 2 == 1) with
    | true =>
      rw [hbit] at ha hb
      simp only [zeros, ones, List.count_cons] at ha hb
      simp at ha hb
      have e : (((w / 2 ^ i % 2 : Nat) : Int) == 1) = true := by
        have : w / 2 ^ i % 2 = 1 := by simpa using hbit
        rw [this]; rfl
      refine Ev.yes e (Ev.yes (by simp) (Ev.yes (by rw [upTo_len]; simp; omega) (Ev.yes (by simp [rowMax_eq]; omega) ?_)))
      rw [wrap_id (by omega) (by omega), Int.toNat_natCast, upTo_get (by omega)]
      have := i_riffled_l9_ev n w a0 hn hw m (i + 1) a (b + 1) (acc ++ [(b : Int)]) (by omega) (by simp [hl]) (by simpa [zeros] using ha) (by simp only [ones]; omega)
      simpa [riff] using this
    | false =>
      rw [hbit] at ha hb
      simp only [zeros, ones, List.count_cons] at ha hb
      simp at ha hb
      have e : (((w / 2 ^ i % 2 : Nat) : Int) == 1) = false := by
        have h1 : ¬ w / 2 ^ i % 2 = 1 := by simpa using hbit
        have h2 : w / 2 ^ i % 2 = 0 := by omega
        rw [h2]; rfl
      refine Ev.no e (Ev.yes (by simp) (Ev.yes (by rw [upTo_len]; simp; omega) (Ev.yes (by simp [rowMax_eq]; omega) ?_)))
      rw [wrap_id (by omega) (by omega), Int.toNat_natCast, upTo_get (by omega)]
      have := i_riffled_l9_ev n w a0 hn hw m (i + 1) (a + 1) b (acc ++ [(a : Int)]) (by omega) (by simp [hl]) (by simp only [zeros]; omega) (by simpa [ones] using hb)
      simpa [riff] using this
theorem i_riffled_l3_ev (n w : Nat) (hn : n ≤ 12) (hw : w < 9223372036854775808) : ∀ (m i z : Nat), i + m = n → z ≤ i → z + zeros ((bits n w).drop i) = zeros (bits n w) →
    Ev (fun k => i_riffled_l3 k (upTo n) (w : Int) 0 (z : Int) (n : Int) (i : Int)) (riff (bits n w) 0 (zeros (bits n w)))
  | 0, i, z, h, hz, hs => by
    refine Ev.step (fun k => i_riffled_l3_eq k _ _ _ _ _ _) ?_
    rw [at_end (by omega)]
    have e : (bits n w).drop i = [] := List.drop_eq_nil_of_le (by rw [bits_len]; omega)
    rw [e] at hs
    have hs' : z = zeros (bits n w) := by simpa [zeros] using hs
    have h1 := zo (bits n w)
    rw [bits_len] at h1
    have := i_riffled_l9_ev n w 0 hn hw n 0 0 z [] (by omega) rfl (by rw [List.drop_zero]; omega) (by rw [List.drop_zero]; omega)
    rw [upTo_len, hs'] at *
    simpa using this
  | m + 1, i, z, h, hz, hs => by
    have u := at_up (n := (n : Int)) (i := i) (by omega) (by omega)
    have hd := bits_drop (n := n) (w := w) (i := i) (by omega)
    refine Ev.step (fun k => i_riffled_l3_eq k _ _ _ _ _ _) ?_
    rw [bit_wrap w i (by omega) hw]
    simp only [u.g, u.z, u.w, cond_true]
    rw [hd] at hs
    have hlt : w / 2 ^ i % 2 < 2 := Nat.mod_lt _ (by decide)
    rw [wrap_id (x := 1 - _) (by omega) (by omega), wrap_id (by omega) (by omega)]
    cases hbit : (w / 2 ^ i % 2 == 1) with
    | true =>
      have h1 : w / 2 ^ i % 2 = 1 := by simpa using hbit
      rw [hbit] at hs
      simp only [zeros, List.count_cons] at hs
      simp at hs
      rw [h1]
      have := i_riffled_l3_ev n w hn hw m (i + 1) z (by omega) (by omega) (by simpa [zeros] using hs)
      simpa using this
    | false =>
      have h0 : ¬ w / 2 ^ i % 2 = 1 := by simpa using hbit
      have h1 : w / 2 ^ i % 2 = 0 := by omega
      rw [hbit] at hs
      simp only [zeros, List.count_cons] at hs
      simp at hs
      rw [h1]
      have := i_riffled_l3_ev n w hn hw m (i + 1) (z + 1) (by omega) (by omega) (by simp only [zeros]; omega)
      simpa using this
theorem i_riffled_ev (n w : Nat) (hn : n ≤ 12) (hw : w < 9223372036854775808) : Ev (fun k => i_riffled k (upTo n, (w : Int))) (riff (bits n w) 0 (zeros (bits n w))) := by
  refine Ev.step (fun k => i_riffled_eq k _ _) ?_
  rw [upTo_len]
  exact i_riffled_l3_ev n w hn hw n 0 0 (by omega) (by omega) (by simp)
end Qq
