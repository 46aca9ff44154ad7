/-
  The ways with a beginning: the walks.
  Conditions: lengths are such as a machine bears.
-/
import Derived.Test.YtghbmnhaalpjeaaQi
import Derived.Test.YtghbmnhaalpjeaaQe
namespace Qq
open Go Go.Vt Pt
set_option linter.unusedVariables false
set_option linter.unusedSimpArgs false

theorem binom_step : ∀ m, m < 13 → ∀ i, i < 13 → m + i + 1 ≤ 12 → binom (m + i) i * (m + (i + 1)) / (i + 1) = binom (m + i + 1) (i + 1) ∧ binom (m + i) i ≤ 924 ∧ binom (m + i + 1) (i + 1) ≤ 924 := by decide
theorem binom_le : ∀ m, m < 13 → ∀ i, i < 13 → binom m i ≤ 924 := by decide
theorem choose_l3_ev (N K : Nat) (hK : K ≤ N) (hN : N ≤ 12) : ∀ (d i : Nat), i + d = K → Ev (fun k => s_l19Choose_l3 k (N : Int) (K : Int) (binom (N - K + i) i : Nat) ((i + 1 : Nat) : Int)) (binom N K : Nat)
  | 0, i, h => by
    refine Ev.step (fun k => s_l19Choose_l3_eq k _ _ _ _) (Ev.no (by simp; omega) (Ev.some ?_))
    have : i = K := by omega
    subst this
    rw [show N - i + i = N by omega]
  | d + 1, i, h => by
    obtain ⟨b1, b2, b3⟩ := binom_step (N - K) (by omega) i (by omega) (by omega)
    have hb : binom (N - K + i) i * (N - K + (i + 1)) ≤ 924 * 12 := Nat.mul_le_mul b2 (by omega)
    refine Ev.step (fun k => s_l19Choose_l3_eq k _ _ _ _) (Ev.yes (by simp; omega) (Ev.yes (by simp; omega) ?_))
    have e1 : IntKind.i64.wrap ((N : Int) - (K : Int)) = ((N - K : Nat) : Int) := by rw [wrap_id (by omega) (by omega)]; omega
    have e2 : IntKind.i64.wrap (((N - K : Nat) : Int) + ((i + 1 : Nat) : Int)) = ((N - K + (i + 1) : Nat) : Int) := by rw [wrap_id (by omega) (by omega)]; simp
    have e3 : IntKind.i64.wrap (((binom (N - K + i) i : Nat) : Int) * ((N - K + (i + 1) : Nat) : Int)) = ((binom (N - K + i) i * (N - K + (i + 1)) : Nat) : Int) := by
      rw [← Int.natCast_mul, wrap_id (by omega) (by omega)]
    have e4 : IntKind.i64.wrap ((((binom (N - K + i) i * (N - K + (i + 1)) : Nat) : Int)).tdiv ((i + 1 : Nat) : Int)) = ((binom (N - K + (i + 1)) (i + 1) : Nat) : Int) := by
      rw [← Int.ofNat_tdiv, b1, wrap_id (by omega) (by omega)]; rfl
    have e5 : IntKind.i64.wrap (((i + 1 : Nat) : Int) + 1) = ((i + 1 + 1 : Nat) : Int) := by rw [wrap_id (by omega) (by omega)]; simp
    simp only [e1, e2, e3, e4, e5]
    exact choose_l3_ev N K hK hN d (i + 1) (by omega)
theorem choose_ev (N K : Nat) (hK : K ≤ N) (hN : N ≤ 12) : Ev (fun k => s_l19Choose k ((N : Int), (K : Int))) (binom N K : Nat) := by
  refine Ev.step (fun k => s_l19Choose_eq k _ _) ?_
  have := choose_l3_ev N K hK hN K 0 (by omega)
  simpa [binom] using this

theorem l19Ways_l4_ev (n K : Nat) (p : List Int) (hn : n ≤ 12) (hK : K ≤ n) (hp : p.length ≤ n) : ∀ (r : List Int) (i a b : Nat), p.drop i = r → a ≤ K → K ≤ b → b ≤ n → (K - a) + (n - b) = n - p.length + r.length →
    Ev (fun k => s_l19Ways_l4 k (n : Int) (K : Int) p (a : Int) (b : Int) p (p.length : Int) (i : Int)) (wf n K (n - p.length) a b r : Nat)
  | [], i, a, b, h, h1, h2, h3, h4 => by
    have q := at_nil h
    refine Ev.step (fun k => s_l19Ways_l4_eq k _ _ _ _ _ _ _ _) ?_
    simp only [q.g, cond_false]
    rw [wrap_id (by omega) (by omega), wrap_id (by omega) (by omega)]
    have e1 : (n : Int) - (p.length : Int) = ((n - p.length : Nat) : Int) := by omega
    have e2 : (K : Int) - (a : Int) = ((K - a : Nat) : Int) := by omega
    rw [e1, e2]
    simp only [List.length_nil] at h4
    refine Ev.bind (choose_ev (n - p.length) (K - a) (by omega) (by omega)) (Ev.some ?_)
    unfold wf; rfl
  | x :: r, i, a, b, h, h1, h2, h3, h4 => by
    have q := at_cons h (by rw [maxLen_eq]; omega)
    simp only [List.length_cons] at h4
    refine Ev.step (fun k => s_l19Ways_l4_eq k _ _ _ _ _ _ _ _) ?_
    simp only [q.g, q.z, q.get, q.gt, q.w, cond_true]
    rw [wrap_id (x := (a : Int) + 1) (by omega) (by omega), wrap_id (x := (b : Int) + 1) (by omega) (by omega)]
    unfold wf
    refine Ev.ite (fun c1 => Ev.ite (fun c2 => ?_) (fun c2 => Ev.ite (fun c3 => Ev.ite (fun c4 => ?_) (fun c4 => Ev.some ?_)) (fun c3 => Ev.some ?_))) (fun c1 => Ev.ite (fun c3 => Ev.ite (fun c4 => ?_) (fun c4 => Ev.some ?_)) (fun c3 => Ev.some ?_))
    · have d1 : x = (a : Int) := by simpa using c1
      have d2 : a < K := by simpa using c2
      rw [if_pos ⟨d1, d2⟩]
      exact l19Ways_l4_ev n K p hn hK hp r (i + 1) (a + 1) b q.next (by omega) h2 h3 (by omega)
    · have d1 : x = (a : Int) := by simpa using c1
      have d2 : ¬ a < K := by simpa using c2
      have d3 : x = (b : Int) := by simpa using c3
      have d4 : b < n := by simpa using c4
      rw [if_neg (fun e => d2 e.2), if_pos ⟨d3, d4⟩]
      exact l19Ways_l4_ev n K p hn hK hp r (i + 1) a (b + 1) q.next h1 (by omega) (by omega) (by omega)
    · have d2 : ¬ a < K := by simpa using c2
      have d4 : ¬ b < n := by simpa using c4
      rw [if_neg (fun e => d2 e.2), if_neg (fun e => d4 e.2)]; rfl
    · have d2 : ¬ a < K := by simpa using c2
      have d3 : ¬ x = (b : Int) := by simpa using c3
      rw [if_neg (fun e => d2 e.2), if_neg (fun e => d3 e.1)]; rfl
    · have d1 : ¬ x = (a : Int) := by simpa using c1
      have d3 : x = (b : Int) := by simpa using c3
      have d4 : b < n := by simpa using c4
      rw [if_neg (fun e => d1 e.1), if_pos ⟨d3, d4⟩]
      exact l19Ways_l4_ev n K p hn hK hp r (i + 1) a (b + 1) q.next h1 (by omega) (by omega) (by omega)
    · have d1 : ¬ x = (a : Int) := by simpa using c1
      have d4 : ¬ b < n := by simpa using c4
      rw [if_neg (fun e => d1 e.1), if_neg (fun e => d4 e.2)]; rfl
    · have d1 : ¬ x = (a : Int) := by simpa using c1
      have d3 : ¬ x = (b : Int) := by simpa using c3
      rw [if_neg (fun e => d1 e.1), if_neg (fun e => d3 e.1)]; rfl
theorem l19Ways_ev (n K : Nat) (p : List Int) (hn : n ≤ 12) (hK : K ≤ n) (hp : p.length ≤ n) : Ev (fun k => s_l19Ways k ((n : Int), (K : Int), p)) (wf n K (n - p.length) 0 K p : Nat) :=
  Ev.step (fun k => s_l19Ways_eq k _ _ _) (l19Ways_l4_ev n K p hn hK hp p 0 0 K rfl (by omega) (by omega) hK (by omega))

theorem wf_le (n K : Nat) (p : List Int) (hn : n ≤ 12) (hK : K ≤ n) (hp : p.length ≤ n) : wf n K (n - p.length) 0 K p ≤ 4096 := by
  have h1 := cnt_wf n K (n - p.length) p 0 K (by omega) (by omega) hK (by omega)
  rw [← h1]
  unfold cnt
  refine Nat.le_trans List.countP_le_length ?_
  rw [List.length_range, show n - p.length + p.length = n by omega]
  exact Nat.pow_le_pow_right (by decide) hn
theorem s_WaysWith_l5_ev (n : Nat) (p : List Int) (hn : n ≤ 12) (hp : p.length ≤ n) : ∀ (d i : Nat), i + d = n + 1 → sumK (fun k => wf n k (n - p.length) 0 k p) i ≤ i * 4096 →
    Ev (fun k => s_WaysWith_l5 k (n : Int) p (sumK (fun k => wf n k (n - p.length) 0 k p) i : Nat) (i : Int)) (sumK (fun k => wf n k (n - p.length) 0 k p) (n + 1) : Nat)
  | 0, i, h, hb => by
    refine Ev.step (fun k => s_WaysWith_l5_eq k _ _ _ _) (Ev.no (by simp; omega) (Ev.some ?_))
    have : i = n + 1 := by omega
    rw [this]
  | d + 1, i, h, hb => by
    have hw := wf_le n i p hn (by omega) hp
    refine Ev.step (fun k => s_WaysWith_l5_eq k _ _ _ _) (Ev.yes (by simp; omega) (Ev.bind (l19Ways_ev n i p hn (by omega) hp) ?_))
    have hi : i * 4096 ≤ 13 * 4096 := Nat.mul_le_mul_right _ (by omega)
    rw [wrap_id (x := (i : Int) + 1) (by omega) (by omega), ← Int.natCast_add, wrap_id (by omega) (by omega)]
    have ih := s_WaysWith_l5_ev n p hn hp d (i + 1) (by omega) (by unfold sumK; omega)
    simpa [sumK] using ih
theorem s_WaysWith_ev (n : Int) (p : List Int) (hm : p.length ≤ maxLen) : Ev (fun k => s_WaysWith k (n, p)) (if isPre n p then (ways n.toNat p : Nat) else -1) := by
  refine Ev.step (fun k => s_WaysWith_eq k n p) (Ev.bind (s_l19Ok_ev n p hm) (Ev.ite (fun h => Ev.some ?_) (fun h => ?_)))
  · have : isPre n p = false := by simpa using h
    rw [this]; rfl
  · have hp : isPre n p = true := by simpa using h
    obtain ⟨h1, h2, h3, h4, h5⟩ := isPre_fit hp
    have en : n = ((n.toNat : Nat) : Int) := by omega
    rw [hp, if_pos rfl, ways_eq _ _ (by omega)]
    have := s_WaysWith_l5_ev n.toNat p (by omega) (by omega) (n.toNat + 1) 0 (by omega) (by simp [sumK])
    rw [← en] at this
    simpa [sumK] using this

theorem two_pow (n N : Nat) (hn : n ≤ 12) (hN : 2 ^ n = N) : IntKind.i64.wrap ((1 : Int) * 2 ^ (min ((n : Int)).toNat IntKind.i64.bits)) = (N : Int) ∧ N ≤ 4096 := by
  have hb : IntKind.i64.bits = 64 := by decide
  have h : (2 : Nat) ^ n ≤ 2 ^ 12 := Nat.pow_le_pow_right (by decide) hn
  rw [hN] at h
  rw [hb, Int.toNat_natCast, Nat.min_eq_left (by omega), Int.one_mul]
  have e : ((2 : Int) ^ n) = (N : Int) := by rw [← hN]; norm_cast
  rw [e, wrap_id (by omega) (by omega)]
  exact ⟨rfl, h⟩
def wayB (n : Nat) (p : List Int) (w : Nat) : Bool := (riff (bits n w) 0 (zeros (bits n w))).take p.length == p
theorem ways_count (n : Nat) (p : List Int) : ways n p = (List.range (2 ^ n)).countP (wayB n p) := rfl
theorem i_WaysWith_l5_ev (n N : Nat) (p : List Int) (hn : n ≤ 12) (hN : 2 ^ n = N) (hp : p.length ≤ n) : ∀ (d i : Nat), i + d = N →
    Ev (fun k => i_WaysWith_l5 k (n : Int) p ((List.range i).countP (wayB n p) : Nat) (i : Int) (upTo n)) (ways n p : Nat) := by
  obtain ⟨hpow, hle⟩ := two_pow n N hn hN
  intro d
  induction d with
  | zero =>
    intro i h
    refine Ev.step (fun k => i_WaysWith_l5_eq k _ _ _ _ _) (Ev.yes (by simp) (Ev.no (by rw [hpow]; simp; omega) (Ev.some ?_)))
    rw [ways_count, hN, show i = N by omega]
  | succ d ih =>
    intro i h
    refine Ev.step (fun k => i_WaysWith_l5_eq k _ _ _ _ _) (Ev.yes (by simp) (Ev.yes (by rw [hpow]; simp; omega) (Ev.bind (i_riffled_ev n i hn (by omega)) (Ev.yes (by simp) (Ev.yes (by rw [riff_len, bits_len]; simp; omega) ?_)))))
    rw [Int.toNat_natCast, List.drop_zero]
    have hc : (List.range i).countP (wayB n p) ≤ i := by have := List.countP_le_length (p := wayB n p) (l := List.range i); simpa using this
    refine Ev.bind (Equal_int_ev _ _ (by rw [List.length_take, maxLen_eq]; omega) (by rw [maxLen_eq]; omega)) ?_
    rw [wrap_id (x := (i : Int) + 1) (by omega) (by omega), wrap_id (by omega) (by omega)]
    have ih' := ih (i + 1) (by omega)
    rw [List.range_succ, List.countP_append, List.countP_singleton] at ih'
    refine Ev.ite (fun c => ?_) (fun c => ?_)
    · have c' : wayB n p i = true := c
      rw [c', if_pos rfl] at ih'
      simpa using ih'
    · have c' : wayB n p i = false := c
      rw [c'] at ih'
      simpa using ih'
theorem i_WaysWith_ev (n : Int) (p : List Int) (hm : p.length ≤ maxLen) : Ev (fun k => i_WaysWith k (n, p)) (if isPre n p then (ways n.toNat p : Nat) else -1) := by
  refine Ev.step (fun k => i_WaysWith_eq k n p) (Ev.bind (i_isPrefix_ev n p hm) (Ev.ite (fun h => Ev.some ?_) (fun h => ?_)))
  · have : isPre n p = false := by simpa using h
    rw [this]; rfl
  · have hp : isPre n p = true := by simpa using h
    obtain ⟨h1, h2, h3, h4, h5⟩ := isPre_fit hp
    have en : n = ((n.toNat : Nat) : Int) := by omega
    rw [hp, if_pos rfl]
    have hu := i_upTo_ev n.toNat (by omega)
    rw [← en] at hu
    refine Ev.bind hu ?_
    have := i_WaysWith_l5_ev n.toNat _ p (by omega) rfl (by omega) (2 ^ n.toNat) 0 (by omega)
    rw [← en] at this
    simpa using this
end Qq
