/-
  The ways with each next card: the program's walk; the best guess.
  Conditions: lengths are such as a machine bears.
-/
import Derived.Test.YtghbmnhaalpjeaaQk
namespace Qq
open Go Go.Vt Pt
set_option linter.unusedVariables false
set_option linter.unusedSimpArgs false

theorem riff_lt : ∀ (l : List Bool) (a b : Nat) (y : Int), a + zeros l ≤ b → y ∈ riff l a b → 0 ≤ y ∧ y < (b : Int) + ones l
  | [], a, b, y, _, h => by simp [riff] at h
  | false :: l, a, b, y, hz, h => by
    have z1 : zeros (false :: l) = zeros l + 1 := by simp [zeros]
    have z2 : ones (false :: l) = ones l := by simp [ones]
    rcases List.mem_cons.1 (show y ∈ (a : Int) :: riff l (a + 1) b from h) with e | h
    · omega
    · have := riff_lt l (a + 1) b y (by omega) h; omega
  | true :: l, a, b, y, hz, h => by
    have z1 : zeros (true :: l) = zeros l := by simp [zeros]
    have z2 : ones (true :: l) = ones l + 1 := by simp [ones]
    rcases List.mem_cons.1 (show y ∈ (b : Int) :: riff l a (b + 1) from h) with e | h
    · omega
    · have := riff_lt l a (b + 1) y (by omega) h; omega
/-- The riffle by the bits of w. -/
def rw_ (n w : Nat) : List Int := riff (bits n w) 0 (zeros (bits n w))
theorem rw_len (n w : Nat) : (rw_ n w).length = n := by rw [rw_, riff_len, bits_len]
theorem rw_lt (n w i : Nat) (h : i < n) : ∃ c : Nat, c < n ∧ (rw_ n w)[i]? = some (c : Int) := by
  have hl : i < (rw_ n w).length := by rw [rw_len]; exact h
  have := riff_lt (bits n w) 0 (zeros (bits n w)) (rw_ n w)[i] (by omega) (List.getElem_mem hl)
  have z := zo (bits n w)
  rw [bits_len] at z
  refine ⟨(rw_ n w)[i].toNat, by omega, ?_⟩
  rw [List.getElem?_eq_getElem hl]
  congr 1; omega
theorem way_next (n w : Nat) (p : List Int) (hl : p.length < n) (c : Nat) (hc : (rw_ n w)[p.length]? = some (c : Int)) (x : Nat) : wayB n (p ++ [(x : Int)]) w = (wayB n p w && (x == c)) := by
  have hlt : p.length < (rw_ n w).length := by rw [rw_len]; exact hl
  have e : (rw_ n w).take (p.length + 1) = (rw_ n w).take p.length ++ [(c : Int)] := by
    rw [List.take_succ_eq_append_getElem hlt]
    rw [List.getElem?_eq_getElem hlt] at hc
    injection hc with hc
    rw [hc]
  show ((rw_ n w).take (p ++ [(x : Int)]).length == p ++ [(x : Int)]) = ((rw_ n w).take p.length == p && (x == c))
  rw [List.length_append, List.length_singleton, e, Bool.eq_iff_iff]
  simp only [beq_iff_eq, Bool.and_eq_true]
  constructor
  · intro h
    have := List.append_inj h (by rw [List.length_take]; omega)
    refine ⟨this.1, ?_⟩
    have h2 := this.2
    simp at h2; omega
  · rintro ⟨h1, h2⟩
    rw [h1, h2]
def partWays (n : Nat) (p : List Int) (i : Nat) : List Int := (List.range n).map fun (x : Nat) => (((List.range i).countP (wayB n (p ++ [(x : Int)])) : Nat) : Int)
theorem partWays_len (n : Nat) (p : List Int) (i : Nat) : (partWays n p i).length = n := by simp [partWays]
theorem partWays_get (n : Nat) (p : List Int) (i x : Nat) (h : x < n) : (partWays n p i)[x]? = some (((List.range i).countP (wayB n (p ++ [(x : Int)])) : Nat) : Int) := by simp [partWays, h]
theorem partWays_next (n : Nat) (p : List Int) (i : Nat) (hl : p.length < n) (c : Nat) (hc : (rw_ n i)[p.length]? = some (c : Int)) (hcn : c < n) (hw : wayB n p i = true) : (partWays n p i).set c ((partWays n p i).getD c 0 + 1) = partWays n p (i + 1) := by
  apply List.ext_getElem?
  intro x
  rw [List.getElem?_set]
  by_cases hx : x < n
  · rw [partWays_get n p (i + 1) x hx, List.range_succ, List.countP_append, List.countP_singleton, way_next n i p hl c hc x, hw]
    by_cases e : c = x
    · subst e
      have hg : (partWays n p i).getD c 0 = (((List.range i).countP (wayB n (p ++ [(c : Int)])) : Nat) : Int) := by rw [List.getD, partWays_get n p i c hx]; rfl
      rw [if_pos rfl, hg, partWays_len, if_pos hx]
      simp
    · have : ¬ x = c := fun h => e h.symm
      simp [e, this, partWays_get n p i x hx]
  · have h1 : ¬ c = x := by omega
    rw [if_neg h1, List.getElem?_eq_none (by rw [partWays_len]; omega), List.getElem?_eq_none (by rw [partWays_len]; omega)]
theorem partWays_same (n : Nat) (p : List Int) (i : Nat) (hl : p.length < n) (hw : wayB n p i = false) : partWays n p i = partWays n p (i + 1) := by
  unfold partWays
  apply List.map_congr_left
  intro x hx
  obtain ⟨c, hcn, hc⟩ := rw_lt n i p.length hl
  rw [List.range_succ, List.countP_append, List.countP_singleton, way_next n i p hl c hc x, hw]
  simp
theorem i_NextWays_l5_ev (n N : Nat) (p : List Int) (h1 : 1 ≤ n) (hn : n ≤ 12) (hN : 2 ^ n = N) (hp : p.length < n) : ∀ (d i : Nat), i + d = N →
    Ev (fun k => i_NextWays_l5 k (n : Int) p (i : Int) (upTo n) (partWays n p i)) (nextWays n p) := by
  obtain ⟨hpow, hle⟩ := two_pow n N hn hN
  intro d
  induction d with
  | zero =>
    intro i h
    refine Ev.step (fun k => i_NextWays_l5_eq k _ _ _ _ _) (Ev.yes (by simp) (Ev.no (by rw [hpow]; simp; omega) (Ev.yes ?_ (Ev.some ?_))))
    · have := partWays_len n p i
      cases hx : partWays n p i with
      | nil => rw [hx] at this; simp at this; omega
      | cons => rfl
    · have e : i = N := by omega
      rw [e, ← hN]; rfl
  | succ d ih =>
    intro i h
    obtain ⟨c, hcn, hc⟩ := rw_lt n i p.length hp
    have hg : ∀ dd, (rw_ n i).getD p.length dd = (c : Int) := fun dd => by rw [List.getD, hc]; rfl
    refine Ev.step (fun k => i_NextWays_l5_eq k _ _ _ _ _) (Ev.yes (by simp) (Ev.yes (by rw [hpow]; simp; omega) (Ev.bind (i_riffled_ev n i hn (by omega)) (Ev.yes (by simp) (Ev.yes (by rw [riff_len, bits_len]; simp; omega) ?_)))))
    rw [Int.toNat_natCast, List.drop_zero]
    refine Ev.bind (Equal_int_ev _ _ (by rw [List.length_take, maxLen_eq]; omega) (by rw [maxLen_eq]; omega)) ?_
    rw [wrap_id (x := (i : Int) + 1) (by omega) (by omega)]
    have hrw : riff (bits n i) 0 (zeros (bits n i)) = rw_ n i := rfl
    rw [hrw, hg 0, Int.toNat_natCast]
    have hin : wayB n p i = ((rw_ n i).take p.length == p) := rfl
    have ih' := ih (i + 1) (by omega)
    refine Ev.ite (fun cc => ?_) (fun cc => ?_)
    · rw [← hin] at cc
      have hnum : (partWays n p i).getD c 0 ≤ i := by
        rw [List.getD, partWays_get n p i c hcn]
        have := List.countP_le_length (p := wayB n (p ++ [(c : Int)])) (l := List.range i)
        simp at this ⊢; omega
      have hnum2 : 0 ≤ (partWays n p i).getD c 0 := by
        rw [List.getD, partWays_get n p i c hcn]; simp
      have L := partWays_len n p i
      refine Ev.yes (by simp) (Ev.yes (by rw [rw_len]; simp; omega) (Ev.yes (by simp) (Ev.yes (by rw [L]; simp; omega) (Ev.yes (by rw [L]; simp; omega) (Ev.yes (by simp) (Ev.yes (by rw [L]; simp; omega) (Ev.yes (by rw [L]; simp; omega) ?_)))))))
      rw [wrap_id (by omega) (by omega), partWays_next n p i hp c hc hcn cc]
      exact_mod_cast ih'
    · rw [← hin] at cc
      rw [partWays_same n p i hp cc]
      exact_mod_cast ih'
theorem i_NextWays_ev (n : Int) (p : List Int) (hm : p.length ≤ maxLen) : Ev (fun k => i_NextWays k (n, p)) (nextList n p) := by
  refine Ev.step (fun k => i_NextWays_eq k n p) (Ev.bind (i_isPrefix_ev n p hm) (Ev.ite (fun h => Ev.some ?_) (fun h => Ev.ite (fun h' => Ev.some ?_) (fun h' => ?_))))
  · have : isPre n p = false := by simpa using h
    simp [nextList, this]
  · have : (p.length : Int) = n := by simpa using h'
    simp [nextList, this]
  · have hp : isPre n p = true := by simpa using h
    have hne : ¬ (p.length : Int) = n := by simpa using h'
    obtain ⟨h1, h2, h3, h4, h5⟩ := isPre_fit hp
    have en : n = ((n.toNat : Nat) : Int) := by omega
    unfold nextList
    rw [if_pos hp, if_neg hne]
    have hu := i_upTo_ev n.toNat (by omega)
    rw [← en] at hu
    refine Ev.bind hu (Ev.yes (by simp; omega) (Ev.yes (by rw [rowMax_eq]; simp; omega) (Ev.yes (by simp) ?_)))
    have := i_NextWays_l5_ev n.toNat _ p (by omega) (by omega) rfl (by omega) (2 ^ n.toNat) 0 (by omega)
    have e0 : partWays n.toNat p 0 = List.replicate n.toNat 0 := by
      apply List.ext_getElem?
      intro x
      simp [partWays, List.getElem?_replicate]
      by_cases hx : x < n.toNat
      · simp [hx]; omega
      · simp [hx]; omega
    rw [e0, ← en] at this
    simpa using this
end Qq
