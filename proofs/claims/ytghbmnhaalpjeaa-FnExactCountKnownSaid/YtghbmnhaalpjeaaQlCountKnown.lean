/-
  The law FnExactCountKnown comes to true.
  Conditions: numbers and lengths are such as a machine bears.
-/
import Derived.Test.YtghbmnhaalpjeaaQs
import Derived.Test.YtghbmnhaalpjeaaQr
namespace Qq
open Go Go.Vt Pt
set_option linter.unusedVariables false
set_option linter.unusedSimpArgs false
/-- How many places from i on are known, with n behind. -/
def knownN (l : Packs) : Nat → Nat → Int → Int
  | 0, _, n => n
  | d + 1, i, n => if knownAt l (i : Int) ≥ 0 then knownN l d (i + 1) (n + 1) else knownN l d (i + 1) n
theorem s_CountKnown_l5_ev (l : Packs) (m : Nat) (hf : FitS l) (hm : m ≤ 12) : ∀ (d i : Nat) (n : Int), i + d = m → 0 ≤ n → n ≤ i → Ev (fun k => s_CountKnown_l5 k l n (m : Int) (i : Int)) (knownN l d i n)
  | 0, i, n, h, h1, h2 => by
    refine Ev.step (fun k => s_CountKnown_l5_eq k _ _ _ _) ?_
    rw [at_end (by omega)]
    exact Ev.pure _
  | d + 1, i, n, h, h1, h2 => by
    have u := at_up (n := (m : Int)) (i := i) (by omega) (by omega)
    refine Ev.step (fun k => s_CountKnown_l5_eq k _ _ _ _) ?_
    simp only [u.g, u.w, cond_true]
    rw [wrap_id (x := n + 1) (by omega) (by omega)]
    unfold knownN
    refine Ev.bind (s_KnownAt_ev l i hf) (Ev.ite (fun c => ?_) (fun c => ?_))
    · rw [if_pos (by simpa using c)]
      exact s_CountKnown_l5_ev l m hf hm d (i + 1) _ (by omega) (by omega) (by omega)
    · rw [if_neg (by simpa using c)]
      exact s_CountKnown_l5_ev l m hf hm d (i + 1) _ (by omega) (by omega) (by omega)
theorem i_CountKnown_l5_ev (l : Packs) (m : Nat) (hf : FitS l) (hm : m ≤ 12) : ∀ (d i : Nat) (n : Int), i + d = m → 0 ≤ n → n ≤ i → Ev (fun k => i_CountKnown_l5 k l n (m : Int) (i : Int)) (knownN l d i n)
  | 0, i, n, h, h1, h2 => by
    refine Ev.step (fun k => i_CountKnown_l5_eq k _ _ _ _) ?_
    rw [at_end (by omega)]
    exact Ev.pure _
  | d + 1, i, n, h, h1, h2 => by
    have u := at_up (n := (m : Int)) (i := i) (by omega) (by omega)
    refine Ev.step (fun k => i_CountKnown_l5_eq k _ _ _ _) ?_
    simp only [u.g, u.w, cond_true]
    rw [wrap_id (x := n + 1) (by omega) (by omega)]
    unfold knownN
    refine Ev.bind (i_KnownAt_ev l i hf) (Ev.ite (fun c => ?_) (fun c => ?_))
    · rw [if_pos (by simpa using c)]
      exact i_CountKnown_l5_ev l m hf hm d (i + 1) _ (by omega) (by omega) (by omega)
    · rw [if_neg (by simpa using c)]
      exact i_CountKnown_l5_ev l m hf hm d (i + 1) _ (by omega) (by omega) (by omega)
def countKnown (l : Packs) : Int := if knowOk l then knownN l (l.getD 0 []).length 0 0 else -1
theorem s_CountKnown_ev (l : Packs) (hf : FitS l) : Ev (fun k => s_CountKnown k l) (countKnown l) := by
  refine Ev.step (fun k => s_CountKnown_eq k l) (Ev.bind (s_KnowOk_ev l hf) ?_)
  unfold countKnown
  refine Ev.ite (fun c => Ev.some ?_) (fun c => ?_)
  · have : knowOk l = false := by simpa using c
    rw [this]; rfl
  · have hk : knowOk l = true := by simpa using c
    rw [hk, if_pos rfl]
    cases l with
    | nil => cases hk
    | cons p0 r =>
      have kf := know_fit hk
      exact Ev.yes (by simp) (s_CountKnown_l5_ev (p0 :: r) p0.length hf kf.2.2.1 p0.length 0 0 (by omega) (by omega) (by omega))
theorem i_CountKnown_ev (l : Packs) (hf : FitS l) : Ev (fun k => i_CountKnown k l) (countKnown l) := by
  refine Ev.step (fun k => i_CountKnown_eq k l) (Ev.bind (i_KnowOk_ev l hf) ?_)
  unfold countKnown
  refine Ev.ite (fun c => Ev.some ?_) (fun c => ?_)
  · have : knowOk l = false := by simpa using c
    rw [this]; rfl
  · have hk : knowOk l = true := by simpa using c
    rw [hk, if_pos rfl]
    cases l with
    | nil => cases hk
    | cons p0 r =>
      have kf := know_fit hk
      exact Ev.yes (by simp) (i_CountKnown_l5_ev (p0 :: r) p0.length hf kf.2.2.1 p0.length 0 0 (by omega) (by omega) (by omega))
theorem FnExactCountKnown_ev (l : Packs) (f0 : Fits (.slice (.slice (.int .i64))) l) : Ev (fun k => w_FnExactCountKnown k l) true := by
  have hf := FitS.of f0
  have hi : ∀ p ∈ l, p.length ≤ maxLen := fun p hp => (hf.2 p hp).1
  refine Ev.step (fun k => w_FnExactCountKnown_eq k l) (Ev.bind (szIntSS_ev l 1048576 hf.1 hi (by omega) (by omega)) (Ev.ite (fun h => Ev.pure _) (fun h => ?_)))
  obtain ⟨b1, b2, _, _⟩ := szSS_fit (l := l) (n := 1048576) (by omega) (by omega) (by simpa using h)
  refine Ev.bind (toIntSS_ev l b1 b2) (Ev.bind (s_CountKnown_ev l hf) (Ev.bind (toIntSS_ev l b1 b2) (Ev.bind (i_CountKnown_ev l hf) (Ev.no (by simp) ?_))))
  exact Ev.bind (toIntSS_ev l b1 b2) (Ev.bind (eqIntSS_ev l l hf.1 hf.1 hi hi) (Ev.no (by simp) (Ev.pure _)))
end Qq
