/-
  The ways with each next card: the walks of both.
  Conditions: lengths are such as a machine bears.
-/
import Derived.Test.YtghbmnhaalpjeaaQj
namespace Qq
open Go Go.Vt Pt
set_option linter.unusedVariables false
set_option linter.unusedSimpArgs false

/-- The ways with each next card; none where there is no next card. -/
def nextWays (n : Nat) (p : List Int) : List Int := (List.range n).map fun (x : Nat) => ((ways n (p ++ [(x : Int)]) : Nat) : Int)
def nextList (n : Int) (p : List Int) : List Int := if isPre n p then (if (p.length : Int) = n then [] else nextWays n.toNat p) else []

/-! ### no card comes twice -/
theorem riff_mem : ∀ (l : List Bool) (a b : Nat) (y : Int), y ∈ riff l a b → ((a : Int) ≤ y ∧ y < (a : Int) + zeros l) ∨ (b : Int) ≤ y
  | [], a, b, y, h => by simp [riff] at h
  | false :: l, a, b, y, h => by
    have hz : zeros (false :: l) = zeros l + 1 := by simp [zeros]
    rcases List.mem_cons.1 (show y ∈ (a : Int) :: riff l (a + 1) b from h) with e | h
    · left; omega
    · rcases riff_mem l (a + 1) b y h with h1 | h1
      · left; omega
      · right; exact h1
  | true :: l, a, b, y, h => by
    have hz : zeros (true :: l) = zeros l := by simp [zeros]
    rcases List.mem_cons.1 (show y ∈ (b : Int) :: riff l a (b + 1) from h) with e | h
    · right; omega
    · rcases riff_mem l a (b + 1) y h with h1 | h1
      · left; omega
      · right; omega
theorem riff_nodup : ∀ (l : List Bool) (a b : Nat), a + zeros l ≤ b → (riff l a b).Nodup
  | [], a, b, _ => by simp [riff]
  | false :: l, a, b, h => by
    have hz : zeros (false :: l) = zeros l + 1 := by simp [zeros]
    show ((a : Int) :: riff l (a + 1) b).Nodup
    refine List.nodup_cons.2 ⟨fun hm => ?_, riff_nodup l (a + 1) b (by omega)⟩
    rcases riff_mem l (a + 1) b _ hm with h1 | h1 <;> omega
  | true :: l, a, b, h => by
    have hz : zeros (true :: l) = zeros l := by simp [zeros]
    show ((b : Int) :: riff l a (b + 1)).Nodup
    refine List.nodup_cons.2 ⟨fun hm => ?_, riff_nodup l a (b + 1) (by omega)⟩
    rcases riff_mem l a (b + 1) _ hm with h1 | h1 <;> omega
theorem ways_twice (n : Nat) (p : List Int) (x : Int) (h : x ∈ p) : ways n (p ++ [x]) = 0 := by
  refine cnt_none (fun l _ => ?_)
  rw [Bool.eq_false_iff]
  intro hb
  have e : (riff l 0 (zeros l)).take (p ++ [x]).length = p ++ [x] := by simpa using hb
  have hn := (riff_nodup l 0 (zeros l) (by omega)).sublist (List.take_sublist (p ++ [x]).length _)
  rw [e, List.nodup_append] at hn
  exact hn.2.2 x h x (by simp) rfl

/-! ### the reference -/
theorem nextWays_take (n : Nat) (p : List Int) (i : Nat) (h : i < n) : (nextWays n p).take (i + 1) = (nextWays n p).take i ++ [((ways n (p ++ [(i : Int)]) : Nat) : Int)] := by
  have hl : i < (nextWays n p).length := by simp [nextWays, h]
  rw [List.take_succ_eq_append_getElem hl]
  simp [nextWays]
theorem nextWays_len (n : Nat) (p : List Int) : (nextWays n p).length = n := by simp [nextWays]
theorem preOk_app (n x : Int) (h0 : 0 ≤ x) (h1 : x < n) : ∀ (r done : List Int), preOk n done r = true → x ∉ done → x ∉ r → preOk n done (r ++ [x]) = true
  | [], done, _, hd, _ => by
    have : done.contains x = false := by simpa using hd
    show (decide (0 ≤ x) && (decide (x < n) && (!(done.contains x) && preOk n (done ++ [x]) []))) = true
    rw [this]
    simp [h0, h1, preOk]
  | y :: r, done, h, hd, hr => by
    unfold preOk at h
    simp only [Bool.and_eq_true, decide_eq_true_eq] at h
    have hxy : ¬ x = y := fun e => hr (by simp [e])
    have := preOk_app n x h0 h1 r (done ++ [y]) h.2.2.2 (by simp [hd, hxy]) (fun hm => hr (by simp [hm]))
    show (decide (0 ≤ y) && (decide (y < n) && (!(done.contains y) && preOk n (done ++ [y]) (r ++ [x])))) = true
    simp only [this, h.1, h.2.1, h.2.2.1, decide_true, Bool.and_true]
theorem s_NextWays_l5_ev (n : Nat) (p : List Int) (hn : 1 ≤ n) (hn2 : n ≤ 12) (hp : preOk n [] p = true) (hl : p.length < n) : ∀ (d i : Nat), i + d = n →
    Ev (fun k => s_NextWays_l5 k (n : Int) p (i : Int) ((nextWays n p).take i)) (nextWays n p)
  | 0, i, h => by
    refine Ev.step (fun k => s_NextWays_l5_eq k _ _ _ _) ?_
    rw [at_end (by omega), List.take_of_length_le (by rw [nextWays_len]; omega)]
    refine Ev.no rfl (Ev.yes ?_ (Ev.pure _))
    have : (nextWays n p).length = n := nextWays_len n p
    cases hx : nextWays n p with
    | nil => rw [hx] at this; simp at this; omega
    | cons => rfl
  | d + 1, i, h => by
    have u := at_up (n := (n : Int)) (i := i) (by omega) (by omega)
    have ih := s_NextWays_l5_ev n p hn hn2 hp hl d (i + 1) (by omega)
    rw [nextWays_take n p i (by omega)] at ih
    refine Ev.step (fun k => s_NextWays_l5_eq k _ _ _ _) ?_
    have hlt : ((nextWays n p).take i).length ≤ 12 := by rw [List.length_take, nextWays_len]; omega
    simp only [u.g, u.w, cond_true]
    refine Ev.bind (l02Has_ev p (i : Int) (by rw [maxLen_eq]; omega)) (Ev.ite (fun c => ?_) (fun c => ?_))
    · refine Ev.yes (by rw [rowMax_eq]; simp; omega) ?_
      have hm : (i : Int) ∈ p := by simpa using c
      rw [ways_twice n p _ hm] at ih
      simpa using ih
    · have hm : (i : Int) ∉ p := by simpa using c
      refine Ev.yes (by rw [rowMax_eq]; simp; omega) (Ev.yes (by rw [rowMax_eq]; simp; omega) ?_)
      rw [List.nil_append]
      have hi := preOk_app n (i : Int) (by omega) (by omega) p [] hp (by simp) hm
      have hpre : isPre (n : Int) (p ++ [(i : Int)]) = true := by
        have : isPre (n : Int) (p ++ [(i : Int)]) = (decide ((1 : Int) ≤ (n : Int)) && (decide ((n : Int) ≤ 12) && preOk n [] (p ++ [(i : Int)]))) := rfl
        rw [this, hi]; simp; omega
      have hw := s_WaysWith_ev (n : Int) (p ++ [(i : Int)]) (by rw [maxLen_eq]; simp; omega)
      rw [hpre, if_pos rfl, Int.toNat_natCast] at hw
      refine Ev.bind hw (Ev.yes (by rw [rowMax_eq]; simp; omega) ih)
theorem s_NextWays_ev (n : Int) (p : List Int) (hm : p.length ≤ maxLen) : Ev (fun k => s_NextWays k (n, p)) (nextList n p) := by
  refine Ev.step (fun k => s_NextWays_eq k n p) (Ev.bind (s_l19Ok_ev n p hm) (Ev.ite (fun h => Ev.some ?_) (fun h => Ev.ite (fun h' => Ev.some ?_) (fun h' => ?_))))
  · have : isPre n p = false := by simpa using h
    simp [nextList, this]
  · have : (p.length : Int) = n := by simpa using h'
    simp [nextList, this]
  · have hp : isPre n p = true := by simpa using h
    have hne : ¬ (p.length : Int) = n := by simpa using h'
    obtain ⟨h1, h2, h3, h4, h5⟩ := isPre_fit hp
    have en : n = ((n.toNat : Nat) : Int) := by omega
    have hq : preOk n [] p = true := by unfold isPre at hp; simp only [Bool.and_eq_true] at hp; exact hp.2.2
    unfold nextList
    rw [if_pos hp, if_neg hne]
    have := s_NextWays_l5_ev n.toNat p (by omega) (by omega) (by rw [← en]; exact hq) (by omega) n.toNat 0 (by omega)
    rw [← en] at this
    simpa using this
end Qq
