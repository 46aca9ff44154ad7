/-
  The law FnExactBestLook comes to true.
  Conditions: numbers and lengths are such as a machine bears.
-/
import Derived.Test.YtghbmnhaalpjeaaQs
import Derived.Test.YtghbmnhaalpjeaaQr
import Derived.Test.YtghbmnhaalpjeaaQx
namespace Qq
open Go Go.Vt Pt
set_option linter.unusedVariables false
set_option linter.unusedSimpArgs false
theorem mx_eq (a b : Int) : mx a b = if b > a then b else a := by unfold mx; by_cases h : b > a <;> simp [h]
theorem maxF_mx : ∀ (r : List Int) (m v : Int), maxF (mx m v) r = mx (maxF m r) v
  | [], m, v => rfl
  | y :: r, m, v => by
    show maxF (mx (mx m v) y) r = mx (maxF (mx m y) r) v
    have e : mx (mx m v) y = mx (mx m y) v := by simp only [mx_eq]; repeat' split
                                                 all_goals omega
    rw [e, maxF_mx r (mx m y) v]
theorem maxF_set : ∀ (xs : List Int) (m v : Int) (c : Nat), c < xs.length → xs.getD c 0 ≤ v → maxF m (xs.set c v) = mx (maxF m xs) v
  | [], m, v, c, h, _ => by simp at h
  | y :: r, m, v, 0, h, hv => by
    show maxF (mx m v) r = mx (maxF (mx m y) r) v
    have hy : y ≤ v := hv
    rw [maxF_mx r m v, maxF_mx r m y]
    simp only [mx_eq]; repeat' split
    all_goals omega
  | y :: r, m, v, c + 1, h, hv => maxF_set r (mx m y) v c (by simpa using h) hv
def cntL (j : Nat) (done : Packs) : List Int := (List.range 12).map fun (c : Nat) => ((done.countP (fun p => card (p.getD j 0) == (c : Int)) : Nat) : Int)
theorem cntL_len (j : Nat) (done : Packs) : (cntL j done).length = 12 := by simp [cntL]
theorem cntL_get (j : Nat) (done : Packs) (c : Nat) (h : c < 12) : (cntL j done).getD c 0 = ((done.countP (fun p => card (p.getD j 0) == (c : Int)) : Nat) : Int) := by simp [cntL, List.getD, h]
theorem cntL_set (j : Nat) (done : Packs) (q : List Int) (c : Nat) (h : c < 12) (hq : card (q.getD j 0) = (c : Int)) : (cntL j done).set c ((cntL j done).getD c 0 + 1) = cntL j (done ++ [q]) := by
  rw [cntL_get j done c h]
  apply List.ext_getElem?
  intro x
  rw [List.getElem?_set]
  have ex : ∀ d : Packs, x < 12 → (cntL j d)[x]? = some ((d.countP (fun p => card (p.getD j 0) == (x : Int)) : Nat) : Int) := fun d hx => by simp [cntL, hx]
  by_cases hx : x < 12
  · rw [ex _ hx, ex _ hx, List.countP_append, List.countP_singleton, hq]
    by_cases e : c = x
    · subst e; rw [if_pos rfl, cntL_len, if_pos h]; simp
    · have : ¬ ((c : Int) == (x : Int)) = true := by simp; omega
      rw [if_neg e, if_neg this, Nat.add_zero]
  · rw [if_neg (by omega), List.getElem?_eq_none (by rw [cntL_len]; omega), List.getElem?_eq_none (by rw [cntL_len]; omega)]
def worst (l : Packs) (j : Nat) : Int := maxF 0 (cntL j l)
theorem take_succ_at {α : Type} {l : List α} {i : Nat} {q : α} {r : List α} (h : l.drop i = q :: r) : l.take (i + 1) = l.take i ++ [q] := take_next h
theorem s_Worst_l4_ev (l : Packs) (j : Nat) (hf : FitS l) (hj : ∀ p ∈ l, j < p.length ∧ 0 ≤ card (p.getD j 0)) (hl : l.length ≤ 3000) : ∀ (r : Packs) (i : Nat), l.drop i = r → Ev (fun k => s_l15Worst_l4 k (j : Int) (maxF 0 (cntL j (l.take i))) l (l.length : Int) (i : Int) (cntL j (l.take i))) (worst l j)
  | [], i, h => by
    have a := at_nil h
    refine Ev.step (fun k => s_l15Worst_l4_eq k _ _ _ _ _ _) ?_
    simp only [a.g, cond_false]
    refine Ev.some ?_
    rw [List.take_of_length_le a.ge]; rfl
  | q :: r, i, h => by
    have a := at_cons h hf.1
    have ih := s_Worst_l4_ev l j hf hj hl r (i + 1) a.next
    obtain ⟨q1, q2⟩ := hj q a.mem
    have q3 := (card_lt (q.getD j 0)).2
    have en : card (q.getD j 0) = ((card (q.getD j 0)).toNat : Int) := by omega
    generalize hc : (card (q.getD j 0)).toNat = c at en
    have hc12 : c < 12 := by omega
    have L := cntL_len j (l.take i)
    have hn := cntL_get j (l.take i) c hc12
    have hle : (cntL j (l.take i)).getD c 0 ≤ 3000 ∧ 0 ≤ (cntL j (l.take i)).getD c 0 := by
      rw [hn]
      have h1 := List.countP_le_length (p := fun p : List Int => card (p.getD j 0) == (c : Int)) (l := l.take i)
      have h2 : (l.take i).length ≤ l.length := by rw [List.length_take]; omega
      omega
    have hset := cntL_set j (l.take i) q c hc12 en
    have hmax := maxF_set (cntL j (l.take i)) 0 ((cntL j (l.take i)).getD c 0 + 1) c (by rw [L]; exact hc12) (by omega)
    rw [hset, ← take_succ_at h] at hmax
    rw [← take_succ_at h] at hset
    refine Ev.step (fun k => s_l15Worst_l4_eq k _ _ _ _ _ _) ?_
    simp only [a.g, a.z, a.get, a.w, cond_true]
    refine Ev.yes (by simp) (Ev.yes (by simp; omega) ?_)
    rw [Int.toNat_natCast]
    refine Ev.bind (s_CardOf_ev _) ?_
    rw [en, Int.toNat_natCast, wrap_id (by omega) (by omega), hset]
    have L2 := cntL_len j (l.take (i + 1))
    have g1 : decide ((0 : Int) ≤ (c : Int)) = true := by simp
    have g2 : decide ((c : Int) < ((cntL j (l.take i)).length : Int)) = true := by rw [L]; simp; omega
    have g3 : decide (c < (cntL j (l.take i)).length) = true := by rw [L]; simp; omega
    have g4 : decide ((c : Int) < ((cntL j (l.take (i + 1))).length : Int)) = true := by rw [L2]; simp; omega
    have g5 : decide (c < (cntL j (l.take (i + 1))).length) = true := by rw [L2]; simp; omega
    simp only [g1, g2, g3, g4, g5, cond_true]
    have hg : (cntL j (l.take (i + 1))).getD c 0 = (cntL j (l.take i)).getD c 0 + 1 := by
      rw [← hset, List.getD, List.getElem?_set]
      rw [if_pos rfl, L, if_pos hc12]; rfl
    rw [hg]
    have e : (bif decide ((cntL j (l.take i)).getD c 0 + 1 > maxF 0 (cntL j (l.take i))) then (cntL j (l.take i)).getD c 0 + 1 else maxF 0 (cntL j (l.take i))) = maxF 0 (cntL j (l.take (i + 1))) := by rw [hmax]; rfl
    rw [e]
    exact ih
theorem cntL_nil (j : Nat) : cntL j [] = List.replicate 12 0 := rfl
theorem maxF_zero (n : Nat) : maxF 0 (List.replicate n 0) = 0 := by
  induction n with
  | zero => rfl
  | succ n ih => exact ih
theorem s_Worst_ev (l : Packs) (j : Nat) (hf : FitS l) (hj : ∀ p ∈ l, j < p.length ∧ 0 ≤ card (p.getD j 0)) (hl : l.length ≤ 3000) : Ev (fun k => s_l15Worst k (l, (j : Int))) (worst l j) := by
  refine Ev.step (fun k => s_l15Worst_eq k l j) ?_
  have := s_Worst_l4_ev l j hf hj hl l 0 rfl
  rw [List.take_zero, cntL_nil, maxF_zero] at this
  exact this
/-- The best place from i on, with b the best ahead. -/
def bestL (l : Packs) : Nat → Nat → Nat → Nat
  | 0, _, b => b
  | d + 1, i, b => if worst l i < worst l b then bestL l d (i + 1) i else bestL l d (i + 1) b
theorem s_BestLook_l5_ev (l : Packs) (m : Nat) (hm : m ≤ 12) (hf : FitS l) (hj : ∀ j, j < m → ∀ p ∈ l, j < p.length ∧ 0 ≤ card (p.getD j 0)) (hl : l.length ≤ 3000) : ∀ (d i b : Nat), i + d = m → b < m → Ev (fun k => s_BestLook_l5 k l (b : Int) (m : Int) (i : Int)) ((bestL l d i b : Nat) : Int)
  | 0, i, b, h, hb => by
    refine Ev.step (fun k => s_BestLook_l5_eq k _ _ _ _) ?_
    rw [at_end (by omega)]
    exact Ev.pure _
  | d + 1, i, b, h, hb => by
    have u := at_up (n := (m : Int)) (i := i) (by omega) (by omega)
    refine Ev.step (fun k => s_BestLook_l5_eq k _ _ _ _) ?_
    simp only [u.g, u.w, cond_true]
    unfold bestL
    refine Ev.bind (s_Worst_ev l i hf (hj i (by omega)) hl) (Ev.bind (s_Worst_ev l b hf (hj b hb) hl) (Ev.ite (fun c => ?_) (fun c => ?_)))
    · rw [if_pos (by simpa using c)]
      exact s_BestLook_l5_ev l m hm hf hj hl d (i + 1) i (by omega) (by omega)
    · rw [if_neg (by simpa using c)]
      exact s_BestLook_l5_ev l m hm hf hj hl d (i + 1) b (by omega) hb
def bestLook (l : Packs) : Int := if knowOk l then ((bestL l (l.getD 0 []).length 0 0 : Nat) : Int) else -1
theorem know_at {p0 : List Int} {r : Packs} (h : knowOk (p0 :: r) = true) : ∀ j, j < p0.length → ∀ p ∈ p0 :: r, j < p.length ∧ 0 ≤ card (p.getD j 0) := by
  intro j hj p hp
  have := (know_fit h).2.2.2 p hp
  have hlt : j < p.length := by omega
  refine ⟨hlt, ?_⟩
  have h2 := (packetOk_fit this.1).2.1 p[j] (List.getElem_mem hlt)
  have e : p.getD j 0 = p[j] := by simp [List.getD, hlt]
  rw [e]; exact h2.1
theorem s_BestLook_ev (l : Packs) (hf : FitS l) : Ev (fun k => s_BestLook k l) (bestLook l) := by
  refine Ev.step (fun k => s_BestLook_eq k l) (Ev.bind (s_KnowOk_ev l hf) ?_)
  unfold bestLook
  refine Ev.ite (fun c => Ev.some ?_) (fun c => ?_)
  · have : knowOk l = false := by simpa using c
    rw [this]; rfl
  · have hk : knowOk l = true := by simpa using c
    rw [hk, if_pos rfl]
    cases l with
    | nil => cases hk
    | cons p0 r =>
      have kf := know_fit hk
      exact Ev.yes (by simp) (s_BestLook_l5_ev (p0 :: r) p0.length kf.2.2.1 hf (know_at hk) kf.1 p0.length 0 0 (by omega) (by omega))
theorem i_BestLook_l9_ev (l : Packs) (j : Nat) (v3 v4 m j' : Int) (hf : FitS l) (hj : ∀ p ∈ l, j < p.length ∧ 0 ≤ card (p.getD j 0)) (hl : l.length ≤ 3000) (y : Int)
    (hend : Ev (fun k => bif decide (v3 < 0) then i_BestLook_l5 k l (j : Int) (worst l j) m (IntKind.i64.wrap (j' + 1)) else bif decide (worst l j < v4) then i_BestLook_l5 k l (j : Int) (worst l j) m (IntKind.i64.wrap (j' + 1)) else i_BestLook_l5 k l v3 v4 m (IntKind.i64.wrap (j' + 1))) y) :
    ∀ (r : Packs) (i : Nat), l.drop i = r → Ev (fun k => i_BestLook_l9 k l v3 v4 (j : Int) m j' l (l.length : Int) (i : Int) (cntL j (l.take i))) y
  | [], i, h => by
    have a := at_nil h
    have L := cntL_len j (l.take i)
    refine Ev.step (fun k => i_BestLook_l9_eq k _ _ _ _ _ _ _ _ _ _) ?_
    simp only [a.g, cond_false]
    rw [List.take_of_length_le a.ge] at *
    refine Ev.yes (by rw [L]; rfl) (Ev.yes (by simp) (Ev.yes (by simp) ?_))
    have e : ((cntL j l).take ((cntL j l).length : Int).toNat).drop 0 = cntL j l := by simp
    rw [e]
    have hw : Ev (fun k => slices_Max_int k (cntL j l)) (worst l j) := Max_pos_ev (cntL j l) (by rw [L, maxLen_eq]; omega) (by intro h; rw [h] at L; cases L) (fun x hx => by
      unfold cntL at hx
      obtain ⟨c, _, rfl⟩ := List.mem_map.1 hx
      omega)
    exact Ev.bind hw hend
  | q :: r, i, h => by
    have a := at_cons h hf.1
    have ih := i_BestLook_l9_ev l j v3 v4 m j' hf hj hl y hend r (i + 1) a.next
    obtain ⟨q1, q2⟩ := hj q a.mem
    have q3 := (card_lt (q.getD j 0)).2
    have en : card (q.getD j 0) = ((card (q.getD j 0)).toNat : Int) := by omega
    generalize hc : (card (q.getD j 0)).toNat = c at en
    have hc12 : c < 12 := by omega
    have L := cntL_len j (l.take i)
    have hn := cntL_get j (l.take i) c hc12
    have hle : (cntL j (l.take i)).getD c 0 ≤ 3000 ∧ 0 ≤ (cntL j (l.take i)).getD c 0 := by
      rw [hn]
      have h1 := List.countP_le_length (p := fun p : List Int => card (p.getD j 0) == (c : Int)) (l := l.take i)
      have h2 : (l.take i).length ≤ l.length := by rw [List.length_take]; omega
      omega
    have hset := cntL_set j (l.take i) q c hc12 en
    rw [← take_succ_at h] at hset
    refine Ev.step (fun k => i_BestLook_l9_eq k _ _ _ _ _ _ _ _ _ _) ?_
    simp only [a.g, a.z, a.get, a.w, cond_true]
    refine Ev.yes (by simp) (Ev.yes (by simp; omega) ?_)
    rw [Int.toNat_natCast]
    refine Ev.bind (i_CardOf_ev _ (getD_in (hf.2 q a.mem).2 _)) ?_
    rw [en, Int.toNat_natCast, wrap_id (by omega) (by omega), hset]
    have g0 : (Nat.beq (cntL j (l.take i)).length 12 && true) = true := by rw [L]; rfl
    have g1 : decide ((0 : Int) ≤ (c : Int)) = true := by simp
    have g2 : decide ((c : Int) < ((cntL j (l.take i)).length : Int)) = true := by rw [L]; simp; omega
    have g3 : decide (c < (cntL j (l.take i)).length) = true := by rw [L]; simp; omega
    simp only [g0, g1, g2, g3, cond_true]
    exact ih
theorem i_BestLook_l5_ev (l : Packs) (m : Nat) (hm : m ≤ 12) (hf : FitS l) (hj : ∀ j, j < m → ∀ p ∈ l, j < p.length ∧ 0 ≤ card (p.getD j 0)) (hl : l.length ≤ 3000) : ∀ (d i b : Nat), i + d = m → b < m → Ev (fun k => i_BestLook_l5 k l (b : Int) (worst l b) (m : Int) (i : Int)) ((bestL l d i b : Nat) : Int)
  | 0, i, b, h, hb => by
    refine Ev.step (fun k => i_BestLook_l5_eq k _ _ _ _ _) ?_
    rw [at_end (by omega)]
    exact Ev.pure _
  | d + 1, i, b, h, hb => by
    have u := at_up (n := (m : Int)) (i := i) (by omega) (by omega)
    refine Ev.step (fun k => i_BestLook_l5_eq k _ _ _ _ _) ?_
    simp only [u.g, cond_true]
    rw [← cntL_nil i, ← List.take_zero (l := l)]
    refine i_BestLook_l9_ev l i b (worst l b) m i hf (hj i (by omega)) hl _ ?_ l 0 rfl
    rw [u.w]
    unfold bestL
    refine Ev.no (by simp) (Ev.ite (fun c => ?_) (fun c => ?_))
    · rw [if_pos (by simpa using c)]
      exact i_BestLook_l5_ev l m hm hf hj hl d (i + 1) i (by omega) (by omega)
    · rw [if_neg (by simpa using c)]
      exact i_BestLook_l5_ev l m hm hf hj hl d (i + 1) b (by omega) hb
theorem i_BestLook_ev (l : Packs) (hf : FitS l) : Ev (fun k => i_BestLook k l) (bestLook l) := by
  refine Ev.step (fun k => i_BestLook_eq k l) (Ev.bind (i_KnowOk_ev l hf) ?_)
  unfold bestLook
  refine Ev.ite (fun c => Ev.some ?_) (fun c => ?_)
  · have : knowOk l = false := by simpa using c
    rw [this]; rfl
  · have hk : knowOk l = true := by simpa using c
    rw [hk, if_pos rfl]
    cases l with
    | nil => cases hk
    | cons p0 r =>
      have kf := know_fit hk
      refine Ev.yes (by simp) ?_
      have e0 : List.getD (p0 :: r) 0 [] = p0 := rfl
      rw [e0]
      obtain ⟨m, hm⟩ : ∃ m, p0.length = m + 1 := ⟨p0.length - 1, by omega⟩
      have ka := know_at hk
      rw [hm] at ka kf ⊢
      have u := at_up (n := ((m + 1 : Nat) : Int)) (i := 0) (by omega) (by omega)
      refine Ev.step (fun k => i_BestLook_l5_eq k _ _ _ _ _) (Ev.yes (by simp) ?_)
      rw [← cntL_nil 0, ← List.take_zero (l := p0 :: r)]
      refine i_BestLook_l9_ev (p0 :: r) 0 (-1) 0 _ 0 hf (ka 0 (by omega)) kf.1 _ ?_ (p0 :: r) 0 rfl
      refine Ev.yes (by simp) ?_
      have hb : bestL (p0 :: r) (m + 1) 0 0 = bestL (p0 :: r) m 1 0 := by
        show (if worst (p0 :: r) 0 < worst (p0 :: r) 0 then _ else _) = _
        rw [if_neg (by omega)]
      rw [hb]
      have := i_BestLook_l5_ev (p0 :: r) (m + 1) kf.2.2.1 hf ka kf.1 m 1 0 (by omega) (by omega)
      have w0 : IntKind.i64.wrap ((0 : Int) + 1) = ((1 : Nat) : Int) := by decide
      rw [w0]
      exact this
theorem FnExactBestLook_ev (l : Packs) (f0 : Fits (.slice (.slice (.int .i64))) l) : Ev (fun k => w_FnExactBestLook k l) true := by
  have hf := FitS.of f0
  have hi : ∀ p ∈ l, p.length ≤ maxLen := fun p hp => (hf.2 p hp).1
  refine Ev.step (fun k => w_FnExactBestLook_eq k l) (Ev.bind (szIntSS_ev l 1048576 hf.1 hi (by omega) (by omega)) (Ev.ite (fun h => Ev.pure _) (fun h => ?_)))
  obtain ⟨b1, b2, _, _⟩ := szSS_fit (l := l) (n := 1048576) (by omega) (by omega) (by simpa using h)
  refine Ev.bind (toIntSS_ev l b1 b2) (Ev.bind (s_BestLook_ev l hf) (Ev.bind (toIntSS_ev l b1 b2) (Ev.bind (i_BestLook_ev l hf) (Ev.no (by simp) ?_))))
  exact Ev.bind (toIntSS_ev l b1 b2) (Ev.bind (eqIntSS_ev l l hf.1 hf.1 hi hi) (Ev.no (by simp) (Ev.pure _)))
end Qq
