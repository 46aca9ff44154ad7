/-
  Moves and steps: when they are right.
  Conditions: numbers are such as a machine bears.
-/
import Derived.Test.YtghbmnhaalpjeaaQb
namespace Qq
open Go Go.Vt Pt
set_option linter.unusedVariables false
set_option linter.unusedSimpArgs false

def moveOk (n : Int) (m : Int × Int) : Bool :=
  decide (1 ≤ n) && (decide (n ≤ 12) && (decide (0 ≤ m.2) &&
    (if m.1 = 1 then decide (m.2 ≤ n) else if m.1 = 2 then decide (m.2 ≤ n) else if m.1 = 3 then decide (m.2 ≤ n) else
     if m.1 = 4 then decide (m.2 ≤ 1) else if m.1 = 5 then decide (m.2 ≤ 1) else if m.1 = 7 then decide (m.2 ≤ 1) else
     if m.1 = 6 then m.2 == 0 else if m.1 = 8 then decide (m.2 < n) else if m.1 = 9 then decide (m.2 < n) else false)))

theorem i_MoveOk_ev (n : Int) (m : Int × Int) : Ev (fun k => i_MoveOk k (n, m)) (moveOk n m) := by
  obtain ⟨a, b⟩ := m
  refine Ev.step (fun k => i_MoveOk_eq k n (a, b)) ?_
  unfold moveOk
  refine Ev.ite (fun h => Ev.some ?_) (fun h => ?_)
  · have : ¬ 1 ≤ n := by simpa using h
    simp [this]
  have h1 : 1 ≤ n := by simpa using h
  refine Ev.ite (fun h => Ev.some ?_) (fun h => ?_)
  · have : ¬ n ≤ 12 := by simpa using h
    simp [this]
  have h2 : n ≤ 12 := by simpa using h
  refine Ev.ite (fun h => Ev.some ?_) (fun h => ?_)
  · have : ¬ 0 ≤ b := by simpa using h
    simp [this]
  have h3 : 0 ≤ b := by simpa using h
  clear h
  simp only [h1, h2, h3, decide_true, Bool.true_and]
  iterate 9 (refine Ev.ite (fun h => ?_) (fun h => ?_); · exact Ev.some (by simp at *; simp [*]))
  exact Ev.some (by simp at *; simp [*])
theorem s_MoveOk_ev (n : Int) (m : Int × Int) : Ev (fun k => s_MoveOk k (n, m)) (moveOk n m) := by
  obtain ⟨a, b⟩ := m
  refine Ev.step (fun k => s_MoveOk_eq k n (a, b)) (Ev.bind (l01In_ev _ _ _) ?_)
  unfold moveOk
  refine Ev.ite (fun h => ?_) (fun h => ?_)
  · exact Ev.some (by rw [Bool.eq_iff_iff]; simp at *; omega)
  have hn : 1 ≤ n ∧ n ≤ 12 := by simpa using h
  iterate 6 (refine Ev.ite (fun h => ?_) (fun h => ?_); · exact Ev.bind (l01In_ev _ _ _) (Ev.some (by rw [Bool.eq_iff_iff]; simp at *; try simp [*]; try (intros; omega))))
  refine Ev.ite (fun h => ?_) (fun h => ?_)
  · exact Ev.some (by rw [Bool.eq_iff_iff]; simp at *; try simp [*]; try (intros; omega))
  rw [wrap_id (by omega) (by omega)]
  iterate 2 (refine Ev.ite (fun h => ?_) (fun h => ?_); · exact Ev.bind (l01In_ev _ _ _) (Ev.some (by rw [Bool.eq_iff_iff]; simp at *; try simp [*]; try (intros; omega))))
  exact Ev.some (by rw [Bool.eq_iff_iff]; simp at *; try simp [*]; try (intros; omega))

def stepOk (n : Int) (s : Int × (Int × Int) × Int) : Bool :=
  decide (1 ≤ n) && (decide (n ≤ 12) &&
    (if s.1 = 1 then moveOk n s.2.1 && s.2.2 == 0 else
     if s.1 = 2 then s.2.1.1 == 0 && (s.2.1.2 == 0 && (decide (0 ≤ s.2.2) && (decide (s.2.2 ≤ 4) && ((!(s.2.2 == 3) || decide (2 ≤ n)) && (!(s.2.2 == 2) || decide (n ≤ 7)))))) else
     if s.1 = 3 then s.2.1.1 == 0 && (s.2.1.2 == 0 && (decide (0 ≤ s.2.2) && decide (s.2.2 < n))) else false))

theorem i_StepOk_ev (n : Int) (s : Int × (Int × Int) × Int) : Ev (fun k => i_StepOk k (n, s)) (stepOk n s) := by
  obtain ⟨t, ⟨a, b⟩, c⟩ := s
  refine Ev.step (fun k => i_StepOk_eq k n (t, (a, b), c)) ?_
  unfold stepOk
  refine Ev.ite (fun h => Ev.some ?_) (fun h => ?_)
  · have : ¬ 1 ≤ n := by simpa using h
    simp [this]
  have h1 : 1 ≤ n := by simpa using h
  refine Ev.ite (fun h => Ev.some ?_) (fun h => ?_)
  · have : ¬ n ≤ 12 := by simpa using h
    simp [this]
  have h2 : n ≤ 12 := by simpa using h
  clear h
  simp only [h1, h2, decide_true, Bool.true_and]
  refine Ev.ite (fun h => ?_) (fun h => ?_)
  · have e : t = 1 := by simpa using h
    subst e
    exact Ev.bind (i_MoveOk_ev n (a, b)) (Ev.ite (fun h => Ev.some (by simp at *; simp [*])) (fun h => Ev.some (by simp at *; simp [*])))
  have t1 : ¬ t = 1 := by simpa using h
  simp only [t1, if_false]
  repeat (first | (refine Ev.ite (fun h => ?_) (fun h => ?_)) | focus (refine Ev.some ?_; simp_all; done) | focus (refine Ev.some ?_; simp_all; omega) | focus (refine Ev.some ?_; rw [Bool.eq_iff_iff]; simp at *; omega))
theorem l16Choice_ev (n c : Int) : Ev (fun k => s_l16Choice k (n, c)) (decide (0 ≤ c) && (decide (c ≤ 4) && ((!(c == 3) || decide (2 ≤ n)) && (!(c == 2) || decide (n ≤ 7))))) := by
  refine Ev.step (fun k => s_l16Choice_eq k n c) (Ev.bind (l01In_ev _ _ _) ?_)
  repeat (first | (refine Ev.ite (fun h => ?_) (fun h => ?_)) | focus (refine Ev.some ?_; simp_all; done) | focus (refine Ev.some ?_; simp_all; omega) | focus (refine Ev.some ?_; rw [Bool.eq_iff_iff]; simp at *; omega))
theorem s_StepOk_ev (n : Int) (s : Int × (Int × Int) × Int) : Ev (fun k => s_StepOk k (n, s)) (stepOk n s) := by
  obtain ⟨t, ⟨a, b⟩, c⟩ := s
  refine Ev.step (fun k => s_StepOk_eq k n (t, (a, b), c)) (Ev.bind (l01In_ev _ _ _) ?_)
  unfold stepOk
  refine Ev.ite (fun h => Ev.some ?_) (fun h => ?_)
  · rcases Int.lt_or_le n 1 with h1 | h1
    · have : ¬ 1 ≤ n := by omega
      simp [this]
    · have : ¬ n ≤ 12 := by simp at h; omega
      simp [this]
  have hn : 1 ≤ n ∧ n ≤ 12 := by simpa using h
  clear h
  simp only [hn.1, hn.2, decide_true, Bool.true_and]
  refine Ev.ite (fun h => ?_) (fun h => ?_)
  · have e : t = 1 := by simpa using h
    subst e
    exact Ev.bind (s_MoveOk_ev n (a, b)) (Ev.ite (fun h => Ev.some (by simp at *; simp [*])) (fun h => Ev.some (by simp at *; simp [*])))
  have t1 : ¬ t = 1 := by simpa using h
  simp only [t1, if_false]
  clear h
  rw [wrap_id (by omega) (by omega)]
  refine Ev.ite (fun h => ?_) (fun h => ?_)
  · have e : t = 2 := by simpa using h
    subst e
    refine Ev.ite (fun h => ?_) (fun h => Ev.some ?_)
    · exact Ev.bind (l16Choice_ev n c) (Ev.some (by simp at *; simp [*]))
    · cases ha : (a == 0) <;> cases hb : (b == 0) <;> simp_all
  have t2 : ¬ t = 2 := by simpa using h
  simp only [t2, if_false]
  clear h
  refine Ev.ite (fun h => ?_) (fun h => ?_)
  · have e : t = 3 := by simpa using h
    subst e
    refine Ev.ite (fun h => ?_) (fun h => Ev.some ?_)
    · refine Ev.bind (l01In_ev _ _ _) (Ev.some ?_)
      have e2 : decide (c ≤ n - 1) = decide (c < n) := by rw [Bool.eq_iff_iff]; simp; omega
      simp at h
      simp [h, e2]
    · cases ha : (a == 0) <;> cases hb : (b == 0) <;> simp_all
  · have t3 : ¬ t = 3 := by simpa using h
    exact Ev.some (by simp [t3])
theorem toMove_ev (m : Int × Int) : Ev (fun k => w_toMove k m) m := Ev.step (fun k => w_toMove_eq k m) (Ev.pure _)
theorem toStep_ev (s : Int × (Int × Int) × Int) : Ev (fun k => w_toStep k s) (s.1, (s.2.1.1, (s.2.1.2, s.2.2))) := Ev.step (fun k => w_toStep_eq k s) (Ev.bind (toMove_ev _) (Ev.pure _))
end Qq
