/-
  The law FnExactNewConsole comes to true.
  Conditions: none.
-/
import Derived.Test.YtijdgiejhgfmlaaPt
import Derived.Test.YtijdgiejhgfmlaaXvzd
import Derived.Laws.BitsLemmas
namespace Go.Vt
theorem Ev.some {α : Type} {x y : α} (e : x = y) : Ev (fun _ => Option.some x) y := by subst e; exact Ev.pure _
theorem Ev.to {α : Type} {g : Nat → Option α} {x y : α} (h : Ev g x) (e : x = y) : Ev g y := e ▸ h
end Go.Vt
namespace Qq
open Go Go.Vt
set_option linter.unusedVariables false
set_option linter.unusedSimpArgs false
theorem maxLen_eq : maxLen = 9223372036854775807 := by unfold maxLen; decide
theorem rowMax_eq : rowMax = 4294967296 := rfl
theorem wrap_id {x : Int} (h1 : -9223372036854775808 ≤ x) (h2 : x ≤ 9223372036854775807) : IntKind.i64.wrap x = x := by
  rw [IntKind.wrap_i64]; omega
/-- Numbers of a machine's kind. -/
def In (x : Int) : Prop := -9223372036854775808 ≤ x ∧ x ≤ 9223372036854775807
def Ins (xs : List Int) : Prop := ∀ x ∈ xs, In x
structure AtCons {α : Type} (xs : List α) (i : Nat) (y : α) (rest : List α) : Prop where
  lt : i < xs.length
  g : decide ((i : Int) < (xs.length : Int)) = true
  z : decide ((0 : Int) ≤ (i : Int)) = true
  n : decide ((i : Int).toNat < xs.length) = true
  get : ∀ d, xs.getD (i : Int).toNat d = y
  w : IntKind.i64.wrap ((i : Int) + 1) = ((i + 1 : Nat) : Int)
  next : xs.drop (i + 1) = rest
  mem : y ∈ xs
  gt : ∀ d, xs.getD i d = y
  le : decide ((i : Int) ≤ (xs.length : Int)) = true
theorem at_cons {α : Type} {xs : List α} {i : Nat} {y : α} {rest : List α} (h : xs.drop i = y :: rest) (hm : xs.length ≤ maxLen) : AtCons xs i y rest := by
  rw [maxLen_eq] at hm
  have lt : i < xs.length := by
    rcases Nat.lt_or_ge i xs.length with h1 | h1
    · exact h1
    · rw [List.drop_eq_nil_of_le h1] at h; cases h
  have e := List.drop_eq_getElem_cons lt
  rw [e] at h
  have hy : xs[i] = y := by injection h
  refine ⟨lt, by simp; omega, by simp, by simp; omega, fun d => by simp [List.getD, lt, hy], by rw [wrap_id (by omega) (by omega)]; simp, by injection h, by rw [← hy]; exact List.getElem_mem lt, fun d => by simp [List.getD, lt, hy], by simp; omega⟩
structure AtNil {α : Type} (xs : List α) (i : Nat) : Prop where
  ge : xs.length ≤ i
  g : decide ((i : Int) < (xs.length : Int)) = false
theorem at_nil {α : Type} {xs : List α} {i : Nat} (h : xs.drop i = []) : AtNil xs i := by
  have ge : xs.length ≤ i := List.drop_eq_nil_iff.1 h
  exact ⟨ge, by simp; omega⟩
/-- Counting from i up to n. -/
structure AtUp (n : Int) (i : Nat) : Prop where
  lt : (i : Int) < n
  g : decide ((i : Int) < n) = true
  z : decide ((0 : Int) ≤ (i : Int)) = true
  w : IntKind.i64.wrap ((i : Int) + 1) = ((i + 1 : Nat) : Int)
theorem at_up {n : Int} {i : Nat} (h : (i : Int) < n) (hn : n ≤ 9223372036854775807) : AtUp n i :=
  ⟨h, by simp [h], by simp, by rw [wrap_id (by omega) (by omega)]; simp⟩
theorem at_end {n : Int} {i : Nat} (h : n ≤ (i : Int)) : decide ((i : Int) < n) = false := by simp [h]
end Qq
namespace Qq
open Go Go.Vt Pt
set_option linter.unusedVariables false
set_option linter.unusedSimpArgs false
theorem l01In_ev (x lo hi : Int) : Ev (fun k => s_l01In k (x, lo, hi)) (decide (lo ≤ x) && decide (x ≤ hi)) := by
  refine Ev.step (fun k => s_l01In_eq k x lo hi) (Ev.ite (fun h => ?_) (fun h => ?_))
  · have h' : lo ≤ x := by simpa using h
    exact Ev.some (by simp [h'])
  · have h' : ¬ lo ≤ x := by simpa using h
    exact Ev.some (by simp [h'])
theorem eqIntS_l4_ev (xs ys : List Int) (hx : xs.length ≤ maxLen) (hy : ys.length ≤ maxLen) : ∀ (r s : List Int) (i : Nat), xs.drop i = r → ys.drop i = s → s.length = r.length → Ev (fun k => w_eqIntS_l4 k xs ys (i : Int)) (r == s)
  | [], [], i, h1, h2, hl => by
    have a := at_nil h1
    refine Ev.step (fun k => w_eqIntS_l4_eq k xs ys i) ?_
    simp only [a.g, cond_false]
    exact Ev.pure _
  | x :: r, y :: s, i, h1, h2, hl => by
    have a := at_cons h1 hx
    have b := at_cons h2 hy
    refine Ev.step (fun k => w_eqIntS_l4_eq k xs ys i) ?_
    simp only [a.g, a.z, b.g, a.get, b.get, a.w, cond_true]
    have ih := eqIntS_l4_ev xs ys hx hy r s (i + 1) a.next b.next (by simpa using hl)
    refine Ev.ite (fun h => Ev.some ?_) (fun h => ih.to ?_)
    · have : ¬ x = y := by simpa using h
      simp [this]
    · have : x = y := by simpa using h
      simp [this]
  | [], _ :: _, _, _, _, hl => by simp at hl
  | _ :: _, [], _, _, _, hl => by simp at hl
theorem eqIntS_ev (xs ys : List Int) (hx : xs.length ≤ maxLen) (hy : ys.length ≤ maxLen) : Ev (fun k => w_eqIntS k (xs, ys)) (xs == ys) := by
  refine Ev.step (fun k => w_eqIntS_eq k xs ys) (Ev.ite (fun h => Ev.some ?_) (fun h => eqIntS_l4_ev xs ys hx hy xs ys 0 rfl rfl ?_))
  · have h' : ¬ xs.length = ys.length := by simp at h; omega
    have : ¬ xs = ys := fun e => h' (by rw [e])
    simp [this]
  · simp at h; omega
end Qq
namespace Qq
open Go Go.Vt Pt
set_option linter.unusedVariables false
set_option linter.unusedSimpArgs false
def top : Int := 4611686018427387904
theorem top_eq : top = 4611686018427387904 := rfl
def upFrom (k : Int) : Nat → List Int
  | 0 => []
  | n + 1 => k :: upFrom (k + 1) n
theorem upFrom_len : ∀ (k : Int) (n : Nat), (upFrom k n).length = n
  | _, 0 => rfl
  | k, n + 1 => by show (upFrom (k + 1) n).length + 1 = n + 1; rw [upFrom_len]
theorem markIntS_l2_ev (xs : List Int) (hm : xs.length ≤ maxLen) : ∀ (r : List Int) (i : Nat) (k0 : Int) (done : List Int), xs.drop i = r → done.length = i → 0 ≤ k0 → k0 ≤ top - r.length →
    Ev (fun k => w_markIntS_l2 k k0 (i : Int) (done ++ r)) (k0 + r.length, done ++ upFrom k0 r.length) := by
  intro r
  induction r with
  | nil =>
    intro i k0 done h hl h0 h1
    have a := at_nil h
    refine Ev.step (fun k => w_markIntS_l2_eq k k0 i _) ?_
    have : decide ((i : Int) < ((done ++ ([] : List Int)).length : Int)) = false := by simp; omega
    refine Ev.no this (Ev.some ?_)
    simp [upFrom]
  | cons x r ih =>
    intro i k0 done h hl h0 h1
    have a := at_cons h hm
    have L : (done ++ x :: r).length = i + (r.length + 1) := by simp [hl]
    refine Ev.step (fun k => w_markIntS_l2_eq k k0 i _) ?_
    refine Ev.yes (by rw [L]; simp; omega) (Ev.yes (by simp) (Ev.yes (by rw [L]; simp; omega) (Ev.yes (by rw [L]; simp) ?_)))
    rw [List.length_cons] at h1
    rw [wrap_id (x := k0 + 1) (by omega) (by rw [top_eq] at h1; omega), wrap_id (x := (i : Int) + 1) (by omega) (by have := a.lt; rw [maxLen_eq] at hm; omega)]
    have e : (done ++ x :: r).set (i : Int).toNat k0 = (done ++ [k0]) ++ r := by
      rw [Int.toNat_natCast, ← hl, List.set_append_right _ _ (Nat.le_refl _)]
      simp
    rw [e]
    have := ih (i + 1) (k0 + 1) (done ++ [k0]) a.next (by simp [hl]) (by omega) (by omega)
    have e2 : done ++ upFrom k0 (x :: r).length = (done ++ [k0]) ++ upFrom (k0 + 1) r.length := by simp [upFrom]
    have e3 : k0 + ((x :: r).length : Int) = k0 + 1 + (r.length : Int) := by simp; omega
    rw [e2, e3]
    exact_mod_cast this
theorem markIntS_ev (xs : List Int) (k0 : Int) (hm : xs.length ≤ maxLen) (h0 : 0 ≤ k0) (h1 : k0 ≤ top - xs.length) :
    Ev (fun k => w_markIntS k (xs, k0)) (k0 + xs.length, upFrom k0 xs.length) :=
  Ev.step (fun k => w_markIntS_eq k xs k0) (markIntS_l2_ev xs hm xs 0 k0 [] rfl rfl h0 h1)
theorem heldIntS_l2_ev (ys : List Int) (hm : ys.length ≤ maxLen) : ∀ (n : Nat) (i : Nat) (k0 : Int), ys.drop i = upFrom k0 n → 0 ≤ k0 → k0 ≤ top - n →
    Ev (fun k => w_heldIntS_l2 k ys k0 (i : Int)) (k0 + n) := by
  intro n
  induction n with
  | zero =>
    intro i k0 h h0 h1
    have a := at_nil h
    refine Ev.step (fun k => w_heldIntS_l2_eq k ys k0 i) ?_
    simp only [a.g, cond_false]
    exact Ev.some (by simp)
  | succ n ih =>
    intro i k0 h h0 h1
    have a := at_cons h hm
    refine Ev.step (fun k => w_heldIntS_l2_eq k ys k0 i) ?_
    simp only [a.g, a.z, a.get, a.w, cond_true]
    refine Ev.no (by simp) ?_
    rw [wrap_id (x := k0 + 1) (by omega) (by rw [top_eq] at h1; omega)]
    have := ih (i + 1) (k0 + 1) a.next (by omega) (by omega)
    have e3 : k0 + ((n + 1 : Nat) : Int) = k0 + 1 + (n : Int) := by omega
    rw [e3]
    exact this
theorem heldIntS_ev (n : Nat) (k0 : Int) (hm : n ≤ maxLen) (h0 : 0 ≤ k0) (h1 : k0 ≤ top - n) :
    Ev (fun k => w_heldIntS k (upFrom k0 n, k0)) (k0 + n) :=
  Ev.step (fun k => w_heldIntS_eq k _ k0) (heldIntS_l2_ev _ (by rw [upFrom_len]; exact hm) n 0 k0 rfl h0 h1)
end Qq
namespace Qq
open Go Go.Vt Pt
set_option linter.unusedVariables false
set_option linter.unusedSimpArgs false
def moveOk (n : Int) (m : Int × Int) : Bool :=
  decide (1 ≤ n) && (decide (n ≤ 12) && (decide (0 ≤ m.2) &&
    (if m.1 = 1 then decide (m.2 ≤ n) else if m.1 = 2 then decide (m.2 ≤ n) else if m.1 = 3 then decide (m.2 ≤ n) else
     if m.1 = 4 then decide (m.2 ≤ 1) else if m.1 = 5 then decide (m.2 ≤ 1) else if m.1 = 7 then decide (m.2 ≤ 1) else
     if m.1 = 6 then m.2 == 0 else if m.1 = 8 then decide (m.2 < n) else if m.1 = 9 then decide (m.2 < n) else false)))
theorem i_MoveOk_ev (n : Int) (m : Int × Int) : Ev (fun k => i_MoveOk k (n, m)) (moveOk n m) := by
  obtain ⟨a, b⟩ := m
  refine Ev.step (fun k => i_MoveOk_eq k n (a, b)) ?_
  unfold moveOk
  refine Ev.ite (fun h => Ev.some ?_) (fun h => ?_)
  · have : ¬ 1 ≤ n := by simpa using h
    simp [this]
  have h1 : 1 ≤ n := by simpa using h
  refine Ev.ite (fun h => Ev.some ?_) (fun h => ?_)
  · have : ¬ n ≤ 12 := by simpa using h
    simp [this]
  have h2 : n ≤ 12 := by simpa using h
  refine Ev.ite (fun h => Ev.some ?_) (fun h => ?_)
  · have : ¬ 0 ≤ b := by simpa using h
    simp [this]
  have h3 : 0 ≤ b := by simpa using h
  clear h
  simp only [h1, h2, h3, decide_true, Bool.true_and]
  iterate 9 (refine Ev.ite (fun h => ?_) (fun h => ?_); · exact Ev.some (by simp at *; simp [*]))
  exact Ev.some (by simp at *; simp [*])
def stepOk (n : Int) (s : Int × (Int × Int) × Int) : Bool :=
  decide (1 ≤ n) && (decide (n ≤ 12) &&
    (if s.1 = 1 then moveOk n s.2.1 && s.2.2 == 0 else
     if s.1 = 2 then s.2.1.1 == 0 && (s.2.1.2 == 0 && (decide (0 ≤ s.2.2) && (decide (s.2.2 ≤ 4) && ((!(s.2.2 == 3) || decide (2 ≤ n)) && (!(s.2.2 == 2) || decide (n ≤ 7)))))) else
     if s.1 = 3 then s.2.1.1 == 0 && (s.2.1.2 == 0 && (decide (0 ≤ s.2.2) && decide (s.2.2 < n))) else false))
theorem i_StepOk_ev (n : Int) (s : Int × (Int × Int) × Int) : Ev (fun k => i_StepOk k (n, s)) (stepOk n s) := by
  obtain ⟨t, ⟨a, b⟩, c⟩ := s
  refine Ev.step (fun k => i_StepOk_eq k n (t, (a, b), c)) ?_
  unfold stepOk
  refine Ev.ite (fun h => Ev.some ?_) (fun h => ?_)
  · have : ¬ 1 ≤ n := by simpa using h
    simp [this]
  have h1 : 1 ≤ n := by simpa using h
  refine Ev.ite (fun h => Ev.some ?_) (fun h => ?_)
  · have : ¬ n ≤ 12 := by simpa using h
    simp [this]
  have h2 : n ≤ 12 := by simpa using h
  clear h
  simp only [h1, h2, decide_true, Bool.true_and]
  refine Ev.ite (fun h => ?_) (fun h => ?_)
  · have e : t = 1 := by simpa using h
    subst e
    exact Ev.bind (i_MoveOk_ev n (a, b)) (Ev.ite (fun h => Ev.some (by simp at *; simp [*])) (fun h => Ev.some (by simp at *; simp [*])))
  have t1 : ¬ t = 1 := by simpa using h
  simp only [t1, if_false]
  repeat (first | (refine Ev.ite (fun h => ?_) (fun h => ?_)) | focus (refine Ev.some ?_; simp_all; done) | focus (refine Ev.some ?_; simp_all; omega) | focus (refine Ev.some ?_; rw [Bool.eq_iff_iff]; simp at *; omega))
end Qq
namespace Qq
open Go Go.Vt Pt
set_option linter.unusedVariables false
set_option linter.unusedSimpArgs false
abbrev Step : Type := Int × (Int × Int) × Int
abbrev Trick : Type := List Int × List Step × Int × Int × Int
abbrev Scene : Type := List Int × Int
theorem eqStep_ev (s t : Step) : Ev (fun k => w_eqStep k (s, t)) (s == t) := by
  obtain ⟨a, ⟨b, c⟩, d⟩ := s
  obtain ⟨a', ⟨b', c'⟩, d'⟩ := t
  refine Ev.step (fun k => w_eqStep_eq k _ _) ?_
  have hm : Ev (fun k => w_eqMove k ((b, c), (b', c'))) ((b, c) == (b', c')) := by
    refine Ev.step (fun k => w_eqMove_eq k _ _) ?_
    repeat (first | (refine Ev.ite (fun h => ?_) (fun h => ?_)) | focus (refine Ev.some ?_; simp_all; done))
  refine Ev.ite (fun h => Ev.some ?_) (fun h => Ev.bind hm ?_)
  · have : ¬ a = a' := by simpa using h
    simp [this]
  · repeat (first | (refine Ev.ite (fun h => ?_) (fun h => ?_)) | focus (refine Ev.some ?_; simp_all; done))
theorem eqStepS_l4_ev (xs ys : List Step) (hx : xs.length ≤ maxLen) (hy : ys.length ≤ maxLen) : ∀ (r s : List Step) (i : Nat), xs.drop i = r → ys.drop i = s → s.length = r.length → Ev (fun k => w_eqStepS_l4 k xs ys (i : Int)) (r == s)
  | [], [], i, h1, h2, hl => by
    have a := at_nil h1
    refine Ev.step (fun k => w_eqStepS_l4_eq k xs ys i) ?_
    simp only [a.g, cond_false]
    exact Ev.pure _
  | x :: r, y :: s, i, h1, h2, hl => by
    have a := at_cons h1 hx
    have b := at_cons h2 hy
    refine Ev.step (fun k => w_eqStepS_l4_eq k xs ys i) ?_
    simp only [a.g, a.z, b.g, a.get, b.get, a.w, cond_true]
    have ih := eqStepS_l4_ev xs ys hx hy r s (i + 1) a.next b.next (by simpa using hl)
    refine Ev.bind (eqStep_ev x y) (Ev.ite (fun h => Ev.some ?_) (fun h => ih.to ?_))
    · have : ¬ x = y := by simpa using h
      simp [this]
    · have : x = y := by simpa using h
      simp [this]
  | [], _ :: _, _, _, _, hl => by simp at hl
  | _ :: _, [], _, _, _, hl => by simp at hl
theorem eqStepS_ev (xs ys : List Step) (hx : xs.length ≤ maxLen) (hy : ys.length ≤ maxLen) : Ev (fun k => w_eqStepS k (xs, ys)) (xs == ys) := by
  refine Ev.step (fun k => w_eqStepS_eq k xs ys) (Ev.ite (fun h => Ev.some ?_) (fun h => eqStepS_l4_ev xs ys hx hy xs ys 0 rfl rfl ?_))
  · have h' : ¬ xs.length = ys.length := by simp at h; omega
    have : ¬ xs = ys := fun e => h' (by rw [e])
    simp [this]
  · simp at h; omega
theorem eqTrick_ev (t u : Trick) (h1 : t.1.length ≤ maxLen) (h2 : t.2.1.length ≤ maxLen) (h3 : u.1.length ≤ maxLen) (h4 : u.2.1.length ≤ maxLen) : Ev (fun k => w_eqTrick k (t, u)) (t == u) := by
  obtain ⟨a, b, c, d, e⟩ := t
  obtain ⟨a', b', c', d', e'⟩ := u
  refine Ev.step (fun k => w_eqTrick_eq k _ _) (Ev.bind (eqIntS_ev _ _ h1 h3) ?_)
  refine Ev.ite (fun h => Ev.some ?_) (fun h => Ev.bind (eqStepS_ev _ _ h2 h4) ?_)
  · have : ¬ a = a' := by simpa using h
    simp [this]
  · have ea : a = a' := by simpa using h
    subst ea
    refine Ev.ite (fun h => Ev.some ?_) (fun h => ?_)
    · have : ¬ b = b' := by simpa using h
      simp [this]
    · have eb : b = b' := by simpa using h
      subst eb
      repeat (first | (refine Ev.ite (fun h => ?_) (fun h => ?_)) | focus (refine Ev.some ?_; simp_all; done))
end Qq
namespace Qq
open Go Go.Vt Pt
set_option linter.unusedVariables false
set_option linter.unusedSimpArgs false
/-- n steps of numbers from k on. -/
def stepsFrom (k : Int) : Nat → List Step
  | 0 => []
  | n + 1 => (k, (k + 1, k + 2), k + 3) :: stepsFrom (k + 4) n
theorem stepsFrom_len : ∀ (k : Int) (n : Nat), (stepsFrom k n).length = n
  | _, 0 => rfl
  | k, n + 1 => by show (stepsFrom (k + 4) n).length + 1 = n + 1; rw [stepsFrom_len]
theorem getD_set_self {α : Type} {xs : List α} {i : Nat} (h : i < xs.length) (a d : α) : (xs.set i a).getD i d = a := by
  simp [List.getD, h]
theorem wrap4 {k : Int} (h0 : 0 ≤ k) (h1 : k + 4 ≤ top) : IntKind.i64.wrap (k + 1) = k + 1 ∧ IntKind.i64.wrap (k + 1 + 1) = k + 2 ∧ IntKind.i64.wrap (k + 2 + 1) = k + 3 ∧ IntKind.i64.wrap (k + 3 + 1) = k + 4 := by
  rw [top_eq] at h1
  refine ⟨wrap_id (by omega) (by omega), ?_, ?_, ?_⟩ <;> (rw [wrap_id (by omega) (by omega)]; omega)
theorem markStepS_l2_ev (xs : List Step) (hm : xs.length ≤ maxLen) : ∀ (r : List Step) (i : Nat) (k0 : Int) (done : List Step), xs.drop i = r → done.length = i → 0 ≤ k0 → k0 + 4 * r.length ≤ top →
    Ev (fun k => w_markStepS_l2 k k0 (i : Int) (done ++ r)) (k0 + 4 * r.length, done ++ stepsFrom k0 r.length) := by
  intro r
  induction r with
  | nil =>
    intro i k0 done h hl h0 h1
    refine Ev.step (fun k => w_markStepS_l2_eq k k0 i _) ?_
    have : decide ((i : Int) < ((done ++ ([] : List Step)).length : Int)) = false := by simp; omega
    refine Ev.no this (Ev.some ?_)
    simp [stepsFrom]
  | cons x r ih =>
    intro i k0 done h hl h0 h1
    have a := at_cons h hm
    rw [List.length_cons] at h1
    obtain ⟨w1, w2, w3, w4⟩ := wrap4 (k := k0) h0 (by omega)
    have L : i < (done ++ x :: r).length := by simp; omega
    have g1 : decide ((i : Int) < ((done ++ x :: r).length : Int)) = true := decide_eq_true (by omega)
    have g2 : decide (i < (done ++ x :: r).length) = true := decide_eq_true (by omega)
    refine Ev.step (fun k => w_markStepS_l2_eq k k0 i _) ?_
    simp only [Int.toNat_natCast, List.length_set, List.set_set, getD_set_self L, w1, w2, w3, w4, a.z, a.w, g1, g2, cond_true]
    have e : (done ++ x :: r).set i (k0, (k0 + 1, k0 + 2), k0 + 3) = (done ++ [(k0, (k0 + 1, k0 + 2), k0 + 3)]) ++ r := by
      rw [← hl, List.set_append_right _ _ (Nat.le_refl _)]
      simp
    have := ih (i + 1) (k0 + 4) (done ++ [(k0, (k0 + 1, k0 + 2), k0 + 3)]) a.next (by simp [hl]) (by omega) (by omega)
    rw [← e] at this
    refine this.to ?_
    simp [stepsFrom]
    omega
theorem markStepS_ev (xs : List Step) (k0 : Int) (hm : xs.length ≤ maxLen) (h0 : 0 ≤ k0) (h1 : k0 + 4 * xs.length ≤ top) :
    Ev (fun k => w_markStepS k (xs, k0)) (k0 + 4 * xs.length, stepsFrom k0 xs.length) :=
  Ev.step (fun k => w_markStepS_eq k xs k0) (markStepS_l2_ev xs hm xs 0 k0 [] rfl rfl h0 h1)
theorem heldStepS_l2_ev (ys : List Step) (hm : ys.length ≤ maxLen) : ∀ (n : Nat) (i : Nat) (k0 : Int), ys.drop i = stepsFrom k0 n → 0 ≤ k0 → k0 + 4 * n ≤ top →
    Ev (fun k => w_heldStepS_l2 k ys k0 (i : Int)) (k0 + 4 * n) := by
  intro n
  induction n with
  | zero =>
    intro i k0 h h0 h1
    have a := at_nil h
    refine Ev.step (fun k => w_heldStepS_l2_eq k ys k0 i) ?_
    simp only [a.g, cond_false]
    exact Ev.some (by simp)
  | succ n ih =>
    intro i k0 h h0 h1
    have a := at_cons h hm
    obtain ⟨w1, w2, w3, w4⟩ := wrap4 (k := k0) h0 (by omega)
    refine Ev.step (fun k => w_heldStepS_l2_eq k ys k0 i) ?_
    simp only [a.g, a.z, a.get, a.w, cond_true, w1, w2, w3, w4]
    refine Ev.no (by simp) (Ev.no (by simp) (Ev.no (by simp) (Ev.no (by simp) ?_)))
    have := ih (i + 1) (k0 + 4) a.next (by omega) (by omega)
    have e3 : k0 + 4 * ((n + 1 : Nat) : Int) = k0 + 4 + 4 * (n : Int) := by omega
    rw [e3]
    exact this
theorem heldStepS_ev (n : Nat) (k0 : Int) (hm : n ≤ maxLen) (h0 : 0 ≤ k0) (h1 : k0 + 4 * n ≤ top) :
    Ev (fun k => w_heldStepS k (stepsFrom k0 n, k0)) (k0 + 4 * n) :=
  Ev.step (fun k => w_heldStepS_eq k _ k0) (heldStepS_l2_ev _ (by rw [stepsFrom_len]; exact hm) n 0 k0 rfl h0 h1)
theorem markTrick_ev (t : Trick) (k0 : Int) (h1 : t.1.length ≤ 1048576) (h2 : t.2.1.length ≤ 1048576) (h0 : 0 ≤ k0) (hk : k0 ≤ 1099511627776) :
    Ev (fun k => w_markTrick k (t, k0)) (k0 + t.1.length + 4 * t.2.1.length, upFrom k0 t.1.length, stepsFrom (k0 + t.1.length) t.2.1.length) := by
  have te := top_eq
  refine Ev.step (fun k => w_markTrick_eq k t k0) (Ev.bind (markIntS_ev t.1 k0 (by rw [maxLen_eq]; omega) h0 (by omega)) ?_)
  exact Ev.bind (markStepS_ev t.2.1 (k0 + t.1.length) (by rw [maxLen_eq]; omega) (by omega) (by omega)) (Ev.pure _)
theorem heldTrick_ev (n m : Nat) (k0 c a b : Int) (h1 : n ≤ 1048576) (h2 : m ≤ 1048576) (h0 : 0 ≤ k0) (hk : k0 ≤ 1099511627776) :
    Ev (fun k => w_heldTrick k ((upFrom k0 n, stepsFrom (k0 + n) m, c, a, b), k0)) (k0 + n + 4 * m) := by
  have te := top_eq
  refine Ev.step (fun k => w_heldTrick_eq k _ k0) (Ev.bind (heldIntS_ev n k0 (by rw [maxLen_eq]; omega) h0 (by omega)) (Ev.no (by simp; omega) ?_))
  exact Ev.bind (heldStepS_ev m (k0 + n) (by rw [maxLen_eq]; omega) (by omega) (by omega)) (Ev.no (by simp; omega) (Ev.pure _))
theorem markScene_ev (t : Scene) (k0 : Int) (h1 : t.1.length ≤ 1048576) (h0 : 0 ≤ k0) (hk : k0 ≤ 1099511627776) :
    Ev (fun k => w_markScene k (t, k0)) (k0 + t.1.length, upFrom k0 t.1.length) := by
  have te := top_eq
  exact Ev.step (fun k => w_markScene_eq k t k0) (Ev.bind (markIntS_ev t.1 k0 (by rw [maxLen_eq]; omega) h0 (by omega)) (Ev.pure _))
theorem heldScene_ev (n : Nat) (k0 c : Int) (h1 : n ≤ 1048576) (h0 : 0 ≤ k0) (hk : k0 ≤ 1099511627776) :
    Ev (fun k => w_heldScene k ((upFrom k0 n, c), k0)) (k0 + n) := by
  have te := top_eq
  exact Ev.step (fun k => w_heldScene_eq k _ k0) (Ev.bind (heldIntS_ev n k0 (by rw [maxLen_eq]; omega) h0 (by omega)) (Ev.no (by simp; omega) (Ev.pure _)))
theorem eqScene_ev (c d : Scene) (h1 : c.1.length ≤ maxLen) (h2 : d.1.length ≤ maxLen) : Ev (fun k => w_eqScene k (c, d)) (c == d) := by
  obtain ⟨p, a⟩ := c
  obtain ⟨q, b⟩ := d
  refine Ev.step (fun k => w_eqScene_eq k _ _) (Ev.bind (eqIntS_ev _ _ h1 h2) (Ev.ite (fun h => Ev.some ?_) (fun h => Ev.ite (fun h' => Ev.some ?_) (fun h' => Ev.some ?_)))) <;> simp_all
end Qq
namespace Qq
open Go Go.Vt Pt
set_option linter.unusedVariables false
set_option linter.unusedSimpArgs false
end Qq
namespace Qq
open Go Go.Vt Pt
set_option linter.unusedVariables false
set_option linter.unusedSimpArgs false
theorem nodup_len : ∀ (n : Nat) (l : List Int), l.Nodup → (∀ x ∈ l, 0 ≤ x ∧ x < (n : Int)) → l.length ≤ n
  | 0, l, _, h => by
    cases l with
    | nil => simp
    | cons x l => have := h x (by simp); omega
  | n + 1, l, hd, h => by
    have h1 := nodup_len n (l.erase (n : Int)) (hd.erase _) (fun x hx => by
      have hx' := (hd.mem_erase_iff).1 hx
      have := h x hx'.2
      have : x ≠ (n : Int) := hx'.1
      omega)
    have h2 := List.length_erase (a := (n : Int)) (l := l)
    split at h2 <;> omega
end Qq
namespace Qq
open Go Go.Vt Pt
set_option linter.unusedVariables false
set_option linter.unusedSimpArgs false
def card (x : Int) : Int := if 0 ≤ x ∧ x ≤ 11 then x else if -12 ≤ x ∧ x ≤ -1 then -1 - x else -1
theorem card_lt (x : Int) : -1 ≤ card x ∧ card x ≤ 11 := by unfold card; split; · omega
                                                            split <;> omega
theorem i_CardOf_ev (x : Int) (hx : In x) : Ev (fun k => i_CardOf k x) (card x) := by
  obtain ⟨a, b⟩ := hx
  refine Ev.step (fun k => i_CardOf_eq k x) ?_
  refine Ev.ite (fun h => ?_) (fun h => ?_)
  · have h1 : x < 0 := by simpa using h
    rw [wrap_id (by omega) (by omega)]
    have h2 : ¬ (0 ≤ x ∧ x ≤ 11) := by omega
    refine Ev.ite (fun h' => Ev.some ?_) (fun h' => Ev.some ?_)
    · have h3 : ¬ (-12 ≤ x ∧ x ≤ -1) := by simp at h'; omega
      unfold card; rw [if_neg h2, if_neg h3]
    · have h3 : (-12 ≤ x ∧ x ≤ -1) := by simp at h'; omega
      unfold card; rw [if_neg h2, if_pos h3]
  · have h1 : ¬ x < 0 := by simpa using h
    have h3 : ¬ (-12 ≤ x ∧ x ≤ -1) := by omega
    refine Ev.ite (fun h' => Ev.some ?_) (fun h' => Ev.some ?_)
    · have h2 : ¬ (0 ≤ x ∧ x ≤ 11) := by simp at h'; omega
      unfold card; rw [if_neg h2, if_neg h3]
    · have h2 : (0 ≤ x ∧ x ≤ 11) := by simp at h'; omega
      unfold card; rw [if_pos h2]
def pk : List Int → List Int → Bool
  | _, [] => true
  | done, x :: r => decide (0 ≤ card x) && (!(done.contains (card x)) && pk (done ++ [card x]) r)
def packetOk (p : List Int) : Bool := pk [] p
theorem pk_nodup : ∀ (r done : List Int), done.Nodup → pk done r = true → (done ++ r.map card).Nodup ∧ ∀ x ∈ r, 0 ≤ card x
  | [], done, hd, h => by simp [hd]
  | x :: r, done, hd, h => by
    unfold pk at h
    simp only [Bool.and_eq_true, decide_eq_true_eq, Bool.not_eq_true'] at h
    obtain ⟨h1, h3, h4⟩ := h
    have hx : card x ∉ done := by simpa using h3
    obtain ⟨k1, k2⟩ := pk_nodup r (done ++ [card x]) (by
      rw [List.nodup_append]
      exact ⟨hd, by simp, fun a ha b hb e => by simp at hb; subst hb; subst e; exact hx ha⟩) h4
    refine ⟨by simpa using k1, fun y hy => ?_⟩
    rcases List.mem_cons.1 hy with rfl | hy
    · exact h1
    · exact k2 y hy
theorem packetOk_fit {p : List Int} (h : packetOk p = true) : (p.map card).Nodup ∧ (∀ x ∈ p, 0 ≤ card x ∧ card x ≤ 11) ∧ p.length ≤ 12 := by
  obtain ⟨k1, k2⟩ := pk_nodup p [] (by simp) h
  have k1' : (p.map card).Nodup := by simpa using k1
  have k3 := nodup_len 12 (p.map card) k1' (fun x hx => by
    obtain ⟨y, hy, rfl⟩ := List.mem_map.1 hx
    have := k2 y hy
    have := card_lt y
    omega)
  exact ⟨k1', fun x hx => ⟨k2 x hx, (card_lt x).2⟩, by simpa using k3⟩
/-- The cards that were met. -/
def metL (done : List Int) : List Bool := (List.range 12).map fun (c : Nat) => done.contains (c : Int)
theorem metL_len (done : List Int) : (metL done).length = 12 := by simp [metL]
theorem metL_get (done : List Int) (c : Nat) (h : c < 12) (d : Bool) : (metL done).getD c d = done.contains (c : Int) := by
  simp [metL, List.getD, h]
theorem metL_set (done : List Int) (c : Nat) (h : c < 12) : (metL done).set c true = metL (done ++ [(c : Int)]) := by
  apply List.ext_getElem?
  intro x
  rw [List.getElem?_set]
  by_cases hx : x < 12
  · by_cases e : c = x
    · subst e; simp [metL, h]
    · have : ¬ x = c := fun h => e h.symm
      simp [metL, hx, e, this]; intro h; omega
  · rw [if_neg (by omega), List.getElem?_eq_none (by rw [metL_len]; omega), List.getElem?_eq_none (by rw [metL_len]; omega)]
theorem i_PacketOk_l3_ev (xs : List Int) (hm : xs.length ≤ maxLen) (hi : Ins xs) : ∀ (r : List Int) (i : Nat) (done : List Int), xs.drop i = r → Ev (fun k => i_PacketOk_l3 k xs (xs.length : Int) (i : Int) (metL done)) (pk done r)
  | [], i, done, h => by
    have a := at_nil h
    refine Ev.step (fun k => i_PacketOk_l3_eq k _ _ _ _) ?_
    simp only [a.g, cond_false]
    exact Ev.pure _
  | x :: r, i, done, h => by
    have a := at_cons h hm
    refine Ev.step (fun k => i_PacketOk_l3_eq k _ _ _ _) ?_
    simp only [a.g, a.z, a.get, a.w, cond_true]
    unfold pk
    refine Ev.bind (i_CardOf_ev x (hi x a.mem)) (Ev.ite (fun c => Ev.some ?_) (fun c => ?_))
    · have : ¬ 0 ≤ card x := by simpa using c
      simp [this]
    · have hc : 0 ≤ card x := by simpa using c
      have hc2 := (card_lt x).2
      have en : card x = ((card x).toNat : Int) := by omega
      have g1 : decide (0 ≤ card x) = true := by simp [hc]
      have g2 : decide (card x < ((metL done).length : Int)) = true := by rw [metL_len]; simp; omega
      have g3 : decide ((card x).toNat < (metL done).length) = true := by rw [metL_len]; simp; omega
      have g4 : (Nat.beq (metL done).length 12 && true) = true := by rw [metL_len]; rfl
      have g5 := metL_get done (card x).toNat (by omega) false
      rw [← en] at g5
      have g6 := metL_set done (card x).toNat (by omega)
      rw [← en] at g6
      simp only [g1, g2, g3, g4, g5, g6, cond_true, Bool.true_and]
      refine Ev.ite (fun c2 => Ev.some ?_) (fun c2 => ?_)
      · rw [c2]; rfl
      · rw [c2]
        exact i_PacketOk_l3_ev xs hm hi r (i + 1) _ a.next
theorem i_PacketOk_ev (p : List Int) (hm : p.length ≤ maxLen) (hi : Ins p) : Ev (fun k => i_PacketOk k p) (packetOk p) :=
  Ev.step (fun k => i_PacketOk_eq k p) (i_PacketOk_l3_ev p hm hi p 0 [] rfl)
def posF (c : Int) : Nat → List Int → Int
  | _, [] => -1
  | i, y :: r => if card y = c then (i : Int) else posF c (i + 1) r
/-- Where a card lies, or -1. -/
def pos (p : List Int) (c : Int) : Int := if c < 0 then -1 else posF c 0 p
theorem i_PosFunc_l2_ev (c : Int) (xs : List Int) (hm : xs.length ≤ maxLen) (hi : Ins xs) : ∀ (r : List Int) (i : Nat), xs.drop i = r → Ev (fun k => slices_IndexFunc_int_of_i_PositionOf_1_l2 k xs c (xs.length : Int) (i : Int)) (posF c i r)
  | [], i, h => by
    have a := at_nil h
    refine Ev.step (fun k => slices_IndexFunc_int_of_i_PositionOf_1_l2_eq k _ _ _ _) ?_
    simp only [a.g, cond_false]
    exact Ev.pure _
  | x :: r, i, h => by
    have a := at_cons h hm
    have ih := i_PosFunc_l2_ev c xs hm hi r (i + 1) a.next
    refine Ev.step (fun k => slices_IndexFunc_int_of_i_PositionOf_1_l2_eq k _ _ _ _) ?_
    simp only [a.g, a.z, a.get, a.w, cond_true]
    unfold posF
    have h1 : Ev (fun k => i_PositionOf_1 k (x, c)) (card x == c) := Ev.step (fun k => i_PositionOf_1_eq k x c) (Ev.bind (i_CardOf_ev x (hi x a.mem)) (Ev.pure _))
    refine Ev.bind h1 (Ev.ite (fun h => Ev.some ?_) (fun h => ih.to ?_))
    · have : card x = c := by simpa using h
      rw [if_pos this]
    · have : ¬ card x = c := by simpa using h
      rw [if_neg this]
theorem i_PositionOf_ev (p : List Int) (c : Int) (hm : p.length ≤ maxLen) (hi : Ins p) : Ev (fun k => i_PositionOf k (p, c)) (pos p c) := by
  refine Ev.step (fun k => i_PositionOf_eq k p c) ?_
  unfold pos
  refine Ev.ite (fun h => Ev.some ?_) (fun h => Ev.bind (Ev.step (fun k => slices_IndexFunc_int_of_i_PositionOf_1_eq k p c) (i_PosFunc_l2_ev c p hm hi p 0 rfl)) (Ev.some ?_))
  · have : c < 0 := by simpa using h
    rw [if_pos this]
  · have : ¬ c < 0 := by simpa using h
    rw [if_neg this]
end Qq
namespace Qq
open Go Go.Vt Pt
set_option linter.unusedVariables false
set_option linter.unusedSimpArgs false
def claimOk (n : Int) (p : List Int) (noted : Bool) (c a b : Int) : Bool :=
  if c = 0 then a == 0 && b == 0 else
  if c = 4 then a == 0 && b == 0 else
  if c = 1 then noted && (decide (0 ≤ a) && (decide (a < n) && b == 0)) else
  if c = 2 then decide (0 ≤ a) && (decide (a ≤ n) && b == 0) else
  if c = 3 then decide (0 ≤ pos p a) && (decide (0 ≤ b) && decide (b < n)) else false
def stepsOk (n : Int) (l : List Step) : Bool := l.all (stepOk n)
def hasNote (l : List Step) : Bool := l.any fun s => s.1 == 3
def trickOk (t : Trick) : Bool :=
  packetOk t.1 && (!(t.1.length == 0) && (decide (t.2.1.length ≤ 12) && (stepsOk t.1.length t.2.1 && claimOk t.1.length t.1 (hasNote t.2.1) t.2.2.1 t.2.2.2.1 t.2.2.2.2)))
theorem claim_i (xs : List Step) (hm : xs.length ≤ maxLen) (p : List Int) (hp : p.length ≤ maxLen) (hi : Ins p) (c a b n : Int) (hn : n = p.length) : ∀ (r : List Step) (i : Nat) (nt : Bool), xs.drop i = r →
    Ev (fun k => i_TrickOk_l6 k n nt xs (xs.length : Int) (i : Int) p xs c a b) (stepsOk n r && claimOk n p (nt || hasNote r) c a b)
  | [], i, nt, h => by
    have q := at_nil h
    refine Ev.step (fun k => i_TrickOk_l6_eq k _ _ _ _ _ _ _ _ _ _) ?_
    simp only [q.g, cond_false]
    have e : (stepsOk n [] && claimOk n p (nt || hasNote []) c a b) = claimOk n p nt c a b := by simp [stepsOk, hasNote]
    rw [e]
    unfold claimOk
    refine Ev.ite (fun h => ?_) (fun h => ?_)
    · have e : c = 0 := by simpa using h
      rw [if_pos e]
      refine Ev.ite (fun h => Ev.some ?_) (fun h => Ev.some ?_) <;> simp [h]
    have e0 : ¬ c = 0 := by simpa using h
    rw [if_neg e0]
    refine Ev.ite (fun h => ?_) (fun h => ?_)
    · have e : c = 4 := by simpa using h
      rw [if_pos e]
      refine Ev.ite (fun h => Ev.some ?_) (fun h => Ev.some ?_) <;> simp [h]
    have e4 : ¬ c = 4 := by simpa using h
    rw [if_neg e4]
    refine Ev.ite (fun h => ?_) (fun h => ?_)
    · have e : c = 1 := by simpa using h
      rw [if_pos e]
      repeat (first | (refine Ev.ite (fun h => ?_) (fun h => ?_)) | focus (refine Ev.some ?_; simp_all; done) | focus (refine Ev.some ?_; simp_all; omega))
    have e1 : ¬ c = 1 := by simpa using h
    rw [if_neg e1]
    refine Ev.ite (fun h => ?_) (fun h => ?_)
    · have e : c = 2 := by simpa using h
      rw [if_pos e]
      repeat (first | (refine Ev.ite (fun h => ?_) (fun h => ?_)) | focus (refine Ev.some ?_; simp_all; done) | focus (refine Ev.some ?_; simp_all; omega))
    have e2 : ¬ c = 2 := by simpa using h
    rw [if_neg e2]
    refine Ev.ite (fun h => ?_) (fun h => Ev.some ?_)
    · have e : c = 3 := by simpa using h
      rw [if_pos e]
      refine Ev.bind (i_PositionOf_ev p a hp hi) (Ev.ite (fun h' => Ev.ite (fun h2 => Ev.some ?_) (fun h2 => Ev.some ?_)) (fun h' => Ev.some ?_))
      · have h3 : 0 ≤ pos p a := by simpa using h'
        have h4 : 0 ≤ b := by simpa using h2
        simp [h3, h4]
      · have h4 : ¬ 0 ≤ b := by simpa using h2
        simp [h4]
      · have h3 : ¬ 0 ≤ pos p a := by simpa using h'
        simp [h3]
    · have e3 : ¬ c = 3 := by simpa using h
      rw [if_neg e3]
  | s :: r, i, nt, h => by
    have q := at_cons h hm
    refine Ev.step (fun k => i_TrickOk_l6_eq k _ _ _ _ _ _ _ _ _ _) ?_
    simp only [q.g, q.z, q.get, q.w, cond_true]
    refine Ev.bind (i_StepOk_ev n s) (Ev.ite (fun h => Ev.some ?_) (fun h => Ev.ite (fun h2 => ?_) (fun h2 => ?_)))
    · have : stepOk n s = false := by simpa using h
      simp [stepsOk, this]
    · have e : stepOk n s = true := by simpa using h
      refine (claim_i xs hm p hp hi c a b n hn r (i + 1) true q.next).to ?_
      simp [stepsOk, e, h2]
    · have e : stepOk n s = true := by simpa using h
      refine (claim_i xs hm p hp hi c a b n hn r (i + 1) (s.1 == 3) q.next).to ?_
      simp [stepsOk, e, h2, hasNote]
theorem i_TrickOk_ev (t : Trick) (h1 : t.1.length ≤ maxLen) (hi : Ins t.1) (h2 : t.2.1.length ≤ maxLen) : Ev (fun k => i_TrickOk k t) (trickOk t) := by
  obtain ⟨p, st, c, a, b⟩ := t
  unfold trickOk
  refine Ev.step (fun k => i_TrickOk_eq k _) (Ev.bind (i_PacketOk_ev p h1 hi) (Ev.ite (fun h => Ev.some ?_) (fun h => Ev.ite (fun h' => Ev.some ?_) (fun h' => Ev.ite (fun h3 => Ev.some ?_) (fun h3 => ?_)))))
  · have : packetOk p = false := by simpa using h
    simp [this]
  · have : p.length = 0 := by simp at h'; simp [h']
    simp [this]
  · have : ¬ st.length ≤ 12 := by simp at h3; omega
    simp [this]
  · refine (claim_i st h2 p h1 hi c a b _ rfl st 0 false rfl).to ?_
    have e1 : packetOk p = true := by simpa using h
    have e2 : (p.length == 0) = false := by simp at h' ⊢; exact h'
    have e3 : st.length ≤ 12 := by simp at h3; omega
    simp [e1, e3, e2]
theorem trickOk_len {t : Trick} (h : trickOk t = true) : t.2.1.length ≤ 12 ∧ 1 ≤ t.1.length ∧ t.1.length ≤ 12 ∧ packetOk t.1 = true := by
  unfold trickOk at h
  simp only [Bool.and_eq_true, decide_eq_true_eq] at h
  have := packetOk_fit h.1
  have h2 := h.2.1
  refine ⟨h.2.2.1, ?_, this.2.2, h.1⟩
  have : ¬ t.1.length = 0 := by simpa using h2
  omega
end Qq
namespace Qq
open Go Go.Vt Pt
set_option linter.unusedVariables false
set_option linter.unusedSimpArgs false
def upTo (n : Nat) : List Int := (List.range n).map fun (i : Nat) => (i : Int)
theorem upTo_len (n : Nat) : (upTo n).length = n := by simp [upTo]
theorem upTo_succ (n : Nat) : upTo (n + 1) = upTo n ++ [(n : Int)] := by simp [upTo, List.range_succ]
theorem i_upTo_l3_ev (n : Nat) (hn : n ≤ 1048576) : ∀ (m i : Nat), i + m = n → Ev (fun k => i_upTo_l3 k (n : Int) (i : Int) (upTo i)) (upTo n)
  | 0, i, h => by
    refine Ev.step (fun k => i_upTo_l3_eq k n i _) ?_
    rw [at_end (by omega)]
    have : i = n := by omega
    subst this
    exact Ev.pure _
  | m + 1, i, h => by
    have a := at_up (n := (n : Int)) (i := i) (by omega) (by omega)
    refine Ev.step (fun k => i_upTo_l3_eq k n i _) ?_
    simp only [a.g, a.w, cond_true]
    refine Ev.yes (by rw [upTo_len, rowMax_eq]; simp; omega) ?_
    rw [← upTo_succ]
    exact i_upTo_l3_ev n hn m (i + 1) (by omega)
theorem i_upTo_ev (n : Nat) (hn : n ≤ 1048576) : Ev (fun k => i_upTo k (n : Int)) (upTo n) :=
  Ev.step (fun k => i_upTo_eq k n) (i_upTo_l3_ev n hn n 0 (by omega))
end Qq
namespace Qq
open Go Go.Vt Pt
set_option linter.unusedVariables false
set_option linter.unusedSimpArgs false
theorem Clone_int_ev (xs : List Int) (hm : xs.length ≤ 1048576) : Ev (fun k => slices_Clone_int k xs) xs := by
  refine Ev.step (fun k => slices_Clone_int_eq k xs) (Ev.ite (fun h => ?_) (fun h => ?_))
  · exact Ev.yes (by rw [rowMax_eq]; simp; omega) (Ev.some (by simp))
  · have : xs = [] := by simpa using h
    subst this
    exact Ev.both (Ev.pure _) (Ev.yes (by simp) (Ev.some rfl))
end Qq
namespace Qq
open Go Go.Vt Pt
set_option linter.unusedVariables false
set_option linter.unusedSimpArgs false
def startScene (t : Trick) : List Int × Int × Bool := if trickOk t then (t.1, -1, true) else ([], 0, false)
theorem StartScene_ev (t : Trick) (a1 : t.1.length ≤ maxLen) (ai : Ins t.1) (a2 : t.2.1.length ≤ maxLen) : Ev (fun k => i_StartScene k t) (startScene t) := by
  refine Ev.step (fun k => i_StartScene_eq k t) (Ev.bind (i_TrickOk_ev t a1 ai a2) (Ev.ite (fun h => Ev.some ?_) (fun h => ?_)))
  · have : trickOk t = false := by simpa using h
    simp [startScene, this]
  · have e : trickOk t = true := by simpa using h
    have hl := trickOk_len e
    refine Ev.bind (Clone_int_ev t.1 (by omega)) ?_
    have : (!t.1.isEmpty) = true := by
      cases hx : t.1 with
      | nil => rw [hx] at hl; simp at hl
      | cons => rfl
    rw [this]
    exact Ev.some (by simp [startScene, e])
end Qq
namespace Qq
open Go Go.Vt Pt
set_option linter.unusedVariables false
set_option linter.unusedSimpArgs false
theorem s_NewPacket_l5_ev (n : Nat) (hn : 1 ≤ n) (hm : n ≤ 12) : ∀ (d i : Nat), i + d = n → Ev (fun k => s_NewPacket_l5 k (n : Int) (i : Int) (upTo i)) (upTo n)
  | 0, i, h => by
    have e : i = n := by omega
    subst e
    refine Ev.step (fun k => s_NewPacket_l5_eq k _ _ _) ?_
    rw [at_end (by omega)]
    refine Ev.no rfl (Ev.yes ?_ (Ev.pure _))
    have : (upTo i).length = i := by simp [upTo]
    cases hx : upTo i with
    | nil => rw [hx] at this; simp at this; omega
    | cons => rfl
  | d + 1, i, h => by
    have u := at_up (n := (n : Int)) (i := i) (by omega) (by omega)
    refine Ev.step (fun k => s_NewPacket_l5_eq k _ _ _) ?_
    simp only [u.g, u.w, cond_true]
    refine Ev.yes (by rw [rowMax_eq]; simp [upTo]; omega) ?_
    have := s_NewPacket_l5_ev n hn hm d (i + 1) (by omega)
    have e : upTo (i + 1) = upTo i ++ [(i : Int)] := by simp [upTo, List.range_succ]
    rw [e] at this
    exact this
theorem s_NewPacket4_ev : Ev (fun k => s_NewPacket k 4) (upTo 4) := by
  refine Ev.step (fun k => s_NewPacket_eq k _) (Ev.bind (l01In_ev _ _ _) (Ev.no rfl ?_))
  exact s_NewPacket_l5_ev 4 (by omega) (by omega) 4 0 rfl
theorem i_NewPacket4_ev : Ev (fun k => i_NewPacket k 4) (upTo 4) := by
  refine Ev.step (fun k => i_NewPacket_eq k _) (Ev.no rfl (Ev.no rfl (Ev.bind (i_upTo_ev 4 (by omega)) (Ev.pure _))))
abbrev Con : Type := List Int × List Step × Int × Int × Int × List Int × Int
def con0 : Con := (upTo 4, [], 0, 0, 0, upTo 4, -1)
theorem s_NewConsole_ev : Ev (fun k => s_NewConsole k ()) con0 :=
  Ev.step (fun k => s_NewConsole_eq k) (Ev.bind s_NewPacket4_ev (Ev.bind s_NewPacket4_ev (Ev.pure _)))
theorem i_NewConsole_ev : Ev (fun k => i_NewConsole k ()) con0 := by
  refine Ev.step (fun k => i_NewConsole_eq k) (Ev.bind i_NewPacket4_ev ?_)
  refine Ev.bind (StartScene_ev (upTo 4, [], 0, 0, 0) (by rw [maxLen_eq]; decide) (by unfold upTo; simp [Ins, In]; omega) (by rw [maxLen_eq]; decide)) ?_
  exact Ev.some rfl
theorem eqConsole_self (t : Trick) (s : Scene) (h1 : t.1.length ≤ maxLen) (h2 : t.2.1.length ≤ maxLen) (h3 : s.1.length ≤ maxLen) : Ev (fun k => w_eqConsole k ((t, s), (t, s))) true :=
  Ev.step (fun k => w_eqConsole_eq k _ _) (Ev.bind (eqTrick_ev t t h1 h2 h1 h2) (Ev.no (by simp) (Ev.bind (eqScene_ev s s h3 h3) (Ev.no (by simp) (Ev.pure _)))))
theorem mark0 : Ev (fun k => w_markConsole k (con0, 1)) (9, upFrom 1 4, [], upFrom 5 4) := by
  refine Ev.step (fun k => w_markConsole_eq k _ _) ?_
  refine Ev.bind (markTrick_ev (upTo 4, [], 0, 0, 0) 1 (by decide) (by decide) (by decide) (by decide)) ?_
  exact Ev.bind (markScene_ev (upTo 4, -1) 5 (by decide) (by decide) (by decide)) (Ev.pure _)
theorem held0 : Ev (fun k => w_heldConsole k (((upFrom 1 4, [], 0, 0, 0), (upFrom 5 4, -1)), 1)) 9 := by
  refine Ev.step (fun k => w_heldConsole_eq k _ _) ?_
  refine Ev.bind (heldTrick_ev 4 0 1 0 0 0 (by decide) (by decide) (by decide) (by decide)) (Ev.no rfl ?_)
  exact Ev.bind (heldScene_ev 4 5 (-1) (by decide) (by decide) (by decide)) (Ev.no rfl (Ev.pure _))
theorem FnExactNewConsole_ev : Ev (fun k => w_FnExactNewConsole k ()) true := by
  have e := eqConsole_self (upTo 4, [], 0, 0, 0) (upTo 4, -1) (by rw [maxLen_eq]; decide) (by rw [maxLen_eq]; decide) (by rw [maxLen_eq]; decide)
  refine Ev.step (fun k => w_FnExactNewConsole_eq k) (Ev.bind s_NewConsole_ev (Ev.bind i_NewConsole_ev (Ev.bind e (Ev.no rfl (Ev.bind mark0 (Ev.bind held0 (Ev.no rfl (Ev.no rfl ?_))))))))
  exact Ev.bind i_NewConsole_ev (Ev.bind e (Ev.no rfl (Ev.bind held0 (Ev.no rfl (Ev.no rfl (Ev.pure _))))))
end Qq
