/-
  The law FnExactJoinMoves comes to true.
  Conditions: numbers and lengths are such as a machine bears.
-/
import Derived.Test.YtlgkjckddpnfnaaPt
import Derived.Test.YtlgkjckddpnfnaaXvzd
import Derived.Laws.BitsLemmas
import Derived.Test.YtlgkjckddpnfnaaXvzh
namespace Go.Vt
theorem Ev.some {α : Type} {x y : α} (e : x = y) : Ev (fun _ => Option.some x) y := by subst e; exact Ev.pure _
theorem Ev.to {α : Type} {g : Nat → Option α} {x y : α} (h : Ev g x) (e : x = y) : Ev g y := e ▸ h
end Go.Vt
namespace Qq
open Go Go.Vt
set_option linter.unusedVariables false
set_option linter.unusedSimpArgs false
theorem maxLen_eq : maxLen = 9223372036854775807 := by unfold maxLen; decide
theorem rowMax_eq : rowMax = 4294967296 := rfl
theorem wrap_id {x : Int} (h1 : -9223372036854775808 ≤ x) (h2 : x ≤ 9223372036854775807) : IntKind.i64.wrap x = x := by
  rw [IntKind.wrap_i64]; omega
/-- Numbers of a machine's kind. -/
def In (x : Int) : Prop := -9223372036854775808 ≤ x ∧ x ≤ 9223372036854775807
theorem In.of_fits {x : Int} (h : Fits (.int .i64) x) : In x := by
  have h' : IntKind.i64.min ≤ x ∧ x ≤ IntKind.i64.max := h
  have e1 : IntKind.i64.min = -9223372036854775808 := by decide
  have e2 : IntKind.i64.max = 9223372036854775807 := by decide
  unfold In; rw [e1, e2] at h'; exact h'
def Ins (xs : List Int) : Prop := ∀ x ∈ xs, In x
structure AtCons {α : Type} (xs : List α) (i : Nat) (y : α) (rest : List α) : Prop where
  lt : i < xs.length
  g : decide ((i : Int) < (xs.length : Int)) = true
  z : decide ((0 : Int) ≤ (i : Int)) = true
  n : decide ((i : Int).toNat < xs.length) = true
  get : ∀ d, xs.getD (i : Int).toNat d = y
  w : IntKind.i64.wrap ((i : Int) + 1) = ((i + 1 : Nat) : Int)
  next : xs.drop (i + 1) = rest
  mem : y ∈ xs
  gt : ∀ d, xs.getD i d = y
  le : decide ((i : Int) ≤ (xs.length : Int)) = true
theorem at_cons {α : Type} {xs : List α} {i : Nat} {y : α} {rest : List α} (h : xs.drop i = y :: rest) (hm : xs.length ≤ maxLen) : AtCons xs i y rest := by
  rw [maxLen_eq] at hm
  have lt : i < xs.length := by
    rcases Nat.lt_or_ge i xs.length with h1 | h1
    · exact h1
    · rw [List.drop_eq_nil_of_le h1] at h; cases h
  have e := List.drop_eq_getElem_cons lt
  rw [e] at h
  have hy : xs[i] = y := by injection h
  refine ⟨lt, by simp; omega, by simp, by simp; omega, fun d => by simp [List.getD, lt, hy], by rw [wrap_id (by omega) (by omega)]; simp, by injection h, by rw [← hy]; exact List.getElem_mem lt, fun d => by simp [List.getD, lt, hy], by simp; omega⟩
structure AtNil {α : Type} (xs : List α) (i : Nat) : Prop where
  ge : xs.length ≤ i
  g : decide ((i : Int) < (xs.length : Int)) = false
theorem at_nil {α : Type} {xs : List α} {i : Nat} (h : xs.drop i = []) : AtNil xs i := by
  have ge : xs.length ≤ i := List.drop_eq_nil_iff.1 h
  exact ⟨ge, by simp; omega⟩
end Qq
namespace Qq
open Go Go.Vt Pt
set_option linter.unusedVariables false
set_option linter.unusedSimpArgs false
theorem l01In_ev (x lo hi : Int) : Ev (fun k => s_l01In k (x, lo, hi)) (decide (lo ≤ x) && decide (x ≤ hi)) := by
  refine Ev.step (fun k => s_l01In_eq k x lo hi) (Ev.ite (fun h => ?_) (fun h => ?_))
  · have h' : lo ≤ x := by simpa using h
    exact Ev.some (by simp [h'])
  · have h' : ¬ lo ≤ x := by simpa using h
    exact Ev.some (by simp [h'])
theorem szIntS_ev (xs : List Int) (n : Int) (hx : xs.length ≤ maxLen) (hn : 0 ≤ n) (hn2 : n ≤ 1048576) :
    Ev (fun k => w_szIntS k (xs, n)) (if n - (xs.length : Int) < 0 then -1 else n - xs.length) := by
  rw [maxLen_eq] at hx
  refine Ev.step (fun k => w_szIntS_eq k xs n) ?_
  rw [wrap_id (by omega) (by omega)]
  split
  · rename_i h; exact Ev.yes (by simpa using h) (Ev.pure _)
  · rename_i h; exact Ev.no (by simpa using h) (Ev.pure _)
theorem eqIntS_l4_ev (xs ys : List Int) (hx : xs.length ≤ maxLen) (hy : ys.length ≤ maxLen) : ∀ (r s : List Int) (i : Nat), xs.drop i = r → ys.drop i = s → s.length = r.length → Ev (fun k => w_eqIntS_l4 k xs ys (i : Int)) (r == s)
  | [], [], i, h1, h2, hl => by
    have a := at_nil h1
    refine Ev.step (fun k => w_eqIntS_l4_eq k xs ys i) ?_
    simp only [a.g, cond_false]
    exact Ev.pure _
  | x :: r, y :: s, i, h1, h2, hl => by
    have a := at_cons h1 hx
    have b := at_cons h2 hy
    refine Ev.step (fun k => w_eqIntS_l4_eq k xs ys i) ?_
    simp only [a.g, a.z, b.g, a.get, b.get, a.w, cond_true]
    have ih := eqIntS_l4_ev xs ys hx hy r s (i + 1) a.next b.next (by simpa using hl)
    refine Ev.ite (fun h => Ev.some ?_) (fun h => ih.to ?_)
    · have : ¬ x = y := by simpa using h
      simp [this]
    · have : x = y := by simpa using h
      simp [this]
  | [], _ :: _, _, _, _, hl => by simp at hl
  | _ :: _, [], _, _, _, hl => by simp at hl
theorem eqIntS_ev (xs ys : List Int) (hx : xs.length ≤ maxLen) (hy : ys.length ≤ maxLen) : Ev (fun k => w_eqIntS k (xs, ys)) (xs == ys) := by
  refine Ev.step (fun k => w_eqIntS_eq k xs ys) (Ev.ite (fun h => Ev.some ?_) (fun h => eqIntS_l4_ev xs ys hx hy xs ys 0 rfl rfl ?_))
  · have h' : ¬ xs.length = ys.length := by simp at h; omega
    have : ¬ xs = ys := fun e => h' (by rw [e])
    simp [this]
  · simp at h; omega
theorem set_get {α : Type} {n : Nat} {xs ys : List α} {i : Nat} {d : α} (hi : i < xs.length) (hl : ys.length = xs.length) (h : ys.take i = xs.take i) : (ys.set i (xs.getD i d)).take (i + 1) = xs.take (i + 1) := by
  have g1 : xs.getD i d = xs[i] := by simp [List.getD, hi]
  rw [g1, List.take_succ_eq_append_getElem (by simp; omega), List.take_succ_eq_append_getElem hi, List.take_set_of_le (by omega), h]
  simp
theorem toIntS_l3_ev (xs : List Int) (hm : xs.length ≤ maxLen) : ∀ (r : List Int) (i : Nat) (ys : List Int), xs.drop i = r → ys.length = xs.length → ys.take i = xs.take i → Ev (fun k => w_toIntS_l3 k xs (i : Int) ys) xs
  | [], i, ys, h, hl, ht => by
    have a := at_nil h
    refine Ev.step (fun k => w_toIntS_l3_eq k xs i ys) ?_
    simp only [a.g, cond_false]
    have e : ys = xs := by
      have := a.ge
      rwa [List.take_of_length_le (by omega), List.take_of_length_le (by omega)] at ht
    exact Ev.some e
  | x :: r, i, ys, h, hl, ht => by
    have a := at_cons h hm
    have b1 : decide ((i : Int) < (ys.length : Int)) = true := by rw [hl]; exact a.g
    have b2 : decide ((i : Int).toNat < ys.length) = true := by rw [hl]; exact a.n
    refine Ev.step (fun k => w_toIntS_l3_eq k xs i ys) ?_
    simp only [a.g, a.z, b1, b2, a.w, cond_true]
    have hs := set_get (n := 0) (d := 0) a.lt hl ht
    exact toIntS_l3_ev xs hm r (i + 1) _ a.next (by simp [hl]) (by simpa using hs)
theorem toIntS_ev (xs : List Int) (hm : xs.length ≤ 1048576) : Ev (fun k => w_toIntS k xs) xs := by
  refine Ev.step (fun k => w_toIntS_eq k xs) (Ev.yes (by simp) (Ev.yes (by rw [rowMax_eq]; simp; omega) (Ev.yes (by simp) ?_)))
  exact toIntS_l3_ev xs (by rw [maxLen_eq]; omega) xs 0 _ rfl (by simp) (by simp)
end Qq
namespace Qq
open Go Go.Vt Pt
set_option linter.unusedVariables false
set_option linter.unusedSimpArgs false
def top : Int := 4611686018427387904
theorem top_eq : top = 4611686018427387904 := rfl
def upFrom (k : Int) : Nat → List Int
  | 0 => []
  | n + 1 => k :: upFrom (k + 1) n
theorem upFrom_len : ∀ (k : Int) (n : Nat), (upFrom k n).length = n
  | _, 0 => rfl
  | k, n + 1 => by show (upFrom (k + 1) n).length + 1 = n + 1; rw [upFrom_len]
theorem markIntS_l2_ev (xs : List Int) (hm : xs.length ≤ maxLen) : ∀ (r : List Int) (i : Nat) (k0 : Int) (done : List Int), xs.drop i = r → done.length = i → 0 ≤ k0 → k0 ≤ top - r.length →
    Ev (fun k => w_markIntS_l2 k k0 (i : Int) (done ++ r)) (k0 + r.length, done ++ upFrom k0 r.length) := by
  intro r
  induction r with
  | nil =>
    intro i k0 done h hl h0 h1
    have a := at_nil h
    refine Ev.step (fun k => w_markIntS_l2_eq k k0 i _) ?_
    have : decide ((i : Int) < ((done ++ ([] : List Int)).length : Int)) = false := by simp; omega
    refine Ev.no this (Ev.some ?_)
    simp [upFrom]
  | cons x r ih =>
    intro i k0 done h hl h0 h1
    have a := at_cons h hm
    have L : (done ++ x :: r).length = i + (r.length + 1) := by simp [hl]
    refine Ev.step (fun k => w_markIntS_l2_eq k k0 i _) ?_
    refine Ev.yes (by rw [L]; simp; omega) (Ev.yes (by simp) (Ev.yes (by rw [L]; simp; omega) (Ev.yes (by rw [L]; simp) ?_)))
    rw [List.length_cons] at h1
    rw [wrap_id (x := k0 + 1) (by omega) (by rw [top_eq] at h1; omega), wrap_id (x := (i : Int) + 1) (by omega) (by have := a.lt; rw [maxLen_eq] at hm; omega)]
    have e : (done ++ x :: r).set (i : Int).toNat k0 = (done ++ [k0]) ++ r := by
      rw [Int.toNat_natCast, ← hl, List.set_append_right _ _ (Nat.le_refl _)]
      simp
    rw [e]
    have := ih (i + 1) (k0 + 1) (done ++ [k0]) a.next (by simp [hl]) (by omega) (by omega)
    have e2 : done ++ upFrom k0 (x :: r).length = (done ++ [k0]) ++ upFrom (k0 + 1) r.length := by simp [upFrom]
    have e3 : k0 + ((x :: r).length : Int) = k0 + 1 + (r.length : Int) := by simp; omega
    rw [e2, e3]
    exact_mod_cast this
theorem markIntS_ev (xs : List Int) (k0 : Int) (hm : xs.length ≤ maxLen) (h0 : 0 ≤ k0) (h1 : k0 ≤ top - xs.length) :
    Ev (fun k => w_markIntS k (xs, k0)) (k0 + xs.length, upFrom k0 xs.length) :=
  Ev.step (fun k => w_markIntS_eq k xs k0) (markIntS_l2_ev xs hm xs 0 k0 [] rfl rfl h0 h1)
theorem heldIntS_l2_ev (ys : List Int) (hm : ys.length ≤ maxLen) : ∀ (n : Nat) (i : Nat) (k0 : Int), ys.drop i = upFrom k0 n → 0 ≤ k0 → k0 ≤ top - n →
    Ev (fun k => w_heldIntS_l2 k ys k0 (i : Int)) (k0 + n) := by
  intro n
  induction n with
  | zero =>
    intro i k0 h h0 h1
    have a := at_nil h
    refine Ev.step (fun k => w_heldIntS_l2_eq k ys k0 i) ?_
    simp only [a.g, cond_false]
    exact Ev.some (by simp)
  | succ n ih =>
    intro i k0 h h0 h1
    have a := at_cons h hm
    refine Ev.step (fun k => w_heldIntS_l2_eq k ys k0 i) ?_
    simp only [a.g, a.z, a.get, a.w, cond_true]
    refine Ev.no (by simp) ?_
    rw [wrap_id (x := k0 + 1) (by omega) (by rw [top_eq] at h1; omega)]
    have := ih (i + 1) (k0 + 1) a.next (by omega) (by omega)
    have e3 : k0 + ((n + 1 : Nat) : Int) = k0 + 1 + (n : Int) := by omega
    rw [e3]
    exact this
theorem heldIntS_ev (n : Nat) (k0 : Int) (hm : n ≤ maxLen) (h0 : 0 ≤ k0) (h1 : k0 ≤ top - n) :
    Ev (fun k => w_heldIntS k (upFrom k0 n, k0)) (k0 + n) :=
  Ev.step (fun k => w_heldIntS_eq k _ k0) (heldIntS_l2_ev _ (by rw [upFrom_len]; exact hm) n 0 k0 rfl h0 h1)
end Qq
namespace Qq
open Go Go.Vt Pt
set_option linter.unusedVariables false
set_option linter.unusedSimpArgs false
def moveOk (n : Int) (m : Int × Int) : Bool :=
  decide (1 ≤ n) && (decide (n ≤ 12) && (decide (0 ≤ m.2) &&
    (if m.1 = 1 then decide (m.2 ≤ n) else if m.1 = 2 then decide (m.2 ≤ n) else if m.1 = 3 then decide (m.2 ≤ n) else
     if m.1 = 4 then decide (m.2 ≤ 1) else if m.1 = 5 then decide (m.2 ≤ 1) else if m.1 = 7 then decide (m.2 ≤ 1) else
     if m.1 = 6 then m.2 == 0 else if m.1 = 8 then decide (m.2 < n) else if m.1 = 9 then decide (m.2 < n) else false)))
theorem i_MoveOk_ev (n : Int) (m : Int × Int) : Ev (fun k => i_MoveOk k (n, m)) (moveOk n m) := by
  obtain ⟨a, b⟩ := m
  refine Ev.step (fun k => i_MoveOk_eq k n (a, b)) ?_
  unfold moveOk
  refine Ev.ite (fun h => Ev.some ?_) (fun h => ?_)
  · have : ¬ 1 ≤ n := by simpa using h
    simp [this]
  have h1 : 1 ≤ n := by simpa using h
  refine Ev.ite (fun h => Ev.some ?_) (fun h => ?_)
  · have : ¬ n ≤ 12 := by simpa using h
    simp [this]
  have h2 : n ≤ 12 := by simpa using h
  refine Ev.ite (fun h => Ev.some ?_) (fun h => ?_)
  · have : ¬ 0 ≤ b := by simpa using h
    simp [this]
  have h3 : 0 ≤ b := by simpa using h
  clear h
  simp only [h1, h2, h3, decide_true, Bool.true_and]
  iterate 9 (refine Ev.ite (fun h => ?_) (fun h => ?_); · exact Ev.some (by simp at *; simp [*]))
  exact Ev.some (by simp at *; simp [*])
theorem s_MoveOk_ev (n : Int) (m : Int × Int) : Ev (fun k => s_MoveOk k (n, m)) (moveOk n m) := by
  obtain ⟨a, b⟩ := m
  refine Ev.step (fun k => s_MoveOk_eq k n (a, b)) (Ev.bind (l01In_ev _ _ _) ?_)
  unfold moveOk
  refine Ev.ite (fun h => ?_) (fun h => ?_)
  · exact Ev.some (by rw [Bool.eq_iff_iff]; simp at *; omega)
  have hn : 1 ≤ n ∧ n ≤ 12 := by simpa using h
  iterate 6 (refine Ev.ite (fun h => ?_) (fun h => ?_); · exact Ev.bind (l01In_ev _ _ _) (Ev.some (by rw [Bool.eq_iff_iff]; simp at *; try simp [*]; try (intros; omega))))
  refine Ev.ite (fun h => ?_) (fun h => ?_)
  · exact Ev.some (by rw [Bool.eq_iff_iff]; simp at *; try simp [*]; try (intros; omega))
  rw [wrap_id (by omega) (by omega)]
  iterate 2 (refine Ev.ite (fun h => ?_) (fun h => ?_); · exact Ev.bind (l01In_ev _ _ _) (Ev.some (by rw [Bool.eq_iff_iff]; simp at *; try simp [*]; try (intros; omega))))
  exact Ev.some (by rw [Bool.eq_iff_iff]; simp at *; try simp [*]; try (intros; omega))
def stepOk (n : Int) (s : Int × (Int × Int) × Int) : Bool :=
  decide (1 ≤ n) && (decide (n ≤ 12) &&
    (if s.1 = 1 then moveOk n s.2.1 && s.2.2 == 0 else
     if s.1 = 2 then s.2.1.1 == 0 && (s.2.1.2 == 0 && (decide (0 ≤ s.2.2) && (decide (s.2.2 ≤ 4) && ((!(s.2.2 == 3) || decide (2 ≤ n)) && (!(s.2.2 == 2) || decide (n ≤ 7)))))) else
     if s.1 = 3 then s.2.1.1 == 0 && (s.2.1.2 == 0 && (decide (0 ≤ s.2.2) && decide (s.2.2 < n))) else false))
theorem i_StepOk_ev (n : Int) (s : Int × (Int × Int) × Int) : Ev (fun k => i_StepOk k (n, s)) (stepOk n s) := by
  obtain ⟨t, ⟨a, b⟩, c⟩ := s
  refine Ev.step (fun k => i_StepOk_eq k n (t, (a, b), c)) ?_
  unfold stepOk
  refine Ev.ite (fun h => Ev.some ?_) (fun h => ?_)
  · have : ¬ 1 ≤ n := by simpa using h
    simp [this]
  have h1 : 1 ≤ n := by simpa using h
  refine Ev.ite (fun h => Ev.some ?_) (fun h => ?_)
  · have : ¬ n ≤ 12 := by simpa using h
    simp [this]
  have h2 : n ≤ 12 := by simpa using h
  clear h
  simp only [h1, h2, decide_true, Bool.true_and]
  refine Ev.ite (fun h => ?_) (fun h => ?_)
  · have e : t = 1 := by simpa using h
    subst e
    exact Ev.bind (i_MoveOk_ev n (a, b)) (Ev.ite (fun h => Ev.some (by simp at *; simp [*])) (fun h => Ev.some (by simp at *; simp [*])))
  have t1 : ¬ t = 1 := by simpa using h
  simp only [t1, if_false]
  repeat (first | (refine Ev.ite (fun h => ?_) (fun h => ?_)) | focus (refine Ev.some ?_; simp_all; done) | focus (refine Ev.some ?_; simp_all; omega) | focus (refine Ev.some ?_; rw [Bool.eq_iff_iff]; simp at *; omega))
theorem l16Choice_ev (n c : Int) : Ev (fun k => s_l16Choice k (n, c)) (decide (0 ≤ c) && (decide (c ≤ 4) && ((!(c == 3) || decide (2 ≤ n)) && (!(c == 2) || decide (n ≤ 7))))) := by
  refine Ev.step (fun k => s_l16Choice_eq k n c) (Ev.bind (l01In_ev _ _ _) ?_)
  repeat (first | (refine Ev.ite (fun h => ?_) (fun h => ?_)) | focus (refine Ev.some ?_; simp_all; done) | focus (refine Ev.some ?_; simp_all; omega) | focus (refine Ev.some ?_; rw [Bool.eq_iff_iff]; simp at *; omega))
theorem s_StepOk_ev (n : Int) (s : Int × (Int × Int) × Int) : Ev (fun k => s_StepOk k (n, s)) (stepOk n s) := by
  obtain ⟨t, ⟨a, b⟩, c⟩ := s
  refine Ev.step (fun k => s_StepOk_eq k n (t, (a, b), c)) (Ev.bind (l01In_ev _ _ _) ?_)
  unfold stepOk
  refine Ev.ite (fun h => Ev.some ?_) (fun h => ?_)
  · rcases Int.lt_or_le n 1 with h1 | h1
    · have : ¬ 1 ≤ n := by omega
      simp [this]
    · have : ¬ n ≤ 12 := by simp at h; omega
      simp [this]
  have hn : 1 ≤ n ∧ n ≤ 12 := by simpa using h
  clear h
  simp only [hn.1, hn.2, decide_true, Bool.true_and]
  refine Ev.ite (fun h => ?_) (fun h => ?_)
  · have e : t = 1 := by simpa using h
    subst e
    exact Ev.bind (s_MoveOk_ev n (a, b)) (Ev.ite (fun h => Ev.some (by simp at *; simp [*])) (fun h => Ev.some (by simp at *; simp [*])))
  have t1 : ¬ t = 1 := by simpa using h
  simp only [t1, if_false]
  clear h
  rw [wrap_id (by omega) (by omega)]
  refine Ev.ite (fun h => ?_) (fun h => ?_)
  · have e : t = 2 := by simpa using h
    subst e
    refine Ev.ite (fun h => ?_) (fun h => Ev.some ?_)
    · exact Ev.bind (l16Choice_ev n c) (Ev.some (by simp at *; simp [*]))
    · cases ha : (a == 0) <;> cases hb : (b == 0) <;> simp_all
  have t2 : ¬ t = 2 := by simpa using h
  simp only [t2, if_false]
  clear h
  refine Ev.ite (fun h => ?_) (fun h => ?_)
  · have e : t = 3 := by simpa using h
    subst e
    refine Ev.ite (fun h => ?_) (fun h => Ev.some ?_)
    · refine Ev.bind (l01In_ev _ _ _) (Ev.some ?_)
      have e2 : decide (c ≤ n - 1) = decide (c < n) := by rw [Bool.eq_iff_iff]; simp; omega
      simp at h
      simp [h, e2]
    · cases ha : (a == 0) <;> cases hb : (b == 0) <;> simp_all
  · have t3 : ¬ t = 3 := by simpa using h
    exact Ev.some (by simp [t3])
theorem toMove_ev (m : Int × Int) : Ev (fun k => w_toMove k m) m := Ev.step (fun k => w_toMove_eq k m) (Ev.pure _)
theorem toStep_ev (s : Int × (Int × Int) × Int) : Ev (fun k => w_toStep k s) (s.1, (s.2.1.1, (s.2.1.2, s.2.2))) := Ev.step (fun k => w_toStep_eq k s) (Ev.bind (toMove_ev _) (Ev.pure _))
end Qq
namespace Qq
open Go Go.Vt Pt
set_option linter.unusedVariables false
set_option linter.unusedSimpArgs false
abbrev Step : Type := Int × (Int × Int) × Int
abbrev Trick : Type := List Int × List Step × Int × Int × Int
theorem szStepS_ev (xs : List Step) (n : Int) (hx : xs.length ≤ maxLen) (hn : 0 ≤ n) (hn2 : n ≤ 1048576) :
    Ev (fun k => w_szStepS k (xs, n)) (if n - (xs.length : Int) < 0 then -1 else n - xs.length) := by
  rw [maxLen_eq] at hx
  refine Ev.step (fun k => w_szStepS_eq k xs n) ?_
  rw [wrap_id (by omega) (by omega)]
  split
  · rename_i h; exact Ev.yes (by simpa using h) (Ev.pure _)
  · rename_i h; exact Ev.no (by simpa using h) (Ev.pure _)
/-- What is left behind a trick; below 0: it's too great. -/
def szTrick (t : Trick) (n : Int) : Int := if n - (t.1.length : Int) < 0 then -1 else if n - (t.1.length : Int) - (t.2.1.length : Int) < 0 then -1 else n - (t.1.length : Int) - (t.2.1.length : Int)
theorem szTrick_ev (t : Trick) (n : Int) (h1 : t.1.length ≤ maxLen) (h2 : t.2.1.length ≤ maxLen) (hn : 0 ≤ n) (hn2 : n ≤ 1048576) : Ev (fun k => w_szTrick k (t, n)) (szTrick t n) := by
  refine Ev.step (fun k => w_szTrick_eq k t n) (Ev.bind (szIntS_ev t.1 n h1 hn hn2) ?_)
  unfold szTrick
  split
  · exact Ev.yes rfl (Ev.pure _)
  · rename_i h
    refine Ev.no (by simpa using h) (Ev.bind (szStepS_ev t.2.1 _ h2 (by omega) (by omega)) ?_)
    split
    · exact Ev.yes rfl (Ev.pure _)
    · rename_i h'; exact Ev.no (by simpa using h') (Ev.pure _)
theorem szTrick_fit {t : Trick} {n : Int} (hn : n ≤ 1048576) (h : ¬ szTrick t n < 0) : t.1.length ≤ 1048576 ∧ t.2.1.length ≤ 1048576 ∧ 0 ≤ szTrick t n ∧ szTrick t n ≤ n := by
  unfold szTrick at *
  split at h <;> rename_i h1
  · exact absurd (by decide) h
  · split at h <;> rename_i h2
    · exact absurd (by decide) h
    · rw [if_neg h1, if_neg h2]; omega
theorem toStepS_l3_ev (xs : List Step) (hm : xs.length ≤ maxLen) : ∀ (r : List Step) (i : Nat) (ys : List Step), xs.drop i = r → ys.length = xs.length → ys.take i = xs.take i → Ev (fun k => w_toStepS_l3 k xs (i : Int) ys) xs
  | [], i, ys, h, hl, ht => by
    have a := at_nil h
    refine Ev.step (fun k => w_toStepS_l3_eq k xs i ys) ?_
    simp only [a.g, cond_false]
    have e : ys = xs := by
      have := a.ge
      rwa [List.take_of_length_le (by omega), List.take_of_length_le (by omega)] at ht
    exact Ev.some e
  | x :: r, i, ys, h, hl, ht => by
    have a := at_cons h hm
    have b1 : decide ((i : Int) < (ys.length : Int)) = true := by rw [hl]; exact a.g
    have b2 : decide ((i : Int).toNat < ys.length) = true := by rw [hl]; exact a.n
    refine Ev.step (fun k => w_toStepS_l3_eq k xs i ys) ?_
    simp only [a.g, a.z, cond_true]
    refine Ev.bind (toStep_ev _) ?_
    simp only [b1, b2, a.w, a.get, cond_true]
    have hs := set_get (n := 0) (d := (0, ((0, 0), 0))) a.lt hl ht
    have g := a.get (0, ((0, 0), 0))
    rw [Int.toNat_natCast] at g
    rw [g] at hs
    exact toStepS_l3_ev xs hm r (i + 1) _ a.next (by simp [hl]) (by simpa using hs)
theorem toStepS_ev (xs : List Step) (hm : xs.length ≤ 1048576) : Ev (fun k => w_toStepS k xs) xs := by
  refine Ev.step (fun k => w_toStepS_eq k xs) (Ev.yes (by simp) (Ev.yes (by rw [rowMax_eq]; simp; omega) (Ev.yes (by simp) ?_)))
  exact toStepS_l3_ev xs (by rw [maxLen_eq]; omega) xs 0 _ rfl (by simp) (by simp)
theorem toTrick_ev (t : Trick) (h1 : t.1.length ≤ 1048576) (h2 : t.2.1.length ≤ 1048576) : Ev (fun k => w_toTrick k t) t :=
  Ev.step (fun k => w_toTrick_eq k t) (Ev.bind (toIntS_ev _ h1) (Ev.bind (toStepS_ev _ h2) (Ev.pure _)))
theorem eqStep_ev (s t : Step) : Ev (fun k => w_eqStep k (s, t)) (s == t) := by
  obtain ⟨a, ⟨b, c⟩, d⟩ := s
  obtain ⟨a', ⟨b', c'⟩, d'⟩ := t
  refine Ev.step (fun k => w_eqStep_eq k _ _) ?_
  have hm : Ev (fun k => w_eqMove k ((b, c), (b', c'))) ((b, c) == (b', c')) := by
    refine Ev.step (fun k => w_eqMove_eq k _ _) ?_
    repeat (first | (refine Ev.ite (fun h => ?_) (fun h => ?_)) | focus (refine Ev.some ?_; simp_all; done))
  refine Ev.ite (fun h => Ev.some ?_) (fun h => Ev.bind hm ?_)
  · have : ¬ a = a' := by simpa using h
    simp [this]
  · repeat (first | (refine Ev.ite (fun h => ?_) (fun h => ?_)) | focus (refine Ev.some ?_; simp_all; done))
theorem eqStepS_l4_ev (xs ys : List Step) (hx : xs.length ≤ maxLen) (hy : ys.length ≤ maxLen) : ∀ (r s : List Step) (i : Nat), xs.drop i = r → ys.drop i = s → s.length = r.length → Ev (fun k => w_eqStepS_l4 k xs ys (i : Int)) (r == s)
  | [], [], i, h1, h2, hl => by
    have a := at_nil h1
    refine Ev.step (fun k => w_eqStepS_l4_eq k xs ys i) ?_
    simp only [a.g, cond_false]
    exact Ev.pure _
  | x :: r, y :: s, i, h1, h2, hl => by
    have a := at_cons h1 hx
    have b := at_cons h2 hy
    refine Ev.step (fun k => w_eqStepS_l4_eq k xs ys i) ?_
    simp only [a.g, a.z, b.g, a.get, b.get, a.w, cond_true]
    have ih := eqStepS_l4_ev xs ys hx hy r s (i + 1) a.next b.next (by simpa using hl)
    refine Ev.bind (eqStep_ev x y) (Ev.ite (fun h => Ev.some ?_) (fun h => ih.to ?_))
    · have : ¬ x = y := by simpa using h
      simp [this]
    · have : x = y := by simpa using h
      simp [this]
  | [], _ :: _, _, _, _, hl => by simp at hl
  | _ :: _, [], _, _, _, hl => by simp at hl
theorem eqStepS_ev (xs ys : List Step) (hx : xs.length ≤ maxLen) (hy : ys.length ≤ maxLen) : Ev (fun k => w_eqStepS k (xs, ys)) (xs == ys) := by
  refine Ev.step (fun k => w_eqStepS_eq k xs ys) (Ev.ite (fun h => Ev.some ?_) (fun h => eqStepS_l4_ev xs ys hx hy xs ys 0 rfl rfl ?_))
  · have h' : ¬ xs.length = ys.length := by simp at h; omega
    have : ¬ xs = ys := fun e => h' (by rw [e])
    simp [this]
  · simp at h; omega
theorem eqTrick_ev (t u : Trick) (h1 : t.1.length ≤ maxLen) (h2 : t.2.1.length ≤ maxLen) (h3 : u.1.length ≤ maxLen) (h4 : u.2.1.length ≤ maxLen) : Ev (fun k => w_eqTrick k (t, u)) (t == u) := by
  obtain ⟨a, b, c, d, e⟩ := t
  obtain ⟨a', b', c', d', e'⟩ := u
  refine Ev.step (fun k => w_eqTrick_eq k _ _) (Ev.bind (eqIntS_ev _ _ h1 h3) ?_)
  refine Ev.ite (fun h => Ev.some ?_) (fun h => Ev.bind (eqStepS_ev _ _ h2 h4) ?_)
  · have : ¬ a = a' := by simpa using h
    simp [this]
  · have ea : a = a' := by simpa using h
    subst ea
    refine Ev.ite (fun h => Ev.some ?_) (fun h => ?_)
    · have : ¬ b = b' := by simpa using h
      simp [this]
    · have eb : b = b' := by simpa using h
      subst eb
      repeat (first | (refine Ev.ite (fun h => ?_) (fun h => ?_)) | focus (refine Ev.some ?_; simp_all; done))
end Qq
namespace Qq
open Go Go.Vt Pt
set_option linter.unusedVariables false
set_option linter.unusedSimpArgs false
/-- n steps of numbers from k on. -/
def stepsFrom (k : Int) : Nat → List Step
  | 0 => []
  | n + 1 => (k, (k + 1, k + 2), k + 3) :: stepsFrom (k + 4) n
theorem stepsFrom_len : ∀ (k : Int) (n : Nat), (stepsFrom k n).length = n
  | _, 0 => rfl
  | k, n + 1 => by show (stepsFrom (k + 4) n).length + 1 = n + 1; rw [stepsFrom_len]
theorem getD_set_self {α : Type} {xs : List α} {i : Nat} (h : i < xs.length) (a d : α) : (xs.set i a).getD i d = a := by
  simp [List.getD, h]
theorem wrap4 {k : Int} (h0 : 0 ≤ k) (h1 : k + 4 ≤ top) : IntKind.i64.wrap (k + 1) = k + 1 ∧ IntKind.i64.wrap (k + 1 + 1) = k + 2 ∧ IntKind.i64.wrap (k + 2 + 1) = k + 3 ∧ IntKind.i64.wrap (k + 3 + 1) = k + 4 := by
  rw [top_eq] at h1
  refine ⟨wrap_id (by omega) (by omega), ?_, ?_, ?_⟩ <;> (rw [wrap_id (by omega) (by omega)]; omega)
theorem markStepS_l2_ev (xs : List Step) (hm : xs.length ≤ maxLen) : ∀ (r : List Step) (i : Nat) (k0 : Int) (done : List Step), xs.drop i = r → done.length = i → 0 ≤ k0 → k0 + 4 * r.length ≤ top →
    Ev (fun k => w_markStepS_l2 k k0 (i : Int) (done ++ r)) (k0 + 4 * r.length, done ++ stepsFrom k0 r.length) := by
  intro r
  induction r with
  | nil =>
    intro i k0 done h hl h0 h1
    refine Ev.step (fun k => w_markStepS_l2_eq k k0 i _) ?_
    have : decide ((i : Int) < ((done ++ ([] : List Step)).length : Int)) = false := by simp; omega
    refine Ev.no this (Ev.some ?_)
    simp [stepsFrom]
  | cons x r ih =>
    intro i k0 done h hl h0 h1
    have a := at_cons h hm
    rw [List.length_cons] at h1
    obtain ⟨w1, w2, w3, w4⟩ := wrap4 (k := k0) h0 (by omega)
    have L : i < (done ++ x :: r).length := by simp; omega
    have g1 : decide ((i : Int) < ((done ++ x :: r).length : Int)) = true := decide_eq_true (by omega)
    have g2 : decide (i < (done ++ x :: r).length) = true := decide_eq_true (by omega)
    refine Ev.step (fun k => w_markStepS_l2_eq k k0 i _) ?_
    simp only [Int.toNat_natCast, List.length_set, List.set_set, getD_set_self L, w1, w2, w3, w4, a.z, a.w, g1, g2, cond_true]
    have e : (done ++ x :: r).set i (k0, (k0 + 1, k0 + 2), k0 + 3) = (done ++ [(k0, (k0 + 1, k0 + 2), k0 + 3)]) ++ r := by
      rw [← hl, List.set_append_right _ _ (Nat.le_refl _)]
      simp
    have := ih (i + 1) (k0 + 4) (done ++ [(k0, (k0 + 1, k0 + 2), k0 + 3)]) a.next (by simp [hl]) (by omega) (by omega)
    rw [← e] at this
    refine this.to ?_
    simp [stepsFrom]
    omega
theorem markStepS_ev (xs : List Step) (k0 : Int) (hm : xs.length ≤ maxLen) (h0 : 0 ≤ k0) (h1 : k0 + 4 * xs.length ≤ top) :
    Ev (fun k => w_markStepS k (xs, k0)) (k0 + 4 * xs.length, stepsFrom k0 xs.length) :=
  Ev.step (fun k => w_markStepS_eq k xs k0) (markStepS_l2_ev xs hm xs 0 k0 [] rfl rfl h0 h1)
theorem heldStepS_l2_ev (ys : List Step) (hm : ys.length ≤ maxLen) : ∀ (n : Nat) (i : Nat) (k0 : Int), ys.drop i = stepsFrom k0 n → 0 ≤ k0 → k0 + 4 * n ≤ top →
    Ev (fun k => w_heldStepS_l2 k ys k0 (i : Int)) (k0 + 4 * n) := by
  intro n
  induction n with
  | zero =>
    intro i k0 h h0 h1
    have a := at_nil h
    refine Ev.step (fun k => w_heldStepS_l2_eq k ys k0 i) ?_
    simp only [a.g, cond_false]
    exact Ev.some (by simp)
  | succ n ih =>
    intro i k0 h h0 h1
    have a := at_cons h hm
    obtain ⟨w1, w2, w3, w4⟩ := wrap4 (k := k0) h0 (by omega)
    refine Ev.step (fun k => w_heldStepS_l2_eq k ys k0 i) ?_
    simp only [a.g, a.z, a.get, a.w, cond_true, w1, w2, w3, w4]
    refine Ev.no (by simp) (Ev.no (by simp) (Ev.no (by simp) (Ev.no (by simp) ?_)))
    have := ih (i + 1) (k0 + 4) a.next (by omega) (by omega)
    have e3 : k0 + 4 * ((n + 1 : Nat) : Int) = k0 + 4 + 4 * (n : Int) := by omega
    rw [e3]
    exact this
theorem heldStepS_ev (n : Nat) (k0 : Int) (hm : n ≤ maxLen) (h0 : 0 ≤ k0) (h1 : k0 + 4 * n ≤ top) :
    Ev (fun k => w_heldStepS k (stepsFrom k0 n, k0)) (k0 + 4 * n) :=
  Ev.step (fun k => w_heldStepS_eq k _ k0) (heldStepS_l2_ev _ (by rw [stepsFrom_len]; exact hm) n 0 k0 rfl h0 h1)
theorem markTrick_ev (t : Trick) (k0 : Int) (h1 : t.1.length ≤ 1048576) (h2 : t.2.1.length ≤ 1048576) (h0 : 0 ≤ k0) (hk : k0 ≤ 1099511627776) :
    Ev (fun k => w_markTrick k (t, k0)) (k0 + t.1.length + 4 * t.2.1.length, upFrom k0 t.1.length, stepsFrom (k0 + t.1.length) t.2.1.length) := by
  have te := top_eq
  refine Ev.step (fun k => w_markTrick_eq k t k0) (Ev.bind (markIntS_ev t.1 k0 (by rw [maxLen_eq]; omega) h0 (by omega)) ?_)
  exact Ev.bind (markStepS_ev t.2.1 (k0 + t.1.length) (by rw [maxLen_eq]; omega) (by omega) (by omega)) (Ev.pure _)
theorem heldTrick_ev (n m : Nat) (k0 c a b : Int) (h1 : n ≤ 1048576) (h2 : m ≤ 1048576) (h0 : 0 ≤ k0) (hk : k0 ≤ 1099511627776) :
    Ev (fun k => w_heldTrick k ((upFrom k0 n, stepsFrom (k0 + n) m, c, a, b), k0)) (k0 + n + 4 * m) := by
  have te := top_eq
  refine Ev.step (fun k => w_heldTrick_eq k _ k0) (Ev.bind (heldIntS_ev n k0 (by rw [maxLen_eq]; omega) h0 (by omega)) (Ev.no (by simp; omega) ?_))
  exact Ev.bind (heldStepS_ev m (k0 + n) (by rw [maxLen_eq]; omega) (by omega) (by omega)) (Ev.no (by simp; omega) (Ev.pure _))
end Qq
namespace Qq
open Go Go.Vt Pt
set_option linter.unusedVariables false
set_option linter.unusedSimpArgs false
theorem l02Has_l2_ev (x : Int) (xs : List Int) (hm : xs.length ≤ maxLen) : ∀ (r : List Int) (i : Nat), xs.drop i = r → Ev (fun k => s_l02Has_l2 k x xs (xs.length : Int) (i : Int)) (r.contains x)
  | [], i, h => by
    have a := at_nil h
    refine Ev.step (fun k => s_l02Has_l2_eq k x xs _ i) ?_
    simp only [a.g, cond_false]
    exact Ev.pure _
  | y :: r, i, h => by
    have a := at_cons h hm
    refine Ev.step (fun k => s_l02Has_l2_eq k x xs _ i) ?_
    simp only [a.g, a.z, a.get, a.w, cond_true]
    refine Ev.ite (fun h => Ev.some ?_) (fun h => (l02Has_l2_ev x xs hm r (i + 1) a.next).to ?_)
    · have : y = x := by simpa using h
      simp [this]
    · have : ¬ y = x := by simpa using h
      have h2 : ¬ x = y := fun e => this e.symm
      simp [h2]
theorem l02Has_ev (xs : List Int) (x : Int) (hm : xs.length ≤ maxLen) : Ev (fun k => s_l02Has k (xs, x)) (xs.contains x) :=
  Ev.step (fun k => s_l02Has_eq k xs x) (l02Has_l2_ev x xs hm xs 0 rfl)
end Qq
namespace Qq
open Go Go.Vt Pt
set_option linter.unusedVariables false
set_option linter.unusedSimpArgs false
theorem nodup_len : ∀ (n : Nat) (l : List Int), l.Nodup → (∀ x ∈ l, 0 ≤ x ∧ x < (n : Int)) → l.length ≤ n
  | 0, l, _, h => by
    cases l with
    | nil => simp
    | cons x l => have := h x (by simp); omega
  | n + 1, l, hd, h => by
    have h1 := nodup_len n (l.erase (n : Int)) (hd.erase _) (fun x hx => by
      have hx' := (hd.mem_erase_iff).1 hx
      have := h x hx'.2
      have : x ≠ (n : Int) := hx'.1
      omega)
    have h2 := List.length_erase (a := (n : Int)) (l := l)
    split at h2 <;> omega
end Qq
namespace Qq
open Go Go.Vt Pt
set_option linter.unusedVariables false
set_option linter.unusedSimpArgs false
def card (x : Int) : Int := if 0 ≤ x ∧ x ≤ 11 then x else if -12 ≤ x ∧ x ≤ -1 then -1 - x else -1
theorem card_lt (x : Int) : -1 ≤ card x ∧ card x ≤ 11 := by unfold card; split; · omega
                                                            split <;> omega
theorem s_CardOf_ev (x : Int) : Ev (fun k => s_CardOf k x) (card x) := by
  refine Ev.step (fun k => s_CardOf_eq k x) (Ev.bind (l01In_ev _ _ _) (Ev.ite (fun h => Ev.some ?_) (fun h => Ev.bind (l01In_ev _ _ _) (Ev.ite (fun h' => ?_) (fun h' => Ev.some ?_)))))
  · have : 0 ≤ x ∧ x ≤ 11 := by simpa using h
    simp [card, this]
  · have h1 : ¬ (0 ≤ x ∧ x ≤ 11) := by simp at h; omega
    have h2 : -12 ≤ x ∧ x ≤ -1 := by simpa using h'
    rw [wrap_id (by omega) (by omega)]
    exact Ev.some (by unfold card; rw [if_neg h1, if_pos h2])
  · have h1 : ¬ (0 ≤ x ∧ x ≤ 11) := by simp at h; omega
    have h2 : ¬ (-12 ≤ x ∧ x ≤ -1) := by simp at h'; omega
    unfold card; rw [if_neg h1, if_neg h2]
theorem i_CardOf_ev (x : Int) (hx : In x) : Ev (fun k => i_CardOf k x) (card x) := by
  obtain ⟨a, b⟩ := hx
  refine Ev.step (fun k => i_CardOf_eq k x) ?_
  refine Ev.ite (fun h => ?_) (fun h => ?_)
  · have h1 : x < 0 := by simpa using h
    rw [wrap_id (by omega) (by omega)]
    have h2 : ¬ (0 ≤ x ∧ x ≤ 11) := by omega
    refine Ev.ite (fun h' => Ev.some ?_) (fun h' => Ev.some ?_)
    · have h3 : ¬ (-12 ≤ x ∧ x ≤ -1) := by simp at h'; omega
      unfold card; rw [if_neg h2, if_neg h3]
    · have h3 : (-12 ≤ x ∧ x ≤ -1) := by simp at h'; omega
      unfold card; rw [if_neg h2, if_pos h3]
  · have h1 : ¬ x < 0 := by simpa using h
    have h3 : ¬ (-12 ≤ x ∧ x ≤ -1) := by omega
    refine Ev.ite (fun h' => Ev.some ?_) (fun h' => Ev.some ?_)
    · have h2 : ¬ (0 ≤ x ∧ x ≤ 11) := by simp at h'; omega
      unfold card; rw [if_neg h2, if_neg h3]
    · have h2 : (0 ≤ x ∧ x ≤ 11) := by simp at h'; omega
      unfold card; rw [if_pos h2]
def pk : List Int → List Int → Bool
  | _, [] => true
  | done, x :: r => decide (0 ≤ card x) && (!(done.contains (card x)) && pk (done ++ [card x]) r)
def packetOk (p : List Int) : Bool := pk [] p
theorem pk_nodup : ∀ (r done : List Int), done.Nodup → pk done r = true → (done ++ r.map card).Nodup ∧ ∀ x ∈ r, 0 ≤ card x
  | [], done, hd, h => by simp [hd]
  | x :: r, done, hd, h => by
    unfold pk at h
    simp only [Bool.and_eq_true, decide_eq_true_eq, Bool.not_eq_true'] at h
    obtain ⟨h1, h3, h4⟩ := h
    have hx : card x ∉ done := by simpa using h3
    obtain ⟨k1, k2⟩ := pk_nodup r (done ++ [card x]) (by
      rw [List.nodup_append]
      exact ⟨hd, by simp, fun a ha b hb e => by simp at hb; subst hb; subst e; exact hx ha⟩) h4
    refine ⟨by simpa using k1, fun y hy => ?_⟩
    rcases List.mem_cons.1 hy with rfl | hy
    · exact h1
    · exact k2 y hy
theorem packetOk_fit {p : List Int} (h : packetOk p = true) : (p.map card).Nodup ∧ (∀ x ∈ p, 0 ≤ card x ∧ card x ≤ 11) ∧ p.length ≤ 12 := by
  obtain ⟨k1, k2⟩ := pk_nodup p [] (by simp) h
  have k1' : (p.map card).Nodup := by simpa using k1
  have k3 := nodup_len 12 (p.map card) k1' (fun x hx => by
    obtain ⟨y, hy, rfl⟩ := List.mem_map.1 hx
    have := k2 y hy
    have := card_lt y
    omega)
  exact ⟨k1', fun x hx => ⟨k2 x hx, (card_lt x).2⟩, by simpa using k3⟩
theorem s_PacketOk_l5_ev (xs : List Int) (hm : xs.length ≤ 12) : ∀ (r : List Int) (i : Nat) (done : List Int), xs.drop i = r → done.length = i → Ev (fun k => s_PacketOk_l5 k xs (xs.length : Int) (i : Int) done) (pk done r)
  | [], i, done, h, hd => by
    have a := at_nil h
    refine Ev.step (fun k => s_PacketOk_l5_eq k _ _ _ _) ?_
    simp only [a.g, cond_false]
    exact Ev.pure _
  | x :: r, i, done, h, hd => by
    have a := at_cons h (by rw [maxLen_eq]; omega)
    have hlt := a.lt
    refine Ev.step (fun k => s_PacketOk_l5_eq k _ _ _ _) ?_
    simp only [a.g, a.z, a.get, a.w, cond_true]
    unfold pk
    refine Ev.bind (s_CardOf_ev x) (Ev.ite (fun c => Ev.some ?_) (fun c => Ev.bind (l02Has_ev done (card x) (by rw [maxLen_eq]; omega)) (Ev.ite (fun c2 => Ev.some ?_) (fun c2 => Ev.yes (by rw [rowMax_eq]; simp; omega) ?_))))
    · have : ¬ 0 ≤ card x := by simpa using c
      simp [this]
    · simp only [c2, Bool.not_true, Bool.false_and, Bool.and_false]
    · have e1 : decide (0 ≤ card x) = true := by simpa using c
      rw [e1, c2]
      exact s_PacketOk_l5_ev xs hm r (i + 1) _ a.next (by simp [hd])
theorem s_PacketOk_ev (p : List Int) (hm : p.length ≤ maxLen) : Ev (fun k => s_PacketOk k p) (packetOk p) := by
  refine Ev.step (fun k => s_PacketOk_eq k p) (Ev.ite (fun h => Ev.some ?_) (fun h => ?_))
  · symm
    rw [Bool.eq_false_iff]
    intro hp
    have := (packetOk_fit hp).2.2
    simp at h; omega
  · exact s_PacketOk_l5_ev p (by simp at h; omega) p 0 [] rfl rfl
/-- The cards that were met. -/
def metL (done : List Int) : List Bool := (List.range 12).map fun (c : Nat) => done.contains (c : Int)
theorem metL_len (done : List Int) : (metL done).length = 12 := by simp [metL]
theorem metL_get (done : List Int) (c : Nat) (h : c < 12) (d : Bool) : (metL done).getD c d = done.contains (c : Int) := by
  simp [metL, List.getD, h]
theorem metL_set (done : List Int) (c : Nat) (h : c < 12) : (metL done).set c true = metL (done ++ [(c : Int)]) := by
  apply List.ext_getElem?
  intro x
  rw [List.getElem?_set]
  by_cases hx : x < 12
  · by_cases e : c = x
    · subst e; simp [metL, h]
    · have : ¬ x = c := fun h => e h.symm
      simp [metL, hx, e, this]; intro h; omega
  · rw [if_neg (by omega), List.getElem?_eq_none (by rw [metL_len]; omega), List.getElem?_eq_none (by rw [metL_len]; omega)]
theorem i_PacketOk_l3_ev (xs : List Int) (hm : xs.length ≤ maxLen) (hi : Ins xs) : ∀ (r : List Int) (i : Nat) (done : List Int), xs.drop i = r → Ev (fun k => i_PacketOk_l3 k xs (xs.length : Int) (i : Int) (metL done)) (pk done r)
  | [], i, done, h => by
    have a := at_nil h
    refine Ev.step (fun k => i_PacketOk_l3_eq k _ _ _ _) ?_
    simp only [a.g, cond_false]
    exact Ev.pure _
  | x :: r, i, done, h => by
    have a := at_cons h hm
    refine Ev.step (fun k => i_PacketOk_l3_eq k _ _ _ _) ?_
    simp only [a.g, a.z, a.get, a.w, cond_true]
    unfold pk
    refine Ev.bind (i_CardOf_ev x (hi x a.mem)) (Ev.ite (fun c => Ev.some ?_) (fun c => ?_))
    · have : ¬ 0 ≤ card x := by simpa using c
      simp [this]
    · have hc : 0 ≤ card x := by simpa using c
      have hc2 := (card_lt x).2
      have en : card x = ((card x).toNat : Int) := by omega
      have g1 : decide (0 ≤ card x) = true := by simp [hc]
      have g2 : decide (card x < ((metL done).length : Int)) = true := by rw [metL_len]; simp; omega
      have g3 : decide ((card x).toNat < (metL done).length) = true := by rw [metL_len]; simp; omega
      have g4 : (Nat.beq (metL done).length 12 && true) = true := by rw [metL_len]; rfl
      have g5 := metL_get done (card x).toNat (by omega) false
      rw [← en] at g5
      have g6 := metL_set done (card x).toNat (by omega)
      rw [← en] at g6
      simp only [g1, g2, g3, g4, g5, g6, cond_true, Bool.true_and]
      refine Ev.ite (fun c2 => Ev.some ?_) (fun c2 => ?_)
      · rw [c2]; rfl
      · rw [c2]
        exact i_PacketOk_l3_ev xs hm hi r (i + 1) _ a.next
theorem i_PacketOk_ev (p : List Int) (hm : p.length ≤ maxLen) (hi : Ins p) : Ev (fun k => i_PacketOk k p) (packetOk p) :=
  Ev.step (fun k => i_PacketOk_eq k p) (i_PacketOk_l3_ev p hm hi p 0 [] rfl)
def posF (c : Int) : Nat → List Int → Int
  | _, [] => -1
  | i, y :: r => if card y = c then (i : Int) else posF c (i + 1) r
/-- Where a card lies, or -1. -/
def pos (p : List Int) (c : Int) : Int := if c < 0 then -1 else posF c 0 p
theorem s_PositionOf_l2_neg (c : Int) (xs : List Int) (hm : xs.length ≤ maxLen) (hc : c < 0) : ∀ (r : List Int) (i : Nat), xs.drop i = r → Ev (fun k => s_PositionOf_l2 k c xs (xs.length : Int) (i : Int)) (-1)
  | [], i, h => by
    have a := at_nil h
    refine Ev.step (fun k => s_PositionOf_l2_eq k _ _ _ _) ?_
    simp only [a.g, cond_false]
    exact Ev.pure _
  | x :: r, i, h => by
    have a := at_cons h hm
    have ih := s_PositionOf_l2_neg c xs hm hc r (i + 1) a.next
    refine Ev.step (fun k => s_PositionOf_l2_eq k _ _ _ _) ?_
    simp only [a.g, a.z, a.get, a.w, cond_true]
    exact Ev.bind (s_CardOf_ev x) (Ev.ite (fun _ => Ev.no (by simp; omega) ih) (fun _ => ih))
theorem s_PositionOf_l2_ev (c : Int) (xs : List Int) (hm : xs.length ≤ maxLen) (hc : 0 ≤ c) : ∀ (r : List Int) (i : Nat), xs.drop i = r → Ev (fun k => s_PositionOf_l2 k c xs (xs.length : Int) (i : Int)) (posF c i r)
  | [], i, h => by
    have a := at_nil h
    refine Ev.step (fun k => s_PositionOf_l2_eq k _ _ _ _) ?_
    simp only [a.g, cond_false]
    exact Ev.pure _
  | x :: r, i, h => by
    have a := at_cons h hm
    have ih := s_PositionOf_l2_ev c xs hm hc r (i + 1) a.next
    refine Ev.step (fun k => s_PositionOf_l2_eq k _ _ _ _) ?_
    simp only [a.g, a.z, a.get, a.w, cond_true]
    unfold posF
    refine Ev.bind (s_CardOf_ev x) (Ev.ite (fun h => Ev.yes (by simp; omega) (Ev.some ?_)) (fun h => ih.to ?_))
    · have : card x = c := by simpa using h
      rw [if_pos this]
    · have : ¬ card x = c := by simpa using h
      rw [if_neg this]
theorem s_PositionOf_ev (p : List Int) (c : Int) (hm : p.length ≤ maxLen) : Ev (fun k => s_PositionOf k (p, c)) (pos p c) := by
  refine Ev.step (fun k => s_PositionOf_eq k p c) ?_
  unfold pos
  by_cases hc : c < 0
  · rw [if_pos hc]; exact s_PositionOf_l2_neg c p hm hc p 0 rfl
  · rw [if_neg hc]; exact s_PositionOf_l2_ev c p hm (by omega) p 0 rfl
theorem i_PosFunc_l2_ev (c : Int) (xs : List Int) (hm : xs.length ≤ maxLen) (hi : Ins xs) : ∀ (r : List Int) (i : Nat), xs.drop i = r → Ev (fun k => slices_IndexFunc_int_of_i_PositionOf_1_l2 k xs c (xs.length : Int) (i : Int)) (posF c i r)
  | [], i, h => by
    have a := at_nil h
    refine Ev.step (fun k => slices_IndexFunc_int_of_i_PositionOf_1_l2_eq k _ _ _ _) ?_
    simp only [a.g, cond_false]
    exact Ev.pure _
  | x :: r, i, h => by
    have a := at_cons h hm
    have ih := i_PosFunc_l2_ev c xs hm hi r (i + 1) a.next
    refine Ev.step (fun k => slices_IndexFunc_int_of_i_PositionOf_1_l2_eq k _ _ _ _) ?_
    simp only [a.g, a.z, a.get, a.w, cond_true]
    unfold posF
    have h1 : Ev (fun k => i_PositionOf_1 k (x, c)) (card x == c) := Ev.step (fun k => i_PositionOf_1_eq k x c) (Ev.bind (i_CardOf_ev x (hi x a.mem)) (Ev.pure _))
    refine Ev.bind h1 (Ev.ite (fun h => Ev.some ?_) (fun h => ih.to ?_))
    · have : card x = c := by simpa using h
      rw [if_pos this]
    · have : ¬ card x = c := by simpa using h
      rw [if_neg this]
theorem i_PositionOf_ev (p : List Int) (c : Int) (hm : p.length ≤ maxLen) (hi : Ins p) : Ev (fun k => i_PositionOf k (p, c)) (pos p c) := by
  refine Ev.step (fun k => i_PositionOf_eq k p c) ?_
  unfold pos
  refine Ev.ite (fun h => Ev.some ?_) (fun h => Ev.bind (Ev.step (fun k => slices_IndexFunc_int_of_i_PositionOf_1_eq k p c) (i_PosFunc_l2_ev c p hm hi p 0 rfl)) (Ev.some ?_))
  · have : c < 0 := by simpa using h
    rw [if_pos this]
  · have : ¬ c < 0 := by simpa using h
    rw [if_neg this]
end Qq
namespace Qq
open Go Go.Vt Pt
set_option linter.unusedVariables false
set_option linter.unusedSimpArgs false
abbrev TrickTy : Ty := .pair (.slice (.int .i64)) (.pair (.slice (.pair (.int .i64) (.pair (.pair (.int .i64) (.int .i64)) (.int .i64)))) (.pair (.int .i64) (.pair (.int .i64) (.int .i64))))
def claimOk (n : Int) (p : List Int) (noted : Bool) (c a b : Int) : Bool :=
  if c = 0 then a == 0 && b == 0 else
  if c = 4 then a == 0 && b == 0 else
  if c = 1 then noted && (decide (0 ≤ a) && (decide (a < n) && b == 0)) else
  if c = 2 then decide (0 ≤ a) && (decide (a ≤ n) && b == 0) else
  if c = 3 then decide (0 ≤ pos p a) && (decide (0 ≤ b) && decide (b < n)) else false
def stepsOk (n : Int) (l : List Step) : Bool := l.all (stepOk n)
def hasNote (l : List Step) : Bool := l.any fun s => s.1 == 3
def trickOk (t : Trick) : Bool :=
  packetOk t.1 && (!(t.1.length == 0) && (decide (t.2.1.length ≤ 12) && (stepsOk t.1.length t.2.1 && claimOk t.1.length t.1 (hasNote t.2.1) t.2.2.1 t.2.2.2.1 t.2.2.2.2)))
theorem claim_s (p : List Int) (st : List Step) (c a b n : Int) (nt : Bool) (hp : p.length ≤ maxLen) (hn : n = p.length) : Ev (fun k => s_l16Claim k ((p, st, c, a, b), n, nt)) (claimOk n p nt c a b) := by
  have hw : IntKind.i64.wrap (n - 1) = n - 1 := by rw [maxLen_eq] at hp; exact wrap_id (by omega) (by omega)
  refine Ev.step (fun k => s_l16Claim_eq k _ n nt) ?_
  unfold claimOk
  dsimp only
  rw [hw]
  refine Ev.ite (fun h => ?_) (fun h => ?_)
  · have e : c = 0 := by simpa using h
    rw [if_pos e]
    refine Ev.ite (fun h => Ev.some ?_) (fun h => Ev.some ?_) <;> simp [h]
  have e0 : ¬ c = 0 := by simpa using h
  rw [if_neg e0]
  refine Ev.ite (fun h => ?_) (fun h => ?_)
  · have e : c = 4 := by simpa using h
    rw [if_pos e]
    refine Ev.ite (fun h => Ev.some ?_) (fun h => Ev.some ?_) <;> simp [h]
  have e4 : ¬ c = 4 := by simpa using h
  rw [if_neg e4]
  refine Ev.ite (fun h => ?_) (fun h => ?_)
  · have e : c = 1 := by simpa using h
    rw [if_pos e]
    refine Ev.ite (fun h => Ev.bind (l01In_ev _ _ _) (Ev.ite (fun h' => Ev.some ?_) (fun h' => Ev.some ?_))) (fun h => Ev.some ?_)
    · have : 0 ≤ a ∧ a ≤ n - 1 := by simpa using h'
      have h2 : a < n := by omega
      simp [h, this.1, h2]
    · rw [Bool.eq_iff_iff]; simp at h' ⊢; intros; omega
    · simp [h]
  have e1 : ¬ c = 1 := by simpa using h
  rw [if_neg e1]
  refine Ev.ite (fun h => ?_) (fun h => ?_)
  · have e : c = 2 := by simpa using h
    rw [if_pos e]
    refine Ev.bind (l01In_ev _ _ _) (Ev.ite (fun h' => Ev.some ?_) (fun h' => Ev.some ?_))
    · have : 0 ≤ a ∧ a ≤ n := by simpa using h'
      simp [this.1, this.2]
    · rw [Bool.eq_iff_iff]; simp at h' ⊢; intros; omega
  have e2 : ¬ c = 2 := by simpa using h
  rw [if_neg e2]
  refine Ev.ite (fun h => ?_) (fun h => Ev.some ?_)
  · have e : c = 3 := by simpa using h
    rw [if_pos e]
    refine Ev.bind (s_PositionOf_ev p a hp) (Ev.ite (fun h' => Ev.bind (l01In_ev _ _ _) (Ev.some ?_)) (fun h' => Ev.some ?_))
    · have h3 : 0 ≤ pos p a := by simpa using h'
      rw [Bool.eq_iff_iff]; simp [h3]; intros; omega
    · have h3 : ¬ 0 ≤ pos p a := by simpa using h'
      simp [h3]
  · have e3 : ¬ c = 3 := by simpa using h
    rw [if_neg e3]
theorem s_TrickOk_l6_ev (p : List Int) (c a b n : Int) (hp : p.length ≤ maxLen) (hn : n = p.length) (xs : List Step) (hm : xs.length ≤ maxLen) : ∀ (r : List Step) (i : Nat) (nt : Bool), xs.drop i = r →
    Ev (fun k => s_TrickOk_l6 k n nt xs (xs.length : Int) (i : Int) p xs c a b) (stepsOk n r && claimOk n p (nt || hasNote r) c a b)
  | [], i, nt, h => by
    have q := at_nil h
    refine Ev.step (fun k => s_TrickOk_l6_eq k _ _ _ _ _ _ _ _ _ _) ?_
    simp only [q.g, cond_false]
    exact Ev.bind (claim_s p xs c a b n nt hp hn) (Ev.some (by simp [stepsOk, hasNote]))
  | s :: r, i, nt, h => by
    have q := at_cons h hm
    refine Ev.step (fun k => s_TrickOk_l6_eq k _ _ _ _ _ _ _ _ _ _) ?_
    simp only [q.g, q.z, q.get, q.w, cond_true]
    refine Ev.bind (s_StepOk_ev n s) (Ev.ite (fun h => Ev.some ?_) (fun h => Ev.ite (fun h2 => ?_) (fun h2 => ?_)))
    · have : stepOk n s = false := by simpa using h
      simp [stepsOk, this]
    · have e : stepOk n s = true := by simpa using h
      refine (s_TrickOk_l6_ev p c a b n hp hn xs hm r (i + 1) true q.next).to ?_
      simp [stepsOk, e, h2]
    · have e : stepOk n s = true := by simpa using h
      refine (s_TrickOk_l6_ev p c a b n hp hn xs hm r (i + 1) (s.1 == 3) q.next).to ?_
      simp [stepsOk, e, h2, hasNote]
theorem s_TrickOk_ev (t : Trick) (h1 : t.1.length ≤ maxLen) (h2 : t.2.1.length ≤ maxLen) : Ev (fun k => s_TrickOk k t) (trickOk t) := by
  obtain ⟨p, st, c, a, b⟩ := t
  unfold trickOk
  refine Ev.step (fun k => s_TrickOk_eq k _) (Ev.bind (s_PacketOk_ev p h1) (Ev.ite (fun h => Ev.some ?_) (fun h => Ev.ite (fun h' => Ev.some ?_) (fun h' => Ev.ite (fun h3 => Ev.some ?_) (fun h3 => ?_)))))
  · have : packetOk p = false := by simpa using h
    simp [this]
  · have : p.length = 0 := by simp at h'; simp [h']
    simp [this]
  · have : ¬ st.length ≤ 12 := by simp at h3; omega
    simp [this]
  · refine (s_TrickOk_l6_ev p c a b _ h1 rfl st h2 st 0 false rfl).to ?_
    have e1 : packetOk p = true := by simpa using h
    have e2 : (p.length == 0) = false := by simp at h' ⊢; exact h'
    have e3 : st.length ≤ 12 := by simp at h3; omega
    simp [e1, e3, e2]
theorem claim_i (xs : List Step) (hm : xs.length ≤ maxLen) (p : List Int) (hp : p.length ≤ maxLen) (hi : Ins p) (c a b n : Int) (hn : n = p.length) : ∀ (r : List Step) (i : Nat) (nt : Bool), xs.drop i = r →
    Ev (fun k => i_TrickOk_l6 k n nt xs (xs.length : Int) (i : Int) p xs c a b) (stepsOk n r && claimOk n p (nt || hasNote r) c a b)
  | [], i, nt, h => by
    have q := at_nil h
    refine Ev.step (fun k => i_TrickOk_l6_eq k _ _ _ _ _ _ _ _ _ _) ?_
    simp only [q.g, cond_false]
    have e : (stepsOk n [] && claimOk n p (nt || hasNote []) c a b) = claimOk n p nt c a b := by simp [stepsOk, hasNote]
    rw [e]
    unfold claimOk
    refine Ev.ite (fun h => ?_) (fun h => ?_)
    · have e : c = 0 := by simpa using h
      rw [if_pos e]
      refine Ev.ite (fun h => Ev.some ?_) (fun h => Ev.some ?_) <;> simp [h]
    have e0 : ¬ c = 0 := by simpa using h
    rw [if_neg e0]
    refine Ev.ite (fun h => ?_) (fun h => ?_)
    · have e : c = 4 := by simpa using h
      rw [if_pos e]
      refine Ev.ite (fun h => Ev.some ?_) (fun h => Ev.some ?_) <;> simp [h]
    have e4 : ¬ c = 4 := by simpa using h
    rw [if_neg e4]
    refine Ev.ite (fun h => ?_) (fun h => ?_)
    · have e : c = 1 := by simpa using h
      rw [if_pos e]
      repeat (first | (refine Ev.ite (fun h => ?_) (fun h => ?_)) | focus (refine Ev.some ?_; simp_all; done) | focus (refine Ev.some ?_; simp_all; omega))
    have e1 : ¬ c = 1 := by simpa using h
    rw [if_neg e1]
    refine Ev.ite (fun h => ?_) (fun h => ?_)
    · have e : c = 2 := by simpa using h
      rw [if_pos e]
      repeat (first | (refine Ev.ite (fun h => ?_) (fun h => ?_)) | focus (refine Ev.some ?_; simp_all; done) | focus (refine Ev.some ?_; simp_all; omega))
    have e2 : ¬ c = 2 := by simpa using h
    rw [if_neg e2]
    refine Ev.ite (fun h => ?_) (fun h => Ev.some ?_)
    · have e : c = 3 := by simpa using h
      rw [if_pos e]
      refine Ev.bind (i_PositionOf_ev p a hp hi) (Ev.ite (fun h' => Ev.ite (fun h2 => Ev.some ?_) (fun h2 => Ev.some ?_)) (fun h' => Ev.some ?_))
      · have h3 : 0 ≤ pos p a := by simpa using h'
        have h4 : 0 ≤ b := by simpa using h2
        simp [h3, h4]
      · have h4 : ¬ 0 ≤ b := by simpa using h2
        simp [h4]
      · have h3 : ¬ 0 ≤ pos p a := by simpa using h'
        simp [h3]
    · have e3 : ¬ c = 3 := by simpa using h
      rw [if_neg e3]
  | s :: r, i, nt, h => by
    have q := at_cons h hm
    refine Ev.step (fun k => i_TrickOk_l6_eq k _ _ _ _ _ _ _ _ _ _) ?_
    simp only [q.g, q.z, q.get, q.w, cond_true]
    refine Ev.bind (i_StepOk_ev n s) (Ev.ite (fun h => Ev.some ?_) (fun h => Ev.ite (fun h2 => ?_) (fun h2 => ?_)))
    · have : stepOk n s = false := by simpa using h
      simp [stepsOk, this]
    · have e : stepOk n s = true := by simpa using h
      refine (claim_i xs hm p hp hi c a b n hn r (i + 1) true q.next).to ?_
      simp [stepsOk, e, h2]
    · have e : stepOk n s = true := by simpa using h
      refine (claim_i xs hm p hp hi c a b n hn r (i + 1) (s.1 == 3) q.next).to ?_
      simp [stepsOk, e, h2, hasNote]
theorem i_TrickOk_ev (t : Trick) (h1 : t.1.length ≤ maxLen) (hi : Ins t.1) (h2 : t.2.1.length ≤ maxLen) : Ev (fun k => i_TrickOk k t) (trickOk t) := by
  obtain ⟨p, st, c, a, b⟩ := t
  unfold trickOk
  refine Ev.step (fun k => i_TrickOk_eq k _) (Ev.bind (i_PacketOk_ev p h1 hi) (Ev.ite (fun h => Ev.some ?_) (fun h => Ev.ite (fun h' => Ev.some ?_) (fun h' => Ev.ite (fun h3 => Ev.some ?_) (fun h3 => ?_)))))
  · have : packetOk p = false := by simpa using h
    simp [this]
  · have : p.length = 0 := by simp at h'; simp [h']
    simp [this]
  · have : ¬ st.length ≤ 12 := by simp at h3; omega
    simp [this]
  · refine (claim_i st h2 p h1 hi c a b _ rfl st 0 false rfl).to ?_
    have e1 : packetOk p = true := by simpa using h
    have e2 : (p.length == 0) = false := by simp at h' ⊢; exact h'
    have e3 : st.length ≤ 12 := by simp at h3; omega
    simp [e1, e3, e2]
/-- What fits a trick. -/
theorem trick_fit {t : Trick} (f : Fits TrickTy t) : t.1.length ≤ maxLen ∧ Ins t.1 ∧ t.2.1.length ≤ maxLen := ⟨f.1.1, fun x hx => In.of_fits (f.1.2 x hx), f.2.1.1⟩
theorem trickOk_len {t : Trick} (h : trickOk t = true) : t.2.1.length ≤ 12 ∧ 1 ≤ t.1.length ∧ t.1.length ≤ 12 ∧ packetOk t.1 = true := by
  unfold trickOk at h
  simp only [Bool.and_eq_true, decide_eq_true_eq] at h
  have := packetOk_fit h.1
  have h2 := h.2.1
  refine ⟨h.2.2.1, ?_, this.2.2, h.1⟩
  have : ¬ t.1.length = 0 := by simpa using h2
  omega
end Qq
namespace Qq
open Go Go.Vt Pt
set_option linter.unusedVariables false
set_option linter.unusedSimpArgs false
theorem Clone_int_ev (xs : List Int) (hm : xs.length ≤ 1048576) : Ev (fun k => slices_Clone_int k xs) xs := by
  refine Ev.step (fun k => slices_Clone_int_eq k xs) (Ev.ite (fun h => ?_) (fun h => ?_))
  · exact Ev.yes (by rw [rowMax_eq]; simp; omega) (Ev.some (by simp))
  · have : xs = [] := by simpa using h
    subst this
    exact Ev.both (Ev.pure _) (Ev.yes (by simp) (Ev.some rfl))
end Qq
namespace Qq
open Go Go.Vt Pt
set_option linter.unusedVariables false
set_option linter.unusedSimpArgs false
theorem Clone_i_Step_ev (xs : List Step) (hm : xs.length ≤ 1048576) : Ev (fun k => slices_Clone_i_Step k xs) xs := by
  refine Ev.step (fun k => slices_Clone_i_Step_eq k xs) (Ev.ite (fun h => ?_) (fun h => ?_))
  · exact Ev.yes (by rw [rowMax_eq]; simp; omega) (Ev.some (by simp))
  · have : xs = [] := by simpa using h
    subst this
    exact Ev.both (Ev.pure _) (Ev.yes (by simp) (Ev.some rfl))
theorem copyTrick_ev (t : Trick) (h1 : t.1.length ≤ 1048576) (h2 : t.2.1.length ≤ 1048576) : Ev (fun k => i_copyTrick k t) t :=
  Ev.step (fun k => i_copyTrick_eq k t) (Ev.bind (Clone_int_ev _ h1) (Ev.bind (Clone_i_Step_ev _ h2) (Ev.pure _)))
def withB (t : Trick) (b : Bool) : List Int × List Step × Int × Int × Int × Bool := (t.1, t.2.1, t.2.2.1, t.2.2.2.1, t.2.2.2.2, b)
def noTrick : List Int × List Step × Int × Int × Int × Bool := ([], [], 0, 0, 0, false)
theorem Delete_Step_ev (xs : List Step) (i : Nat) (hi : i < xs.length) (hm : xs.length ≤ 1048576) : Ev (fun k => slices_Delete_i_Step k (xs, (i : Int), ((i + 1 : Nat) : Int))) (xs.take i ++ xs.drop (i + 1)) := by
  refine Ev.congr (fun k => slices_Delete_i_Step_eq k xs _ _) ?_
  show Ev (fun _ => deleteF (xs, (i : Int), ((i + 1 : Nat) : Int))) _
  unfold deleteF
  refine Ev.yes ?_ (Ev.some ?_)
  · simp only [Bool.and_eq_true, decide_eq_true_eq]; omega
  · simp
end Qq
namespace Qq
open Go Go.Vt Pt
set_option linter.unusedVariables false
set_option linter.unnecessarySimpa false
set_option linter.unusedSimpArgs false
def cutB (s : Step) : Bool := (s.1 == 1) && (s.2.1.1 == 1)
def mrg (n : Int) (s t : Step) : Step := (s.1, (s.2.1.1, if s.2.1.2 + t.2.1.2 > n then s.2.1.2 + t.2.1.2 - n else s.2.1.2 + t.2.1.2), s.2.2)
def jn (n : Int) : Step → List Step → List Step
  | s, [] => [s]
  | s, t :: r => if cutB s && cutB t then jn n (mrg n s t) r else s :: jn n t r
def joinM (n : Int) : List Step → List Step
  | [] => [] | s :: r => jn n s r
def CutFit (n : Int) (l : List Step) : Prop := ∀ s ∈ l, cutB s = true → 0 ≤ s.2.1.2 ∧ s.2.1.2 ≤ n
theorem mrg_fit {n : Int} {s t : Step} {r : List Step} (h : CutFit n (s :: t :: r)) (hs : cutB s = true) (ht : cutB t = true) : CutFit n (mrg n s t :: r) := by
  have h1 := h s (by simp) hs
  have h2 := h t (by simp) ht
  intro u hu hc
  rcases List.mem_cons.1 hu with rfl | hu
  · unfold mrg
    dsimp only
    split <;> omega
  · exact h u (by simp [hu]) hc
theorem jn_len (n : Int) : ∀ (r : List Step) (s : Step), (jn n s r).length ≤ r.length + 1
  | [], s => by simp [jn]
  | t :: r, s => by
    unfold jn
    split
    · have := jn_len n r (mrg n s t); simp; omega
    · have := jn_len n r t; simp; omega
theorem l18Cut_ev (s : Step) : Ev (fun k => s_l18Cut k s) (cutB s) := by
  refine Ev.step (fun k => s_l18Cut_eq k s) (Ev.ite (fun h => Ev.some ?_) (fun h => Ev.some ?_))
  · have : s.1 = 1 := by simpa using h
    simp [cutB, this]
  · have : ¬ s.1 = 1 := by simpa using h
    simp [cutB, this]
theorem getD_mid {α : Type} (done : List α) (s : α) (r : List α) (d : α) : (done ++ s :: r).getD (done.length : Int).toNat d = s := by simp [List.getD]
theorem set_mid {α : Type} (done : List α) (s u : α) (r : List α) : (done ++ s :: r).set (done.length : Int).toNat u = done ++ u :: r := by simp
theorem s_JoinMoves_l6_ev (n : Int) (hn : 0 ≤ n ∧ n ≤ 12) (xs : List Step) (hm : xs.length ≤ 1048576) (a1 a2 a3 c a b : Int) (p : List Int) : ∀ (r : List Step) (i : Nat) (done : List Step) (s : Step), xs.drop i = r → done.length + 1 ≤ i → CutFit n (s :: r) →
    Ev (fun k => s_JoinMoves_l6 k n xs (xs.length : Int) (i : Int) a1 a2 a3 c a b p (done ++ [s])) (p, done ++ jn n s r, c, a, b, true)
  | [], i, done, s, h, hd, hf => by
    have q := at_nil h
    refine Ev.step (fun k => s_JoinMoves_l6_eq k _ _ _ _ _ _ _ _ _ _ _ _) ?_
    simp only [q.g, cond_false]
    exact Ev.some rfl
  | t :: r, i, done, s, h, hd, hf => by
    have q := at_cons h (by rw [maxLen_eq]; omega)
    have hlt := q.lt
    refine Ev.step (fun k => s_JoinMoves_l6_eq k _ _ _ _ _ _ _ _ _ _ _ _) ?_
    have hl : ((done ++ [s]).length : Int) - 1 = (done.length : Int) := by simp
    have e1 : IntKind.i64.wrap (((done ++ [s]).length : Int) - 1) = (done.length : Int) := by rw [hl]; exact wrap_id (by omega) (by omega)
    simp only [q.g, q.z, q.get, q.w, cond_true, e1, getD_mid, set_mid]
    have push : Ev (fun k => bif decide ((done ++ [s]).length + [t].length ≤ rowMax) then s_JoinMoves_l6 k n xs (xs.length : Int) ((i + 1 : Nat) : Int) a1 a2 a3 c a b p (done ++ [s] ++ [t]) else none) (p, done ++ s :: jn n t r, c, a, b, true) := by
      refine Ev.yes (by rw [rowMax_eq]; simp; omega) ?_
      refine (s_JoinMoves_l6_ev n hn xs hm a1 a2 a3 c a b p r (i + 1) (done ++ [s]) t q.next (by simp; omega) (fun u hu => hf u (by simp at hu ⊢; exact .inr hu))).to ?_
      simp
    have go : ∀ (u : Step), CutFit n (u :: r) → Ev (fun k => s_JoinMoves_l6 k n xs (xs.length : Int) ((i + 1 : Nat) : Int) a1 a2 a3 c a b p (done ++ [u])) (p, done ++ jn n u r, c, a, b, true) := fun u hu => s_JoinMoves_l6_ev n hn xs hm a1 a2 a3 c a b p r (i + 1) done u q.next (by omega) hu
    refine Ev.yes (by (first | (simp; done) | (simp; omega) | omega)) (Ev.bind (l18Cut_ev t) (Ev.ite (fun ht => ?_) (fun ht => ?_)))
    · refine Ev.yes (by (first | (simp; done) | (simp; omega) | omega)) (Ev.yes (by (first | (simp; done) | (simp; omega) | omega)) (Ev.yes (by (first | (simp; done) | (simp; omega) | omega)) (Ev.bind (l18Cut_ev s) (Ev.ite (fun hs => ?_) (fun hs => ?_)))))
      · have k1 := hf s (by simp) hs
        have k2 := hf t (by simp) ht
        have hg := go (mrg n s t) (mrg_fit hf hs ht)
        have w1 : IntKind.i64.wrap (s.2.1.2 + t.2.1.2) = s.2.1.2 + t.2.1.2 := wrap_id (by omega) (by omega)
        have w2 : IntKind.i64.wrap (s.2.1.2 + t.2.1.2 - n) = s.2.1.2 + t.2.1.2 - n := wrap_id (by omega) (by omega)
        simp only [w1, w2]
        have ej : jn n s (t :: r) = jn n (mrg n s t) r := by rw [jn, if_pos (by rw [hs, ht]; rfl)]
        rw [ej]
        refine Ev.yes (by (first | (simp; done) | (simp; omega) | omega)) (Ev.yes (by (first | (simp; done) | (simp; omega) | omega)) (Ev.yes (by (first | (simp; done) | (simp; omega) | omega)) (Ev.ite (fun hk => ?_) (fun hk => ?_))))
        · have hk' : s.2.1.2 + t.2.1.2 > n := by simpa using hk
          unfold mrg at hg ⊢
          rw [if_pos hk'] at hg ⊢
          exact Ev.yes (by (first | (simp; done) | (simp; omega) | omega)) (Ev.yes (by (first | (simp; done) | (simp; omega) | omega)) (Ev.yes (by (first | (simp; done) | (simp; omega) | omega)) hg))
        · have hk' : ¬ s.2.1.2 + t.2.1.2 > n := by simpa using hk
          unfold mrg at hg ⊢
          rw [if_neg hk'] at hg ⊢
          exact Ev.yes (by (first | (simp; done) | (simp; omega) | omega)) (Ev.yes (by (first | (simp; done) | (simp; omega) | omega)) (Ev.yes (by (first | (simp; done) | (simp; omega) | omega)) hg))
      · have ej : jn n s (t :: r) = s :: jn n t r := by rw [jn, if_neg (by rw [hs]; simp)]
        rw [ej]
        exact push
    · have ej : jn n s (t :: r) = s :: jn n t r := by rw [jn, if_neg (by rw [ht]; simp)]
      rw [ej]
      exact push
theorem i_JoinMoves_l5_ev (n : Int) (hn : 0 ≤ n ∧ n ≤ 12) (p0 : List Int) (hp0 : (p0.length : Int) = n) (x1 : List Step) (x2 x3 x4 a1 a2 a3 c a b : Int) (p : List Int) : ∀ (r : List Step) (done : List Step) (s : Step), done.length + 1 + r.length ≤ 1048576 → CutFit n (s :: r) →
    Ev (fun k => i_JoinMoves_l5 k ((done.length + 1 : Nat) : Int) p0 x1 x2 x3 x4 a1 a2 a3 c a b p (done ++ s :: r)) (p, done ++ jn n s r, c, a, b, true)
  | [], done, s, hd, hf => by
    refine Ev.step (fun k => i_JoinMoves_l5_eq k _ _ _ _ _ _ _ _ _ _ _ _ _ _) ?_
    have : decide (((done.length + 1 : Nat) : Int) < ((done ++ [s]).length : Int)) = false := by simp
    simp only [this, cond_false]
    exact Ev.some rfl
  | t :: r, done, s, hd, hf => by
    rw [List.length_cons] at hd
    refine Ev.step (fun k => i_JoinMoves_l5_eq k _ _ _ _ _ _ _ _ _ _ _ _ _ _) ?_
    have e1 : IntKind.i64.wrap (((done.length + 1 : Nat) : Int) - 1) = (done.length : Int) := by rw [wrap_id (by omega) (by omega)]; omega
    have e2 : IntKind.i64.wrap (((done.length + 1 : Nat) : Int) + 1) = ((done.length + 1 + 1 : Nat) : Int) := by rw [wrap_id (by omega) (by omega)]; omega
    have e3 : ∀ d, (done ++ s :: t :: r).getD ((done.length + 1 : Nat) : Int).toNat d = t := fun d => by
      have := getD_mid (done ++ [s]) t r d
      simpa using this
    have hlen : ((done ++ s :: t :: r).length : Int) = (done.length : Int) + 2 + r.length := by simp; omega
    simp only [e1, e2, getD_mid, e3, set_mid, hp0]
    have skip : Ev (fun k => i_JoinMoves_l5 k ((done.length + 1 + 1 : Nat) : Int) p0 x1 x2 x3 x4 a1 a2 a3 c a b p (done ++ s :: t :: r)) (p, done ++ s :: jn n t r, c, a, b, true) := by
      have := i_JoinMoves_l5_ev n hn p0 hp0 x1 x2 x3 x4 a1 a2 a3 c a b p r (done ++ [s]) t (by simp; omega) (fun u hu => hf u (by simp at hu ⊢; exact .inr hu))
      simpa using this
    have hd1 : done.length < (done ++ s :: t :: r).length := by simp
    have hd2 : done.length + 1 < (done ++ s :: t :: r).length := by simp
    refine Ev.yes (by (first | (simp; done) | (simp; omega) | omega)) (Ev.yes (by (first | (simp; done) | (simp; omega) | omega)) (Ev.yes (by (first | (simp; done) | (simp; omega) | omega)) (Ev.yes (by (first | (simp; done) | (simp; omega) | omega)) (Ev.yes (by (first | (simp; done) | (simp; omega) | omega)) (Ev.yes (by (first | (simp; done) | (simp; omega) | omega)) (Ev.yes (by (first | (simp; done) | (simp; omega) | omega)) ?_))))))
    have nj : (cutB s && cutB t) = false → jn n s (t :: r) = s :: jn n t r := fun h => by rw [jn, if_neg (by rw [h]; simp)]
    refine Ev.ite (fun h => ?_) (fun h1 => Ev.ite (fun h => ?_) (fun h2 => Ev.ite (fun h => ?_) (fun h3 => Ev.ite (fun h => ?_) (fun h4 => ?_))))
    · rw [nj (by simp at h; simp [cutB, h])]; exact skip
    · rw [nj (by simp at h; simp [cutB, h])]; exact skip
    · rw [nj (by simp at h; simp [cutB, h])]; exact skip
    · rw [nj (by simp at h; simp [cutB, h])]; exact skip
    · have hs : cutB s = true := by simp at h1 h3; simp [cutB, h1, h3]
      have ht : cutB t = true := by simp at h2 h4; simp [cutB, h2, h4]
      have k1 := hf s (by simp) hs
      have k2 := hf t (by simp) ht
      have ej : jn n s (t :: r) = jn n (mrg n s t) r := by rw [jn, if_pos (by rw [hs, ht]; rfl)]
      rw [ej]
      have w1 : IntKind.i64.wrap (s.2.1.2 + t.2.1.2) = s.2.1.2 + t.2.1.2 := wrap_id (by omega) (by omega)
      have w2 : IntKind.i64.wrap (s.2.1.2 + t.2.1.2 - n) = s.2.1.2 + t.2.1.2 - n := wrap_id (by omega) (by omega)
      simp only [w1, w2]
      have del : ∀ u : Step, CutFit n (u :: r) → Ev (fun k => (slices_Delete_i_Step k (done ++ u :: t :: r, ((done.length + 1 : Nat) : Int), ((done.length + 1 + 1 : Nat) : Int))).bind fun y => i_JoinMoves_l5 k ((done.length + 1 : Nat) : Int) p0 x1 x2 x3 x4 a1 a2 a3 c a b p y) (p, done ++ jn n u r, c, a, b, true) := fun u hu => by
        refine Ev.bind (Delete_Step_ev (done ++ u :: t :: r) (done.length + 1) (by simp) (by simp; omega)) ?_
        have e : (done ++ u :: t :: r).take (done.length + 1) ++ (done ++ u :: t :: r).drop (done.length + 1 + 1) = done ++ u :: r := by
          have : done ++ u :: t :: r = (done ++ [u]) ++ t :: r := by simp
          rw [this, List.take_append_of_le_length (by simp), List.take_of_length_le (by simp), List.drop_append]
          simp
        rw [e]
        exact i_JoinMoves_l5_ev n hn p0 hp0 x1 x2 x3 x4 a1 a2 a3 c a b p r done u (by omega) hu
      have hg := del (mrg n s t) (mrg_fit hf hs ht)
      refine Ev.ite (fun hk => ?_) (fun hk => ?_)
      · have hk' : s.2.1.2 + t.2.1.2 > n := by simpa using hk
        unfold mrg at hg ⊢
        rw [if_pos hk'] at hg ⊢
        exact Ev.yes (by (first | (simp; done) | (simp; omega) | omega)) (Ev.yes (by (first | (simp; done) | (simp; omega) | omega)) (Ev.yes (by (first | (simp; done) | (simp; omega) | omega)) hg))
      · have hk' : ¬ s.2.1.2 + t.2.1.2 > n := by simpa using hk
        unfold mrg at hg ⊢
        rw [if_neg hk'] at hg ⊢
        exact Ev.yes (by (first | (simp; done) | (simp; omega) | omega)) (Ev.yes (by (first | (simp; done) | (simp; omega) | omega)) (Ev.yes (by (first | (simp; done) | (simp; omega) | omega)) hg))
def joinT (t : Trick) : Trick := (t.1, joinM t.1.length t.2.1, t.2.2)
def joinMoves (t : Trick) : List Int × List Step × Int × Int × Int × Bool := if trickOk t then withB (joinT t) true else noTrick
theorem trick_cuts {t : Trick} (h : trickOk t = true) : CutFit t.1.length t.2.1 := by
  unfold trickOk at h
  simp only [Bool.and_eq_true] at h
  have hs := h.2.2.2.1
  unfold stepsOk at hs
  rw [List.all_eq_true] at hs
  intro s hm hc
  have := hs s hm
  unfold stepOk at this
  simp only [Bool.and_eq_true] at this
  unfold cutB at hc
  simp only [Bool.and_eq_true, beq_iff_eq] at hc
  rw [if_pos hc.1] at this
  simp only [Bool.and_eq_true] at this
  have hm := this.2.2.1
  unfold moveOk at hm
  simp only [Bool.and_eq_true, decide_eq_true_eq] at hm
  rw [if_pos hc.2] at hm
  simp at hm
  omega
theorem s_JoinMoves_ev (t : Trick) (a1 : t.1.length ≤ 1048576) (a2 : t.2.1.length ≤ 1048576) : Ev (fun k => s_JoinMoves k t) (joinMoves t) := by
  unfold joinMoves
  refine Ev.step (fun k => s_JoinMoves_eq k t) (Ev.bind (s_TrickOk_ev t (by rw [maxLen_eq]; omega) (by rw [maxLen_eq]; omega)) (Ev.ite (fun h => Ev.some ?_) (fun h => ?_)))
  · have : trickOk t = false := by simpa using h
    simp [this, noTrick]
  · have ht : trickOk t = true := by simpa using h
    have hl := trickOk_len ht
    have hf := trick_cuts ht
    rw [if_pos ht]
    refine Ev.yes (by rw [rowMax_eq]; simp; omega) ?_
    rw [List.nil_append]
    obtain ⟨p, st, c, a, b⟩ := t
    dsimp only at *
    cases st with
    | nil =>
      refine Ev.step (fun k => s_JoinMoves_l6_eq k _ _ _ _ _ _ _ _ _ _ _ _) ?_
      exact Ev.no (by simp) (Ev.some rfl)
    | cons s r =>
      refine Ev.step (fun k => s_JoinMoves_l6_eq k _ _ _ _ _ _ _ _ _ _ _ _) ?_
      refine Ev.yes (by (first | (simp; done) | (simp; omega) | omega)) (Ev.yes (by (first | (simp; done) | (simp; omega) | omega)) (Ev.yes (by (first | (simp; done) | (simp; omega) | omega)) (Ev.no (by first | (simp; done) | (simp; decide)) (Ev.yes (by rw [rowMax_eq]; simp) ?_))))
      have := s_JoinMoves_l6_ev (p.length : Int) (by omega) (s :: r) (by omega) 0 0 0 c a b p r 1 [] s (by simp) (by simp) hf
      show Ev _ (p, jn (p.length : Int) s r, c, a, b, true)
      simpa [wrap_id] using this
theorem i_JoinMoves_ev (t : Trick) (a1 : t.1.length ≤ 1048576) (ai : Ins t.1) (a2 : t.2.1.length ≤ 1048576) : Ev (fun k => i_JoinMoves k t) (joinMoves t) := by
  unfold joinMoves
  refine Ev.step (fun k => i_JoinMoves_eq k t) (Ev.bind (i_TrickOk_ev t (by rw [maxLen_eq]; omega) ai (by rw [maxLen_eq]; omega)) (Ev.ite (fun h => Ev.some ?_) (fun h => ?_)))
  · have : trickOk t = false := by simpa using h
    simp [this, noTrick]
  · have ht : trickOk t = true := by simpa using h
    have hl := trickOk_len ht
    have hf := trick_cuts ht
    rw [if_pos ht]
    refine Ev.bind (copyTrick_ev t a1 a2) ?_
    obtain ⟨p, st, c, a, b⟩ := t
    dsimp only at *
    cases st with
    | nil =>
      refine Ev.step (fun k => i_JoinMoves_l5_eq k _ _ _ _ _ _ _ _ _ _ _ _ _ _) ?_
      exact Ev.no (by simp) (Ev.some rfl)
    | cons s r =>
      exact i_JoinMoves_l5_ev (p.length : Int) (by omega) p rfl (s :: r) c a b 0 0 0 c a b p r [] s (by simp at hl ⊢; omega) hf
theorem joinMoves_len (t : Trick) : (joinMoves t).1.length ≤ 12 ∧ (joinMoves t).2.1.length ≤ 12 := by
  unfold joinMoves
  split
  · rename_i h
    have := trickOk_len h
    refine ⟨this.2.2.1, ?_⟩
    show (joinM _ t.2.1).length ≤ 12
    cases hs : t.2.1 with
    | nil => simp [joinM]
    | cons s r =>
      have h2 := jn_len t.1.length r s
      rw [hs] at this
      have h3 : (s :: r).length ≤ 12 := this.1
      simp at h3
      show (jn _ s r).length ≤ 12
      omega
  · simp [noTrick]
theorem FnExactJoinMoves_ev (t : Trick) (f0 : Fits TrickTy t) : Ev (fun k => w_FnExactJoinMoves k t) true := by
  obtain ⟨a1, ai, a2⟩ := trick_fit f0
  refine Ev.step (fun k => w_FnExactJoinMoves_eq k t) (Ev.bind (szTrick_ev t 1048576 a1 a2 (by omega) (by omega)) (Ev.ite (fun h => Ev.pure _) (fun h => ?_)))
  obtain ⟨c1, c2, c3, c4⟩ := szTrick_fit (t := t) (n := 1048576) (by omega) (by simpa using h)
  have hl := joinMoves_len t
  have es := s_JoinMoves_ev t c1 c2
  have ei := i_JoinMoves_ev t c1 ai c2
  have et := toTrick_ev t c1 c2
  revert hl es ei
  generalize joinMoves t = y
  obtain ⟨p, st, c, a, b, ok⟩ := y
  intro hl es ei
  have h1 : p.length ≤ 12 := hl.1
  have h2 : st.length ≤ 12 := hl.2
  have ee := eqTrick_ev (p, st, c, a, b) (p, st, c, a, b) (by rw [maxLen_eq]; show p.length ≤ _; omega) (by rw [maxLen_eq]; show st.length ≤ _; omega) (by rw [maxLen_eq]; show p.length ≤ _; omega) (by rw [maxLen_eq]; show st.length ≤ _; omega)
  have hd := heldTrick_ev p.length st.length 1 c a b (by omega) (by omega) (by omega) (by omega)
  refine Ev.bind et (Ev.bind es (Ev.bind et (Ev.bind ei (Ev.bind ee (Ev.no (by simp) (Ev.no (by simp) ?_))))))
  refine Ev.bind et (Ev.bind (eqTrick_ev t t a1 a2 a1 a2) (Ev.no (by simp) ?_))
  refine Ev.bind (markTrick_ev t 1 c1 c2 (by omega) (by omega)) (Ev.no (by simp; omega) (Ev.bind ee (Ev.no (by simp) (Ev.no (by simp) ?_))))
  refine Ev.bind (markTrick_ev (p, st, c, a, b) 1 (by show p.length ≤ _; omega) (by show st.length ≤ _; omega) (by omega) (by omega)) ?_
  refine Ev.bind hd (Ev.no (by simp; omega) (Ev.no (by simp) ?_))
  refine Ev.bind et (Ev.bind ei (Ev.bind ee (Ev.no (by simp) (Ev.no (by simp) ?_))))
  exact Ev.bind hd (Ev.no (by simp; omega) (Ev.no (by simp) (Ev.pure _)))
end Qq
