/-
  The law FnExactAllScenes comes to true.
  Conditions: numbers and lengths are such as a machine bears.
-/
import Derived.Test.YtcchipplglbfmaaGreatDoorPt
import Derived.Test.YtcchipplglbfmaaGreatDoorXvzd
import Derived.Laws.BitsLemmas
import Derived.Test.YtcchipplglbfmaaGreatDoorXvzj
import Derived.Test.YtcchipplglbfmaaGreatDoorXvzk
import Derived.Test.YtcchipplglbfmaaGreatDoorCmf
import Derived.Lib.ItoaLen
namespace Go.Vt
end Go.Vt
namespace Qq
open Go Go.Vt
set_option linter.unusedVariables false
set_option linter.unusedSimpArgs false
theorem maxLen_eq : maxLen = 9223372036854775807 := by unfold maxLen; decide
theorem rowMax_eq : rowMax = 4294967296 := rfl
theorem wrap_id {x : Int} (h1 : -9223372036854775808 ≤ x) (h2 : x ≤ 9223372036854775807) : IntKind.i64.wrap x = x := by
  rw [IntKind.wrap_i64]; omega
/-- Numbers of a machine's kind. -/
def In (x : Int) : Prop := -9223372036854775808 ≤ x ∧ x ≤ 9223372036854775807
theorem In.of_fits {x : Int} (h : Fits (.int .i64) x) : In x := by
  have h' : IntKind.i64.min ≤ x ∧ x ≤ IntKind.i64.max := h
  have e1 : IntKind.i64.min = -9223372036854775808 := by decide
  have e2 : IntKind.i64.max = 9223372036854775807 := by decide
  unfold In; rw [e1, e2] at h'; exact h'
def Ins (xs : List Int) : Prop := ∀ x ∈ xs, In x
structure AtCons {α : Type} (xs : List α) (i : Nat) (y : α) (rest : List α) : Prop where
  lt : i < xs.length
  g : decide ((i : Int) < (xs.length : Int)) = true
  z : decide ((0 : Int) ≤ (i : Int)) = true
  n : decide ((i : Int).toNat < xs.length) = true
  get : ∀ d, xs.getD (i : Int).toNat d = y
  w : IntKind.i64.wrap ((i : Int) + 1) = ((i + 1 : Nat) : Int)
  next : xs.drop (i + 1) = rest
  mem : y ∈ xs
  gt : ∀ d, xs.getD i d = y
  le : decide ((i : Int) ≤ (xs.length : Int)) = true
theorem at_cons {α : Type} {xs : List α} {i : Nat} {y : α} {rest : List α} (h : xs.drop i = y :: rest) (hm : xs.length ≤ maxLen) : AtCons xs i y rest := by
  rw [maxLen_eq] at hm
  have lt : i < xs.length := by
    rcases Nat.lt_or_ge i xs.length with h1 | h1
    · exact h1
    · rw [List.drop_eq_nil_of_le h1] at h; cases h
  have e := List.drop_eq_getElem_cons lt
  rw [e] at h
  have hy : xs[i] = y := by injection h
  refine ⟨lt, by simp; omega, by simp, by simp; omega, fun d => by simp [List.getD, lt, hy], by rw [wrap_id (by omega) (by omega)]; simp, by injection h, by rw [← hy]; exact List.getElem_mem lt, fun d => by simp [List.getD, lt, hy], by simp; omega⟩
structure AtNil {α : Type} (xs : List α) (i : Nat) : Prop where
  ge : xs.length ≤ i
  g : decide ((i : Int) < (xs.length : Int)) = false
theorem at_nil {α : Type} {xs : List α} {i : Nat} (h : xs.drop i = []) : AtNil xs i := by
  have ge : xs.length ≤ i := List.drop_eq_nil_iff.1 h
  exact ⟨ge, by simp; omega⟩
end Qq
namespace Qq
open Go Go.Vt Pt
set_option linter.unusedVariables false
set_option linter.unusedSimpArgs false
theorem l01In_ev (x lo hi : Int) : Ev (fun k => s_l01In k (x, lo, hi)) (decide (lo ≤ x) && decide (x ≤ hi)) := by
  refine Ev.step (fun k => s_l01In_eq k x lo hi) (Ev.ite (fun h => ?_) (fun h => ?_))
  · have h' : lo ≤ x := by simpa using h
    exact Ev.some (by simp [h'])
  · have h' : ¬ lo ≤ x := by simpa using h
    exact Ev.some (by simp [h'])
theorem szIntS_ev (xs : List Int) (n : Int) (hx : xs.length ≤ maxLen) (hn : 0 ≤ n) (hn2 : n ≤ 1048576) :
    Ev (fun k => w_szIntS k (xs, n)) (if n - (xs.length : Int) < 0 then -1 else n - xs.length) := by
  rw [maxLen_eq] at hx
  refine Ev.step (fun k => w_szIntS_eq k xs n) ?_
  rw [wrap_id (by omega) (by omega)]
  split
  · rename_i h; exact Ev.yes (by simpa using h) (Ev.pure _)
  · rename_i h; exact Ev.no (by simpa using h) (Ev.pure _)
theorem eqIntS_l4_ev (xs ys : List Int) (hx : xs.length ≤ maxLen) (hy : ys.length ≤ maxLen) : ∀ (r s : List Int) (i : Nat), xs.drop i = r → ys.drop i = s → s.length = r.length → Ev (fun k => w_eqIntS_l4 k xs ys (i : Int)) (r == s)
  | [], [], i, h1, h2, hl => by
    have a := at_nil h1
    refine Ev.step (fun k => w_eqIntS_l4_eq k xs ys i) ?_
    simp only [a.g, cond_false]
    exact Ev.pure _
  | x :: r, y :: s, i, h1, h2, hl => by
    have a := at_cons h1 hx
    have b := at_cons h2 hy
    refine Ev.step (fun k => w_eqIntS_l4_eq k xs ys i) ?_
    simp only [a.g, a.z, b.g, a.get, b.get, a.w, cond_true]
    have ih := eqIntS_l4_ev xs ys hx hy r s (i + 1) a.next b.next (by simpa using hl)
    refine Ev.ite (fun h => Ev.some ?_) (fun h => ih.to ?_)
    · have : ¬ x = y := by simpa using h
      simp [this]
    · have : x = y := by simpa using h
      simp [this]
  | [], _ :: _, _, _, _, hl => by simp at hl
  | _ :: _, [], _, _, _, hl => by simp at hl
theorem eqIntS_ev (xs ys : List Int) (hx : xs.length ≤ maxLen) (hy : ys.length ≤ maxLen) : Ev (fun k => w_eqIntS k (xs, ys)) (xs == ys) := by
  refine Ev.step (fun k => w_eqIntS_eq k xs ys) (Ev.ite (fun h => Ev.some ?_) (fun h => eqIntS_l4_ev xs ys hx hy xs ys 0 rfl rfl ?_))
  · have h' : ¬ xs.length = ys.length := by simp at h; omega
    have : ¬ xs = ys := fun e => h' (by rw [e])
    simp [this]
  · simp at h; omega
theorem set_get {α : Type} {n : Nat} {xs ys : List α} {i : Nat} {d : α} (hi : i < xs.length) (hl : ys.length = xs.length) (h : ys.take i = xs.take i) : (ys.set i (xs.getD i d)).take (i + 1) = xs.take (i + 1) := by
  have g1 : xs.getD i d = xs[i] := by simp [List.getD, hi]
  rw [g1, List.take_succ_eq_append_getElem (by simp; omega), List.take_succ_eq_append_getElem hi, List.take_set_of_le (by omega), h]
  simp
theorem toIntS_l3_ev (xs : List Int) (hm : xs.length ≤ maxLen) : ∀ (r : List Int) (i : Nat) (ys : List Int), xs.drop i = r → ys.length = xs.length → ys.take i = xs.take i → Ev (fun k => w_toIntS_l3 k xs (i : Int) ys) xs
  | [], i, ys, h, hl, ht => by
    have a := at_nil h
    refine Ev.step (fun k => w_toIntS_l3_eq k xs i ys) ?_
    simp only [a.g, cond_false]
    have e : ys = xs := by
      have := a.ge
      rwa [List.take_of_length_le (by omega), List.take_of_length_le (by omega)] at ht
    exact Ev.some e
  | x :: r, i, ys, h, hl, ht => by
    have a := at_cons h hm
    have b1 : decide ((i : Int) < (ys.length : Int)) = true := by rw [hl]; exact a.g
    have b2 : decide ((i : Int).toNat < ys.length) = true := by rw [hl]; exact a.n
    refine Ev.step (fun k => w_toIntS_l3_eq k xs i ys) ?_
    simp only [a.g, a.z, b1, b2, a.w, cond_true]
    have hs := set_get (n := 0) (d := 0) a.lt hl ht
    exact toIntS_l3_ev xs hm r (i + 1) _ a.next (by simp [hl]) (by simpa using hs)
theorem toIntS_ev (xs : List Int) (hm : xs.length ≤ 1048576) : Ev (fun k => w_toIntS k xs) xs := by
  refine Ev.step (fun k => w_toIntS_eq k xs) (Ev.yes (by simp) (Ev.yes (by rw [rowMax_eq]; simp; omega) (Ev.yes (by simp) ?_)))
  exact toIntS_l3_ev xs (by rw [maxLen_eq]; omega) xs 0 _ rfl (by simp) (by simp)
end Qq
namespace Qq
open Go Go.Vt Pt
set_option linter.unusedVariables false
set_option linter.unusedSimpArgs false
def moveOk (n : Int) (m : Int × Int) : Bool :=
  decide (1 ≤ n) && (decide (n ≤ 12) && (decide (0 ≤ m.2) &&
    (if m.1 = 1 then decide (m.2 ≤ n) else if m.1 = 2 then decide (m.2 ≤ n) else if m.1 = 3 then decide (m.2 ≤ n) else
     if m.1 = 4 then decide (m.2 ≤ 1) else if m.1 = 5 then decide (m.2 ≤ 1) else if m.1 = 7 then decide (m.2 ≤ 1) else
     if m.1 = 6 then m.2 == 0 else if m.1 = 8 then decide (m.2 < n) else if m.1 = 9 then decide (m.2 < n) else false)))
theorem i_MoveOk_ev (n : Int) (m : Int × Int) : Ev (fun k => i_MoveOk k (n, m)) (moveOk n m) := by
  obtain ⟨a, b⟩ := m
  refine Ev.step (fun k => i_MoveOk_eq k n (a, b)) ?_
  unfold moveOk
  refine Ev.ite (fun h => Ev.some ?_) (fun h => ?_)
  · have : ¬ 1 ≤ n := by simpa using h
    simp [this]
  have h1 : 1 ≤ n := by simpa using h
  refine Ev.ite (fun h => Ev.some ?_) (fun h => ?_)
  · have : ¬ n ≤ 12 := by simpa using h
    simp [this]
  have h2 : n ≤ 12 := by simpa using h
  refine Ev.ite (fun h => Ev.some ?_) (fun h => ?_)
  · have : ¬ 0 ≤ b := by simpa using h
    simp [this]
  have h3 : 0 ≤ b := by simpa using h
  clear h
  simp only [h1, h2, h3, decide_true, Bool.true_and]
  iterate 9 (refine Ev.ite (fun h => ?_) (fun h => ?_); · exact Ev.some (by simp at *; simp [*]))
  exact Ev.some (by simp at *; simp [*])
theorem s_MoveOk_ev (n : Int) (m : Int × Int) : Ev (fun k => s_MoveOk k (n, m)) (moveOk n m) := by
  obtain ⟨a, b⟩ := m
  refine Ev.step (fun k => s_MoveOk_eq k n (a, b)) (Ev.bind (l01In_ev _ _ _) ?_)
  unfold moveOk
  refine Ev.ite (fun h => ?_) (fun h => ?_)
  · exact Ev.some (by rw [Bool.eq_iff_iff]; simp at *; omega)
  have hn : 1 ≤ n ∧ n ≤ 12 := by simpa using h
  iterate 6 (refine Ev.ite (fun h => ?_) (fun h => ?_); · exact Ev.bind (l01In_ev _ _ _) (Ev.some (by rw [Bool.eq_iff_iff]; simp at *; try simp [*]; try (intros; omega))))
  refine Ev.ite (fun h => ?_) (fun h => ?_)
  · exact Ev.some (by rw [Bool.eq_iff_iff]; simp at *; try simp [*]; try (intros; omega))
  rw [wrap_id (by omega) (by omega)]
  iterate 2 (refine Ev.ite (fun h => ?_) (fun h => ?_); · exact Ev.bind (l01In_ev _ _ _) (Ev.some (by rw [Bool.eq_iff_iff]; simp at *; try simp [*]; try (intros; omega))))
  exact Ev.some (by rw [Bool.eq_iff_iff]; simp at *; try simp [*]; try (intros; omega))
def stepOk (n : Int) (s : Int × (Int × Int) × Int) : Bool :=
  decide (1 ≤ n) && (decide (n ≤ 12) &&
    (if s.1 = 1 then moveOk n s.2.1 && s.2.2 == 0 else
     if s.1 = 2 then s.2.1.1 == 0 && (s.2.1.2 == 0 && (decide (0 ≤ s.2.2) && (decide (s.2.2 ≤ 4) && ((!(s.2.2 == 3) || decide (2 ≤ n)) && (!(s.2.2 == 2) || decide (n ≤ 7)))))) else
     if s.1 = 3 then s.2.1.1 == 0 && (s.2.1.2 == 0 && (decide (0 ≤ s.2.2) && decide (s.2.2 < n))) else false))
theorem i_StepOk_ev (n : Int) (s : Int × (Int × Int) × Int) : Ev (fun k => i_StepOk k (n, s)) (stepOk n s) := by
  obtain ⟨t, ⟨a, b⟩, c⟩ := s
  refine Ev.step (fun k => i_StepOk_eq k n (t, (a, b), c)) ?_
  unfold stepOk
  refine Ev.ite (fun h => Ev.some ?_) (fun h => ?_)
  · have : ¬ 1 ≤ n := by simpa using h
    simp [this]
  have h1 : 1 ≤ n := by simpa using h
  refine Ev.ite (fun h => Ev.some ?_) (fun h => ?_)
  · have : ¬ n ≤ 12 := by simpa using h
    simp [this]
  have h2 : n ≤ 12 := by simpa using h
  clear h
  simp only [h1, h2, decide_true, Bool.true_and]
  refine Ev.ite (fun h => ?_) (fun h => ?_)
  · have e : t = 1 := by simpa using h
    subst e
    exact Ev.bind (i_MoveOk_ev n (a, b)) (Ev.ite (fun h => Ev.some (by simp at *; simp [*])) (fun h => Ev.some (by simp at *; simp [*])))
  have t1 : ¬ t = 1 := by simpa using h
  simp only [t1, if_false]
  repeat (first | (refine Ev.ite (fun h => ?_) (fun h => ?_)) | focus (refine Ev.some ?_; simp_all; done) | focus (refine Ev.some ?_; simp_all; omega) | focus (refine Ev.some ?_; rw [Bool.eq_iff_iff]; simp at *; omega))
theorem l16Choice_ev (n c : Int) : Ev (fun k => s_l16Choice k (n, c)) (decide (0 ≤ c) && (decide (c ≤ 4) && ((!(c == 3) || decide (2 ≤ n)) && (!(c == 2) || decide (n ≤ 7))))) := by
  refine Ev.step (fun k => s_l16Choice_eq k n c) (Ev.bind (l01In_ev _ _ _) ?_)
  repeat (first | (refine Ev.ite (fun h => ?_) (fun h => ?_)) | focus (refine Ev.some ?_; simp_all; done) | focus (refine Ev.some ?_; simp_all; omega) | focus (refine Ev.some ?_; rw [Bool.eq_iff_iff]; simp at *; omega))
theorem s_StepOk_ev (n : Int) (s : Int × (Int × Int) × Int) : Ev (fun k => s_StepOk k (n, s)) (stepOk n s) := by
  obtain ⟨t, ⟨a, b⟩, c⟩ := s
  refine Ev.step (fun k => s_StepOk_eq k n (t, (a, b), c)) (Ev.bind (l01In_ev _ _ _) ?_)
  unfold stepOk
  refine Ev.ite (fun h => Ev.some ?_) (fun h => ?_)
  · rcases Int.lt_or_le n 1 with h1 | h1
    · have : ¬ 1 ≤ n := by omega
      simp [this]
    · have : ¬ n ≤ 12 := by simp at h; omega
      simp [this]
  have hn : 1 ≤ n ∧ n ≤ 12 := by simpa using h
  clear h
  simp only [hn.1, hn.2, decide_true, Bool.true_and]
  refine Ev.ite (fun h => ?_) (fun h => ?_)
  · have e : t = 1 := by simpa using h
    subst e
    exact Ev.bind (s_MoveOk_ev n (a, b)) (Ev.ite (fun h => Ev.some (by simp at *; simp [*])) (fun h => Ev.some (by simp at *; simp [*])))
  have t1 : ¬ t = 1 := by simpa using h
  simp only [t1, if_false]
  clear h
  rw [wrap_id (by omega) (by omega)]
  refine Ev.ite (fun h => ?_) (fun h => ?_)
  · have e : t = 2 := by simpa using h
    subst e
    refine Ev.ite (fun h => ?_) (fun h => Ev.some ?_)
    · exact Ev.bind (l16Choice_ev n c) (Ev.some (by simp at *; simp [*]))
    · cases ha : (a == 0) <;> cases hb : (b == 0) <;> simp_all
  have t2 : ¬ t = 2 := by simpa using h
  simp only [t2, if_false]
  clear h
  refine Ev.ite (fun h => ?_) (fun h => ?_)
  · have e : t = 3 := by simpa using h
    subst e
    refine Ev.ite (fun h => ?_) (fun h => Ev.some ?_)
    · refine Ev.bind (l01In_ev _ _ _) (Ev.some ?_)
      have e2 : decide (c ≤ n - 1) = decide (c < n) := by rw [Bool.eq_iff_iff]; simp; omega
      simp at h
      simp [h, e2]
    · cases ha : (a == 0) <;> cases hb : (b == 0) <;> simp_all
  · have t3 : ¬ t = 3 := by simpa using h
    exact Ev.some (by simp [t3])
theorem toMove_ev (m : Int × Int) : Ev (fun k => w_toMove k m) m := Ev.step (fun k => w_toMove_eq k m) (Ev.pure _)
theorem toStep_ev (s : Int × (Int × Int) × Int) : Ev (fun k => w_toStep k s) (s.1, (s.2.1.1, (s.2.1.2, s.2.2))) := Ev.step (fun k => w_toStep_eq k s) (Ev.bind (toMove_ev _) (Ev.pure _))
end Qq
namespace Qq
open Go Go.Vt Pt
set_option linter.unusedVariables false
set_option linter.unusedSimpArgs false
theorem l02Has_l2_ev (x : Int) (xs : List Int) (hm : xs.length ≤ maxLen) : ∀ (r : List Int) (i : Nat), xs.drop i = r → Ev (fun k => s_l02Has_l2 k x xs (xs.length : Int) (i : Int)) (r.contains x)
  | [], i, h => by
    have a := at_nil h
    refine Ev.step (fun k => s_l02Has_l2_eq k x xs _ i) ?_
    simp only [a.g, cond_false]
    exact Ev.pure _
  | y :: r, i, h => by
    have a := at_cons h hm
    refine Ev.step (fun k => s_l02Has_l2_eq k x xs _ i) ?_
    simp only [a.g, a.z, a.get, a.w, cond_true]
    refine Ev.ite (fun h => Ev.some ?_) (fun h => (l02Has_l2_ev x xs hm r (i + 1) a.next).to ?_)
    · have : y = x := by simpa using h
      simp [this]
    · have : ¬ y = x := by simpa using h
      have h2 : ¬ x = y := fun e => this e.symm
      simp [h2]
theorem l02Has_ev (xs : List Int) (x : Int) (hm : xs.length ≤ maxLen) : Ev (fun k => s_l02Has k (xs, x)) (xs.contains x) :=
  Ev.step (fun k => s_l02Has_eq k xs x) (l02Has_l2_ev x xs hm xs 0 rfl)
end Qq
namespace Qq
open Go Go.Vt Pt
set_option linter.unusedVariables false
set_option linter.unusedSimpArgs false
theorem nodup_len : ∀ (n : Nat) (l : List Int), l.Nodup → (∀ x ∈ l, 0 ≤ x ∧ x < (n : Int)) → l.length ≤ n
  | 0, l, _, h => by
    cases l with
    | nil => simp
    | cons x l => have := h x (by simp); omega
  | n + 1, l, hd, h => by
    have h1 := nodup_len n (l.erase (n : Int)) (hd.erase _) (fun x hx => by
      have hx' := (hd.mem_erase_iff).1 hx
      have := h x hx'.2
      have : x ≠ (n : Int) := hx'.1
      omega)
    have h2 := List.length_erase (a := (n : Int)) (l := l)
    split at h2 <;> omega
end Qq
namespace Qq
open Go Go.Vt Pt
set_option linter.unusedVariables false
set_option linter.unusedSimpArgs false
def card (x : Int) : Int := if 0 ≤ x ∧ x ≤ 11 then x else if -12 ≤ x ∧ x ≤ -1 then -1 - x else -1
theorem card_lt (x : Int) : -1 ≤ card x ∧ card x ≤ 11 := by unfold card; split; · omega
                                                            split <;> omega
theorem s_CardOf_ev (x : Int) : Ev (fun k => s_CardOf k x) (card x) := by
  refine Ev.step (fun k => s_CardOf_eq k x) (Ev.bind (l01In_ev _ _ _) (Ev.ite (fun h => Ev.some ?_) (fun h => Ev.bind (l01In_ev _ _ _) (Ev.ite (fun h' => ?_) (fun h' => Ev.some ?_)))))
  · have : 0 ≤ x ∧ x ≤ 11 := by simpa using h
    simp [card, this]
  · have h1 : ¬ (0 ≤ x ∧ x ≤ 11) := by simp at h; omega
    have h2 : -12 ≤ x ∧ x ≤ -1 := by simpa using h'
    rw [wrap_id (by omega) (by omega)]
    exact Ev.some (by unfold card; rw [if_neg h1, if_pos h2])
  · have h1 : ¬ (0 ≤ x ∧ x ≤ 11) := by simp at h; omega
    have h2 : ¬ (-12 ≤ x ∧ x ≤ -1) := by simp at h'; omega
    unfold card; rw [if_neg h1, if_neg h2]
theorem i_CardOf_ev (x : Int) (hx : In x) : Ev (fun k => i_CardOf k x) (card x) := by
  obtain ⟨a, b⟩ := hx
  refine Ev.step (fun k => i_CardOf_eq k x) ?_
  refine Ev.ite (fun h => ?_) (fun h => ?_)
  · have h1 : x < 0 := by simpa using h
    rw [wrap_id (by omega) (by omega)]
    have h2 : ¬ (0 ≤ x ∧ x ≤ 11) := by omega
    refine Ev.ite (fun h' => Ev.some ?_) (fun h' => Ev.some ?_)
    · have h3 : ¬ (-12 ≤ x ∧ x ≤ -1) := by simp at h'; omega
      unfold card; rw [if_neg h2, if_neg h3]
    · have h3 : (-12 ≤ x ∧ x ≤ -1) := by simp at h'; omega
      unfold card; rw [if_neg h2, if_pos h3]
  · have h1 : ¬ x < 0 := by simpa using h
    have h3 : ¬ (-12 ≤ x ∧ x ≤ -1) := by omega
    refine Ev.ite (fun h' => Ev.some ?_) (fun h' => Ev.some ?_)
    · have h2 : ¬ (0 ≤ x ∧ x ≤ 11) := by simp at h'; omega
      unfold card; rw [if_neg h2, if_neg h3]
    · have h2 : (0 ≤ x ∧ x ≤ 11) := by simp at h'; omega
      unfold card; rw [if_pos h2]
def pk : List Int → List Int → Bool
  | _, [] => true
  | done, x :: r => decide (0 ≤ card x) && (!(done.contains (card x)) && pk (done ++ [card x]) r)
def packetOk (p : List Int) : Bool := pk [] p
theorem pk_nodup : ∀ (r done : List Int), done.Nodup → pk done r = true → (done ++ r.map card).Nodup ∧ ∀ x ∈ r, 0 ≤ card x
  | [], done, hd, h => by simp [hd]
  | x :: r, done, hd, h => by
    unfold pk at h
    simp only [Bool.and_eq_true, decide_eq_true_eq, Bool.not_eq_true'] at h
    obtain ⟨h1, h3, h4⟩ := h
    have hx : card x ∉ done := by simpa using h3
    obtain ⟨k1, k2⟩ := pk_nodup r (done ++ [card x]) (by
      rw [List.nodup_append]
      exact ⟨hd, by simp, fun a ha b hb e => by simp at hb; subst hb; subst e; exact hx ha⟩) h4
    refine ⟨by simpa using k1, fun y hy => ?_⟩
    rcases List.mem_cons.1 hy with rfl | hy
    · exact h1
    · exact k2 y hy
theorem packetOk_fit {p : List Int} (h : packetOk p = true) : (p.map card).Nodup ∧ (∀ x ∈ p, 0 ≤ card x ∧ card x ≤ 11) ∧ p.length ≤ 12 := by
  obtain ⟨k1, k2⟩ := pk_nodup p [] (by simp) h
  have k1' : (p.map card).Nodup := by simpa using k1
  have k3 := nodup_len 12 (p.map card) k1' (fun x hx => by
    obtain ⟨y, hy, rfl⟩ := List.mem_map.1 hx
    have := k2 y hy
    have := card_lt y
    omega)
  exact ⟨k1', fun x hx => ⟨k2 x hx, (card_lt x).2⟩, by simpa using k3⟩
theorem s_PacketOk_l5_ev (xs : List Int) (hm : xs.length ≤ 12) : ∀ (r : List Int) (i : Nat) (done : List Int), xs.drop i = r → done.length = i → Ev (fun k => s_PacketOk_l5 k xs (xs.length : Int) (i : Int) done) (pk done r)
  | [], i, done, h, hd => by
    have a := at_nil h
    refine Ev.step (fun k => s_PacketOk_l5_eq k _ _ _ _) ?_
    simp only [a.g, cond_false]
    exact Ev.pure _
  | x :: r, i, done, h, hd => by
    have a := at_cons h (by rw [maxLen_eq]; omega)
    have hlt := a.lt
    refine Ev.step (fun k => s_PacketOk_l5_eq k _ _ _ _) ?_
    simp only [a.g, a.z, a.get, a.w, cond_true]
    unfold pk
    refine Ev.bind (s_CardOf_ev x) (Ev.ite (fun c => Ev.some ?_) (fun c => Ev.bind (l02Has_ev done (card x) (by rw [maxLen_eq]; omega)) (Ev.ite (fun c2 => Ev.some ?_) (fun c2 => Ev.yes (by rw [rowMax_eq]; simp; omega) ?_))))
    · have : ¬ 0 ≤ card x := by simpa using c
      simp [this]
    · simp only [c2, Bool.not_true, Bool.false_and, Bool.and_false]
    · have e1 : decide (0 ≤ card x) = true := by simpa using c
      rw [e1, c2]
      exact s_PacketOk_l5_ev xs hm r (i + 1) _ a.next (by simp [hd])
theorem s_PacketOk_ev (p : List Int) (hm : p.length ≤ maxLen) : Ev (fun k => s_PacketOk k p) (packetOk p) := by
  refine Ev.step (fun k => s_PacketOk_eq k p) (Ev.ite (fun h => Ev.some ?_) (fun h => ?_))
  · symm
    rw [Bool.eq_false_iff]
    intro hp
    have := (packetOk_fit hp).2.2
    simp at h; omega
  · exact s_PacketOk_l5_ev p (by simp at h; omega) p 0 [] rfl rfl
/-- The cards that were met. -/
def metL (done : List Int) : List Bool := (List.range 12).map fun (c : Nat) => done.contains (c : Int)
theorem metL_len (done : List Int) : (metL done).length = 12 := by simp [metL]
theorem metL_get (done : List Int) (c : Nat) (h : c < 12) (d : Bool) : (metL done).getD c d = done.contains (c : Int) := by
  simp [metL, List.getD, h]
theorem metL_set (done : List Int) (c : Nat) (h : c < 12) : (metL done).set c true = metL (done ++ [(c : Int)]) := by
  apply List.ext_getElem?
  intro x
  rw [List.getElem?_set]
  by_cases hx : x < 12
  · by_cases e : c = x
    · subst e; simp [metL, h]
    · have : ¬ x = c := fun h => e h.symm
      simp [metL, hx, e, this]; intro h; omega
  · rw [if_neg (by omega), List.getElem?_eq_none (by rw [metL_len]; omega), List.getElem?_eq_none (by rw [metL_len]; omega)]
theorem i_PacketOk_l3_ev (xs : List Int) (hm : xs.length ≤ maxLen) (hi : Ins xs) : ∀ (r : List Int) (i : Nat) (done : List Int), xs.drop i = r → Ev (fun k => i_PacketOk_l3 k xs (xs.length : Int) (i : Int) (metL done)) (pk done r)
  | [], i, done, h => by
    have a := at_nil h
    refine Ev.step (fun k => i_PacketOk_l3_eq k _ _ _ _) ?_
    simp only [a.g, cond_false]
    exact Ev.pure _
  | x :: r, i, done, h => by
    have a := at_cons h hm
    refine Ev.step (fun k => i_PacketOk_l3_eq k _ _ _ _) ?_
    simp only [a.g, a.z, a.get, a.w, cond_true]
    unfold pk
    refine Ev.bind (i_CardOf_ev x (hi x a.mem)) (Ev.ite (fun c => Ev.some ?_) (fun c => ?_))
    · have : ¬ 0 ≤ card x := by simpa using c
      simp [this]
    · have hc : 0 ≤ card x := by simpa using c
      have hc2 := (card_lt x).2
      have en : card x = ((card x).toNat : Int) := by omega
      have g1 : decide (0 ≤ card x) = true := by simp [hc]
      have g2 : decide (card x < ((metL done).length : Int)) = true := by rw [metL_len]; simp; omega
      have g3 : decide ((card x).toNat < (metL done).length) = true := by rw [metL_len]; simp; omega
      have g4 : (Nat.beq (metL done).length 12 && true) = true := by rw [metL_len]; rfl
      have g5 := metL_get done (card x).toNat (by omega) false
      rw [← en] at g5
      have g6 := metL_set done (card x).toNat (by omega)
      rw [← en] at g6
      simp only [g1, g2, g3, g4, g5, g6, cond_true, Bool.true_and]
      refine Ev.ite (fun c2 => Ev.some ?_) (fun c2 => ?_)
      · rw [c2]; rfl
      · rw [c2]
        exact i_PacketOk_l3_ev xs hm hi r (i + 1) _ a.next
theorem i_PacketOk_ev (p : List Int) (hm : p.length ≤ maxLen) (hi : Ins p) : Ev (fun k => i_PacketOk k p) (packetOk p) :=
  Ev.step (fun k => i_PacketOk_eq k p) (i_PacketOk_l3_ev p hm hi p 0 [] rfl)
def posF (c : Int) : Nat → List Int → Int
  | _, [] => -1
  | i, y :: r => if card y = c then (i : Int) else posF c (i + 1) r
/-- Where a card lies, or -1. -/
def pos (p : List Int) (c : Int) : Int := if c < 0 then -1 else posF c 0 p
theorem s_PositionOf_l2_neg (c : Int) (xs : List Int) (hm : xs.length ≤ maxLen) (hc : c < 0) : ∀ (r : List Int) (i : Nat), xs.drop i = r → Ev (fun k => s_PositionOf_l2 k c xs (xs.length : Int) (i : Int)) (-1)
  | [], i, h => by
    have a := at_nil h
    refine Ev.step (fun k => s_PositionOf_l2_eq k _ _ _ _) ?_
    simp only [a.g, cond_false]
    exact Ev.pure _
  | x :: r, i, h => by
    have a := at_cons h hm
    have ih := s_PositionOf_l2_neg c xs hm hc r (i + 1) a.next
    refine Ev.step (fun k => s_PositionOf_l2_eq k _ _ _ _) ?_
    simp only [a.g, a.z, a.get, a.w, cond_true]
    exact Ev.bind (s_CardOf_ev x) (Ev.ite (fun _ => Ev.no (by simp; omega) ih) (fun _ => ih))
theorem s_PositionOf_l2_ev (c : Int) (xs : List Int) (hm : xs.length ≤ maxLen) (hc : 0 ≤ c) : ∀ (r : List Int) (i : Nat), xs.drop i = r → Ev (fun k => s_PositionOf_l2 k c xs (xs.length : Int) (i : Int)) (posF c i r)
  | [], i, h => by
    have a := at_nil h
    refine Ev.step (fun k => s_PositionOf_l2_eq k _ _ _ _) ?_
    simp only [a.g, cond_false]
    exact Ev.pure _
  | x :: r, i, h => by
    have a := at_cons h hm
    have ih := s_PositionOf_l2_ev c xs hm hc r (i + 1) a.next
    refine Ev.step (fun k => s_PositionOf_l2_eq k _ _ _ _) ?_
    simp only [a.g, a.z, a.get, a.w, cond_true]
    unfold posF
    refine Ev.bind (s_CardOf_ev x) (Ev.ite (fun h => Ev.yes (by simp; omega) (Ev.some ?_)) (fun h => ih.to ?_))
    · have : card x = c := by simpa using h
      rw [if_pos this]
    · have : ¬ card x = c := by simpa using h
      rw [if_neg this]
theorem s_PositionOf_ev (p : List Int) (c : Int) (hm : p.length ≤ maxLen) : Ev (fun k => s_PositionOf k (p, c)) (pos p c) := by
  refine Ev.step (fun k => s_PositionOf_eq k p c) ?_
  unfold pos
  by_cases hc : c < 0
  · rw [if_pos hc]; exact s_PositionOf_l2_neg c p hm hc p 0 rfl
  · rw [if_neg hc]; exact s_PositionOf_l2_ev c p hm (by omega) p 0 rfl
theorem i_PosFunc_l2_ev (c : Int) (xs : List Int) (hm : xs.length ≤ maxLen) (hi : Ins xs) : ∀ (r : List Int) (i : Nat), xs.drop i = r → Ev (fun k => slices_IndexFunc_int_of_i_PositionOf_1_l2 k xs c (xs.length : Int) (i : Int)) (posF c i r)
  | [], i, h => by
    have a := at_nil h
    refine Ev.step (fun k => slices_IndexFunc_int_of_i_PositionOf_1_l2_eq k _ _ _ _) ?_
    simp only [a.g, cond_false]
    exact Ev.pure _
  | x :: r, i, h => by
    have a := at_cons h hm
    have ih := i_PosFunc_l2_ev c xs hm hi r (i + 1) a.next
    refine Ev.step (fun k => slices_IndexFunc_int_of_i_PositionOf_1_l2_eq k _ _ _ _) ?_
    simp only [a.g, a.z, a.get, a.w, cond_true]
    unfold posF
    have h1 : Ev (fun k => i_PositionOf_1 k (x, c)) (card x == c) := Ev.step (fun k => i_PositionOf_1_eq k x c) (Ev.bind (i_CardOf_ev x (hi x a.mem)) (Ev.pure _))
    refine Ev.bind h1 (Ev.ite (fun h => Ev.some ?_) (fun h => ih.to ?_))
    · have : card x = c := by simpa using h
      rw [if_pos this]
    · have : ¬ card x = c := by simpa using h
      rw [if_neg this]
theorem i_PositionOf_ev (p : List Int) (c : Int) (hm : p.length ≤ maxLen) (hi : Ins p) : Ev (fun k => i_PositionOf k (p, c)) (pos p c) := by
  refine Ev.step (fun k => i_PositionOf_eq k p c) ?_
  unfold pos
  refine Ev.ite (fun h => Ev.some ?_) (fun h => Ev.bind (Ev.step (fun k => slices_IndexFunc_int_of_i_PositionOf_1_eq k p c) (i_PosFunc_l2_ev c p hm hi p 0 rfl)) (Ev.some ?_))
  · have : c < 0 := by simpa using h
    rw [if_pos this]
  · have : ¬ c < 0 := by simpa using h
    rw [if_neg this]
def isArr (p q : List Int) : Bool := packetOk p && (packetOk q && (p.length == q.length && p.all fun x => decide (0 ≤ pos q (card x))))
end Qq
namespace Qq
open Go Go.Vt Pt
set_option linter.unusedVariables false
set_option linter.unusedSimpArgs false
theorem Clone_int_ev (xs : List Int) (hm : xs.length ≤ 1048576) : Ev (fun k => slices_Clone_int k xs) xs := by
  refine Ev.step (fun k => slices_Clone_int_eq k xs) (Ev.ite (fun h => ?_) (fun h => ?_))
  · exact Ev.yes (by rw [rowMax_eq]; simp; omega) (Ev.some (by simp))
  · have : xs = [] := by simpa using h
    subst this
    exact Ev.both (Ev.pure _) (Ev.yes (by simp) (Ev.some rfl))
end Qq
namespace Qq
open Go Go.Vt Pt
set_option linter.unusedVariables false
set_option linter.unusedSimpArgs false
set_option linter.unnecessarySimpa false
theorem take_all {α : Type} (l : List α) : l.take ((l.length : Int)).toNat = l := by simp
def turn (x : Int) : Int := if card x < 0 then x else -1 - x
theorem in_turn {x : Int} (h : In x) : In (turn x) := by
  unfold turn
  unfold In at *
  split
  · exact h
  · omega
theorem s_TurnCard_ev (x : Int) (hx : In x) : Ev (fun k => s_TurnCard k x) (turn x) := by
  have h1 := hx.1
  have h2 := hx.2
  refine Ev.step (fun k => s_TurnCard_eq k x) (Ev.bind (s_CardOf_ev x) ?_)
  rw [wrap_id (by omega) (by omega)]
  refine Ev.ite (fun h => Ev.some ?_) (fun h => Ev.some ?_)
  · have : card x < 0 := by simpa using h
    simp [turn, this]
  · have : ¬ card x < 0 := by simpa using h
    simp only [turn, if_neg this]
theorem i_TurnCard_ev (x : Int) (hx : In x) : Ev (fun k => i_TurnCard k x) (turn x) := by
  have h1 := hx.1
  have h2 := hx.2
  refine Ev.step (fun k => i_TurnCard_eq k x) (Ev.bind (i_CardOf_ev x hx) ?_)
  rw [wrap_id (by omega) (by omega)]
  refine Ev.ite (fun h => Ev.some ?_) (fun h => Ev.some ?_)
  · have : card x < 0 := by simpa using h
    simp [turn, this]
  · have : ¬ card x < 0 := by simpa using h
    simp only [turn, if_neg this]
theorem take_back {α : Type} (p : List α) (i : Nat) (h : i < p.length) : (p.take (i + 1)).reverse = p[i] :: (p.take i).reverse := by
  rw [List.take_add_one, List.getElem?_eq_getElem h]; simp
theorem s_l04Back_l3_ev (p : List Int) (hp : p.length ≤ 12) (hi : Ins p) (n : Nat) (hn : n ≤ p.length) (up : Bool) : ∀ (i : Nat) (out : List Int), i ≤ n → out.length + i ≤ 12 →
    Ev (fun k => s_l04Back_l3 k p (n : Int) up ((i : Int) - 1) out) (out ++ (p.take i).reverse.map (fun x => bif up then turn x else x) ++ p.drop n)
  | 0, out, h, ho => by
    refine Ev.step (fun k => s_l04Back_l3_eq k _ _ _ _ _) ?_
    simp only [take_all, Int.toNat_natCast]
    refine Ev.no (by simp) (Ev.yes (by (first | (simp [rowMax_eq]; done) | (simp [rowMax_eq]; omega) | omega)) (Ev.yes (by (first | (simp [rowMax_eq]; done) | (simp [rowMax_eq]; omega) | omega)) (Ev.yes (by (first | (simp [rowMax_eq]; done) | (simp [rowMax_eq]; omega) | omega)) (Ev.yes (by (first | (simp [rowMax_eq]; done) | (simp [rowMax_eq]; omega) | omega)) (Ev.some ?_)))))
    simp
  | i + 1, out, h, ho => by
    have hlt : i < p.length := by omega
    have e0 : ((i + 1 : Nat) : Int) - 1 = (i : Int) := by omega
    have hg : p.getD (i : Int).toNat 0 = p[i] := by simp [List.getD, hlt]
    have hin : In p[i] := hi _ (List.getElem_mem hlt)
    refine Ev.step (fun k => s_l04Back_l3_eq k _ _ _ _ _) ?_
    simp only [e0, hg, wrap_id (x := (i : Int) - 1) (by omega) (by omega)]
    have ih := fun o (ho : o.length + i ≤ 12) => s_l04Back_l3_ev p hp hi n hn up i o (by omega) ho
    rw [take_back p i hlt]
    cases up with
    | true =>
      refine Ev.yes (by simp) (Ev.yes rfl (Ev.yes (by simp) (Ev.yes (by (first | (simp [rowMax_eq]; done) | (simp [rowMax_eq]; omega) | omega)) (Ev.bind (s_TurnCard_ev _ hin) (Ev.yes (by (first | (simp [rowMax_eq]; done) | (simp [rowMax_eq]; omega) | omega)) ?_)))))
      exact (ih _ (by simp; omega)).to (by simp)
    | false =>
      refine Ev.yes (by simp) (Ev.no rfl (Ev.yes (by simp) (Ev.yes (by (first | (simp [rowMax_eq]; done) | (simp [rowMax_eq]; omega) | omega)) (Ev.yes (by (first | (simp [rowMax_eq]; done) | (simp [rowMax_eq]; omega) | omega)) ?_))))
      exact (ih _ (by simp; omega)).to (by simp)
theorem s_l04Back_ev (p : List Int) (hp : p.length ≤ 12) (hi : Ins p) (n : Nat) (hn : n ≤ p.length) (up : Bool) :
    Ev (fun k => s_l04Back k (p, (n : Int), up)) ((p.take n).reverse.map (fun x => bif up then turn x else x) ++ p.drop n) := by
  refine Ev.step (fun k => s_l04Back_eq k _ _ _) ?_
  rw [wrap_id (x := (n : Int) - 1) (by omega) (by omega)]
  exact (s_l04Back_l3_ev p hp hi n hn up n [] (Nat.le_refl _) (by simp; omega)).to (by simp)
def fz : Bool → List Int → List Int → List Int
  | _, [], [] => []
  | f, x :: a, [] => x :: fz (!f) a []
  | f, [], y :: b => y :: fz (!f) [] b
  | true, x :: a, y :: b => x :: fz false a (y :: b)
  | false, x :: a, y :: b => y :: fz true (x :: a) b
termination_by _ a b => a.length + b.length
theorem parity (k : Int) (hk : k = 0 ∨ k = 1) (n : Nat) : (((n + 1 : Nat) : Int).tmod 2 == k) = !(((n : Nat) : Int).tmod 2 == k) := by
  rw [show ((n + 1 : Nat) : Int) = (n : Int) + 1 by omega, Int.tmod_eq_emod_of_nonneg (by omega), Int.tmod_eq_emod_of_nonneg (by omega)]
  by_cases h : (n : Int) % 2 = k
  · have h2 : ¬ ((n : Int) + 1) % 2 = k := by omega
    rw [beq_iff_eq.2 h, beq_eq_false_iff_ne.2 h2]; rfl
  · have h2 : ((n : Int) + 1) % 2 = k := by omega
    rw [beq_iff_eq.2 h2, beq_eq_false_iff_ne.2 h]; rfl
theorem s_l04Faro_l4_ev (k : Int) (hk : k = 0 ∨ k = 1) : ∀ (n : Nat) (a b out : List Int), a.length + b.length = n → out.length + n ≤ 12 →
    Ev (fun f => s_l04Faro_l4 f k a b out) (out ++ fz ((out.length : Int).tmod 2 == k) a b)
  | 0, a, b, out, h, ho => by
    have ea : a = [] := List.length_eq_zero_iff.1 (by omega)
    have eb : b = [] := List.length_eq_zero_iff.1 (by omega)
    subst ea eb
    refine Ev.step (fun f => s_l04Faro_l4_eq f _ _ _ _) (Ev.no (by simp) (Ev.no (by simp) (Ev.some ?_)))
    unfold fz; simp
  | n + 1, a, b, out, h, ho => by
    have ih := fun a b out h1 h2 => s_l04Faro_l4_ev k hk n a b out h1 h2
    refine Ev.step (fun f => s_l04Faro_l4_eq f _ _ _ _) ?_
    simp only [take_all]
    cases a with
    | nil =>
      cases b with
      | nil => simp at h
      | cons y b =>
        simp at h
        refine Ev.no (by simp) (Ev.yes (by (first | (simp [rowMax_eq]; done) | (simp [rowMax_eq]; omega) | omega)) (Ev.no (by (first | (simp [rowMax_eq]; done) | (simp [rowMax_eq]; omega) | omega)) (Ev.no (by simp) ?_)))
        (repeat (first | refine Ev.yes (by (first | (simp [rowMax_eq]; done) | (simp [rowMax_eq]; omega) | omega)) ?_ | refine Ev.no (by (first | (simp [rowMax_eq]; done) | (simp [rowMax_eq]; omega) | omega)) ?_))
        refine (ih [] b (out ++ [y]) (by simp; omega) (by simp; omega)).to ?_
        rw [List.length_append, List.length_singleton, parity k hk]
        conv => rhs; unfold fz
        simp
    | cons x a =>
      refine Ev.yes (by (first | (simp [rowMax_eq]; done) | (simp [rowMax_eq]; omega) | omega)) ?_
      cases b with
      | nil =>
        simp at h
        refine Ev.yes (by simp) ?_
        (repeat (first | refine Ev.yes (by (first | (simp [rowMax_eq]; done) | (simp [rowMax_eq]; omega) | omega)) ?_ | refine Ev.no (by (first | (simp [rowMax_eq]; done) | (simp [rowMax_eq]; omega) | omega)) ?_))
        refine (ih a [] (out ++ [x]) (by simp; omega) (by simp; omega)).to ?_
        rw [List.length_append, List.length_singleton, parity k hk]
        conv => rhs; unfold fz
        simp
      | cons y b =>
        simp at h
        refine Ev.no (by (first | (simp [rowMax_eq]; done) | (simp [rowMax_eq]; omega) | omega)) (Ev.yes (by (first | (simp [rowMax_eq]; done) | (simp [rowMax_eq]; omega) | omega)) ?_)
        refine Ev.ite (fun hf => ?_) (fun hf => ?_)
        · (repeat (first | refine Ev.yes (by (first | (simp [rowMax_eq]; done) | (simp [rowMax_eq]; omega) | omega)) ?_ | refine Ev.no (by (first | (simp [rowMax_eq]; done) | (simp [rowMax_eq]; omega) | omega)) ?_))
          refine (ih a (y :: b) (out ++ [x]) (by simp; omega) (by simp; omega)).to ?_
          rw [List.length_append, List.length_singleton, parity k hk, hf]
          conv => rhs; unfold fz
          simp
        · (repeat (first | refine Ev.yes (by (first | (simp [rowMax_eq]; done) | (simp [rowMax_eq]; omega) | omega)) ?_ | refine Ev.no (by (first | (simp [rowMax_eq]; done) | (simp [rowMax_eq]; omega) | omega)) ?_))
          refine (ih (x :: a) b (out ++ [y]) (by simp; omega) (by simp; omega)).to ?_
          rw [List.length_append, List.length_singleton, parity k hk, hf]
          conv => rhs; unfold fz
          simp
theorem i_faro_l4_ev : ∀ (n : Nat) (f : Bool) (a b out : List Int), a.length + b.length = n → out.length + n ≤ 12 → Ev (fun k => i_faro_l4 k a b f out) (out ++ fz f a b)
  | 0, f, a, b, out, h, ho => by
    have ea : a = [] := List.length_eq_zero_iff.1 (by omega)
    have eb : b = [] := List.length_eq_zero_iff.1 (by omega)
    subst ea eb
    refine Ev.step (fun k => i_faro_l4_eq k _ _ _ _) (Ev.no (by simp) (Ev.no (by simp) (Ev.some ?_)))
    unfold fz; simp
  | n + 1, f, a, b, out, h, ho => by
    have ih := fun f a b out h1 h2 => i_faro_l4_ev n f a b out h1 h2
    refine Ev.step (fun k => i_faro_l4_eq k _ _ _ _) ?_
    simp only [take_all]
    cases a with
    | nil =>
      cases b with
      | nil => simp at h
      | cons y b =>
        simp at h
        refine Ev.no (by simp) (Ev.yes (by (first | (simp [rowMax_eq]; done) | (simp [rowMax_eq]; omega) | omega)) ?_)
        cases f with
        | true =>
          refine Ev.yes rfl (Ev.no (by simp) ?_)
          (repeat (first | refine Ev.yes (by (first | (simp [rowMax_eq]; done) | (simp [rowMax_eq]; omega) | omega)) ?_ | refine Ev.no (by (first | (simp [rowMax_eq]; done) | (simp [rowMax_eq]; omega) | omega)) ?_))
          refine (ih false [] b (out ++ [y]) (by simp; omega) (by simp; omega)).to ?_
          conv => rhs; unfold fz
          simp
        | false =>
          refine Ev.no rfl (Ev.no (by (first | (simp [rowMax_eq]; done) | (simp [rowMax_eq]; omega) | omega)) ?_)
          (repeat (first | refine Ev.yes (by (first | (simp [rowMax_eq]; done) | (simp [rowMax_eq]; omega) | omega)) ?_ | refine Ev.no (by (first | (simp [rowMax_eq]; done) | (simp [rowMax_eq]; omega) | omega)) ?_))
          refine (ih true [] b (out ++ [y]) (by simp; omega) (by simp; omega)).to ?_
          conv => rhs; unfold fz
          simp
    | cons x a =>
      refine Ev.yes (by (first | (simp [rowMax_eq]; done) | (simp [rowMax_eq]; omega) | omega)) ?_
      cases f with
      | true =>
        refine Ev.yes rfl ?_
        (repeat (first | refine Ev.yes (by (first | (simp [rowMax_eq]; done) | (simp [rowMax_eq]; omega) | omega)) ?_ | refine Ev.no (by (first | (simp [rowMax_eq]; done) | (simp [rowMax_eq]; omega) | omega)) ?_))
        refine (ih false a b (out ++ [x]) (by simp at h ⊢; omega) (by simp; omega)).to ?_
        cases b with
        | nil => conv => rhs; unfold fz
                 simp
        | cons y b => conv => rhs; unfold fz
                      simp
      | false =>
        refine Ev.no rfl ?_
        cases b with
        | nil =>
          simp at h
          refine Ev.yes (by simp) ?_
          (repeat (first | refine Ev.yes (by (first | (simp [rowMax_eq]; done) | (simp [rowMax_eq]; omega) | omega)) ?_ | refine Ev.no (by (first | (simp [rowMax_eq]; done) | (simp [rowMax_eq]; omega) | omega)) ?_))
          refine (ih true a [] (out ++ [x]) (by simp; omega) (by simp; omega)).to ?_
          conv => rhs; unfold fz
          simp
        | cons y b =>
          simp at h
          refine Ev.no (by (first | (simp [rowMax_eq]; done) | (simp [rowMax_eq]; omega) | omega)) ?_
          (repeat (first | refine Ev.yes (by (first | (simp [rowMax_eq]; done) | (simp [rowMax_eq]; omega) | omega)) ?_ | refine Ev.no (by (first | (simp [rowMax_eq]; done) | (simp [rowMax_eq]; omega) | omega)) ?_))
          refine (ih true (x :: a) b (out ++ [y]) (by simp; omega) (by simp; omega)).to ?_
          conv => rhs; unfold fz
          simp
def faroL (p : List Int) (k : Int) : List Int := fz (k == 0) (p.take (p.length / 2)) (p.drop (p.length / 2))
theorem half (n : Nat) (h : n ≤ 4194304) : IntKind.i64.wrap ((n : Int).tdiv 2) = ((n / 2 : Nat) : Int) := by
  have : (n : Int).tdiv 2 = ((n / 2 : Nat) : Int) := by rw [Int.tdiv_eq_ediv_of_nonneg (by omega)]; omega
  rw [this, wrap_id (by omega) (by omega)]
theorem s_l04Faro_ev (p : List Int) (hp : p.length ≤ 12) (k : Int) (hk : k = 0 ∨ k = 1) : Ev (fun f => s_l04Faro f (p, k)) (faroL p k) := by
  refine Ev.step (fun f => s_l04Faro_eq f _ _) ?_
  simp only [half p.length (by omega), take_all, Int.toNat_natCast, List.take_length, List.drop_zero]
  (repeat (first | refine Ev.yes (by (first | (simp [rowMax_eq]; done) | (simp [rowMax_eq]; omega) | omega)) ?_ | refine Ev.no (by (first | (simp [rowMax_eq]; done) | (simp [rowMax_eq]; omega) | omega)) ?_))
  refine (s_l04Faro_l4_ev k hk p.length _ _ [] (by simp; omega) (by simp; omega)).to ?_
  rw [List.nil_append]
  unfold faroL
  congr 1
  rcases hk with rfl | rfl <;> rfl
theorem i_faro_ev (p : List Int) (hp : p.length ≤ 12) (k : Int) : Ev (fun f => i_faro f (p, k)) (faroL p k) := by
  refine Ev.step (fun f => i_faro_eq f _ _) ?_
  simp only [half p.length (by omega), take_all, Int.toNat_natCast, List.take_length, List.drop_zero]
  (repeat (first | refine Ev.yes (by (first | (simp [rowMax_eq]; done) | (simp [rowMax_eq]; omega) | omega)) ?_ | refine Ev.no (by (first | (simp [rowMax_eq]; done) | (simp [rowMax_eq]; omega) | omega)) ?_))
  refine (i_faro_l4_ev p.length (k == 0) _ _ [] (by simp; omega) (by simp; omega)).to ?_
  rw [List.nil_append]
  rfl
def mz (k : Int) : Nat → List Int → List Int → List Int
  | _, [], out => out
  | i, x :: r, out => if i = 0 ∨ (i : Int) % 2 = k then mz k (i + 1) r (out ++ [x]) else mz k (i + 1) r (x :: out)
theorem s_l04Monge_l3_ev (p : List Int) (hp : p.length ≤ 12) (k : Int) (hk : k = 0 ∨ k = 1) : ∀ (r : List Int) (i : Nat) (out : List Int), p.drop i = r → out.length = i → Ev (fun f => s_l04Monge_l3 f k p (p.length : Int) (i : Int) out) (mz k i r out)
  | [], i, out, h, ho => by
    have a := at_nil h
    refine Ev.step (fun f => s_l04Monge_l3_eq f _ _ _ _ _) ?_
    simp only [a.g, cond_false]
    exact Ev.pure _
  | x :: r, i, out, h, ho => by
    have a := at_cons h (by rw [maxLen_eq]; omega)
    have hlt := a.lt
    have ih := fun out ho => s_l04Monge_l3_ev p hp k hk r (i + 1) out a.next ho
    refine Ev.step (fun f => s_l04Monge_l3_eq f _ _ _ _ _) ?_
    simp only [a.g, a.z, a.get, a.w, cond_true]
    rw [Int.tmod_eq_emod_of_nonneg (by omega)]
    unfold mz
    refine Ev.ite (fun c => ?_) (fun c => Ev.ite (fun c2 => ?_) (fun c2 => ?_))
    · have : i = 0 := by have : (i : Int) = 0 := by simpa using c
                         omega
      rw [if_pos (.inl this)]
      exact Ev.yes (by (first | (simp [rowMax_eq]; done) | (simp [rowMax_eq]; omega) | omega)) (ih _ (by simp; omega))
    · have : (i : Int) % 2 = k := by simpa using c2
      rw [if_pos (.inr this)]
      exact Ev.yes (by (first | (simp [rowMax_eq]; done) | (simp [rowMax_eq]; omega) | omega)) (ih _ (by simp; omega))
    · have h1 : ¬ i = 0 := by have : ¬ (i : Int) = 0 := by simpa using c
                              omega
      have h2 : ¬ (i : Int) % 2 = k := by simpa using c2
      rw [if_neg (by rintro (h | h); exact h1 h; exact h2 h)]
      exact Ev.yes (by (first | (simp [rowMax_eq]; done) | (simp [rowMax_eq]; omega) | omega)) (ih _ (by simp; omega))
theorem i_monge_l3_ev (p : List Int) (hp : p.length ≤ 12) (k : Int) (hk : k = 0 ∨ k = 1) : ∀ (r : List Int) (i : Nat) (out : List Int), p.drop i = r → out.length = i → Ev (fun f => i_monge_l3 f k p (p.length : Int) (i : Int) out) (mz k i r out)
  | [], i, out, h, ho => by
    have a := at_nil h
    refine Ev.step (fun f => i_monge_l3_eq f _ _ _ _ _) ?_
    simp only [a.g, cond_false]
    exact Ev.pure _
  | x :: r, i, out, h, ho => by
    have a := at_cons h (by rw [maxLen_eq]; omega)
    have hlt := a.lt
    have ih := fun out ho => i_monge_l3_ev p hp k hk r (i + 1) out a.next ho
    refine Ev.step (fun f => i_monge_l3_eq f _ _ _ _ _) ?_
    simp only [a.g, a.z, a.get, a.w, cond_true]
    rw [wrap_id (x := (i : Int) + k) (by omega) (by omega), Int.tmod_eq_emod_of_nonneg (by omega)]
    unfold mz
    refine Ev.ite (fun c => Ev.ite (fun c2 => ?_) (fun c2 => ?_)) (fun c => ?_)
    · have h1 : (i : Int) > 0 := by simpa using c
      have h2 : ((i : Int) + k) % 2 = 1 := by simpa using c2
      rw [if_neg (by rintro (h | h) <;> omega)]
      exact Ev.yes (by (first | (simp [rowMax_eq]; done) | (simp [rowMax_eq]; omega) | omega)) (ih _ (by simp; omega))
    · have h1 : (i : Int) > 0 := by simpa using c
      have h2 : ¬ ((i : Int) + k) % 2 = 1 := by simpa using c2
      rw [if_pos (.inr (by omega))]
      exact Ev.yes (by (first | (simp [rowMax_eq]; done) | (simp [rowMax_eq]; omega) | omega)) (ih _ (by simp; omega))
    · have h1 : ¬ (i : Int) > 0 := by simpa using c
      rw [if_pos (.inl (by omega))]
      exact Ev.yes (by (first | (simp [rowMax_eq]; done) | (simp [rowMax_eq]; omega) | omega)) (ih _ (by simp; omega))
def kz : Nat → List Int → List Int → List Int
  | 0, p, out => p ++ out
  | n + 1, p, out => if 1 < p.length then kz n ((p.take (p.length - 1)).drop 1) (p.getD 0 0 :: p.getD (p.length - 1) 0 :: out) else p ++ out
theorem s_l04Milk_l2_ev : ∀ (n : Nat) (p out : List Int), p.length ≤ n → p.length + out.length ≤ 12 → Ev (fun f => s_l04Milk_l2 f p out) (kz n p out)
  | n, p, out, h, ho => by
    refine Ev.step (fun f => s_l04Milk_l2_eq f _ _) ?_
    by_cases c : 1 < p.length
    · match n, h with
      | 0, h => exact absurd c (by omega)
      | n + 1, h =>
      have e : ((p.length : Int) - 1) = ((p.length - 1 : Nat) : Int) := by omega
      unfold kz
      rw [if_pos c]
      simp only [e, wrap_id (x := ((p.length - 1 : Nat) : Int)) (by omega) (by omega), Int.toNat_natCast]
      refine Ev.yes (by simp; omega) ?_
      (repeat (first | refine Ev.yes (by (first | (simp [rowMax_eq]; done) | (simp [rowMax_eq]; omega) | omega)) ?_ | refine Ev.no (by (first | (simp [rowMax_eq]; done) | (simp [rowMax_eq]; omega) | omega)) ?_))
      exact s_l04Milk_l2_ev n _ _ (by simp; omega) (by simp; omega)
    · have : kz n p out = p ++ out := by cases n <;> simp [kz, c]
      rw [this]
      refine Ev.no (by simp; omega) (Ev.yes (by (first | (simp [rowMax_eq]; done) | (simp [rowMax_eq]; omega) | omega)) ?_)
      rw [List.nil_append]
      refine Ev.yes (by rw [rowMax_eq]; exact decide_eq_true (by omega)) (Ev.some rfl)
theorem i_milk_l2_ev : ∀ (n : Nat) (p out : List Int), p.length ≤ n → p.length + out.length ≤ 12 → Ev (fun f => i_milk_l2 f p out) (kz n p out)
  | n, p, out, h, ho => by
    refine Ev.step (fun f => i_milk_l2_eq f _ _) ?_
    by_cases c : 1 < p.length
    · match n, h with
      | 0, h => exact absurd c (by omega)
      | n + 1, h =>
      have e : ((p.length : Int) - 1) = ((p.length - 1 : Nat) : Int) := by omega
      unfold kz
      rw [if_pos c]
      simp only [e, wrap_id (x := ((p.length - 1 : Nat) : Int)) (by omega) (by omega), Int.toNat_natCast]
      refine Ev.yes (by simp; omega) ?_
      (repeat (first | refine Ev.yes (by (first | (simp [rowMax_eq]; done) | (simp [rowMax_eq]; omega) | omega)) ?_ | refine Ev.no (by (first | (simp [rowMax_eq]; done) | (simp [rowMax_eq]; omega) | omega)) ?_))
      exact i_milk_l2_ev n _ _ (by simp; omega) (by simp; omega)
    · have : kz n p out = p ++ out := by cases n <;> simp [kz, c]
      rw [this]
      refine Ev.no (by simp; omega) (Ev.bind (Clone_int_ev p (by omega)) (Ev.yes (by rw [rowMax_eq]; exact decide_eq_true (by omega)) (Ev.some rfl)))
def dz : Nat → Bool → List Int → List Int → List Int
  | 0, _, q, out => q.getD 0 0 :: out
  | n + 1, f, q, out => if 1 < q.length then (bif f then dz n false (q.drop 1) (q.getD 0 0 :: out) else dz n true (q.drop 1 ++ [q.getD 0 0]) out) else q.getD 0 0 :: out
theorem odd_step (s : Nat) : (((s + 1 : Nat) : Int).tmod 2 == 1) = !(((s : Nat) : Int).tmod 2 == 1) := parity 1 (.inr rfl) s
theorem s_l04Duck_l4_ev : ∀ (n : Nat) (s : Nat) (q out : List Int), 1 ≤ q.length → 2 * q.length + (bif ((s : Int).tmod 2 == 1) then 0 else 1) ≤ n → q.length + out.length ≤ 12 → s + n ≤ 1000 →
    Ev (fun f => s_l04Duck_l4 f (s : Int) q out) (dz n ((s : Int).tmod 2 == 1) q out)
  | 0, s, q, out, h1, h, ho, hs => by omega
  | n + 1, s, q, out, h1, h, ho, hs => by
    have ih := fun q out h1 h ho => s_l04Duck_l4_ev n (s + 1) q out h1 h ho (by omega)
    rw [odd_step] at ih
    refine Ev.step (fun f => s_l04Duck_l4_eq f _ _ _) ?_
    have ew : IntKind.i64.wrap ((s : Int) + 1) = ((s + 1 : Nat) : Int) := by rw [wrap_id (by omega) (by omega)]; omega
    simp only [ew, take_all]
    unfold dz
    by_cases c : 1 < q.length
    · rw [if_pos c]
      refine Ev.yes (by simp; omega) ?_
      cases hf : ((s : Int).tmod 2 == 1) with
      | true =>
        rw [hf] at h ih
        refine Ev.yes (by (first | (simp [rowMax_eq]; done) | (simp [rowMax_eq]; omega) | omega)) (Ev.yes (by (first | (simp [rowMax_eq]; done) | (simp [rowMax_eq]; omega) | omega)) (Ev.yes (by (first | (simp [rowMax_eq]; done) | (simp [rowMax_eq]; omega) | omega)) (Ev.yes (by (first | (simp [rowMax_eq]; done) | (simp [rowMax_eq]; omega) | omega)) (Ev.yes rfl ?_))))
        refine Ev.yes (by (first | (simp [rowMax_eq]; done) | (simp [rowMax_eq]; omega) | omega)) ?_
        exact ih (q.drop 1) (q.getD 0 0 :: out) (by simp; omega) (by simp at h ⊢; omega) (by simp; omega)
      | false =>
        rw [hf] at h ih
        refine Ev.yes (by (first | (simp [rowMax_eq]; done) | (simp [rowMax_eq]; omega) | omega)) (Ev.yes (by (first | (simp [rowMax_eq]; done) | (simp [rowMax_eq]; omega) | omega)) (Ev.yes (by (first | (simp [rowMax_eq]; done) | (simp [rowMax_eq]; omega) | omega)) (Ev.yes (by (first | (simp [rowMax_eq]; done) | (simp [rowMax_eq]; omega) | omega)) (Ev.no rfl ?_))))
        refine Ev.yes (by (first | (simp [rowMax_eq]; done) | (simp [rowMax_eq]; omega) | omega)) ?_
        exact ih (q.drop 1 ++ [q.getD 0 0]) out (by simp) (by simp at h ⊢; omega) (by simp; omega)
    · rw [if_neg c]
      refine Ev.no (by simp; omega) ?_
      (repeat (first | refine Ev.yes (by (first | (simp [rowMax_eq]; done) | (simp [rowMax_eq]; omega) | omega)) ?_ | refine Ev.no (by (first | (simp [rowMax_eq]; done) | (simp [rowMax_eq]; omega) | omega)) ?_))
      exact Ev.pure _
theorem i_dealt_l4_ev : ∀ (n : Nat) (f : Bool) (q out : List Int), 1 ≤ q.length → 2 * q.length + (bif f then 0 else 1) ≤ n → q.length + out.length ≤ 12 →
    ∃ y, Ev (fun k => i_dealt_l4 k f out q) y ∧ y.reverse = dz n f q out.reverse ∧ y.length = q.length + out.length
  | 0, f, q, out, h1, h, ho => by omega
  | n + 1, f, q, out, h1, h, ho => by
    have ih := fun f q out h1 h ho => i_dealt_l4_ev n f q out h1 h ho
    unfold dz
    by_cases c : 1 < q.length
    · rw [if_pos c]
      cases f with
      | true =>
        obtain ⟨y, e1, e2, e3⟩ := ih false (q.drop 1) (out ++ [q.getD 0 0]) (by simp; omega) (by simp at h ⊢; omega) (by simp; omega)
        refine ⟨y, Ev.step (fun k => i_dealt_l4_eq k _ _ _) ?_, ?_, by simp at e3; omega⟩
        · simp only [take_all]
          refine Ev.yes (by simp; omega) (Ev.yes rfl ?_)
          (repeat (first | refine Ev.yes (by (first | (simp [rowMax_eq]; done) | (simp [rowMax_eq]; omega) | omega)) ?_ | refine Ev.no (by (first | (simp [rowMax_eq]; done) | (simp [rowMax_eq]; omega) | omega)) ?_))
          exact e1
        · rw [e2]; simp
      | false =>
        obtain ⟨y, e1, e2, e3⟩ := ih true (q.drop 1 ++ [q.getD 0 0]) out (by simp) (by simp at h ⊢; omega) (by simp; omega)
        refine ⟨y, Ev.step (fun k => i_dealt_l4_eq k _ _ _) ?_, ?_, by simp at e3; omega⟩
        · have ed : (q ++ [q.getD 0 0]).drop 1 = q.drop 1 ++ [q.getD 0 0] := List.drop_append_of_le_length h1
          simp only [take_all, ed]
          refine Ev.yes (by simp; omega) (Ev.no rfl ?_)
          (repeat (first | refine Ev.yes (by (first | (simp [rowMax_eq]; done) | (simp [rowMax_eq]; omega) | omega)) ?_ | refine Ev.no (by (first | (simp [rowMax_eq]; done) | (simp [rowMax_eq]; omega) | omega)) ?_))
          exact e1
        · rw [e2]; rfl
    · rw [if_neg c]
      match q, h1, c with
      | [x], _, _ =>
        refine ⟨out ++ [x], Ev.step (fun k => i_dealt_l4_eq k _ _ _) (Ev.no (by simp) (Ev.yes (by (first | (simp [rowMax_eq]; done) | (simp [rowMax_eq]; omega) | omega)) (Ev.some rfl))), by simp, by simp; omega⟩
      | _ :: _ :: _, _, c => simp at c
end Qq
namespace Qq
open Go Go.Vt Pt
set_option linter.unusedVariables false
set_option linter.unusedSimpArgs false
def lessL : List Int → List Int → Bool
  | [], b => decide (0 < b.length)
  | _ :: _, [] => false
  | x :: a, y :: b => if x = y then lessL a b else decide (x < y)
def cmpL : List Int → List Int → Int
  | [], b => if 0 < b.length then -1 else 0
  | _ :: _, [] => 1
  | x :: a, y :: b => if x = y then cmpL a b else if x < y then -1 else 1
theorem cmpL_less : ∀ a b, decide (cmpL a b ≥ 0) = !lessL a b
  | [], [] => rfl
  | [], _ :: _ => by simp [cmpL, lessL]
  | _ :: _, [] => rfl
  | x :: a, y :: b => by
    unfold cmpL lessL
    by_cases h : x = y
    · rw [if_pos h, if_pos h, cmpL_less a b]
    · rw [if_neg h, if_neg h]
      by_cases h2 : x < y
      · simp [h2]
      · simp [h2]
theorem drop_len {α : Type} {xs r : List α} {i : Nat} (h : xs.drop i = r) : xs.length - i = r.length := by rw [← h, List.length_drop]
theorem s_l05Less_l2_ev (xs ys : List Int) (hm : xs.length ≤ maxLen) (hy : ys.length ≤ maxLen) : ∀ (r s : List Int) (i : Nat), i ≤ xs.length → xs.drop i = r → ys.drop i = s → Ev (fun k => s_l05Less_l2 k xs ys xs (xs.length : Int) (i : Int)) (lessL r s)
  | [], s, i, hi, h, h2 => by
    have a := at_nil h
    have := a.ge
    have hl := drop_len h2
    refine Ev.step (fun k => s_l05Less_l2_eq k _ _ _ _ _) ?_
    simp only [a.g, cond_false]
    refine Ev.some ?_
    unfold lessL
    rw [Bool.eq_iff_iff]; simp; omega
  | x :: r, [], i, hi, h, h2 => by
    have a := at_cons h hm
    have b := at_nil h2
    refine Ev.step (fun k => s_l05Less_l2_eq k _ _ _ _ _) ?_
    simp only [a.g, a.z, cond_true]
    refine Ev.yes (by have := b.ge; simp; omega) (Ev.some rfl)
  | x :: r, y :: s, i, hi, h, h2 => by
    have a := at_cons h hm
    have b := at_cons h2 hy
    have hlt := a.lt
    have ih := s_l05Less_l2_ev xs ys hm hy r s (i + 1) (by omega) a.next b.next
    refine Ev.step (fun k => s_l05Less_l2_eq k _ _ _ _ _) ?_
    simp only [a.g, a.z, a.get, a.w, cond_true]
    refine Ev.no (by have := b.lt; simp; omega) ?_
    simp only [b.g, b.get, cond_true]
    unfold lessL
    refine Ev.ite (fun c => Ev.some ?_) (fun c => ih.to ?_)
    · have : ¬ x = y := by simpa using c
      rw [if_neg this]
    · have : x = y := by simpa using c
      rw [if_pos this]
theorem s_l05Less_ev (xs ys : List Int) (hm : xs.length ≤ maxLen) (hy : ys.length ≤ maxLen) : Ev (fun k => s_l05Less k (xs, ys)) (lessL xs ys) :=
  Ev.step (fun k => s_l05Less_eq k xs ys) (s_l05Less_l2_ev xs ys hm hy xs ys 0 (by omega) rfl rfl)
abbrev Packs : Type := List (List Int)
/-- Numbers and lengths are such as a machine bears. -/
def FitS (l : Packs) : Prop := l.length ≤ maxLen ∧ ∀ p ∈ l, p.length ≤ maxLen ∧ Ins p
theorem FitS.of {l : Packs} (h : Fits (.slice (.slice (.int .i64))) l) : FitS l :=
  ⟨h.1, fun p hp => ⟨(h.2 p hp).1, fun x hx => In.of_fits ((h.2 p hp).2 x hx)⟩⟩
def kF (p0 : List Int) : Option (List Int) → Packs → Bool
  | _, [] => true
  | pv, q :: r => isArr p0 q && ((match pv with | none => true | some p => lessL p q) && kF p0 (some q) r)
def knowOk (l : Packs) : Bool := match l with
  | [] => false
  | p0 :: _ => decide (l.length ≤ 3000) && (!(p0.length == 0) && kF p0 none l)
end Qq
namespace Qq
open Go Go.Vt Pt
set_option linter.unusedVariables false
set_option linter.unusedSimpArgs false
theorem getD_in {p : List Int} (h : Ins p) (i : Nat) : In (p.getD i 0) := by
  rw [List.getD]
  cases hi : p[i]? with
  | none => exact ⟨by decide, by decide⟩
  | some x => exact h x (List.mem_of_getElem? hi)
end Qq
namespace Qq
open Go Go.Vt Pt
set_option linter.unusedVariables false
set_option linter.unusedSimpArgs false
set_option linter.unnecessarySimpa false
theorem Concat_l11_ev (ls : List (List Int)) (hl : ls.length ≤ maxLen) : ∀ (r : List (List Int)) (i : Nat) (out : List Int), ls.drop i = r → out.length + r.flatten.length ≤ 1048576 → Ev (fun k => slices_Concat_int_l11 k ls (ls.length : Int) (i : Int) out) (out ++ r.flatten)
  | [], i, out, h, ho => by
    have a := at_nil h
    refine Ev.step (fun k => slices_Concat_int_l11_eq k _ _ _ _) ?_
    simp only [a.g, cond_false]
    exact Ev.some (by simp)
  | x :: r, i, out, h, ho => by
    have a := at_cons h hl
    have hlt := a.lt
    simp only [List.flatten_cons, List.length_append] at ho
    refine Ev.step (fun k => slices_Concat_int_l11_eq k _ _ _ _) ?_
    simp only [a.g, a.z, a.get, a.w, cond_true]
    refine Ev.yes (by rw [rowMax_eq]; exact decide_eq_true (by omega)) ?_
    exact (Concat_l11_ev ls hl r (i + 1) (out ++ x) a.next (by simp; simp at ho; omega)).to (by simp)
theorem Concat_l3_ev (ls : List (List Int)) (hl : ls.length ≤ maxLen) (ht : ls.flatten.length ≤ 1048576) : ∀ (r : List (List Int)) (i : Nat) (n : Nat), ls.drop i = r → n + r.flatten.length ≤ 1048576 → Ev (fun k => slices_Concat_int_l3 k ls (n : Int) ls (ls.length : Int) (i : Int)) ls.flatten
  | [], i, n, h, hn => by
    have a := at_nil h
    refine Ev.step (fun k => slices_Concat_int_l3_eq k _ _ _ _ _) ?_
    simp only [a.g, cond_false]
    have hg : Ev (fun k => slices_Grow_int k ([], (n : Int))) [] := Ev.congr (fun k => slices_Grow_int_eq k [] (n : Int)) (by
      show Ev (fun _ => growF (n : Int)) []
      unfold growF
      simp at hn
      exact Ev.yes (by simp; omega) (Ev.pure _))
    exact Ev.bind hg ((Concat_l11_ev ls hl ls 0 [] rfl (by simpa using ht)).to (by simp))
  | x :: r, i, n, h, hn => by
    have a := at_cons h hl
    have hlt := a.lt
    simp only [List.flatten_cons, List.length_append] at hn
    refine Ev.step (fun k => slices_Concat_int_l3_eq k _ _ _ _ _) ?_
    have e : (n : Int) + (x.length : Int) = ((n + x.length : Nat) : Int) := by omega
    simp only [a.g, a.z, a.get, a.w, cond_true, e, wrap_id (x := ((n + x.length : Nat) : Int)) (by omega) (by omega)]
    refine Ev.no (by simp; omega) ?_
    exact Concat_l3_ev ls hl ht r (i + 1) (n + x.length) a.next (by omega)
theorem Concat_ev (ls : List (List Int)) (hl : ls.length ≤ maxLen) (ht : ls.flatten.length ≤ 1048576) : Ev (fun k => slices_Concat_int k ls) ls.flatten :=
  Ev.step (fun k => slices_Concat_int_eq k _) (Concat_l3_ev ls hl ht ls 0 0 rfl (by omega))
theorem reversed_ev (p : List Int) (hp : p.length ≤ 1048576) : Ev (fun k => i_reversed k p) p.reverse := by
  have hr : Ev (fun k => slices_Reverse_int k p) ((), p.reverse) := Ev.congr (fun k => slices_Reverse_int_eq k p) (by
    unfold reverseF
    exact Ev.yes (by simp; omega) (Ev.pure _))
  exact Ev.step (fun k => i_reversed_eq k _) (Ev.bind (Clone_int_ev p hp) (Ev.bind hr (Ev.pure _)))
theorem i_moved_l10_ev (K : Nat) : ∀ (m : Nat) (pre r : List Int), m ≤ r.length → pre.length + m = K → pre.length + r.length ≤ 12 → Ins r → Ev (fun k => i_moved_l10 k (K : Int) (pre.length : Int) (pre ++ r)) (pre ++ (r.take m).map turn ++ r.drop m)
  | 0, pre, r, hm, hK, h12, hi => by
    refine Ev.step (fun k => i_moved_l10_eq k _ _ _) (Ev.no (by simp; omega) (Ev.some (by simp)))
  | m + 1, pre, [], hm, hK, h12, hi => by simp at hm
  | m + 1, pre, x :: r, hm, hK, h12, hi => by
    simp at hm h12
    have hx : In x := hi x (by simp)
    have hg : (pre ++ x :: r).getD (pre.length : Int).toNat 0 = x := by simp [List.getD]
    have hs : (pre ++ x :: r).set (pre.length : Int).toNat (turn x) = pre ++ turn x :: r := by simp
    have ew : IntKind.i64.wrap ((pre.length : Int) + 1) = ((pre.length + 1 : Nat) : Int) := by rw [wrap_id (by omega) (by omega)]; omega
    refine Ev.step (fun k => i_moved_l10_eq k _ _ _) ?_
    simp only [hg, hs, ew]
    refine Ev.yes (by simp; omega) (Ev.yes (by simp) (Ev.yes (by (first | (simp [rowMax_eq]; done) | (simp [rowMax_eq]; omega) | omega)) (Ev.yes (by (first | (simp [rowMax_eq]; done) | (simp [rowMax_eq]; omega) | omega)) (Ev.bind (i_TurnCard_ev x hx) ?_))))
    simp only [hs]
    refine Ev.yes (by simp) (Ev.yes (by (first | (simp [rowMax_eq]; done) | (simp [rowMax_eq]; omega) | omega)) (Ev.yes (by (first | (simp [rowMax_eq]; done) | (simp [rowMax_eq]; omega) | omega)) ?_))
    have := i_moved_l10_ev K m (pre ++ [turn x]) r hm (by simp; omega) (by simp; omega) (fun y hy => hi y (by simp [hy]))
    simp only [List.length_append, List.length_singleton, List.append_assoc, List.singleton_append] at this
    exact this.to (by simp)
def doMove (p : List Int) (m : Int × Int) : List Int :=
  if m.1 = 1 then p.drop m.2.toNat ++ p.take m.2.toNat
  else if m.1 = 2 then (p.take m.2.toNat).reverse ++ p.drop m.2.toNat
  else if m.1 = 3 then (p.take m.2.toNat).reverse.map turn ++ p.drop m.2.toNat
  else if m.1 = 4 then faroL p m.2
  else if m.1 = 5 then mz m.2 0 p []
  else if m.1 = 6 then kz p.length p []
  else if m.1 = 7 then dz (2 * p.length + 1) (m.2 == 1) p []
  else if m.1 = 8 then p.set m.2.toNat (turn (p.getD m.2.toNat 0))
  else p.take m.2.toNat ++ p.drop (m.2.toNat + 1) ++ [p.getD m.2.toNat 0]
structure MoveFit (n : Nat) (m : Int × Int) : Prop where
  n1 : 1 ≤ n
  n12 : n ≤ 12
  k0 : 0 ≤ m.2
  kn : m.2 ≤ n ∨ m.2 ≤ 1
  c : m.1 = 1 ∨ m.1 = 2 ∨ m.1 = 3 → m.2 ≤ n
  f : m.1 = 4 ∨ m.1 = 5 ∨ m.1 = 7 → m.2 = 0 ∨ m.2 = 1
  t : m.1 ≠ 1 → m.1 ≠ 2 → m.1 ≠ 3 → m.1 ≠ 4 → m.1 ≠ 5 → m.1 ≠ 6 → m.1 ≠ 7 → m.2 < n
theorem moveOk_fit {n : Nat} {m : Int × Int} (h : moveOk (n : Int) m = true) : MoveFit n m := by
  unfold moveOk at h
  simp only [Bool.and_eq_true, decide_eq_true_eq] at h
  obtain ⟨h1, h2, h3, h4⟩ := h
  have key : (m.1 = 1 ∧ m.2 ≤ n) ∨ (m.1 = 2 ∧ m.2 ≤ n) ∨ (m.1 = 3 ∧ m.2 ≤ n) ∨ (m.1 = 4 ∧ m.2 ≤ 1) ∨ (m.1 = 5 ∧ m.2 ≤ 1) ∨ (m.1 = 7 ∧ m.2 ≤ 1) ∨ (m.1 = 6 ∧ m.2 = 0) ∨ (m.1 = 8 ∧ m.2 < n) ∨ (m.1 = 9 ∧ m.2 < n) := by
    repeat' (split at h4)
    all_goals simp at h4
    all_goals simp [*]
  exact ⟨by omega, by omega, h3, by omega, by omega, by omega, by omega⟩
theorem s_l04Do_ev (p : List Int) (m : Int × Int) (h : MoveFit p.length m) (hi : Ins p) : Ev (fun k => s_l04Do k (p, m)) (doMove p m) := by
  have hp := h.n12
  have hp1 := h.n1
  obtain ⟨a, b⟩ := m
  have h0 := h.k0
  obtain ⟨j, rfl⟩ : ∃ j : Nat, b = (j : Int) := ⟨b.toNat, by have := h0; simp at this; omega⟩
  have hc := h.c
  have hf := h.f
  have ht := h.t
  dsimp only at hc hf ht
  clear h h0
  refine Ev.step (fun k => s_l04Do_eq k p (a, (j : Int))) ?_
  unfold doMove
  simp only [take_all, Int.toNat_natCast, List.take_length, List.drop_zero, List.nil_append]
  refine Ev.ite (fun c => ?_) (fun c1 => Ev.ite (fun c => ?_) (fun c2 => Ev.ite (fun c => ?_) (fun c3 => Ev.ite (fun c => ?_) (fun c4 => Ev.ite (fun c => ?_) (fun c5 => Ev.ite (fun c => ?_) (fun c6 => Ev.ite (fun c => ?_) (fun c7 => Ev.ite (fun c => ?_) (fun c8 => ?_))))))))
  all_goals simp only [beq_iff_eq, beq_eq_false_iff_ne, ne_eq] at *
  · have := hc (by omega)
    rw [if_pos c]
    (repeat (first | refine Ev.yes (by (first | (simp [rowMax_eq]; done) | (simp [rowMax_eq]; omega) | omega)) ?_ | refine Ev.no (by (first | (simp [rowMax_eq]; done) | (simp [rowMax_eq]; omega) | omega)) ?_))
    exact Ev.pure _
  · have := hc (by omega)
    rw [if_neg c1, if_pos c]
    exact Ev.bind (s_l04Back_ev p hp hi j (by omega) false) (Ev.some (by simp))
  · have := hc (by omega)
    rw [if_neg c1, if_neg c2, if_pos c]
    exact Ev.bind (s_l04Back_ev p hp hi j (by omega) true) (Ev.some (by simp))
  · rw [if_neg c1, if_neg c2, if_neg c3, if_pos c]
    exact Ev.bind (s_l04Faro_ev p hp _ (hf (by omega))) (Ev.pure _)
  · rw [if_neg c1, if_neg c2, if_neg c3, if_neg c4, if_pos c]
    exact Ev.bind (Ev.step (fun k => s_l04Monge_eq k _ _) (s_l04Monge_l3_ev p hp _ (hf (by omega)) p 0 [] rfl rfl)) (Ev.pure _)
  · rw [if_neg c1, if_neg c2, if_neg c3, if_neg c4, if_neg c5, if_pos c]
    exact Ev.bind (Ev.step (fun k => s_l04Milk_eq k _) (s_l04Milk_l2_ev p.length p [] (Nat.le_refl _) (by simp; omega))) (Ev.pure _)
  · rw [if_neg c1, if_neg c2, if_neg c3, if_neg c4, if_neg c5, if_neg c6, if_pos c]
    have hj := hf (by omega)
    have e : ((j : Int).tmod 2 == 1) = ((j : Int) == 1) := by rcases hj with hj | hj <;> rw [hj] <;> rfl
    have hd := s_l04Duck_l4_ev (2 * p.length + 1) j p [] hp1 (by cases ((j : Int).tmod 2 == 1) <;> simp) (by simp; omega) (by omega)
    rw [e] at hd
    refine Ev.bind (Ev.step (fun k => s_l04Duck_eq k _ _) (Ev.yes (by (first | (simp [rowMax_eq]; done) | (simp [rowMax_eq]; omega) | omega)) ?_)) (Ev.pure _)
    rw [List.nil_append]
    exact hd
  · rw [if_neg c1, if_neg c2, if_neg c3, if_neg c4, if_neg c5, if_neg c6, if_neg c7, if_pos c]
    have := ht c1 c2 c3 c4 c5 c6 c7
    have hin : In (p.getD j 0) := getD_in hi _
    (repeat (first | refine Ev.yes (by (first | (simp [rowMax_eq]; done) | (simp [rowMax_eq]; omega) | omega)) ?_ | refine Ev.no (by (first | (simp [rowMax_eq]; done) | (simp [rowMax_eq]; omega) | omega)) ?_))
    refine Ev.bind (s_TurnCard_ev _ hin) ?_
    (repeat (first | refine Ev.yes (by (first | (simp [rowMax_eq]; done) | (simp [rowMax_eq]; omega) | omega)) ?_ | refine Ev.no (by (first | (simp [rowMax_eq]; done) | (simp [rowMax_eq]; omega) | omega)) ?_))
    exact Ev.pure _
  · rw [if_neg c1, if_neg c2, if_neg c3, if_neg c4, if_neg c5, if_neg c6, if_neg c7, if_neg c8]
    have := ht c1 c2 c3 c4 c5 c6 c7
    have e : IntKind.i64.wrap ((j : Int) + 1) = ((j + 1 : Nat) : Int) := by rw [wrap_id (by omega) (by omega)]; omega
    simp only [e, Int.toNat_natCast]
    (repeat (first | refine Ev.yes (by (first | (simp [rowMax_eq]; done) | (simp [rowMax_eq]; omega) | omega)) ?_ | refine Ev.no (by (first | (simp [rowMax_eq]; done) | (simp [rowMax_eq]; omega) | omega)) ?_))
    exact Ev.pure _
theorem i_moved_ev (p : List Int) (m : Int × Int) (h : MoveFit p.length m) (hi : Ins p) : Ev (fun k => i_moved k (p, m)) (doMove p m) := by
  have hp := h.n12
  have hp1 := h.n1
  obtain ⟨a, b⟩ := m
  have h0 := h.k0
  obtain ⟨j, rfl⟩ : ∃ j : Nat, b = (j : Int) := ⟨b.toNat, by have := h0; simp at this; omega⟩
  have hc := h.c
  have hf := h.f
  have ht := h.t
  dsimp only at hc hf ht
  clear h h0
  refine Ev.step (fun k => i_moved_eq k p (a, (j : Int))) ?_
  unfold doMove
  simp only [take_all, Int.toNat_natCast, List.take_length, List.drop_zero, List.nil_append]
  have hlen2 : ∀ (x y : List Int), x.length + y.length ≤ 1048576 → Ev (fun k => slices_Concat_int k [x, y]) (x ++ y) := fun x y hxy => (Concat_ev [x, y] (by rw [maxLen_eq]; simp) (by simpa using hxy)).to (by simp)
  refine Ev.ite (fun c => ?_) (fun c1 => Ev.ite (fun c => ?_) (fun c2 => Ev.ite (fun c => ?_) (fun c3 => Ev.ite (fun c => ?_) (fun c4 => Ev.ite (fun c => ?_) (fun c5 => Ev.ite (fun c => ?_) (fun c6 => Ev.ite (fun c => ?_) (fun c7 => Ev.ite (fun c => ?_) (fun c8 => ?_))))))))
  all_goals simp only [beq_iff_eq, beq_eq_false_iff_ne, ne_eq] at *
  · have := hc (by omega)
    rw [if_pos c]
    (repeat (first | refine Ev.yes (by (first | (simp [rowMax_eq]; done) | (simp [rowMax_eq]; omega) | omega)) ?_ | refine Ev.no (by (first | (simp [rowMax_eq]; done) | (simp [rowMax_eq]; omega) | omega)) ?_))
    exact Ev.bind (hlen2 _ _ (by simp; omega)) (Ev.pure _)
  · have := hc (by omega)
    rw [if_neg c1, if_pos c]
    (repeat (first | refine Ev.yes (by (first | (simp [rowMax_eq]; done) | (simp [rowMax_eq]; omega) | omega)) ?_ | refine Ev.no (by (first | (simp [rowMax_eq]; done) | (simp [rowMax_eq]; omega) | omega)) ?_))
    refine Ev.bind (reversed_ev _ (by simp; omega)) ?_
    (repeat (first | refine Ev.yes (by (first | (simp [rowMax_eq]; done) | (simp [rowMax_eq]; omega) | omega)) ?_ | refine Ev.no (by (first | (simp [rowMax_eq]; done) | (simp [rowMax_eq]; omega) | omega)) ?_))
    exact Ev.bind (hlen2 _ _ (by simp; omega)) (Ev.pure _)
  · have := hc (by omega)
    rw [if_neg c1, if_neg c2, if_pos c]
    (repeat (first | refine Ev.yes (by (first | (simp [rowMax_eq]; done) | (simp [rowMax_eq]; omega) | omega)) ?_ | refine Ev.no (by (first | (simp [rowMax_eq]; done) | (simp [rowMax_eq]; omega) | omega)) ?_))
    refine Ev.bind (reversed_ev _ (by simp; omega)) ?_
    (repeat (first | refine Ev.yes (by (first | (simp [rowMax_eq]; done) | (simp [rowMax_eq]; omega) | omega)) ?_ | refine Ev.no (by (first | (simp [rowMax_eq]; done) | (simp [rowMax_eq]; omega) | omega)) ?_))
    refine Ev.bind (hlen2 _ _ (by simp; omega)) ?_
    have hr : (p.take j).reverse.length = j := by simp; omega
    have := i_moved_l10_ev j j [] ((p.take j).reverse ++ p.drop j) (by simp; omega) (by simp) (by simp; omega) (fun x hx => by
      rcases List.mem_append.1 hx with h | h
      · exact hi x (List.mem_of_mem_take (List.mem_reverse.1 h))
      · exact hi x (List.mem_of_mem_drop h))
    refine this.to ?_
    rw [List.nil_append, List.take_append_of_le_length (by omega), List.drop_append_of_le_length (by omega), List.take_of_length_le (by omega), List.drop_eq_nil_of_le (by omega), List.nil_append]
  · rw [if_neg c1, if_neg c2, if_neg c3, if_pos c]
    exact Ev.bind (i_faro_ev p hp _) (Ev.pure _)
  · rw [if_neg c1, if_neg c2, if_neg c3, if_neg c4, if_pos c]
    exact Ev.bind (Ev.step (fun k => i_monge_eq k _ _) (i_monge_l3_ev p hp _ (hf (by omega)) p 0 [] rfl rfl)) (Ev.pure _)
  · rw [if_neg c1, if_neg c2, if_neg c3, if_neg c4, if_neg c5, if_pos c]
    exact Ev.bind (Ev.step (fun k => i_milk_eq k _) (i_milk_l2_ev p.length p [] (Nat.le_refl _) (by simp; omega))) (Ev.pure _)
  · rw [if_neg c1, if_neg c2, if_neg c3, if_neg c4, if_neg c5, if_neg c6, if_pos c]
    obtain ⟨y, e1, e2, e3⟩ := i_dealt_l4_ev (2 * p.length + 1) ((j : Int) == 1) p [] hp1 (by cases ((j : Int) == 1) <;> simp) (by simp; omega)
    refine Ev.bind (Ev.step (fun k => i_dealt_eq k _ _) (Ev.bind (Clone_int_ev p (by omega)) e1)) (Ev.bind (reversed_ev y (by simp at e3; omega)) (Ev.some ?_))
    rw [e2]; rfl
  · rw [if_neg c1, if_neg c2, if_neg c3, if_neg c4, if_neg c5, if_neg c6, if_neg c7, if_pos c]
    have := ht c1 c2 c3 c4 c5 c6 c7
    have hin : In (p.getD j 0) := getD_in hi _
    refine Ev.bind (Clone_int_ev p (by omega)) ?_
    (repeat (first | refine Ev.yes (by (first | (simp [rowMax_eq]; done) | (simp [rowMax_eq]; omega) | omega)) ?_ | refine Ev.no (by (first | (simp [rowMax_eq]; done) | (simp [rowMax_eq]; omega) | omega)) ?_))
    refine Ev.bind (i_TurnCard_ev _ hin) ?_
    (repeat (first | refine Ev.yes (by (first | (simp [rowMax_eq]; done) | (simp [rowMax_eq]; omega) | omega)) ?_ | refine Ev.no (by (first | (simp [rowMax_eq]; done) | (simp [rowMax_eq]; omega) | omega)) ?_))
    exact Ev.pure _
  · rw [if_neg c1, if_neg c2, if_neg c3, if_neg c4, if_neg c5, if_neg c6, if_neg c7, if_neg c8]
    have := ht c1 c2 c3 c4 c5 c6 c7
    have hjl : j < p.length := by omega
    have e : IntKind.i64.wrap ((j : Int) + 1) = ((j + 1 : Nat) : Int) := by rw [wrap_id (by omega) (by omega)]; omega
    simp only [e, Int.toNat_natCast]
    (repeat (first | refine Ev.yes (by (first | (simp [rowMax_eq]; done) | (simp [rowMax_eq]; omega) | omega)) ?_ | refine Ev.no (by (first | (simp [rowMax_eq]; done) | (simp [rowMax_eq]; omega) | omega)) ?_))
    refine Ev.bind ((Concat_ev [p.take j, p.drop (j + 1), (p.take (j + 1)).drop j] (by rw [maxLen_eq]; simp) (by simp; omega)).to ?_) (Ev.pure _)
    have : (p.take (j + 1)).drop j = [p.getD j 0] := by
      rw [List.take_add_one, List.getElem?_eq_getElem hjl, List.drop_append_of_le_length (by simp; omega), List.drop_eq_nil_of_le (by simp; omega)]
      simp [List.getD, hjl]
    rw [this]
    simp
end Qq
namespace Qq
open Go Go.Vt Pt
set_option linter.unusedVariables false
set_option linter.unusedSimpArgs false
theorem SamePacket_l4_ev (xs ys : List Int) (hx : xs.length ≤ maxLen) (hy : ys.length ≤ maxLen) : ∀ (r s : List Int) (i : Nat), xs.drop i = r → ys.drop i = s → s.length = r.length → Ev (fun k => s_SamePacket_l4 k ys xs (xs.length : Int) (i : Int)) (r == s)
  | [], [], i, h1, h2, hl => by
    have a := at_nil h1
    refine Ev.step (fun k => s_SamePacket_l4_eq k ys xs _ i) ?_
    simp only [a.g, cond_false]
    exact Ev.pure _
  | x :: r, y :: s, i, h1, h2, hl => by
    have a := at_cons h1 hx
    have b := at_cons h2 hy
    refine Ev.step (fun k => s_SamePacket_l4_eq k ys xs _ i) ?_
    simp only [a.g, a.z, b.g, a.get, b.get, a.w, cond_true]
    have ih := SamePacket_l4_ev xs ys hx hy r s (i + 1) a.next b.next (by simpa using hl)
    refine Ev.ite (fun h => Ev.some ?_) (fun h => ih.to ?_)
    · have : ¬ x = y := by simpa using h
      simp [this]
    · have : x = y := by simpa using h
      simp [this]
  | [], _ :: _, _, _, _, hl => by simp at hl
  | _ :: _, [], _, _, _, hl => by simp at hl
theorem SamePacket_ev (xs ys : List Int) (hx : xs.length ≤ maxLen) (hy : ys.length ≤ maxLen) : Ev (fun k => s_SamePacket k (xs, ys)) (xs == ys) := by
  refine Ev.step (fun k => s_SamePacket_eq k xs ys) (Ev.ite (fun h => Ev.some ?_) (fun h => SamePacket_l4_ev xs ys hx hy xs ys 0 rfl rfl ?_))
  · have h' : ¬ xs.length = ys.length := by simp at h; omega
    have : ¬ xs = ys := fun e => h' (by rw [e])
    simp [this]
  · simp at h; omega
end Qq
namespace Qq
open Go Go.Vt Pt
set_option linter.unusedVariables false
set_option linter.unusedSimpArgs false
set_option linter.unnecessarySimpa false
theorem cmpL_I : ∀ a b, cmpL a b = cmpI a b
  | [], _ => rfl
  | _ :: _, [] => rfl
  | x :: a, y :: b => by unfold cmpL cmpI; rw [cmpL_I a b]
theorem lessL_I (a b : List Int) : lessL a b = decide (cmpI a b < 0) := by
  have := cmpL_less a b
  rw [cmpL_I] at this
  by_cases h : cmpI a b < 0
  · rw [decide_eq_false (by omega)] at this; rw [decide_eq_true h]; simpa using this.symm
  · rw [decide_eq_true (by omega)] at this; rw [decide_eq_false h]; simpa using this.symm
theorem leI_not {a b : List Int} : leI a b = true ↔ ¬ cmpI b a < 0 := by unfold leI; simp
theorem lt_of_le_ne {a b : List Int} (h : leI a b = true) (hn : a ≠ b) : cmpI a b < 0 := by
  by_cases k : cmpI a b < 0
  · exact k
  · exact (hn (cmpI_anti a b k (leI_not.1 h))).elim
theorem le_of_lt {a b : List Int} (h : cmpI a b < 0) : leI a b = true := leI_not.2 fun k => cmpI_irrefl a (cmpI_trans a b a h k)
/-- Strictly ascending. -/
def SS (l : Packs) : Prop := l.Pairwise fun a b => cmpI a b < 0
theorem ss_unique : ∀ {l m : Packs}, SS l → SS m → (∀ x, x ∈ l ↔ x ∈ m) → l = m
  | [], [], _, _, _ => rfl
  | [], y :: m, _, _, h => by have := (h y).2 (by simp); simp at this
  | x :: l, [], _, _, h => by have := (h x).1 (by simp); simp at this
  | x :: l, y :: m, hl, hm, h => by
    obtain ⟨hl1, hl2⟩ := List.pairwise_cons.1 hl
    obtain ⟨hm1, hm2⟩ := List.pairwise_cons.1 hm
    have e : x = y := by
      rcases List.mem_cons.1 ((h x).1 (by simp)) with e | hx
      · exact e
      · rcases List.mem_cons.1 ((h y).2 (by simp)) with e | hy
        · exact e.symm
        · exact (cmpI_irrefl x (cmpI_trans x y x (hl1 y hy) (hm1 x hx))).elim
    subst e
    have : l = m := ss_unique hl2 hm2 fun z => by
      constructor
      · intro hz
        rcases List.mem_cons.1 ((h z).1 (List.mem_cons_of_mem _ hz)) with e | hz2
        · subst e; exact (cmpI_irrefl _ (hl1 _ hz)).elim
        · exact hz2
      · intro hz
        rcases List.mem_cons.1 ((h z).2 (List.mem_cons_of_mem _ hz)) with e | hz2
        · subst e; exact (cmpI_irrefl _ (hm1 _ hz)).elim
        · exact hz2
    rw [this]
theorem dedupFrom_ok : ∀ (r : Packs) (p : List Int), (p :: r).Pairwise (fun a b => leI a b = true) → SS (p :: dedupFrom p r) ∧ ∀ z, z ∈ p :: dedupFrom p r ↔ z ∈ p :: r
  | [], p, _ => ⟨List.pairwise_singleton _ _, fun z => Iff.rfl⟩
  | y :: r, p, h => by
    obtain ⟨h1, h2⟩ := List.pairwise_cons.1 h
    obtain ⟨i1, i2⟩ := dedupFrom_ok r y h2
    unfold dedupFrom
    by_cases e : y = p
    · subst e
      rw [if_pos rfl]
      refine ⟨i1, fun z => ?_⟩
      rw [i2]; simp
    · rw [if_neg e]
      have hlt : cmpI p y < 0 := lt_of_le_ne (h1 y (by simp)) (Ne.symm e)
      refine ⟨List.pairwise_cons.2 ⟨fun z hz => ?_, i1⟩, fun z => ?_⟩
      · rcases List.mem_cons.1 hz with rfl | hz
        · exact hlt
        · exact cmpI_trans _ _ _ hlt ((List.pairwise_cons.1 i1).1 z hz)
      · rw [List.mem_cons, i2, ← List.mem_cons]
theorem dedup_ok {l : Packs} (h : l.Pairwise (fun a b => leI a b = true)) : SS (dedupL l) ∧ ∀ z, z ∈ dedupL l ↔ z ∈ l := by
  cases l with
  | nil => exact ⟨List.Pairwise.nil, fun _ => Iff.rfl⟩
  | cons x r => exact dedupFrom_ok r x h
/-- The packets in order, each once. -/
def setL (l : Packs) : Packs := dedupL (sortL l)
theorem setL_ss (l : Packs) : SS (setL l) := (dedup_ok (sortL_sorted l)).1
theorem setL_mem (l : Packs) (z : List Int) : z ∈ setL l ↔ z ∈ l := ((dedup_ok (sortL_sorted l)).2 z).trans (sortL_perm l).mem_iff
theorem setL_of {l m : Packs} (h : SS m) (hm : ∀ z, z ∈ m ↔ z ∈ l) : m = setL l := ss_unique h (setL_ss l) fun z => (hm z).trans (setL_mem l z).symm
theorem dedupFrom_len : ∀ (r : Packs) (p : List Int), (dedupFrom p r).length ≤ r.length
  | [], _ => Nat.le_refl _
  | y :: r, p => by unfold dedupFrom; have := dedupFrom_len r y; split <;> simp <;> omega
theorem setL_len (l : Packs) : (setL l).length ≤ l.length := by
  have h1 : (sortL l).length = l.length := (sortL_perm l).length_eq
  unfold setL
  rw [← h1]
  cases sortL l with
  | nil => exact Nat.le_refl _
  | cons x r => have := dedupFrom_len r x; simp [dedupL]; omega
theorem i_SortPackets_l3_ev (l : Packs) (hl : l.length ≤ 16777216) (h12 : ∀ p ∈ l, p.length ≤ 1048576) : ∀ (r : Packs) (i : Nat), l.drop i = r → Ev (fun k => i_SortPackets_l3 k l (l.length : Int) (i : Int) (l.take i)) (setL l)
  | [], i, h => by
    have a := at_nil h
    refine Ev.step (fun k => i_SortPackets_l3_eq k _ _ _ _) ?_
    simp only [a.g, cond_false]
    rw [List.take_of_length_le a.ge]
    have small : ∀ m : Packs, m.length ≤ 16777216 → (∀ p ∈ m, p.length ≤ 1048576) → smallL m = true := fun m hm hp => by
      unfold smallL
      rw [Bool.and_eq_true]
      exact ⟨decide_eq_true (by omega), List.all_eq_true.2 fun p hpm => decide_eq_true (by have := hp p hpm; omega)⟩
    have e1 : Ev (fun k => slices_SortFunc_int_int k (l, false)) ((), sortL l) := Ev.congr (fun k => slices_SortFunc_int_int_eq k l false) (by
      show Ev (fun _ => sortF l) _
      unfold sortF
      exact Ev.yes (small l hl h12) (Ev.pure _))
    have e2 : Ev (fun k => slices_CompactFunc_int_int k (sortL l, false)) (setL l) := Ev.congr (fun k => slices_CompactFunc_int_int_eq k (sortL l) false) (by
      show Ev (fun _ => compactF (sortL l)) _
      unfold compactF
      exact Ev.yes (small _ (by rw [(sortL_perm l).length_eq]; exact hl) (fun p hp => h12 p ((sortL_perm l).mem_iff.1 hp))) (Ev.pure _))
    exact Ev.bind e1 (Ev.bind e2 (Ev.pure _))
  | p :: r, i, h => by
    have a := at_cons h (by rw [maxLen_eq]; omega)
    have hlt := a.lt
    have hp := h12 p a.mem
    have ih := i_SortPackets_l3_ev l hl h12 r (i + 1) a.next
    have et : l.take (i + 1) = l.take i ++ [p] := by
      rw [List.take_add_one, List.getElem?_eq_getElem hlt]
      have := a.gt []
      simp [List.getD, hlt] at this
      rw [this]; rfl
    rw [et] at ih
    refine Ev.step (fun k => i_SortPackets_l3_eq k _ _ _ _) ?_
    simp only [a.g, a.z, a.get, a.w, cond_true]
    exact Ev.bind (Clone_int_ev p hp) (Ev.yes (by rw [rowMax_eq]; exact decide_eq_true (by simp; omega)) ih)
theorem i_SortPackets_ev (l : Packs) (hl : l.length ≤ 16777216) (h12 : ∀ p ∈ l, p.length ≤ 1048576) : Ev (fun k => i_SortPackets k l) (setL l) :=
  Ev.step (fun k => i_SortPackets_eq k l) (i_SortPackets_l3_ev l hl h12 l 0 rfl)
def pushU (out : Packs) (x : List Int) : Packs := if out.length = 0 then [x] else if out.getD (out.length - 1) [] = x then out else out ++ [x]
theorem pushU_len (out : Packs) (x : List Int) : (pushU out x).length ≤ out.length + 1 := by
  unfold pushU
  split
  · simp
  · split <;> simp
theorem pushU_ok {out : Packs} {x : List Int} (h : SS out) (hx : ∀ o ∈ out, leI o x = true) : SS (pushU out x) ∧ ∀ z, z ∈ pushU out x ↔ z ∈ out ∨ z = x := by
  unfold pushU
  split
  · rename_i h0
    have : out = [] := List.length_eq_zero_iff.1 h0
    subst this
    exact ⟨List.pairwise_singleton _ _, fun z => by simp⟩
  · rename_i h0
    obtain ⟨init, l, rfl⟩ : ∃ init l, out = init ++ [l] := by
      rcases List.eq_nil_or_concat out with h | ⟨i, l, h⟩
      · subst h; simp at h0
      · exact ⟨i, l, by rw [h]; simp⟩
    have el : (init ++ [l]).getD ((init ++ [l]).length - 1) [] = l := by simp [List.getD]
    rw [el]
    split
    · rename_i e
      subst e
      exact ⟨h, fun z => ⟨.inl, fun hz => hz.elim id fun e => by simp [e]⟩⟩
    · rename_i e
      have hlt : cmpI l x < 0 := lt_of_le_ne (hx l (by simp)) e
      refine ⟨?_, fun z => by simp [or_assoc]⟩
      refine List.pairwise_append.2 ⟨h, List.pairwise_singleton _ _, fun o ho y hy => ?_⟩
      have : y = x := by simpa using hy
      subst this
      rcases List.mem_append.1 ho with ho | ho
      · exact cmpI_trans _ _ _ ((List.pairwise_append.1 h).2.2 o ho l (by simp)) hlt
      · have : o = l := by simpa using ho
        subst this; exact hlt
def mergeU : Packs → Packs → Packs → Packs
  | [], [], out => out
  | x :: a, [], out => mergeU a [] (pushU out x)
  | [], y :: b, out => mergeU [] b (pushU out y)
  | x :: a, y :: b, out => if lessL y x then mergeU (x :: a) b (pushU out y) else mergeU a (y :: b) (pushU out x)
termination_by a b => a.length + b.length
theorem mergeU_ok : ∀ (n : Nat) (a b out : Packs), a.length + b.length = n → a.Pairwise (fun x y => leI x y = true) → b.Pairwise (fun x y => leI x y = true) → SS out → (∀ o ∈ out, ∀ z, z ∈ a ∨ z ∈ b → leI o z = true) →
    SS (mergeU a b out) ∧ ∀ z, z ∈ mergeU a b out ↔ z ∈ out ∨ z ∈ a ∨ z ∈ b
  | n, a, b, out, hn, ha, hb, ho, hz => by
    match a, b, n, hn, ha, hb with
    | [], [], _, _, _, _ => unfold mergeU; exact ⟨ho, fun z => by simp⟩
    | x :: a, [], n + 1, hn, ha, hb =>
      obtain ⟨a1, a2⟩ := List.pairwise_cons.1 ha
      obtain ⟨p1, p2⟩ := pushU_ok ho (fun o h => hz o h x (by simp))
      unfold mergeU
      obtain ⟨q1, q2⟩ := mergeU_ok n a [] (pushU out x) (by simp at hn ⊢; omega) a2 hb p1 (fun o h z hz' => by
        rcases (p2 o).1 h with h | rfl
        · exact hz o h z (by rcases hz' with h | h; exact .inl (by simp [h]); exact .inr h)
        · rcases hz' with h | h
          · exact a1 z h
          · cases h)
      exact ⟨q1, fun z => by rw [q2, p2]; simp [or_assoc]⟩
    | [], y :: b, n + 1, hn, ha, hb =>
      obtain ⟨b1, b2⟩ := List.pairwise_cons.1 hb
      obtain ⟨p1, p2⟩ := pushU_ok ho (fun o h => hz o h y (by simp))
      unfold mergeU
      obtain ⟨q1, q2⟩ := mergeU_ok n [] b (pushU out y) (by simp at hn ⊢; omega) ha b2 p1 (fun o h z hz' => by
        rcases (p2 o).1 h with h | rfl
        · exact hz o h z (by rcases hz' with h | h; exact .inl h; exact .inr (by simp [h]))
        · rcases hz' with h | h
          · cases h
          · exact b1 z h)
      exact ⟨q1, fun z => by rw [q2, p2]; simp [or_assoc]⟩
    | x :: a, y :: b, n + 1, hn, ha, hb =>
      obtain ⟨a1, a2⟩ := List.pairwise_cons.1 ha
      obtain ⟨b1, b2⟩ := List.pairwise_cons.1 hb
      unfold mergeU
      split
      · rename_i c
        rw [lessL_I] at c
        have hyx : leI y x = true := le_of_lt (of_decide_eq_true c)
        obtain ⟨p1, p2⟩ := pushU_ok ho (fun o h => hz o h y (by simp))
        obtain ⟨q1, q2⟩ := mergeU_ok n (x :: a) b (pushU out y) (by simp at hn ⊢; omega) ha b2 p1 (fun o h z hz' => by
          rcases (p2 o).1 h with h | rfl
          · exact hz o h z (by rcases hz' with h | h; exact .inl h; exact .inr (by simp [h]))
          · rcases hz' with h | h
            · rcases List.mem_cons.1 h with rfl | h
              · exact hyx
              · exact leI_trans _ _ _ hyx (a1 z h)
            · exact b1 z h)
        refine ⟨q1, fun z => ?_⟩
        rw [q2, p2]
        simp only [List.mem_cons]
        constructor
        · rintro ((h | h) | (h | h) | h) <;> simp [h]
        · rintro (h | (h | h) | h | h) <;> simp [h]
      · rename_i c
        rw [lessL_I] at c
        have hxy : leI x y = true := leI_not.2 (by simpa using c)
        obtain ⟨p1, p2⟩ := pushU_ok ho (fun o h => hz o h x (by simp))
        obtain ⟨q1, q2⟩ := mergeU_ok n a (y :: b) (pushU out x) (by simp at hn ⊢; omega) a2 hb p1 (fun o h z hz' => by
          rcases (p2 o).1 h with h | rfl
          · exact hz o h z (by rcases hz' with h | h; exact .inl (by simp [h]); exact .inr h)
          · rcases hz' with h | h
            · exact a1 z h
            · rcases List.mem_cons.1 h with rfl | h
              · exact hxy
              · exact leI_trans _ _ _ hxy (b1 z h))
        refine ⟨q1, fun z => ?_⟩
        rw [q2, p2]
        simp only [List.mem_cons]
        constructor
        · rintro ((h | h) | h | h | h) <;> simp [h]
        · rintro (h | (h | h) | h | h) <;> simp [h]
theorem ss_le {l : Packs} (h : SS l) : l.Pairwise (fun x y => leI x y = true) := h.imp fun h => le_of_lt h
theorem mergeU_set {a b : Packs} (ha : SS a) (hb : SS b) : mergeU a b [] = setL (a ++ b) := by
  obtain ⟨h1, h2⟩ := mergeU_ok _ a b [] rfl (ss_le ha) (ss_le hb) List.Pairwise.nil (fun o h => by cases h)
  exact setL_of h1 fun z => by rw [h2]; simp
theorem set_last (out : Packs) : out.set (out.length - 1) (out.getD (out.length - 1) []) = out := by
  apply List.ext_getElem
  · simp
  · intro i h1 h2
    rw [List.getElem_set]
    split
    · rename_i e
      subst e
      simp [List.getD, h2]
    · rfl
theorem push_ev {C : Nat → Packs → Option Packs} {z : Packs} (out : Packs) (x : List Int) (hx : x.length ≤ 1048576) (ho : out.length ≤ 4194304) (h12 : ∀ p ∈ out, p.length ≤ 1048576) (h : Ev (fun k => C k (pushU out x)) z) :
    Ev (fun k => bif ((out.length : Int) == (0 : Int)) then
        (bif decide (([] : List Int).length + x.length ≤ rowMax) then
          (bif decide (out.length + ([(([] : List Int) ++ x)]).length ≤ rowMax) then C k (out ++ ([(([] : List Int) ++ x)])) else none) else none)
      else (bif decide (0 ≤ (IntKind.i64.wrap ((out.length : Int) - (1 : Int)))) then
        (bif decide ((IntKind.i64.wrap ((out.length : Int) - (1 : Int))) < (out.length : Int)) then
          (bif decide ((IntKind.i64.wrap ((out.length : Int) - (1 : Int))).toNat < out.length) then
            ((s_SamePacket k ((out.getD (IntKind.i64.wrap ((out.length : Int) - (1 : Int))).toNat []), x)).bind fun y =>
              bif (!y) then
                (bif decide (([] : List Int).length + x.length ≤ rowMax) then
                  (bif decide ((out.set (IntKind.i64.wrap ((out.length : Int) - (1 : Int))).toNat (out.getD (IntKind.i64.wrap ((out.length : Int) - (1 : Int))).toNat [])).length + ([(([] : List Int) ++ x)]).length ≤ rowMax) then
                    C k ((out.set (IntKind.i64.wrap ((out.length : Int) - (1 : Int))).toNat (out.getD (IntKind.i64.wrap ((out.length : Int) - (1 : Int))).toNat [])) ++ ([(([] : List Int) ++ x)])) else none) else none)
              else C k (out.set (IntKind.i64.wrap ((out.length : Int) - (1 : Int))).toNat (out.getD (IntKind.i64.wrap ((out.length : Int) - (1 : Int))).toNat []))) else none) else none) else none)) z := by
  unfold pushU at h
  refine Ev.ite (fun c => ?_) (fun c => ?_)
  · have h0 : out.length = 0 := by have : (out.length : Int) = 0 := by simpa using c
                                   omega
    rw [if_pos h0] at h
    have e : out = [] := List.length_eq_zero_iff.1 h0
    subst e
    exact Ev.yes (by rw [rowMax_eq]; exact decide_eq_true (by simp; omega)) (Ev.yes (by rw [rowMax_eq]; simp) h)
  · have h0 : ¬ out.length = 0 := by have : ¬ (out.length : Int) = 0 := by simpa using c
                                     omega
    rw [if_neg h0] at h
    have e : ((out.length : Int) - 1) = ((out.length - 1 : Nat) : Int) := by omega
    have hl : (out.getD (out.length - 1) []).length ≤ 1048576 := by
      have : out.length - 1 < out.length := by omega
      rw [List.getD, List.getElem?_eq_getElem this]
      exact h12 _ (List.getElem_mem this)
    simp only [e, wrap_id (x := ((out.length - 1 : Nat) : Int)) (by omega) (by omega), Int.toNat_natCast, set_last]
    refine Ev.yes (by simp) (Ev.yes (by simp; omega) (Ev.yes (by simp; omega) (Ev.bind (SamePacket_ev _ x (by rw [maxLen_eq]; omega) (by rw [maxLen_eq]; omega)) (Ev.ite (fun c2 => ?_) (fun c2 => ?_)))))
    · have : ¬ out.getD (out.length - 1) [] = x := by simpa using c2
      rw [if_neg this] at h
      exact Ev.yes (by rw [rowMax_eq]; exact decide_eq_true (by simp; omega)) (Ev.yes (by rw [rowMax_eq]; exact decide_eq_true (by simp; omega)) h)
    · have : out.getD (out.length - 1) [] = x := by simpa using c2
      rw [if_pos this] at h
      exact h
theorem pushU_small {out : Packs} {x : List Int} (hx : x.length ≤ 1048576) (h12 : ∀ p ∈ out, p.length ≤ 1048576) : ∀ p ∈ pushU out x, p.length ≤ 1048576 := fun p hp => by
  unfold pushU at hp
  split at hp
  · have : p = x := by simpa using hp
    subst this; exact hx
  · split at hp
    · exact h12 p hp
    · rcases List.mem_append.1 hp with h | h
      · exact h12 p h
      · have : p = x := by simpa using h
        subst this; exact hx
theorem take_all2 {α : Type} (l : List α) : l.take ((l.length : Int)).toNat = l := by simp
theorem s_l05Merge_l2_ev : ∀ (n : Nat) (a b out : Packs), a.length + b.length = n → out.length + n ≤ 4194304 → (∀ p ∈ a, p.length ≤ 1048576) → (∀ p ∈ b, p.length ≤ 1048576) → (∀ p ∈ out, p.length ≤ 1048576) →
    Ev (fun k => s_l05Merge_l2 k a b out) (mergeU a b out)
  | 0, a, b, out, hn, hl, h1, h2, h3 => by
    have ea : a = [] := List.length_eq_zero_iff.1 (by omega)
    have eb : b = [] := List.length_eq_zero_iff.1 (by omega)
    subst ea eb
    unfold mergeU
    exact Ev.step (fun k => s_l05Merge_l2_eq k _ _ _) (Ev.no (by (first | (simp; done) | (simp; omega) | omega)) (Ev.no (by (first | (simp; done) | (simp; omega) | omega)) (Ev.pure _)))
  | n + 1, [], [], out, hn, hl, h1, h2, h3 => by simp at hn
  | n + 1, x :: a, [], out, hn, hl, h1, h2, h3 => by
    have hx := h1 x (by simp)
    have hp := pushU_len out x
    have ih := s_l05Merge_l2_ev n a [] (pushU out x) (by simp at hn ⊢; omega) (by omega) (fun p hp => h1 p (by simp [hp])) h2 (pushU_small hx h3)
    unfold mergeU
    refine Ev.step (fun k => s_l05Merge_l2_eq k _ _ _) ?_
    simp only [take_all2, List.getD_cons_zero, List.drop_succ_cons, List.drop_zero]
    refine Ev.yes (by (first | (simp; done) | (simp; omega) | omega)) (Ev.yes (by (first | (simp; done) | (simp; omega) | omega)) (Ev.yes (by (first | (simp; done) | (simp; omega) | omega)) (Ev.yes (by (first | (simp; done) | (simp; omega) | omega)) (Ev.yes (by (first | (simp; done) | (simp; omega) | omega)) ?_))))
    exact push_ev (C := fun k o => s_l05Merge_l2 k a [] o) out x hx (by omega) h3 ih
  | n + 1, [], y :: b, out, hn, hl, h1, h2, h3 => by
    have hy := h2 y (by simp)
    have hp := pushU_len out y
    have ih := s_l05Merge_l2_ev n [] b (pushU out y) (by simp at hn ⊢; omega) (by omega) h1 (fun p hp => h2 p (by simp [hp])) (pushU_small hy h3)
    unfold mergeU
    refine Ev.step (fun k => s_l05Merge_l2_eq k _ _ _) ?_
    simp only [take_all2, List.getD_cons_zero, List.drop_succ_cons, List.drop_zero]
    refine Ev.no (by (first | (simp; done) | (simp; omega) | omega)) (Ev.yes (by (first | (simp; done) | (simp; omega) | omega)) (Ev.no (by (first | (simp; done) | (simp; omega) | omega)) (Ev.no (by (first | (simp; done) | (simp; omega) | omega)) (Ev.yes (by (first | (simp; done) | (simp; omega) | omega)) (Ev.yes (by (first | (simp; done) | (simp; omega) | omega)) (Ev.yes (by (first | (simp; done) | (simp; omega) | omega)) ?_))))))
    exact push_ev (C := fun k o => s_l05Merge_l2 k [] b o) out y hy (by omega) h3 ih
  | n + 1, x :: a, y :: b, out, hn, hl, h1, h2, h3 => by
    have hx := h1 x (by simp)
    have hy := h2 y (by simp)
    have hp := pushU_len out x
    have hp2 := pushU_len out y
    have ihx := s_l05Merge_l2_ev n a (y :: b) (pushU out x) (by simp at hn ⊢; omega) (by omega) (fun p hp => h1 p (by simp [hp])) h2 (pushU_small hx h3)
    have ihy := s_l05Merge_l2_ev n (x :: a) b (pushU out y) (by simp at hn ⊢; omega) (by omega) h1 (fun p hp => h2 p (by simp [hp])) (pushU_small hy h3)
    unfold mergeU
    refine Ev.step (fun k => s_l05Merge_l2_eq k _ _ _) ?_
    simp only [take_all2, List.getD_cons_zero, List.drop_succ_cons, List.drop_zero]
    refine Ev.yes (by (first | (simp; done) | (simp; omega) | omega)) (Ev.no (by (first | (simp; done) | (simp; omega) | omega)) (Ev.yes (by (first | (simp; done) | (simp; omega) | omega)) (Ev.yes (by (first | (simp; done) | (simp; omega) | omega)) (Ev.yes (by (first | (simp; done) | (simp; omega) | omega)) (Ev.bind (s_l05Less_ev y x (by rw [maxLen_eq]; omega) (by rw [maxLen_eq]; omega)) (Ev.ite (fun c => ?_) (fun c => ?_)))))))
    · have : lessL y x = false := by simpa using c
      rw [this, if_neg (by simp)]
      refine Ev.yes (by (first | (simp; done) | (simp; omega) | omega)) (Ev.yes (by (first | (simp; done) | (simp; omega) | omega)) (Ev.yes (by (first | (simp; done) | (simp; omega) | omega)) ?_))
      exact push_ev (C := fun k o => s_l05Merge_l2 k a (y :: b) o) out x hx (by omega) h3 ihx
    · have : lessL y x = true := by simpa using c
      rw [this, if_pos rfl]
      refine Ev.yes (by (first | (simp; done) | (simp; omega) | omega)) (Ev.yes (by (first | (simp; done) | (simp; omega) | omega)) (Ev.yes (by (first | (simp; done) | (simp; omega) | omega)) ?_))
      exact push_ev (C := fun k o => s_l05Merge_l2 k (x :: a) b o) out y hy (by omega) h3 ihy
theorem s_l05Merge_ev (a b : Packs) (hl : a.length + b.length ≤ 4194304) (h1 : ∀ p ∈ a, p.length ≤ 1048576) (h2 : ∀ p ∈ b, p.length ≤ 1048576) : Ev (fun k => s_l05Merge k (a, b)) (mergeU a b []) :=
  Ev.step (fun k => s_l05Merge_eq k a b) (s_l05Merge_l2_ev _ a b [] rfl (by simpa using hl) h1 h2 (fun p hp => by cases hp))
theorem half2 (n : Nat) (h : n ≤ 4194304) : IntKind.i64.wrap ((n : Int).tdiv 2) = ((n / 2 : Nat) : Int) := by
  have : (n : Int).tdiv 2 = ((n / 2 : Nat) : Int) := by rw [Int.tdiv_eq_ediv_of_nonneg (by omega)]; omega
  rw [this, wrap_id (by omega) (by omega)]
theorem s_SortPackets_ev : ∀ (n : Nat) (l : Packs), l.length ≤ n → l.length ≤ 1048576 → (∀ p ∈ l, p.length ≤ 1048576) → Ev (fun k => s_SortPackets k l) (setL l)
  | n, l, hn, hl, h12 => by
    refine Ev.step (fun k => s_SortPackets_eq k l) ?_
    refine Ev.ite (fun c => ?_) (fun c => ?_)
    · have hlt : l.length < 2 := by have : (l.length : Int) < 2 := by simpa using c
                                    omega
      have hs : SS l := by
        match l, hlt with
        | [], _ => exact List.Pairwise.nil
        | [x], _ => exact List.pairwise_singleton _ _
      refine Ev.bind (s_l05Merge_ev l [] (by simp; omega) h12 (fun p hp => by cases hp)) (Ev.some ?_)
      rw [mergeU_set hs List.Pairwise.nil, List.append_nil]
    · have hge : ¬ l.length < 2 := by have : ¬ (l.length : Int) < 2 := by simpa using c
                                      omega
      match n, hn with
      | 0, hn => omega
      | n + 1, hn =>
      have hA := s_SortPackets_ev n (l.take (l.length / 2)) (by simp; omega) (by simp; omega) (fun p hp => h12 p (List.mem_of_mem_take hp))
      have hB := s_SortPackets_ev n (l.drop (l.length / 2)) (by simp; omega) (by simp; omega) (fun p hp => h12 p (List.mem_of_mem_drop hp))
      have lA := setL_len (l.take (l.length / 2))
      have lB := setL_len (l.drop (l.length / 2))
      simp at lA lB
      simp only [half2 l.length (by omega), take_all2, Int.toNat_natCast, List.drop_zero, List.take_length]
      refine Ev.yes (by (first | (simp; done) | (simp; omega) | omega)) (Ev.yes (by (first | (simp; done) | (simp; omega) | omega)) (Ev.bind hA (Ev.yes (by (first | (simp; done) | (simp; omega) | omega)) (Ev.yes (by (first | (simp; done) | (simp; omega) | omega)) (Ev.yes (by (first | (simp; done) | (simp; omega) | omega)) (Ev.bind hB (Ev.bind (s_l05Merge_ev _ _ (by omega) (fun p hp => ?_) (fun p hp => ?_)) (Ev.some ?_))))))))
      · exact h12 p (List.mem_of_mem_take ((setL_mem _ p).1 hp))
      · exact h12 p (List.mem_of_mem_drop ((setL_mem _ p).1 hp))
      · rw [mergeU_set (setL_ss _) (setL_ss _)]
        refine setL_of (setL_ss _) fun z => ?_
        rw [setL_mem, List.mem_append, setL_mem, setL_mem, ← List.mem_append, List.take_append_drop]
end Qq
namespace Qq
open Go Go.Vt Pt
set_option linter.unusedVariables false
set_option linter.unusedSimpArgs false
def top : Int := 4611686018427387904
theorem top_eq : top = 4611686018427387904 := rfl
def upFrom (k : Int) : Nat → List Int
  | 0 => []
  | n + 1 => k :: upFrom (k + 1) n
theorem upFrom_len : ∀ (k : Int) (n : Nat), (upFrom k n).length = n
  | _, 0 => rfl
  | k, n + 1 => by show (upFrom (k + 1) n).length + 1 = n + 1; rw [upFrom_len]
theorem markIntS_l2_ev (xs : List Int) (hm : xs.length ≤ maxLen) : ∀ (r : List Int) (i : Nat) (k0 : Int) (done : List Int), xs.drop i = r → done.length = i → 0 ≤ k0 → k0 ≤ top - r.length →
    Ev (fun k => w_markIntS_l2 k k0 (i : Int) (done ++ r)) (k0 + r.length, done ++ upFrom k0 r.length) := by
  intro r
  induction r with
  | nil =>
    intro i k0 done h hl h0 h1
    have a := at_nil h
    refine Ev.step (fun k => w_markIntS_l2_eq k k0 i _) ?_
    have : decide ((i : Int) < ((done ++ ([] : List Int)).length : Int)) = false := by simp; omega
    refine Ev.no this (Ev.some ?_)
    simp [upFrom]
  | cons x r ih =>
    intro i k0 done h hl h0 h1
    have a := at_cons h hm
    have L : (done ++ x :: r).length = i + (r.length + 1) := by simp [hl]
    refine Ev.step (fun k => w_markIntS_l2_eq k k0 i _) ?_
    refine Ev.yes (by rw [L]; simp; omega) (Ev.yes (by simp) (Ev.yes (by rw [L]; simp; omega) (Ev.yes (by rw [L]; simp) ?_)))
    rw [List.length_cons] at h1
    rw [wrap_id (x := k0 + 1) (by omega) (by rw [top_eq] at h1; omega), wrap_id (x := (i : Int) + 1) (by omega) (by have := a.lt; rw [maxLen_eq] at hm; omega)]
    have e : (done ++ x :: r).set (i : Int).toNat k0 = (done ++ [k0]) ++ r := by
      rw [Int.toNat_natCast, ← hl, List.set_append_right _ _ (Nat.le_refl _)]
      simp
    rw [e]
    have := ih (i + 1) (k0 + 1) (done ++ [k0]) a.next (by simp [hl]) (by omega) (by omega)
    have e2 : done ++ upFrom k0 (x :: r).length = (done ++ [k0]) ++ upFrom (k0 + 1) r.length := by simp [upFrom]
    have e3 : k0 + ((x :: r).length : Int) = k0 + 1 + (r.length : Int) := by simp; omega
    rw [e2, e3]
    exact_mod_cast this
theorem markIntS_ev (xs : List Int) (k0 : Int) (hm : xs.length ≤ maxLen) (h0 : 0 ≤ k0) (h1 : k0 ≤ top - xs.length) :
    Ev (fun k => w_markIntS k (xs, k0)) (k0 + xs.length, upFrom k0 xs.length) :=
  Ev.step (fun k => w_markIntS_eq k xs k0) (markIntS_l2_ev xs hm xs 0 k0 [] rfl rfl h0 h1)
theorem heldIntS_l2_ev (ys : List Int) (hm : ys.length ≤ maxLen) : ∀ (n : Nat) (i : Nat) (k0 : Int), ys.drop i = upFrom k0 n → 0 ≤ k0 → k0 ≤ top - n →
    Ev (fun k => w_heldIntS_l2 k ys k0 (i : Int)) (k0 + n) := by
  intro n
  induction n with
  | zero =>
    intro i k0 h h0 h1
    have a := at_nil h
    refine Ev.step (fun k => w_heldIntS_l2_eq k ys k0 i) ?_
    simp only [a.g, cond_false]
    exact Ev.some (by simp)
  | succ n ih =>
    intro i k0 h h0 h1
    have a := at_cons h hm
    refine Ev.step (fun k => w_heldIntS_l2_eq k ys k0 i) ?_
    simp only [a.g, a.z, a.get, a.w, cond_true]
    refine Ev.no (by simp) ?_
    rw [wrap_id (x := k0 + 1) (by omega) (by rw [top_eq] at h1; omega)]
    have := ih (i + 1) (k0 + 1) a.next (by omega) (by omega)
    have e3 : k0 + ((n + 1 : Nat) : Int) = k0 + 1 + (n : Int) := by omega
    rw [e3]
    exact this
theorem heldIntS_ev (n : Nat) (k0 : Int) (hm : n ≤ maxLen) (h0 : 0 ≤ k0) (h1 : k0 ≤ top - n) :
    Ev (fun k => w_heldIntS k (upFrom k0 n, k0)) (k0 + n) :=
  Ev.step (fun k => w_heldIntS_eq k _ k0) (heldIntS_l2_ev _ (by rw [upFrom_len]; exact hm) n 0 k0 rfl h0 h1)
end Qq
namespace Qq
open Go Go.Vt Pt
set_option linter.unusedVariables false
set_option linter.unusedSimpArgs false
end Qq
namespace Qq
open Go Go.Vt Pt
set_option linter.unusedVariables false
set_option linter.unusedSimpArgs false
abbrev Step : Type := Int × (Int × Int) × Int
abbrev Trick : Type := List Int × List Step × Int × Int × Int
abbrev Scene : Type := List Int × Int
theorem szStepS_ev (xs : List Step) (n : Int) (hx : xs.length ≤ maxLen) (hn : 0 ≤ n) (hn2 : n ≤ 1048576) :
    Ev (fun k => w_szStepS k (xs, n)) (if n - (xs.length : Int) < 0 then -1 else n - xs.length) := by
  rw [maxLen_eq] at hx
  refine Ev.step (fun k => w_szStepS_eq k xs n) ?_
  rw [wrap_id (by omega) (by omega)]
  split
  · rename_i h; exact Ev.yes (by simpa using h) (Ev.pure _)
  · rename_i h; exact Ev.no (by simpa using h) (Ev.pure _)
/-- What is left behind a trick; below 0: it's too great. -/
def szTrick (t : Trick) (n : Int) : Int := if n - (t.1.length : Int) < 0 then -1 else if n - (t.1.length : Int) - (t.2.1.length : Int) < 0 then -1 else n - (t.1.length : Int) - (t.2.1.length : Int)
theorem szTrick_ev (t : Trick) (n : Int) (h1 : t.1.length ≤ maxLen) (h2 : t.2.1.length ≤ maxLen) (hn : 0 ≤ n) (hn2 : n ≤ 1048576) : Ev (fun k => w_szTrick k (t, n)) (szTrick t n) := by
  refine Ev.step (fun k => w_szTrick_eq k t n) (Ev.bind (szIntS_ev t.1 n h1 hn hn2) ?_)
  unfold szTrick
  split
  · exact Ev.yes rfl (Ev.pure _)
  · rename_i h
    refine Ev.no (by simpa using h) (Ev.bind (szStepS_ev t.2.1 _ h2 (by omega) (by omega)) ?_)
    split
    · exact Ev.yes rfl (Ev.pure _)
    · rename_i h'; exact Ev.no (by simpa using h') (Ev.pure _)
theorem szTrick_fit {t : Trick} {n : Int} (hn : n ≤ 1048576) (h : ¬ szTrick t n < 0) : t.1.length ≤ 1048576 ∧ t.2.1.length ≤ 1048576 ∧ 0 ≤ szTrick t n ∧ szTrick t n ≤ n := by
  unfold szTrick at *
  split at h <;> rename_i h1
  · exact absurd (by decide) h
  · split at h <;> rename_i h2
    · exact absurd (by decide) h
    · rw [if_neg h1, if_neg h2]; omega
theorem toStepS_l3_ev (xs : List Step) (hm : xs.length ≤ maxLen) : ∀ (r : List Step) (i : Nat) (ys : List Step), xs.drop i = r → ys.length = xs.length → ys.take i = xs.take i → Ev (fun k => w_toStepS_l3 k xs (i : Int) ys) xs
  | [], i, ys, h, hl, ht => by
    have a := at_nil h
    refine Ev.step (fun k => w_toStepS_l3_eq k xs i ys) ?_
    simp only [a.g, cond_false]
    have e : ys = xs := by
      have := a.ge
      rwa [List.take_of_length_le (by omega), List.take_of_length_le (by omega)] at ht
    exact Ev.some e
  | x :: r, i, ys, h, hl, ht => by
    have a := at_cons h hm
    have b1 : decide ((i : Int) < (ys.length : Int)) = true := by rw [hl]; exact a.g
    have b2 : decide ((i : Int).toNat < ys.length) = true := by rw [hl]; exact a.n
    refine Ev.step (fun k => w_toStepS_l3_eq k xs i ys) ?_
    simp only [a.g, a.z, cond_true]
    refine Ev.bind (toStep_ev _) ?_
    simp only [b1, b2, a.w, a.get, cond_true]
    have hs := set_get (n := 0) (d := (0, ((0, 0), 0))) a.lt hl ht
    have g := a.get (0, ((0, 0), 0))
    rw [Int.toNat_natCast] at g
    rw [g] at hs
    exact toStepS_l3_ev xs hm r (i + 1) _ a.next (by simp [hl]) (by simpa using hs)
theorem toStepS_ev (xs : List Step) (hm : xs.length ≤ 1048576) : Ev (fun k => w_toStepS k xs) xs := by
  refine Ev.step (fun k => w_toStepS_eq k xs) (Ev.yes (by simp) (Ev.yes (by rw [rowMax_eq]; simp; omega) (Ev.yes (by simp) ?_)))
  exact toStepS_l3_ev xs (by rw [maxLen_eq]; omega) xs 0 _ rfl (by simp) (by simp)
theorem toTrick_ev (t : Trick) (h1 : t.1.length ≤ 1048576) (h2 : t.2.1.length ≤ 1048576) : Ev (fun k => w_toTrick k t) t :=
  Ev.step (fun k => w_toTrick_eq k t) (Ev.bind (toIntS_ev _ h1) (Ev.bind (toStepS_ev _ h2) (Ev.pure _)))
theorem eqStep_ev (s t : Step) : Ev (fun k => w_eqStep k (s, t)) (s == t) := by
  obtain ⟨a, ⟨b, c⟩, d⟩ := s
  obtain ⟨a', ⟨b', c'⟩, d'⟩ := t
  refine Ev.step (fun k => w_eqStep_eq k _ _) ?_
  have hm : Ev (fun k => w_eqMove k ((b, c), (b', c'))) ((b, c) == (b', c')) := by
    refine Ev.step (fun k => w_eqMove_eq k _ _) ?_
    repeat (first | (refine Ev.ite (fun h => ?_) (fun h => ?_)) | focus (refine Ev.some ?_; simp_all; done))
  refine Ev.ite (fun h => Ev.some ?_) (fun h => Ev.bind hm ?_)
  · have : ¬ a = a' := by simpa using h
    simp [this]
  · repeat (first | (refine Ev.ite (fun h => ?_) (fun h => ?_)) | focus (refine Ev.some ?_; simp_all; done))
theorem eqStepS_l4_ev (xs ys : List Step) (hx : xs.length ≤ maxLen) (hy : ys.length ≤ maxLen) : ∀ (r s : List Step) (i : Nat), xs.drop i = r → ys.drop i = s → s.length = r.length → Ev (fun k => w_eqStepS_l4 k xs ys (i : Int)) (r == s)
  | [], [], i, h1, h2, hl => by
    have a := at_nil h1
    refine Ev.step (fun k => w_eqStepS_l4_eq k xs ys i) ?_
    simp only [a.g, cond_false]
    exact Ev.pure _
  | x :: r, y :: s, i, h1, h2, hl => by
    have a := at_cons h1 hx
    have b := at_cons h2 hy
    refine Ev.step (fun k => w_eqStepS_l4_eq k xs ys i) ?_
    simp only [a.g, a.z, b.g, a.get, b.get, a.w, cond_true]
    have ih := eqStepS_l4_ev xs ys hx hy r s (i + 1) a.next b.next (by simpa using hl)
    refine Ev.bind (eqStep_ev x y) (Ev.ite (fun h => Ev.some ?_) (fun h => ih.to ?_))
    · have : ¬ x = y := by simpa using h
      simp [this]
    · have : x = y := by simpa using h
      simp [this]
  | [], _ :: _, _, _, _, hl => by simp at hl
  | _ :: _, [], _, _, _, hl => by simp at hl
theorem eqStepS_ev (xs ys : List Step) (hx : xs.length ≤ maxLen) (hy : ys.length ≤ maxLen) : Ev (fun k => w_eqStepS k (xs, ys)) (xs == ys) := by
  refine Ev.step (fun k => w_eqStepS_eq k xs ys) (Ev.ite (fun h => Ev.some ?_) (fun h => eqStepS_l4_ev xs ys hx hy xs ys 0 rfl rfl ?_))
  · have h' : ¬ xs.length = ys.length := by simp at h; omega
    have : ¬ xs = ys := fun e => h' (by rw [e])
    simp [this]
  · simp at h; omega
theorem eqTrick_ev (t u : Trick) (h1 : t.1.length ≤ maxLen) (h2 : t.2.1.length ≤ maxLen) (h3 : u.1.length ≤ maxLen) (h4 : u.2.1.length ≤ maxLen) : Ev (fun k => w_eqTrick k (t, u)) (t == u) := by
  obtain ⟨a, b, c, d, e⟩ := t
  obtain ⟨a', b', c', d', e'⟩ := u
  refine Ev.step (fun k => w_eqTrick_eq k _ _) (Ev.bind (eqIntS_ev _ _ h1 h3) ?_)
  refine Ev.ite (fun h => Ev.some ?_) (fun h => Ev.bind (eqStepS_ev _ _ h2 h4) ?_)
  · have : ¬ a = a' := by simpa using h
    simp [this]
  · have ea : a = a' := by simpa using h
    subst ea
    refine Ev.ite (fun h => Ev.some ?_) (fun h => ?_)
    · have : ¬ b = b' := by simpa using h
      simp [this]
    · have eb : b = b' := by simpa using h
      subst eb
      repeat (first | (refine Ev.ite (fun h => ?_) (fun h => ?_)) | focus (refine Ev.some ?_; simp_all; done))
end Qq
namespace Qq
open Go Go.Vt Pt
set_option linter.unusedVariables false
set_option linter.unusedSimpArgs false
abbrev TrickTy : Ty := .pair (.slice (.int .i64)) (.pair (.slice (.pair (.int .i64) (.pair (.pair (.int .i64) (.int .i64)) (.int .i64)))) (.pair (.int .i64) (.pair (.int .i64) (.int .i64))))
def claimOk (n : Int) (p : List Int) (noted : Bool) (c a b : Int) : Bool :=
  if c = 0 then a == 0 && b == 0 else
  if c = 4 then a == 0 && b == 0 else
  if c = 1 then noted && (decide (0 ≤ a) && (decide (a < n) && b == 0)) else
  if c = 2 then decide (0 ≤ a) && (decide (a ≤ n) && b == 0) else
  if c = 3 then decide (0 ≤ pos p a) && (decide (0 ≤ b) && decide (b < n)) else false
def stepsOk (n : Int) (l : List Step) : Bool := l.all (stepOk n)
def hasNote (l : List Step) : Bool := l.any fun s => s.1 == 3
def trickOk (t : Trick) : Bool :=
  packetOk t.1 && (!(t.1.length == 0) && (decide (t.2.1.length ≤ 12) && (stepsOk t.1.length t.2.1 && claimOk t.1.length t.1 (hasNote t.2.1) t.2.2.1 t.2.2.2.1 t.2.2.2.2)))
theorem claim_s (p : List Int) (st : List Step) (c a b n : Int) (nt : Bool) (hp : p.length ≤ maxLen) (hn : n = p.length) : Ev (fun k => s_l16Claim k ((p, st, c, a, b), n, nt)) (claimOk n p nt c a b) := by
  have hw : IntKind.i64.wrap (n - 1) = n - 1 := by rw [maxLen_eq] at hp; exact wrap_id (by omega) (by omega)
  refine Ev.step (fun k => s_l16Claim_eq k _ n nt) ?_
  unfold claimOk
  dsimp only
  rw [hw]
  refine Ev.ite (fun h => ?_) (fun h => ?_)
  · have e : c = 0 := by simpa using h
    rw [if_pos e]
    refine Ev.ite (fun h => Ev.some ?_) (fun h => Ev.some ?_) <;> simp [h]
  have e0 : ¬ c = 0 := by simpa using h
  rw [if_neg e0]
  refine Ev.ite (fun h => ?_) (fun h => ?_)
  · have e : c = 4 := by simpa using h
    rw [if_pos e]
    refine Ev.ite (fun h => Ev.some ?_) (fun h => Ev.some ?_) <;> simp [h]
  have e4 : ¬ c = 4 := by simpa using h
  rw [if_neg e4]
  refine Ev.ite (fun h => ?_) (fun h => ?_)
  · have e : c = 1 := by simpa using h
    rw [if_pos e]
    refine Ev.ite (fun h => Ev.bind (l01In_ev _ _ _) (Ev.ite (fun h' => Ev.some ?_) (fun h' => Ev.some ?_))) (fun h => Ev.some ?_)
    · have : 0 ≤ a ∧ a ≤ n - 1 := by simpa using h'
      have h2 : a < n := by omega
      simp [h, this.1, h2]
    · rw [Bool.eq_iff_iff]; simp at h' ⊢; intros; omega
    · simp [h]
  have e1 : ¬ c = 1 := by simpa using h
  rw [if_neg e1]
  refine Ev.ite (fun h => ?_) (fun h => ?_)
  · have e : c = 2 := by simpa using h
    rw [if_pos e]
    refine Ev.bind (l01In_ev _ _ _) (Ev.ite (fun h' => Ev.some ?_) (fun h' => Ev.some ?_))
    · have : 0 ≤ a ∧ a ≤ n := by simpa using h'
      simp [this.1, this.2]
    · rw [Bool.eq_iff_iff]; simp at h' ⊢; intros; omega
  have e2 : ¬ c = 2 := by simpa using h
  rw [if_neg e2]
  refine Ev.ite (fun h => ?_) (fun h => Ev.some ?_)
  · have e : c = 3 := by simpa using h
    rw [if_pos e]
    refine Ev.bind (s_PositionOf_ev p a hp) (Ev.ite (fun h' => Ev.bind (l01In_ev _ _ _) (Ev.some ?_)) (fun h' => Ev.some ?_))
    · have h3 : 0 ≤ pos p a := by simpa using h'
      rw [Bool.eq_iff_iff]; simp [h3]; intros; omega
    · have h3 : ¬ 0 ≤ pos p a := by simpa using h'
      simp [h3]
  · have e3 : ¬ c = 3 := by simpa using h
    rw [if_neg e3]
theorem s_TrickOk_l6_ev (p : List Int) (c a b n : Int) (hp : p.length ≤ maxLen) (hn : n = p.length) (xs : List Step) (hm : xs.length ≤ maxLen) : ∀ (r : List Step) (i : Nat) (nt : Bool), xs.drop i = r →
    Ev (fun k => s_TrickOk_l6 k n nt xs (xs.length : Int) (i : Int) p xs c a b) (stepsOk n r && claimOk n p (nt || hasNote r) c a b)
  | [], i, nt, h => by
    have q := at_nil h
    refine Ev.step (fun k => s_TrickOk_l6_eq k _ _ _ _ _ _ _ _ _ _) ?_
    simp only [q.g, cond_false]
    exact Ev.bind (claim_s p xs c a b n nt hp hn) (Ev.some (by simp [stepsOk, hasNote]))
  | s :: r, i, nt, h => by
    have q := at_cons h hm
    refine Ev.step (fun k => s_TrickOk_l6_eq k _ _ _ _ _ _ _ _ _ _) ?_
    simp only [q.g, q.z, q.get, q.w, cond_true]
    refine Ev.bind (s_StepOk_ev n s) (Ev.ite (fun h => Ev.some ?_) (fun h => Ev.ite (fun h2 => ?_) (fun h2 => ?_)))
    · have : stepOk n s = false := by simpa using h
      simp [stepsOk, this]
    · have e : stepOk n s = true := by simpa using h
      refine (s_TrickOk_l6_ev p c a b n hp hn xs hm r (i + 1) true q.next).to ?_
      simp [stepsOk, e, h2]
    · have e : stepOk n s = true := by simpa using h
      refine (s_TrickOk_l6_ev p c a b n hp hn xs hm r (i + 1) (s.1 == 3) q.next).to ?_
      simp [stepsOk, e, h2, hasNote]
theorem s_TrickOk_ev (t : Trick) (h1 : t.1.length ≤ maxLen) (h2 : t.2.1.length ≤ maxLen) : Ev (fun k => s_TrickOk k t) (trickOk t) := by
  obtain ⟨p, st, c, a, b⟩ := t
  unfold trickOk
  refine Ev.step (fun k => s_TrickOk_eq k _) (Ev.bind (s_PacketOk_ev p h1) (Ev.ite (fun h => Ev.some ?_) (fun h => Ev.ite (fun h' => Ev.some ?_) (fun h' => Ev.ite (fun h3 => Ev.some ?_) (fun h3 => ?_)))))
  · have : packetOk p = false := by simpa using h
    simp [this]
  · have : p.length = 0 := by simp at h'; simp [h']
    simp [this]
  · have : ¬ st.length ≤ 12 := by simp at h3; omega
    simp [this]
  · refine (s_TrickOk_l6_ev p c a b _ h1 rfl st h2 st 0 false rfl).to ?_
    have e1 : packetOk p = true := by simpa using h
    have e2 : (p.length == 0) = false := by simp at h' ⊢; exact h'
    have e3 : st.length ≤ 12 := by simp at h3; omega
    simp [e1, e3, e2]
theorem claim_i (xs : List Step) (hm : xs.length ≤ maxLen) (p : List Int) (hp : p.length ≤ maxLen) (hi : Ins p) (c a b n : Int) (hn : n = p.length) : ∀ (r : List Step) (i : Nat) (nt : Bool), xs.drop i = r →
    Ev (fun k => i_TrickOk_l6 k n nt xs (xs.length : Int) (i : Int) p xs c a b) (stepsOk n r && claimOk n p (nt || hasNote r) c a b)
  | [], i, nt, h => by
    have q := at_nil h
    refine Ev.step (fun k => i_TrickOk_l6_eq k _ _ _ _ _ _ _ _ _ _) ?_
    simp only [q.g, cond_false]
    have e : (stepsOk n [] && claimOk n p (nt || hasNote []) c a b) = claimOk n p nt c a b := by simp [stepsOk, hasNote]
    rw [e]
    unfold claimOk
    refine Ev.ite (fun h => ?_) (fun h => ?_)
    · have e : c = 0 := by simpa using h
      rw [if_pos e]
      refine Ev.ite (fun h => Ev.some ?_) (fun h => Ev.some ?_) <;> simp [h]
    have e0 : ¬ c = 0 := by simpa using h
    rw [if_neg e0]
    refine Ev.ite (fun h => ?_) (fun h => ?_)
    · have e : c = 4 := by simpa using h
      rw [if_pos e]
      refine Ev.ite (fun h => Ev.some ?_) (fun h => Ev.some ?_) <;> simp [h]
    have e4 : ¬ c = 4 := by simpa using h
    rw [if_neg e4]
    refine Ev.ite (fun h => ?_) (fun h => ?_)
    · have e : c = 1 := by simpa using h
      rw [if_pos e]
      repeat (first | (refine Ev.ite (fun h => ?_) (fun h => ?_)) | focus (refine Ev.some ?_; simp_all; done) | focus (refine Ev.some ?_; simp_all; omega))
    have e1 : ¬ c = 1 := by simpa using h
    rw [if_neg e1]
    refine Ev.ite (fun h => ?_) (fun h => ?_)
    · have e : c = 2 := by simpa using h
      rw [if_pos e]
      repeat (first | (refine Ev.ite (fun h => ?_) (fun h => ?_)) | focus (refine Ev.some ?_; simp_all; done) | focus (refine Ev.some ?_; simp_all; omega))
    have e2 : ¬ c = 2 := by simpa using h
    rw [if_neg e2]
    refine Ev.ite (fun h => ?_) (fun h => Ev.some ?_)
    · have e : c = 3 := by simpa using h
      rw [if_pos e]
      refine Ev.bind (i_PositionOf_ev p a hp hi) (Ev.ite (fun h' => Ev.ite (fun h2 => Ev.some ?_) (fun h2 => Ev.some ?_)) (fun h' => Ev.some ?_))
      · have h3 : 0 ≤ pos p a := by simpa using h'
        have h4 : 0 ≤ b := by simpa using h2
        simp [h3, h4]
      · have h4 : ¬ 0 ≤ b := by simpa using h2
        simp [h4]
      · have h3 : ¬ 0 ≤ pos p a := by simpa using h'
        simp [h3]
    · have e3 : ¬ c = 3 := by simpa using h
      rw [if_neg e3]
  | s :: r, i, nt, h => by
    have q := at_cons h hm
    refine Ev.step (fun k => i_TrickOk_l6_eq k _ _ _ _ _ _ _ _ _ _) ?_
    simp only [q.g, q.z, q.get, q.w, cond_true]
    refine Ev.bind (i_StepOk_ev n s) (Ev.ite (fun h => Ev.some ?_) (fun h => Ev.ite (fun h2 => ?_) (fun h2 => ?_)))
    · have : stepOk n s = false := by simpa using h
      simp [stepsOk, this]
    · have e : stepOk n s = true := by simpa using h
      refine (claim_i xs hm p hp hi c a b n hn r (i + 1) true q.next).to ?_
      simp [stepsOk, e, h2]
    · have e : stepOk n s = true := by simpa using h
      refine (claim_i xs hm p hp hi c a b n hn r (i + 1) (s.1 == 3) q.next).to ?_
      simp [stepsOk, e, h2, hasNote]
theorem i_TrickOk_ev (t : Trick) (h1 : t.1.length ≤ maxLen) (hi : Ins t.1) (h2 : t.2.1.length ≤ maxLen) : Ev (fun k => i_TrickOk k t) (trickOk t) := by
  obtain ⟨p, st, c, a, b⟩ := t
  unfold trickOk
  refine Ev.step (fun k => i_TrickOk_eq k _) (Ev.bind (i_PacketOk_ev p h1 hi) (Ev.ite (fun h => Ev.some ?_) (fun h => Ev.ite (fun h' => Ev.some ?_) (fun h' => Ev.ite (fun h3 => Ev.some ?_) (fun h3 => ?_)))))
  · have : packetOk p = false := by simpa using h
    simp [this]
  · have : p.length = 0 := by simp at h'; simp [h']
    simp [this]
  · have : ¬ st.length ≤ 12 := by simp at h3; omega
    simp [this]
  · refine (claim_i st h2 p h1 hi c a b _ rfl st 0 false rfl).to ?_
    have e1 : packetOk p = true := by simpa using h
    have e2 : (p.length == 0) = false := by simp at h' ⊢; exact h'
    have e3 : st.length ≤ 12 := by simp at h3; omega
    simp [e1, e3, e2]
/-- What fits a trick. -/
theorem trick_fit {t : Trick} (f : Fits TrickTy t) : t.1.length ≤ maxLen ∧ Ins t.1 ∧ t.2.1.length ≤ maxLen := ⟨f.1.1, fun x hx => In.of_fits (f.1.2 x hx), f.2.1.1⟩
theorem trickOk_len {t : Trick} (h : trickOk t = true) : t.2.1.length ≤ 12 ∧ 1 ≤ t.1.length ∧ t.1.length ≤ 12 ∧ packetOk t.1 = true := by
  unfold trickOk at h
  simp only [Bool.and_eq_true, decide_eq_true_eq] at h
  have := packetOk_fit h.1
  have h2 := h.2.1
  refine ⟨h.2.2.1, ?_, this.2.2, h.1⟩
  have : ¬ t.1.length = 0 := by simpa using h2
  omega
end Qq
namespace Qq
open Go Go.Vt Pt
set_option linter.unusedVariables false
set_option linter.unusedSimpArgs false
end Qq
namespace Qq
open Go Go.Vt Pt
set_option linter.unusedVariables false
set_option linter.unusedSimpArgs false
/-- The lists of a valid list for which f holds. -/
def those (l : Packs) (f : List Int → Bool) : Packs := if knowOk l then l.filter f else []
end Qq
namespace Qq
open Go Go.Vt Pt
set_option linter.unusedVariables false
set_option linter.unusedSimpArgs false
set_option linter.unnecessarySimpa false
end Qq
namespace Qq
open Go Go.Vt Pt
set_option linter.unusedVariables false
set_option linter.unusedSimpArgs false
set_option linter.unnecessarySimpa false
def cutL (p : List Int) (k : Nat) : List Int := p.drop k ++ p.take k
def cutsL (p : List Int) : Packs := (List.range p.length).map (cutL p)
theorem cut_fit {p : List Int} {i : Nat} (hp : p.length ≤ 12) (hi : i < p.length) : MoveFit p.length (1, (i : Int)) :=
  ⟨by omega, hp, by simp, .inl (by simp; omega), fun _ => by simp; omega, fun h => by simp at h, fun h => by simp at h⟩
theorem doMove_cut (p : List Int) (i : Nat) : doMove p (1, (i : Int)) = cutL p i := by simp [doMove, cutL]
theorem range_next (n : Nat) (f : Nat → List Int) : (List.range (n + 1)).map f = (List.range n).map f ++ [f n] := by rw [List.range_succ, List.map_append]; rfl
theorem s_l05Cuts_l3_ev (p : List Int) (hp : p.length ≤ 12) (hi : Ins p) : ∀ (m i : Nat), i + m = p.length → Ev (fun k => s_l05Cuts_l3 k p (p.length : Int) (i : Int) ((List.range i).map (cutL p))) (cutsL p)
  | 0, i, h => by
    refine Ev.step (fun k => s_l05Cuts_l3_eq k _ _ _ _) (Ev.no (by simp; omega) (Ev.some ?_))
    have : i = p.length := by omega
    rw [this]; rfl
  | m + 1, i, h => by
    have ih := s_l05Cuts_l3_ev p hp hi m (i + 1) (by omega)
    rw [range_next] at ih
    have ew : IntKind.i64.wrap ((i : Int) + 1) = ((i + 1 : Nat) : Int) := by rw [wrap_id (by omega) (by omega)]; omega
    refine Ev.step (fun k => s_l05Cuts_l3_eq k _ _ _ _) ?_
    simp only [ew]
    refine Ev.yes (by simp; omega) (Ev.bind (s_l04Do_ev p _ (cut_fit hp (by omega)) hi) ?_)
    rw [doMove_cut]
    exact Ev.yes (by rw [rowMax_eq]; exact decide_eq_true (by simp; omega)) ih
theorem s_l05Cuts_ev (p : List Int) (hp : p.length ≤ 12) (hi : Ins p) : Ev (fun k => s_l05Cuts k p) (cutsL p) :=
  Ev.step (fun k => s_l05Cuts_eq k _) (s_l05Cuts_l3_ev p hp hi p.length 0 (by omega))
theorem i_cuts_l3_ev (p : List Int) (hp : p.length ≤ 12) (hi : Ins p) : ∀ (m i : Nat), i + m = p.length → Ev (fun k => i_cuts_l3 k p (p.length : Int) (i : Int) ((List.range i).map (cutL p))) (cutsL p)
  | 0, i, h => by
    refine Ev.step (fun k => i_cuts_l3_eq k _ _ _ _) (Ev.no (by simp; omega) (Ev.some ?_))
    have : i = p.length := by omega
    rw [this]; rfl
  | m + 1, i, h => by
    have ih := i_cuts_l3_ev p hp hi m (i + 1) (by omega)
    rw [range_next] at ih
    have ew : IntKind.i64.wrap ((i : Int) + 1) = ((i + 1 : Nat) : Int) := by rw [wrap_id (by omega) (by omega)]; omega
    refine Ev.step (fun k => i_cuts_l3_eq k _ _ _ _) ?_
    simp only [ew]
    refine Ev.yes (by simp; omega) (Ev.bind (i_moved_ev p _ (cut_fit hp (by omega)) hi) ?_)
    rw [doMove_cut]
    exact Ev.yes (by rw [rowMax_eq]; exact decide_eq_true (by simp; omega)) ih
theorem i_cuts_ev (p : List Int) (hp : p.length ≤ 12) (hi : Ins p) : Ev (fun k => i_cuts k p) (cutsL p) :=
  Ev.step (fun k => i_cuts_eq k _) (i_cuts_l3_ev p hp hi p.length 0 (by omega))
def pickL (p : List Int) (i : Nat) : List Int := [p.getD i 0] ++ (p.take i ++ p.drop (i + 1))
def picksL (p : List Int) : Packs := (List.range p.length).map (pickL p)
theorem s_l05Of_l15_ev (p : List Int) (hp : p.length ≤ 12) : ∀ (m i : Nat), i + m = p.length → Ev (fun k => s_l05Of_l15 k p p (p.length : Int) (i : Int) ((List.range i).map (pickL p))) (picksL p)
  | 0, i, h => by
    refine Ev.step (fun k => s_l05Of_l15_eq k _ _ _ _ _) (Ev.no (by simp; omega) (Ev.some ?_))
    have : i = p.length := by omega
    rw [this]; rfl
  | m + 1, i, h => by
    have ih := s_l05Of_l15_ev p hp m (i + 1) (by omega)
    rw [range_next] at ih
    have ew : IntKind.i64.wrap ((i : Int) + 1) = ((i + 1 : Nat) : Int) := by rw [wrap_id (by omega) (by omega)]; omega
    refine Ev.step (fun k => s_l05Of_l15_eq k _ _ _ _ _) ?_
    simp only [ew, take_all, Int.toNat_natCast, List.take_length, List.drop_zero, List.nil_append]
    refine Ev.yes (by simp; omega) ?_
    (repeat (first | refine Ev.yes (by (first | (simp [rowMax_eq]; done) | (simp [rowMax_eq]; omega) | omega)) ?_ | refine Ev.no (by (first | (simp [rowMax_eq]; done) | (simp [rowMax_eq]; omega) | omega)) ?_))
    exact ih
theorem i_all_l20_ev (p : List Int) (hp : p.length ≤ 12) : ∀ (m i : Nat), i + m = p.length → Ev (fun k => i_all_l20 k p (p.length : Int) (i : Int) ((List.range i).map (pickL p))) (picksL p, true)
  | 0, i, h => by
    refine Ev.step (fun k => i_all_l20_eq k _ _ _ _) (Ev.no (by simp; omega) (Ev.some ?_))
    have : i = p.length := by omega
    rw [this]; rfl
  | m + 1, i, h => by
    have ih := i_all_l20_ev p hp m (i + 1) (by omega)
    rw [range_next] at ih
    have hil : i < p.length := by omega
    have ew : IntKind.i64.wrap ((i : Int) + 1) = ((i + 1 : Nat) : Int) := by rw [wrap_id (by omega) (by omega)]; omega
    refine Ev.step (fun k => i_all_l20_eq k _ _ _ _) ?_
    simp only [ew, take_all, Int.toNat_natCast, List.take_length, List.drop_zero, List.nil_append]
    refine Ev.yes (by simp; omega) ?_
    (repeat (first | refine Ev.yes (by (first | (simp [rowMax_eq]; done) | (simp [rowMax_eq]; omega) | omega)) ?_ | refine Ev.no (by (first | (simp [rowMax_eq]; done) | (simp [rowMax_eq]; omega) | omega)) ?_))
    have e1 : (p.take (i + 1)).drop i = [p.getD i 0] := by
      rw [List.take_add_one, List.getElem?_eq_getElem hil, List.drop_append_of_le_length (by simp; omega), List.drop_eq_nil_of_le (by simp; omega)]
      simp [List.getD, hil]
    refine Ev.bind ((Concat_ev [(p.take (i + 1)).drop i, p.take i, p.drop (i + 1)] (by rw [maxLen_eq]; simp) (by simp; omega)).to (show _ = pickL p i by rw [e1]; simp [pickL])) ?_
    exact Ev.yes (by rw [rowMax_eq]; exact decide_eq_true (by simp; omega)) ih
def wv : List Int → List Int → List Int → Packs
  | d, [], [] => [d]
  | d, x :: a, [] => wv (d ++ [x]) a []
  | d, [], y :: b => wv (d ++ [y]) [] b
  | d, x :: a, y :: b => wv (d ++ [x]) a (y :: b) ++ wv (d ++ [y]) (x :: a) b
termination_by _ a b => a.length + b.length
theorem wv_len : ∀ (n : Nat) (d a b : List Int), a.length + b.length = n → (wv d a b).length ≤ 2 ^ n
  | n, d, [], [], h => by unfold wv; simp; exact Nat.one_le_two_pow
  | n + 1, d, x :: a, [], h => by
    unfold wv
    have := wv_len n (d ++ [x]) a [] (by simp at h ⊢; omega)
    rw [Nat.pow_succ]; omega
  | n + 1, d, [], y :: b, h => by
    unfold wv
    have := wv_len n (d ++ [y]) [] b (by simp at h ⊢; omega)
    rw [Nat.pow_succ]; omega
  | n + 1, d, x :: a, y :: b, h => by
    unfold wv
    have h1 := wv_len n (d ++ [x]) a (y :: b) (by simp at h ⊢; omega)
    have h2 := wv_len n (d ++ [y]) (x :: a) b (by simp at h ⊢; omega)
    rw [List.length_append, Nat.pow_succ]; omega
  | 0, d, x :: a, _, h => by simp at h
  | 0, d, [], y :: b, h => by simp at h
theorem s_l05Weave_ev : ∀ (n : Nat) (out : Packs) (d a b : List Int), a.length + b.length = n → d.length + n ≤ 100 → out.length + 2 ^ n ≤ 1048576 → Ev (fun k => s_l05Weave k (out, d, a, b)) (out ++ wv d a b)
  | n, out, d, [], [], h, hd, ho => by
    have : 1 ≤ 2 ^ n := Nat.one_le_two_pow
    unfold wv
    refine Ev.step (fun k => s_l05Weave_eq k _ _ _ _) (Ev.yes (by (first | (simp [rowMax_eq]; done) | (simp [rowMax_eq]; omega) | omega)) (Ev.yes (by (first | (simp [rowMax_eq]; done) | (simp [rowMax_eq]; omega) | omega)) (Ev.yes (by rw [rowMax_eq]; exact decide_eq_true (by simp; omega)) (Ev.pure _))))
  | n + 1, out, d, x :: a, [], h, hd, ho => by
    rw [Nat.pow_succ] at ho
    have ih := s_l05Weave_ev n out (d ++ [x]) a [] (by simp at h ⊢; omega) (by simp; omega) (by omega)
    unfold wv
    refine Ev.step (fun k => s_l05Weave_eq k _ _ _ _) ?_
    simp only [take_all, List.nil_append, List.getD_cons_zero, List.drop_succ_cons, List.drop_zero]
    refine Ev.no (by (first | (simp [rowMax_eq]; done) | (simp [rowMax_eq]; omega) | omega)) (Ev.yes (by (first | (simp [rowMax_eq]; done) | (simp [rowMax_eq]; omega) | omega)) (Ev.yes (by (first | (simp [rowMax_eq]; done) | (simp [rowMax_eq]; omega) | omega)) (Ev.yes (by (first | (simp [rowMax_eq]; done) | (simp [rowMax_eq]; omega) | omega)) (Ev.yes (by (first | (simp [rowMax_eq]; done) | (simp [rowMax_eq]; omega) | omega)) (Ev.yes (by (first | (simp [rowMax_eq]; done) | (simp [rowMax_eq]; omega) | omega)) (Ev.yes (by (first | (simp [rowMax_eq]; done) | (simp [rowMax_eq]; omega) | omega)) (Ev.bind ih (Ev.no (by (first | (simp [rowMax_eq]; done) | (simp [rowMax_eq]; omega) | omega)) (Ev.pure _)))))))))
  | n + 1, out, d, [], y :: b, h, hd, ho => by
    rw [Nat.pow_succ] at ho
    have ih := s_l05Weave_ev n out (d ++ [y]) [] b (by simp at h ⊢; omega) (by simp; omega) (by omega)
    unfold wv
    refine Ev.step (fun k => s_l05Weave_eq k _ _ _ _) ?_
    simp only [take_all, List.nil_append, List.getD_cons_zero, List.drop_succ_cons, List.drop_zero]
    refine Ev.yes (by (first | (simp [rowMax_eq]; done) | (simp [rowMax_eq]; omega) | omega)) (Ev.no (by (first | (simp [rowMax_eq]; done) | (simp [rowMax_eq]; omega) | omega)) (Ev.no (by (first | (simp [rowMax_eq]; done) | (simp [rowMax_eq]; omega) | omega)) (Ev.yes (by (first | (simp [rowMax_eq]; done) | (simp [rowMax_eq]; omega) | omega)) (Ev.yes (by (first | (simp [rowMax_eq]; done) | (simp [rowMax_eq]; omega) | omega)) (Ev.yes (by (first | (simp [rowMax_eq]; done) | (simp [rowMax_eq]; omega) | omega)) (Ev.yes (by (first | (simp [rowMax_eq]; done) | (simp [rowMax_eq]; omega) | omega)) (Ev.yes (by (first | (simp [rowMax_eq]; done) | (simp [rowMax_eq]; omega) | omega)) (Ev.yes (by (first | (simp [rowMax_eq]; done) | (simp [rowMax_eq]; omega) | omega)) (Ev.bind ih (Ev.pure _))))))))))
  | n + 1, out, d, x :: a, y :: b, h, hd, ho => by
    rw [Nat.pow_succ] at ho
    have hl := wv_len n (d ++ [x]) a (y :: b) (by simp at h ⊢; omega)
    have i1 := s_l05Weave_ev n out (d ++ [x]) a (y :: b) (by simp at h ⊢; omega) (by simp; omega) (by omega)
    have i2 := s_l05Weave_ev n (out ++ wv (d ++ [x]) a (y :: b)) (d ++ [y]) (x :: a) b (by simp at h ⊢; omega) (by simp; omega) (by simp; omega)
    unfold wv
    refine Ev.step (fun k => s_l05Weave_eq k _ _ _ _) ?_
    simp only [take_all, List.nil_append, List.getD_cons_zero, List.drop_succ_cons, List.drop_zero]
    refine Ev.no (by (first | (simp [rowMax_eq]; done) | (simp [rowMax_eq]; omega) | omega)) (Ev.yes (by (first | (simp [rowMax_eq]; done) | (simp [rowMax_eq]; omega) | omega)) (Ev.yes (by (first | (simp [rowMax_eq]; done) | (simp [rowMax_eq]; omega) | omega)) (Ev.yes (by (first | (simp [rowMax_eq]; done) | (simp [rowMax_eq]; omega) | omega)) (Ev.yes (by (first | (simp [rowMax_eq]; done) | (simp [rowMax_eq]; omega) | omega)) (Ev.yes (by (first | (simp [rowMax_eq]; done) | (simp [rowMax_eq]; omega) | omega)) (Ev.yes (by (first | (simp [rowMax_eq]; done) | (simp [rowMax_eq]; omega) | omega)) (Ev.bind i1 ?_)))))))
    refine Ev.yes (by (first | (simp [rowMax_eq]; done) | (simp [rowMax_eq]; omega) | omega)) (Ev.yes (by (first | (simp [rowMax_eq]; done) | (simp [rowMax_eq]; omega) | omega)) (Ev.yes (by (first | (simp [rowMax_eq]; done) | (simp [rowMax_eq]; omega) | omega)) (Ev.yes (by (first | (simp [rowMax_eq]; done) | (simp [rowMax_eq]; omega) | omega)) (Ev.yes (by (first | (simp [rowMax_eq]; done) | (simp [rowMax_eq]; omega) | omega)) (Ev.yes (by (first | (simp [rowMax_eq]; done) | (simp [rowMax_eq]; omega) | omega)) (Ev.bind i2 (Ev.some (by simp))))))))
  | 0, out, d, x :: a, _, h, hd, ho => by simp at h
  | 0, out, d, [], y :: b, h, hd, ho => by simp at h
end Qq
namespace Qq
open Go Go.Vt Pt
set_option linter.unusedVariables false
set_option linter.unusedSimpArgs false
/-- A riffle by bits: whether each card comes from the second part. -/
def rfi : Nat → Nat → List Bool → List Nat
  | _, _, [] => []
  | f, s, true :: r => s :: rfi f (s + 1) r
  | f, s, false :: r => f :: rfi (f + 1) s r
def zerosB : List Bool → Nat
  | [] => 0 | true :: r => zerosB r | false :: r => zerosB r + 1
def onesB : List Bool → Nat
  | [] => 0 | true :: r => onesB r + 1 | false :: r => onesB r
def bitsD : Nat → Nat → List Bool
  | 0, _ => [] | m + 1, w => Nat.beq (w % 2) 1 :: bitsD m (w / 2)
def riffI (n w : Nat) : List Nat := rfi 0 (zerosB (bitsD n w)) (bitsD n w)
def decGo : Nat → Option Nat → List Nat → Nat
  | _, _, [] => 0
  | i, none, x :: r => bif Nat.beq x i then decGo (i + 1) none r else 2 ^ i + decGo (i + 1) (some x) r
  | i, some s, x :: r => (bif Nat.ble s x then 2 ^ i else 0) + decGo (i + 1) (some s) r
def isIdB : Nat → List Nat → Bool
  | _, [] => true | i, x :: r => Nat.beq x i && isIdB (i + 1) r
def wellW (w : Nat) : Bool := !isIdB 0 (riffI 12 w)
theorem riff12 : ((List.range 4096).all fun w => isIdB 0 (riffI 12 w) || Nat.beq (decGo 0 none (riffI 12 w)) w) = true := by kernel_rfl
theorem riff12_count : ((List.range 4096).filter wellW).length = 4083 := by kernel_rfl
theorem nodup_sub {α : Type} [DecidableEq α] : ∀ {l m : List α}, l.Nodup → (∀ x ∈ l, x ∈ m) → l.length ≤ m.length
  | [], m, _, _ => Nat.zero_le _
  | x :: l, m, h, hs => by
    obtain ⟨h1, h2⟩ := List.nodup_cons.1 h
    have hx := hs x (by simp)
    have := nodup_sub (l := l) (m := m.erase x) h2 fun y hy => (List.mem_erase_of_ne (fun e => h1 (by rw [e] at hy; exact hy))).2 (hs y (by simp [hy]))
    rw [List.length_erase_of_mem hx] at this
    have : 0 < m.length := List.length_pos_of_mem hx
    simp; omega
end Qq
namespace Qq
open Go Go.Vt Pt
set_option linter.unusedVariables false
set_option linter.unusedSimpArgs false
def bits : Nat → Nat → List Bool
  | 0, _ => []
  | n + 1, w => (w % 2 == 1) :: bits n (w / 2)
/-- A bit, as the program takes it. -/
theorem bit_wrap (w i : Nat) (hi : i < 64) (hw : w < 9223372036854775808) : IntKind.i64.wrap (((BitVec.ofInt IntKind.i64.bits (((w : Int)).fdiv (2 ^ (min ((i : Int)).toNat IntKind.i64.bits))) &&& BitVec.ofInt IntKind.i64.bits (1 : Int)).toNat : Int)) = ((w / 2 ^ i % 2 : Nat) : Int) := by
  have hb : IntKind.i64.bits = 64 := by decide
  rw [hb, Int.toNat_natCast, Nat.min_eq_left (by omega)]
  have e1 : ((w : Int)).fdiv (2 ^ i) = ((w / 2 ^ i : Nat) : Int) := by
    rw [Int.fdiv_eq_ediv_of_nonneg _ (by exact Int.le_of_lt (Int.pow_pos (by decide)))]
    norm_cast
  have e2 : (BitVec.ofInt 64 ((w / 2 ^ i : Nat) : Int) &&& BitVec.ofInt 64 (1 : Int)).toNat = w / 2 ^ i % 2 := by
    have h1 : (1 : Int) = ((1 : Nat) : Int) := rfl
    rw [h1, BitVec.ofInt_natCast, BitVec.ofInt_natCast, BitVec.toNat_and, BitVec.toNat_ofNat, BitVec.toNat_ofNat]
    have hlt : w / 2 ^ i < 2 ^ 64 := by
      have := Nat.div_le_self w (2 ^ i)
      omega
    rw [Nat.mod_eq_of_lt hlt]
    exact Nat.and_one_is_mod _
  rw [e1, e2, wrap_id (by omega) (by omega)]
end Qq
namespace Qq
open Go Go.Vt Pt
set_option linter.unusedVariables false
set_option linter.unusedSimpArgs false
set_option linter.unnecessarySimpa false
theorem bitsD_len : ∀ (m w : Nat), (bitsD m w).length = m
  | 0, _ => rfl
  | m + 1, w => by rw [bitsD, List.length_cons, bitsD_len]
theorem zo_len : ∀ l : List Bool, zerosB l + onesB l = l.length
  | [] => rfl
  | true :: r => by have := zo_len r; simp [zerosB, onesB]; omega
  | false :: r => by have := zo_len r; simp [zerosB, onesB]; omega
def rfp (p : List Int) : Nat → Nat → List Bool → List Int
  | _, _, [] => []
  | f, s, true :: r => p.getD s 0 :: rfp p f (s + 1) r
  | f, s, false :: r => p.getD f 0 :: rfp p (f + 1) s r
def riffp (p : List Int) (w : Nat) : List Int := rfp p 0 (zerosB (bitsD p.length w)) (bitsD p.length w)
theorem div_next (w i : Nat) : w / 2 ^ i / 2 = w / 2 ^ (i + 1) := by rw [Nat.div_div_eq_div_mul, Nat.pow_succ]
theorem bitsD_step (m w i : Nat) : bitsD (m + 1) (w / 2 ^ i) = Nat.beq (w / 2 ^ i % 2) 1 :: bitsD m (w / 2 ^ (i + 1)) := by rw [bitsD, div_next]
theorem i_riffledp_l9_ev (p : List Int) (hp : p.length ≤ 12) (w : Nat) (hw : w ≤ 4096) : ∀ (m i f s : Nat) (out : List Int), i + m = p.length → f + zerosB (bitsD m (w / 2 ^ i)) ≤ p.length → s + onesB (bitsD m (w / 2 ^ i)) ≤ p.length → out.length ≤ i →
    Ev (fun k => i_riffled_l9 k p (w : Int) (f : Int) (s : Int) (p.length : Int) (i : Int) out) (out ++ rfp p f s (bitsD m (w / 2 ^ i)))
  | 0, i, f, s, out, h, hf, hs, ho => by
    refine Ev.step (fun k => i_riffled_l9_eq k _ _ _ _ _ _ _) (Ev.no (by simp; omega) (Ev.some ?_))
    simp [bitsD, rfp]
  | m + 1, i, f, s, out, h, hf, hs, ho => by
    have ih := fun f s out => i_riffledp_l9_ev p hp w hw m (i + 1) f s out (by omega)
    have ew : ∀ j : Nat, j ≤ 12 → IntKind.i64.wrap ((j : Int) + 1) = ((j + 1 : Nat) : Int) := fun j hj => by rw [wrap_id (by omega) (by omega)]; omega
    rw [bitsD_step] at hf hs ⊢
    refine Ev.step (fun k => i_riffled_l9_eq k _ _ _ _ _ _ _) ?_
    simp only [bit_wrap w i (by omega) (by omega), ew i (by omega)]
    simp only [Int.toNat_natCast]
    refine Ev.yes (by simp; omega) (Ev.yes (by simp) ?_)
    cases hb : Nat.beq (w / 2 ^ i % 2) 1 with
    | true =>
      rw [hb] at hf hs
      have hb' := Nat.eq_of_beq_eq_true hb
      simp only [zerosB, onesB] at hf hs
      rw [ew s (by omega)]
      refine Ev.yes (by rw [hb']; rfl) (Ev.yes (by simp) (Ev.yes (by simp; omega) (Ev.yes (by rw [rowMax_eq]; exact decide_eq_true (by simp; omega)) ?_)))
      exact (ih f (s + 1) (out ++ [p.getD s 0]) (by omega) (by omega) (by simp; omega)).to (by simp [rfp])
    | false =>
      rw [hb] at hf hs
      have hb' : ¬ w / 2 ^ i % 2 = 1 := fun e => by rw [e] at hb; cases hb
      simp only [zerosB, onesB] at hf hs
      rw [ew f (by omega)]
      have h0 : w / 2 ^ i % 2 = 0 := by omega
      refine Ev.no (by rw [h0]; rfl) (Ev.yes (by simp) (Ev.yes (by simp; omega) (Ev.yes (by rw [rowMax_eq]; exact decide_eq_true (by simp; omega)) ?_)))
      exact (ih (f + 1) s (out ++ [p.getD f 0]) (by omega) (by omega) (by simp; omega)).to (by simp [rfp])
theorem i_riffledp_l3_ev (p : List Int) (hp : p.length ≤ 12) (w : Nat) (hw : w ≤ 4096) : ∀ (m i z : Nat), i + m = p.length → z ≤ i →
    Ev (fun k => i_riffled_l3 k p (w : Int) 0 (z : Int) (p.length : Int) (i : Int)) (rfp p 0 (z + zerosB (bitsD m (w / 2 ^ i))) (bitsD p.length w)) ∨ z + zerosB (bitsD m (w / 2 ^ i)) ≠ zerosB (bitsD p.length w)
  | 0, i, z, h, hz => by
    by_cases hzz : z + zerosB (bitsD 0 (w / 2 ^ i)) = zerosB (bitsD p.length w)
    · left
      refine Ev.step (fun k => i_riffled_l3_eq k _ _ _ _ _ _) (Ev.no (by simp; omega) ?_)
      have e : zerosB (bitsD 0 (w / 2 ^ i)) = 0 := rfl
      rw [e] at hzz ⊢
      have hl := zo_len (bitsD p.length w)
      rw [bitsD_len] at hl
      have := i_riffledp_l9_ev p hp w hw p.length 0 0 z [] (by omega) (by rw [Nat.pow_zero, Nat.div_one]; omega) (by rw [Nat.pow_zero, Nat.div_one]; omega) (Nat.le_refl _)
      rw [Nat.pow_zero, Nat.div_one, List.nil_append] at this
      exact this
    · exact .inr hzz
  | m + 1, i, z, h, hz => by
    rw [bitsD_step]
    have ew : IntKind.i64.wrap ((i : Int) + 1) = ((i + 1 : Nat) : Int) := by rw [wrap_id (by omega) (by omega)]; omega
    cases hb : Nat.beq (w / 2 ^ i % 2) 1 with
    | true =>
      have hb' := Nat.eq_of_beq_eq_true hb
      simp only [zerosB]
      refine (i_riffledp_l3_ev p hp w hw m (i + 1) z (by omega) (by omega)).imp_left fun ih => ?_
      refine Ev.step (fun k => i_riffled_l3_eq k _ _ _ _ _ _) ?_
      simp only [bit_wrap w i (by omega) (by omega), ew, hb']
      refine Ev.yes (by simp; omega) (Ev.yes (by simp) ?_)
      have e2 : IntKind.i64.wrap ((z : Int) + IntKind.i64.wrap (1 - ((1 : Nat) : Int))) = (z : Int) := by rw [wrap_id (x := 1 - ((1 : Nat) : Int)) (by omega) (by omega), wrap_id (by omega) (by omega)]; omega
      rw [e2]
      exact ih
    | false =>
      have hb' : w / 2 ^ i % 2 = 0 := by
        have : ¬ w / 2 ^ i % 2 = 1 := fun e => by rw [e] at hb; cases hb
        omega
      simp only [zerosB]
      rw [show z + (zerosB (bitsD m (w / 2 ^ (i + 1))) + 1) = (z + 1) + zerosB (bitsD m (w / 2 ^ (i + 1))) by omega]
      refine (i_riffledp_l3_ev p hp w hw m (i + 1) (z + 1) (by omega) (by omega)).imp_left fun ih => ?_
      refine Ev.step (fun k => i_riffled_l3_eq k _ _ _ _ _ _) ?_
      simp only [bit_wrap w i (by omega) (by omega), ew, hb']
      refine Ev.yes (by simp; omega) (Ev.yes (by simp) ?_)
      have e2 : IntKind.i64.wrap ((z : Int) + IntKind.i64.wrap (1 - ((0 : Nat) : Int))) = ((z + 1 : Nat) : Int) := by rw [wrap_id (x := 1 - ((0 : Nat) : Int)) (by omega) (by omega), wrap_id (by omega) (by omega)]; omega
      rw [e2]
      exact ih
theorem i_riffledp_ev (p : List Int) (hp : p.length ≤ 12) (w : Nat) (hw : w ≤ 4096) : Ev (fun k => i_riffled k (p, (w : Int))) (riffp p w) := by
  refine Ev.step (fun k => i_riffled_eq k _ _) ?_
  have := i_riffledp_l3_ev p hp w hw p.length 0 0 (by omega) (Nat.le_refl _)
  rw [Nat.pow_zero, Nat.div_one, Nat.zero_add] at this
  exact this.resolve_right (fun h => h rfl)
def riffsB (p : List Int) : Packs := (List.range (2 ^ p.length)).map (riffp p)
theorem two_le {n : Nat} (h : n ≤ 12) : 2 ^ n ≤ 4096 := Nat.pow_le_pow_right (by decide) h
theorem i_all_l9_ev (p : List Int) (hp : p.length ≤ 12) : ∀ (m i : Nat), i + m = 2 ^ p.length → Ev (fun k => i_all_l9 k p (i : Int) ((List.range i).map (riffp p))) (riffsB p, true)
  | m, i, h => by
    have h2 := two_le hp
    have e : IntKind.i64.wrap ((1 : Int) * 2 ^ (min (p.length : Int).toNat IntKind.i64.bits)) = ((2 ^ p.length : Nat) : Int) := by
      have hm : min (p.length : Int).toNat IntKind.i64.bits = p.length := by
        have : IntKind.i64.bits = 64 := rfl
        rw [this, Int.toNat_natCast]; omega
      rw [hm, Int.one_mul, show (2 : Int) ^ p.length = ((2 ^ p.length : Nat) : Int) by simp, wrap_id (by omega) (by omega)]
    refine Ev.step (fun k => i_all_l9_eq k _ _ _) (Ev.yes (by simp) ?_)
    rw [e]
    match m, h with
    | 0, h =>
      refine Ev.no (by simp only [decide_eq_false_iff_not]; omega) (Ev.some ?_)
      have : i = 2 ^ p.length := by omega
      rw [this]; rfl
    | m + 1, h =>
      have ih := i_all_l9_ev p hp m (i + 1) (by omega)
      rw [range_next] at ih
      have ew : IntKind.i64.wrap ((i : Int) + 1) = ((i + 1 : Nat) : Int) := by rw [wrap_id (by omega) (by omega)]; omega
      rw [ew]
      refine Ev.yes (by simp only [decide_eq_true_eq]; omega) (Ev.bind (i_riffledp_ev p hp i (by omega)) (Ev.yes (by rw [rowMax_eq]; exact decide_eq_true (by simp; omega)) ih))
def riffsW (p : List Int) : Packs := (List.range (p.length + 1)).flatMap fun k => wv [] (p.take k) (p.drop k)
theorem flat_len : ∀ (n i : Nat) (p : List Int), p.length = n → ((List.range i).flatMap fun k => wv [] (p.take k) (p.drop k)).length ≤ i * 2 ^ n
  | n, 0, p, h => by simp
  | n, i + 1, p, h => by
    have h1 := flat_len n i p h
    have h2 := wv_len n [] (p.take i) (p.drop i) (by simp; omega)
    rw [List.range_succ, List.flatMap_append, List.length_append, Nat.add_mul, Nat.one_mul]
    simp only [List.flatMap_cons, List.flatMap_nil, List.append_nil]
    omega
theorem s_l05Of_l7_ev (p : List Int) (hp : p.length ≤ 12) : ∀ (m i : Nat), i + m = p.length + 1 → Ev (fun k => s_l05Of_l7 k p (i : Int) ((List.range i).flatMap fun k => wv [] (p.take k) (p.drop k))) (riffsW p)
  | 0, i, h => by
    refine Ev.step (fun k => s_l05Of_l7_eq k _ _ _) (Ev.no (by simp; omega) (Ev.some ?_))
    have : i = p.length + 1 := by omega
    rw [this]; rfl
  | m + 1, i, h => by
    have ih := s_l05Of_l7_ev p hp m (i + 1) (by omega)
    have e : (List.range (i + 1)).flatMap (fun k => wv [] (p.take k) (p.drop k)) = ((List.range i).flatMap fun k => wv [] (p.take k) (p.drop k)) ++ wv [] (p.take i) (p.drop i) := by
      rw [List.range_succ, List.flatMap_append]; simp
    rw [e] at ih
    have ew : IntKind.i64.wrap ((i : Int) + 1) = ((i + 1 : Nat) : Int) := by rw [wrap_id (by omega) (by omega)]; omega
    have h2 := two_le hp
    have hl := flat_len p.length i p rfl
    have hl2 : i * 2 ^ p.length ≤ 13 * 4096 := Nat.mul_le_mul (by omega) h2
    refine Ev.step (fun k => s_l05Of_l7_eq k _ _ _) ?_
    simp only [ew, take_all, Int.toNat_natCast, List.take_length, List.drop_zero]
    refine Ev.yes (by simp; omega) ?_
    (repeat (first | refine Ev.yes (by (first | (simp [rowMax_eq]; done) | (simp [rowMax_eq]; omega) | omega)) ?_ | refine Ev.no (by (first | (simp [rowMax_eq]; done) | (simp [rowMax_eq]; omega) | omega)) ?_))
    exact Ev.bind (s_l05Weave_ev p.length _ [] _ _ (by simp; omega) (by simp; omega) (by omega)) ih
def weaveB : List Bool → List Int → List Int → List Int
  | true :: r, a, y :: b => y :: weaveB r a b
  | false :: r, x :: a, b => x :: weaveB r a b
  | _, _, _ => []
theorem wv_mem : ∀ (n : Nat) (d a b q : List Int), a.length + b.length = n → (q ∈ wv d a b ↔ ∃ bits, zerosB bits = a.length ∧ onesB bits = b.length ∧ q = d ++ weaveB bits a b)
  | n, d, [], [], q, h => by
    unfold wv
    constructor
    · intro hq
      exact ⟨[], rfl, rfl, by simpa [weaveB] using hq⟩
    · rintro ⟨bits, h1, h2, rfl⟩
      have : bits = [] := by
        have := zo_len bits
        simp at h1 h2
        exact List.length_eq_zero_iff.1 (by omega)
      subst this
      simp [weaveB]
  | n + 1, d, x :: a, [], q, h => by
    unfold wv
    rw [wv_mem n (d ++ [x]) a [] q (by simp at h ⊢; omega)]
    constructor
    · rintro ⟨bits, h1, h2, rfl⟩
      exact ⟨false :: bits, by simp [zerosB, h1], by simpa [onesB] using h2, by simp [weaveB]⟩
    · rintro ⟨bits, h1, h2, rfl⟩
      match bits, h1, h2 with
      | false :: bits, h1, h2 => exact ⟨bits, by simpa [zerosB] using h1, by simpa [onesB] using h2, by simp [weaveB]⟩
      | true :: bits, h1, h2 => simp [onesB] at h2
      | [], h1, h2 => simp [zerosB] at h1
  | n + 1, d, [], y :: b, q, h => by
    unfold wv
    rw [wv_mem n (d ++ [y]) [] b q (by simp at h ⊢; omega)]
    constructor
    · rintro ⟨bits, h1, h2, rfl⟩
      exact ⟨true :: bits, by simpa [zerosB] using h1, by simp [onesB, h2], by simp [weaveB]⟩
    · rintro ⟨bits, h1, h2, rfl⟩
      match bits, h1, h2 with
      | true :: bits, h1, h2 => exact ⟨bits, by simpa [zerosB] using h1, by simpa [onesB] using h2, by simp [weaveB]⟩
      | false :: bits, h1, h2 => simp [zerosB] at h1
      | [], h1, h2 => simp [onesB] at h2
  | n + 1, d, x :: a, y :: b, q, h => by
    unfold wv
    rw [List.mem_append, wv_mem n (d ++ [x]) a (y :: b) q (by simp at h ⊢; omega), wv_mem n (d ++ [y]) (x :: a) b q (by simp at h ⊢; omega)]
    constructor
    · rintro (⟨bits, h1, h2, rfl⟩ | ⟨bits, h1, h2, rfl⟩)
      · exact ⟨false :: bits, by simp [zerosB, h1], by simpa [onesB] using h2, by simp [weaveB]⟩
      · exact ⟨true :: bits, by simpa [zerosB] using h1, by simp [onesB, h2], by simp [weaveB]⟩
    · rintro ⟨bits, h1, h2, rfl⟩
      match bits, h1, h2 with
      | true :: bits, h1, h2 => exact .inr ⟨bits, by simpa [zerosB] using h1, by simpa [onesB] using h2, by simp [weaveB]⟩
      | false :: bits, h1, h2 => exact .inl ⟨bits, by simpa [zerosB] using h1, by simpa [onesB] using h2, by simp [weaveB]⟩
      | [], h1, h2 => simp [onesB] at h2
  | 0, d, x :: a, _, q, h => by simp at h
  | 0, d, [], y :: b, q, h => by simp at h
theorem rfp_weave (p : List Int) (k : Nat) (hk : k ≤ p.length) : ∀ (bits : List Bool) (f s : Nat), f + zerosB bits = k → s + onesB bits = p.length → rfp p f s bits = weaveB bits ((p.take k).drop f) (p.drop s)
  | [], f, s, h1, h2 => by unfold rfp weaveB; rfl
  | true :: r, f, s, h1, h2 => by
    simp only [zerosB, onesB] at h1 h2
    have hs : s < p.length := by omega
    rw [List.drop_eq_getElem_cons hs]
    unfold rfp weaveB
    rw [rfp_weave p k hk r f (s + 1) h1 (by omega)]
    simp [List.getD, hs]
  | false :: r, f, s, h1, h2 => by
    simp only [zerosB, onesB] at h1 h2
    have hf : f < (p.take k).length := by simp; omega
    rw [List.drop_eq_getElem_cons hf]
    unfold rfp weaveB
    rw [rfp_weave p k hk r (f + 1) s (by omega) h2]
    have : f < p.length := by omega
    simp [List.getD, this]
def nb : List Bool → Nat
  | [] => 0 | b :: r => (bif b then 1 else 0) + 2 * nb r
theorem bitsD_nb : ∀ l : List Bool, bitsD l.length (nb l) = l ∧ nb l < 2 ^ l.length
  | [] => ⟨rfl, by decide⟩
  | b :: r => by
    obtain ⟨h1, h2⟩ := bitsD_nb r
    rw [List.length_cons, bitsD, nb, Nat.pow_succ]
    have e1 : ((bif b then 1 else 0) + 2 * nb r) / 2 = nb r := by cases b <;> simp <;> omega
    have e2 : ((bif b then 1 else 0) + 2 * nb r) % 2 = (bif b then 1 else 0) := by cases b <;> simp <;> omega
    rw [e1, e2, h1]
    refine ⟨by cases b <;> rfl, ?_⟩
    cases b <;> simp <;> omega
theorem riffs_same (p q : List Int) : q ∈ riffsB p ↔ q ∈ riffsW p := by
  unfold riffsB riffsW
  rw [List.mem_map, List.mem_flatMap]
  constructor
  · rintro ⟨w, hw, rfl⟩
    have hl := zo_len (bitsD p.length w)
    rw [bitsD_len] at hl
    refine ⟨zerosB (bitsD p.length w), by simp; omega, ?_⟩
    rw [wv_mem p.length [] _ _ _ (by simp; omega)]
    refine ⟨bitsD p.length w, by simp; omega, by simp; omega, ?_⟩
    unfold riffp
    rw [rfp_weave p (zerosB (bitsD p.length w)) (by omega) _ 0 _ (by omega) (by omega)]
    simp
  · rintro ⟨k, hk, hq⟩
    have hk' : k ≤ p.length := by have := List.mem_range.1 hk; omega
    rw [wv_mem p.length [] _ _ _ (by simp; omega)] at hq
    obtain ⟨bits, h1, h2, rfl⟩ := hq
    simp at h1 h2
    have hl := zo_len bits
    obtain ⟨b1, b2⟩ := bitsD_nb bits
    have hbl : bits.length = p.length := by omega
    rw [hbl] at b1 b2
    refine ⟨nb bits, List.mem_range.2 b2, ?_⟩
    unfold riffp
    rw [b1, rfp_weave p k hk' bits 0 _ (by omega) (by omega)]
    have : zerosB bits = k := by omega
    rw [this]
    simp
end Qq
namespace Qq
open Go Go.Vt Pt
set_option linter.unusedVariables false
set_option linter.unusedSimpArgs false
set_option linter.unnecessarySimpa false
theorem rfp_rfi (p : List Int) : ∀ (bits : List Bool) (f s : Nat), rfp p f s bits = (rfi f s bits).map fun i => p.getD i 0
  | [], _, _ => rfl
  | true :: r, f, s => by unfold rfp rfi; rw [rfp_rfi p r]; rfl
  | false :: r, f, s => by unfold rfp rfi; rw [rfp_rfi p r]; rfl
theorem rfi_lt (n : Nat) : ∀ (bits : List Bool) (f s : Nat), f + zerosB bits ≤ n → s + onesB bits ≤ n → ∀ x ∈ rfi f s bits, x < n
  | [], _, _, _, _, x, hx => by cases hx
  | true :: r, f, s, h1, h2, x, hx => by
    simp only [zerosB, onesB] at h1 h2
    rcases List.mem_cons.1 hx with rfl | hx
    · omega
    · exact rfi_lt n r f (s + 1) h1 (by omega) x hx
  | false :: r, f, s, h1, h2, x, hx => by
    simp only [zerosB, onesB] at h1 h2
    rcases List.mem_cons.1 hx with rfl | hx
    · omega
    · exact rfi_lt n r (f + 1) s (by omega) h2 x hx
theorem map_inj_on {g : Nat → Int} {n : Nat} (hg : ∀ i j, i < n → j < n → g i = g j → i = j) : ∀ {l m : List Nat}, (∀ x ∈ l, x < n) → (∀ x ∈ m, x < n) → l.map g = m.map g → l = m
  | [], [], _, _, _ => rfl
  | [], _ :: _, _, _, h => by simp at h
  | _ :: _, [], _, _, h => by simp at h
  | x :: l, y :: m, hl, hm, h => by
    simp only [List.map_cons, List.cons.injEq] at h
    rw [hg x y (hl x (by simp)) (hm y (by simp)) h.1, map_inj_on hg (fun z hz => hl z (by simp [hz])) (fun z hz => hm z (by simp [hz])) h.2]
theorem riffs12 {p : List Int} (hl : p.length = 12) (hn : p.Nodup) : 3000 < (setL (riffsB p)).length := by
  have hg : ∀ i j, i < 12 → j < 12 → p.getD i 0 = p.getD j 0 → i = j := fun i j hi hj e => by
    have h1 : i < p.length := by omega
    have h2 : j < p.length := by omega
    simp only [List.getD, List.getElem?_eq_getElem h1, List.getElem?_eq_getElem h2, Option.getD_some] at e
    have hpw := List.pairwise_iff_getElem.1 (show p.Pairwise (fun a b => a ≠ b) from hn)
    rcases Nat.lt_trichotomy i j with h | h | h
    · exact (hpw i j h1 h2 h e).elim
    · exact h
    · exact (hpw j i h2 h1 h e.symm).elim
  have hlt : ∀ w, ∀ x ∈ riffI 12 w, x < 12 := fun w => by
    have := zo_len (bitsD 12 w)
    rw [bitsD_len] at this
    exact rfi_lt 12 _ 0 _ (by omega) (by omega)
  have hr : ∀ w, riffp p w = (riffI 12 w).map fun i => p.getD i 0 := fun w => by unfold riffp riffI; rw [hl, rfp_rfi]
  have hdec : ∀ w, w < 4096 → wellW w = true → decGo 0 none (riffI 12 w) = w := fun w hw hwell => by
    have := List.all_eq_true.1 riff12 w (List.mem_range.2 hw)
    unfold wellW at hwell
    rw [Bool.not_eq_true'] at hwell
    rw [hwell, Bool.false_or] at this
    exact Nat.eq_of_beq_eq_true this
  have hnd : (((List.range 4096).filter wellW).map (riffp p)).Nodup := by
    rw [List.Nodup, List.pairwise_map]
    refine List.Pairwise.imp_of_mem (fun {a b} ha hb hab e => hab ?_) ((List.nodup_range (n := 4096)).filter wellW)
    obtain ⟨a1, a2⟩ := List.mem_filter.1 ha
    obtain ⟨b1, b2⟩ := List.mem_filter.1 hb
    rw [hr, hr] at e
    have := map_inj_on hg (hlt a) (hlt b) e
    rw [← hdec a (List.mem_range.1 a1) a2, ← hdec b (List.mem_range.1 b1) b2, this]
  have := nodup_sub hnd (m := setL (riffsB p)) (fun q hq => by
    obtain ⟨w, hw, rfl⟩ := List.mem_map.1 hq
    rw [setL_mem]
    unfold riffsB
    rw [hl]
    exact List.mem_map.2 ⟨w, (List.mem_filter.1 hw).1, rfl⟩)
  rw [List.length_map, riff12_count] at this
  omega
theorem riffs_len {p : List Int} (hp : p.length ≤ 11) : (setL (riffsB p)).length ≤ 2048 := by
  refine Nat.le_trans (setL_len _) ?_
  unfold riffsB
  rw [List.length_map, List.length_range]
  exact Nat.pow_le_pow_right (by decide) hp
def flip2 (p : List Int) : List Int := (p.take 2).reverse.map turn ++ p.drop 2
def allOf (p : List Int) (c : Int) : Packs := if c = 1 then cutsL p else if c = 2 then riffsB p else if c = 3 then cutsL (flip2 p) else if c = 4 then picksL p else [p]
def chOk (p : List Int) (c : Int) : Bool := packetOk p && (!(p.length == 0) && (decide (0 ≤ c ∧ c ≤ 4) && (!(decide (c = 3) && decide (p.length < 2)) && !(decide (c = 2) && decide (12 ≤ p.length)))))
structure ChFit (p : List Int) (c : Int) : Prop where
  ok : packetOk p = true
  l1 : 1 ≤ p.length
  l12 : p.length ≤ 12
  c0 : 0 ≤ c
  c4 : c ≤ 4
  c3 : c = 3 → 2 ≤ p.length
  c2 : c = 2 → p.length ≤ 11
theorem flip2_len (p : List Int) : (flip2 p).length = p.length := by unfold flip2; simp; omega
theorem flip2_ins {p : List Int} (hi : Ins p) : Ins (flip2 p) := fun x hx => by
  unfold flip2 at hx
  rcases List.mem_append.1 hx with h | h
  · obtain ⟨y, hy, rfl⟩ := List.mem_map.1 h
    exact in_turn (hi y (List.mem_of_mem_take (List.mem_reverse.1 hy)))
  · exact hi x (List.mem_of_mem_drop h)
theorem allOf_small {p : List Int} {c : Int} (hp : p.length ≤ 12) : (allOf p c).length ≤ 4096 ∧ ∀ q ∈ allOf p c, q.length ≤ 12 := by
  have h2 := two_le hp
  unfold allOf
  split
  · refine ⟨by unfold cutsL; simp; omega, fun q hq => ?_⟩
    obtain ⟨i, _, rfl⟩ := List.mem_map.1 hq
    unfold cutL; simp; omega
  split
  · refine ⟨by unfold riffsB; simpa using h2, fun q hq => ?_⟩
    obtain ⟨w, _, rfl⟩ := List.mem_map.1 hq
    unfold riffp
    rw [rfp_rfi, List.length_map]
    have : ∀ (bits : List Bool) (f s : Nat), (rfi f s bits).length = bits.length := fun bits => by
      induction bits with
      | nil => intro f s; rfl
      | cons b r ih => intro f s; cases b <;> simp [rfi, ih]
    rw [this, bitsD_len]; exact hp
  split
  · refine ⟨by unfold cutsL; simp [flip2_len]; omega, fun q hq => ?_⟩
    obtain ⟨i, _, rfl⟩ := List.mem_map.1 hq
    unfold cutL; simp [flip2_len]; have := flip2_len p; omega
  split
  · refine ⟨by unfold picksL; simp; omega, fun q hq => ?_⟩
    obtain ⟨i, hi, rfl⟩ := List.mem_map.1 hq
    have := List.mem_range.1 hi
    unfold pickL; simp; omega
  · exact ⟨by simp, fun q hq => by have : q = p := by simpa using hq
                                   rw [this]; exact hp⟩
theorem allOf_few {p : List Int} {c : Int} (hp : p.length ≤ 12) (c2 : c ≠ 2) : (allOf p c).length ≤ 12 := by
  unfold allOf
  split
  · unfold cutsL; simpa using hp
  split
  · unfold cutsL; simpa [flip2_len] using hp
  split
  · unfold picksL; simpa using hp
  · simp
/-- The reference's list holds the same packets. -/
theorem s_l05Of_ev (p : List Int) (c : Int) (h : ChFit p c) (hi : Ins p) : ∃ y, Ev (fun k => s_l05Of k (p, c)) y ∧ y.length ≤ 1048576 ∧ ∀ q, q ∈ y ↔ q ∈ allOf p c := by
  have hp := h.l12
  by_cases c1 : c = 1
  · refine ⟨cutsL p, Ev.step (fun k => s_l05Of_eq k p c) (Ev.yes (by simp [c1]) (Ev.bind (s_l05Cuts_ev p hp hi) (Ev.pure _))), by unfold cutsL; simp; omega, fun q => by simp [allOf, c1]⟩
  by_cases c2 : c = 2
  · refine ⟨riffsW p, Ev.step (fun k => s_l05Of_eq k p c) (Ev.no (by simp [c1]) (Ev.yes (by simp [c2]) (s_l05Of_l7_ev p hp (p.length + 1) 0 (by omega)))), ?_, fun q => by rw [← riffs_same]; simp [allOf, c2]⟩
    have := flat_len p.length (p.length + 1) p rfl
    have h2 := two_le hp
    have h3 : (p.length + 1) * 2 ^ p.length ≤ 13 * 4096 := Nat.mul_le_mul (by omega) h2
    unfold riffsW
    omega
  by_cases c3 : c = 3
  · have h2 := h.c3 c3
    have hb := s_l04Back_ev p hp hi 2 h2 true
    have e : (p.take 2).reverse.map (fun x => bif true then turn x else x) ++ p.drop 2 = flip2 p := rfl
    rw [e] at hb
    refine ⟨cutsL (flip2 p), Ev.step (fun k => s_l05Of_eq k p c) (Ev.no (by simp [c1]) (Ev.no (by simp [c2]) (Ev.yes (by simp [c3]) (Ev.bind hb (Ev.bind (s_l05Cuts_ev _ (by rw [flip2_len]; exact hp) (flip2_ins hi)) (Ev.pure _)))))), by unfold cutsL; simp [flip2_len]; omega, fun q => by simp [allOf, c3]⟩
  by_cases c4 : c = 4
  · refine ⟨picksL p, Ev.step (fun k => s_l05Of_eq k p c) (Ev.no (by simp [c1]) (Ev.no (by simp [c2]) (Ev.no (by simp [c3]) (Ev.yes (by simp [c4]) (s_l05Of_l15_ev p hp p.length 0 (by omega)))))), by unfold picksL; simp; omega, fun q => by simp [allOf, c4]⟩
  · refine ⟨[p], Ev.step (fun k => s_l05Of_eq k p c) (Ev.no (by simp [c1]) (Ev.no (by simp [c2]) (Ev.no (by simp [c3]) (Ev.no (by simp [c4]) (Ev.yes (by rw [rowMax_eq]; simp) (Ev.some rfl)))))), by simp, fun q => by simp [allOf, c1, c2, c3, c4]⟩
theorem setL_congr {l m : Packs} (h : ∀ q, q ∈ l ↔ q ∈ m) : setL l = setL m := setL_of (setL_ss l) fun q => (setL_mem l q).trans (h q)
/-- What a choice leads to; nothing where there is none, or too many. -/
def resOf (p : List Int) (c : Int) : Packs × Bool := if chOk p c then (setL (allOf p c), true) else ([], false)
theorem i_all_ev (p : List Int) (c : Int) (hp : p.length ≤ 12) (hi : Ins p) (h0 : 1 ≤ p.length) : Ev (fun k => i_all k (p, c)) (if (0 ≤ c ∧ c ≤ 4) ∧ ¬ (c = 3 ∧ p.length < 2) then (allOf p c, true) else ([], false)) := by
  refine Ev.step (fun k => i_all_eq k p c) ?_
  refine Ev.ite (fun e => ?_) (fun n0 => Ev.ite (fun e => ?_) (fun n1 => Ev.ite (fun e => ?_) (fun n2 => Ev.ite (fun e => ?_) (fun n3 => Ev.ite (fun e => ?_) (fun n4 => Ev.some ?_)))))
  all_goals simp only [beq_iff_eq, beq_eq_false_iff_ne, ne_eq] at *
  · subst e
    exact Ev.bind (Clone_int_ev p (by omega)) (Ev.some (by simp [allOf]))
  · subst e
    exact Ev.bind (i_cuts_ev p hp hi) (Ev.some (by simp [allOf]))
  · subst e
    exact (i_all_l9_ev p hp (2 ^ p.length) 0 (by omega)).to (by simp [allOf])
  · subst e
    refine Ev.ite (fun h => Ev.some ?_) (fun h => ?_)
    · have : p.length < 2 := by have : (p.length : Int) < 2 := by simpa using h
                                omega
      simp [this]
    · have h2 : ¬ p.length < 2 := by have : ¬ (p.length : Int) < 2 := by simpa using h
                                     omega
      have hm := i_moved_ev p (3, ((2 : Nat) : Int)) ⟨h0, hp, by simp, .inl (by simp; omega), fun _ => by simp; omega, fun h => by simp at h, fun _ _ h3 => absurd rfl h3⟩ hi
      have ed : doMove p (3, ((2 : Nat) : Int)) = flip2 p := by simp [doMove, flip2]
      rw [ed] at hm
      exact Ev.bind hm (Ev.bind (i_cuts_ev _ (by rw [flip2_len]; exact hp) (flip2_ins hi)) (Ev.some (by simp [allOf, h2])))
  · subst e
    exact (i_all_l20_ev p hp p.length 0 (by omega)).to (by simp [allOf])
  · rw [if_neg (by omega)]
theorem i_ResultsOf_ev (p : List Int) (c : Int) (hp : p.length ≤ maxLen) (hi : Ins p) : Ev (fun k => i_ResultsOf k (p, c)) (resOf p c) := by
  unfold resOf
  refine Ev.step (fun k => i_ResultsOf_eq k p c) (Ev.bind (i_PacketOk_ev p hp hi) (Ev.ite (fun h => Ev.some ?_) (fun h => Ev.ite (fun h2 => Ev.some ?_) (fun h2 => ?_))))
  · have : packetOk p = false := by simpa using h
    simp [chOk, this]
  · have : p.length = 0 := by have : (p.length : Int) = 0 := by simpa using h2
                              omega
    simp [chOk, this]
  · have e1 : packetOk p = true := by simpa using h
    have e2 : ¬ p.length = 0 := by have : ¬ (p.length : Int) = 0 := by simpa using h2
                                   omega
    have hl := (packetOk_fit e1).2.2
    have hnd : p.Nodup := by
      have := (packetOk_fit e1).1
      rw [List.Nodup, List.pairwise_map] at this
      exact this.imp fun h e => h (by rw [e])
    refine Ev.bind (i_all_ev p c hl hi (by omega)) ?_
    by_cases hc : (0 ≤ c ∧ c ≤ 4) ∧ ¬ (c = 3 ∧ p.length < 2)
    · rw [if_pos hc]
      have hs := allOf_small (c := c) hl
      refine Ev.bind (i_SortPackets_ev _ (Nat.le_trans hs.1 (by decide)) (fun q hq => Nat.le_trans (hs.2 q hq) (by decide))) (Ev.no rfl ?_)
      refine Ev.ite (fun h3 => Ev.some ?_) (fun h3 => Ev.some ?_)
      · have h3' : 3000 < (setL (allOf p c)).length := by have : ((setL (allOf p c)).length : Int) > 3000 := by simpa using h3
                                                          omega
        have : c = 2 ∧ 12 ≤ p.length := by
          apply Classical.byContradiction
          intro hcon
          have h5 := setL_len (allOf p c)
          by_cases c2 : c = 2
          · have := riffs_len (p := p) (by omega)
            rw [c2] at h3'
            simp only [allOf] at h3'
            simp at h3'
            omega
          · have := allOf_few (p := p) hl c2
            omega
        rw [if_neg]
        unfold chOk
        simp [this.1, this.2]
      · have h3' : ¬ 3000 < (setL (allOf p c)).length := by have : ¬ ((setL (allOf p c)).length : Int) > 3000 := by simpa using h3
                                                            omega
        have : ¬ (c = 2 ∧ 12 ≤ p.length) := fun ⟨a, b⟩ => h3' (by
          have := riffs12 (p := p) (by omega) hnd
          rw [a]
          simpa [allOf] using this)
        rw [if_pos]
        unfold chOk
        rw [e1, decide_eq_true hc.1]
        have h6 := hc.2
        by_cases x3 : c = 3
        · have : ¬ p.length < 2 := fun h => h6 ⟨x3, h⟩
          simp [e2, x3, this]
        · by_cases x2 : c = 2
          · have : ¬ 12 ≤ p.length := fun h => this ⟨x2, h⟩
            simp [e2, x2, this]
          · simp [e2, x3, x2]
    · rw [if_neg hc]
      refine Ev.bind (i_SortPackets_ev [] (by simp) (fun q hq => by cases hq)) (Ev.yes rfl (Ev.some ?_))
      rw [if_neg]
      unfold chOk
      by_cases c04 : 0 ≤ c ∧ c ≤ 4
      · have : c = 3 ∧ p.length < 2 := Classical.byContradiction fun h => hc ⟨c04, h⟩
        simp [this.1, this.2]
      · rw [decide_eq_false c04]; simp
end Qq
namespace Qq
open Go Go.Vt Pt
set_option linter.unusedVariables false
set_option linter.unusedSimpArgs false
set_option linter.unnecessarySimpa false
theorem card_turn (x : Int) : card (turn x) = card x := by
  unfold turn
  split
  · rfl
  · rename_i h
    unfold card at h ⊢
    split at h
    · rename_i h1
      rw [if_neg (by omega), if_pos (by omega), if_pos h1]; omega
    · rename_i h1
      split at h
      · rename_i h2
        rw [if_pos (by omega), if_neg h1, if_pos h2]
      · omega
theorem map_turn (l : List Int) : (l.map turn).map card = l.map card := by rw [List.map_map]; exact List.map_congr_left fun x _ => card_turn x
abbrev Pm (q p : List Int) : Prop := (q.map card).Perm (p.map card)
theorem Pm.of {q p : List Int} (h : q.Perm p) : Pm q p := h.map card
theorem fz_perm : ∀ (n : Nat) (f : Bool) (a b : List Int), a.length + b.length = n → (fz f a b).Perm (a ++ b)
  | n, f, [], [], h => by unfold fz; exact .refl _
  | n, f, x :: a, [], h => by
    match n, h with
    | n + 1, h =>
    unfold fz
    exact (fz_perm n (!f) a [] (by simp at h ⊢; omega)).cons x
  | n, f, [], y :: b, h => by
    match n, h with
    | n + 1, h =>
    unfold fz
    exact (fz_perm n (!f) [] b (by simp at h ⊢; omega)).cons y
  | n, true, x :: a, y :: b, h => by
    match n, h with
    | n + 1, h =>
    unfold fz
    exact (fz_perm n false a (y :: b) (by simp at h ⊢; omega)).cons x
  | n, false, x :: a, y :: b, h => by
    match n, h with
    | n + 1, h =>
    unfold fz
    exact ((fz_perm n true (x :: a) b (by simp at h ⊢; omega)).cons y).trans List.perm_middle.symm
termination_by n => n
theorem mz_perm (k : Int) : ∀ (r : List Int) (i : Nat) (out : List Int), (mz k i r out).Perm (r ++ out)
  | [], i, out => by unfold mz; exact .refl _
  | x :: r, i, out => by
    unfold mz
    split
    · refine (mz_perm k r (i + 1) (out ++ [x])).trans ?_
      rw [← List.append_assoc]
      exact List.perm_append_comm
    · exact (mz_perm k r (i + 1) (x :: out)).trans List.perm_middle
theorem ends (p : List Int) (h : 1 < p.length) : p = p.getD 0 0 :: ((p.take (p.length - 1)).drop 1 ++ [p.getD (p.length - 1) 0]) := by
  cases p with
  | nil => simp at h
  | cons x r =>
    simp at h
    have hr : r ≠ [] := by intro e; subst e; simp at h
    have e1 : (x :: r).length - 1 = r.length - 1 + 1 := by simp; omega
    rw [e1, List.take_succ_cons, List.drop_one, List.tail_cons]
    have e2 : (x :: r).getD (r.length - 1 + 1) 0 = r.getLast hr := by
      simp only [List.getD, List.getElem?_cons_succ]
      rw [List.getLast_eq_getElem, List.getElem?_eq_getElem (by omega)]
      rfl
    rw [e2, ← List.dropLast_eq_take, List.dropLast_concat_getLast hr]
    rfl
theorem kz_perm : ∀ (n : Nat) (p out : List Int), (kz n p out).Perm (p ++ out)
  | 0, p, out => by unfold kz; exact .refl _
  | n + 1, p, out => by
    unfold kz
    split
    · rename_i h
      refine (kz_perm n _ _).trans ?_
      have e := ends p h
      generalize p.getD 0 0 = x at *
      generalize p.getD (p.length - 1) 0 = y at *
      generalize (p.take (p.length - 1)).drop 1 = m at *
      rw [e]
      refine List.perm_middle.trans (List.Perm.cons x ?_)
      simp
    · exact .refl _
theorem dz_perm : ∀ (n : Nat) (f : Bool) (q out : List Int), 1 ≤ q.length → 2 * q.length + (bif f then 0 else 1) ≤ n → (dz n f q out).Perm (q ++ out)
  | 0, f, q, out, h, hn => by omega
  | n + 1, f, q, out, h, hn => by
    unfold dz
    cases q with
    | nil => simp at h
    | cons x r =>
      split
      · rename_i h1
        cases f with
        | true =>
          simp at h1 hn
          refine (dz_perm n false r (x :: out) (by omega) (by simp; omega)).trans ?_
          exact List.perm_middle
        | false =>
          simp at h1 hn
          refine (dz_perm n true (r ++ [x]) out (by simp) (by simp; omega)).trans ?_
          rw [List.append_assoc]
          exact List.perm_middle
      · rename_i h1
        simp at h1
        subst h1
        exact .refl _
theorem perm_out (p : List Int) (i : Nat) (h : i < p.length) : (p.take i ++ p.drop (i + 1) ++ [p.getD i 0]).Perm p := by
  have e : p = p.take i ++ (p.getD i 0 :: p.drop (i + 1)) := by
    have : p.getD i 0 = p[i] := by simp [List.getD, h]
    rw [this, ← List.drop_eq_getElem_cons h, List.take_append_drop]
  have h1 : (p.take i ++ p.drop (i + 1) ++ [p.getD i 0]).Perm (p.take i ++ (p.getD i 0 :: p.drop (i + 1))) := by
    rw [List.append_assoc]
    exact List.Perm.append_left _ (List.perm_append_comm (l₁ := p.drop (i + 1)) (l₂ := [p.getD i 0]))
  rw [← e] at h1
  exact h1
theorem pm_turned (p : List Int) (k : Nat) : Pm ((p.take k).reverse.map turn ++ p.drop k) p := by
  show (List.map card _).Perm _
  rw [List.map_append, map_turn]
  refine (((List.reverse_perm (p.take k)).map card).append_right _).trans ?_
  rw [← List.map_append, List.take_append_drop]
theorem doMove_pm {p : List Int} {m : Int × Int} (h : MoveFit p.length m) : Pm (doMove p m) p := by
  have h1 := h.n1
  have ht := h.t
  unfold doMove
  split
  · refine Pm.of (List.perm_append_comm.trans ?_)
    rw [List.take_append_drop]
  split
  · refine Pm.of (((List.reverse_perm (p.take m.2.toNat)).append_right _).trans ?_)
    rw [List.take_append_drop]
  split
  · exact pm_turned p _
  split
  · unfold faroL
    refine Pm.of ((fz_perm _ _ _ _ rfl).trans ?_)
    rw [List.take_append_drop]
  split
  · exact Pm.of ((mz_perm m.2 p 0 []).trans (by simp))
  split
  · exact Pm.of ((kz_perm p.length p []).trans (by simp))
  split
  · exact Pm.of ((dz_perm (2 * p.length + 1) (m.2 == 1) p [] h1 (by cases (m.2 == 1) <;> simp)).trans (by simp))
  split
  · rename_i a1 a2 a3 a4 a5 a6 a7 a8
    have h5 := ht a1 a2 a3 a4 a5 a6 a7
    have h6 := h.k0
    have hlt : m.2.toNat < p.length := by omega
    show (List.map card _).Perm _
    rw [List.map_set, card_turn]
    have e : card (p.getD m.2.toNat 0) = (p.map card)[m.2.toNat]'(by simpa using hlt) := by simp [List.getD, hlt]
    rw [e, List.set_getElem_self]
  · rename_i a1 a2 a3 a4 a5 a6 a7 a8
    have h5 := ht a1 a2 a3 a4 a5 a6 a7
    have h6 := h.k0
    exact Pm.of (perm_out p _ (by omega))
theorem rfi_perm : ∀ (bits : List Bool) (f s : Nat), (rfi f s bits).Perm (List.range' f (zerosB bits) ++ List.range' s (onesB bits))
  | [], f, s => by simp [rfi, zerosB, onesB]
  | true :: r, f, s => by
    unfold rfi zerosB onesB
    rw [List.range'_succ]
    exact ((rfi_perm r f (s + 1)).cons s).trans List.perm_middle.symm
  | false :: r, f, s => by
    unfold rfi zerosB onesB
    rw [List.range'_succ]
    exact (rfi_perm r (f + 1) s).cons f
theorem riffp_perm (p : List Int) (w : Nat) : (riffp p w).Perm p := by
  unfold riffp
  rw [rfp_rfi]
  have hz := zo_len (bitsD p.length w)
  rw [bitsD_len] at hz
  refine ((rfi_perm _ _ _).map _).trans ?_
  have e : List.range' 0 (zerosB (bitsD p.length w)) ++ List.range' (zerosB (bitsD p.length w)) (onesB (bitsD p.length w)) = List.range p.length := by
    have := List.range'_append_1 (s := 0) (m := zerosB (bitsD p.length w)) (n := onesB (bitsD p.length w))
    rw [Nat.zero_add] at this
    rw [this, List.range_eq_range']
    congr 1
  rw [e]
  have : (List.range p.length).map (fun i => p.getD i 0) = p := by
    apply List.ext_getElem
    · simp
    · intro i h1 h2
      simp [List.getD, h2]
  rw [this]
theorem allOf_pm {p : List Int} {c : Int} (q : List Int) (hq : q ∈ allOf p c) : Pm q p := by
  have cut : ∀ (p q : List Int), q ∈ cutsL p → q.Perm p := fun p q hq => by
    obtain ⟨i, _, rfl⟩ := List.mem_map.1 hq
    unfold cutL
    refine List.perm_append_comm.trans ?_
    rw [List.take_append_drop]
  unfold allOf at hq
  split at hq
  · exact Pm.of (cut _ _ hq)
  split at hq
  · obtain ⟨w, _, rfl⟩ := List.mem_map.1 hq
    exact Pm.of (riffp_perm p w)
  split at hq
  · exact (Pm.of (cut _ _ hq)).trans (pm_turned p 2)
  split at hq
  · obtain ⟨i, hi, rfl⟩ := List.mem_map.1 hq
    have := List.mem_range.1 hi
    unfold pickL
    exact Pm.of (List.perm_append_comm.trans (perm_out p i this))
  · have : q = p := by simpa using hq
    rw [this]
/-- Packets of the same cards are right as one. -/
theorem pk_of : ∀ (r done : List Int), (done ++ r.map card).Nodup → (∀ x ∈ r, 0 ≤ card x) → pk done r = true
  | [], done, _, _ => rfl
  | x :: r, done, h, h0 => by
    unfold pk
    rw [List.map_cons] at h
    have hx : card x ∉ done := fun hm => (List.nodup_append.1 h).2.2 _ hm _ (by simp) rfl
    rw [decide_eq_true (h0 x (by simp)), pk_of r (done ++ [card x]) (by simpa using h) (fun y hy => h0 y (by simp [hy]))]
    simp [hx]
theorem packetOk_pm {p q : List Int} (h : packetOk p = true) (hq : Pm q p) : packetOk q = true ∧ q.length = p.length := by
  obtain ⟨h1, h2, h3⟩ := packetOk_fit h
  refine ⟨pk_of q [] (by simpa using hq.nodup_iff.2 h1) (fun x hx => ?_), by have := hq.length_eq; simpa using this⟩
  have := hq.mem_iff.1 (List.mem_map.2 ⟨x, hx, rfl⟩)
  obtain ⟨y, hy, e⟩ := List.mem_map.1 this
  have := (h2 y hy).1
  omega
theorem packetOk_ins {p : List Int} (h : packetOk p = true) : Ins p := fun x hx => by
  have := ((packetOk_fit h).2.1 x hx).1
  unfold card at this
  unfold In
  split at this
  · omega
  · split at this <;> omega
end Qq
namespace Qq
open Go Go.Vt Pt
set_option linter.unusedVariables false
set_option linter.unusedSimpArgs false
set_option linter.unnecessarySimpa false
abbrev StepT : Type := Int × (Int × Int) × Int
def nextOf (c : Scene) (s : StepT) : List Scene :=
  if s.1 = 1 then [(doMove c.1 s.2.1, c.2)] else if s.1 = 3 then [(c.1, card (c.1.getD s.2.2.toNat 0))] else (setL (allOf c.1 s.2.2)).map fun q => (q, c.2)
structure SceneOk (n : Nat) (c : Scene) : Prop where
  ok : packetOk c.1 = true
  len : c.1.length = n
  n0 : -1 ≤ c.2
  n12 : c.2 < 12
inductive StepKind (n : Nat) (s : StepT) : Prop
  | mv (h : s.1 = 1) (m : MoveFit n s.2.1)
  | ch (h : s.1 = 2) (c0 : 0 ≤ s.2.2) (c4 : s.2.2 ≤ 4) (c3 : s.2.2 = 3 → 2 ≤ n) (c2 : s.2.2 = 2 → n ≤ 11)
  | nt (h : s.1 = 3) (a0 : 0 ≤ s.2.2) (an : s.2.2 < n)
theorem stepOk_kind {n : Nat} {s : StepT} (h : stepOk (n : Int) s = true) : 1 ≤ n ∧ n ≤ 12 ∧ StepKind n s := by
  unfold stepOk at h
  simp only [Bool.and_eq_true, decide_eq_true_eq] at h
  obtain ⟨h1, h2, h3⟩ := h
  refine ⟨by omega, by omega, ?_⟩
  split at h3
  · rename_i e
    simp only [Bool.and_eq_true] at h3
    exact .mv e (moveOk_fit h3.1)
  split at h3
  · rename_i e
    simp only [Bool.and_eq_true, decide_eq_true_eq, Bool.or_eq_true, Bool.not_eq_true', beq_eq_false_iff_ne, ne_eq] at h3
    obtain ⟨_, _, a, b, c, d⟩ := h3
    exact .ch e a b (fun q => by rcases c with c | c; exact absurd q c; omega) (fun q => by rcases d with d | d; exact absurd q d; omega)
  split at h3
  · rename_i e
    simp only [Bool.and_eq_true, decide_eq_true_eq] at h3
    exact .nt e h3.2.2.1 h3.2.2.2
  · cases h3
theorem ch_fit {n : Nat} {c : Scene} {s : StepT} (hc : SceneOk n c) (h1 : 1 ≤ n) (h2 : n ≤ 12) (c0 : 0 ≤ s.2.2) (c4 : s.2.2 ≤ 4) (c3 : s.2.2 = 3 → 2 ≤ n) (c2 : s.2.2 = 2 → n ≤ 11) : ChFit c.1 s.2.2 :=
  ⟨hc.ok, by rw [hc.len]; exact h1, by rw [hc.len]; exact h2, c0, c4, fun e => by rw [hc.len]; exact c3 e, fun e => by rw [hc.len]; exact c2 e⟩
theorem next_ok {n : Nat} {c : Scene} {s : StepT} (hc : SceneOk n c) (hs : stepOk (n : Int) s = true) : ∀ d ∈ nextOf c s, SceneOk n d := by
  obtain ⟨h1, h2, hk⟩ := stepOk_kind hs
  intro d hd
  unfold nextOf at hd
  rcases hk with ⟨e, m⟩ | ⟨e, c0, c4, c3, c2⟩ | ⟨e, a0, an⟩
  · rw [if_pos e] at hd
    have hd : d = (doMove c.1 s.2.1, c.2) := by simpa using hd
    subst hd
    have := packetOk_pm hc.ok (doMove_pm (by rw [hc.len]; exact m))
    exact ⟨this.1, this.2.trans hc.len, hc.n0, hc.n12⟩
  · rw [if_neg (by omega), if_neg (by omega)] at hd
    obtain ⟨q, hq, rfl⟩ := List.mem_map.1 hd
    have := packetOk_pm hc.ok (allOf_pm q ((setL_mem _ q).1 hq))
    exact ⟨this.1, this.2.trans hc.len, hc.n0, hc.n12⟩
  · rw [if_neg (by omega), if_pos e] at hd
    have hd : d = (c.1, card (c.1.getD s.2.2.toNat 0)) := by simpa using hd
    subst hd
    have := card_lt (c.1.getD s.2.2.toNat 0)
    exact ⟨hc.ok, hc.len, this.1, by show card _ < 12; omega⟩
theorem allOf_one {p : List Int} {c : Int} (h : ChFit p c) : allOf p c ≠ [] := by
  have h1 := h.l1
  unfold allOf
  split
  · intro e; have := congrArg List.length e; unfold cutsL at this; rw [List.length_map, List.length_range, List.length_nil] at this; omega
  split
  · intro e; have := congrArg List.length e; simp [riffsB] at this
  split
  · intro e; have := congrArg List.length e; unfold cutsL at this; rw [List.length_map, List.length_range, List.length_nil, flip2_len] at this; omega
  split
  · intro e; have := congrArg List.length e; unfold picksL at this; rw [List.length_map, List.length_range, List.length_nil] at this; omega
  · simp
theorem next_len {n : Nat} {c : Scene} {s : StepT} (hc : SceneOk n c) (hs : stepOk (n : Int) s = true) : 1 ≤ (nextOf c s).length ∧ (nextOf c s).length ≤ 4096 := by
  obtain ⟨h1, h2, hk⟩ := stepOk_kind hs
  unfold nextOf
  split
  · simp
  split
  · simp
  · rename_i a b
    rcases hk with ⟨e, m⟩ | ⟨e, c0, c4, c3, c2⟩ | ⟨e, a0, an⟩
    · exact absurd e a
    · have hf := ch_fit hc h1 h2 c0 c4 c3 c2
      have hs := (allOf_small (c := s.2.2) hf.l12).1
      have := setL_len (allOf c.1 s.2.2)
      rw [List.length_map]
      refine ⟨?_, by omega⟩
      rcases Nat.eq_zero_or_pos (setL (allOf c.1 s.2.2)).length with h0 | h0
      · exfalso
        have hne := allOf_one hf
        cases hl : allOf c.1 s.2.2 with
        | nil => exact hne hl
        | cons q r =>
          have := (setL_mem (allOf c.1 s.2.2) q).2 (by rw [hl]; simp)
          rw [List.eq_nil_of_length_eq_zero h0] at this
          cases this
      · exact h0
    · exact absurd e b
theorem i_NextScenes_l11_ev (p : List Int) (x : Int) (l : List (List Int)) (hl : l.length ≤ 16384) : ∀ (r : List (List Int)) (i : Nat) (out : List Scene), l.drop i = r → out.length = i →
    Ev (fun k => i_NextScenes_l11 k (l.length : Int) (i : Int) p x out l i) (out ++ r.map fun q => (q, x))
  | [], i, out, h, ho => by
    have a := at_nil h
    refine Ev.step (fun k => i_NextScenes_l11_eq k _ _ _ _ _ _ _) ?_
    simp only [a.g, cond_false]
    exact Ev.some (by simp)
  | q :: r, i, out, h, ho => by
    have a := at_cons h (by rw [maxLen_eq]; omega)
    have hlt := a.lt
    refine Ev.step (fun k => i_NextScenes_l11_eq k _ _ _ _ _ _ _) ?_
    simp only [a.g, a.z, a.n, a.get, a.w, cond_true]
    refine Ev.yes (by simp) (Ev.yes (by rw [rowMax_eq]; simp; omega) ?_)
    exact (i_NextScenes_l11_ev p x l hl r (i + 1) (out ++ [(q, x)]) a.next (by simp [ho])).to (by simp)
theorem s_l16Next_l8_ev (p : List Int) (x : Int) (l : List (List Int)) (hl : l.length ≤ 16384) : ∀ (r : List (List Int)) (i : Nat) (out : List Scene), l.drop i = r → out.length = i →
    Ev (fun k => s_l16Next_l8 k (l.length : Int) (i : Int) p x out l) (out ++ r.map fun q => (q, x))
  | [], i, out, h, ho => by
    have a := at_nil h
    refine Ev.step (fun k => s_l16Next_l8_eq k _ _ _ _ _ _) ?_
    simp only [a.g, cond_false]
    exact Ev.some (by simp)
  | q :: r, i, out, h, ho => by
    have a := at_cons h (by rw [maxLen_eq]; omega)
    have hlt := a.lt
    refine Ev.step (fun k => s_l16Next_l8_eq k _ _ _ _ _ _) ?_
    simp only [a.g, a.z, a.n, a.get, a.w, cond_true]
    refine Ev.yes (by rw [rowMax_eq]; simp; omega) ?_
    exact (s_l16Next_l8_ev p x l hl r (i + 1) (out ++ [(q, x)]) a.next (by simp [ho])).to (by simp)
theorem s_l16Next_ev {n : Nat} {c : Scene} {s : StepT} (hc : SceneOk n c) (hs : stepOk (n : Int) s = true) : Ev (fun k => s_l16Next k (c, s)) (nextOf c s) := by
  obtain ⟨h1, h2, hk⟩ := stepOk_kind hs
  have hi := packetOk_ins hc.ok
  have hln := hc.len
  obtain ⟨p, x⟩ := c
  refine Ev.step (fun k => s_l16Next_eq k (p, x) s) ?_
  unfold nextOf
  rcases hk with ⟨e, m⟩ | ⟨e, c0, c4, c3, c2⟩ | ⟨e, a0, an⟩
  · rw [if_pos e]
    exact Ev.yes (by simp [e]) (Ev.bind (s_l04Do_ev p s.2.1 (by rw [hln]; exact m) hi) (Ev.pure _))
  · rw [if_neg (by omega), if_neg (by omega)]
    have hf := ch_fit hc h1 h2 c0 c4 c3 c2
    have hsm : (allOf p s.2.2).length ≤ 4096 ∧ ∀ q ∈ allOf p s.2.2, q.length ≤ 12 := allOf_small (c := s.2.2) hf.l12
    obtain ⟨y, e1, e2, e3⟩ := s_l05Of_ev p s.2.2 hf hi
    have hy12 : ∀ q ∈ y, q.length ≤ 1048576 := fun q hq => Nat.le_trans (hsm.2 q ((e3 q).1 hq)) (by decide)
    have es : setL y = setL (allOf p s.2.2) := setL_congr e3
    have hsl := setL_len (allOf p s.2.2)
    refine Ev.no (by simp [e]) (Ev.no (by simp [e]) (Ev.bind e1 (Ev.bind (s_SortPackets_ev _ y (Nat.le_refl _) e2 hy12) ?_)))
    rw [es]
    exact s_l16Next_l8_ev p x _ (by have := hsm.1; show (setL (allOf p s.2.2)).length ≤ _; omega) _ 0 [] rfl rfl
  · rw [if_neg (by omega), if_pos e]
    refine Ev.no (by simp [e]) (Ev.yes (by simp [e]) (Ev.yes (by rw [rowMax_eq]; simp; simp at hln; omega) (Ev.yes (by simpa using a0) (Ev.yes (by simp at hln; simp; omega) (Ev.bind (s_CardOf_ev _) (Ev.some ?_))))))
    simp
theorem i_NextScenes_ev (c : Scene) (s : StepT) (a : c.1.length ≤ maxLen) (hi : Ins c.1) :
    Ev (fun k => i_NextScenes k (c, s)) (if packetOk c.1 && (decide (-1 ≤ c.2 ∧ c.2 < 12) && stepOk (c.1.length : Int) s) then nextOf c s else []) := by
  obtain ⟨p, x⟩ := c
  refine Ev.step (fun k => i_NextScenes_eq k (p, x) s) (Ev.bind (i_PacketOk_ev p a hi) (Ev.ite (fun h => Ev.some ?_) (fun h => Ev.ite (fun h2 => Ev.some ?_) (fun h2 => Ev.ite (fun h3 => Ev.some ?_) (fun h3 => Ev.bind (i_StepOk_ev _ s) (Ev.ite (fun h4 => Ev.some ?_) (fun h4 => ?_)))))))
  · have : packetOk p = false := by simpa using h
    simp [this]
  · have : ¬ -1 ≤ x := by simpa using h2
    simp [this]
  · have : ¬ x < 12 := by simpa using h3
    simp [this]
  · have : stepOk (p.length : Int) s = false := by simpa using h4
    simp [this]
  · have e1 : packetOk p = true := by simpa using h
    have e2 : -1 ≤ x := by have : ¬ x < -1 := by simpa using h2
                           omega
    have e3 : x < 12 := by simpa using h3
    have e4 : stepOk (p.length : Int) s = true := by simpa using h4
    have hc : SceneOk p.length (p, x) := ⟨e1, rfl, e2, e3⟩
    rw [if_pos (by simp [e1, e2, e3, e4])]
    obtain ⟨h1, h2, hk⟩ := stepOk_kind e4
    unfold nextOf
    rcases hk with ⟨e, m⟩ | ⟨e, c0, c4, c3, c2⟩ | ⟨e, a0, an⟩
    · rw [if_pos e]
      exact Ev.yes (by simp [e]) (Ev.bind (i_moved_ev p s.2.1 m hi) (Ev.pure _))
    · rw [if_neg (by omega), if_neg (by omega)]
      have hf := ch_fit hc h1 h2 c0 c4 c3 c2
      have hsm : (allOf p s.2.2).length ≤ 4096 ∧ ∀ q ∈ allOf p s.2.2, q.length ≤ 12 := allOf_small (c := s.2.2) hf.l12
      have hsl := setL_len (allOf p s.2.2)
      have hok : chOk p s.2.2 = true := by
        unfold chOk
        have a3 : ¬ (s.2.2 = 3 ∧ p.length < 2) := fun h => by have := c3 h.1; omega
        have a2 : ¬ (s.2.2 = 2 ∧ 12 ≤ p.length) := fun h => by have := c2 h.1; omega
        rw [e1, decide_eq_true ⟨c0, c4⟩]
        simp only [Bool.true_and, Bool.and_eq_true, Bool.not_eq_true', Bool.and_eq_false_iff, decide_eq_false_iff_not, beq_eq_false_iff_ne]
        refine ⟨by omega, ?_, ?_⟩
        · by_cases q : s.2.2 = 3
          · exact .inr fun h => a3 ⟨q, h⟩
          · exact .inl q
        · by_cases q : s.2.2 = 2
          · exact .inr fun h => a2 ⟨q, h⟩
          · exact .inl q
      have er : resOf p s.2.2 = (setL (allOf p s.2.2), true) := by unfold resOf; rw [if_pos hok]
      refine Ev.no (by simp [e]) (Ev.no (by simp [e]) (Ev.bind (i_ResultsOf_ev p s.2.2 a hi) ?_))
      rw [er]
      exact i_NextScenes_l11_ev p x _ (by have := hsm.1; show (setL (allOf p s.2.2)).length ≤ _; omega) _ 0 [] rfl rfl
    · rw [if_neg (by omega), if_pos e]
      refine Ev.no (by simp [e]) (Ev.yes (by simp [e]) (Ev.bind (Clone_int_ev p (by omega)) (Ev.yes (by simpa using a0) (Ev.yes (by simpa using an) (Ev.bind (i_CardOf_ev _ ?_) (Ev.pure _))))))
      have hlt : s.2.2.toNat < p.length := by omega
      have : p.getD s.2.2.toNat 0 = p[s.2.2.toNat] := by simp [List.getD, hlt]
      rw [this]
      exact hi _ (List.getElem_mem hlt)
/-- The program's, at a scene and a step that are right. -/
theorem i_NextScenes_ok {n : Nat} {c : Scene} {s : StepT} (hc : SceneOk n c) (hs : stepOk (n : Int) s = true) : Ev (fun k => i_NextScenes k (c, s)) (nextOf c s) := by
  obtain ⟨h1, h2, hk⟩ := stepOk_kind hs
  have := i_NextScenes_ev c s (by rw [hc.len, maxLen_eq]; omega) (packetOk_ins hc.ok)
  rw [hc.len, hc.ok, hs, decide_eq_true ⟨hc.n0, hc.n12⟩] at this
  exact this
end Qq
namespace Qq
open Go Go.Vt Pt
set_option linter.unusedVariables false
set_option linter.unusedSimpArgs false
def strB (l : List UInt8) : ByteArray := ⟨l.toArray⟩
theorem strB_add (a b : List UInt8) : strB a ++ strB b = strB (a ++ b) := by unfold strB; apply ByteArray.ext; simp
theorem strB_size (a : List UInt8) : (strB a).size = a.length := by simp [strB, ByteArray.size]
def itoaB (n : Int) : ByteArray := strB (Lib.itoa n)
theorem dec_small {u : Nat} (h : u < 10) : Lib.decDigits u = [UInt8.ofNat (48 + u)] := by rw [Lib.decDigits, dif_pos h]
theorem dec_big {u : Nat} (h : ¬ u < 10) : Lib.decDigits u = Lib.decDigits (u / 10) ++ [UInt8.ofNat (48 + u % 10)] := by rw [Lib.decDigits, dif_neg h]
theorem Itoa_ev (n : Int) (hn : In n) : Ev (fun k => strconv_Itoa k n) (itoaB n) := by
  refine Ev.congr (fun k => strconv_Itoa_eq k n) ?_
  unfold itoaF
  refine Ev.yes ?_ (Ev.pure _)
  unfold In at hn
  simp; exact hn
theorem i_FormatInt_ev (n : Int) (hn : In n) : Ev (fun k => i_FormatInt k n) (itoaB n) :=
  Ev.step (fun k => i_FormatInt_eq k n) (Ev.bind (Itoa_ev n hn) (Ev.pure _))
theorem itoaB_size (n : Int) (hn : In n) : (itoaB n).size ≤ 21 := by
  unfold In at hn
  rw [itoaB, strB_size]
  exact Lib.itoa_length_le n hn.1 hn.2
end Qq
namespace Qq
open Go Go.Vt Pt
set_option linter.unusedVariables false
set_option linter.unusedSimpArgs false
def bytesOf (x : ByteArray) : List UInt8 := x.data.toList
theorem bytes_len (x : ByteArray) : (bytesOf x).length = x.size := by unfold bytesOf; simp
def joinL (l : List ByteArray) (sep : ByteArray) : List UInt8 := Lib.join (l.map bytesOf) (bytesOf sep)
def joinB (l : List ByteArray) (sep : ByteArray) : ByteArray := strB (joinL l sep)
theorem joinTail_len {B S : Nat} (sep : List UInt8) (hs : sep.length ≤ S) : ∀ (r : List ByteArray), (∀ x ∈ r, x.size ≤ B) → (Lib.joinTail sep (r.map bytesOf)).length ≤ r.length * (B + S)
  | [], _ => by simp [Lib.joinTail]
  | x :: r, h => by
    have ih := joinTail_len sep hs r (fun y hy => h y (by simp [hy]))
    have hx := h x (by simp)
    have e : Lib.joinTail sep ((x :: r).map bytesOf) = (sep ++ bytesOf x) ++ Lib.joinTail sep (r.map bytesOf) := by simp [Lib.joinTail]
    rw [e, List.length_append, List.length_append, bytes_len, List.length_cons, Nat.add_mul, Nat.one_mul]
    omega
theorem join_len {B S : Nat} (sep : ByteArray) (hs : sep.size ≤ S) (l : List ByteArray) (h : ∀ x ∈ l, x.size ≤ B) : (joinL l sep).length ≤ l.length * (B + S) := by
  cases l with
  | nil => simp [joinL, Lib.join_nil]
  | cons x r =>
    have hx := h x (by simp)
    have := joinTail_len (B := B) (S := S) (bytesOf sep) (by rw [bytes_len]; exact hs) r (fun y hy => h y (by simp [hy]))
    unfold joinL
    rw [List.map_cons, Lib.join_cons, List.length_append, bytes_len, List.length_cons, Nat.add_mul, Nat.one_mul]
    omega
theorem i_Join_ev (l : List ByteArray) (sep : ByteArray) (B : Nat) (hl : l.length ≤ 1048576) (hB : ∀ x ∈ l, x.size ≤ B) (hBB : B ≤ 100) (hs : sep.size ≤ 100) : Ev (fun k => i_Join k (l, sep)) (joinB l sep) := by
  refine Ev.step (fun k => i_Join_eq k l sep) (Ev.bind (Ev.congr (fun k => strings_Join_eq k l sep) ?_) (Ev.pure _))
  unfold joinF
  have jl := join_len (B := B) (S := 100) sep hs l hB
  have hmul : l.length * (B + 100) ≤ 1048576 * 200 := Nat.mul_le_mul hl (by omega)
  refine Ev.yes ?_ (Ev.pure _)
  rw [Bool.and_eq_true, decide_eq_true_eq, decide_eq_true_eq]
  exact ⟨by omega, by show (joinL l sep).length ≤ _; omega⟩
theorem numbersOf_l3_ev (xs : List Int) (hm : xs.length ≤ 1048576) (hi : Ins xs) : ∀ (r : List Int) (i : Nat), xs.drop i = r → Ev (fun k => i_numbersOf_l3 k xs (xs.length : Int) (i : Int) ((xs.take i).map itoaB)) (xs.map itoaB)
  | [], i, h => by
    have a := at_nil h
    refine Ev.step (fun k => i_numbersOf_l3_eq k _ _ _ _) ?_
    simp only [a.g, cond_false]
    exact Ev.some (by rw [List.take_of_length_le a.ge])
  | x :: r, i, h => by
    have a := at_cons h (by rw [maxLen_eq]; omega)
    have hlt := a.lt
    have hx : In x := hi x (List.mem_of_mem_drop (h ▸ List.mem_cons_self))
    refine Ev.step (fun k => i_numbersOf_l3_eq k _ _ _ _) ?_
    simp only [a.g, a.z, a.get, a.w, cond_true]
    refine Ev.bind (i_FormatInt_ev x hx) (Ev.yes (by rw [rowMax_eq]; simp; omega) ?_)
    have := numbersOf_l3_ev xs hm hi r (i + 1) a.next
    rw [List.take_succ_eq_append_getElem hlt, List.map_append] at this
    have e : xs[i] = x := by have := a.get 0; rw [Int.toNat_natCast, List.getD, List.getElem?_eq_getElem hlt] at this; exact this
    rw [e] at this
    exact this
theorem numbersOf_ev (xs : List Int) (hm : xs.length ≤ 1048576) (hi : Ins xs) : Ev (fun k => i_numbersOf k xs) (xs.map itoaB) :=
  Ev.step (fun k => i_numbersOf_eq k xs) (numbersOf_l3_ev xs hm hi xs 0 rfl)
theorem itoaB_map_size {xs : List Int} (hi : Ins xs) : ∀ x ∈ xs.map itoaB, x.size ≤ 21 := by
  intro x hx
  obtain ⟨n, hn, rfl⟩ := List.mem_map.1 hx
  exact itoaB_size n (hi n hn)
end Qq
namespace Qq
open Go Go.Vt Pt
set_option linter.unusedVariables false
set_option linter.unusedSimpArgs false
def formatPicks (xs : List Int) : ByteArray := if xs = [] then ⟨#[45]⟩ else joinB (xs.map itoaB) ⟨#[44]⟩
theorem i_FormatPicks_ev (xs : List Int) (hm : xs.length ≤ 1048576) (hi : Ins xs) : Ev (fun k => i_FormatPicks k xs) (formatPicks xs) := by
  refine Ev.step (fun k => i_FormatPicks_eq k xs) ?_
  unfold formatPicks
  refine Ev.ite (fun h => Ev.some ?_) (fun h => ?_)
  · have : xs = [] := by simp at h; exact h
    rw [if_pos this]
  · have : ¬ xs = [] := by simp at h; exact h
    rw [if_neg this]
    exact Ev.bind (numbersOf_ev xs hm hi) (Ev.bind (i_Join_ev _ _ 21 (by simpa using hm) (itoaB_map_size hi) (by omega) (by show (1 : Nat) ≤ _; omega)) (Ev.pure _))
end Qq
namespace Qq
open Go Go.Vt Pt
set_option linter.unusedVariables false
set_option linter.unusedSimpArgs false
set_option linter.unnecessarySimpa false
def numB (l : List UInt8) : Nat := l.foldl (fun a c => a * 10 + (c.toNat - 48)) 0
theorem byte48 {d : Nat} (h : d < 10) : (UInt8.ofNat (48 + d)).toNat = 48 + d := by
  rw [UInt8.toNat_ofNat']; omega
theorem dec_facts : ∀ (n u : Nat), u ≤ n → numB (Lib.decDigits u) = u ∧ (∀ c ∈ Lib.decDigits u, 48 ≤ c.toNat ∧ c.toNat ≤ 57) ∧ Lib.decDigits u ≠ []
  | n, u, h => by
    by_cases hu : u < 10
    · rw [dec_small hu]
      refine ⟨by simp only [numB, List.foldl_cons, List.foldl_nil, byte48 hu]; omega, fun c hc => ?_, by simp⟩
      have : c = UInt8.ofNat (48 + u) := by simpa using hc
      rw [this, byte48 hu]; omega
    · match n, h with
      | 0, h => omega
      | n + 1, h =>
      have hd : u % 10 < 10 := Nat.mod_lt _ (by omega)
      obtain ⟨h1, h2, h3⟩ := dec_facts n (u / 10) (by omega)
      rw [dec_big hu]
      refine ⟨?_, fun c hc => ?_, by simp⟩
      · unfold numB at h1 ⊢
        rw [List.foldl_append, h1]
        simp only [List.foldl_cons, List.foldl_nil, byte48 hd]
        omega
      · rcases List.mem_append.1 hc with hc | hc
        · exact h2 c hc
        · have : c = UInt8.ofNat (48 + u % 10) := by simpa using hc
          rw [this, byte48 hd]; omega
theorem itoa_byte (n : Int) : ∀ c ∈ Lib.itoa n, c ≠ 44 ∧ c ≠ 47 := by
  intro c hc
  have key : c = 45 ∨ (48 ≤ c.toNat ∧ c.toNat ≤ 57) := by
    unfold Lib.itoa at hc
    split at hc
    · rcases List.mem_cons.1 hc with rfl | hc
      · exact .inl rfl
      · exact .inr ((dec_facts _ _ (Nat.le_refl _)).2.1 c hc)
    · exact .inr ((dec_facts _ _ (Nat.le_refl _)).2.1 c hc)
  refine ⟨fun e => ?_, fun e => ?_⟩
  · subst e
    rcases key with h | h
    · exact absurd h (by decide)
    · have : (44 : UInt8).toNat = 44 := rfl
      omega
  · subst e
    rcases key with h | h
    · exact absurd h (by decide)
    · have : (47 : UInt8).toNat = 47 := rfl
      omega
theorem itoa_inj {a b : Int} (h : Lib.itoa a = Lib.itoa b) : a = b := by
  have pos : ∀ (u : Nat) (l : List UInt8), Lib.decDigits u = 45 :: l → False := fun u l e => by
    have := ((dec_facts _ u (Nat.le_refl _)).2.1 45 (by rw [e]; simp)).1
    exact absurd this (by decide)
  have val : ∀ u v : Nat, Lib.decDigits u = Lib.decDigits v → u = v := fun u v e => by
    rw [← (dec_facts _ u (Nat.le_refl _)).1, ← (dec_facts _ v (Nat.le_refl _)).1, e]
  unfold Lib.itoa at h
  split at h
  · split at h
    · have := val _ _ (List.cons.inj h).2
      omega
    · exact (pos _ _ h.symm).elim
  · split at h
    · exact (pos _ _ h).elim
    · have := val _ _ h
      omega
theorem cut_eq {s : UInt8} : ∀ {A A' B B' : List UInt8}, s ∉ A → s ∉ A' → A ++ s :: B = A' ++ s :: B' → A = A' ∧ B = B'
  | [], [], B, B', _, _, h => ⟨rfl, (List.cons.inj h).2⟩
  | [], y :: A', B, B', _, h2, h => (h2 (by rw [(List.cons.inj h).1]; simp)).elim
  | x :: A, [], B, B', h1, _, h => (h1 (by rw [← (List.cons.inj h).1]; simp)).elim
  | x :: A, y :: A', B, B', h1, h2, h => by
    have e := List.cons.inj h
    obtain ⟨e1, e2⟩ := cut_eq (A := A) (A' := A') (fun hm => h1 (by simp [hm])) (fun hm => h2 (by simp [hm])) e.2
    exact ⟨by rw [e.1, e1], e2⟩
theorem tail_cons (s : UInt8) (x : List UInt8) (r : List (List UInt8)) : Lib.joinTail [s] (x :: r) = s :: (x ++ Lib.joinTail [s] r) := by simp [Lib.joinTail]
theorem join_inj {s : UInt8} : ∀ {x y : List UInt8} {r q : List (List UInt8)}, (∀ z ∈ x :: r, s ∉ z) → (∀ z ∈ y :: q, s ∉ z) → x ++ Lib.joinTail [s] r = y ++ Lib.joinTail [s] q → x :: r = y :: q
  | x, y, [], [], _, _, h => by simpa [Lib.joinTail] using h
  | x, y, [], z :: q, h1, _, h => by
    rw [tail_cons] at h
    exact (h1 x (by simp) (by have : s ∈ x ++ Lib.joinTail [s] [] := by rw [h]; simp
                              simpa [Lib.joinTail] using this)).elim
  | x, y, z :: r, [], _, h2, h => by
    rw [tail_cons] at h
    exact (h2 y (by simp) (by have : s ∈ y ++ Lib.joinTail [s] [] := by rw [← h]; simp
                              simpa [Lib.joinTail] using this)).elim
  | x, y, z :: r, u :: q, h1, h2, h => by
    rw [tail_cons, tail_cons] at h
    obtain ⟨e1, e2⟩ := cut_eq (h1 x (by simp)) (h2 y (by simp)) h
    rw [e1, join_inj (fun w hw => h1 w (by simp [hw])) (fun w hw => h2 w (by simp [hw])) e2]
def keyB (c : Scene) : ByteArray := (formatPicks c.1 ++ (⟨#[47]⟩ : ByteArray)) ++ itoaB c.2
theorem keyB_bytes (c : Scene) (h : c.1 ≠ []) : keyB c = strB (Lib.join (c.1.map Lib.itoa) [44] ++ 47 :: Lib.itoa c.2) := by
  unfold keyB formatPicks itoaB
  rw [if_neg h]
  have e1 : joinB (c.1.map itoaB) ⟨#[44]⟩ = strB (Lib.join (c.1.map Lib.itoa) [44]) := by
    unfold joinB joinL
    rw [List.map_map]
    congr 2
  have e2 : (⟨#[47]⟩ : ByteArray) = strB [47] := rfl
  show joinB (c.1.map itoaB) ⟨#[44]⟩ ++ (⟨#[47]⟩ : ByteArray) ++ strB (Lib.itoa c.2) = _
  rw [e1, e2, strB_add, strB_add]
  congr 1
  simp
theorem join_byte {s : UInt8} (hs : s ≠ 44) : ∀ {x : List UInt8} {r : List (List UInt8)}, (∀ z ∈ x :: r, s ∉ z) → s ∉ x ++ Lib.joinTail [44] r
  | x, [], h => by simpa [Lib.joinTail] using h x (by simp)
  | x, y :: r, h => by
    rw [tail_cons]
    intro hm
    rcases List.mem_append.1 hm with hm | hm
    · exact h x (by simp) hm
    · rcases List.mem_cons.1 hm with hm | hm
      · exact hs hm
      · exact join_byte hs (x := y) (r := r) (fun z hz => h z (by simp at hz ⊢; exact .inr hz)) hm
theorem map_itoa_inj : ∀ {p q : List Int}, p.map Lib.itoa = q.map Lib.itoa → p = q
  | [], [], _ => rfl
  | [], _ :: _, h => by simp at h
  | _ :: _, [], h => by simp at h
  | x :: p, y :: q, h => by
    simp only [List.map_cons, List.cons.injEq] at h
    rw [itoa_inj h.1, map_itoa_inj h.2]
theorem keyB_inj {c d : Scene} (hc : c.1 ≠ []) (hd : d.1 ≠ []) (h : keyB c = keyB d) : c = d := by
  rw [keyB_bytes c hc, keyB_bytes d hd] at h
  have h' : Lib.join (c.1.map Lib.itoa) [44] ++ 47 :: Lib.itoa c.2 = Lib.join (d.1.map Lib.itoa) [44] ++ 47 :: Lib.itoa d.2 := by
    have := congrArg (fun b => b.data.toList) h
    simpa [strB] using this
  obtain ⟨p, n⟩ := c
  obtain ⟨q, m⟩ := d
  cases p with
  | nil => exact (hc rfl).elim
  | cons x p =>
    cases q with
    | nil => exact (hd rfl).elim
    | cons y q =>
      rw [List.map_cons, List.map_cons, Lib.join_cons, Lib.join_cons] at h'
      have nb : ∀ (x : Int) (p : List Int), ∀ z ∈ Lib.itoa x :: p.map Lib.itoa, (47 : UInt8) ∉ z ∧ (44 : UInt8) ∉ z := fun x p z hz => by
        have : ∃ n, z = Lib.itoa n := by
          rcases List.mem_cons.1 hz with rfl | hz
          · exact ⟨x, rfl⟩
          · obtain ⟨n, _, rfl⟩ := List.mem_map.1 hz
            exact ⟨n, rfl⟩
        obtain ⟨n, rfl⟩ := this
        exact ⟨fun hm => (itoa_byte n _ hm).2 rfl, fun hm => (itoa_byte n _ hm).1 rfl⟩
      obtain ⟨e1, e2⟩ := cut_eq (join_byte (by decide) fun z hz => (nb x p z hz).1) (join_byte (by decide) fun z hz => (nb y q z hz).1) h'
      have e3 := join_inj (fun z hz => (nb x p z hz).2) (fun z hz => (nb y q z hz).2) e1
      have e4 := map_itoa_inj (p := x :: p) (q := y :: q) (by simpa using e3)
      have e5 := itoa_inj e2
      dsimp only at e5
      rw [e4, e5]
theorem mpHas_map {l : List Scene} {x : Scene} (hl : ∀ c ∈ l, c.1 ≠ []) (hx : x.1 ≠ []) : mpHas (l.map keyB) (keyB x) = decide (x ∈ l) := by
  rw [Bool.eq_iff_iff, decide_eq_true_eq]
  unfold mpHas
  rw [List.any_eq_true]
  constructor
  · rintro ⟨k, hk, he⟩
    obtain ⟨c, hc, rfl⟩ := List.mem_map.1 hk
    rw [keyB_inj hx (hl c hc) (beqBA he)]
    exact hc
  · intro hm
    exact ⟨keyB x, List.mem_map.2 ⟨x, hm, rfl⟩, beqBA_self _⟩
theorem i_keyOf_ev (c : Scene) (h : c.1.length ≤ 12) (hi : Ins c.1) (hn : In c.2) : Ev (fun k => i_keyOf k c) (keyB c) := by
  obtain ⟨p, n⟩ := c
  have h1 : (formatPicks p).size ≤ 1000 := by
    unfold formatPicks
    split
    · decide
    · have := join_len (B := 21) (S := 1) (⟨#[44]⟩ : ByteArray) (by decide) (p.map itoaB) (itoaB_map_size hi)
      rw [List.length_map] at this
      rw [joinB, strB_size]
      have h : p.length ≤ 12 := h
      omega
  have h2 := itoaB_size n hn
  have h3 : (⟨#[47]⟩ : ByteArray).size = 1 := rfl
  refine Ev.step (fun k => i_keyOf_eq k (p, n)) (Ev.bind (i_FormatPicks_ev p (by have h : p.length ≤ 12 := h; omega) hi) (Ev.yes (decide_eq_true (by omega)) (Ev.bind (i_FormatInt_ev n hn) (Ev.yes (decide_eq_true (by rw [ByteArray.size_append]; omega)) (Ev.some rfl)))))
end Qq
namespace Qq
open Go Go.Vt Pt
set_option linter.unusedVariables false
set_option linter.unusedSimpArgs false
/-- n steps of numbers from k on. -/
def stepsFrom (k : Int) : Nat → List Step
  | 0 => []
  | n + 1 => (k, (k + 1, k + 2), k + 3) :: stepsFrom (k + 4) n
theorem getD_set_self {α : Type} {xs : List α} {i : Nat} (h : i < xs.length) (a d : α) : (xs.set i a).getD i d = a := by
  simp [List.getD, h]
theorem wrap4 {k : Int} (h0 : 0 ≤ k) (h1 : k + 4 ≤ top) : IntKind.i64.wrap (k + 1) = k + 1 ∧ IntKind.i64.wrap (k + 1 + 1) = k + 2 ∧ IntKind.i64.wrap (k + 2 + 1) = k + 3 ∧ IntKind.i64.wrap (k + 3 + 1) = k + 4 := by
  rw [top_eq] at h1
  refine ⟨wrap_id (by omega) (by omega), ?_, ?_, ?_⟩ <;> (rw [wrap_id (by omega) (by omega)]; omega)
theorem markStepS_l2_ev (xs : List Step) (hm : xs.length ≤ maxLen) : ∀ (r : List Step) (i : Nat) (k0 : Int) (done : List Step), xs.drop i = r → done.length = i → 0 ≤ k0 → k0 + 4 * r.length ≤ top →
    Ev (fun k => w_markStepS_l2 k k0 (i : Int) (done ++ r)) (k0 + 4 * r.length, done ++ stepsFrom k0 r.length) := by
  intro r
  induction r with
  | nil =>
    intro i k0 done h hl h0 h1
    refine Ev.step (fun k => w_markStepS_l2_eq k k0 i _) ?_
    have : decide ((i : Int) < ((done ++ ([] : List Step)).length : Int)) = false := by simp; omega
    refine Ev.no this (Ev.some ?_)
    simp [stepsFrom]
  | cons x r ih =>
    intro i k0 done h hl h0 h1
    have a := at_cons h hm
    rw [List.length_cons] at h1
    obtain ⟨w1, w2, w3, w4⟩ := wrap4 (k := k0) h0 (by omega)
    have L : i < (done ++ x :: r).length := by simp; omega
    have g1 : decide ((i : Int) < ((done ++ x :: r).length : Int)) = true := decide_eq_true (by omega)
    have g2 : decide (i < (done ++ x :: r).length) = true := decide_eq_true (by omega)
    refine Ev.step (fun k => w_markStepS_l2_eq k k0 i _) ?_
    simp only [Int.toNat_natCast, List.length_set, List.set_set, getD_set_self L, w1, w2, w3, w4, a.z, a.w, g1, g2, cond_true]
    have e : (done ++ x :: r).set i (k0, (k0 + 1, k0 + 2), k0 + 3) = (done ++ [(k0, (k0 + 1, k0 + 2), k0 + 3)]) ++ r := by
      rw [← hl, List.set_append_right _ _ (Nat.le_refl _)]
      simp
    have := ih (i + 1) (k0 + 4) (done ++ [(k0, (k0 + 1, k0 + 2), k0 + 3)]) a.next (by simp [hl]) (by omega) (by omega)
    rw [← e] at this
    refine this.to ?_
    simp [stepsFrom]
    omega
theorem markStepS_ev (xs : List Step) (k0 : Int) (hm : xs.length ≤ maxLen) (h0 : 0 ≤ k0) (h1 : k0 + 4 * xs.length ≤ top) :
    Ev (fun k => w_markStepS k (xs, k0)) (k0 + 4 * xs.length, stepsFrom k0 xs.length) :=
  Ev.step (fun k => w_markStepS_eq k xs k0) (markStepS_l2_ev xs hm xs 0 k0 [] rfl rfl h0 h1)
theorem markTrick_ev (t : Trick) (k0 : Int) (h1 : t.1.length ≤ 1048576) (h2 : t.2.1.length ≤ 1048576) (h0 : 0 ≤ k0) (hk : k0 ≤ 1099511627776) :
    Ev (fun k => w_markTrick k (t, k0)) (k0 + t.1.length + 4 * t.2.1.length, upFrom k0 t.1.length, stepsFrom (k0 + t.1.length) t.2.1.length) := by
  have te := top_eq
  refine Ev.step (fun k => w_markTrick_eq k t k0) (Ev.bind (markIntS_ev t.1 k0 (by rw [maxLen_eq]; omega) h0 (by omega)) ?_)
  exact Ev.bind (markStepS_ev t.2.1 (k0 + t.1.length) (by rw [maxLen_eq]; omega) (by omega) (by omega)) (Ev.pure _)
theorem eqScene_ev (c d : Scene) (h1 : c.1.length ≤ maxLen) (h2 : d.1.length ≤ maxLen) : Ev (fun k => w_eqScene k (c, d)) (c == d) := by
  obtain ⟨p, a⟩ := c
  obtain ⟨q, b⟩ := d
  refine Ev.step (fun k => w_eqScene_eq k _ _) (Ev.bind (eqIntS_ev _ _ h1 h2) (Ev.ite (fun h => Ev.some ?_) (fun h => Ev.ite (fun h' => Ev.some ?_) (fun h' => Ev.some ?_)))) <;> simp_all
end Qq
namespace Qq
open Go Go.Vt Pt
set_option linter.unusedVariables false
set_option linter.unusedSimpArgs false
def startScene (t : Trick) : List Int × Int × Bool := if trickOk t then (t.1, -1, true) else ([], 0, false)
theorem StartScene_ev (t : Trick) (a1 : t.1.length ≤ maxLen) (ai : Ins t.1) (a2 : t.2.1.length ≤ maxLen) : Ev (fun k => i_StartScene k t) (startScene t) := by
  refine Ev.step (fun k => i_StartScene_eq k t) (Ev.bind (i_TrickOk_ev t a1 ai a2) (Ev.ite (fun h => Ev.some ?_) (fun h => ?_)))
  · have : trickOk t = false := by simpa using h
    simp [startScene, this]
  · have e : trickOk t = true := by simpa using h
    have hl := trickOk_len e
    refine Ev.bind (Clone_int_ev t.1 (by omega)) ?_
    have : (!t.1.isEmpty) = true := by
      cases hx : t.1 with
      | nil => rw [hx] at hl; simp at hl
      | cons => rfl
    rw [this]
    exact Ev.some (by simp [startScene, e])
end Qq
namespace Qq
open Go Go.Vt Pt
set_option linter.unusedVariables false
set_option linter.unusedSimpArgs false
end Qq
namespace Qq
open Go Go.Vt Pt
set_option linter.unusedVariables false
set_option linter.unusedSimpArgs false
set_option linter.unnecessarySimpa false
abbrev Way : Type := Scene × List Int
/-- The scenes of a list that are new, each behind those before, with the picks that lead to it. -/
def addP (s : StepT) (w : List Int) : Nat → List Scene → List Way → List Way
  | _, [], acc => acc
  | j, x :: r, acc => if x ∈ acc.map Prod.fst then addP s w (j + 1) r acc else addP s w (j + 1) r (acc ++ [(x, if s.1 = 2 then w ++ [(j : Int)] else w)])
def goP (s : StepT) : List Way → List Way → List Way
  | [], acc => acc
  | c :: r, acc => goP s r (addP s c.2 0 (nextOf c.1 s) acc)
def endsP : List StepT → List Way → Option (List Way)
  | [], l => some l
  | s :: r, l => if (goP s l []).length ≤ 3000 then endsP r (goP s l []) else none
theorem addP_len (s : StepT) (w : List Int) : ∀ (r : List Scene) (j : Nat) (acc : List Way), acc.length ≤ (addP s w j r acc).length
  | [], _, _ => Nat.le_refl _
  | x :: r, j, acc => by
    unfold addP
    split
    · exact addP_len s w r (j + 1) acc
    · exact Nat.le_trans (by simp) (addP_len s w r (j + 1) _)
theorem goP_len (s : StepT) : ∀ (l acc : List Way), acc.length ≤ (goP s l acc).length
  | [], _ => Nat.le_refl _
  | c :: r, acc => Nat.le_trans (addP_len s c.2 _ 0 acc) (goP_len s r _)
def AllOk (n : Nat) (l : List Way) : Prop := ∀ c ∈ l, SceneOk n c.1
theorem addP_ok {n : Nat} (s : StepT) (w : List Int) : ∀ (r : List Scene) (j : Nat) (acc : List Way), (∀ x ∈ r, SceneOk n x) → AllOk n acc → AllOk n (addP s w j r acc)
  | [], _, _, _, h => h
  | x :: r, j, acc, hr, h => by
    unfold addP
    split
    · exact addP_ok s w r (j + 1) acc (fun y hy => hr y (by simp [hy])) h
    · refine addP_ok s w r (j + 1) _ (fun y hy => hr y (by simp [hy])) (fun c hc => ?_)
      rcases List.mem_append.1 hc with hc | hc
      · exact h c hc
      · have : c = (x, if s.1 = 2 then w ++ [(j : Int)] else w) := by simpa using hc
        rw [this]; exact hr x (by simp)
theorem goP_ok {n : Nat} {s : StepT} (hs : stepOk (n : Int) s = true) : ∀ (l acc : List Way), AllOk n l → AllOk n acc → AllOk n (goP s l acc)
  | [], _, _, h => h
  | c :: r, acc, hl, h => goP_ok hs r _ (fun d hd => hl d (by simp [hd])) (addP_ok s c.2 _ 0 acc (next_ok (hl c (by simp)) hs) h)
/-- How far from the beginning: what is told of the picks' lengths. -/
def WayLe (m : Nat) (l : List Way) : Prop := ∀ c ∈ l, c.2.length ≤ m
def outP : Option (List Way) → List Scene × List (List Int) × Bool
  | some l => (l.map Prod.fst, l.map Prod.snd, true) | none => ([], [], false)
def resP (r : List StepT) (A : List Way) : List Scene × List (List Int) × Bool := if A.length ≤ 3000 then outP (endsP r A) else outP none
theorem s_SamePacket_l4_ev (p q : List Int) (hp : p.length ≤ maxLen) (e : q.length = p.length) : ∀ (r r' : List Int) (i : Nat), p.drop i = r → q.drop i = r' → Ev (fun k => s_SamePacket_l4 k q p (p.length : Int) (i : Int)) (decide (r = r'))
  | [], r', i, h, h' => by
    have a := at_nil h
    have : r' = [] := by rw [← h', List.drop_eq_nil_iff]; have := a.ge; omega
    refine Ev.step (fun k => s_SamePacket_l4_eq k _ _ _ _) ?_
    simp only [a.g, cond_false]
    exact Ev.some (by simp [this])
  | x :: r, [], i, h, h' => by
    have a := at_cons h hp
    have := a.lt
    rw [List.drop_eq_nil_iff] at h'
    omega
  | x :: r, y :: r', i, h, h' => by
    have a := at_cons h hp
    have b := at_cons h' (by rw [e]; exact hp)
    have hlt := a.lt
    refine Ev.step (fun k => s_SamePacket_l4_eq k _ _ _ _) ?_
    simp only [a.g, a.z, a.get, a.w, b.g, b.get, cond_true]
    refine Ev.ite (fun h1 => Ev.some ?_) (fun h1 => ?_)
    · have : ¬ x = y := by simpa using h1
      simp [this]
    · have : x = y := by simpa using h1
      subst this
      refine (s_SamePacket_l4_ev p q hp e r r' (i + 1) a.next b.next).to ?_
      simp
theorem s_SamePacket'_ev (p q : List Int) (hp : p.length ≤ maxLen) : Ev (fun k => s_SamePacket k (p, q)) (decide (p = q)) := by
  refine Ev.step (fun k => s_SamePacket_eq k p q) (Ev.ite (fun h => Ev.some ?_) (fun h => ?_))
  · have : ¬ (p.length : Int) = q.length := by simpa using h
    have : ¬ p = q := fun e => this (by rw [e])
    simp [this]
  · have : (p.length : Int) = q.length := by simpa using h
    exact s_SamePacket_l4_ev p q hp (by omega) p q 0 rfl rfl
theorem s_SameScene'_ev (c d : Scene) (hc : c.1.length ≤ maxLen) : Ev (fun k => s_SameScene k (c, d)) (decide (c = d)) := by
  obtain ⟨p, n⟩ := c
  obtain ⟨q, m⟩ := d
  refine Ev.step (fun k => s_SameScene_eq k (p, n) (q, m)) (Ev.bind (s_SamePacket'_ev p q hc) (Ev.ite (fun h => Ev.some ?_) (fun h => Ev.some ?_)))
  · have : p = q := by simpa using h
    subst this
    rw [Bool.eq_iff_iff]; simp
  · have : ¬ p = q := by simpa using h
    simp [this]
theorem s_l17Find_l2_ev (l : List Scene) (x : Scene) (hl : l.length ≤ 16384) (hx : x.1.length ≤ 12) : ∀ (r : List Scene) (i : Nat), l.drop i = r → ∃ y, Ev (fun k => s_l17Find_l2 k l (l.length : Int) (i : Int) x.1 x.2) y ∧ decide (y ≥ 0) = decide (x ∈ r)
  | [], i, h => by
    have a := at_nil h
    refine ⟨-1, Ev.step (fun k => s_l17Find_l2_eq k _ _ _ _ _) ?_, by simp⟩
    simp only [a.g, cond_false]
    exact Ev.pure _
  | c :: r, i, h => by
    have a := at_cons h (by rw [maxLen_eq]; omega)
    obtain ⟨y, h1, h2⟩ := s_l17Find_l2_ev l x hl hx r (i + 1) a.next
    have hs := s_SameScene'_ev x c (by rw [maxLen_eq]; omega)
    by_cases e : x = c
    · refine ⟨(i : Int), Ev.step (fun k => s_l17Find_l2_eq k _ _ _ _ _) ?_, by simp [e]⟩
      simp only [a.g, a.z, a.get, a.w, cond_true]
      exact Ev.bind hs (Ev.yes (by simp [e]) (Ev.pure _))
    · refine ⟨y, Ev.step (fun k => s_l17Find_l2_eq k _ _ _ _ _) ?_, by rw [h2]; simp [e]⟩
      simp only [a.g, a.z, a.get, a.w, cond_true]
      exact Ev.bind hs (Ev.no (by simp [e]) h1)
theorem s_l17Find_ev (l : List Scene) (x : Scene) (hl : l.length ≤ 16384) (hx : x.1.length ≤ 12) : ∃ y, Ev (fun k => s_l17Find k (l, x)) y ∧ decide (y ≥ 0) = decide (x ∈ l) := by
  obtain ⟨y, h1, h2⟩ := s_l17Find_l2_ev l x hl hx l 0 rfl
  exact ⟨y, Ev.step (fun k => s_l17Find_eq k l x) h1, h2⟩
theorem s_l17Ends_l12_ev {n m : Nat} (hn : n ≤ 12) (hm : m ≤ 12) (steps : List StepT) (l : List Way) (hl : l.length ≤ 3000) (s : StepT) (si : Nat) (ci : Nat) (c : Way) (hci : ci < l.length) (hc : l[ci] = c) (hcm : c.2.length ≤ m) (rs : List StepT) (rc : List Way) (nx : List Scene) (hnx : nx.length ≤ 4096)
    (K : ∀ acc : List Way, acc.length ≤ 3000 → AllOk n acc → WayLe (m + 1) acc → Ev (fun k => s_l17Ends_l9 k steps (steps.length : Int) (si : Int) (l.length : Int) ((ci + 1 : Nat) : Int) (l.map Prod.snd) s.1 s.2.1.1 s.2.1.2 s.2.2 (acc.map Prod.fst) (acc.map Prod.snd) (l.map Prod.fst)) (resP rs (goP s rc acc))) :
    ∀ (xs : List Scene) (j : Nat) (acc : List Way), nx.drop j = xs → (∀ x ∈ xs, SceneOk n x) → acc.length ≤ 3000 → AllOk n acc → WayLe (m + 1) acc →
      Ev (fun k => s_l17Ends_l12 k (ci : Int) steps (steps.length : Int) (si : Int) (l.length : Int) (ci : Int) (nx.length : Int) (j : Int) (l.map Prod.snd) s.1 s.2.1.1 s.2.1.2 s.2.2 (acc.map Prod.fst) (acc.map Prod.snd) (l.map Prod.fst) nx) (resP rs (goP s rc (addP s c.2 j xs acc)))
  | [], j, acc, h, hx, ha, hk, hw => by
    have a := at_nil h
    have ew : IntKind.i64.wrap ((ci : Int) + 1) = ((ci + 1 : Nat) : Int) := by rw [wrap_id (by omega) (by omega)]; omega
    refine Ev.step (fun k => s_l17Ends_l12_eq k _ _ _ _ _ _ _ _ _ _ _ _ _ _ _ _ _) ?_
    simp only [a.g, cond_false, ew]
    exact K acc ha hk hw
  | x :: xs, j, acc, h, hx, ha, hk, hw => by
    have a := at_cons h (by rw [maxLen_eq]; omega)
    have hxo := hx x (by simp)
    have hx12 : x.1.length ≤ 12 := by rw [hxo.len]; exact hn
    have ih := fun acc ha hk hw => s_l17Ends_l12_ev hn hm steps l hl s si ci c hci hc hcm rs rc nx hnx K xs (j + 1) acc a.next (fun y hy => hx y (by simp [hy])) ha hk hw
    obtain ⟨y, y1, y2⟩ := s_l17Find_ev (acc.map Prod.fst) x (by rw [List.length_map]; omega) hx12
    refine Ev.step (fun k => s_l17Ends_l12_eq k _ _ _ _ _ _ _ _ _ _ _ _ _ _ _ _ _) ?_
    simp only [a.g, a.z, a.n, a.get, a.w, cond_true]
    unfold addP
    refine Ev.bind y1 (Ev.ite (fun h1 => ?_) (fun h1 => ?_))
    · rw [y2, decide_eq_true_eq] at h1
      rw [if_pos h1]
      exact ih acc ha hk hw
    · rw [y2, decide_eq_false_iff_not] at h1
      rw [if_neg h1]
      have hg : (l.map Prod.snd).getD (ci : Int).toNat [] = c.2 := by
        rw [Int.toNat_natCast, List.getD, List.getElem?_map, List.getElem?_eq_getElem hci, hc]; rfl
      have hxx : (x, if s.1 = 2 then c.2 ++ [(j : Int)] else c.2) ∈ [(x, if s.1 = 2 then c.2 ++ [(j : Int)] else c.2)] := by simp
      have hk2 : AllOk n (acc ++ [(x, if s.1 = 2 then c.2 ++ [(j : Int)] else c.2)]) := fun d hd => by
        rcases List.mem_append.1 hd with hd | hd
        · exact hk d hd
        · have : d = (x, if s.1 = 2 then c.2 ++ [(j : Int)] else c.2) := by simpa using hd
          rw [this]; exact hxo
      have hw2 : WayLe (m + 1) (acc ++ [(x, if s.1 = 2 then c.2 ++ [(j : Int)] else c.2)]) := fun d hd => by
        rcases List.mem_append.1 hd with hd | hd
        · exact hw d hd
        · have : d = (x, if s.1 = 2 then c.2 ++ [(j : Int)] else c.2) := by simpa using hd
          rw [this]
          dsimp only
          split
          · simp; omega
          · omega
      have big : 3000 < (acc ++ [(x, if s.1 = 2 then c.2 ++ [(j : Int)] else c.2)]).length → resP rs (goP s rc (addP s c.2 (j + 1) xs (acc ++ [(x, if s.1 = 2 then c.2 ++ [(j : Int)] else c.2)]))) = ([], [], false) := fun hb => by
        unfold resP
        rw [if_neg]
        · rfl
        · have := addP_len s c.2 xs (j + 1) (acc ++ [(x, if s.1 = 2 then c.2 ++ [(j : Int)] else c.2)])
          have := goP_len s rc (addP s c.2 (j + 1) xs (acc ++ [(x, if s.1 = 2 then c.2 ++ [(j : Int)] else c.2)]))
          omega
      have te := maxLen_eq
      simp only [hg, List.nil_append]
      refine Ev.yes (by rw [rowMax_eq]; simp; omega) (Ev.yes (by simp) (Ev.yes (by simp; omega) (Ev.yes (by simp; omega) (Ev.yes (by rw [rowMax_eq]; simp; omega) (Ev.ite (fun h2 => ?_) (fun h2 => ?_))))))
      · have e2 : s.1 = 2 := by simpa using h2
        simp only [if_pos e2] at hk2 hw2 big ⊢
        refine Ev.yes (by rw [rowMax_eq]; simp; omega) (Ev.yes (by rw [rowMax_eq]; simp; omega) (Ev.ite (fun h3 => Ev.some ?_) (fun h3 => ?_)))
        · exact (big (by simp at h3 ⊢; omega)).symm
        · have := ih (acc ++ [(x, c.2 ++ [(j : Int)])]) (by simp at h3 ⊢; omega) hk2 hw2
          simpa using this
      · have e2 : ¬ s.1 = 2 := by simpa using h2
        simp only [if_neg e2] at hk2 hw2 big ⊢
        refine Ev.yes (by rw [rowMax_eq]; simp; omega) (Ev.ite (fun h3 => Ev.some ?_) (fun h3 => ?_))
        · exact (big (by simp at h3 ⊢; omega)).symm
        · have := ih (acc ++ [(x, c.2)]) (by simp at h3 ⊢; omega) hk2 hw2
          simpa using this
end Qq
namespace Qq
open Go Go.Vt Pt
set_option linter.unusedVariables false
set_option linter.unusedSimpArgs false
set_option linter.unnecessarySimpa false
theorem s_l17Ends_l9_ev {n m : Nat} (hn : n ≤ 12) (hm : m ≤ 12) (steps : List StepT) (l : List Way) (hl : l.length ≤ 3000) (hok : AllOk n l) (hway : WayLe m l) (s : StepT) (hs : stepOk (n : Int) s = true) (si : Nat) (hsi : si < steps.length) (h12 : steps.length ≤ 12) (rs : List StepT)
    (K : ∀ acc : List Way, acc.length ≤ 3000 → AllOk n acc → WayLe (m + 1) acc → Ev (fun k => s_l17Ends_l4 k steps (steps.length : Int) ((si + 1 : Nat) : Int) (acc.map Prod.fst) (acc.map Prod.snd)) (outP (endsP rs acc))) :
    ∀ (rc : List Way) (ci : Nat) (acc : List Way), l.drop ci = rc → acc.length ≤ 3000 → AllOk n acc → WayLe (m + 1) acc →
      Ev (fun k => s_l17Ends_l9 k steps (steps.length : Int) (si : Int) (l.length : Int) (ci : Int) (l.map Prod.snd) s.1 s.2.1.1 s.2.1.2 s.2.2 (acc.map Prod.fst) (acc.map Prod.snd) (l.map Prod.fst)) (resP rs (goP s rc acc))
  | [], ci, acc, h, ha, hk, hw => by
    have a := at_nil h
    have ew : IntKind.i64.wrap ((si : Int) + 1) = ((si + 1 : Nat) : Int) := by rw [wrap_id (by omega) (by omega)]; omega
    refine Ev.step (fun k => s_l17Ends_l9_eq k _ _ _ _ _ _ _ _ _ _ _ _ _) ?_
    simp only [a.g, cond_false, ew]
    unfold goP resP
    rw [if_pos ha]
    exact K acc ha hk hw
  | c :: rc, ci, acc, h, ha, hk, hw => by
    have a := at_cons h (by rw [maxLen_eq]; omega)
    have hlt := a.lt
    have hg : l[ci] = c := by have := a.gt ((([], 0), []) : Way); simpa [List.getD, hlt] using this
    have hco := hok c a.mem
    have hgs : (l.map Prod.fst).getD (ci : Int).toNat ([], 0) = c.1 := by
      rw [Int.toNat_natCast, List.getD, List.getElem?_map, List.getElem?_eq_getElem hlt, hg]; rfl
    have e1 : decide ((ci : Int) < ((l.map Prod.fst).length : Int)) = true := decide_eq_true (by rw [List.length_map]; omega)
    have e2 : decide ((ci : Int).toNat < (l.map Prod.fst).length) = true := decide_eq_true (by rw [List.length_map]; omega)
    refine Ev.step (fun k => s_l17Ends_l9_eq k _ _ _ _ _ _ _ _ _ _ _ _ _) ?_
    simp only [a.g, a.z, e1, e2, hgs, cond_true]
    refine Ev.bind (s_l16Next_ev hco hs) ?_
    unfold goP
    exact s_l17Ends_l12_ev hn hm steps l hl s si ci c hlt hg (hway c a.mem) rs rc (nextOf c.1 s) (next_len hco hs).2
      (fun acc ha hk hw => s_l17Ends_l9_ev hn hm steps l hl hok hway s hs si hsi h12 rs K rc (ci + 1) acc a.next ha hk hw)
      (nextOf c.1 s) 0 acc rfl (next_ok hco hs) ha hk hw
theorem endsP_cons (s : StepT) (r : List StepT) (l : List Way) : endsP (s :: r) l = if (goP s l []).length ≤ 3000 then endsP r (goP s l []) else none := rfl
theorem s_l17Ends_l4_ev {n : Nat} (hn : n ≤ 12) (steps : List StepT) (h12 : steps.length ≤ 12) : ∀ (rs : List StepT) (si : Nat) (l : List Way), steps.drop si = rs → (∀ s ∈ rs, stepOk (n : Int) s = true) → l.length ≤ 3000 → AllOk n l → WayLe si l →
    Ev (fun k => s_l17Ends_l4 k steps (steps.length : Int) (si : Int) (l.map Prod.fst) (l.map Prod.snd)) (outP (endsP rs l))
  | [], si, l, h, hs, hl, hok, hw => by
    have a := at_nil h
    refine Ev.step (fun k => s_l17Ends_l4_eq k _ _ _ _ _) ?_
    simp only [a.g, cond_false]
    exact Ev.some rfl
  | s :: rs, si, l, h, hs, hl, hok, hw => by
    have a := at_cons h (by rw [maxLen_eq]; omega)
    have hlt := a.lt
    have hso := hs s (by simp)
    refine Ev.step (fun k => s_l17Ends_l4_eq k _ _ _ _ _) ?_
    simp only [a.g, a.z, a.get, cond_true]
    have := s_l17Ends_l9_ev hn (by omega) steps l hl hok hw s hso si hlt h12 rs (fun acc ha hk hw => s_l17Ends_l4_ev hn steps h12 rs (si + 1) acc a.next (fun q hq => hs q (by simp [hq])) ha hk hw)
      l 0 [] rfl (by simp) (fun c hc => by cases hc) (fun c hc => by cases hc)
    rw [List.length_map]
    refine this.to ?_
    rw [endsP_cons]
    unfold resP
    split
    · rfl
    · rfl
def startW (t : Trick) : List Way := [((t.1, -1), [])]
theorem trick_start {t : Trick} (h : trickOk t = true) : SceneOk t.1.length (t.1, -1) ∧ (∀ s ∈ t.2.1, stepOk (t.1.length : Int) s = true) := by
  refine ⟨⟨(trickOk_len h).2.2.2, rfl, by show (-1 : Int) ≤ -1; decide, by show (-1 : Int) < 12; decide⟩, ?_⟩
  unfold trickOk at h
  simp only [Bool.and_eq_true] at h
  exact fun s hs => List.all_eq_true.1 h.2.2.2.1 s hs
theorem startW_ok {t : Trick} (h : trickOk t = true) : AllOk t.1.length (startW t) := by
  intro c hc
  have e : c = ((t.1, -1), []) := by simpa [startW] using hc
  rw [e]
  exact (trick_start h).1
theorem startW_way (t : Trick) : WayLe 0 (startW t) := by
  intro c hc
  have e : c = ((t.1, -1), []) := by simpa [startW] using hc
  rw [e]
  simp
theorem s_l17Ends_ev (t : Trick) (h : trickOk t = true) : Ev (fun k => s_l17Ends k t) (outP (endsP t.2.1 (startW t))) := by
  obtain ⟨h1, h2, h3, h4⟩ := trickOk_len h
  have hs := trick_start h
  refine Ev.step (fun k => s_l17Ends_eq k t) (Ev.yes (by rw [rowMax_eq]; simp; omega) ?_)
  rw [List.nil_append]
  exact s_l17Ends_l4_ev h3 t.2.1 h1 t.2.1 0 (startW t) rfl hs.2 (by simp [startW]) (startW_ok h) (startW_way t)
def addU : List Scene → List Scene → List Scene
  | [], acc => acc | x :: r, acc => if x ∈ acc then addU r acc else addU r (acc ++ [x])
def goU (s : StepT) : List Scene → List Scene → List Scene
  | [], acc => acc | c :: r, acc => goU s r (addU (nextOf c s) acc)
theorem addU_len : ∀ (r acc : List Scene), acc.length ≤ (addU r acc).length ∧ (addU r acc).length ≤ acc.length + r.length
  | [], _ => ⟨Nat.le_refl _, Nat.le_refl _⟩
  | x :: r, acc => by
    unfold addU
    split
    · have := addU_len r acc; simp only [List.length_cons]; omega
    · have := addU_len r (acc ++ [x]); simp only [List.length_cons, List.length_append, List.length_nil] at this ⊢; omega
theorem goU_len (s : StepT) : ∀ (l acc : List Scene), acc.length ≤ (goU s l acc).length
  | [], _ => Nat.le_refl _
  | c :: r, acc => Nat.le_trans (addU_len _ acc).1 (goU_len s r _)
theorem addP_fst (s : StepT) (w : List Int) : ∀ (r : List Scene) (j : Nat) (acc : List Way), (addP s w j r acc).map Prod.fst = addU r (acc.map Prod.fst)
  | [], _, _ => rfl
  | x :: r, j, acc => by
    unfold addP addU
    by_cases h : x ∈ acc.map Prod.fst
    · rw [if_pos h, if_pos h, addP_fst]
    · rw [if_neg h, if_neg h, addP_fst, List.map_append]; rfl
theorem goP_fst (s : StepT) : ∀ (l acc : List Way), (goP s l acc).map Prod.fst = goU s (l.map Prod.fst) (acc.map Prod.fst)
  | [], _ => rfl
  | c :: r, acc => by unfold goP goU; rw [goP_fst, addP_fst]; rfl
def SAll (n : Nat) (l : List Scene) : Prop := ∀ c ∈ l, SceneOk n c
theorem start_all {t : Trick} (h : trickOk t = true) : SAll t.1.length [(t.1, -1)] := by
  intro c hc
  have e : c = (t.1, -1) := by simpa using hc
  rw [e]
  exact (trick_start h).1
/-- The levels from a list on; none if one holds too many. -/
def levU : List StepT → List Scene → Option (List (List Scene))
  | [], l => some [l]
  | s :: r, l => if (goU s l []).length ≤ 3000 then (levU r (goU s l [])).map (l :: ·) else none
theorem levU_cons (s : StepT) (r : List StepT) (l : List Scene) : levU (s :: r) l = if (goU s l []).length ≤ 3000 then (levU r (goU s l [])).map (l :: ·) else none := rfl
def outU (pre : List (List Scene)) : Option (List (List Scene)) → List (List Scene) × Bool
  | some l => (pre ++ l, true) | none => ([], false)
def resU (pre : List (List Scene)) (r : List StepT) (A : List Scene) : List (List Scene) × Bool := if A.length ≤ 3000 then outU pre (levU r A) else outU pre none
theorem key_ok {n : Nat} (h1 : 1 ≤ n) {c : Scene} (hc : SceneOk n c) : c.1 ≠ [] := fun e => by have := hc.len; rw [e] at this; simp at this; omega
theorem lev_ends : ∀ (r : List StepT) (l : List Way), (levU r (l.map Prod.fst)).map (fun L => L.getLastD []) = (endsP r l).map (fun A => A.map Prod.fst) ∧ (∀ L, levU r (l.map Prod.fst) = some L → L.length = r.length + 1)
  | [], l => ⟨rfl, fun L h => by cases h; rfl⟩
  | s :: r, l => by
    have e : goU s (l.map Prod.fst) [] = (goP s l []).map Prod.fst := by rw [goP_fst]; rfl
    have hlen : (goU s (l.map Prod.fst) []).length = (goP s l []).length := by rw [e, List.length_map]
    obtain ⟨h1, h2⟩ := lev_ends r (goP s l [])
    rw [levU_cons, endsP_cons, hlen, e]
    by_cases hc : (goP s l []).length ≤ 3000
    · rw [if_pos hc, if_pos hc]
      constructor
      · rw [← h1]
        cases hL : levU r ((goP s l []).map Prod.fst) with
        | none => rfl
        | some L =>
          have := h2 L hL
          cases L with
          | nil => simp at this
          | cons a L => simp [List.getLastD]
      · intro L hL
        obtain ⟨L', hL', rfl⟩ := Option.map_eq_some_iff.1 hL
        rw [List.length_cons, h2 L' hL', List.length_cons]
    · rw [if_neg hc, if_neg hc]
      exact ⟨rfl, fun L hL => by cases hL⟩
def endsOf (t : Trick) : Option (List Way) := endsP t.2.1 (startW t)
def allScenes (t : Trick) : List Scene × Bool :=
  if trickOk t then (match endsOf t with | some A => (A.map Prod.fst, true) | none => ([], false)) else ([], false)
theorem s_AllScenes_ev (t : Trick) (a1 : t.1.length ≤ maxLen) (a2 : t.2.1.length ≤ maxLen) : Ev (fun k => s_AllScenes k t) (allScenes t) := by
  refine Ev.step (fun k => s_AllScenes_eq k t) (Ev.bind (s_TrickOk_ev t a1 a2) (Ev.ite (fun h => Ev.some ?_) (fun h => ?_)))
  · have : trickOk t = false := by simpa using h
    simp [allScenes, this]
  · have e : trickOk t = true := by simpa using h
    refine Ev.bind (s_l17Ends_ev t e) (Ev.some ?_)
    unfold allScenes endsOf
    rw [if_pos e]
    cases endsP t.2.1 (startW t) with
    | none => rfl
    | some A => rfl
theorem endsP_small : ∀ (r : List StepT) (l : List Way) (A : List Way), l.length ≤ 3000 → endsP r l = some A → A.length ≤ 3000
  | [], l, A, hl, h => by cases h; exact hl
  | s :: r, l, A, hl, h => by
    rw [endsP_cons] at h
    split at h
    · rename_i hc; exact endsP_small r _ A hc h
    · cases h
theorem endsP_ok {n : Nat} : ∀ (r : List StepT) (l : List Way) (A : List Way), (∀ s ∈ r, stepOk (n : Int) s = true) → AllOk n l → endsP r l = some A → AllOk n A
  | [], l, A, _, hl, h => by cases h; exact hl
  | s :: r, l, A, hs, hl, h => by
    rw [endsP_cons] at h
    split at h
    · exact endsP_ok r _ A (fun q hq => hs q (by simp [hq])) (goP_ok (hs s (by simp)) l [] hl (fun c hc => by cases hc)) h
    · cases h
theorem allScenes_fit (t : Trick) : (allScenes t).1.length ≤ 3000 ∧ SAll t.1.length (allScenes t).1 := by
  unfold allScenes
  split
  · rename_i h
    cases hE : endsOf t with
    | none => exact ⟨Nat.zero_le _, fun c hc => by cases hc⟩
    | some A =>
      obtain ⟨h1, h2, h3, h4⟩ := trickOk_len h
      have hs := trick_start h
      refine ⟨by show (A.map Prod.fst).length ≤ _; rw [List.length_map]; exact endsP_small _ _ A (by simp [startW]) hE, fun c hc => ?_⟩
      obtain ⟨d, hd, rfl⟩ := List.mem_map.1 (show c ∈ A.map Prod.fst from hc)
      exact endsP_ok t.2.1 (startW t) A hs.2 (startW_ok h) hE d hd
  · exact ⟨Nat.zero_le _, fun c hc => by cases hc⟩
end Qq
namespace Qq
open Go Go.Vt Pt
set_option linter.unusedVariables false
set_option linter.unusedSimpArgs false
set_option linter.unnecessarySimpa false
def tlS : List Scene → Nat
  | [] => 0 | c :: r => c.1.length + 1 + tlS r
def marksS : Int → List Scene → List Scene
  | _, [] => [] | k, c :: r => (upFrom k c.1.length, k + c.1.length) :: marksS (k + c.1.length + 1) r
theorem marksS_len : ∀ (l : List Scene) (k : Int), (marksS k l).length = l.length
  | [], _ => rfl | c :: r, k => by unfold marksS; rw [List.length_cons, List.length_cons, marksS_len r]
theorem tlS_le : ∀ (l : List Scene), (∀ c ∈ l, c.1.length ≤ 12) → tlS l ≤ l.length * 13
  | [], _ => by simp [tlS]
  | c :: r, h => by
    have := tlS_le r fun d hd => h d (by simp [hd])
    have := h c (by simp)
    unfold tlS
    rw [List.length_cons]; omega
theorem markSceneS_l2_ev (xs : List Scene) (hm : xs.length ≤ maxLen) (hi : ∀ c ∈ xs, c.1.length ≤ maxLen) : ∀ (r : List Scene) (i : Nat) (k0 : Int) (done : List Scene), xs.drop i = r → done.length = i → 0 ≤ k0 → k0 + tlS r ≤ top →
    Ev (fun k => w_markSceneS_l2 k k0 (i : Int) (done ++ r)) (k0 + tlS r, done ++ marksS k0 r) := by
  intro r
  induction r with
  | nil =>
    intro i k0 done h hl h0 h1
    refine Ev.step (fun k => w_markSceneS_l2_eq k k0 i _) ?_
    have : decide ((i : Int) < ((done ++ ([] : List Scene)).length : Int)) = false := by simp; omega
    refine Ev.no this (Ev.some ?_)
    simp [marksS, tlS]
  | cons x r ih =>
    intro i k0 done h hl h0 h1
    have te := top_eq
    have a := at_cons h hm
    have L : i < (done ++ x :: r).length := by simp; omega
    have g1 : decide ((i : Int) < ((done ++ x :: r).length : Int)) = true := decide_eq_true (by omega)
    have g2 : decide ((i : Int).toNat < (done ++ x :: r).length) = true := decide_eq_true (by omega)
    have hg : (done ++ x :: r).getD (i : Int).toNat ([], 0) = x := by
      rw [Int.toNat_natCast, List.getD, ← hl, List.getElem?_append_right (Nat.le_refl _)]; simp
    have hx : x.1.length ≤ maxLen := hi x (List.mem_of_mem_drop (h ▸ List.mem_cons_self))
    unfold tlS at h1
    refine Ev.step (fun k => w_markSceneS_l2_eq k k0 i _) ?_
    simp only [g1, g2, a.z, a.w, hg, cond_true]
    refine Ev.bind (markIntS_ev x.1 k0 hx h0 (by omega)) (Ev.yes (by simp) ?_)
    dsimp only
    have ew : IntKind.i64.wrap (k0 + (x.1.length : Int) + 1) = k0 + x.1.length + 1 := wrap_id (by omega) (by omega)
    have es : (done ++ x :: r).set (i : Int).toNat (upFrom k0 x.1.length, k0 + x.1.length) = (done ++ [(upFrom k0 x.1.length, k0 + (x.1.length : Int))]) ++ r := by
      rw [Int.toNat_natCast, ← hl, List.set_append_right _ _ (Nat.le_refl _)]
      simp
    rw [ew, es]
    refine (ih (i + 1) (k0 + x.1.length + 1) (done ++ [(upFrom k0 x.1.length, k0 + (x.1.length : Int))]) a.next (by simp [hl]) (by omega) (by omega)).to ?_
    simp [marksS, tlS]; omega
theorem markSceneS_ev (xs : List Scene) (k0 : Int) (hm : xs.length ≤ maxLen) (hi : ∀ c ∈ xs, c.1.length ≤ maxLen) (h0 : 0 ≤ k0) (h1 : k0 + tlS xs ≤ top) :
    Ev (fun k => w_markSceneS k (xs, k0)) (k0 + tlS xs, marksS k0 xs) :=
  Ev.step (fun k => w_markSceneS_eq k xs k0) (markSceneS_l2_ev xs hm hi xs 0 k0 [] rfl rfl h0 h1)
theorem heldSceneS_l2_ev (ys : List Scene) (hm : ys.length ≤ maxLen) : ∀ (r : List Scene) (i : Nat) (k0 : Int), ys.drop i = marksS k0 r → (∀ c ∈ r, c.1.length ≤ maxLen) → 0 ≤ k0 → k0 + tlS r ≤ top →
    Ev (fun k => w_heldSceneS_l2 k ys k0 (i : Int)) (k0 + tlS r) := by
  intro r
  induction r with
  | nil =>
    intro i k0 h hi h0 h1
    have a := at_nil h
    refine Ev.step (fun k => w_heldSceneS_l2_eq k ys k0 i) ?_
    simp only [a.g, cond_false]
    exact Ev.some (by simp [tlS])
  | cons x r ih =>
    intro i k0 h hi h0 h1
    have te := top_eq
    unfold marksS at h
    have a := at_cons h hm
    unfold tlS at h1
    refine Ev.step (fun k => w_heldSceneS_l2_eq k ys k0 i) ?_
    simp only [a.g, a.z, a.get, a.w, cond_true]
    refine Ev.bind (heldIntS_ev x.1.length k0 (hi x (by simp)) h0 (by omega)) (Ev.no (by simp; omega) (Ev.no (by simp) ?_))
    have ew : IntKind.i64.wrap (k0 + (x.1.length : Int) + 1) = k0 + x.1.length + 1 := wrap_id (by omega) (by omega)
    rw [ew]
    refine (ih (i + 1) (k0 + x.1.length + 1) a.next (fun p hp => hi p (by simp [hp])) (by omega) (by omega)).to ?_
    simp [tlS]; omega
theorem heldSceneS_ev (xs : List Scene) (k0 : Int) (hm : xs.length ≤ maxLen) (hi : ∀ c ∈ xs, c.1.length ≤ maxLen) (h0 : 0 ≤ k0) (h1 : k0 + tlS xs ≤ top) :
    Ev (fun k => w_heldSceneS k (marksS k0 xs, k0)) (k0 + tlS xs) :=
  Ev.step (fun k => w_heldSceneS_eq k _ k0) (heldSceneS_l2_ev _ (by rw [marksS_len]; exact hm) xs 0 k0 rfl hi h0 h1)
theorem eqSceneS_l4_ev (xs : List Scene) (hm : xs.length ≤ maxLen) (hi : ∀ c ∈ xs, c.1.length ≤ maxLen) : ∀ (r : List Scene) (i : Nat), xs.drop i = r → Ev (fun k => w_eqSceneS_l4 k xs xs (i : Int)) true
  | [], i, h => by
    have a := at_nil h
    refine Ev.step (fun k => w_eqSceneS_l4_eq k _ _ _) ?_
    simp only [a.g, cond_false]
    exact Ev.pure _
  | c :: r, i, h => by
    have a := at_cons h hm
    have hc := hi c a.mem
    refine Ev.step (fun k => w_eqSceneS_l4_eq k _ _ _) ?_
    simp only [a.g, a.z, a.get, a.w, cond_true]
    refine Ev.bind (eqScene_ev c c hc hc) (Ev.no (by simp) ?_)
    exact eqSceneS_l4_ev xs hm hi r (i + 1) a.next
theorem eqSceneS_ev (xs : List Scene) (hm : xs.length ≤ maxLen) (hi : ∀ c ∈ xs, c.1.length ≤ maxLen) : Ev (fun k => w_eqSceneS k (xs, xs)) true :=
  Ev.step (fun k => w_eqSceneS_eq k _ _) (Ev.no (by simp) (eqSceneS_l4_ev xs hm hi xs 0 rfl))
end Qq
namespace Qq
open Go Go.Vt Pt
set_option linter.unusedVariables false
set_option linter.unusedSimpArgs false
set_option linter.unnecessarySimpa false
theorem set_getD_self {α : Type} {l : List α} {i : Nat} {d : α} (h : i < l.length) : l.set i (l.getD i d) = l := by
  rw [List.getD, List.getElem?_eq_getElem h]; simp
theorem j_levels_l12_ev {n : Nat} (h1n : 1 ≤ n) (hn : n ≤ 12) (steps : List StepT) (si : Nat) (l : List Scene) (hl : l.length ≤ 3000) (ci : Nat) (s : StepT) (out : List (List Scene)) (rs : List StepT) (rc : List Scene) (nx : List Scene) (hnx : nx.length ≤ 4096)
    (K : ∀ acc : List Scene, acc.length ≤ 3000 → SAll n acc → Ev (fun k => i_levels_l9 k steps (steps.length : Int) (si : Int) (l.length : Int) ((ci + 1 : Nat) : Int) out si s.1 s.2.1.1 s.2.1.2 s.2.2 (acc.map keyB) acc l) (resU out rs (goU s rc acc))) :
    ∀ (xs : List Scene) (j : Nat) (acc : List Scene), nx.drop j = xs → SAll n xs → acc.length + xs.length ≤ 8000 → SAll n acc → ci < 3000 →
      Ev (fun k => i_levels_l12 k steps (steps.length : Int) (si : Int) (l.length : Int) (ci : Int) (nx.length : Int) (j : Int) out si s.1 s.2.1.1 s.2.1.2 s.2.2 (acc.map keyB) acc l nx j) (resU out rs (goU s rc (addU xs acc)))
  | [], j, acc, h, hx, ha, hk, hci => by
    have a := at_nil h
    have ew : IntKind.i64.wrap ((ci : Int) + 1) = ((ci + 1 : Nat) : Int) := by rw [wrap_id (by omega) (by omega)]; omega
    refine Ev.step (fun k => i_levels_l12_eq k _ _ _ _ _ _ _ _ _ _ _ _ _ _ _ _ _ _) ?_
    simp only [a.g, cond_false, ew]
    unfold addU
    refine Ev.ite (fun h2 => Ev.some ?_) (fun h2 => ?_)
    · unfold resU
      rw [if_neg]
      · rfl
      · have := goU_len s rc acc
        have h3 : (acc.length : Int) > 3000 := by simpa using h2
        omega
    · have h3 : ¬ (acc.length : Int) > 3000 := by simpa using h2
      exact K acc (by omega) hk
  | x :: xs, j, acc, h, hx, ha, hk, hci => by
    have a := at_cons h (by rw [maxLen_eq]; omega)
    have hxo := hx x (by simp)
    have hxi := packetOk_ins hxo.ok
    have hx0 := hxo.n0
    have hx12 := hxo.n12
    have hkx := i_keyOf_ev x (by rw [hxo.len]; exact hn) hxi (by unfold In; omega)
    have hmp := mpHas_map (l := acc) (x := x) (fun c hc => key_ok h1n (hk c hc)) (key_ok h1n hxo)
    have hbeq : Nat.beq (j : Int).toNat j = true := by simp
    rw [List.length_cons] at ha
    have ih := fun acc ha hk => j_levels_l12_ev h1n hn steps si l hl ci s out rs rc nx hnx K xs (j + 1) acc a.next (fun y hy => hx y (by simp [hy])) ha hk hci
    refine Ev.step (fun k => i_levels_l12_eq k _ _ _ _ _ _ _ _ _ _ _ _ _ _ _ _ _ _) ?_
    simp only [a.g, a.z, a.n, a.get, a.w, hbeq, cond_true]
    unfold addU
    refine Ev.bind hkx ?_
    rw [hmp]
    by_cases hm : x ∈ acc
    · rw [if_pos hm, decide_eq_true hm]
      exact Ev.no rfl (ih acc (by omega) hk)
    · rw [if_neg hm, decide_eq_false hm]
      refine Ev.yes rfl (Ev.yes (by rw [rowMax_eq]; simp; omega) ?_)
      have := ih (acc ++ [x]) (by simp; omega) (fun c hc => by
        rcases List.mem_append.1 hc with hc | hc
        · exact hk c hc
        · have : c = x := by simpa using hc
          rw [this]; exact hxo)
      simpa using this
theorem j_levels_l9_ev {n : Nat} (h1n : 1 ≤ n) (hn : n ≤ 12) (steps : List StepT) (h12 : steps.length ≤ 12) (si : Nat) (hsi : si < steps.length) (l : List Scene) (hl : l.length ≤ 3000) (hok : SAll n l) (s : StepT) (hs : stepOk (n : Int) s = true) (out : List (List Scene)) (hout : out.length = si + 1) (hoi : out.set si l = out) (rs : List StepT)
    (K : ∀ acc : List Scene, acc.length ≤ 3000 → SAll n acc → Ev (fun k => i_levels_l4 k steps (steps.length : Int) ((si + 1 : Nat) : Int) (out ++ [acc])) (outU out (levU rs acc))) :
    ∀ (rc : List Scene) (ci : Nat) (acc : List Scene), l.drop ci = rc → acc.length ≤ 3000 → SAll n acc →
      Ev (fun k => i_levels_l9 k steps (steps.length : Int) (si : Int) (l.length : Int) (ci : Int) out si s.1 s.2.1.1 s.2.1.2 s.2.2 (acc.map keyB) acc l) (resU out rs (goU s rc acc))
  | [], ci, acc, h, ha, hk => by
    have a := at_nil h
    have ew : IntKind.i64.wrap ((si : Int) + 1) = ((si + 1 : Nat) : Int) := by rw [wrap_id (by omega) (by omega)]; omega
    refine Ev.step (fun k => i_levels_l9_eq k _ _ _ _ _ _ _ _ _ _ _ _ _ _) ?_
    simp only [a.g, cond_false, ew, hoi]
    unfold goU resU
    rw [if_pos ha]
    exact Ev.yes (by rw [rowMax_eq]; simp; omega) (K acc ha hk)
  | c :: rc, ci, acc, h, ha, hk => by
    have a := at_cons h (by rw [maxLen_eq]; omega)
    have hlt := a.lt
    have hco := hok c a.mem
    have hnl := next_len hco hs
    have hst : l.set (ci : Int).toNat c = l := by
      have := set_getD_self (d := (([], 0) : Scene)) hlt
      rw [a.gt] at this
      simpa using this
    refine Ev.step (fun k => i_levels_l9_eq k _ _ _ _ _ _ _ _ _ _ _ _ _ _) ?_
    simp only [a.g, a.z, a.n, a.get, hst, cond_true]
    refine Ev.bind (i_NextScenes_ok hco hs) ?_
    unfold goU
    exact j_levels_l12_ev h1n hn steps si l hl ci s out rs rc (nextOf c s) hnl.2
      (fun acc ha hk => j_levels_l9_ev h1n hn steps h12 si hsi l hl hok s hs out hout hoi rs K rc (ci + 1) acc a.next ha hk)
      (nextOf c s) 0 acc rfl (next_ok hco hs) (by omega) hk (by omega)
theorem j_levels_l4_ev {n : Nat} (h1n : 1 ≤ n) (hn : n ≤ 12) (steps : List StepT) (h12 : steps.length ≤ 12) : ∀ (rs : List StepT) (si : Nat) (pre : List (List Scene)) (l : List Scene), steps.drop si = rs → (∀ s ∈ rs, stepOk (n : Int) s = true) → pre.length = si → l.length ≤ 3000 → SAll n l →
    Ev (fun k => i_levels_l4 k steps (steps.length : Int) (si : Int) (pre ++ [l])) (outU pre (levU rs l))
  | [], si, pre, l, h, hs, hp, hl, hok => by
    have a := at_nil h
    refine Ev.step (fun k => i_levels_l4_eq k _ _ _ _) ?_
    simp only [a.g, cond_false]
    exact Ev.some rfl
  | s :: rs, si, pre, l, h, hs, hp, hl, hok => by
    have a := at_cons h (by rw [maxLen_eq]; omega)
    have hlt := a.lt
    have hso := hs s (by simp)
    have g1 : decide ((si : Int) < ((pre ++ [l]).length : Int)) = true := decide_eq_true (by simp; omega)
    have g2 : decide ((si : Int).toNat < (pre ++ [l]).length) = true := decide_eq_true (by simp; omega)
    have hg : (pre ++ [l]).getD (si : Int).toNat [] = l := by
      rw [Int.toNat_natCast, List.getD, ← hp, List.getElem?_append_right (Nat.le_refl _)]; simp
    have hoi : (pre ++ [l]).set si l = pre ++ [l] := by
      have h1 : si < (pre ++ [l]).length := by simp; omega
      have := set_getD_self (d := ([] : List Scene)) h1
      rw [show (pre ++ [l]).getD si [] = l by simpa using hg] at this
      exact this
    refine Ev.step (fun k => i_levels_l4_eq k _ _ _ _) ?_
    simp only [a.g, a.z, a.get, g1, g2, hg, cond_true]
    simp only [Int.toNat_natCast]
    have := j_levels_l9_ev h1n hn steps h12 si hlt l hl hok s hso (pre ++ [l]) (by simp [hp]) hoi rs (fun acc ha hk => j_levels_l4_ev h1n hn steps h12 rs (si + 1) (pre ++ [l]) acc a.next (fun q hq => hs q (by simp [hq])) (by simp [hp]) ha hk)
      l 0 [] rfl (by simp) (fun c hc => by cases hc)
    refine this.to ?_
    rw [levU_cons]
    unfold resU
    split
    · cases levU rs (goU s l []) with
      | none => rfl
      | some L => simp [outU]
    · rfl
theorem j_levels_ev (t : Trick) (h : trickOk t = true) (a1 : t.1.length ≤ maxLen) (ai : Ins t.1) (a2 : t.2.1.length ≤ maxLen) : Ev (fun k => i_levels k t) (outU [] (levU t.2.1 [(t.1, -1)])) := by
  obtain ⟨h1, h2, h3, h4⟩ := trickOk_len h
  have hs := trick_start h
  refine Ev.step (fun k => i_levels_eq k t) (Ev.bind (StartScene_ev t a1 ai a2) ?_)
  have e : startScene t = (t.1, -1, true) := by unfold startScene; rw [if_pos h]
  rw [e]
  exact j_levels_l4_ev h2 h3 t.2.1 h1 t.2.1 0 [] [(t.1, -1)] rfl hs.2 rfl (by simp) (start_all h)
theorem j_AllScenes_ev (t : Trick) (a1 : t.1.length ≤ maxLen) (ai : Ins t.1) (a2 : t.2.1.length ≤ maxLen) : Ev (fun k => i_AllScenes k t) (allScenes t) := by
  refine Ev.step (fun k => i_AllScenes_eq k t) (Ev.bind (i_TrickOk_ev t a1 ai a2) (Ev.ite (fun h => Ev.some ?_) (fun h => ?_)))
  · have : trickOk t = false := by simpa using h
    simp [allScenes, this]
  · have e : trickOk t = true := by simpa using h
    obtain ⟨h1, h2⟩ := lev_ends t.2.1 (startW t)
    have hst : (startW t).map Prod.fst = [(t.1, -1)] := rfl
    rw [hst] at h1 h2
    refine Ev.bind (j_levels_ev t e a1 ai a2) ?_
    unfold allScenes endsOf
    rw [if_pos e]
    cases hL : levU t.2.1 [(t.1, -1)] with
    | none =>
      rw [hL] at h1
      cases hE : endsP t.2.1 (startW t) with
      | some A => rw [hE] at h1; cases h1
      | none => exact Ev.yes rfl (Ev.pure _)
    | some L =>
      rw [hL] at h1
      cases hE : endsP t.2.1 (startW t) with
      | none => rw [hE] at h1; cases h1
      | some A =>
        rw [hE] at h1
        have hlast : L.getLastD [] = A.map Prod.fst := Option.some.inj h1
        have hlen := h2 L hL
        have h12 := (trickOk_len e).1
        have ew : IntKind.i64.wrap ((L.length : Int) - 1) = ((L.length - 1 : Nat) : Int) := by rw [wrap_id (by omega) (by omega)]; omega
        simp only [outU, List.nil_append, ew]
        refine Ev.no rfl (Ev.yes (by simp) (Ev.yes (by simp; omega) (Ev.yes (by simp; omega) (Ev.some ?_))))
        show (L.getD ((L.length - 1 : Nat) : Int).toNat [], true) = (A.map Prod.fst, true)
        rw [← hlast, Int.toNat_natCast]
        congr 1
        cases L with
        | nil => simp at hlen
        | cons a L => rw [List.getLastD_cons, List.getD, ← List.getLast?_eq_getElem?, List.getLast?_cons]; simp [List.getLastD_eq_getLast?]
theorem FnExactAllScenes_ev (t : Trick) (f0 : Fits TrickTy t) : Ev (fun k => w_FnExactAllScenes k t) true := by
  obtain ⟨a1, ai, a2⟩ := trick_fit f0
  refine Ev.step (fun k => w_FnExactAllScenes_eq k t) (Ev.bind (szTrick_ev t 1048576 a1 a2 (by omega) (by omega)) (Ev.ite (fun h => Ev.pure _) (fun h => ?_)))
  obtain ⟨c1, c2, c3, c4⟩ := szTrick_fit (t := t) (n := 1048576) (by omega) (by simpa using h)
  have te := top_eq
  obtain ⟨y1, y2⟩ := allScenes_fit t
  have y3 : ∀ d ∈ (allScenes t).1, d.1.length ≤ 12 := fun d hd => by
    have h1 := (y2 d hd).len
    have h2 := (packetOk_fit (y2 d hd).ok).2.2
    omega
  have es := s_AllScenes_ev t a1 a2
  have ei := j_AllScenes_ev t a1 ai a2
  revert y1 y3 es ei
  clear y2
  generalize allScenes t = y
  obtain ⟨y, ok⟩ := y
  intro y1 y3 es ei
  have y1 : y.length ≤ 3000 := y1
  have y3 : ∀ d ∈ y, d.1.length ≤ 12 := y3
  have y1' : y.length ≤ maxLen := by rw [maxLen_eq]; omega
  have y2' : ∀ d ∈ y, d.1.length ≤ maxLen := fun d hd => by have := y3 d hd; rw [maxLen_eq]; omega
  have tly := tlS_le y y3
  have et := toTrick_ev t c1 c2
  have eq := eqSceneS_ev y y1' y2'
  have hd := heldSceneS_ev y 1 y1' y2' (by omega) (by omega)
  refine Ev.bind et (Ev.bind es (Ev.bind et (Ev.bind ei (Ev.bind eq (Ev.no (by simp) (Ev.no (by simp) ?_))))))
  refine Ev.bind et (Ev.bind (eqTrick_ev t t a1 a2 a1 a2) (Ev.no (by simp) ?_))
  refine Ev.bind (markTrick_ev t 1 c1 c2 (by omega) (by omega)) (Ev.no (by simp; omega) (Ev.bind eq (Ev.no (by simp) (Ev.no (by simp) ?_))))
  refine Ev.bind (markSceneS_ev y 1 y1' y2' (by omega) (by omega)) (Ev.bind hd (Ev.no (by simp; omega) (Ev.no (by simp) ?_)))
  refine Ev.bind et (Ev.bind ei (Ev.bind eq (Ev.no (by simp) (Ev.no (by simp) ?_))))
  exact Ev.bind hd (Ev.no (by simp; omega) (Ev.no (by simp) (Ev.pure _)))
end Qq
