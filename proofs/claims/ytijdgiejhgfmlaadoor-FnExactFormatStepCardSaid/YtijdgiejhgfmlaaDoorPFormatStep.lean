/-
  The law FnExactFormatStep comes to true.
  Conditions: numbers are such as a machine bears.
-/
import Derived.Test.YtijdgiejhgfmlaaDoorPt
import Derived.Test.YtijdgiejhgfmlaaDoorXvzd
import Derived.Laws.BitsLemmas
import Derived.Lib.ItoaLen
namespace Go.Vt
theorem Ev.some {α : Type} {x y : α} (e : x = y) : Ev (fun _ => Option.some x) y := by subst e; exact Ev.pure _
theorem Ev.to {α : Type} {g : Nat → Option α} {x y : α} (h : Ev g x) (e : x = y) : Ev g y := e ▸ h
end Go.Vt
namespace Qq
open Go Go.Vt
set_option linter.unusedVariables false
set_option linter.unusedSimpArgs false
theorem wrap_id {x : Int} (h1 : -9223372036854775808 ≤ x) (h2 : x ≤ 9223372036854775807) : IntKind.i64.wrap x = x := by
  rw [IntKind.wrap_i64]; omega
/-- Numbers of a machine's kind. -/
def In (x : Int) : Prop := -9223372036854775808 ≤ x ∧ x ≤ 9223372036854775807
end Qq
namespace Qq
open Go Go.Vt Pt
set_option linter.unusedVariables false
set_option linter.unusedSimpArgs false
theorem l01In_ev (x lo hi : Int) : Ev (fun k => s_l01In k (x, lo, hi)) (decide (lo ≤ x) && decide (x ≤ hi)) := by
  refine Ev.step (fun k => s_l01In_eq k x lo hi) (Ev.ite (fun h => ?_) (fun h => ?_))
  · have h' : lo ≤ x := by simpa using h
    exact Ev.some (by simp [h'])
  · have h' : ¬ lo ≤ x := by simpa using h
    exact Ev.some (by simp [h'])
end Qq
namespace Qq
open Go Go.Vt Pt
set_option linter.unusedVariables false
set_option linter.unusedSimpArgs false
def moveOk (n : Int) (m : Int × Int) : Bool :=
  decide (1 ≤ n) && (decide (n ≤ 12) && (decide (0 ≤ m.2) &&
    (if m.1 = 1 then decide (m.2 ≤ n) else if m.1 = 2 then decide (m.2 ≤ n) else if m.1 = 3 then decide (m.2 ≤ n) else
     if m.1 = 4 then decide (m.2 ≤ 1) else if m.1 = 5 then decide (m.2 ≤ 1) else if m.1 = 7 then decide (m.2 ≤ 1) else
     if m.1 = 6 then m.2 == 0 else if m.1 = 8 then decide (m.2 < n) else if m.1 = 9 then decide (m.2 < n) else false)))
theorem i_MoveOk_ev (n : Int) (m : Int × Int) : Ev (fun k => i_MoveOk k (n, m)) (moveOk n m) := by
  obtain ⟨a, b⟩ := m
  refine Ev.step (fun k => i_MoveOk_eq k n (a, b)) ?_
  unfold moveOk
  refine Ev.ite (fun h => Ev.some ?_) (fun h => ?_)
  · have : ¬ 1 ≤ n := by simpa using h
    simp [this]
  have h1 : 1 ≤ n := by simpa using h
  refine Ev.ite (fun h => Ev.some ?_) (fun h => ?_)
  · have : ¬ n ≤ 12 := by simpa using h
    simp [this]
  have h2 : n ≤ 12 := by simpa using h
  refine Ev.ite (fun h => Ev.some ?_) (fun h => ?_)
  · have : ¬ 0 ≤ b := by simpa using h
    simp [this]
  have h3 : 0 ≤ b := by simpa using h
  clear h
  simp only [h1, h2, h3, decide_true, Bool.true_and]
  iterate 9 (refine Ev.ite (fun h => ?_) (fun h => ?_); · exact Ev.some (by simp at *; simp [*]))
  exact Ev.some (by simp at *; simp [*])
theorem s_MoveOk_ev (n : Int) (m : Int × Int) : Ev (fun k => s_MoveOk k (n, m)) (moveOk n m) := by
  obtain ⟨a, b⟩ := m
  refine Ev.step (fun k => s_MoveOk_eq k n (a, b)) (Ev.bind (l01In_ev _ _ _) ?_)
  unfold moveOk
  refine Ev.ite (fun h => ?_) (fun h => ?_)
  · exact Ev.some (by rw [Bool.eq_iff_iff]; simp at *; omega)
  have hn : 1 ≤ n ∧ n ≤ 12 := by simpa using h
  iterate 6 (refine Ev.ite (fun h => ?_) (fun h => ?_); · exact Ev.bind (l01In_ev _ _ _) (Ev.some (by rw [Bool.eq_iff_iff]; simp at *; try simp [*]; try (intros; omega))))
  refine Ev.ite (fun h => ?_) (fun h => ?_)
  · exact Ev.some (by rw [Bool.eq_iff_iff]; simp at *; try simp [*]; try (intros; omega))
  rw [wrap_id (by omega) (by omega)]
  iterate 2 (refine Ev.ite (fun h => ?_) (fun h => ?_); · exact Ev.bind (l01In_ev _ _ _) (Ev.some (by rw [Bool.eq_iff_iff]; simp at *; try simp [*]; try (intros; omega))))
  exact Ev.some (by rw [Bool.eq_iff_iff]; simp at *; try simp [*]; try (intros; omega))
def stepOk (n : Int) (s : Int × (Int × Int) × Int) : Bool :=
  decide (1 ≤ n) && (decide (n ≤ 12) &&
    (if s.1 = 1 then moveOk n s.2.1 && s.2.2 == 0 else
     if s.1 = 2 then s.2.1.1 == 0 && (s.2.1.2 == 0 && (decide (0 ≤ s.2.2) && (decide (s.2.2 ≤ 4) && ((!(s.2.2 == 3) || decide (2 ≤ n)) && (!(s.2.2 == 2) || decide (n ≤ 7)))))) else
     if s.1 = 3 then s.2.1.1 == 0 && (s.2.1.2 == 0 && (decide (0 ≤ s.2.2) && decide (s.2.2 < n))) else false))
theorem i_StepOk_ev (n : Int) (s : Int × (Int × Int) × Int) : Ev (fun k => i_StepOk k (n, s)) (stepOk n s) := by
  obtain ⟨t, ⟨a, b⟩, c⟩ := s
  refine Ev.step (fun k => i_StepOk_eq k n (t, (a, b), c)) ?_
  unfold stepOk
  refine Ev.ite (fun h => Ev.some ?_) (fun h => ?_)
  · have : ¬ 1 ≤ n := by simpa using h
    simp [this]
  have h1 : 1 ≤ n := by simpa using h
  refine Ev.ite (fun h => Ev.some ?_) (fun h => ?_)
  · have : ¬ n ≤ 12 := by simpa using h
    simp [this]
  have h2 : n ≤ 12 := by simpa using h
  clear h
  simp only [h1, h2, decide_true, Bool.true_and]
  refine Ev.ite (fun h => ?_) (fun h => ?_)
  · have e : t = 1 := by simpa using h
    subst e
    exact Ev.bind (i_MoveOk_ev n (a, b)) (Ev.ite (fun h => Ev.some (by simp at *; simp [*])) (fun h => Ev.some (by simp at *; simp [*])))
  have t1 : ¬ t = 1 := by simpa using h
  simp only [t1, if_false]
  repeat (first | (refine Ev.ite (fun h => ?_) (fun h => ?_)) | focus (refine Ev.some ?_; simp_all; done) | focus (refine Ev.some ?_; simp_all; omega) | focus (refine Ev.some ?_; rw [Bool.eq_iff_iff]; simp at *; omega))
theorem l16Choice_ev (n c : Int) : Ev (fun k => s_l16Choice k (n, c)) (decide (0 ≤ c) && (decide (c ≤ 4) && ((!(c == 3) || decide (2 ≤ n)) && (!(c == 2) || decide (n ≤ 7))))) := by
  refine Ev.step (fun k => s_l16Choice_eq k n c) (Ev.bind (l01In_ev _ _ _) ?_)
  repeat (first | (refine Ev.ite (fun h => ?_) (fun h => ?_)) | focus (refine Ev.some ?_; simp_all; done) | focus (refine Ev.some ?_; simp_all; omega) | focus (refine Ev.some ?_; rw [Bool.eq_iff_iff]; simp at *; omega))
theorem s_StepOk_ev (n : Int) (s : Int × (Int × Int) × Int) : Ev (fun k => s_StepOk k (n, s)) (stepOk n s) := by
  obtain ⟨t, ⟨a, b⟩, c⟩ := s
  refine Ev.step (fun k => s_StepOk_eq k n (t, (a, b), c)) (Ev.bind (l01In_ev _ _ _) ?_)
  unfold stepOk
  refine Ev.ite (fun h => Ev.some ?_) (fun h => ?_)
  · rcases Int.lt_or_le n 1 with h1 | h1
    · have : ¬ 1 ≤ n := by omega
      simp [this]
    · have : ¬ n ≤ 12 := by simp at h; omega
      simp [this]
  have hn : 1 ≤ n ∧ n ≤ 12 := by simpa using h
  clear h
  simp only [hn.1, hn.2, decide_true, Bool.true_and]
  refine Ev.ite (fun h => ?_) (fun h => ?_)
  · have e : t = 1 := by simpa using h
    subst e
    exact Ev.bind (s_MoveOk_ev n (a, b)) (Ev.ite (fun h => Ev.some (by simp at *; simp [*])) (fun h => Ev.some (by simp at *; simp [*])))
  have t1 : ¬ t = 1 := by simpa using h
  simp only [t1, if_false]
  clear h
  rw [wrap_id (by omega) (by omega)]
  refine Ev.ite (fun h => ?_) (fun h => ?_)
  · have e : t = 2 := by simpa using h
    subst e
    refine Ev.ite (fun h => ?_) (fun h => Ev.some ?_)
    · exact Ev.bind (l16Choice_ev n c) (Ev.some (by simp at *; simp [*]))
    · cases ha : (a == 0) <;> cases hb : (b == 0) <;> simp_all
  have t2 : ¬ t = 2 := by simpa using h
  simp only [t2, if_false]
  clear h
  refine Ev.ite (fun h => ?_) (fun h => ?_)
  · have e : t = 3 := by simpa using h
    subst e
    refine Ev.ite (fun h => ?_) (fun h => Ev.some ?_)
    · refine Ev.bind (l01In_ev _ _ _) (Ev.some ?_)
      have e2 : decide (c ≤ n - 1) = decide (c < n) := by rw [Bool.eq_iff_iff]; simp; omega
      simp at h
      simp [h, e2]
    · cases ha : (a == 0) <;> cases hb : (b == 0) <;> simp_all
  · have t3 : ¬ t = 3 := by simpa using h
    exact Ev.some (by simp [t3])
theorem toMove_ev (m : Int × Int) : Ev (fun k => w_toMove k m) m := Ev.step (fun k => w_toMove_eq k m) (Ev.pure _)
theorem toStep_ev (s : Int × (Int × Int) × Int) : Ev (fun k => w_toStep k s) (s.1, (s.2.1.1, (s.2.1.2, s.2.2))) := Ev.step (fun k => w_toStep_eq k s) (Ev.bind (toMove_ev _) (Ev.pure _))
end Qq
namespace Qq
open Go Go.Vt Pt
set_option linter.unusedVariables false
set_option linter.unusedSimpArgs false
def strB (l : List UInt8) : ByteArray := ⟨l.toArray⟩
theorem strB_add (a b : List UInt8) : strB a ++ strB b = strB (a ++ b) := by unfold strB; apply ByteArray.ext; simp
theorem strB_size (a : List UInt8) : (strB a).size = a.length := by simp [strB, ByteArray.size]
theorem strB_one (x : Int) : bytesStr [x] = strB [UInt8.ofNat x.toNat] := rfl
def itoaB (n : Int) : ByteArray := strB (Lib.itoa n)
theorem dec_small {u : Nat} (h : u < 10) : Lib.decDigits u = [UInt8.ofNat (48 + u)] := by rw [Lib.decDigits, dif_pos h]
theorem dec_big {u : Nat} (h : ¬ u < 10) : Lib.decDigits u = Lib.decDigits (u / 10) ++ [UInt8.ofNat (48 + u % 10)] := by rw [Lib.decDigits, dif_neg h]
theorem dig (d : Nat) (h : d < 10) : bytesStr [IntKind.u8.wrap (IntKind.i64.wrap ((48 : Int) + (d : Int)))] = strB [UInt8.ofNat (48 + d)] := by
  rw [wrap_id (by omega) (by omega), strB_one]
  have : IntKind.u8.wrap ((48 : Int) + d) = ((48 + d : Nat) : Int) := by
    have h2 : (48 : Int) + d < 256 := by omega
    unfold IntKind.wrap
    have e : (2 ^ IntKind.u8.bits : Int) = 256 := by decide
    have e2 : IntKind.u8.signed = false := rfl
    simp only [e, e2, Bool.false_and, Bool.false_eq_true, if_false]
    omega
  rw [this, Int.toNat_natCast]
theorem s_FormatInt_l6_ev : ∀ (n : Nat) (s : List UInt8), (n : Int) ≤ 9223372036854775807 → s.length + n ≤ 9223372036854775807 + 1000 → (Lib.decDigits n).length + s.length ≤ 1000 → Ev (fun k => s_FormatInt_l6 k (n : Int) (strB s)) (strB (Lib.decDigits n ++ s)) := by
  intro n
  induction n using Nat.strongRecOn with
  | _ n ih =>
    intro s hn _ hl
    refine Ev.step (fun k => s_FormatInt_l6_eq k _ _) (Ev.ite (fun h => ?_) (fun h => ?_))
    · have h10 : ¬ n < 10 := by simp at h; omega
      have e1 : ((n : Int).tmod 10) = ((n % 10 : Nat) : Int) := by rw [Int.tmod_eq_emod_of_nonneg (by omega)]; omega
      have e2 : ((n : Int).tdiv 10) = ((n / 10 : Nat) : Int) := by rw [Int.tdiv_eq_ediv_of_nonneg (by omega)]; omega
      rw [dec_big h10] at hl ⊢
      simp only [List.length_append, List.length_singleton] at hl
      rw [e1, e2, dig _ (Nat.mod_lt _ (by omega)), strB_add, wrap_id (x := ((n / 10 : Nat) : Int)) (by omega) (by omega)]
      refine Ev.yes (by rw [strB_size, strB_size]; simp; omega) ?_
      rw [List.append_assoc]
      exact ih (n / 10) (by omega) _ (by omega) (by simp; omega) (by simp; omega)
    · have h10 : n < 10 := by simp at h; omega
      rw [dec_small h10] at hl ⊢
      rw [dig n h10, strB_add]
      exact Ev.yes (by rw [strB_size, strB_size]; simp at hl ⊢; omega) (Ev.pure _)
theorem dec_len (u : Nat) (h : (u : Int) ≤ 9223372036854775808) : (Lib.decDigits u).length ≤ 20 := by
  have := Lib.nDigits_le20 u (by omega)
  rw [Lib.decDigits_length]; exact this
theorem s_FormatInt_neg : ∀ (u : Nat), 1 ≤ u → (u : Int) ≤ 9223372036854775808 → Ev (fun k => s_FormatInt k (-(u : Int))) (strB (45 :: Lib.decDigits u)) := by
  intro u
  induction u using Nat.strongRecOn with
  | _ u ih =>
    intro h1 hu
    have hl := dec_len u hu
    have e1 : ((-(u : Int)).tmod 10) = -((u % 10 : Nat) : Int) := by rw [Int.neg_tmod, Int.tmod_eq_emod_of_nonneg (by omega)]; omega
    have e2 : ((-(u : Int)).tdiv 10) = -((u / 10 : Nat) : Int) := by rw [Int.neg_tdiv, Int.tdiv_eq_ediv_of_nonneg (by omega)]; omega
    refine Ev.step (fun k => s_FormatInt_eq k _) (Ev.yes (by simp; omega) ?_)
    rw [e1, e2, wrap_id (x := -((u / 10 : Nat) : Int)) (by omega) (by omega)]
    refine Ev.ite (fun h => ?_) (fun h => ?_)
    · have h10 : u < 10 := by simp at h; omega
      have e3 : (48 : Int) - (-(u : Int)) = 48 + (u : Int) := by omega
      have e4 : (⟨#[45]⟩ : ByteArray) = strB [45] := rfl
      rw [e3, dig u h10, e4, strB_add, dec_small h10]
      exact Ev.yes (by rw [strB_size, strB_size]; rfl) (Ev.pure _)
    · have h10 : ¬ u < 10 := by simp at h; omega
      have e3 : (48 : Int) - (-((u % 10 : Nat) : Int)) = 48 + ((u % 10 : Nat) : Int) := by omega
      rw [dec_big h10] at hl ⊢
      simp only [List.length_append, List.length_singleton] at hl
      refine Ev.bind (ih (u / 10) (by omega) (by omega) (by omega)) ?_
      rw [e3, dig _ (Nat.mod_lt _ (by omega)), strB_add]
      exact Ev.yes (by rw [strB_size, strB_size]; simp; omega) (Ev.pure _)
theorem s_FormatInt_ev (n : Int) (hn : In n) : Ev (fun k => s_FormatInt k n) (itoaB n) := by
  unfold In at hn
  by_cases h : n < 0
  · have := s_FormatInt_neg n.natAbs (by omega) (by omega)
    have e : (-((n.natAbs : Nat) : Int)) = n := by omega
    rw [e] at this
    refine this.to ?_
    unfold itoaB Lib.itoa
    rw [if_pos h]
  · have hl := dec_len n.toNat (by omega)
    have := s_FormatInt_l6_ev n.toNat [] (by omega) (by simp; omega) (by simp; omega)
    have e : ((n.toNat : Nat) : Int) = n := by omega
    rw [e] at this
    refine Ev.step (fun k => s_FormatInt_eq k n) (Ev.no (by simpa using h) (this.to ?_))
    unfold itoaB Lib.itoa
    rw [if_neg h, List.append_nil]
theorem Itoa_ev (n : Int) (hn : In n) : Ev (fun k => strconv_Itoa k n) (itoaB n) := by
  refine Ev.congr (fun k => strconv_Itoa_eq k n) ?_
  unfold itoaF
  refine Ev.yes ?_ (Ev.pure _)
  unfold In at hn
  simp; exact hn
theorem i_FormatInt_ev (n : Int) (hn : In n) : Ev (fun k => i_FormatInt k n) (itoaB n) :=
  Ev.step (fun k => i_FormatInt_eq k n) (Ev.bind (Itoa_ev n hn) (Ev.pure _))
theorem itoaB_size (n : Int) (hn : In n) : (itoaB n).size ≤ 21 := by
  unfold In at hn
  rw [itoaB, strB_size]
  exact Lib.itoa_length_le n hn.1 hn.2
end Qq
namespace Qq
open Go Go.Vt Pt
set_option linter.unusedVariables false
set_option linter.unusedSimpArgs false
def moveNames : List ByteArray := [⟨#[99, 117, 116]⟩, ⟨#[100, 101, 97, 108]⟩, ⟨#[102, 108, 105, 112]⟩, ⟨#[102, 97, 114, 111]⟩, ⟨#[109, 111, 110, 103, 101]⟩, ⟨#[109, 105, 108, 107]⟩, ⟨#[100, 117, 99, 107]⟩, ⟨#[116, 117, 114, 110]⟩, ⟨#[117, 110, 100, 101, 114]⟩]
def moveName (kind : Int) : ByteArray := if 1 ≤ kind ∧ kind ≤ 9 then moveNames.getD (kind - 1).toNat ⟨#[]⟩ else ⟨#[]⟩
theorem moveName_size (kind : Int) : (moveName kind).size ≤ 5 := by
  unfold moveName
  split
  · rename_i h
    obtain ⟨n, hn⟩ : ∃ n : Nat, (kind - 1).toNat = n := ⟨_, rfl⟩
    have : n < 9 := by omega
    rw [hn]
    clear hn h
    revert n
    decide
  · decide
theorem s_MoveName_ev (kind : Int) : Ev (fun k => s_MoveName k kind) (moveName kind) := by
  refine Ev.step (fun k => s_MoveName_eq k kind) (Ev.bind (l01In_ev _ _ _) (Ev.ite (fun h => Ev.some ?_) (fun h => ?_)))
  · have : ¬ (1 ≤ kind ∧ kind ≤ 9) := by simp at h; omega
    rw [moveName, if_neg this]
  · have : 1 ≤ kind ∧ kind ≤ 9 := by simpa using h
    refine Ev.bind (Ev.step (fun k => s_l04Names_eq k) (Ev.pure _)) ?_
    refine Ev.yes (by simp; omega) (Ev.yes (by simp; omega) (Ev.yes (by simp; omega) (Ev.some ?_)))
    rw [moveName, if_pos this]
    obtain ⟨n, rfl⟩ : ∃ n : Nat, kind = (n : Int) + 1 := ⟨(kind - 1).toNat, by omega⟩
    have e1 : ((n : Int) + 1).toNat = n + 1 := by omega
    have e2 : ((n : Int) + 1 - 1).toNat = n := by omega
    rw [e1, e2, List.getD_cons_succ]
    rfl
theorem i_MoveName_ev (kind : Int) : Ev (fun k => i_MoveName k kind) (moveName kind) := by
  refine Ev.step (fun k => i_MoveName_eq k kind) (Ev.ite (fun h => Ev.some ?_) (fun h => Ev.ite (fun h2 => Ev.some ?_) (fun h2 => ?_)))
  · have : ¬ (1 ≤ kind ∧ kind ≤ 9) := by simp at h; omega
    rw [moveName, if_neg this]
  · have : ¬ (1 ≤ kind ∧ kind ≤ 9) := by simp at h2; omega
    rw [moveName, if_neg this]
  · have : 1 ≤ kind ∧ kind ≤ 9 := by simp at h h2; omega
    refine Ev.bind (Ev.step (fun k => i_moveNames_eq k) (Ev.pure _)) ?_
    rw [wrap_id (by omega) (by omega)]
    refine Ev.yes (by simp; omega) (Ev.yes (by simp; omega) (Ev.yes (by simp; omega) (Ev.some ?_)))
    rw [moveName, if_pos this]
    rfl
def formatMove (m : Int × Int) : ByteArray := if moveOk 12 m then (moveName m.1 ++ ⟨#[32]⟩) ++ itoaB m.2 else ⟨#[]⟩
theorem moveOk_fit {n : Int} {m : Int × Int} (h : moveOk n m = true) (hn : n = 12) : 0 ≤ m.2 ∧ m.2 ≤ 12 := by
  subst hn
  unfold moveOk at h
  simp only [Bool.and_eq_true, decide_eq_true_eq] at h
  obtain ⟨_, _, h3, h4⟩ := h
  refine ⟨h3, ?_⟩
  repeat (first | (split at h4) | (simp at h4; omega) | (simp at h4))
theorem s_FormatMove_ev (m : Int × Int) : Ev (fun k => s_FormatMove k m) (formatMove m) := by
  refine Ev.step (fun k => s_FormatMove_eq k m) (Ev.bind (s_MoveOk_ev 12 m) (Ev.ite (fun h => Ev.some ?_) (fun h => ?_)))
  · have : moveOk 12 m = false := by simpa using h
    simp [formatMove, this]
  · have e : moveOk 12 m = true := by simpa using h
    have hf := moveOk_fit e rfl
    have hi : In m.2 := by unfold In; omega
    have h1 := moveName_size m.1
    have h2 := itoaB_size m.2 hi
    refine Ev.bind (s_MoveName_ev m.1) (Ev.yes (by show decide ((moveName m.1).size + 1 ≤ _) = true; simp; omega) (Ev.bind (s_FormatInt_ev m.2 hi) (Ev.yes ?_ (Ev.some ?_))))
    · rw [ByteArray.size_append]
      show decide ((moveName m.1).size + 1 + _ ≤ _) = true
      simp; omega
    · simp [formatMove, e]
theorem i_FormatMove_ev (m : Int × Int) : Ev (fun k => i_FormatMove k m) (formatMove m) := by
  refine Ev.step (fun k => i_FormatMove_eq k m) (Ev.bind (i_MoveOk_ev 12 m) (Ev.ite (fun h => Ev.some ?_) (fun h => ?_)))
  · have : moveOk 12 m = false := by simpa using h
    simp [formatMove, this]
  · have e : moveOk 12 m = true := by simpa using h
    have hf := moveOk_fit e rfl
    have hi : In m.2 := by unfold In; omega
    have h1 := moveName_size m.1
    have h2 := itoaB_size m.2 hi
    refine Ev.bind (i_MoveName_ev m.1) (Ev.yes (by show decide ((moveName m.1).size + 1 ≤ _) = true; simp; omega) (Ev.bind (i_FormatInt_ev m.2 hi) (Ev.yes ?_ (Ev.some ?_))))
    · rw [ByteArray.size_append]
      show decide ((moveName m.1).size + 1 + _ ≤ _) = true
      simp; omega
    · simp [formatMove, e]
end Qq
namespace Qq
open Go Go.Vt Pt
set_option linter.unusedVariables false
set_option linter.unusedSimpArgs false
def choiceNames : List ByteArray := [⟨#[102, 105, 120, 101, 100]⟩, ⟨#[97, 110, 121, 99, 117, 116]⟩, ⟨#[114, 105, 102, 102, 108, 101]⟩, ⟨#[97, 110, 121, 112, 97, 105, 114]⟩, ⟨#[112, 105, 99, 107]⟩]
def choiceName (kind : Int) : ByteArray := if 0 ≤ kind ∧ kind ≤ 4 then choiceNames.getD kind.toNat ⟨#[]⟩ else ⟨#[]⟩
theorem s_ChoiceName_ev (kind : Int) : Ev (fun k => s_ChoiceName k kind) (choiceName kind) := by
  refine Ev.step (fun k => s_ChoiceName_eq k kind) (Ev.bind (l01In_ev _ _ _) (Ev.ite (fun h => Ev.some ?_) (fun h => ?_)))
  · have : ¬ (0 ≤ kind ∧ kind ≤ 4) := by simp at h; omega
    rw [choiceName, if_neg this]
  · have : 0 ≤ kind ∧ kind ≤ 4 := by simpa using h
    refine Ev.yes (by simp; omega) (Ev.yes (by simp; omega) (Ev.yes (by simp; omega) (Ev.some ?_)))
    rw [choiceName, if_pos this]
    rfl
theorem i_ChoiceName_ev (kind : Int) : Ev (fun k => i_ChoiceName k kind) (choiceName kind) := by
  refine Ev.step (fun k => i_ChoiceName_eq k kind) (Ev.ite (fun h => Ev.some ?_) (fun h => Ev.ite (fun h2 => Ev.some ?_) (fun h2 => ?_)))
  · have : ¬ (0 ≤ kind ∧ kind ≤ 4) := by simp at h; omega
    rw [choiceName, if_neg this]
  · have : ¬ (0 ≤ kind ∧ kind ≤ 4) := by simp at h2; omega
    rw [choiceName, if_neg this]
  · have : 0 ≤ kind ∧ kind ≤ 4 := by simp at h h2; omega
    refine Ev.yes (by simp; omega) (Ev.yes (by simp; omega) (Ev.yes (by simp; omega) (Ev.some ?_)))
    rw [choiceName, if_pos this]
    rfl
def isRif (s : Int × (Int × Int) × Int) : Bool := (s.1 == 2) && ((s.2.1.1 == 0) && ((s.2.1.2 == 0) && (s.2.2 == 2)))
def stepRest (s : Int × (Int × Int) × Int) : ByteArray := if s.1 = 1 then formatMove s.2.1 else if s.1 = 2 then choiceName s.2.2 else (⟨#[110, 111, 116, 101, 32]⟩ : ByteArray) ++ itoaB s.2.2
def formatStep (s : Int × (Int × Int) × Int) : ByteArray := if stepOk 12 s || isRif s then stepRest s else ⟨#[]⟩
theorem stepOk_fit {n : Int} {s : Int × (Int × Int) × Int} (h : stepOk n s = true) (h1 : ¬ s.1 = 1) (h2 : ¬ s.1 = 2) (hn : n ≤ 12) : In s.2.2 := by
  unfold stepOk at h
  simp only [Bool.and_eq_true, decide_eq_true_eq, h1, h2, if_false] at h
  obtain ⟨_, _, h⟩ := h
  split at h
  · simp at h
    unfold In; omega
  · cases h
theorem s_rest_ev (s : Int × (Int × Int) × Int) (hi : ¬ s.1 = 1 → ¬ s.1 = 2 → In s.2.2) : Ev (fun k => bif (s.1 == (1 : Int)) then ((s_FormatMove k s.2.1).bind fun y => some y)
    else (bif (s.1 == (2 : Int)) then ((s_ChoiceName k s.2.2).bind fun y => some y)
      else ((s_FormatInt k s.2.2).bind fun y => bif decide ((⟨#[110, 111, 116, 101, 32]⟩ : ByteArray).size + y.size ≤ 9223372036854775807) then (some ((⟨#[110, 111, 116, 101, 32]⟩ : ByteArray) ++ y)) else (none)))) (stepRest s) := by
  unfold stepRest
  refine Ev.ite (fun h => ?_) (fun h => ?_)
  · have e : s.1 = 1 := by simpa using h
    rw [if_pos e]
    exact Ev.bind (s_FormatMove_ev s.2.1) (Ev.pure _)
  · have e1 : ¬ s.1 = 1 := by simpa using h
    rw [if_neg e1]
    refine Ev.ite (fun h => ?_) (fun h => ?_)
    · have e : s.1 = 2 := by simpa using h
      rw [if_pos e]
      exact Ev.bind (s_ChoiceName_ev s.2.2) (Ev.pure _)
    · have e2 : ¬ s.1 = 2 := by simpa using h
      rw [if_neg e2]
      have hs := itoaB_size s.2.2 (hi e1 e2)
      exact Ev.bind (s_FormatInt_ev _ (hi e1 e2)) (Ev.yes (by show decide (5 + _ ≤ _) = true; simp; omega) (Ev.pure _))
theorem i_rest_ev (s : Int × (Int × Int) × Int) (hi : ¬ s.1 = 1 → ¬ s.1 = 2 → In s.2.2) : Ev (fun k => bif (s.1 == (1 : Int)) then ((i_FormatMove k s.2.1).bind fun y => some y)
    else (bif (s.1 == (2 : Int)) then ((i_ChoiceName k s.2.2).bind fun y => some y)
      else ((i_FormatInt k s.2.2).bind fun y => bif decide ((⟨#[110, 111, 116, 101, 32]⟩ : ByteArray).size + y.size ≤ 9223372036854775807) then (some ((⟨#[110, 111, 116, 101, 32]⟩ : ByteArray) ++ y)) else (none)))) (stepRest s) := by
  unfold stepRest
  refine Ev.ite (fun h => ?_) (fun h => ?_)
  · have e : s.1 = 1 := by simpa using h
    rw [if_pos e]
    exact Ev.bind (i_FormatMove_ev s.2.1) (Ev.pure _)
  · have e1 : ¬ s.1 = 1 := by simpa using h
    rw [if_neg e1]
    refine Ev.ite (fun h => ?_) (fun h => ?_)
    · have e : s.1 = 2 := by simpa using h
      rw [if_pos e]
      exact Ev.bind (i_ChoiceName_ev s.2.2) (Ev.pure _)
    · have e2 : ¬ s.1 = 2 := by simpa using h
      rw [if_neg e2]
      have hs := itoaB_size s.2.2 (hi e1 e2)
      exact Ev.bind (i_FormatInt_ev _ (hi e1 e2)) (Ev.yes (by show decide (5 + _ ≤ _) = true; simp; omega) (Ev.pure _))
theorem s_FormatStep_ev (s : Int × (Int × Int) × Int) : Ev (fun k => s_FormatStep k s) (formatStep s) := by
  have main : isRif s = false → Ev (fun k => (s_StepOk k ((12 : Int), s)).bind fun y => bif (!y) then (some (⟨#[]⟩ : ByteArray)) else (bif (s.1 == (1 : Int)) then ((s_FormatMove k s.2.1).bind fun y => some y)
    else (bif (s.1 == (2 : Int)) then ((s_ChoiceName k s.2.2).bind fun y => some y)
      else ((s_FormatInt k s.2.2).bind fun y => bif decide ((⟨#[110, 111, 116, 101, 32]⟩ : ByteArray).size + y.size ≤ 9223372036854775807) then (some ((⟨#[110, 111, 116, 101, 32]⟩ : ByteArray) ++ y)) else (none))))) (formatStep s) := by
    intro hr
    unfold formatStep
    refine Ev.bind (s_StepOk_ev 12 s) (Ev.ite (fun h => Ev.some ?_) (fun h => ?_))
    · have : stepOk 12 s = false := by simpa using h
      simp [this, hr]
    · have e : stepOk 12 s = true := by simpa using h
      rw [e, Bool.true_or, if_pos rfl]
      exact s_rest_ev s (fun h1 h2 => stepOk_fit e h1 h2 (by omega))
  refine Ev.step (fun k => s_FormatStep_eq k s) (Ev.ite (fun h => Ev.ite (fun h2 => Ev.ite (fun h3 => ?_) (fun h3 => main ?_)) (fun h2 => main ?_)) (fun h => main ?_))
  · refine Ev.bind (s_ChoiceName_ev _) (Ev.some ?_)
    have e1 : s.1 = 2 := by simpa using h
    have hr : isRif s = true := by simp at h h2 h3; simp [isRif, h, h2, h3]
    unfold formatStep stepRest
    rw [hr, Bool.or_true, if_pos rfl, if_neg (by omega), if_pos e1]
  · simp at h h2 h3; simp [isRif, h, h2]; intros; omega
  · simp at h h2; simp [isRif, h, h2]
  · simp at h; simp [isRif, h]
theorem i_FormatStep_ev (s : Int × (Int × Int) × Int) : Ev (fun k => i_FormatStep k s) (formatStep s) := by
  unfold formatStep
  refine Ev.step (fun k => i_FormatStep_eq k s) (Ev.bind (i_StepOk_ev 12 s) (Ev.ite (fun h => Ev.ite (fun h2 => Ev.some ?_) (fun h2 => ?_)) (fun h => ?_)))
  · have e : stepOk 12 s = false := by simpa using h
    have hr : isRif s = false := by
      simp at h2
      simp [isRif]
      intro a b c
      rcases h2 with h2 | h2 | h2 | h2
      · exact absurd a h2
      · exact absurd b h2
      · exact absurd c h2
      · exact h2
    simp [e, hr]
  · have hr : isRif s = true := by
      simp at h2
      simp [isRif, h2]
    rw [hr, Bool.or_true, if_pos rfl]
    exact i_rest_ev s (fun h1 h3 => by simp at h2; exact absurd h2.1 h3)
  · have e : stepOk 12 s = true := by simpa using h
    rw [e, Bool.true_or, if_pos rfl]
    exact i_rest_ev s (fun h1 h2 => stepOk_fit e h1 h2 (by omega))
end Qq
namespace Qq
open Go Go.Vt Pt
set_option linter.unusedVariables false
theorem FnExactFormatStep_ev (s : Int × (Int × Int) × Int) (f0 : Fits (.pair (.int .i64) (.pair (.pair (.int .i64) (.int .i64)) (.int .i64))) s) : Ev (fun k => w_FnExactFormatStep k s) true :=
  Ev.step (fun k => w_FnExactFormatStep_eq k s) (Ev.bind (toStep_ev s) (Ev.bind (s_FormatStep_ev s) (Ev.bind (toStep_ev s) (Ev.bind (i_FormatStep_ev s) (Ev.no (by simp) (Ev.pure _))))))
end Qq
