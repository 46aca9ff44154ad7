/-
  The law FnExactFormatMove comes to true.
  Conditions: numbers are such as a machine bears.
-/
import Derived.Test.YtghbmnhaalpjeaaDoorPt
import Derived.Test.YtghbmnhaalpjeaaDoorXvzd
import Derived.Laws.BitsLemmas
import Derived.Lib.ItoaLen
namespace Go.Vt
theorem Ev.some {α : Type} {x y : α} (e : x = y) : Ev (fun _ => Option.some x) y := by subst e; exact Ev.pure _
theorem Ev.to {α : Type} {g : Nat → Option α} {x y : α} (h : Ev g x) (e : x = y) : Ev g y := e ▸ h
end Go.Vt
namespace Qq
open Go Go.Vt
set_option linter.unusedVariables false
set_option linter.unusedSimpArgs false
theorem wrap_id {x : Int} (h1 : -9223372036854775808 ≤ x) (h2 : x ≤ 9223372036854775807) : IntKind.i64.wrap x = x := by
  rw [IntKind.wrap_i64]; omega
/-- Numbers of a machine's kind. -/
def In (x : Int) : Prop := -9223372036854775808 ≤ x ∧ x ≤ 9223372036854775807
end Qq
namespace Qq
open Go Go.Vt Pt
set_option linter.unusedVariables false
set_option linter.unusedSimpArgs false
theorem l01In_ev (x lo hi : Int) : Ev (fun k => s_l01In k (x, lo, hi)) (decide (lo ≤ x) && decide (x ≤ hi)) := by
  refine Ev.step (fun k => s_l01In_eq k x lo hi) (Ev.ite (fun h => ?_) (fun h => ?_))
  · have h' : lo ≤ x := by simpa using h
    exact Ev.some (by simp [h'])
  · have h' : ¬ lo ≤ x := by simpa using h
    exact Ev.some (by simp [h'])
end Qq
namespace Qq
open Go Go.Vt Pt
set_option linter.unusedVariables false
set_option linter.unusedSimpArgs false
def moveOk (n : Int) (m : Int × Int) : Bool :=
  decide (1 ≤ n) && (decide (n ≤ 12) && (decide (0 ≤ m.2) &&
    (if m.1 = 1 then decide (m.2 ≤ n) else if m.1 = 2 then decide (m.2 ≤ n) else if m.1 = 3 then decide (m.2 ≤ n) else
     if m.1 = 4 then decide (m.2 ≤ 1) else if m.1 = 5 then decide (m.2 ≤ 1) else if m.1 = 7 then decide (m.2 ≤ 1) else
     if m.1 = 6 then m.2 == 0 else if m.1 = 8 then decide (m.2 < n) else if m.1 = 9 then decide (m.2 < n) else false)))
theorem i_MoveOk_ev (n : Int) (m : Int × Int) : Ev (fun k => i_MoveOk k (n, m)) (moveOk n m) := by
  obtain ⟨a, b⟩ := m
  refine Ev.step (fun k => i_MoveOk_eq k n (a, b)) ?_
  unfold moveOk
  refine Ev.ite (fun h => Ev.some ?_) (fun h => ?_)
  · have : ¬ 1 ≤ n := by simpa using h
    simp [this]
  have h1 : 1 ≤ n := by simpa using h
  refine Ev.ite (fun h => Ev.some ?_) (fun h => ?_)
  · have : ¬ n ≤ 12 := by simpa using h
    simp [this]
  have h2 : n ≤ 12 := by simpa using h
  refine Ev.ite (fun h => Ev.some ?_) (fun h => ?_)
  · have : ¬ 0 ≤ b := by simpa using h
    simp [this]
  have h3 : 0 ≤ b := by simpa using h
  clear h
  simp only [h1, h2, h3, decide_true, Bool.true_and]
  iterate 9 (refine Ev.ite (fun h => ?_) (fun h => ?_); · exact Ev.some (by simp at *; simp [*]))
  exact Ev.some (by simp at *; simp [*])
theorem s_MoveOk_ev (n : Int) (m : Int × Int) : Ev (fun k => s_MoveOk k (n, m)) (moveOk n m) := by
  obtain ⟨a, b⟩ := m
  refine Ev.step (fun k => s_MoveOk_eq k n (a, b)) (Ev.bind (l01In_ev _ _ _) ?_)
  unfold moveOk
  refine Ev.ite (fun h => ?_) (fun h => ?_)
  · exact Ev.some (by rw [Bool.eq_iff_iff]; simp at *; omega)
  have hn : 1 ≤ n ∧ n ≤ 12 := by simpa using h
  iterate 6 (refine Ev.ite (fun h => ?_) (fun h => ?_); · exact Ev.bind (l01In_ev _ _ _) (Ev.some (by rw [Bool.eq_iff_iff]; simp at *; try simp [*]; try (intros; omega))))
  refine Ev.ite (fun h => ?_) (fun h => ?_)
  · exact Ev.some (by rw [Bool.eq_iff_iff]; simp at *; try simp [*]; try (intros; omega))
  rw [wrap_id (by omega) (by omega)]
  iterate 2 (refine Ev.ite (fun h => ?_) (fun h => ?_); · exact Ev.bind (l01In_ev _ _ _) (Ev.some (by rw [Bool.eq_iff_iff]; simp at *; try simp [*]; try (intros; omega))))
  exact Ev.some (by rw [Bool.eq_iff_iff]; simp at *; try simp [*]; try (intros; omega))
theorem toMove_ev (m : Int × Int) : Ev (fun k => w_toMove k m) m := Ev.step (fun k => w_toMove_eq k m) (Ev.pure _)
end Qq
namespace Qq
open Go Go.Vt Pt
set_option linter.unusedVariables false
set_option linter.unusedSimpArgs false
def strB (l : List UInt8) : ByteArray := ⟨l.toArray⟩
theorem strB_add (a b : List UInt8) : strB a ++ strB b = strB (a ++ b) := by unfold strB; apply ByteArray.ext; simp
theorem strB_size (a : List UInt8) : (strB a).size = a.length := by simp [strB, ByteArray.size]
theorem strB_one (x : Int) : bytesStr [x] = strB [UInt8.ofNat x.toNat] := rfl
def itoaB (n : Int) : ByteArray := strB (Lib.itoa n)
theorem dec_small {u : Nat} (h : u < 10) : Lib.decDigits u = [UInt8.ofNat (48 + u)] := by rw [Lib.decDigits, dif_pos h]
theorem dec_big {u : Nat} (h : ¬ u < 10) : Lib.decDigits u = Lib.decDigits (u / 10) ++ [UInt8.ofNat (48 + u % 10)] := by rw [Lib.decDigits, dif_neg h]
theorem dig (d : Nat) (h : d < 10) : bytesStr [IntKind.u8.wrap (IntKind.i64.wrap ((48 : Int) + (d : Int)))] = strB [UInt8.ofNat (48 + d)] := by
  rw [wrap_id (by omega) (by omega), strB_one]
  have : IntKind.u8.wrap ((48 : Int) + d) = ((48 + d : Nat) : Int) := by
    have h2 : (48 : Int) + d < 256 := by omega
    unfold IntKind.wrap
    have e : (2 ^ IntKind.u8.bits : Int) = 256 := by decide
    have e2 : IntKind.u8.signed = false := rfl
    simp only [e, e2, Bool.false_and, Bool.false_eq_true, if_false]
    omega
  rw [this, Int.toNat_natCast]
theorem s_FormatInt_l6_ev : ∀ (n : Nat) (s : List UInt8), (n : Int) ≤ 9223372036854775807 → s.length + n ≤ 9223372036854775807 + 1000 → (Lib.decDigits n).length + s.length ≤ 1000 → Ev (fun k => s_FormatInt_l6 k (n : Int) (strB s)) (strB (Lib.decDigits n ++ s)) := by
  intro n
  induction n using Nat.strongRecOn with
  | _ n ih =>
    intro s hn _ hl
    refine Ev.step (fun k => s_FormatInt_l6_eq k _ _) (Ev.ite (fun h => ?_) (fun h => ?_))
    · have h10 : ¬ n < 10 := by simp at h; omega
      have e1 : ((n : Int).tmod 10) = ((n % 10 : Nat) : Int) := by rw [Int.tmod_eq_emod_of_nonneg (by omega)]; omega
      have e2 : ((n : Int).tdiv 10) = ((n / 10 : Nat) : Int) := by rw [Int.tdiv_eq_ediv_of_nonneg (by omega)]; omega
      rw [dec_big h10] at hl ⊢
      simp only [List.length_append, List.length_singleton] at hl
      rw [e1, e2, dig _ (Nat.mod_lt _ (by omega)), strB_add, wrap_id (x := ((n / 10 : Nat) : Int)) (by omega) (by omega)]
      refine Ev.yes (by rw [strB_size, strB_size]; simp; omega) ?_
      rw [List.append_assoc]
      exact ih (n / 10) (by omega) _ (by omega) (by simp; omega) (by simp; omega)
    · have h10 : n < 10 := by simp at h; omega
      rw [dec_small h10] at hl ⊢
      rw [dig n h10, strB_add]
      exact Ev.yes (by rw [strB_size, strB_size]; simp at hl ⊢; omega) (Ev.pure _)
theorem dec_len (u : Nat) (h : (u : Int) ≤ 9223372036854775808) : (Lib.decDigits u).length ≤ 20 := by
  have := Lib.nDigits_le20 u (by omega)
  rw [Lib.decDigits_length]; exact this
theorem s_FormatInt_neg : ∀ (u : Nat), 1 ≤ u → (u : Int) ≤ 9223372036854775808 → Ev (fun k => s_FormatInt k (-(u : Int))) (strB (45 :: Lib.decDigits u)) := by
  intro u
  induction u using Nat.strongRecOn with
  | _ u ih =>
    intro h1 hu
    have hl := dec_len u hu
    have e1 : ((-(u : Int)).tmod 10) = -((u % 10 : Nat) : Int) := by rw [Int.neg_tmod, Int.tmod_eq_emod_of_nonneg (by omega)]; omega
    have e2 : ((-(u : Int)).tdiv 10) = -((u / 10 : Nat) : Int) := by rw [Int.neg_tdiv, Int.tdiv_eq_ediv_of_nonneg (by omega)]; omega
    refine Ev.step (fun k => s_FormatInt_eq k _) (Ev.yes (by simp; omega) ?_)
    rw [e1, e2, wrap_id (x := -((u / 10 : Nat) : Int)) (by omega) (by omega)]
    refine Ev.ite (fun h => ?_) (fun h => ?_)
    · have h10 : u < 10 := by simp at h; omega
      have e3 : (48 : Int) - (-(u : Int)) = 48 + (u : Int) := by omega
      have e4 : (⟨#[45]⟩ : ByteArray) = strB [45] := rfl
      rw [e3, dig u h10, e4, strB_add, dec_small h10]
      exact Ev.yes (by rw [strB_size, strB_size]; rfl) (Ev.pure _)
    · have h10 : ¬ u < 10 := by simp at h; omega
      have e3 : (48 : Int) - (-((u % 10 : Nat) : Int)) = 48 + ((u % 10 : Nat) : Int) := by omega
      rw [dec_big h10] at hl ⊢
      simp only [List.length_append, List.length_singleton] at hl
      refine Ev.bind (ih (u / 10) (by omega) (by omega) (by omega)) ?_
      rw [e3, dig _ (Nat.mod_lt _ (by omega)), strB_add]
      exact Ev.yes (by rw [strB_size, strB_size]; simp; omega) (Ev.pure _)
theorem s_FormatInt_ev (n : Int) (hn : In n) : Ev (fun k => s_FormatInt k n) (itoaB n) := by
  unfold In at hn
  by_cases h : n < 0
  · have := s_FormatInt_neg n.natAbs (by omega) (by omega)
    have e : (-((n.natAbs : Nat) : Int)) = n := by omega
    rw [e] at this
    refine this.to ?_
    unfold itoaB Lib.itoa
    rw [if_pos h]
  · have hl := dec_len n.toNat (by omega)
    have := s_FormatInt_l6_ev n.toNat [] (by omega) (by simp; omega) (by simp; omega)
    have e : ((n.toNat : Nat) : Int) = n := by omega
    rw [e] at this
    refine Ev.step (fun k => s_FormatInt_eq k n) (Ev.no (by simpa using h) (this.to ?_))
    unfold itoaB Lib.itoa
    rw [if_neg h, List.append_nil]
theorem Itoa_ev (n : Int) (hn : In n) : Ev (fun k => strconv_Itoa k n) (itoaB n) := by
  refine Ev.congr (fun k => strconv_Itoa_eq k n) ?_
  unfold itoaF
  refine Ev.yes ?_ (Ev.pure _)
  unfold In at hn
  simp; exact hn
theorem i_FormatInt_ev (n : Int) (hn : In n) : Ev (fun k => i_FormatInt k n) (itoaB n) :=
  Ev.step (fun k => i_FormatInt_eq k n) (Ev.bind (Itoa_ev n hn) (Ev.pure _))
theorem itoaB_size (n : Int) (hn : In n) : (itoaB n).size ≤ 21 := by
  unfold In at hn
  rw [itoaB, strB_size]
  exact Lib.itoa_length_le n hn.1 hn.2
end Qq
namespace Qq
open Go Go.Vt Pt
set_option linter.unusedVariables false
set_option linter.unusedSimpArgs false
def moveNames : List ByteArray := [⟨#[99, 117, 116]⟩, ⟨#[100, 101, 97, 108]⟩, ⟨#[102, 108, 105, 112]⟩, ⟨#[102, 97, 114, 111]⟩, ⟨#[109, 111, 110, 103, 101]⟩, ⟨#[109, 105, 108, 107]⟩, ⟨#[100, 117, 99, 107]⟩, ⟨#[116, 117, 114, 110]⟩, ⟨#[117, 110, 100, 101, 114]⟩]
def moveName (kind : Int) : ByteArray := if 1 ≤ kind ∧ kind ≤ 9 then moveNames.getD (kind - 1).toNat ⟨#[]⟩ else ⟨#[]⟩
theorem moveName_size (kind : Int) : (moveName kind).size ≤ 5 := by
  unfold moveName
  split
  · rename_i h
    obtain ⟨n, hn⟩ : ∃ n : Nat, (kind - 1).toNat = n := ⟨_, rfl⟩
    have : n < 9 := by omega
    rw [hn]
    clear hn h
    revert n
    decide
  · decide
theorem s_MoveName_ev (kind : Int) : Ev (fun k => s_MoveName k kind) (moveName kind) := by
  refine Ev.step (fun k => s_MoveName_eq k kind) (Ev.bind (l01In_ev _ _ _) (Ev.ite (fun h => Ev.some ?_) (fun h => ?_)))
  · have : ¬ (1 ≤ kind ∧ kind ≤ 9) := by simp at h; omega
    rw [moveName, if_neg this]
  · have : 1 ≤ kind ∧ kind ≤ 9 := by simpa using h
    refine Ev.bind (Ev.step (fun k => s_l04Names_eq k) (Ev.pure _)) ?_
    refine Ev.yes (by simp; omega) (Ev.yes (by simp; omega) (Ev.yes (by simp; omega) (Ev.some ?_)))
    rw [moveName, if_pos this]
    obtain ⟨n, rfl⟩ : ∃ n : Nat, kind = (n : Int) + 1 := ⟨(kind - 1).toNat, by omega⟩
    have e1 : ((n : Int) + 1).toNat = n + 1 := by omega
    have e2 : ((n : Int) + 1 - 1).toNat = n := by omega
    rw [e1, e2, List.getD_cons_succ]
    rfl
theorem i_MoveName_ev (kind : Int) : Ev (fun k => i_MoveName k kind) (moveName kind) := by
  refine Ev.step (fun k => i_MoveName_eq k kind) (Ev.ite (fun h => Ev.some ?_) (fun h => Ev.ite (fun h2 => Ev.some ?_) (fun h2 => ?_)))
  · have : ¬ (1 ≤ kind ∧ kind ≤ 9) := by simp at h; omega
    rw [moveName, if_neg this]
  · have : ¬ (1 ≤ kind ∧ kind ≤ 9) := by simp at h2; omega
    rw [moveName, if_neg this]
  · have : 1 ≤ kind ∧ kind ≤ 9 := by simp at h h2; omega
    refine Ev.bind (Ev.step (fun k => i_moveNames_eq k) (Ev.pure _)) ?_
    rw [wrap_id (by omega) (by omega)]
    refine Ev.yes (by simp; omega) (Ev.yes (by simp; omega) (Ev.yes (by simp; omega) (Ev.some ?_)))
    rw [moveName, if_pos this]
    rfl
def formatMove (m : Int × Int) : ByteArray := if moveOk 12 m then (moveName m.1 ++ ⟨#[32]⟩) ++ itoaB m.2 else ⟨#[]⟩
theorem moveOk_fit {n : Int} {m : Int × Int} (h : moveOk n m = true) (hn : n = 12) : 0 ≤ m.2 ∧ m.2 ≤ 12 := by
  subst hn
  unfold moveOk at h
  simp only [Bool.and_eq_true, decide_eq_true_eq] at h
  obtain ⟨_, _, h3, h4⟩ := h
  refine ⟨h3, ?_⟩
  repeat (first | (split at h4) | (simp at h4; omega) | (simp at h4))
theorem s_FormatMove_ev (m : Int × Int) : Ev (fun k => s_FormatMove k m) (formatMove m) := by
  refine Ev.step (fun k => s_FormatMove_eq k m) (Ev.bind (s_MoveOk_ev 12 m) (Ev.ite (fun h => Ev.some ?_) (fun h => ?_)))
  · have : moveOk 12 m = false := by simpa using h
    simp [formatMove, this]
  · have e : moveOk 12 m = true := by simpa using h
    have hf := moveOk_fit e rfl
    have hi : In m.2 := by unfold In; omega
    have h1 := moveName_size m.1
    have h2 := itoaB_size m.2 hi
    refine Ev.bind (s_MoveName_ev m.1) (Ev.yes (by show decide ((moveName m.1).size + 1 ≤ _) = true; simp; omega) (Ev.bind (s_FormatInt_ev m.2 hi) (Ev.yes ?_ (Ev.some ?_))))
    · rw [ByteArray.size_append]
      show decide ((moveName m.1).size + 1 + _ ≤ _) = true
      simp; omega
    · simp [formatMove, e]
theorem i_FormatMove_ev (m : Int × Int) : Ev (fun k => i_FormatMove k m) (formatMove m) := by
  refine Ev.step (fun k => i_FormatMove_eq k m) (Ev.bind (i_MoveOk_ev 12 m) (Ev.ite (fun h => Ev.some ?_) (fun h => ?_)))
  · have : moveOk 12 m = false := by simpa using h
    simp [formatMove, this]
  · have e : moveOk 12 m = true := by simpa using h
    have hf := moveOk_fit e rfl
    have hi : In m.2 := by unfold In; omega
    have h1 := moveName_size m.1
    have h2 := itoaB_size m.2 hi
    refine Ev.bind (i_MoveName_ev m.1) (Ev.yes (by show decide ((moveName m.1).size + 1 ≤ _) = true; simp; omega) (Ev.bind (i_FormatInt_ev m.2 hi) (Ev.yes ?_ (Ev.some ?_))))
    · rw [ByteArray.size_append]
      show decide ((moveName m.1).size + 1 + _ ≤ _) = true
      simp; omega
    · simp [formatMove, e]
end Qq
namespace Qq
open Go Go.Vt Pt
set_option linter.unusedVariables false
theorem FnExactFormatMove_ev (m : Int × Int) (f0 : Fits (.pair (.int .i64) (.int .i64)) m) : Ev (fun k => w_FnExactFormatMove k m) true := by
  refine Ev.step (fun k => w_FnExactFormatMove_eq k m) (Ev.bind (toMove_ev m) (Ev.bind (s_FormatMove_ev m) (Ev.bind (toMove_ev m) (Ev.bind (i_FormatMove_ev m) (Ev.no (by simp) (Ev.pure _))))))
end Qq
