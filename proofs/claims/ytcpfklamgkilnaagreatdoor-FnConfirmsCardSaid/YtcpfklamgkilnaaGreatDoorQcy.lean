/-
  The console's claims, lines and sessions come to what Qco tells.
  Conditions: the console is valid, texts are such as a machine bears.
-/
import Derived.Test.YtcpfklamgkilnaaGreatDoorQcx
namespace Qq
open Go Go.Vt Pt
set_option linter.unusedVariables false
set_option linter.unusedSimpArgs false
def Sv (c : Cn) (ws : List ByteArray) (l : List Int) : Cn × ByteArray :=
 if ws.length = 0 then jL c (c.1.1, c.1.2.1, 0, 0, 0) else
 if ws.headD ⟨#[]⟩ = ⟨#[110, 111, 116, 101, 100]⟩ ∧ ws.length = 2 then jL c (c.1.1, c.1.2.1, 1, l.getD 0 0, 0) else
 if ws.headD ⟨#[]⟩ = ⟨#[117, 112]⟩ ∧ ws.length = 2 then jL c (c.1.1, c.1.2.1, 2, l.getD 0 0, 0) else
 if ws.headD ⟨#[]⟩ = ⟨#[99, 97, 114, 100]⟩ ∧ ws.length = 3 then jL c (c.1.1, c.1.2.1, 3, l.getD 0 0, l.getD 1 0) else
 if ws.headD ⟨#[]⟩ = ⟨#[111, 114, 100, 101, 114]⟩ ∧ ws.length = 1 then jL c (c.1.1, c.1.2.1, 4, 0, 0) else (c, unkB)
theorem Fo (c : Cn) (ws : List ByteArray) : X6 c ws = match V2 ws.tail with | none => (c, unkB) | some l => Sv c ws l := by
 unfold X6 Sv; rfl
theorem UC (c : Cn) (a : ByteArray) (t : List ByteArray) (l : List Int) : Sv c (a :: t) l =
 bif decide (a = ⟨#[110, 111, 116, 101, 100]⟩) && decide (t.length = 1) then jL c (c.1.1, c.1.2.1, 1, l.getD 0 0, 0) else
 bif decide (a = ⟨#[117, 112]⟩) && decide (t.length = 1) then jL c (c.1.1, c.1.2.1, 2, l.getD 0 0, 0) else
 bif decide (a = ⟨#[99, 97, 114, 100]⟩) && decide (t.length = 2) then jL c (c.1.1, c.1.2.1, 3, l.getD 0 0, l.getD 1 0) else
 bif decide (a = ⟨#[111, 114, 100, 101, 114]⟩) && decide (t.length = 0) then jL c (c.1.1, c.1.2.1, 4, 0, 0) else (c, unkB) := by
 unfold Sv
 rw [if_neg (by simp)]
 simp only [List.headD_cons, List.length_cons, Nat.reduceEqDiff, Bool.cond_eq_ite, Bool.and_eq_true, decide_eq_true_eq]
theorem cZ (a : ByteArray) : ∃ b1 b2 b3 b4 : Bool, decide (a = ⟨#[110, 111, 116, 101, 100]⟩) = b1 ∧ decide (a = ⟨#[117, 112]⟩) = b2 ∧ decide (a = ⟨#[99, 97, 114, 100]⟩) = b3 ∧ decide (a = ⟨#[111, 114, 100, 101, 114]⟩) = b4 ∧ (b1 && b2 || (b1 && b3 || (b1 && b4 || (b2 && b3 || (b2 && b4 || b3 && b4))))) = false := by
 refine ⟨_, _, _, _, rfl, rfl, rfl, rfl, ?_⟩
 by_cases h1 : a = ⟨#[110, 111, 116, 101, 100]⟩
 ·subst h1; decide
 by_cases h2 : a = ⟨#[117, 112]⟩
 ·subst h2; decide
 by_cases h3 : a = ⟨#[99, 97, 114, 100]⟩
 ·subst h3; decide
 by_cases h4 : a = ⟨#[111, 114, 100, 101, 114]⟩
 ·subst h4; decide
 rw [decide_eq_false h1, decide_eq_false h2, decide_eq_false h3, decide_eq_false h4]; rfl
theorem VP {c : Cn} (hc : CnOk c) (ws : List ByteArray) (l : List Int) (hl : l.length = ws.length - 1) :
 Ev (fun k => yS k ws ws (ws.length : Int) (ws.length : Int) l c.1.1 c.1.2.1 c.1.2.2.1 c.1.2.2.2.1 c.1.2.2.2.2 c.2.1 c.2.2) (sw (Sv c ws l)) := by
 obtain ⟨q1, q2, q3, hp⟩ := zu hc.tr
 refine Ev.step (fun k => wA k _ _ _ _ _ _ _ _ _ _ _ _) (Ev.no (decide_eq_false (Int.lt_irrefl _)) (Ev.bind (jk c.1 (by omega) (by omega)) ?_))
 have tk : ∀ (t2 t3 t4 : Int), Ev (fun k => (ze k (c, (c.1.1, c.1.2.1, t2, t3, t4))).bind fun y => some (y.1, y.2)) (sw (jL c (c.1.1, c.1.2.1, t2, t3, t4))) :=
  fun t2 t3 t4 => Ev.bind (Mj c (c.1.1, c.1.2.1, t2, t3, t4) (yK (by dsimp only; omega)) (zL hp) (yK (by dsimp only; omega))) (Ev.some rfl)
 have un : Ev (fun _ : Nat => some ((⟨#[117, 110, 107, 110, 111, 119, 110, 32, 99, 111, 109, 109, 97, 110, 100]⟩ : ByteArray), c)) (sw (c, unkB)) := Ev.some rfl
 simp only [zU]
 match ws, l, hl with
 | [], [], _ => exact Ev.yes rfl (tk 0 0 0)
 | [a], [], _ =>
   rw [UC]
   refine Ev.no rfl (Ev.yes rfl ?_)
   obtain ⟨b1, b2, b3, b4, e1, e2, e3, e4, ex⟩ := cZ a
   simp only [List.getD_cons_zero, e1, e2, e3, e4]
   cases b1 <;> cases b2 <;> cases b3 <;> cases b4 <;> first | (cases ex; done) | skip
   all_goals (repeat' (first | exact un | exact tk 4 0 0 | refine Ev.yes rfl ?_ | refine Ev.no rfl ?_))
 | [a, b], [x], _ =>
   rw [UC]
   refine Ev.no rfl (Ev.yes rfl ?_)
   obtain ⟨b1, b2, b3, b4, e1, e2, e3, e4, ex⟩ := cZ a
   simp only [List.getD_cons_zero, e1, e2, e3, e4]
   cases b1 <;> cases b2 <;> cases b3 <;> cases b4 <;> first | (cases ex; done) | skip
   all_goals (repeat' (first | exact un | exact tk 1 x 0 | exact tk 2 x 0 | refine Ev.both ?_ ?_ | refine Ev.yes rfl ?_ | refine Ev.no rfl ?_))
 | [a, b, d], [x, y], _ =>
   rw [UC]
   refine Ev.no rfl (Ev.yes rfl ?_)
   obtain ⟨b1, b2, b3, b4, e1, e2, e3, e4, ex⟩ := cZ a
   simp only [List.getD_cons_zero, e1, e2, e3, e4]
   cases b1 <;> cases b2 <;> cases b3 <;> cases b4 <;> first | (cases ex; done) | skip
   all_goals (repeat' (first | exact un | exact tk 3 x y | refine Ev.both ?_ ?_ | refine Ev.yes rfl ?_ | refine Ev.no rfl ?_))
 | a :: b :: d :: g :: r, l, _ =>
   rw [UC]
   have n1 : (((a :: b :: d :: g :: r).length : Int) == 1) = false := by simp; omega
   have n2 : (((a :: b :: d :: g :: r).length : Int) == 2) = false := by simp; omega
   have n3 : (((a :: b :: d :: g :: r).length : Int) == 3) = false := by simp; omega
   have n0 : (((a :: b :: d :: g :: r).length : Int) == 0) = false := by simp; omega
   have np : decide (0 < ((a :: b :: d :: g :: r).length : Int)) = true := decide_eq_true (by simp; omega)
   have m0 : decide ((b :: d :: g :: r).length = 0) = false := decide_eq_false (by simp)
   have m1 : decide ((b :: d :: g :: r).length = 1) = false := decide_eq_false (by simp)
   have m2 : decide ((b :: d :: g :: r).length = 2) = false := decide_eq_false (by simp)
   obtain ⟨b1, b2, b3, b4, e1, e2, e3, e4, ex⟩ := cZ a
   simp only [List.getD_cons_zero, e1, e2, e3, e4, n0, n1, n2, n3, np, m0, m1, m2, Bool.and_false, cond_true, cond_false]
   cases b1 <;> cases b2 <;> cases b3 <;> cases b4 <;> first | (cases ex; done) | exact un
theorem Su {c : Cn} (hc : CnOk c) (ws : List ByteArray) (hn : ws.length ≤ 1048576) (hz : ∀ a ∈ ws, a.size ≤ 1048576) : ∀ (r : List ByteArray) (i : Nat) (acc : List Int), ws.drop i = r → 1 ≤ i → i ≤ ws.length → acc.length + 1 = i →
 Ev (fun k => yS k ws ws (ws.length : Int) (i : Int) acc c.1.1 c.1.2.1 c.1.2.2.1 c.1.2.2.2.1 c.1.2.2.2.2 c.2.1 c.2.2) (sw (match V2 r with | none => (c, unkB) | some l => Sv c ws (acc ++ l)))
 | [], i, acc, h, h1, hi, ha => by
   have a := zZ h
   have e : i = ws.length := Nat.le_antisymm hi a.ge
   subst e
   refine (VP hc ws acc (by omega)).to ?_
   show _ = sw (Sv c ws (acc ++ []))
   rw [List.append_nil]
 | x :: r, i, acc, h, h1, hi, ha => by
   have a := zy h (yK hn)
   have lt := a.lt
   refine Ev.step (fun k => wA k _ _ _ _ _ _ _ _ _ _ _ _) ?_
   simp only [a.g, a.z, a.get, a.w, cond_true]
   refine Ev.no (by simp; omega) (Ev.bind (xZ x (hz x a.mem)) ?_)
   unfold V2
   cases e : (yJ x).2 with
   | false => exact Ev.yes rfl (Ev.some rfl)
   | true =>
     refine Ev.no rfl (Ev.yes ?_ ?_)
     ·rw [zc]
      exact decide_eq_true (by simp; omega)
     ·refine (Su hc ws hn hz r (i + 1) (acc ++ [(yJ x).1]) a.next (by omega) (by omega) (by simp; omega)).to ?_
      rw [if_pos rfl]
      cases V2 r with
      | none => rfl
      | some l => simp
theorem Fn {c : Cn} (hc : CnOk c) (ws : List ByteArray) (hn : ws.length ≤ 1048576) (hz : ∀ a ∈ ws, a.size ≤ 1048576) : Ev (fun k => gI k (c, ws)) (sw (X6 c ws)) := by
 refine Ev.step (fun k => XO k c ws) ?_
 rw [Fo]
 cases ws with
 | nil => exact VP hc [] [] rfl
 | cons x r =>
   have a := zy (xs := x :: r) (i := 0) rfl (yK hn)
   refine Ev.step (fun k => wA k _ _ _ _ _ _ _ _ _ _ _ _) (Ev.yes (decide_eq_true (by rw [List.length_cons]; omega)) (Ev.yes rfl (Ev.yes (decide_eq_true (by rw [List.length_cons]; omega)) (Ev.yes rfl ?_))))
   exact Su hc (x :: r) hn hz r 1 [] rfl (Nat.le_refl _) (by rw [List.length_cons]; omega) rfl
theorem Tk {c : Cn} (hc : CnOk c) (ws xs : List ByteArray) (hws : 0 < ws.length) (hx : xs.length ≤ 1048576) (hz : ∀ a ∈ xs, a.size ≤ 1048576) : ∀ (r : List ByteArray) (i : Nat) (acc : List Int), xs.drop i = r → i ≤ xs.length → acc.length = i →
 Ev (fun k => zW k ws xs (xs.length : Int) (i : Int) acc c.1.1 c.1.2.1 c.1.2.2.1 c.1.2.2.2.1 c.1.2.2.2.2 c.2.1 c.2.2) (sw (match V2 r with | some l => vS reF c (ws.getD 0 ⟨#[]⟩) (acc ++ l) | none => (c, unkB)))
 | [], i, acc, h, hi, ha => by
   have a := zZ h
   refine Ev.step (fun k => vA k _ _ _ _ _ _ _ _ _ _ _ _) (Ev.no a.g (Ev.yes (decide_eq_true (by omega)) (Ev.bind (KW hc (ws.getD 0 ⟨#[]⟩) acc (by omega)) (Ev.some ?_))))
   show (_, _) = sw (vS reF c (ws.getD 0 ⟨#[]⟩) (acc ++ []))
   rw [List.append_nil]
 | x :: r, i, acc, h, hi, ha => by
   have a := zy h (yK hx)
   have lt := a.lt
   refine Ev.step (fun k => vA k _ _ _ _ _ _ _ _ _ _ _ _) ?_
   simp only [a.g, a.z, a.get, a.w, cond_true]
   refine Ev.bind (xZ x (hz x a.mem)) ?_
   unfold V2
   cases e : (yJ x).2 with
   | false => exact Ev.yes rfl (Ev.some rfl)
   | true =>
     refine Ev.no rfl (Ev.yes ?_ ?_)
     ·rw [zc]
      exact decide_eq_true (by simp; omega)
     ·refine (Tk hc ws xs hws hx hz r (i + 1) (acc ++ [(yJ x).1]) a.next (by omega) (by simp; omega)).to ?_
      rw [if_pos rfl]
      cases V2 r with
      | none => rfl
      | some l => simp
theorem Jb (c : Cn) {line w : ByteArray} {r : List ByteArray} (h : cutB line = w :: r) : NH reF c line =
 if w = ⟨#[112, 97, 99, 107, 101, 116]⟩ ∨ w = ⟨#[115, 116, 101, 112]⟩ ∨ w = ⟨#[100, 111]⟩ then Qp reF c w (xw r sp) else
 if w = ⟨#[99, 108, 97, 105, 109]⟩ then X6 c r else
 if w = ⟨#[99, 121, 99, 108, 101, 115]⟩ then (c, cyclesC reF c r) else
 if w = ⟨#[112, 108, 97, 121]⟩ ∨ w = ⟨#[102, 97, 114, 111]⟩ ∨ w = ⟨#[103, 117, 101, 115, 115]⟩ then (match V2 r with | some l => vS reF c w l | none => (c, unkB)) else
 if 0 < r.length then (c, unkB) else Ps reF c w := by
 unfold NH; rw [h]; rfl
theorem Et {c : Cn} (hc : CnOk c) (line : ByteArray) (hl : line.size ≤ 1048576) : Ev (fun k => uB k (c, line)) (sw (NH reF c line)) := by
 have hz : ∀ a ∈ cutB line, a.size ≤ 1048576 := fun a ha => by have := Sq line a ha; omega
 have hcl := Ki line
 have hrs := J3 line
 refine Ev.step (fun k => ZE k c line) (Ev.bind (cF line hl) ?_)
 simp only [zU]
 cases hcut : cutB line with
 | nil => exact absurd hcut (Gt line)
 | cons w r =>
   rw [hcut] at hz hcl hrs
   rw [List.length_cons] at hcl
   have e1 : ((w :: r).take (((w :: r).length : Int)).toNat).drop 1 = r := by rw [Int.toNat_natCast, List.take_length]; rfl
   have hzr : ∀ a ∈ r, a.size ≤ 1048576 := fun a ha => hz a (List.mem_cons_of_mem _ ha)
   have np : decide (0 < ((w :: r).length : Int)) = true := decide_eq_true (by rw [List.length_cons]; omega)
   have np1 : decide (1 ≤ ((w :: r).length : Int)) = true := decide_eq_true (by rw [List.length_cons]; omega)
   have np2 : decide (((w :: r).length : Int) ≤ ((w :: r).length : Int)) = true := decide_eq_true (Int.le_refl _)
   simp only [e1, np, np1, np2, List.getD_cons_zero, cond_true]
   rw [Jb c hcut]
   have jn : Ev (fun k => jE k (r, (⟨#[32]⟩ : ByteArray))) (xw r sp) := cR r sp (by omega) (by have := hrs; dsimp only [List.tail_cons] at this; omega)
   have tx : Ev (fun k => (jE k (r, (⟨#[32]⟩ : ByteArray))).bind fun y2 => (wg k (c, w, y2)).bind fun y3 => some (y3.1, y3.2)) (sw (Qp reF c w (xw r sp))) :=
    Ev.bind jn (Ev.bind (FZ hc w (xw r sp) (by dsimp only [List.tail_cons] at hrs; omega)) (Ev.some rfl))
   have nm : Ev (fun k => zW k (w :: r) r (r.length : Int) 0 [] c.1.1 c.1.2.1 c.1.2.2.1 c.1.2.2.2.1 c.1.2.2.2.2 c.2.1 c.2.2) (sw (match V2 r with | some l => vS reF c w l | none => (c, unkB))) :=
    Tk hc (w :: r) r (by rw [List.length_cons]; omega) (by omega) hzr r 0 [] rfl (Nat.zero_le _) rfl
   by_cases h1 : w = ⟨#[112, 97, 99, 107, 101, 116]⟩
   ·rw [if_pos (show w = ⟨#[112, 97, 99, 107, 101, 116]⟩ ∨ w = ⟨#[115, 116, 101, 112]⟩ ∨ w = ⟨#[100, 111]⟩ from .inl h1)]; exact Ev.yes (decide_eq_true h1) tx
   refine Ev.no (decide_eq_false h1) ?_
   by_cases h2 : w = ⟨#[115, 116, 101, 112]⟩
   ·rw [if_pos (show w = ⟨#[112, 97, 99, 107, 101, 116]⟩ ∨ w = ⟨#[115, 116, 101, 112]⟩ ∨ w = ⟨#[100, 111]⟩ from .inr (.inl h2))]; exact Ev.yes (decide_eq_true h2) tx
   refine Ev.no (decide_eq_false h2) ?_
   by_cases h3 : w = ⟨#[100, 111]⟩
   ·rw [if_pos (show w = ⟨#[112, 97, 99, 107, 101, 116]⟩ ∨ w = ⟨#[115, 116, 101, 112]⟩ ∨ w = ⟨#[100, 111]⟩ from .inr (.inr h3))]; exact Ev.yes (decide_eq_true h3) tx
   refine Ev.no (decide_eq_false h3) ?_
   rw [if_neg (show ¬ (w = ⟨#[112, 97, 99, 107, 101, 116]⟩ ∨ w = ⟨#[115, 116, 101, 112]⟩ ∨ w = ⟨#[100, 111]⟩) from fun x => by rcases x with x | x | x; exact h1 x; exact h2 x; exact h3 x)]
   by_cases h4 : w = ⟨#[99, 108, 97, 105, 109]⟩
   ·rw [if_pos h4]; exact Ev.yes (decide_eq_true h4) (Ev.bind (Fn hc r (by omega) hzr) (Ev.some rfl))
   rw [if_neg h4]
   refine Ev.no (decide_eq_false h4) ?_
   by_cases h5 : w = ⟨#[99, 121, 99, 108, 101, 115]⟩
   ·rw [if_pos h5]; exact Ev.yes (decide_eq_true h5) (Ev.bind (HV hc r hzr) (Ev.some rfl))
   rw [if_neg h5]
   refine Ev.no (decide_eq_false h5) ?_
   by_cases h6 : w = ⟨#[112, 108, 97, 121]⟩
   ·rw [if_pos (show w = ⟨#[112, 108, 97, 121]⟩ ∨ w = ⟨#[102, 97, 114, 111]⟩ ∨ w = ⟨#[103, 117, 101, 115, 115]⟩ from .inl h6)]; exact Ev.yes (decide_eq_true h6) nm
   refine Ev.no (decide_eq_false h6) ?_
   by_cases h7 : w = ⟨#[102, 97, 114, 111]⟩
   ·rw [if_pos (show w = ⟨#[112, 108, 97, 121]⟩ ∨ w = ⟨#[102, 97, 114, 111]⟩ ∨ w = ⟨#[103, 117, 101, 115, 115]⟩ from .inr (.inl h7))]; exact Ev.yes (decide_eq_true h7) nm
   refine Ev.no (decide_eq_false h7) ?_
   by_cases h8 : w = ⟨#[103, 117, 101, 115, 115]⟩
   ·rw [if_pos (show w = ⟨#[112, 108, 97, 121]⟩ ∨ w = ⟨#[102, 97, 114, 111]⟩ ∨ w = ⟨#[103, 117, 101, 115, 115]⟩ from .inr (.inr h8))]; exact Ev.yes (decide_eq_true h8) nm
   refine Ev.no (decide_eq_false h8) ?_
   rw [if_neg (show ¬ (w = ⟨#[112, 108, 97, 121]⟩ ∨ w = ⟨#[102, 97, 114, 111]⟩ ∨ w = ⟨#[103, 117, 101, 115, 115]⟩) from fun x => by rcases x with x | x | x; exact h6 x; exact h7 x; exact h8 x)]
   by_cases h9 : 0 < r.length
   ·rw [if_pos h9]; exact Ev.yes (decide_eq_true (by omega)) (Ev.some rfl)
   ·rw [if_neg h9]; exact Ev.no (decide_eq_false (by omega)) (Ev.bind (FV hc w) (Ev.some rfl))
def fl (p : Cn × ByteArray) : List Int × List Step × Int × Int × Int × List Int × Int × ByteArray := (p.1.1.1, p.1.1.2.1, p.1.1.2.2.1, p.1.1.2.2.2.1, p.1.1.2.2.2.2, p.1.2.1, p.1.2.2, p.2)
theorem Ql {c : Cn} (hc : CnOk c) (line : ByteArray) (hl : line.size ≤ 1048576) : Ev (fun k => XG k (c, line)) (fl (x7 reF c line)) := by
 obtain ⟨q1, q2, q3, hp⟩ := zu hc.tr
 obtain ⟨s1, s2⟩ := uu hc.sc
 refine Ev.step (fun k => Nu k c line) (Ev.bind (jk c.1 (by omega) (by omega)) (Ev.bind (Ev.step (fun k => Z0 k c.2) (Ev.bind (yc c.2.1 (by omega)) (Ev.pure _))) ?_))
 simp only [zU]
 unfold x7
 by_cases h1 : line = ⟨#[]⟩
 ·rw [if_pos (show line = ⟨#[]⟩ ∨ line.data.toList.headD 0 = 35 from .inl h1)]; exact Ev.yes (decide_eq_true h1) (Ev.some rfl)
 refine Ev.no (decide_eq_false h1) (Ev.yes (decide_eq_true ?_) ?_)
 ·have : line.size ≠ 0 := fun e => h1 (by
   apply ByteArray.ext
   apply Array.ext'
   have e2 : line.data.toList.length = 0 := by simpa using e
   rw [List.length_eq_zero_iff.1 e2])
  omega
 have e0 : line.data.toList.getD 0 0 = line.data.toList.headD 0 := by cases line.data.toList <;> rfl
 rw [e0]
 by_cases h2 : line.data.toList.headD 0 = 35
 ·rw [if_pos (show line = ⟨#[]⟩ ∨ line.data.toList.headD 0 = 35 from .inr h2), h2]; exact Ev.yes rfl (Ev.some rfl)
 ·rw [if_neg (show ¬ (line = ⟨#[]⟩ ∨ line.data.toList.headD 0 = 35) from fun x => by rcases x with x | x; exact h1 x; exact h2 x)]
  refine Ev.no ?_ (Ev.bind (Et hc line hl) (Ev.some rfl))
  have : ¬ ((line.data.toList.headD 0).toNat : Int) = 35 := fun e => h2 (by
   apply UInt8.toNat_inj.1
   have : (35 : UInt8).toNat = 35 := rfl
   omega)
  simpa using this
end Qq
