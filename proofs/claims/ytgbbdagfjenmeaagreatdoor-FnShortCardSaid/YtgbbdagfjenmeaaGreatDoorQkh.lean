/-
  The known tricks hold for all choices: the checker's answer, computed in a form that the kernel computes.
  Conditions: none.
-/
import Derived.Test.YtgbbdagfjenmeaaGreatDoorQvd
namespace Qq
open Go Go.Vt Pt
set_option linter.unusedVariables false
set_option linter.unusedSimpArgs false
set_option linter.unnecessarySimpa false
def fzF : Nat → Bool → List Int → List Int → List Int
 | 0, _, _, _ => []
 | _ + 1, _, [], [] => []
 | n + 1, f, x :: a, [] => x :: fzF n (!f) a []
 | n + 1, f, [], y :: b => y :: fzF n (!f) [] b
 | n + 1, true, x :: a, y :: b => x :: fzF n false a (y :: b)
 | n + 1, false, x :: a, y :: b => y :: fzF n true (x :: a) b
theorem fz_F : ∀ (n : Nat) (f : Bool) (a b : List Int), a.length + b.length < n → fz f a b = fzF n f a b
 | 0, f, a, b, h => by omega
 | n + 1, f, [], [], h => by unfold fz fzF; rfl
 | n + 1, f, x :: a, [], h => by unfold fz fzF; rw [fz_F n (!f) a [] (by simp at h ⊢; omega)]
 | n + 1, f, [], y :: b, h => by unfold fz fzF; rw [fz_F n (!f) [] b (by simp at h ⊢; omega)]
 | n + 1, true, x :: a, y :: b, h => by unfold fz fzF; rw [fz_F n false a (y :: b) (by simp at h ⊢; omega)]
 | n + 1, false, x :: a, y :: b, h => by unfold fz fzF; rw [fz_F n true (x :: a) b (by simp at h ⊢; omega)]
def moveV (p : List Int) (m : Int × Int) : List Int := if m.1 = 4 then fzF (p.length + 1) (m.2 == 0) (p.take (p.length / 2)) (p.drop (p.length / 2)) else xf p m
theorem Hx (p : List Int) (m : Int × Int) : xf p m = moveV p m := by
 unfold moveV
 by_cases h : m.1 = 4
 ·rw [if_pos h]
  unfold xf SY
  rw [if_neg (by omega), if_neg (by omega), if_neg (by omega), if_pos h]
  exact fz_F _ _ _ _ (by rw [List.length_take, List.length_drop]; omega)
 ·rw [if_neg h]
def insV (x : List Int) : Packs → Packs
 | [] => [x]
 | y :: r => if cmpI x y < 0 then x :: y :: r else if x = y then y :: r else y :: insV x r
def ssV : Packs → Bool
 | [] => true
 | x :: r => r.all (fun y => decide (cmpI x y < 0)) && ssV r
theorem Jt : ∀ {l : Packs}, ssV l = true → SS l
 | [], _ => List.Pairwise.nil
 | x :: r, h => by
   unfold ssV at h
   rw [Bool.and_eq_true, List.all_eq_true] at h
   exact List.pairwise_cons.2 ⟨fun y hy => of_decide_eq_true (h.1 y hy), Jt h.2⟩
def goodV (l m : Packs) : Bool := ssV m && (m.all (fun a => l.contains a) && l.all (fun a => m.contains a))
def setV (l : Packs) : Packs := if goodV l (l.foldr insV []) = true then l.foldr insV [] else setL l
theorem HQ (l : Packs) : setL l = setV l := by
 unfold setV
 split
 ·rename_i h
  unfold goodV at h
  simp only [Bool.and_eq_true, List.all_eq_true, List.contains_iff_mem] at h
  exact (Sa (Jt h.1) (fun z => ⟨h.2.1 z, h.2.2 z⟩)).symm
 ·rfl
def nextV (c : Scene) (s : zz) : List Scene :=
 if s.1 = 1 then [(moveV c.1 s.2.1, c.2)] else if s.1 = 3 then [(c.1, card (c.1.getD s.2.2.toNat 0))] else (setV (yT c.1 s.2.2)).map fun q => (q, c.2)
theorem Hw (c : Scene) (s : zz) : zm c s = nextV c s := by
 unfold zm nextV
 rw [Hx, HQ]
def goV (s : zz) : List Way → List Way → List Way
 | [], acc => acc
 | c :: r, acc => goV s r (addP s c.2 0 (nextV c.1 s) acc)
theorem go_V (s : zz) : ∀ (l acc : List Way), goP s l acc = goV s l acc
 | [], acc => rfl
 | c :: r, acc => by unfold goP goV; rw [Hw, go_V s r]
def endsV : List zz → List Way → Option (List Way)
 | [], l => some l
 | s :: r, l => if (goV s l []).length ≤ 3000 then endsV r (goV s l []) else none
theorem JA : ∀ (r : List zz) (l : List Way), uL r l = endsV r l
 | [], l => rfl
 | s :: r, l => by rw [wj, endsV, go_V, JA r]
def holdsV (t : Trick) : Bool := zi t && (match endsV t.2.1 (yj t) with | none => false | some A => A.all fun w => wt t w.1)
theorem J4 {t : Trick} (h : holdsV t = true) : xe t = true := by
 unfold holdsV at h
 rw [Bool.and_eq_true, ← JA] at h
 obtain ⟨h1, h2⟩ := h
 unfold xe
 rcases told t with ⟨h3, e⟩ | ⟨h3, ha, e⟩ | ⟨h3, A, ha, hh, e⟩ | ⟨h3, A, ha, w, hw, hb, hr, e⟩
 ·rw [h1] at h3; cases h3
 ·unfold wu at ha; rw [ha] at h2; cases h2
 ·rw [e]; rfl
 ·unfold wu at ha
  rw [ha] at h2
  have := List.all_eq_true.1 h2 w hw
  rw [hb] at this; cases this
def kn : Nat → Trick
 | 0 => (upTo 4, [(2, (0, 0), 4), (3, (0, 0), 0), (1, (1, 1), 0)], 1, 3, 0)
 | 1 => (upTo 4, [(2, (0, 0), 3), (2, (0, 0), 3), (1, (8, 1), 0), (1, (8, 3), 0)], 2, 2, 0)
 | 2 => (upTo 4, [(1, (4, 0), 0), (1, (4, 0), 0)], 4, 0, 0)
 | _ => (upTo 4, [(2, (0, 0), 4), (3, (0, 0), 0), (1, (7, 0), 0)], 1, 0, 0)
theorem kn_V : ∀ i : Fin 4, holdsV (kn i.val) = true := by decide +kernel
theorem WG (i : Fin 4) : xe (kn i.val) = true := J4 (kn_V i)
end Qq
