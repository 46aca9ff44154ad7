/-
  The console's lines come to what Qco tells: words, texts, claims, sessions.
  Conditions: the console is valid, texts are such as a machine bears.
-/
import Derived.Test.YtcpfklamgkilnaaGreatDoorQcw
namespace Qq
open Go Go.Vt Pt
set_option linter.unusedVariables false
set_option linter.unusedSimpArgs false
theorem JC {p : List Int} (hp : p.length ≤ 12) (hi : Ins p) (m : Int × Int) : Ev (fun k => TW k (p, m)) (vP reF p m) := by
 refine Ev.step (fun k => Nv k p m) (Ev.bind (xt p (yK (by omega)) hi) ?_)
 unfold vP
 cases h1 : zl p with
 | false => exact Ev.yes rfl (Ev.some rfl)
 | true =>
   refine Ev.no rfl (Ev.bind (cP _ m) ?_)
   cases h2 : vT p.length m with
   | false => exact Ev.yes rfl (Ev.some rfl)
   | true => exact Ev.no rfl (Ev.bind (fX p m (Wv h2) hi) (Ev.some rfl))
theorem Gu : ∀ n : Fin 13, zl (upTo n.val) = true := by decide +kernel
theorem Rr {n : Nat} (hn : n ≤ 12) : SceneOk n (upTo n, -1) := ⟨Gu ⟨n, by omega⟩, vI n, by show (-1 : Int) ≤ -1; decide, by show (-1 : Int) < 12; decide⟩
theorem RK {n : Nat} {m : Int × Int} (hn : n ≤ 12) (h : vT (n : Int) m = true) : SceneOk n (xz (upTo n) m, -1) := by
 have hs : yj (n : Int) (1, m, 0) = true := by
  unfold yj
  have hm := h
  unfold vT at hm
  simp only [Bool.and_eq_true, decide_eq_true_eq] at hm
  rw [if_pos rfl, h]
  simp [hm.1, hm.2.1]
 exact fy (Rr hn) hs (xz (upTo n) m, -1) (by unfold zm; rw [if_pos rfl]; simp)
theorem SI (p q : List Int) (hp : p.length ≤ 12) (hip : Ins p) (hq : q.length ≤ 12) (hiq : Ins q) : ∀ (r : List Int) (i : Nat), q.drop i = r → Ev (fun k => vb k p q (q.length : Int) (i : Int) ((q.take i).map fun x => pos p (card x))) (q.map fun x => pos p (card x), true)
 | [], i, h => by
   have a := zZ h
   refine Ev.step (fun k => gz k _ _ _ _ _) (Ev.no a.g (Ev.some ?_))
   rw [List.take_of_length_le a.ge]
 | x :: r, i, h => by
   have a := zy h (yK (by omega))
   have ih := SI p q hp hip hq hiq r (i + 1) a.next
   have e1 : (q.take (i + 1)).map (fun x => pos p (card x)) = (q.take i).map (fun x => pos p (card x)) ++ [pos p (card x)] := by
    rw [UM h, List.map_append]; rfl
   rw [e1] at ih
   refine Ev.step (fun k => gz k _ _ _ _ _) ?_
   simp only [a.g, a.z, a.get, a.w, cond_true]
   refine Ev.bind (xx x (hiq x a.mem)) (Ev.bind (gy p (card x) (yK (by omega)) hip) (Ev.yes ?_ ih))
   rw [zc]
   exact decide_eq_true (by simp; omega)
theorem Pn {n : Nat} (hn : n ≤ 12) (m : Int × Int) : Ev (fun k => ax k ((n : Int), m)) (permOf reF n m) := by
 refine Ev.step (fun k => TV k _ _) (Ev.bind (cP _ m) ?_)
 unfold permOf
 cases h : vT (n : Int) m with
 | false => exact Ev.yes rfl (Ev.some rfl)
 | true =>
   have hu := Xr n (by omega)
   have hl := vI n
   have hf := Wv h
   obtain ⟨f1, f2⟩ := uu (c := (upTo n, -1)) (by rw [hl]; exact Rr hn)
   have hs := RK hn h
   have h12 : (xz (upTo n) m).length ≤ 12 := by have := hs.len; dsimp only at this; omega
   have hi2 := zL hs.ok
   dsimp only at f1 f2 hi2
   refine Ev.no rfl (Ev.bind hu (Ev.bind hu (Ev.bind (fX (upTo n) m (by rw [hl]; exact hf) f2) (Ev.bind (Ev.step (fun k => V9 k _ _) (Ev.bind (ff (upTo n) (xz (upTo n) m) (yK (by omega)) f2 (yK (by omega)) hi2) ?_)) (Ev.some rfl)))))
   show Ev _ (if Ww (upTo n) (xz (upTo n) m) then ((xz (upTo n) m).map fun x => pos (upTo n) (card x), true) else ([], false))
   cases Ww (upTo n) (xz (upTo n) m) with
   | false => exact Ev.yes rfl (Ev.pure _)
   | true => exact Ev.no rfl (SI (upTo n) (xz (upTo n) m) f1 f2 h12 hi2 _ 0 rfl)
theorem HV {c : Cn} (hc : CnOk c) (ws : List ByteArray) (hw : ∀ a ∈ ws, a.size ≤ 1048576) : Ev (fun k => jy k (c, ws)) (sw (c, cyclesC reF c ws)) := by
 obtain ⟨s1, s2⟩ := uu hc.sc
 refine Ev.step (fun k => YO k c ws) ?_
 unfold cyclesC
 by_cases h : ws.length = 2
 ·rw [if_pos h]
  have g1 : ws.getD 1 ⟨#[]⟩ ∈ ws := by
   rw [List.getD, List.getElem?_eq_getElem (by omega)]; exact List.getElem_mem _
  refine Ev.no (by simp [h]) (Ev.yes (by rw [h]; rfl) (Ev.bind (xZ _ (hw _ g1)) ?_))
  cases e : (yJ (ws.getD 1 ⟨#[]⟩)).2 with
  | false => exact Ev.yes rfl (Ev.some rfl)
  | true =>
    refine Ev.no rfl (Ev.yes (by rw [h]; rfl) (Ev.bind (Ya _) (Ev.bind (Pn s1 _) ?_)))
    cases e2 : (permOf reF c.2.1.length (wY (ws.getD 0 ⟨#[]⟩), (yJ (ws.getD 1 ⟨#[]⟩)).1)).2 with
    | false => exact Ev.yes rfl (Ev.some rfl)
    | true =>
      refine Ev.no rfl (Ev.bind (T6 _ (yK ?_)) (Ev.some rfl))
      unfold permOf
      split
      ·rename_i hm
       split
       ·have := (RK s1 hm).len
        dsimp only at this
        show ((xz (upTo c.2.1.length) _).map _).length ≤ _
        rw [List.length_map, this]; omega
       ·exact Nat.zero_le _
      ·exact Nat.zero_le _
 ·rw [if_neg h]
  exact Ev.yes (by simp; omega) (Ev.some rfl)
theorem Te (s : ByteArray) : Ins (yx s).1 := by
 unfold yx
 split
 ·intro x hx; cases hx
 ·cases allO SV (cutB s) with
  | none => intro x hx; cases hx
  | some ys =>
    show Ins (if zl ([] ++ ys) = true then ([] ++ ys, true) else ([], false)).1
    rw [List.nil_append]
    by_cases h : zl ys = true
    ·rw [if_pos h]; exact zL h
    ·rw [if_neg h]; intro x hx; cases hx
theorem FZ {c : Cn} (hc : CnOk c) (w r : ByteArray) (hr : r.size ≤ 1048576) : Ev (fun k => wg k (c, w, r)) (sw (Qp reF c w r)) := by
 obtain ⟨q1, q2, q3, hp⟩ := zu hc.tr
 obtain ⟨s1, s2⟩ := uu hc.sc
 refine Ev.step (fun k => WS k c w r) ?_
 unfold Qp
 simp only [zU]
 by_cases h1 : w = ⟨#[112, 97, 99, 107, 101, 116]⟩
 ·rw [if_pos h1]
  have hl := Td r
  have hi := Te r
  refine Ev.yes (decide_eq_true h1) (Ev.bind (Ua r hr) ?_)
  cases e : (yx r).2 with
  | false => exact Ev.yes rfl (Ev.some rfl)
  | true =>
    refine Ev.no rfl (Ev.bind (Mj c ((yx r).1, [], 0, 0, 0) (yK (by dsimp only; omega)) hi (Nat.zero_le _)) ?_)
    unfold jL
    by_cases ht : zi ((yx r).1, [], 0, 0, 0) = true
    ·rw [if_pos ht, if_pos rfl, if_pos ht]
     refine Ev.yes (decide_eq_true rfl) (Ev.bind (jT ((yx r).1, [], 0, 0, 0) (yK (by dsimp only; omega)) hi (Nat.zero_le _)) (Ev.some ?_))
     unfold ur
     rw [if_pos ht]; rfl
    ·rw [if_neg ht, if_pos rfl, if_neg ht]
     exact Ev.no (decide_eq_false (show ¬ YA = ⟨#[111, 107]⟩ by decide)) (Ev.some rfl)
 ·rw [if_neg h1]
  refine Ev.no (decide_eq_false h1) ?_
  by_cases h2 : w = ⟨#[115, 116, 101, 112]⟩
  ·rw [if_pos h2]
   refine Ev.yes (decide_eq_true h2) (Ev.bind (Re r hr) ?_)
   show Ev _ (sw (if (yY r).2.2.2.2 then jL c (c.1.1, c.1.2.1 ++ [((yY r).1, ((yY r).2.1, (yY r).2.2.1), (yY r).2.2.2.1)], c.1.2.2) else (c, unkB)))
   cases e : (yY r).2.2.2.2 with
   | false => exact Ev.yes rfl (Ev.some rfl)
   | true =>
     refine Ev.no rfl (Ev.bind (jk c.1 (by omega) (by omega)) (Ev.yes ?_ (Ev.bind (Mj c (c.1.1, c.1.2.1 ++ [((yY r).1, ((yY r).2.1, (yY r).2.2.1), (yY r).2.2.2.1)], c.1.2.2) (yK (by dsimp only; omega)) (zL hp) (yK (by simp; omega))) (Ev.some rfl))))
     rw [zc]
     exact decide_eq_true (by simp; omega)
  ·rw [if_neg h2]
   refine Ev.no (decide_eq_false h2) (Ev.bind (Z7 r hr) ?_)
   cases e : (zI r).2.2 with
   | false => exact Ev.yes rfl (Ev.some rfl)
   | true =>
     refine Ev.no rfl (Ev.bind (JC s1 s2 _) (Ev.bind (JU c ((vP reF c.2.1 ((zI r).1, (zI r).2.1)).1, c.2.2, (vP reF c.2.1 ((zI r).1, (zI r).2.1)).2) (fun e2 => ?_)) (Ev.some rfl)))
     obtain ⟨t1, t2⟩ := uu (c := ((vP reF c.2.1 ((zI r).1, (zI r).2.1)).1, c.2.2)) (Xe hc.sc e2)
     exact ⟨yK (by dsimp only at t1 ⊢; omega), t2⟩
theorem LD {t : Trick} (h : zi t = true) : Ev (fun k => jc k t) (xb t) ∧ Ev (fun k => jE k (xb t, (⟨#[59]⟩ : ByteArray))) (xw (xb t) semi) := by
 obtain ⟨q1, q2, q3, hp⟩ := zu h
 obtain ⟨ca, cb⟩ := N1 h
 refine ⟨TN t (yK (by omega)) (zL hp) (yK (by omega)) ca cb, cR _ semi ?_ ?_⟩
 ·have := P9 h; omega
 ·have := Wp h; omega
theorem GH {t : Trick} (e : (yG t).2.2.2.2.2 = true) : zi ((yG t).1, (yG t).2.1, (yG t).2.2.1, (yG t).2.2.2.1, (yG t).2.2.2.2.1) = true := by
 unfold yG at e ⊢
 split at e
 ·rename_i hh
  rw [if_pos hh]
  exact (gL (UU hh)).1
 ·cases e
theorem FV {c : Cn} (hc : CnOk c) (w : ByteArray) : Ev (fun k => fH k (c, w)) (sw (Ps reF c w)) := by
 obtain ⟨q1, q2, q3, hp⟩ := zu hc.tr
 refine Ev.step (fun k => WR k c w) ?_
 unfold Ps
 simp only [zU]
 by_cases h1 : w = ⟨#[99, 104, 101, 99, 107]⟩
 ·rw [if_pos h1]
  exact Ev.yes (decide_eq_true h1) (Ev.bind (V4 c.1 (yK (by omega)) (zL hp) (yK (by omega))) (Ev.some rfl))
 ·rw [if_neg h1]
  refine Ev.no (decide_eq_false h1) ?_
  by_cases h2 : w = ⟨#[115, 104, 111, 114, 116]⟩
  ·rw [if_pos h2]
   refine Ev.yes (decide_eq_true h2) (Ev.bind (WH c.1 (by omega) (zL hp) (by omega)) ?_)
   by_cases e : (yG c.1).2.2.2.2.2 = true
   ·have e' : (reF.sh c.1).2.2.2.2.2 = true := e
    rw [if_pos e']
    obtain ⟨a1, a2⟩ := LD (GH e)
    refine Ev.no (by rw [e]; rfl) (Ev.bind a1 (Ev.bind a2 (Ev.some rfl)))
   ·have e' : ¬ (reF.sh c.1).2.2.2.2.2 = true := e
    rw [if_neg e']
    have : (yG c.1).2.2.2.2.2 = false := by simpa using e
    exact Ev.yes (by rw [this]; rfl) (Ev.some rfl)
  ·rw [if_neg h2]
   refine Ev.no (decide_eq_false h2) ?_
   by_cases h3 : w = ⟨#[115, 104, 111, 119]⟩
   ·rw [if_pos h3]
    obtain ⟨a1, a2⟩ := LD hc.tr
    exact Ev.yes (decide_eq_true h3) (Ev.bind a1 (Ev.bind a2 (Ev.some rfl)))
   ·rw [if_neg h3]
    exact Ev.no (decide_eq_false h3) (Ev.some rfl)
end Qq
