/-
  The law FnExactVerdictLine comes to true.
  Conditions: numbers and lengths are such as a machine bears.
-/
import Derived.Test.YtgbbdagfjenmeaaGreatDoorQvd
import Derived.Test.YtgbbdagfjenmeaaGreatDoorPB
namespace Qq
open Go Go.Vt Pt
set_option linter.unusedVariables false
set_option linter.unusedSimpArgs false
set_option linter.unnecessarySimpa false
theorem LI {n : Nat} : ∀ (r : List zI) (l A : List Way), (∀ s ∈ r, zP (n : Int) s = true) → af n l → (∀ c ∈ l, Ins c.2) → jQ r l = some A → ∀ w ∈ A, Ins w.2
 | [], l, A, hs, ho, hi, h, w, hw => by cases h; exact hi w hw
 | s :: r, l, A, hs, ho, hi, h, w, hw => by
   rw [wL] at h
   split at h
   ·refine LI r _ A (fun q hq => hs q (by simp [hq])) (Jz (hs s (by simp)) l [] ho (fun c hc => by cases hc)) (fun c hc => ?_) h w hw
    rcases NE s l [] c hc with hc | ⟨d, hd, i, hlt, e⟩
    ·cases hc
    ·rw [e]
     have h2 := (fo (ho d hd) (hs s (by simp))).2
     split
     ·intro x hx
      rcases List.mem_append.1 hx with hx | hx
      ·exact hi d hd x hx
      ·have : x = (i : Int) := by simpa using hx
       rw [this]; unfold In; omega
     ·exact hi d hd
   ·cases h
def cF (t : Trick) : ByteArray :=
 if (zK t).1 = 1 then ((⟨#[104, 111, 108, 100, 115, 32, 102, 111, 114, 32]⟩ : ByteArray) ++ vQ (yW t)) ++ ⟨#[32, 101, 110, 100, 115]⟩ else
 if (zK t).1 = 2 then (((⟨#[102, 97, 105, 108, 115, 32, 102, 111, 114, 32]⟩ : ByteArray) ++ yV (zK t).2.1) ++ ⟨#[32, 58, 32]⟩) ++ jX ((zK t).2.2.1, (zK t).2.2.2.1) else
 if (zK t).1 = 3 then ⟨#[116, 111, 111, 32, 109, 97, 110, 121]⟩ else ⟨#[]⟩
theorem fw (t : Trick) : In (yW t) := by
 unfold yW
 have := (Vo t).1
 split
 ·unfold In; omega
 ·unfold In; decide
theorem b8 {xs : List Int} (h : xs.length ≤ 12) (hi : Ins xs) : (yV xs).size ≤ 264 := by
 unfold yV
 split
 ·decide
 ·have := TR (B := 21) (S := 1) (⟨#[44]⟩ : ByteArray) (by decide) (xs.map vQ) (uH hi)
  rw [List.length_map] at this
  rw [WM, yG]
  omega
theorem YI (c : Scene) : (jX c).size ≤ 2028 := by
 unfold jX
 have sp := un c.1
 split
 ·split
  ·rename_i h
   exact eF (eF sp (n := 7) (by decide)) (x9 c.2 (by unfold In; omega))
  ·omega
 ·decide
theorem Ts (xs : List Int) (hm : xs.length ≤ 1048576) (hi : Ins xs) : Ev (fun k => cY k xs) (yV xs) :=
 Ev.step (fun k => Tt k xs) (gk xs hm hi xs 0 rfl)
theorem K9 {t : Trick} {c : Int} {ps p : List Int} {n : Int} {ok : Bool} (e : zK t = (c, ps, p, n, ok)) : ps.length ≤ 12 ∧ p.length ≤ 12 := by
 have := cg t
 rw [e] at this
 exact this
theorem LD {t : Trick} (h : zf t = true) {A : List Way} (ha : wl t = some A) {w : Way} (hw : w ∈ A) : Ins w.2 ∧ Ins w.1.1 := by
 have hs := yF h
 refine ⟨LI t.2.1 (zZ t) A hs.2 (vw h) (fun c hc => ?_) ha w hw, zQ (bA t.2.1 (zZ t) A hs.2 (vw h) ha w hw).ok⟩
 have e : c = ((t.1, -1), []) := by simpa [zZ] using hc
 rw [e]; intro x hx; cases hx
theorem TB (t : Trick) (a1 : t.1.length ≤ maxLen) (ai : Ins t.1) (a2 : t.2.1.length ≤ maxLen) : Ev (fun k => bp k t) (cF t) := by
 unfold cF
 refine Ev.step (fun k => TC k t) (Ev.bind (wx t a1 ai a2) ?_)
 have hci := x9 _ (fw t)
 rcases told t with ⟨h1, e⟩ | ⟨h1, ha, e⟩ | ⟨h1, A, ha, hh, e⟩ | ⟨h1, A, ha, w, hw, hb, hr, e⟩
 ·rw [e]; exact Ev.no rfl (Ev.no rfl (Ev.no rfl (Ev.pure _)))
 ·rw [e]; exact Ev.no rfl (Ev.no rfl (Ev.yes rfl (Ev.pure _)))
 ·rw [e]
  exact Ev.yes rfl (Ev.bind (uF t a1 ai a2) (Ev.bind (wY _ (fw t)) (Ev.yes (Yu (m := 10) (by decide) hci (by decide)) (Ev.yes (Yu (n := 5) (eF (m := 10) (by decide) hci) (by decide) (by decide)) (Ev.pure _)))))
 ·obtain ⟨f1, f2⟩ := K9 e
  obtain ⟨i1, i2⟩ := LD h1 ha hw
  have hp := b8 f1 i1
  have hs := YI (w.1.1, w.1.2)
  rw [e]
  exact Ev.no rfl (Ev.yes rfl (Ev.bind (b7 w.2 (by omega) i1) (Ev.yes (Yu (m := 10) (by decide) hp (by decide)) (Ev.yes (Yu (n := 3) (eF (m := 10) (by decide) hp) (by decide) (by decide)) (Ev.bind (QI (w.1.1, w.1.2) (by show w.1.1.length ≤ _; rw [zc]; omega) i2) (Ev.yes (Yu (eF (n := 3) (eF (m := 10) (by decide) hp) (by decide)) hs (by decide)) (Ev.pure _)))))))
theorem Tp (t : Trick) (a1 : t.1.length ≤ maxLen) (a2 : t.2.1.length ≤ maxLen) : Ev (fun k => cV k t) (cF t) := by
 unfold cF
 refine Ev.step (fun k => Tq k t) (Ev.bind (gp t a1 a2) ?_)
 have hci := x9 _ (fw t)
 rcases told t with ⟨h1, e⟩ | ⟨h1, ha, e⟩ | ⟨h1, A, ha, hh, e⟩ | ⟨h1, A, ha, w, hw, hb, hr, e⟩
 ·rw [e]; exact Ev.yes rfl (Ev.pure _)
 ·rw [e]; exact Ev.no rfl (Ev.no rfl (Ev.no rfl (Ev.pure _)))
 ·rw [e]
  exact Ev.no rfl (Ev.yes rfl (Ev.bind (Qy t a1 a2) (Ev.bind (uB _ (fw t)) (Ev.yes (Yu (m := 10) (by decide) hci (by decide)) (Ev.yes (Yu (n := 5) (eF (m := 10) (by decide) hci) (by decide) (by decide)) (Ev.pure _))))))
 ·obtain ⟨f1, f2⟩ := K9 e
  obtain ⟨i1, i2⟩ := LD h1 ha hw
  have hp := b8 f1 i1
  have hs := YI (w.1.1, w.1.2)
  rw [e]
  exact Ev.no rfl (Ev.no rfl (Ev.yes rfl (Ev.bind (Ts w.2 (by omega) i1) (Ev.yes (Yu (m := 10) (by decide) hp (by decide)) (Ev.yes (Yu (n := 3) (eF (m := 10) (by decide) hp) (by decide) (by decide)) (Ev.bind (Qt (w.1.1, w.1.2) (by show w.1.1.length ≤ _; rw [zc]; omega)) (Ev.yes (Yu (eF (n := 3) (eF (m := 10) (by decide) hp) (by decide)) hs (by decide)) (Ev.pure _))))))))
theorem ZU (t : Trick) (f0 : Fits TrickTy t) : Ev (fun k => ju k t) true := by
 obtain ⟨a1, ai, a2⟩ := ao f0
 refine Ev.step (fun k => cE k t) (Ev.bind (Z0 t 1048576 a1 a2 (by omega) (by omega)) (Ev.ite (fun h => Ev.pure _) (fun h => ?_)))
 obtain ⟨c1, c2, c3, c4⟩ := cH (t := t) (n := 1048576) (by omega) (by simpa using h)
 have et := ZZ t c1 c2
 refine Ev.bind et (Ev.bind (Tp t a1 a2) (Ev.bind et (Ev.bind (TB t a1 ai a2) (Ev.no (by simp) ?_))))
 exact Ev.bind et (Ev.bind (ca t t a1 a2 a1 a2) (Ev.no (by simp) (Ev.pure _)))
end Qq
