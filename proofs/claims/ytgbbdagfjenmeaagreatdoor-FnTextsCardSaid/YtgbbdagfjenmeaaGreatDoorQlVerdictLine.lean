/-
  The law FnExactVerdictLine comes to true.
  Conditions: numbers and lengths are such as a machine bears.
-/
import Derived.Test.YtgbbdagfjenmeaaGreatDoorQvd
import Derived.Test.YtgbbdagfjenmeaaGreatDoorPT
namespace Qq
open Go Go.Vt Pt
set_option linter.unusedVariables false
set_option linter.unusedSimpArgs false
set_option linter.unnecessarySimpa false
theorem TQ {n : Nat} : ∀ (r : List zP) (l A : List Way), (∀ s ∈ r, zI (n : Int) s = true) → UK n l → (∀ c ∈ l, Ins c.2) → fL r l = some A → ∀ w ∈ A, Ins w.2
 | [], l, A, hs, ho, hi, h, w, hw => by cases h; exact hi w hw
 | s :: r, l, A, hs, ho, hi, h, w, hw => by
   rw [wZ] at h
   split at h
   ·refine TQ r _ A (fun q hq => hs q (by simp [hq])) (PO (hs s (by simp)) l [] ho (fun c hc => by cases hc)) (fun c hc => ?_) h w hw
    rcases Up s l [] c hc with hc | ⟨d, hd, i, hlt, e⟩
    ·cases hc
    ·rw [e]
     have h2 := (YO (ho d hd) (hs s (by simp))).2
     split
     ·intro x hx
      rcases List.mem_append.1 hx with hx | hx
      ·exact hi d hd x hx
      ·have : x = (i : Int) := by simpa using hx
       rw [this]; unfold In; omega
     ·exact hi d hd
   ·cases h
def jM (t : yt) : ByteArray :=
 if (wa t).1 = 1 then ((⟨#[104, 111, 108, 100, 115, 32, 102, 111, 114, 32]⟩ : ByteArray) ++ yb (jG t)) ++ ⟨#[32, 101, 110, 100, 115]⟩ else
 if (wa t).1 = 2 then (((⟨#[102, 97, 105, 108, 115, 32, 102, 111, 114, 32]⟩ : ByteArray) ++ xA (wa t).2.1) ++ ⟨#[32, 58, 32]⟩) ++ gT ((wa t).2.2.1, (wa t).2.2.2.1) else
 if (wa t).1 = 3 then ⟨#[116, 111, 111, 32, 109, 97, 110, 121]⟩ else ⟨#[]⟩
theorem Ye (t : yt) : In (jG t) := by
 unfold jG
 have := (Uz t).1
 split
 ·unfold In; omega
 ·unfold In; decide
theorem Yz {xs : List Int} (h : xs.length ≤ 12) (hi : Ins xs) : (xA xs).size ≤ 264 := by
 unfold xA
 split
 ·decide
 ·have := YP (B := 21) (S := 1) (⟨#[44]⟩ : ByteArray) (by decide) (xs.map yb) (ja hi)
  rw [List.length_map] at this
  rw [b8, yU]
  omega
theorem WK (c : Scene) : (gT c).size ≤ 2028 := by
 unfold gT
 have sp := xW c.1
 split
 ·split
  ·rename_i h
   exact vZ (vZ sp (n := 7) (by decide)) (yv c.2 (by unfold In; omega))
  ·omega
 ·decide
theorem Nv {t : yt} {c : Int} {ps p : List Int} {n : Int} {ok : Bool} (e : wa t = (c, ps, p, n, ok)) : ps.length ≤ 12 ∧ p.length ≤ 12 := by
 have := QI t
 rw [e] at this
 exact this
theorem PY {t : yt} (h : zv t = true) {A : List Way} (ha : uZ t = some A) {w : Way} (hw : w ∈ A) : Ins w.2 ∧ Ins w.1.1 := by
 have hs := xd h
 refine ⟨TQ t.2.1 (yI t) A hs.2 (gO h) (fun c hc => ?_) ha w hw, yY (aE t.2.1 (yI t) A hs.2 (gO h) ha w hw).ok⟩
 have e : c = ((t.1, -1), []) := by simpa [yI] using hc
 rw [e]; intro x hx; cases hx
theorem Yq (t : yt) (a1 : t.1.length ≤ maxLen) (ai : Ins t.1) (a2 : t.2.1.length ≤ maxLen) : Ev (fun k => j8 k t) (jM t) := by
 unfold jM
 refine Ev.step (fun k => Yr k t) (Ev.bind (We t a1 ai a2) ?_)
 have hci := yv _ (Ye t)
 rcases told t with ⟨h1, e⟩ | ⟨h1, ha, e⟩ | ⟨h1, A, ha, hh, e⟩ | ⟨h1, A, ha, w, hw, hb, hr, e⟩
 ·rw [e]; exact Ev.no rfl (Ev.no rfl (Ev.no rfl (Ev.pure _)))
 ·rw [e]; exact Ev.no rfl (Ev.no rfl (Ev.yes rfl (Ev.pure _)))
 ·rw [e]
  exact Ev.yes rfl (Ev.bind (WP t a1 ai a2) (Ev.bind (zL _ (Ye t)) (Ev.yes (cO (m := 10) (by decide) hci (by decide)) (Ev.yes (cO (n := 5) (vZ (m := 10) (by decide) hci) (by decide) (by decide)) (Ev.pure _)))))
 ·obtain ⟨f1, f2⟩ := Nv e
  obtain ⟨i1, i2⟩ := PY h1 ha hw
  have hp := Yz f1 i1
  have hs := WK (w.1.1, w.1.2)
  rw [e]
  exact Ev.no rfl (Ev.yes rfl (Ev.bind (gE w.2 (by omega) i1) (Ev.yes (cO (m := 10) (by decide) hp (by decide)) (Ev.yes (cO (n := 3) (vZ (m := 10) (by decide) hp) (by decide) (by decide)) (Ev.bind (WV (w.1.1, w.1.2) (by show w.1.1.length ≤ _; rw [ze]; omega) i2) (Ev.yes (cO (vZ (n := 3) (vZ (m := 10) (by decide) hp) (by decide)) hs (by decide)) (Ev.pure _)))))))
end Qq
