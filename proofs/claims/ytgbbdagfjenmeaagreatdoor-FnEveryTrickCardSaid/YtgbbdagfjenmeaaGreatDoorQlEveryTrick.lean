/-
  The law FnEveryTrick comes to true.
  Conditions: numbers and lengths are such as a machine bears.
-/
import Derived.Test.YtgbbdagfjenmeaaGreatDoorQvt
import Derived.Test.YtgbbdagfjenmeaaGreatDoorPB
namespace Qq
open Go Go.Vt Pt
set_option linter.unusedVariables false
set_option linter.unusedSimpArgs false
set_option linter.unnecessarySimpa false
theorem JD {n : Nat} : ∀ (r : List zI) (l A : List Way), (∀ s ∈ r, zP (n : Int) s = true) → af n l → l ≠ [] → jQ r l = some A → A ≠ []
 | [], l, A, hs, ho, hne, h => by cases h; exact hne
 | s :: r, l, A, hs, ho, hne, h => by
   rw [wL] at h
   split at h
   ·refine JD r _ A (fun q hq => hs q (by simp [hq])) (Jz (hs s (by simp)) l [] ho (fun c hc => by cases hc)) ?_ h
    intro e
    cases l with
    | nil => exact hne rfl
    | cons c l' =>
      have hl1 := (fo (ho c (by simp)) (hs s (by simp))).1
      have ef : (goP s (c :: l') []).map Prod.fst = goU s ((c :: l').map Prod.fst) [] := by rw [KN]; rfl
      cases hx : zn c.1 s with
      | nil => rw [hx] at hl1; simp at hl1
      | cons d _ =>
        have : d ∈ (goP s (c :: l') []).map Prod.fst := by
         rw [ef, ND]
         exact .inl ⟨c.1, by simp, by rw [hx]; simp⟩
        rw [e] at this; cases this
   ·cases h
theorem E1 {t : Trick} (h : zf t = true) {A : List Way} (ha : wl t = some A) : A ≠ [] :=
 JD t.2.1 (zZ t) A (yF h).2 (vw h) (by simp [zZ]) ha
theorem vg (t : Trick) (a1 : t.1.length ≤ maxLen) (ai : Ins t.1) (a2 : t.2.1.length ≤ maxLen) (l : List Scene) (hl : l.length ≤ 3000) (hx : ∀ c ∈ l, c.1.length ≤ maxLen ∧ Ins c.1) : ∀ (r : List Scene) (i v : Nat), l.drop i = r → v ≤ i →
 Ev (fun k => xZ k (v : Int) (l.length : Int) (i : Int) t.1 t.2.1 t.2.2.1 t.2.2.2.1 t.2.2.2.2 l) (((v + r.countP (zw t)) : Nat) : Int)
 | [], i, v, h, hv => by
   have a := zz h
   refine Ev.step (fun k => gH k _ _ _ _ _ _ _ _ _) ?_
   simp only [a.g, cond_false]
   exact Ev.some (by simp)
 | c :: r, i, v, h, hv => by
   have a := zi h (by rw [zc]; omega)
   have hlt := a.lt
   have ew : IntKind.i64.wrap ((v : Int) + 1) = ((v + 1 : Nat) : Int) := by rw [zg (by omega) (by omega)]; omega
   refine Ev.step (fun k => gH k _ _ _ _ _ _ _ _ _) ?_
   simp only [a.g, a.z, a.n, a.get, a.w, ew, cond_true]
   refine Ev.bind (yM t c a1 ai a2 (hx c a.mem).1 (hx c a.mem).2) (Ev.ite (fun h1 => ?_) (fun h1 => ?_))
   ·refine (vg t a1 ai a2 l hl hx r (i + 1) (v + 1) a.next (by omega)).to ?_
    rw [List.countP_cons, if_pos h1]; omega
   ·refine (vg t a1 ai a2 l hl hx r (i + 1) v a.next (by omega)).to ?_
    rw [List.countP_cons, if_neg (by rw [h1]; simp)]; omega
theorem bV (t : Trick) (a1 : t.1.length ≤ maxLen) (ai : Ins t.1) (a2 : t.2.1.length ≤ maxLen) : Ev (fun k => jO k t) (um t) := by
 obtain ⟨f1, f2⟩ := Vo t
 refine Ev.step (fun k => TE k t) (Ev.bind (uG t a1 ai a2) (Ev.ite (fun h => Ev.some ?_) (fun h => ?_)))
 ·unfold um; rw [if_neg (by simpa using h)]
 ·have h2 : (zA t).2 = true := by simpa using h
  unfold um; rw [if_pos h2]
  have hok : zf t = true := by
   unfold zA at h2
   split at h2
   ·assumption
   ·cases h2
  refine (vg t a1 ai a2 (zA t).1 f1 (fun c hc => ⟨by rw [(f2 c hc).len]; exact a1, zQ (f2 c hc).ok⟩) (zA t).1 0 0 rfl (by omega)).to ?_
  rw [Nat.zero_add, PB hok]
theorem EW {t : Trick} (h : zf t = true) {A : List Way} (ha : wl t = some A) : um t = (((A.map Prod.fst).countP (x5 t) : Nat) : Int) := by
 unfold um
 rw [Yq h ha]; rfl
theorem E8 {t : Trick} (h : zf t = true) {A : List Way} (ha : wl t = some A) : yW t = ((A.map Prod.fst).length : Int) := by
 unfold yW
 rw [Yq h ha]; rfl
structure EndsAre (t : Trick) (L : List Scene) : Prop where
 all : zA t = (L, true)
 len : L.length ≤ 3000
 pos : 0 < L.length
 arr : ∀ c ∈ L, SceneOk t.1.length c
 cnt : L.countP (zw t) = L.countP (x5 t)
 hold : um t = ((L.countP (zw t) : Nat) : Int)
 cend : yW t = (L.length : Int)
theorem NK {t : Trick} (h : zf t = true) {A : List Way} (ha : wl t = some A) : EndsAre t (A.map Prod.fst) := by
 have hc := PB h
 rw [Yq h ha] at hc
 have hs := yF h
 have hA3 := gM _ _ A (by simp [zZ]) ha
 refine ⟨Yq h ha, by simpa using hA3, ?_, fun c hc => ?_, hc, by rw [EW h ha, hc], E8 h ha⟩
 ·rw [List.length_map]
  exact List.length_pos_iff.2 (E1 h ha)
 ·obtain ⟨d, hd, rfl⟩ := List.mem_map.1 hc
  exact bA t.2.1 (zZ t) A hs.2 (vw h) ha d hd
theorem QZ {t : Trick} {L : List Scene} {i : Nat} {x : Scene} {r : List Scene} (h : L.drop i = x :: r) : (L.take (i + 1)).countP (zw t) = (L.take i).countP (zw t) + (if zw t x = true then 1 else 0) := by
 have hlt : i < L.length := by
  rcases Nat.lt_or_ge i L.length with h1 | h1
  ·exact h1
  ·rw [List.drop_of_length_le h1] at h; cases h
 have hx : L[i] = x := by rw [List.drop_eq_getElem_cons hlt] at h; exact (List.cons.inj h).1
 rw [List.take_succ_eq_append_getElem hlt, List.countP_append, hx]
 simp [List.countP_cons]
theorem LK {t : Trick} (h : zf t = true) (a1 : t.1.length ≤ maxLen) (ai : Ins t.1) (a2 : t.2.1.length ≤ maxLen) {L : List Scene} (hL : EndsAre t L) {c n : Int} {ps p : List Int} (hv : zK t = (c, ps, p, n, true)) :
 ((c = 1 ∧ L.countP (zw t) = L.length) ∨ (c = 2 ∧ L.countP (zw t) < L.length ∧ zT t ps = (p, n, true) ∧ zw t (p, n) = false ∧ ps.length ≤ 12 ∧ SceneOk t.1.length (p, n))) := by
 have ht := told t
 rcases ht with ⟨h1, e⟩ | ⟨h1, ha, e⟩ | ⟨h1, A, ha, hh, e⟩ | ⟨h1, A, ha, w, hw, hb, hr, e⟩
 ·rw [h] at h1; cases h1
 ·have := hL.all
  rw [Rd h ha] at this
  have h2 := congrArg Prod.snd this
  cases h2
 ·rw [e] at hv
  cases hv
  left
  have hLA : L = A.map Prod.fst := by
   have := hL.all
   rw [Yq h ha] at this
   exact (congrArg Prod.fst this).symm
  refine ⟨rfl, ?_⟩
  rw [hL.cnt, hLA, List.countP_eq_length]
  intro d hd
  obtain ⟨w, hw, rfl⟩ := List.mem_map.1 hd
  exact hh w hw
 ·have f := cg t
  rw [e] at hv f
  cases hv
  right
  have hLA : L = A.map Prod.fst := by
   have := hL.all
   rw [Yq h ha] at this
   exact (congrArg Prod.fst this).symm
  have hm : w.1 ∈ L := by rw [hLA]; exact List.mem_map_of_mem hw
  refine ⟨rfl, ?_, hr, ?_, f.1, hL.arr _ hm⟩
  ·rw [hL.cnt]
   exact Eg hm hb
  ·have := LV (t := t) h (c := w.1) (by rw [hL.all]; exact hm)
   show zw t w.1 = false
   rw [this, hb]
theorem ZM (t : Trick) (h : zf t = true) (a1 : t.1.length ≤ maxLen) (ai : Ins t.1) (a2 : t.2.1.length ≤ maxLen) (L : List Scene) (hL : EndsAre t L) (c n : Int) (ps p : List Int) (hv : zK t = (c, ps, p, n, true)) :
 ∀ (r : List Scene) (i g : Nat), L.drop i = r → g = (L.take i).countP (zw t) → Ev (fun k => xi k L (g : Int) L (L.length : Int) (i : Int) t.1 t.2.1 t.2.2.1 t.2.2.2.1 t.2.2.2.2 c n ps p) true
 | [], i, g, hr, hg => by
   have a := zz hr
   have hg : g = L.countP (zw t) := by rw [hg, List.take_of_length_le a.ge]
   have hp := hL.pos
   refine Ev.step (fun k => uO k _ _ _ _ _ _ _ _ _ _ _ _ _ _) (Ev.no a.g (Ev.no (by simp; intro e; rw [e] at hp; simp at hp) ?_))
   refine Ev.bind (uF t a1 ai a2) ?_
   rw [hL.cend]
   refine Ev.no (by simp) (Ev.bind (bV t a1 ai a2) ?_)
   rw [hL.hold, hg]
   refine Ev.no (by simp) ?_
   rcases LK h a1 ai a2 hL hv with ⟨rfl, e1⟩ | ⟨rfl, e1, e2, e3, e4, e5⟩
   ·rw [e1]
    exact Ev.no rfl (Ev.no (by simp) (Ev.yes rfl (Ev.pure _)))
   ·have hne : (((L.countP (zw t) : Nat) : Int) == (L.length : Int)) = false := beq_eq_false_iff_ne.2 (by omega)
    rw [hne]
    refine Ev.yes rfl (Ev.no rfl (Ev.no rfl (Ev.no rfl ?_)))
    have hl : p.length ≤ maxLen := by have := e5.len; show p.length ≤ _; rw [this]; exact a1
    have er := bt t ps a1 ai a2 (by omega)
    rw [e2] at er
    refine Ev.bind er (Ev.yes rfl (Ev.bind (uE (p, n) (p, n) hl hl) (Ev.yes (by simp) (Ev.bind (yM t (p, n) a1 ai a2 hl (zQ e5.ok)) ?_))))
    rw [e3]
    refine Ev.yes rfl (Ev.bind (SH t (p, n) a1 a2 hl) ?_)
    rw [e3]
    exact Ev.pure _
 | x :: r, i, g, hr, hg => by
   have a := zi hr (by have := hL.len; rw [zc]; omega)
   have hx := hL.arr x a.mem
   have hgl : g ≤ L.length := by rw [hg]; exact Nat.le_trans List.countP_le_length (by rw [List.length_take]; exact Nat.min_le_right _ _)
   have h3 := hL.len
   have hw : IntKind.i64.wrap ((g : Int) + 1) = ((g + 1 : Nat) : Int) := by rw [zg (by omega) (by omega)]; simp
   have ht := QZ (t := t) hr
   refine Ev.step (fun k => uO k _ _ _ _ _ _ _ _ _ _ _ _ _ _) ?_
   simp only [a.g, a.z, a.get, a.w, hw, cond_true]
   refine Ev.bind (yM t x a1 ai a2 (by rw [hx.len]; exact a1) (zQ hx.ok)) (Ev.ite (fun hb => ?_) (fun hb => ?_))
   ·exact ZM t h a1 ai a2 L hL c n ps p hv r (i + 1) (g + 1) a.next (by rw [ht, hb, hg]; rfl)
   ·exact ZM t h a1 ai a2 L hL c n ps p hv r (i + 1) g a.next (by rw [ht, hb, hg]; rfl)
theorem Qg (t : Trick) (f0 : Fits TrickTy t) : Ev (fun k => YH k t) true := by
 obtain ⟨a1, ai, a2⟩ := ao f0
 refine Ev.step (fun k => VE k t) (Ev.ite (fun h => Ev.pure _) (fun h => Ev.ite (fun h => Ev.pure _) (fun h' => ?_)))
 have l1 : t.1.length ≤ 1048576 := by have : ¬ (t.1.length : Int) > 1048576 := by simpa using h
                                      omega
 have l2 : t.2.1.length ≤ 1048576 := by have : ¬ (t.2.1.length : Int) > 1048576 := by simpa using h'
                                        omega
 have ei := wx t a1 ai a2
 have hpv := fun (h : zf t = true) => U5 h
 unfold ownV at hpv
 have hsp := fun ps p n c (hp : ps.length ≤ 12) (hp2 : p.length ≤ 12) => And.intro (bw t (c, ps, p, n) a1 ai a2 (by show ps.length ≤ _; omega) (by show p.length ≤ _; omega)) (Wp t (c, ps, p, n) a1 a2 (by show ps.length ≤ _; omega))
 have hfit := cg t
 have hok : (zK t).2.2.2.2 = zf t := by
  rcases told t with ⟨h1, e⟩ | ⟨h1, ha, e⟩ | ⟨h1, A, ha, hh, e⟩ | ⟨h1, A, ha, w, hw, hb, hr, e⟩ <;> rw [e, h1]
 have hvE : zK t = zK t := rfl
 revert ei hpv hfit hok hvE
 generalize hy : zK t = y
 obtain ⟨c, ps, p, n, ok⟩ := y
 intro ei hpv hfit hok hvE
 have hok : ok = zf t := hok
 subst hok
 have s1 := xm t a1 a2
 refine Ev.bind ei (Ev.bind (xN t a1 ai a2) (Ev.bind s1 (Ev.no (by simp) (Ev.bind s1 (Ev.no (by simp) (Ev.ite (fun h => Ev.pure _) (fun h => ?_)))))))
 have h : zf t = true := by simpa using h
 have hpv := hpv h
 obtain ⟨p1, p2⟩ := hsp ps p n c hfit.1 hfit.2
 dsimp only at hpv
 rw [hpv] at p1 p2
 refine Ev.bind (YT t a1 a2) (Ev.bind (uG t a1 ai a2) (Ev.no (by simp) (Ev.bind p1 (Ev.no rfl (Ev.bind p2 (Ev.no rfl ?_))))))
 rw [h] at hy
 cases ha : wl t with
 | none =>
   rw [Rd h ha]
   have hc : c = 3 := by
    rcases told t with ⟨h1, e⟩ | ⟨h1, ha2, e⟩ | ⟨h1, A, ha2, hh, e⟩ | ⟨h1, A, ha2, w, hw, hb, hr, e⟩
    ·rw [h] at h1; cases h1
    ·rw [e] at hy; cases hy; rfl
    ·rw [ha] at ha2; cases ha2
    ·rw [ha] at ha2; cases ha2
   have he : yW t = -1 := by unfold yW; rw [Rd h ha]; rfl
   have ec := uF t a1 ai a2
   rw [he] at ec
   exact Ev.yes rfl (Ev.yes (by rw [hc]; rfl) (Ev.bind ec (Ev.pure _)))
 | some A =>
   have hL := NK h ha
   rw [hL.all]
   exact Ev.no rfl (ZM t h a1 ai a2 _ hL c n ps p hy _ 0 0 rfl rfl)
end Qq
