/-
  The law FnTop comes to true.
  Conditions: none.
-/
import Derived.Test.YtgbbdagfjenmeaaGreatDoorQlEveryTrick
import Derived.Test.YtgbbdagfjenmeaaGreatDoorPB
namespace Qq
open Go Go.Vt Pt
set_option linter.unusedVariables false
set_option linter.unusedSimpArgs false
set_option linter.unnecessarySimpa false
theorem ZY (t : Trick) (h : zf t = true) (a1 : t.1.length ≤ maxLen) (ai : Ins t.1) (a2 : t.2.1.length ≤ maxLen) (L : List Scene) (hL : EndsAre t L) (c n : Int) (ps p : List Int) (hv : zK t = (c, ps, p, n, true)) :
 ∀ (r : List Scene) (i g : Nat), L.drop i = r → g = (L.take i).countP (zw t) → Ev (fun k => vc k L true (g : Int) L (L.length : Int) (i : Int) t.2.2.1 t.2.2.2.1 t.2.2.2.2 t.1 t.2.1 c n ps p) true
 | [], i, g, hr, hg => by
   have a := zz hr
   have hg : g = L.countP (zw t) := by rw [hg, List.take_of_length_le a.ge]
   have hp := hL.pos
   refine Ev.step (fun k => YG k _ _ _ _ _ _ _ _ _ _ _ _ _ _ _) (Ev.no a.g (Ev.no rfl (Ev.no (by simp; intro e; rw [e] at hp; simp at hp) ?_)))
   refine Ev.bind (bV t a1 ai a2) ?_
   rw [hL.hold, hg]
   refine Ev.no (by simp) ?_
   rcases LK h a1 ai a2 hL hv with ⟨rfl, e1⟩ | ⟨rfl, e1, e2, e3, e4, e5⟩
   ·rw [e1]
    exact Ev.no (by simp) (Ev.yes rfl (Ev.pure _))
   ·have hne : (((L.countP (zw t) : Nat) : Int) == (L.length : Int)) = false := beq_eq_false_iff_ne.2 (by omega)
    rw [hne]
    refine Ev.no rfl (Ev.no rfl ?_)
    have hl : p.length ≤ maxLen := by have := e5.len; show p.length ≤ _; rw [this]; exact a1
    have er := bt t ps a1 ai a2 (by omega)
    rw [e2] at er
    refine Ev.bind er (Ev.yes rfl (Ev.bind (uE (p, n) (p, n) hl hl) (Ev.yes (by simp) (Ev.bind (yM t (p, n) a1 ai a2 hl (zQ e5.ok)) ?_))))
    rw [e3]
    exact Ev.pure _
 | x :: r, i, g, hr, hg => by
   have a := zi hr (by have := hL.len; rw [zc]; omega)
   have hx := hL.arr x a.mem
   have hgl : g ≤ L.length := by rw [hg]; exact Nat.le_trans List.countP_le_length (by rw [List.length_take]; exact Nat.min_le_right _ _)
   have h3 := hL.len
   have hw : IntKind.i64.wrap ((g : Int) + 1) = ((g + 1 : Nat) : Int) := by rw [zg (by omega) (by omega)]; simp
   have ht := QZ (t := t) hr
   refine Ev.step (fun k => YG k _ _ _ _ _ _ _ _ _ _ _ _ _ _ _) ?_
   simp only [a.g, a.z, a.get, a.w, hw, cond_true]
   refine Ev.bind (yM t x a1 ai a2 (by rw [hx.len]; exact a1) (zQ hx.ok)) (Ev.ite (fun hb => ?_) (fun hb => ?_))
   ·exact ZY t h a1 ai a2 L hL c n ps p hv r (i + 1) (g + 1) a.next (by rw [ht, hb, hg]; rfl)
   ·exact ZY t h a1 ai a2 L hL c n ps p hv r (i + 1) g a.next (by rw [ht, hb, hg]; rfl)
theorem Ew (code : List Int) (f0 : Fits (.slice (.int .u8)) code) : Ev (fun k => H8 k code) true := by
 have hm : code.length ≤ 9223372036854775807 := by have := f0.1; rw [zc] at this; exact this
 refine Ev.step (fun k => JO k code) (Ev.ite (fun h => Ev.pure _) (fun h => ?_))
 obtain ⟨t, e, ht⟩ := L7 code hm
 have h := ht.ok
 obtain ⟨q1, q2, q3, hp⟩ := zo h
 have a1 : t.1.length ≤ maxLen := by rw [zc]; omega
 have a2 : t.2.1.length ≤ maxLen := by rw [zc]; omega
 have ai := zQ hp
 have ei := wx t a1 ai a2
 have hpv := U5 h
 unfold ownV at hpv
 have hfit := cg t
 have ip := bw t ((zK t).1, (zK t).2.1, (zK t).2.2.1, (zK t).2.2.2.1) a1 ai a2 (by show (zK t).2.1.length ≤ _; omega) (by show (zK t).2.2.1.length ≤ _; omega)
 rw [hpv] at ip
 refine Ev.bind e (Ev.bind ei (Ev.bind (uG t a1 ai a2) ?_))
 revert ip
 rcases told t with ⟨h1, e⟩ | ⟨h1, ha, e⟩ | ⟨h1, A, ha, hh, e⟩ | ⟨h1, A, ha, w, hw, hb, hr, e⟩
 ·rw [h] at h1; cases h1
 ·rw [e, Rd h ha]
  intro ip
  have he : yW t = -1 := by unfold yW; rw [Rd h ha]; rfl
  have ec := uF t a1 ai a2
  rw [he] at ec
  exact Ev.no rfl (Ev.bind ip (Ev.no rfl (Ev.yes rfl (Ev.yes rfl (Ev.no rfl (Ev.yes rfl (Ev.yes rfl (Ev.bind ec (Ev.pure _)))))))))
 ·have hL := NK h ha
  have hl := ZY t h a1 ai a2 _ hL 1 0 [] [] e _ 0 0 rfl rfl
  rw [e, hL.all]
  intro ip
  exact Ev.no rfl (Ev.bind ip (Ev.no rfl (Ev.no rfl (Ev.no rfl hl))))
 ·have hL := NK h ha
  have hl := ZY t h a1 ai a2 _ hL 2 w.1.2 w.2 w.1.1 e _ 0 0 rfl rfl
  rw [e, hL.all]
  intro ip
  exact Ev.no rfl (Ev.bind ip (Ev.no rfl (Ev.yes rfl (Ev.no rfl (Ev.no rfl hl)))))
end Qq
