/-
  The law FnShort comes to true.
  Conditions: none.
-/
import Derived.Test.YtgbbdagfjenmeaaGreatDoorQpv
import Derived.Test.YtgbbdagfjenmeaaGreatDoorQlShortenTrick
import Derived.Test.YtgbbdagfjenmeaaGreatDoorPJ
namespace Qq
open Go Go.Vt Pt
set_option linter.unusedVariables false
set_option linter.unusedSimpArgs false
set_option linter.unnecessarySimpa false
theorem Rz {t : Trick} (h : xe t = true) : Short t (fP 200 t 0) := by
 have hl := (zy (xZ h).1).1
 exact Va 200 t 0 hl (Lj hl) h (fun j hj => by omega)
theorem W8 (s : Trick) (hs : xe s = true) (ha : ∀ j < s.2.1.length, Xa s j = true) : ∀ (m i : Nat), i + m = s.2.1.length → Ev (fun k => jD k (s.2.1.length : Int) (i : Int) s.2.2.1 s.2.2.2.1 s.2.2.2.2 s.1 s.2.1) true
 | 0, i, h => by
   have hok := (xZ hs).1
   obtain ⟨q1, q2, q3, hp⟩ := zy hok
   have e := gJ s (by omega) (zQ hp) (by omega)
   have e2 : shortenT s = Rm s true := by unfold shortenT; rw [if_pos hs, W9 200 s 0 ha]
   rw [e2] at e
   have a1 : s.1.length ≤ maxLen := by rw [zd]; omega
   have a2 : s.2.1.length ≤ maxLen := by rw [zd]; omega
   have e3 := U7 s s a1 a2 a1 a2
   rw [beq_self_eq_true] at e3
   exact Ev.step (fun k => eH k _ _ _ _ _ _ _) (Ev.no (decide_eq_false (by omega)) (Ev.bind e (Ev.yes rfl (Ev.bind e3 (Ev.pure _)))))
 | m + 1, i, h => by
   have hok := (xZ hs).1
   obtain ⟨q1, q2, q3, hp⟩ := zy hok
   have a1 : s.1.length ≤ maxLen := by rw [zd]; omega
   have a2 : s.2.1.length ≤ maxLen := by rw [zd]; omega
   have e := SN s (i : Int) a1 (zQ hp) a2
   rw [Pw hs (by omega), ha i (by omega)] at e
   have hw : IntKind.i64.wrap ((i : Int) + 1) = ((i + 1 : Nat) : Int) := by rw [zf (by omega) (by omega)]; omega
   have ih := W8 s hs ha m (i + 1) (by omega)
   rw [← hw] at ih
   exact Ev.step (fun k => eH k _ _ _ _ _ _ _) (Ev.yes (decide_eq_true (by omega)) (Ev.bind e (Ev.no rfl ih)))
theorem MN (code : List Int) (f0 : Fits (.slice (.int .u8)) code) : Ev (fun k => Rp k code) true := by
 have hm : code.length ≤ 9223372036854775807 := by have := f0.1; rw [zd] at this; exact this
 refine Ev.step (fun k => Ro k code) (Ev.ite (fun h => Ev.pure _) (fun h => ?_))
 obtain ⟨t, e, hh, hs⟩ := YW code hm
 have hok := (xZ hh).1
 obtain ⟨q1, q2, q3, hp⟩ := zy hok
 have a1 : t.1.length ≤ maxLen := by rw [zd]; omega
 have a2 : t.2.1.length ≤ maxLen := by rw [zd]; omega
 have hS := Rz hh
 have ei := gJ t (by omega) (zQ hp) (by omega)
 have e2 : shortenT t = Rm (fP 200 t 0) true := by unfold shortenT; rw [if_pos hh]
 rw [e2] at ei
 revert hS ei
 generalize fP 200 t 0 = s
 intro hS ei
 have hoks := (xZ hS.holds).1
 obtain ⟨r1, r2, r3, hps⟩ := zy hoks
 have b1 : s.1.length ≤ maxLen := by rw [zd]; omega
 have b2 : s.2.1.length ≤ maxLen := by rw [zd]; omega
 have bi := zQ hps
 have ec := bB s b1 bi b2
 have hc : vl s = (1, [], [], 0, true) := by
  have hh := hS.holds
  unfold xe at hh
  rcases told s with ⟨h1, e⟩ | ⟨h1, ha, e⟩ | ⟨h1, A, ha, hh2, e⟩ | ⟨h1, A, ha, w, hw, hb, hr, e⟩
  ·rw [e] at hh; cases hh
  ·rw [e] at hh; cases hh
  ·exact e
  ·rw [e] at hh; cases hh
 rw [hc] at ec
 have n1 := gL s b1 bi b2
 have n2 := gL t a1 (zQ hp) a2
 have hn : xy s = xy t := by unfold xy; rw [if_pos hoks, if_pos hok, hS.choices]
 rw [hn] at n1
 have m1 := vg s b1 bi b2
 have m2 := vg t a1 (zQ hp) a2
 have hmv : ¬ wk s > wk t := by
  unfold wk
  rw [if_pos hoks, if_pos hok]
  have := hS.moves
  omega
 have hl := W8 s hS.holds hS.all _ 0 (Nat.zero_add _)
 have g1 : s.2.2.1 = t.2.2.1 := by rw [hS.rest]
 have g2 : s.2.2.2.1 = t.2.2.2.1 := by rw [hS.rest]
 have g3 : s.2.2.2.2 = t.2.2.2.2 := by rw [hS.rest]
 refine Ev.bind e (Ev.bind ei (Ev.bind ec (Ev.no rfl (Ev.no rfl (Ev.no rfl (Ev.bind n1 (Ev.bind n2 (Ev.no (by simp) (Ev.bind m1 (Ev.bind m2 (Ev.no (decide_eq_false hmv) ?_)))))))))))
 refine Ev.no (by show (!(s.2.2.1 == t.2.2.1)) = false; rw [g1]; simp) (Ev.no (by show (!(s.2.2.2.1 == t.2.2.2.1)) = false; rw [g2]; simp) (Ev.no (by show (!(s.2.2.2.2 == t.2.2.2.2)) = false; rw [g3]; simp) (Ev.bind (JK s.1 t.1 (by omega)) (Ev.no (by rw [decide_eq_true hS.start]; rfl) hl))))
end Qq
