/-
  The law FnTexts comes to true.
  Conditions: none.
-/
import Derived.Test.YtgbbdagfjenmeaaGreatDoorQfp
import Derived.Test.YtgbbdagfjenmeaaGreatDoorQlVerdictLine
import Derived.Test.YtgbbdagfjenmeaaGreatDoorPT
namespace Qq
open Go Go.Vt Pt
set_option linter.unusedVariables false
set_option linter.unusedSimpArgs false
set_option linter.unnecessarySimpa false
theorem Pf (c : Int) : ∀ (q : List Int) (i : Nat), 0 ≤ posF c i q → c ∈ q.map card
 | [], i, h => by unfold posF at h; exact absurd h (by decide)
 | x :: q, i, h => by
   unfold posF at h
   split at h
   ·rename_i e; rw [← e]; simp
   ·exact List.mem_cons_of_mem _ (Pf c q (i + 1) h)
theorem N8 {t : yt} (h : zv t = true) : In t.2.2.2.1 ∧ In t.2.2.2.2 := by
 obtain ⟨h1, h2, h3, hp⟩ := yu h
 unfold zv at h
 simp only [Bool.and_eq_true] at h
 have hc := h.2.2.2.2
 unfold wj at hc
 unfold In
 split at hc
 ·simp at hc; omega
 ·split at hc
  ·simp at hc; omega
  ·split at hc
   ·simp at hc; omega
   ·split at hc
    ·simp at hc; omega
    ·split at hc
     ·simp only [Bool.and_eq_true, decide_eq_true_eq] at hc
      have hm : t.2.2.2.1 ∈ t.1.map card := by
       have := hc.1
       unfold pos at this
       split at this
       ·omega
       ·exact Pf _ _ _ this
      obtain ⟨x, _, hx⟩ := List.mem_map.1 hm
      have := Zw x
      omega
     ·cases hc
theorem T7 {a b : ByteArray} (h : 1 ≤ a.size) : a ++ b ≠ ⟨#[]⟩ := by
 intro e
 have := congrArg ByteArray.size e
 rw [ByteArray.size_append] at this
 have e2 : (⟨#[]⟩ : ByteArray).size = 0 := rfl
 omega
theorem WJ {t : yt} (h : zv t = true) : jM t ≠ ⟨#[]⟩ := by
 unfold jM
 rcases told t with ⟨h1, e⟩ | ⟨h1, ha, e⟩ | ⟨h1, A, ha, hh, e⟩ | ⟨h1, A, ha, w, hw, hb, hr, e⟩
 ·rw [h] at h1; cases h1
 ·rw [e]
  dsimp only
  rw [if_neg (by decide), if_neg (by decide), if_pos rfl]
  decide
 ·rw [e, if_pos rfl]
  exact T7 (by rw [ByteArray.size_append]; exact Nat.le_trans (by decide) (Nat.le_add_right _ _))
 ·rw [e]
  dsimp only
  rw [if_neg (by decide), if_pos rfl]
  exact T7 (by rw [ByteArray.size_append, ByteArray.size_append]; exact Nat.le_trans (Nat.le_trans (by decide) (Nat.le_add_right _ _)) (Nat.le_add_right _ _))
theorem gG (m : Int × Int) : (zG m).size ≤ 1048576 := by
 unfold zG
 split
 ·rename_i h
  have hk := XD h
  have h1 := bT m.1
  have h2 := yv m.2 (by unfold In; omega)
  rw [ByteArray.size_append, ByteArray.size_append]
  have e2 : (⟨#[32]⟩ : ByteArray).size = 1 := rfl
  omega
 ·decide
theorem W7 : ∀ n : Fin 5, (yw (n.val : Int)).size ≤ 20 := by decide
theorem Yy {n : Nat} {s : Step} (h : zI (n : Int) s = true) : (yc s).size ≤ 1048576 := by
 unfold yc
 split
 ·unfold stepRest
  split
  ·exact gG _
  ·split
   ·by_cases hb : 0 ≤ s.2.2 ∧ s.2.2 ≤ 4
    ·have := W7 ⟨s.2.2.toNat, by omega⟩
     have e : ((s.2.2.toNat : Nat) : Int) = s.2.2 := by omega
     simp only [e] at this
     omega
    ·unfold yw
     rw [if_neg hb]; decide
   ·rename_i h1 h2
    unfold zI at h
    simp only [Bool.and_eq_true, decide_eq_true_eq] at h
    obtain ⟨b1, b2, b3⟩ := h
    rw [if_neg h1, if_neg h2] at b3
    split at b3
    ·simp only [Bool.and_eq_true, beq_iff_eq, decide_eq_true_eq] at b3
     have := yv s.2.2 (by unfold In; omega)
     rw [ByteArray.size_append]
     have e2 : (⟨#[110, 111, 116, 101, 32]⟩ : ByteArray).size = 5 := rfl
     omega
    ·cases b3
 ·decide
theorem Y4 (t : yt) (h : zv t = true) : ∀ (r : List Step) (i : Nat), t.2.1.drop i = r → Ev (fun k => vh k t.2.1 (t.2.1.length : Int) (i : Int) t.2.1 t.2.2.1 t.2.2.2.1 t.2.2.2.2 t.1) true
 | [], i, hr => by
   have a := yK hr
   obtain ⟨q1, q2, q3, hp⟩ := yu h
   have a1 : t.1.length ≤ maxLen := by rw [ze]; omega
   have a2 : t.2.1.length ≤ maxLen := by rw [ze]; omega
   have ai := yY hp
   obtain ⟨i1, i2⟩ := N8 h
   have hl : (fX t).length = t.2.1.length + 2 := by unfold fX; rw [if_pos h]; simp
   refine Ev.step (fun k => gJ k _ _ _ _ _ _ _ _) (Ev.no a.g (Ev.bind (X1 t a1 ai a2 i1 i2) ?_))
   rw [hl, zi (by omega) (by omega)]
   refine Ev.yes (by simp) (Ev.bind (Yq t a1 ai a2) (Ev.some ?_))
   rw [wl, decide_eq_false (WJ h)]; rfl
 | s :: r, i, hr => by
   have hm := (yu h).1
   have a := zK hr (by rw [ze]; omega)
   have hs := (xd h).2 s a.mem
   have ih := Y4 t h r (i + 1) a.next
   have ep := WZ (yc s) (Yy hs)
   rw [Qd hs] at ep
   obtain ⟨kd, ⟨mk, mn⟩, av⟩ := s
   refine Ev.step (fun k => gJ k _ _ _ _ _ _ _ _) ?_
   simp only [a.g, a.z, a.get, a.w, cond_true]
   refine Ev.bind (uy (kd, (mk, mn), av)) (Ev.bind ep (Ev.no rfl (Ev.no (by simp) (Ev.ite (fun h1 => ?_) (fun h1 => ih)))))
   have e1 : kd = 1 := by simpa using h1
   subst e1
   have hmv : yZ 12 (mk, mn) = true := by
    unfold zI at hs
    simp only [Bool.and_eq_true, decide_eq_true_eq] at hs
    have := hs.2.2
    rw [if_pos trivial, Bool.and_eq_true] at this
    exact Ti this.1
   have em := cz (zG (mk, mn)) (gG _)
   rw [Vk hmv] at em
   exact Ev.bind (uz (mk, mn)) (Ev.bind em (Ev.no rfl (Ev.no (by simp) ih)))
theorem QV (code : List Int) (f0 : Fits (.slice (.int .u8)) code) : Ev (fun k => UN k code) true := by
 have hm : code.length ≤ 9223372036854775807 := by have := f0.1; rw [ze] at this; exact this
 refine Ev.step (fun k => UM k code) (Ev.ite (fun h => Ev.pure _) (fun h => ?_))
 obtain ⟨p, e1, hp⟩ := UJ code hm 0 (by omega) 8 (by omega) (by omega)
 obtain ⟨t, e, ht⟩ := Se code hm
 obtain ⟨q1, q2, q3, hpt⟩ := yu ht.ok
 have hl := hp.le
 have ep := Yt (zu p) (by have := xW p; omega)
 rw [U5 hp.ok] at ep
 refine Ev.bind e1 (Ev.bind e (Ev.bind (wX p (by rw [ze]; omega) (yY hp.ok)) (Ev.bind ep (Ev.no rfl (Ev.bind (MD p p (by omega)) (Ev.no (by simp) ?_))))))
 refine Ev.bind (wn t (by rw [ze]; omega) (yY hpt) (by rw [ze]; omega)) ?_
 rw [ht.ok]
 exact Ev.no rfl (Y4 t ht.ok t.2.1 0 rfl)
end Qq
