/-
  The law FnJoins comes to true.
  Conditions: none.
-/
import Derived.Test.YtgbbdagfjenmeaaGreatDoorQpv
import Derived.Test.YtgbbdagfjenmeaaGreatDoorPJ
import Derived.Test.YtgbbdagfjenmeaaGreatDoorQlEveryTrick
namespace Qq
open Go Go.Vt Pt
set_option linter.unusedVariables false
set_option linter.unusedSimpArgs false
set_option linter.unnecessarySimpa false
theorem Ni : ∀ (l : List Step) (i : Nat), noAdj l → i + 1 < l.length → cutB (l.getD (i + 1) stepZ) = true → cutB (l.getD i stepZ) = true → False
 | [], i, _, h, _, _ => by simp at h
 | [s], i, _, h, _, _ => by simp at h
 | s :: t :: r, 0, hn, h, h1, h2 => hn.1 ⟨h1, h2⟩
 | s :: t :: r, i + 1, hn, h, h1, h2 => Ni (t :: r) i hn.2 (by simp at h ⊢; omega) h1 h2
theorem UA {n : Nat} {s : Step} (h : zx (n : Int) s = true) (hk : s.2.1.1 = 1) : cutB s = true := by
 unfold zx at h
 simp only [Bool.and_eq_true, decide_eq_true_eq] at h
 have h3 := h.2.2
 unfold cutB
 by_cases h1 : s.1 = 1
 ·rw [h1, hk]; rfl
 ·rw [if_neg h1] at h3
  by_cases h2 : s.1 = 2
  ·rw [if_pos h2] at h3
   simp only [Bool.and_eq_true, beq_iff_eq] at h3
   omega
  ·rw [if_neg h2] at h3
   split at h3
   ·simp only [Bool.and_eq_true, beq_iff_eq] at h3
    omega
   ·cases h3
theorem X0 (n : Nat) (st : List Step) (hl : st.length ≤ 12) (hs : ∀ s ∈ st, zx (n : Int) s = true) (hn : noAdj st) (c a b : Int) (p : List Int) : ∀ (m i : Nat), st.length ≤ i + 1 + m → Ev (fun k => x8 k ((i + 1 : Nat) : Int) st c a b p) true
 | 0, i, h => Ev.step (fun k => uw k _ _ _ _ _ _) (Ev.no (decide_eq_false (by omega)) (Ev.pure _))
 | m + 1, i, h => by
   by_cases hi : i + 1 < st.length
   ·have ih := X0 n st hl hs hn c a b p m (i + 1) (by omega)
    have hw : IntKind.i64.wrap (((i + 1 : Nat) : Int) + 1) = ((i + 1 + 1 : Nat) : Int) := by rw [zf (by omega) (by omega)]; omega
    have hw2 : IntKind.i64.wrap (((i + 1 : Nat) : Int) - 1) = (i : Int) := by rw [zf (by omega) (by omega)]; omega
    rw [← hw] at ih
    refine Ev.step (fun k => uw k _ _ _ _ _ _) (Ev.yes (decide_eq_true (by omega)) (Ev.yes (decide_eq_true (by omega)) (Ev.yes (decide_eq_true (by omega)) (Ev.ite (fun h1 => ?_) (fun _ => ih)))))
    rw [hw2]
    refine Ev.yes (decide_eq_true (by omega)) (Ev.yes (decide_eq_true (by omega)) (Ev.ite (fun h2 => ?_) (fun _ => ih)))
    exfalso
    have h1 : (st.getD (i + 1) stepZ).2.1.1 = 1 := eq_of_beq h1
    have h2 : (st.getD i stepZ).2.1.1 = 1 := eq_of_beq h2
    have g : ∀ j, j < st.length → zx (n : Int) (st.getD j stepZ) = true := fun j hj => by
     rw [List.getD, List.getElem?_eq_getElem hj]; exact hs _ (List.getElem_mem hj)
    exact Ni st i hn hi (UA (g _ hi) h1) (UA (g _ (by omega)) h2)
   ·exact Ev.step (fun k => uw k _ _ _ _ _ _) (Ev.no (decide_eq_false (by omega)) (Ev.pure _))
theorem c9 {n : Nat} (hn12 : n ≤ 12) (L : List Scene) (hL : L.length ≤ 3000) (ho : ∀ c ∈ L, SceneOk n c) (i : Nat) (x : Scene) (hx : x ∈ L) (st : List Step) (c a b : Int) (p : List Int) (K : Ev (fun k => wR k L (L.length : Int) (IntKind.i64.wrap ((i : Int) + 1)) c a b p st L) true) :
 ∀ (r : List Scene) (j : Nat) (f : Bool), L.drop j = r → (f = true ∨ x ∈ r) → Ev (fun k => wQ k L f (L.length : Int) (i : Int) L (L.length : Int) (j : Int) c a b p st x.1 x.2 L) true
 | [], j, f, h, hf => by
   have e := zO h
   have hf : f = true := by rcases hf with h | h; exact h; cases h
   subst hf
   exact Ev.step (fun k => fN k _ _ _ _ _ _ _ _ _ _ _ _ _ _ _) (Ev.no e.g (Ev.no rfl K))
 | y :: r, j, f, h, hf => by
   have e := zl h (by rw [zd]; omega)
   have hy := (ho y e.mem).len
   have hxl := (ho x hx).len
   refine Ev.step (fun k => fN k _ _ _ _ _ _ _ _ _ _ _ _ _ _ _) ?_
   simp only [e.g, e.z, e.get, e.w, cond_true]
   refine Ev.ite (fun h1 => c9 hn12 L hL ho i x hx st c a b p K r (j + 1) true e.next (.inl rfl)) (fun h1 => ?_)
   refine Ev.bind (U1 x y (by rw [zd]; omega) (by rw [zd]; omega)) (c9 hn12 L hL ho i x hx st c a b p K r (j + 1) _ e.next ?_)
   rcases hf with hf | hf
   ·rw [h1] at hf; cases hf
   ·rcases List.mem_cons.1 hf with hf | hf
    ·left; simp [hf]
    ·exact .inr hf
theorem X1 {n : Nat} (hn12 : n ≤ 12) (L : List Scene) (hL : L.length ≤ 3000) (ho : ∀ c ∈ L, SceneOk n c) (st : List Step) (c a b : Int) (p : List Int) (K : Ev (fun k => x8 k 1 st c a b p) true) :
 ∀ (r : List Scene) (i : Nat), L.drop i = r → Ev (fun k => wR k L (L.length : Int) (i : Int) c a b p st L) true
 | [], i, h => Ev.step (fun k => fO k _ _ _ _ _ _ _ _ _) (Ev.no (zO h).g K)
 | x :: r, i, h => by
   have e := zl h (by rw [zd]; omega)
   have ih := X1 hn12 L hL ho st c a b p K r (i + 1) e.next
   rw [← e.w] at ih
   refine Ev.step (fun k => fO k _ _ _ _ _ _ _ _ _) ?_
   simp only [e.g, e.z, e.n, e.get, cond_true]
   exact c9 hn12 L hL ho i x e.mem st c a b p ih L 0 false rfl (.inr e.mem)
theorem MO (code : List Int) (f0 : Fits (.slice (.int .u8)) code) : Ev (fun k => Rr k code) true := by
 have hm : code.length ≤ 9223372036854775807 := by have := f0.1; rw [zd] at this; exact this
 refine Ev.step (fun k => Rq k code) (Ev.ite (fun h => Ev.pure _) (fun h => ?_))
 obtain ⟨t, e, hh, hs⟩ := YW code hm
 obtain ⟨hok, A, ha, _⟩ := xZ hh
 obtain ⟨q1, q2, q3, hp⟩ := zy hok
 have a1 : t.1.length ≤ maxLen := by rw [zd]; omega
 have a2 : t.2.1.length ≤ maxLen := by rw [zd]; omega
 have ai := zQ hp
 have hE := K7 hok ha
 obtain ⟨j1, j2, j3, j4⟩ := KZ hok
 obtain ⟨r1, r2, r3, hpj⟩ := zy j1
 have b1 : (fu t).1.length ≤ maxLen := a1
 have b2 : (fu t).2.1.length ≤ maxLen := by rw [zd]; omega
 have ej := Tc t (by omega) ai (by omega)
 have ejm : Yg t = Rm (fu t) true := by unfold Yg; rw [hok]; rfl
 rw [ejm] at ej
 have ea := aD t a1 ai a2
 have eb := aD (fu t) b1 ai b2
 rw [j2] at eb
 rw [hE.all] at ea eb
 have m1 := vg (fu t) b1 ai b2
 have m2 := vg t a1 ai a2
 have hmv : ¬ wk (fu t) > wk t := by
  unfold wk
  rw [if_pos j1, if_pos hok]
  omega
 have hpos := hE.pos
 refine Ev.bind e (Ev.bind ej (Ev.bind ea (Ev.bind eb (Ev.no rfl (Ev.no rfl (Ev.no rfl (Ev.no (by simp) (Ev.no (beq_eq_false_iff_ne.2 (by show ((A.map Prod.fst).length : Int) ≠ 0; omega)) (Ev.bind m1 (Ev.bind m2 (Ev.no (decide_eq_false hmv) ?_)))))))))))
 have hsj := (yI j1).2
 exact X1 q3 (A.map Prod.fst) hE.len hE.arr (fu t).2.1 (fu t).2.2.1 (fu t).2.2.2.1 (fu t).2.2.2.2 (fu t).1 (X0 (fu t).1.length (fu t).2.1 (by omega) hsj j3 _ _ _ _ (fu t).2.1.length 0 (by omega)) _ 0 rfl
end Qq
