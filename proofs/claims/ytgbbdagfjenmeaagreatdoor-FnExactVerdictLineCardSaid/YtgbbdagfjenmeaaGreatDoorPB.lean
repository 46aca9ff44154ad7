/-
  What the laws lean on: what the functions come to.
  Conditions: numbers and lengths are such as a machine bears.
-/
import Derived.Test.YtgbbdagfjenmeaaGreatDoorPBa
namespace Qq
open Go Go.Vt Pt
set_option linter.unusedVariables false
set_option linter.unusedSimpArgs false
set_option linter.unnecessarySimpa false
def zp (t : Trick) (c : Scene) : Bool := !zw t c
theorem LevOk.drop {n : Nat} : ∀ {r : List zI} {Ls : List (List Scene)} (i : Nat), i ≤ r.length → LevOk n r Ls → LevOk n (r.drop i) (Ls.drop i)
 | r, Ls, 0, _, h => h
 | s :: r, L :: L2 :: Ls, i + 1, hi, h => LevOk.drop (r := r) (Ls := L2 :: Ls) i (by simpa using hi) h.2.2.2
 | [], _, i + 1, hi, _ => by simp at hi
 | _ :: _, [], _, _, h => h.elim
 | _ :: _, [_], _, _, h => h.elim
theorem LevOk.head {n : Nat} {r : List zI} {L : List Scene} {Ls : List (List Scene)} (h : LevOk n r (L :: Ls)) : SAll n L ∧ L.Nodup ∧ L.length ≤ 3000 := by
 cases r with
 | nil => cases Ls with
   | nil => exact h
   | cons => exact h.elim
 | cons s r => cases Ls with
   | nil => exact h.elim
   | cons => exact h.1
theorem MO (bad : Scene → Bool) : ∀ (r : List zI) (Ls : List (List Scene)) (i : Nat), (rowM bad r Ls).drop i = rowM bad (r.drop i) (Ls.drop i)
 | r, Ls, 0 => rfl
 | r, [], i + 1 => by simp [rowM]
 | r, L :: Ls, i + 1 => by
   show (rowM bad (r.drop 1) Ls).drop i = rowM bad (r.drop (i + 1)) (Ls.drop i)
   rw [MO bad (r.drop 1) Ls i, List.drop_drop, Nat.add_comm 1 i]
theorem Jp {n : Nat} (h1 : 1 ≤ n) (bad : Scene → Bool) {s : zI} {r : List zI} {L L2 : List Scene} {Ls : List (List Scene)} (h : LevOk n (s :: r) (L :: L2 :: Ls)) {M : List (Option (List ByteArray))} {i : Nat}
 (hM : M.drop (i + 1) = rowM bad r (L2 :: Ls)) {c : Scene} (hc : c ∈ L) : ∀ x ∈ zn c s, fN M i x = canF bad r x := by
 intro x hx
 have hx2 := h.2.2.1 c hc x hx
 have ho := (LevOk.head h.2.2.2).1
 have hg : M.getD (i + 1) none = some ((L2.filter (canF bad r)).map keyB) := by
  have : M[i + 1]? = some (some ((L2.filter (canF bad r)).map keyB)) := by
   have h0 : (M.drop (i + 1))[0]? = M[i + 1]? := by rw [List.getElem?_drop]
   rw [← h0, hM]; rfl
  rw [List.getD, this]; rfl
 unfold fN
 rw [hg, EX h1 (fun c hc => ho c (List.mem_filter.1 hc).1) (ho x hx2), Bool.eq_iff_iff, decide_eq_true_eq, List.mem_filter]
 exact ⟨fun h => h.2, fun h => ⟨hx2, h⟩⟩
theorem R7 {α : Type} {f g : α → Bool} : ∀ {l : List α}, (∀ x ∈ l, f x = g x) → l.any f = l.any g
 | [], _ => rfl
 | x :: l, h => by rw [List.any_cons, List.any_cons, h x (by simp), R7 (fun y hy => h y (by simp [hy]))]
theorem Pu {α : Type} {f g : α → Bool} : ∀ {l : List α}, (∀ x ∈ l, f x = g x) → l.findIdx f = l.findIdx g
 | [], _ => rfl
 | x :: l, h => by rw [List.findIdx_cons, List.findIdx_cons, h x (by simp), Pu (fun y hy => h y (by simp [hy]))]
section
variable (t : Trick)
theorem EM {n : Nat} (h1 : 1 ≤ n) {pre post : List (Option (List ByteArray))} {done : List Scene} {c : Scene} (hd : SAll n done) (hc : SceneOk n c) (hn : c ∉ done) (F : Scene → Bool) :
 (bif bf (((pre ++ some ((done.filter F).map keyB) :: post).getD pre.length none).getD []) (keyB c) then (((pre ++ some ((done.filter F).map keyB) :: post).getD pre.length none).getD []) else (((pre ++ some ((done.filter F).map keyB) :: post).getD pre.length none).getD []) ++ [keyB c]) = (done.filter F).map keyB ++ [keyB c] := by
 have hg : ((pre ++ some ((done.filter F).map keyB) :: post).getD pre.length none) = some ((done.filter F).map keyB) := by simp [List.getD]
 rw [hg]
 show (bif bf ((done.filter F).map keyB) (keyB c) then _ else _) = _
 have hs : SAll n (done.filter F) := fun d hd2 => hd d (List.mem_filter.1 hd2).1
 rw [Re (fun d hd2 => Pl h1 (hs d hd2)) (Pl h1 hc), decide_eq_false (fun h => hn (List.mem_filter.1 h).1)]
 rfl
end
theorem NI (t : Trick) {n : Nat} (h1n : 1 ≤ n) (hn : n ≤ 12) (a1 : t.1.length ≤ maxLen) (ai : Ins t.1) (a2 : t.2.1.length ≤ 12) (hlen : n = t.1.length) (V : List (List Scene)) (hV : LevOk n t.2.1 V) (i : Nat) (L : List Scene) (Lr : List (List Scene)) (hL : V.drop i = L :: Lr)
 (K : Ev (fun k => je k V t.1 t.2.1 t.2.2.1 t.2.2.2.1 t.2.2.2.2 (List.replicate i none ++ rowM (zp t) (t.2.1.drop i) (L :: Lr)) ((i : Int) - 1)) (rowM (zp t) t.2.1 V)) :
 ∀ (r : List Scene) (j : Nat) (done : List Scene), L.drop j = r → L.take j = done →
   Ev (fun k => xn k V L (L.length : Int) (j : Int) t.1 t.2.1 t.2.2.1 t.2.2.2.1 t.2.2.2.2 (List.replicate i none ++ some ((done.filter (canF (zp t) (t.2.1.drop i))).map keyB) :: rowM (zp t) (t.2.1.drop (i + 1)) Lr) (i : Int)) (rowM (zp t) t.2.1 V) := by
 have hVl := hV.len
 have hi : i < V.length := by
  rcases Nat.lt_or_ge i V.length with h | h
  ·exact h
  ·rw [List.drop_of_length_le h] at hL; cases hL
 have hdr := LevOk.drop i (by omega) hV
 rw [hL] at hdr
 obtain ⟨ho, hnd, hl3⟩ := hdr.head
 have hLr : Lr = V.drop (i + 1) := by rw [← List.drop_drop, hL]; rfl
 have hMl : ∀ x : Option (List ByteArray), (List.replicate i none ++ x :: rowM (zp t) (t.2.1.drop (i + 1)) Lr).length = V.length := fun x => by
  rw [List.length_append, List.length_replicate, List.length_cons, TO, hLr, List.length_drop]; omega
 have hwl : IntKind.i64.wrap ((V.length : Int) - 1) = (V.length : Int) - 1 := zg (by omega) (by omega)
 intro r
 induction r with
 | nil =>
   intro j done h hd
   have a := zz h
   have hall : done = L := by rw [← hd]; exact List.take_of_length_le a.ge
   refine Ev.step (fun k => Zz k _ _ _ _ _ _ _ _ _ _ _) (Ev.no a.g ?_)
   rw [show IntKind.i64.wrap ((i : Int) - (1 : Int)) = (i : Int) - 1 from zg (by omega) (by omega), hall]
   have e : rowM (zp t) (t.2.1.drop i) (L :: Lr) = some ((L.filter (canF (zp t) (t.2.1.drop i))).map keyB) :: rowM (zp t) (t.2.1.drop (i + 1)) Lr := by
    show _ :: rowM (zp t) ((t.2.1.drop i).drop 1) Lr = _
    rw [List.drop_drop]
   rw [e] at K
   exact K
 | cons c r ih =>
   intro j done h hd
   have a := zi h (by rw [zc]; omega)
   have hlt := a.lt
   have hc := ho c a.mem
   have hg : L[j] = c := by have := a.gt (([], 0) : Scene); simpa [List.getD, hlt] using this
   have hdo : SAll n done := fun d hd2 => ho d (List.mem_of_mem_take (hd ▸ hd2))
   have hcn : c ∉ done := by
    intro hm
    rw [← hd] at hm
    obtain ⟨q, hq, hq2⟩ := List.mem_take_iff_getElem.1 hm
    have hql : q < j := by omega
    exact List.pairwise_iff_getElem.1 hnd q j (by omega) hlt hql (hq2.trans hg.symm)
   have hnext : L.take (j + 1) = done ++ [c] := by rw [List.take_add_one, hd, List.getElem?_eq_getElem hlt, hg]; rfl
   have ih2 := ih (j + 1) (done ++ [c]) a.next hnext
   have lenI : ((List.replicate i none : List (Option (List ByteArray))).length) = i := List.length_replicate
   have pk := EM h1n (pre := List.replicate i none) (post := rowM (zp t) (t.2.1.drop (i + 1)) Lr) hdo hc hcn (canF (zp t) (t.2.1.drop i))
   rw [lenI] at pk
   have hset : ∀ x y : Option (List ByteArray), (List.replicate i none ++ x :: rowM (zp t) (t.2.1.drop (i + 1)) Lr).set i y = List.replicate i none ++ y :: rowM (zp t) (t.2.1.drop (i + 1)) Lr := fun x y => by
    rw [List.set_append_right _ _ (by simp)]; simp
   have hgs : ∀ l : List ByteArray, ((List.replicate i none ++ some l :: rowM (zp t) (t.2.1.drop (i + 1)) Lr).getD i none).isSome = true := fun l => by simp [List.getD]
   have add : canF (zp t) (t.2.1.drop i) c = true → Ev (fun k => (bm k c).bind fun y => xn k V L (L.length : Int) ((j + 1 : Nat) : Int) t.1 t.2.1 t.2.2.1 t.2.2.2.1 t.2.2.2.2 ((List.replicate i none ++ some ((done.filter (canF (zp t) (t.2.1.drop i))).map keyB) :: rowM (zp t) (t.2.1.drop (i + 1)) Lr).set i (some (bif bf (((List.replicate i none ++ some ((done.filter (canF (zp t) (t.2.1.drop i))).map keyB) :: rowM (zp t) (t.2.1.drop (i + 1)) Lr).getD i none).getD []) y then (((List.replicate i none ++ some ((done.filter (canF (zp t) (t.2.1.drop i))).map keyB) :: rowM (zp t) (t.2.1.drop (i + 1)) Lr).getD i none).getD []) else (((List.replicate i none ++ some ((done.filter (canF (zp t) (t.2.1.drop i))).map keyB) :: rowM (zp t) (t.2.1.drop (i + 1)) Lr).getD i none).getD []) ++ [y]))) (i : Int)) (rowM (zp t) t.2.1 V) := fun hF => by
    refine Ev.bind (GH hn hc) ?_
    rw [pk, hset]
    have : (done ++ [c]).filter (canF (zp t) (t.2.1.drop i)) = done.filter (canF (zp t) (t.2.1.drop i)) ++ [c] := by rw [List.filter_append, List.filter_cons_of_pos hF]; rfl
    rw [this, List.map_append] at ih2
    exact ih2
   have skip : canF (zp t) (t.2.1.drop i) c = false → Ev (fun k => xn k V L (L.length : Int) ((j + 1 : Nat) : Int) t.1 t.2.1 t.2.2.1 t.2.2.2.1 t.2.2.2.2 (List.replicate i none ++ some ((done.filter (canF (zp t) (t.2.1.drop i))).map keyB) :: rowM (zp t) (t.2.1.drop (i + 1)) Lr) (i : Int)) (rowM (zp t) t.2.1 V) := fun hF => by
    have : (done ++ [c]).filter (canF (zp t) (t.2.1.drop i)) = done.filter (canF (zp t) (t.2.1.drop i)) := by rw [List.filter_append, List.filter_cons_of_neg (by rw [hF]; simp)]; simp
    rw [this] at ih2
    exact ih2
   have hml := hMl (some ((done.filter (canF (zp t) (t.2.1.drop i))).map keyB))
   refine Ev.step (fun k => Zz k _ _ _ _ _ _ _ _ _ _ _) ?_
   simp only [a.g, a.z, a.n, a.get, a.gt, a.w, hwl, cond_true, Int.toNat_natCast]
   have gets : ∀ {f : Nat → Option (List (Option (List ByteArray)))} {z : List (Option (List ByteArray))}, Ev f z → Ev (fun k => bif decide ((0 : Int) ≤ (i : Int)) then bif decide ((i : Int) < ((List.replicate i none ++ some ((done.filter (canF (zp t) (t.2.1.drop i))).map keyB) :: rowM (zp t) (t.2.1.drop (i + 1)) Lr).length : Int)) then bif decide (i < (List.replicate i none ++ some ((done.filter (canF (zp t) (t.2.1.drop i))).map keyB) :: rowM (zp t) (t.2.1.drop (i + 1)) Lr).length) then bif ((List.replicate i none ++ some ((done.filter (canF (zp t) (t.2.1.drop i))).map keyB) :: rowM (zp t) (t.2.1.drop (i + 1)) Lr).getD i none).isSome then bif decide ((0 : Int) ≤ (i : Int)) then bif decide ((i : Int) < ((List.replicate i none ++ some ((done.filter (canF (zp t) (t.2.1.drop i))).map keyB) :: rowM (zp t) (t.2.1.drop (i + 1)) Lr).length : Int)) then bif Nat.beq i i then f k else none else none else none else none else none else none else none) z := fun h =>
    Ev.yes (by simp) (Ev.yes (by rw [hml]; simp; omega) (Ev.yes (by rw [hml]; simp; omega) (Ev.yes (hgs _) (Ev.yes (by simp) (Ev.yes (by rw [hml]; simp; omega) (Ev.yes (by simp) h))))))
   refine Ev.ite (fun hl => ?_) (fun hl => ?_)
   ·have hil : i + 1 = V.length := by simp at hl; omega
    have hdi : t.2.1.drop i = [] := by rw [List.drop_eq_nil_iff]; omega
    have hF : canF (zp t) (t.2.1.drop i) c = !zw t c := by rw [hdi]; rfl
    refine Ev.bind (yM t c a1 ai (by rw [zc]; omega) (by rw [hc.len, zc]; omega) (zQ hc.ok)) (Ev.ite (fun hb => ?_) (fun hb => ?_))
    ·exact gets (add (hF.trans hb))
    ·exact skip (hF.trans hb)
   ·have hil : i + 1 < V.length := by
     have : ¬ (i : Int) = (V.length : Int) - 1 := by simpa using hl
     omega
    have his : i < t.2.1.length := by omega
    cases hLr2 : Lr with
    | nil => rw [hLr] at hLr2; have := List.drop_eq_nil_iff.1 hLr2; omega
    | cons L2 Lq =>
      have hds : t.2.1.drop i = t.2.1[i] :: t.2.1.drop (i + 1) := List.drop_eq_getElem_cons his
      have hgd : ∀ d, t.2.1.getD i d = t.2.1[i] := fun d => by simp [List.getD, his]
      rw [hLr2, hds] at hdr
      have hso := hdr.2.1
      have hno := gv hc hso
      have hnl := (fo hc hso).2
      have hany := Jp h1n (zp t) hdr (M := List.replicate i none ++ some ((done.filter (canF (zp t) (t.2.1.drop i))).map keyB) :: rowM (zp t) (t.2.1.drop (i + 1)) Lr) (i := i) (by
       rw [List.drop_append, List.length_replicate, List.drop_of_length_le (by simp), show i + 1 - i = 1 by omega, hLr2]; rfl) a.mem
      have hF : canF (zp t) (t.2.1.drop i) c = (zn c t.2.1[i]).any (fN (List.replicate i none ++ some ((done.filter (canF (zp t) (t.2.1.drop i))).map keyB) :: rowM (zp t) (t.2.1.drop (i + 1)) Lr) i) := by
       conv => lhs; rw [hds]
       exact (R7 hany).symm
      refine Ev.yes (by simp) (Ev.yes (by simp; omega) ?_)
      simp only [hgd]
      refine Ev.bind (vT hc hso) (Ev.bind (HN hn _ (by omega) hno _ i (by rw [← hLr2, hml]; omega) (by rw [← hLr2, hml]; omega)) ?_)
      rw [← hLr2]
      refine Ev.ite (fun hb => ?_) (fun hb => ?_)
      ·exact gets (add (hF.trans hb))
      ·exact skip (hF.trans hb)
theorem Va (t : Trick) {n : Nat} (h1n : 1 ≤ n) (hn : n ≤ 12) (a1 : t.1.length ≤ maxLen) (ai : Ins t.1) (a2 : t.2.1.length ≤ 12) (hlen : n = t.1.length) (V : List (List Scene)) (hV : LevOk n t.2.1 V) : ∀ (i : Nat), i ≤ V.length →
 Ev (fun k => je k V t.1 t.2.1 t.2.2.1 t.2.2.2.1 t.2.2.2.2 (List.replicate i none ++ rowM (zp t) (t.2.1.drop i) (V.drop i)) ((i : Int) - 1)) (rowM (zp t) t.2.1 V)
 | 0, _ => by
   refine Ev.step (fun k => ZA k _ _ _ _ _ _ _ _) (Ev.no (decide_eq_false (by omega)) (Ev.some ?_))
   simp
 | i + 1, hi => by
   have ih := Va t h1n hn a1 ai a2 hlen V hV i (by omega)
   have hVl := hV.len
   cases hL : V.drop i with
   | nil => rw [List.drop_eq_nil_iff] at hL; omega
   | cons L Lr =>
     rw [hL] at ih
     have hLr : V.drop (i + 1) = Lr := by rw [← List.drop_drop, hL]; rfl
     have hVi : V[i]'(by omega) = L := by
      have := List.drop_eq_getElem_cons (l := V) (i := i) (by omega)
      rw [hL] at this
      exact (List.cons.inj this).1.symm
     have hg : V.getD i [] = L := by rw [List.getD, List.getElem?_eq_getElem (by omega), hVi]; rfl
     have key := NI t h1n hn a1 ai a2 hlen V hV i L Lr hL ih L 0 [] rfl rfl
     have hxl : (List.replicate (i + 1) (none : Option (List ByteArray)) ++ rowM (zp t) (t.2.1.drop (i + 1)) (V.drop (i + 1))).length = V.length := by
      rw [List.length_append, List.length_replicate, TO, List.length_drop]; omega
     have hset : (List.replicate (i + 1) (none : Option (List ByteArray)) ++ rowM (zp t) (t.2.1.drop (i + 1)) (V.drop (i + 1))).set i (some []) = List.replicate i none ++ some ((([] : List Scene).filter (canF (zp t) (t.2.1.drop i))).map keyB) :: rowM (zp t) (t.2.1.drop (i + 1)) Lr := by
      rw [hLr, List.replicate_succ', List.append_assoc, List.set_append_right _ _ (by simp)]
      simp
     have ei : (((i + 1 : Nat) : Int) - 1) = (i : Int) := by omega
     rw [ei]
     refine Ev.step (fun k => ZA k _ _ _ _ _ _ _ _) ?_
     simp only [Int.toNat_natCast, hset, hg]
     exact Ev.yes (decide_eq_true (by omega)) (Ev.yes (decide_eq_true (by omega)) (Ev.yes (decide_eq_true (by omega)) (Ev.yes (decide_eq_true (by omega)) (Ev.yes (decide_eq_true (by omega)) (Ev.yes (decide_eq_true (by omega)) key)))))
theorem Lg (t : Trick) {n : Nat} (h1n : 1 ≤ n) (hn : n ≤ 12) (a1 : t.1.length ≤ maxLen) (ai : Ins t.1) (a2 : t.2.1.length ≤ 12) (hlen : n = t.1.length) (V : List (List Scene)) (hV : LevOk n t.2.1 V) : Ev (fun k => RD k (t, V)) (rowM (zp t) t.2.1 V) := by
 have hVl := hV.len
 have h := Va t h1n hn a1 ai a2 hlen V hV V.length (Nat.le_refl _)
 have e : List.replicate V.length (none : Option (List ByteArray)) ++ rowM (zp t) (t.2.1.drop V.length) (V.drop V.length) = List.replicate V.length none := by
  rw [List.drop_of_length_le (Nat.le_refl V.length)]; simp [rowM]
 rw [e] at h
 refine Ev.step (fun k => Lh k t V) (Ev.yes (by simp) (Ev.yes (decide_eq_true (by rw [za]; omega)) (Ev.yes (by simp) ?_)))
 rw [zg (by omega) (by omega), Int.toNat_natCast]
 exact h
theorem Hv {F G : Scene → Bool} {i : Nat} {r : List Scene} (h : ∀ x ∈ r, F x = G x) : idxF F i r = idxF G i r := by unfold idxF; rw [R7 h, Pu h]
theorem Tj (t : Trick) {n : Nat} (h1n : 1 ≤ n) (hn : n ≤ 12) (a2 : t.2.1.length ≤ 12) (V : List (List Scene)) (hV : LevOk n t.2.1 V) (z1 z2 z3 : Int) : ∀ (r : List zI) (i : Nat) (c : Scene) (ps : List Int), t.2.1.drop i = r → (∃ L Lr, V.drop i = L :: Lr ∧ c ∈ L) → canF (zp t) r c = true → ps.length ≤ i →
 Ev (fun k => x4 k t.2.1 (t.2.1.length : Int) (i : Int) z1 z2 c.1 c.2 (rowM (zp t) t.2.1 V) 2 z3 ps) (LB (some (firstW (zp t) r (c, ps))))
 | [], i, c, ps, h, hc, hF, hp => by
   have a := zz h
   obtain ⟨L, Lr, hL, hcL⟩ := hc
   have hVl := hV.len
   have hi : i < V.length := by
    rcases Nat.lt_or_ge i V.length with h | h
    ·exact h
    ·rw [List.drop_of_length_le h] at hL; cases hL
   have hdr := LevOk.drop i (by omega) hV
   rw [hL] at hdr
   have hco := hdr.head.1 c hcL
   refine Ev.step (fun k => gJ k _ _ _ _ _ _ _ _ _ _ _) (Ev.no a.g (Ev.bind (Ev.step (fun k => QH k (c.1, c.2)) (Ev.bind (yX c.1 (by rw [hco.len]; omega)) (Ev.pure _))) (Ev.some rfl)))
 | s :: r, i, c, ps, h, hc, hF, hp => by
   have a := zi h (by rw [zc]; omega)
   have hlt := a.lt
   obtain ⟨L, Lr, hL, hcL⟩ := hc
   have hVl := hV.len
   have hdr := LevOk.drop i (by omega) hV
   rw [hL, h] at hdr
   cases Lr with
   | nil => exact hdr.elim
   | cons L2 Lq =>
     have hco := hdr.head.1 c hcL
     have hso := hdr.2.1
     have hno := gv hco hso
     have hnl := (fo hco hso).2
     have hV2 : V.drop (i + 1) = L2 :: Lq := by rw [← List.drop_drop, hL]; rfl
     have hany := Jp h1n (zp t) hdr (M := rowM (zp t) t.2.1 V) (i := i) (by rw [MO, hV2, a.next]) hcL
     have hml := TO (zp t) t.2.1 V
     have hidx : idxF (fN (rowM (zp t) t.2.1 V) i) 0 (zn c s) = (((zn c s).findIdx (canF (zp t) r) : Nat) : Int) := by
      rw [Hv hany]
      unfold idxF
      rw [if_pos (show (zn c s).any (canF (zp t) r) = true from hF), Nat.zero_add]
     obtain ⟨x, hx, hxF⟩ := List.any_eq_true.1 hF
     have hil : (zn c s).findIdx (canF (zp t) r) < (zn c s).length := List.findIdx_lt_length_of_exists ⟨x, hx, hxF⟩
     have hilI : (((zn c s).findIdx (canF (zp t) r) : Nat) : Int) < ((zn c s).length : Int) := by omega
     have hget : (zn c s).getD ((zn c s).findIdx (canF (zp t) r)) ([], 0) = (zn c s)[(zn c s).findIdx (canF (zp t) r)] := by rw [List.getD, List.getElem?_eq_getElem hil]; rfl
     have hd2 : (zn c s).getD ((zn c s).findIdx (canF (zp t) r)) ([], 0) ∈ zn c s := by rw [hget]; exact List.getElem_mem hil
     have hdF : canF (zp t) r ((zn c s).getD ((zn c s).findIdx (canF (zp t) r)) ([], 0)) = true := by rw [hget]; exact List.findIdx_getElem (w := hil)
     have ih := fun ps hps => Tj t h1n hn a2 V hV z1 z2 z3 r (i + 1) ((zn c s).getD ((zn c s).findIdx (canF (zp t) r)) ([], 0)) ps a.next ⟨L2, Lq, hV2, hdr.2.2.1 c hcL _ hd2⟩ hdF hps
     refine Ev.step (fun k => gJ k _ _ _ _ _ _ _ _ _ _ _) ?_
     simp only [a.g, a.z, a.get, a.w, cond_true]
     have eidx : Ev (fun k => zM k (zn c s, (rowM (zp t) t.2.1 V, (i : Int)))) (idxF (fN (rowM (zp t) t.2.1 V) i) 0 (zn c s)) :=
      Ev.step (fun k => xx k _ _) (Lc hn (zn c s) (by omega) hno (rowM (zp t) t.2.1 V) i (by rw [hml]; omega) (by rw [hml]; omega) (zn c s) 0 rfl)
     rw [hidx] at eidx
     refine Ev.bind (vT hco hso) (Ev.bind eidx ?_)
     simp only [Int.toNat_natCast]
     refine Ev.ite (fun h2 => ?_) (fun h2 => ?_)
     ·have e2 : s.1 = 2 := by simpa using h2
      refine Ev.yes (decide_eq_true (by rw [za]; simp; omega)) (Ev.yes (decide_eq_true (by omega)) (Ev.yes (decide_eq_true hilI) (Ev.yes (decide_eq_true hil) ?_)))
      have := ih (ps ++ [(((zn c s).findIdx (canF (zp t) r) : Nat) : Int)]) (by simp; omega)
      have es : PV (canF (zp t) r) s (c, ps) = ((zn c s).getD ((zn c s).findIdx (canF (zp t) r)) ([], 0), ps ++ [(((zn c s).findIdx (canF (zp t) r) : Nat) : Int)]) := by
       unfold PV
       dsimp only
       rw [if_pos e2]
      show Ev _ (LB (some (firstW (zp t) r (PV (canF (zp t) r) s (c, ps)))))
      rw [es]
      exact this
     ·have e2 : ¬ s.1 = 2 := by simpa using h2
      refine Ev.yes (decide_eq_true (by omega)) (Ev.yes (decide_eq_true hilI) (Ev.yes (decide_eq_true hil) ?_))
      have := ih ps (by omega)
      have es : PV (canF (zp t) r) s (c, ps) = ((zn c s).getD ((zn c s).findIdx (canF (zp t) r)) ([], 0), ps) := by
       unfold PV
       dsimp only
       rw [if_neg e2]
      show Ev _ (LB (some (firstW (zp t) r (PV (canF (zp t) r) s (c, ps)))))
      rw [es]
      exact this
theorem Ld (t : Trick) {n : Nat} (hn : n ≤ 12) (a1 : t.1.length ≤ maxLen) (ai : Ins t.1) (a2 : t.2.1.length ≤ 12) (l : List Scene) (hl : l.length ≤ 16384) (ho : SAll n l) : ∀ (r : List Scene) (i : Nat), l.drop i = r →
 Ev (fun k => zt k l t.1 t.2.1 t.2.2.1 t.2.2.2.1 t.2.2.2.2 (l.length : Int) (i : Int)) (idxF (zp t) i r)
 | [], i, h => Ev.step (fun k => z7 k _ _ _ _ _ _ _ _) (Ev.no (zz h).g (Ev.some rfl))
 | x :: r, i, h => by
   have a := zi h (by rw [zc]; omega)
   have hx := ho x a.mem
   refine Ev.step (fun k => z7 k _ _ _ _ _ _ _ _) ?_
   simp only [a.g, a.z, a.get, a.w, cond_true]
   rw [Rw]
   have e1 : Ev (fun k => fU k (x, t)) (zp t x) := Ev.step (fun k => Ui k x t) (Ev.bind (yM t x a1 ai (by rw [zc]; omega) (by rw [hx.len, zc]; omega) (zQ hx.ok)) (Ev.some rfl))
   refine Ev.bind e1 (Ev.ite (fun h1 => Ev.some ?_) (fun h1 => ?_))
   ·rw [if_pos h1]
   ·rw [if_neg (by rw [h1]; simp)]; exact Ld t hn a1 ai a2 l hl ho r (i + 1) a.next
theorem wx (t : Trick) (a1 : t.1.length ≤ maxLen) (ai : Ins t.1) (a2 : t.2.1.length ≤ maxLen) : Ev (fun k => wy k t) (zK t) := by
 refine Ev.step (fun k => RP k t) (Ev.bind (xN t a1 ai a2) (Ev.ite (fun h => Ev.some ?_) (fun h => ?_)))
 ·have : zf t = false := by simpa using h
  simp [zK, this]
 ·have e : zf t = true := by simpa using h
  obtain ⟨h12, h1n, hn, hp⟩ := zo e
  have hs := yF e
  obtain ⟨q1, q2⟩ := Nm t.2.1 (zZ t)
  have hst : (zZ t).map Prod.fst = [(t.1, -1)] := rfl
  rw [hst] at q1 q2
  refine Ev.bind (Ru t e a1 ai a2) ?_
  unfold zK wl
  rw [if_pos e]
  cases hL : levU t.2.1 [(t.1, -1)] with
  | none =>
    rw [hL] at q1
    cases hE : jQ t.2.1 (zZ t) with
    | some A => rw [hE] at q1; cases q1
    | none => exact Ev.yes rfl (Ev.pure _)
  | some V =>
    rw [hL] at q1
    cases hE : jQ t.2.1 (zZ t) with
    | none => rw [hE] at q1; cases q1
    | some A =>
      rw [hE] at q1
      have hlast : V.getLastD [] = A.map Prod.fst := Option.some.inj q1
      obtain ⟨hV, Q, hQ⟩ := GB t.2.1 [(t.1, -1)] V hs.2 (Md e) (by simp) (by simp) hL
      have hVl := hV.len
      have hA3 := gM _ _ A (by simp [zZ]) hE
      have hAo := bA t.2.1 (zZ t) A hs.2 (vw e) hE
      have hAS : SAll t.1.length (A.map Prod.fst) := fun c hc => by
       obtain ⟨d, hd, rfl⟩ := List.mem_map.1 hc
       exact hAo d hd
      have hlst : V.getD (V.length - 1) [] = A.map Prod.fst := by
       rw [← hlast]
       cases V with
       | nil => simp at hVl
       | cons a L => rw [List.getLastD_cons, List.getD, ← List.getLast?_eq_getElem?, List.getLast?_cons]; simp [List.getLastD_eq_getLast?]
      have ew : IntKind.i64.wrap ((V.length : Int) - 1) = ((V.length - 1 : Nat) : Int) := by rw [zg (by omega) (by omega)]; omega
      have h0 : V.getD 0 [] = [(t.1, -1)] := by rw [hQ]; rfl
      have hbad : ∀ w ∈ A, (!x5 t w.1) = zp t w.1 := fun w hw => by
       have harr := Vp e w.1 (by
        unfold zA wl
        rw [if_pos e, hE]
        exact List.mem_map_of_mem hw)
       unfold zp zw
       rw [e, harr]; rfl
      have hfind : A.find? (fun w => !x5 t w.1) = A.find? (fun w => zp t w.1) := by
       have : ∀ (l : List Way), (∀ w ∈ l, (!x5 t w.1) = zp t w.1) → l.find? (fun w => !x5 t w.1) = l.find? (fun w => zp t w.1) := by
        intro l
        induction l with
        | nil => intro _; rfl
        | cons w l ih => intro h; rw [List.find?_cons, List.find?_cons, h w (by simp), ih (fun u hu => h u (by simp [hu]))]
       exact this A hbad
      have hef := LF (zp t) t.2.1 (zZ t) A hE
      have hany : (A.map Prod.fst).any (zp t) = canF (zp t) t.2.1 (t.1, -1) := by
       have h1 : (A.map Prod.fst).any (zp t) = (A.find? (fun w => zp t w.1)).isSome := by
        rw [List.any_map, Bool.eq_iff_iff, List.find?_isSome, List.any_eq_true]
        rfl
       rw [h1, hef]
       show (((zZ t).find? (fun w => canF (zp t) t.2.1 w.1)).map (firstW (zp t) t.2.1)).isSome = _
       unfold zZ
       rw [List.find?_cons]
       cases canF (zp t) t.2.1 (t.1, -1) <;> rfl
      simp only [outU, List.nil_append, ew, Int.toNat_natCast, h0, hlst]
      refine Ev.no rfl (Ev.yes (decide_eq_true (by omega)) (Ev.yes (decide_eq_true (by omega)) (Ev.yes (by simp) (Ev.yes (decide_eq_true (by omega)) (Ev.yes (decide_eq_true (by omega)) (Ev.yes (decide_eq_true (by omega)) ?_))))))
      have hcont : Ev (fun k => zF k (A.map Prod.fst, t)) ((A.map Prod.fst).any (zp t)) :=
       Ev.step (fun k => xj k _ _) (Ev.bind (Ev.step (fun k => xy k _ _) (Ld t hn a1 ai h12 (A.map Prod.fst) (by rw [List.length_map]; omega) hAS _ 0 rfl)) (Ev.some (GL _ _ _)))
      refine Ev.bind hcont ?_
      rw [hany, hfind, hef]
      cases hF : canF (zp t) t.2.1 (t.1, -1) with
      | false =>
        have : (zZ t).find? (fun w => canF (zp t) t.2.1 w.1) = none := by unfold zZ; rw [List.find?_cons, hF]; rfl
        rw [this]
        exact Ev.yes rfl (Ev.pure _)
      | true =>
        have : (zZ t).find? (fun w => canF (zp t) t.2.1 w.1) = some ((t.1, -1), []) := by unfold zZ; rw [List.find?_cons, hF]
        rw [this]
        refine Ev.no rfl (Ev.bind (Lg t h1n hn a1 ai h12 rfl V hV) ?_)
        exact Tj t h1n hn h12 V hV 0 0 0 t.2.1 0 (t.1, -1) [] rfl ⟨[(t.1, -1)], Q, by rw [hQ]; rfl, by simp⟩ hF (by simp)
end Qq
namespace Qq
open Go Go.Vt Pt
set_option linter.unusedVariables false
set_option linter.unusedSimpArgs false
set_option linter.unnecessarySimpa false
theorem LG : ∀ (r : List zI) (l A : List Way) (m : Nat), XO m l → jQ r l = some A → XO (m + r.length) A
 | [], l, A, m, h, e => by cases e; exact h
 | s :: r, l, A, m, h, e => by
   rw [wL] at e
   split at e
   ·have := LG r _ A (m + 1) (GW l [] h (fun c hc => by cases hc)) e
    rw [show m + (s :: r).length = m + 1 + r.length by simp; omega]
    exact this
   ·cases e
theorem cg (t : Trick) : (zK t).2.1.length ≤ 12 ∧ (zK t).2.2.1.length ≤ 12 := by
 unfold zK
 split
 ·rename_i h
  cases hE : wl t with
  | none => exact ⟨by simp, by simp⟩
  | some A =>
    obtain ⟨h1, h2, h3, h4⟩ := zo h
    have hs := yF h
    have hw := LG t.2.1 (zZ t) A 0 (Q1 t) hE
    have ho := bA t.2.1 (zZ t) A hs.2 (vw h) hE
    show (LB (A.find? (fun w => !x5 t w.1))).2.1.length ≤ 12 ∧ (LB (A.find? (fun w => !x5 t w.1))).2.2.1.length ≤ 12
    cases hf : A.find? (fun w => !x5 t w.1) with
    | none => exact ⟨Nat.zero_le _, Nat.zero_le _⟩
    | some w =>
      have hm := List.mem_of_find?_eq_some hf
      exact ⟨by have := hw w hm; show w.2.length ≤ 12; omega, by show w.1.1.length ≤ 12; rw [(ho w hm).len]; exact h3⟩
 ·exact ⟨by simp, by simp⟩
end Qq
namespace Qq
open Go Go.Vt Pt
set_option linter.unusedVariables false
set_option linter.unusedSimpArgs false
abbrev Cur : Type := List Int × Int × Int
def jj (c : Cur) : Prop := c.1.length ≤ 9223372036854775807 ∧ 0 ≤ c.2.1 ∧ c.2.1 ≤ c.1.length
theorem and255 (x : BitVec 64) : (x &&& BitVec.ofInt 64 255).toNat ≤ 255 := by
 rw [BitVec.toNat_and]
 exact Nat.and_le_right
theorem wrap255 (x : BitVec IntKind.i64.bits) : 0 ≤ IntKind.i64.wrap (((x &&& BitVec.ofInt IntKind.i64.bits (255 : Int)).toNat : Nat) : Int) ∧ IntKind.i64.wrap (((x &&& BitVec.ofInt IntKind.i64.bits (255 : Int)).toNat : Nat) : Int) ≤ 255 := by
 have h : (x &&& BitVec.ofInt IntKind.i64.bits (255 : Int)).toNat ≤ 255 := and255 x
 rw [zg (by omega) (by omega)]
 omega
theorem eS (c : Cur) (h : jj c) : ∃ (y : Int) (c' : Cur), Ev (fun k => j9 k c) (y, c') ∧ 0 ≤ y ∧ y ≤ 255 ∧ jj c' := by
 obtain ⟨h1, h2, h3⟩ := h
 by_cases hl : c.2.1 < c.1.length
 ·refine ⟨_, _, Ev.step (fun k => US k c) (Ev.yes (decide_eq_true hl) (Ev.yes (decide_eq_true h2) (Ev.yes (decide_eq_true hl) (Ev.pure _)))), (wrap255 _).1, (wrap255 _).2, ?_⟩
  refine ⟨h1, ?_, ?_⟩ <;> (dsimp only; rw [zg (by omega) (by omega)]; omega)
 ·exact ⟨_, _, Ev.step (fun k => US k c) (Ev.no (decide_eq_false hl) (Ev.pure _)), (wrap255 _).1, (wrap255 _).2, ⟨h1, h2, h3⟩⟩
theorem QY {a n : Int} (ha : 0 ≤ a) (hn : 0 < n) : 0 ≤ a.tmod n ∧ a.tmod n < n := by
 rw [Int.tmod_eq_emod_of_nonneg ha]
 exact ⟨Int.emod_nonneg _ (by omega), Int.emod_lt_of_pos _ hn⟩
theorem zX (c : Cur) (h : jj c) (n : Int) : ∃ (y : Int) (c' : Cur), Ev (fun k => zm k (c, n)) (y, c') ∧ 0 ≤ y ∧ (0 < n → y < n) ∧ jj c' := by
 by_cases h0 : n ≤ 0
 ·exact ⟨0, c, Ev.step (fun k => cU k c n) (Ev.yes (decide_eq_true h0) (Ev.pure _)), Int.le_refl _, fun h => by omega, h⟩
 ·have hn : 0 < n := by omega
  by_cases h1 : n ≤ 256
  ·obtain ⟨y, c', e, a1, a2, a3⟩ := eS c h
   have hb := QY a1 hn
   exact ⟨_, _, Ev.step (fun k => cU k c n) (Ev.no (decide_eq_false h0) (Ev.yes (decide_eq_true h1) (Ev.bind e (Ev.yes (by simp; omega) (Ev.pure _))))), hb.1, fun _ => hb.2, a3⟩
  ·obtain ⟨y, c1, e, a1, a2, a3⟩ := eS c h
   obtain ⟨z, c2, f, b1, b2, b3⟩ := eS c1 a3
   obtain ⟨u, c3, g, d1, d2, d3⟩ := eS c2 b3
   obtain ⟨v, c4, i, f1, f2, f3⟩ := eS c3 d3
   have w1 : IntKind.i64.wrap (y * (16777216 : Int)) = y * 16777216 := zg (by omega) (by omega)
   have w2 : IntKind.i64.wrap (z * (65536 : Int)) = z * 65536 := zg (by omega) (by omega)
   have w3 : IntKind.i64.wrap (u * (256 : Int)) = u * 256 := zg (by omega) (by omega)
   have hnn : 0 ≤ IntKind.i64.wrap ((IntKind.i64.wrap ((IntKind.i64.wrap ((IntKind.i64.wrap (y * (16777216 : Int))) + (IntKind.i64.wrap (z * (65536 : Int))))) + (IntKind.i64.wrap (u * (256 : Int))))) + v) := by
    rw [w1, w2, w3, zg (x := y * 16777216 + z * 65536) (by omega) (by omega), zg (x := y * 16777216 + z * 65536 + u * 256) (by omega) (by omega), zg (by omega) (by omega)]
    omega
   have hb := QY hnn hn
   exact ⟨_, _, Ev.step (fun k => cU k c n) (Ev.no (decide_eq_false h0) (Ev.no (decide_eq_false h1) (Ev.bind e (Ev.bind f (Ev.bind g (Ev.bind i (Ev.yes (by simp; omega) (Ev.pure _)))))))), hb.1, fun _ => hb.2, f3⟩
theorem V1 (c : Cur) (h : jj c) (n : Int) : ∃ (b : Bool) (c' : Cur), Ev (fun k => Ze k (c, n)) (b, c') ∧ jj c' := by
 obtain ⟨y, c', e, _, _, a3⟩ := zX c h n
 exact ⟨_, _, Ev.step (fun k => MD k c n) (Ev.bind e (Ev.pure _)), a3⟩
theorem U2 (code : List Int) (hm : code.length ≤ 9223372036854775807) : ∀ (r : List Int) (i : Nat) (h : Int), code.drop i = r → ∃ h' : Int, Ev (fun k => cT k code h (i : Int)) (code, ((0 : Int), h'))
 | [], i, h, hr => by
   have a := zz hr
   exact ⟨h, Ev.step (fun k => fG k _ _ _) (Ev.no a.g (Ev.pure _))⟩
 | x :: r, i, h, hr => by
   have a := zi hr (by rw [zc]; exact hm)
   by_cases h4 : (i : Int) < 4000
   ·obtain ⟨h', ih⟩ := U2 code hm r (i + 1) _ a.next
    refine ⟨h', Ev.step (fun k => fG k _ _ _) (Ev.yes a.g (Ev.yes (decide_eq_true h4) (Ev.yes a.z (Ev.yes a.g ?_))))⟩
    rw [a.w]
    exact ih
   ·exact ⟨h, Ev.step (fun k => fG k _ _ _) (Ev.yes a.g (Ev.no (decide_eq_false h4) (Ev.pure _)))⟩
theorem GF (code : List Int) (hm : code.length ≤ 9223372036854775807) : ∃ c : Cur, Ev (fun k => P5 k code) c ∧ jj c := by
 obtain ⟨h', e⟩ := U2 code hm _ 0 (IntKind.i64.wrap ((2070 : Int) + (code.length : Int))) rfl
 exact ⟨_, Ev.step (fun k => Km k code) e, hm, Int.le_refl _, by simp⟩
end Qq
namespace Qq
open Go Go.Vt Pt
set_option linter.unusedVariables false
set_option linter.unusedSimpArgs false
theorem bU (n : Nat) (hn : n ≤ 12) : ∀ (m i : Nat) (out : List Int) (c : Cur), i + m = n → out.length = i → out.Perm (upTo i) → jj c →
 ∃ (p : List Int) (c' : Cur), Ev (fun k => vE k (n : Int) (i : Int) out c.1 c.2.1 c.2.2) (p, c') ∧ p.Perm (upTo n) ∧ jj c'
 | 0, i, out, c, h, hl, hp, hc => by
   have hi : i = n := by omega
   subst hi
   exact ⟨out, c, Ev.step (fun k => fe k _ _ _ _ _ _) (Ev.no (decide_eq_false (by omega)) (Ev.pure _)), hp, hc⟩
 | m + 1, i, out, c, h, hl, hp, hc => by
   have hw : IntKind.i64.wrap ((i : Int) + (1 : Int)) = ((i + 1 : Nat) : Int) := by rw [zg (by omega) (by omega)]; simp
   obtain ⟨y, c1, e, a1, a2, a3⟩ := zX c hc ((i + 1 : Nat) : Int)
   have hy := a2 (by omega)
   obtain ⟨j, rfl⟩ : ∃ j : Nat, y = (j : Int) := ⟨y.toNat, by omega⟩
   have hj : j < i + 1 := by omega
   have hvl : (out ++ [(i : Int)]).length = i + 1 := by simp [hl]
   have hi' : i < (out ++ [(i : Int)]).length := by omega
   have hj' : j < (out ++ [(i : Int)]).length := by omega
   have hvi : (out ++ [(i : Int)])[i] = (i : Int) := by rw [List.getElem_append_right (by omega)]; simp
   have hgd : (out ++ [(i : Int)]).getD j 0 = (out ++ [(i : Int)])[j] := by rw [List.getD, List.getElem?_eq_getElem hj']; rfl
   have hperm := List.set_set_perm hi' hj'
   rw [hvi] at hperm
   have hperm2 : (((out ++ [(i : Int)]).set i ((out ++ [(i : Int)]).getD j 0)).set j (i : Int)).Perm (upTo (i + 1)) := by
    rw [hgd, H9]
    exact hperm.trans (hp.append_right _)
   obtain ⟨p, c2, e2, b1, b2⟩ := bU n hn m (i + 1) _ c1 (by omega) (by simp [hl]) hperm2 a3
   refine ⟨p, c2, Ev.step (fun k => fe k _ _ _ _ _ _) (Ev.yes (decide_eq_true (by omega)) ?_), b1, b2⟩
   rw [hw]
   refine Ev.bind e ?_
   simp only [Int.toNat_natCast]
   refine Ev.yes (by rw [za]; simp; omega) (Ev.yes (by simp) (Ev.yes (by rw [hvl]; simp; omega) (Ev.yes (by rw [hvl]; simp; omega) (Ev.yes (by simp) (Ev.yes (by rw [hvl]; simp; omega) (Ev.yes (by rw [hvl]; simp) (Ev.yes (by simp) (Ev.yes (by simp [hl]; omega) (Ev.yes (by simp [hl]; omega) e2)))))))))
theorem Nn (c : Cur) (hc : jj c) (n : Nat) (hn : n ≤ 12) : ∃ (p : List Int) (c' : Cur), Ev (fun k => Zc k (c, (n : Int))) (p, c') ∧ p.Perm (upTo n) ∧ jj c' := by
 obtain ⟨p, c', e, h1, h2⟩ := bU n hn n 0 [] c (by omega) rfl (by simp [upTo]) hc
 exact ⟨p, c', Ev.step (fun k => Sy k _ _) e, h1, h2⟩
theorem Ez : ∀ (r done : List Int), (done ++ r.map card).Nodup → (∀ x ∈ r, 0 ≤ card x) → pk done r = true
 | [], done, _, _ => rfl
 | x :: r, done, hn, h0 => by
   unfold pk
   have hx : card x ∉ done := fun hm => by
    rw [List.map_cons, List.nodup_append] at hn
    exact hn.2.2 _ hm _ (by simp) rfl
   have hc : done.contains (card x) = false := by simpa using hx
   rw [hc, Ez r (done ++ [card x]) (by simpa using hn) (fun y hy => h0 y (List.mem_cons_of_mem _ hy))]
   simp [h0 x (by simp)]
theorem Kv {p : List Int} (hn : (p.map card).Nodup) (h0 : ∀ x ∈ p, 0 ≤ card x) : zj p = true := Ez p [] (by simpa using hn) h0
structure PkI (q p : List Int) : Prop where
 m : p.map card = q
 b : ∀ x ∈ p, -12 ≤ x ∧ x ≤ 11
theorem Fh {x : Int} (h1 : -12 ≤ x) (h2 : x ≤ 11) : card (-1 - x) = card x := by
 unfold card
 by_cases h : 0 ≤ x
 ·rw [if_neg (by omega), if_pos (by omega), if_pos (by omega)]; omega
 ·rw [if_pos (by omega), if_neg (by omega), if_pos (by omega)]
theorem PkI.flip {q p : List Int} (h : PkI q p) {i : Nat} (hi : i < p.length) : PkI q (p.set i (-1 - p.getD i 0)) := by
 have hg : p.getD i 0 = p[i] := by rw [List.getD, List.getElem?_eq_getElem hi]; rfl
 have hb := h.b p[i] (List.getElem_mem hi)
 refine ⟨?_, fun x hx => ?_⟩
 ·rw [hg, List.map_set, Fh hb.1 hb.2, ← h.m]
  have : card p[i] = (p.map card)[i]'(by simpa using hi) := by simp
  rw [this, List.set_getElem_self]
 ·rcases List.mem_or_eq_of_mem_set hx with h1 | h1
  ·exact h.b x h1
  ·rw [h1, hg]; omega
theorem bg (q : List Int) (n : Nat) (hn : n ≤ 12) : ∀ (m i : Nat) (p : List Int) (c : Cur), i + m = n → p.length = n → PkI q p → jj c →
 ∃ (p' : List Int) (c' : Cur), Ev (fun k => uX k (n : Int) (i : Int) p c.1 c.2.1 c.2.2) (p', c') ∧ PkI q p' ∧ p'.length = n ∧ jj c'
 | 0, i, p, c, h, hl, hp, hc => by
   exact ⟨p, c, Ev.step (fun k => j8 k _ _ _ _ _ _) (Ev.no (decide_eq_false (by omega)) (Ev.pure _)), hp, hl, hc⟩
 | m + 1, i, p, c, h, hl, hp, hc => by
   have hw : IntKind.i64.wrap ((i : Int) + (1 : Int)) = ((i + 1 : Nat) : Int) := by rw [zg (by omega) (by omega)]; simp
   obtain ⟨b, c1, e, a3⟩ := V1 c hc 3
   have hi : i < p.length := by omega
   cases b with
   | true =>
     have hf := hp.flip hi
     have hg : p.getD i 0 = p[i] := by rw [List.getD, List.getElem?_eq_getElem hi]; rfl
     have hb := hp.b p[i] (List.getElem_mem hi)
     obtain ⟨p', c2, e2, b1, b2, b3⟩ := bg q n hn m (i + 1) _ c1 (by omega) (by simpa using hl) hf a3
     refine ⟨p', c2, Ev.step (fun k => j8 k _ _ _ _ _ _) (Ev.yes (decide_eq_true (by omega)) (Ev.bind e ?_)), b1, b2, b3⟩
     simp only [Int.toNat_natCast]
     have hw2 : IntKind.i64.wrap ((-1 : Int) - p.getD i 0) = -1 - p.getD i 0 := by rw [hg]; exact zg (by omega) (by omega)
     rw [hw, hw2]
     exact Ev.yes rfl (Ev.yes (by simp) (Ev.yes (by simp; omega) (Ev.yes (by simp; omega) (Ev.yes (by simp) (Ev.yes (by simp; omega) (Ev.yes (by simp; omega) e2))))))
   | false =>
     obtain ⟨p', c2, e2, b1, b2, b3⟩ := bg q n hn m (i + 1) p c1 (by omega) hl hp a3
     refine ⟨p', c2, Ev.step (fun k => j8 k _ _ _ _ _ _) (Ev.yes (decide_eq_true (by omega)) (Ev.bind e ?_)), b1, b2, b3⟩
     rw [hw]
     exact Ev.no rfl e2
theorem K6 {n : Nat} {x : Int} (h : x ∈ upTo n) : 0 ≤ x ∧ x < n := by
 unfold upTo at h
 obtain ⟨i, hi, rfl⟩ := List.mem_map.1 h
 have := List.mem_range.1 hi
 omega
theorem JP (n : Nat) : (upTo n).Nodup := by
 unfold upTo
 exact List.Pairwise.map _ (fun a b h e => h (by omega)) List.nodup_range
theorem FM {n : Nat} (hn : n ≤ 12) {p : List Int} (h : p.Perm (upTo n)) : PkI p p := by
 have hb : ∀ x ∈ p, 0 ≤ x ∧ x ≤ 11 := fun x hx => by have := K6 (h.mem_iff.1 hx); omega
 refine ⟨?_, fun x hx => by have := hb x hx; omega⟩
 conv => rhs; rw [← List.map_id p]
 exact List.map_congr_left fun x hx => by unfold card; rw [if_pos (hb x hx)]; rfl
structure Drawn (most : Nat) (p : List Int) : Prop where
 ok : zj p = true
 pos : 1 ≤ p.length
 le : p.length ≤ most
theorem Ht (c : Cur) (hc : jj c) (most : Nat) (h1 : 1 ≤ most) (h12 : most ≤ 12) : ∃ (p : List Int) (c' : Cur), Ev (fun k => Sz k (c, (most : Int))) (p, c') ∧ Drawn most p ∧ jj c' := by
 obtain ⟨y, c1, e1, a1, a2, a3⟩ := zX c hc (most : Int)
 have hy := a2 (by omega)
 obtain ⟨j, rfl⟩ : ∃ j : Nat, y = (j : Int) := ⟨y.toNat, by omega⟩
 have hw : IntKind.i64.wrap ((1 : Int) + (j : Int)) = ((j + 1 : Nat) : Int) := by rw [zg (by omega) (by omega)]; omega
 obtain ⟨p, c2, e2, b1, b2⟩ := Nn c1 a3 (j + 1) (by omega)
 have hl : p.length = j + 1 := by rw [b1.length_eq, FB]
 obtain ⟨b, c3, e3, d3⟩ := V1 c2 b2 2
 have hI := FM (by omega) b1
 have hnd : p.Nodup := b1.nodup_iff.2 (JP _)
 have h0 : ∀ x ∈ p, 0 ≤ x := fun x hx => (K6 (b1.mem_iff.1 hx)).1
 have fin : ∀ p', PkI p p' → p'.length = j + 1 → Drawn most p' := fun p' hp' hl' => by
  refine ⟨Kv (by rw [hp'.m]; exact hnd) (fun x hx => h0 _ ?_), by omega, by omega⟩
  rw [← hp'.m]; exact List.mem_map_of_mem hx
 cases b with
 | true =>
   obtain ⟨p', c4, e4, f1, f2, f3⟩ := bg p (j + 1) (by omega) (j + 1) 0 p c3 (by omega) hl hI d3
   refine ⟨p', c4, Ev.step (fun k => UO k _ _) (Ev.bind e1 ?_), fin p' f1 f2, f3⟩
   dsimp only
   rw [hw]
   refine Ev.bind e2 (Ev.bind e3 (Ev.yes rfl ?_))
   dsimp only
   rw [hl]
   exact e4
 | false =>
   refine ⟨p, c3, Ev.step (fun k => UO k _ _) (Ev.bind e1 ?_), fin p hI hl, d3⟩
   dsimp only
   rw [hw]
   exact Ev.bind e2 (Ev.bind e3 (Ev.no rfl (Ev.pure _)))
end Qq
namespace Qq
open Go Go.Vt Pt
set_option linter.unusedVariables false
set_option linter.unusedSimpArgs false
set_option linter.unnecessarySimpa false
end Qq
namespace Qq
open Go Go.Vt Pt
set_option linter.unusedVariables false
set_option linter.unusedSimpArgs false
structure KL (l : Packs) : Prop where
 ne : l ≠ []
 len : l.length ≤ 3000
 ss : SS l
 arr : ∃ p, zj p = true ∧ 1 ≤ p.length ∧ ∀ q ∈ l, Pm q p
theorem KL.ok {l : Packs} (h : KL l) {q : List Int} (hq : q ∈ l) : zj q = true ∧ 1 ≤ q.length ∧ q.length ≤ 12 := by
 obtain ⟨p, h1, h2, h3⟩ := h.arr
 obtain ⟨k1, k2⟩ := bd h1 (h3 q hq)
 exact ⟨k1, by omega, (yk k1).2.2⟩
end Qq
namespace Qq
open Go Go.Vt Pt
set_option linter.unusedVariables false
set_option linter.unusedSimpArgs false
end Qq
namespace Qq
open Go Go.Vt Pt
set_option linter.unusedVariables false
set_option linter.unusedSimpArgs false
theorem Hs (c : Cur) (hc : jj c) (n : Nat) (h1 : 1 ≤ n) (h12 : n ≤ 12) : ∃ (m : Int × Int) (c' : Cur), Ev (fun k => aW k (c, (n : Int))) (m, c') ∧ ja (n : Int) m = true ∧ jj c' := by
 obtain ⟨y, c1, e1, a1, a2, a3⟩ := zX c hc 9
 have hy := a2 (by omega)
 have hw : IntKind.i64.wrap ((1 : Int) + y) = 1 + y := zg (by omega) (by omega)
 have hw2 : IntKind.i64.wrap ((n : Int) + (1 : Int)) = (n : Int) + 1 := zg (by omega) (by omega)
 obtain ⟨u, cu, eu, u1, u2, u3⟩ := zX c1 a3 ((n : Int) + 1)
 obtain ⟨v, cv, ev, v1, v2, v3⟩ := zX c1 a3 2
 obtain ⟨w, cw, ew, w1, w2, w3⟩ := zX c1 a3 (n : Int)
 have hu := u2 (by omega)
 have hv := v2 (by omega)
 have hww := w2 (by omega)
 have dn : decide ((1 : Int) ≤ (n : Int)) = true := decide_eq_true (by omega)
 have dm : decide ((n : Int) ≤ (12 : Int)) = true := decide_eq_true (by omega)
 have st : ∀ {z : (Int × Int) × Cur}, Ev (fun k => (zm k (c, (9 : Int))).bind fun y1 =>
  bif ((IntKind.i64.wrap ((1 : Int) + y1.1)) == (1 : Int)) then ((zm k (y1.2, (IntKind.i64.wrap ((n : Int) + (1 : Int))))).bind fun y2 => some (((IntKind.i64.wrap ((1 : Int) + y1.1)), y2.1), y2.2))
  else (bif ((IntKind.i64.wrap ((1 : Int) + y1.1)) == (2 : Int)) then ((zm k (y1.2, (IntKind.i64.wrap ((n : Int) + (1 : Int))))).bind fun y3 => some (((IntKind.i64.wrap ((1 : Int) + y1.1)), y3.1), y3.2))
  else (bif ((IntKind.i64.wrap ((1 : Int) + y1.1)) == (3 : Int)) then ((zm k (y1.2, (IntKind.i64.wrap ((n : Int) + (1 : Int))))).bind fun y4 => some (((IntKind.i64.wrap ((1 : Int) + y1.1)), y4.1), y4.2))
  else (bif ((IntKind.i64.wrap ((1 : Int) + y1.1)) == (4 : Int)) then ((zm k (y1.2, (2 : Int))).bind fun y5 => some (((IntKind.i64.wrap ((1 : Int) + y1.1)), y5.1), y5.2))
  else (bif ((IntKind.i64.wrap ((1 : Int) + y1.1)) == (5 : Int)) then ((zm k (y1.2, (2 : Int))).bind fun y6 => some (((IntKind.i64.wrap ((1 : Int) + y1.1)), y6.1), y6.2))
  else (bif ((IntKind.i64.wrap ((1 : Int) + y1.1)) == (7 : Int)) then ((zm k (y1.2, (2 : Int))).bind fun y7 => some (((IntKind.i64.wrap ((1 : Int) + y1.1)), y7.1), y7.2))
  else (bif ((IntKind.i64.wrap ((1 : Int) + y1.1)) == (8 : Int)) then ((zm k (y1.2, (n : Int))).bind fun y8 => some (((IntKind.i64.wrap ((1 : Int) + y1.1)), y8.1), y8.2))
  else (bif ((IntKind.i64.wrap ((1 : Int) + y1.1)) == (9 : Int)) then ((zm k (y1.2, (n : Int))).bind fun y9 => some (((IntKind.i64.wrap ((1 : Int) + y1.1)), y9.1), y9.2))
  else (some (((IntKind.i64.wrap ((1 : Int) + y1.1)), (0 : Int)), y1.2)))))))))) z → Ev (fun k => aW k (c, (n : Int))) z := fun h => Ev.step (fun k => MA k c (n : Int)) h
 have hcase : y = 0 ∨ y = 1 ∨ y = 2 ∨ y = 3 ∨ y = 4 ∨ y = 5 ∨ y = 6 ∨ y = 7 ∨ y = 8 := by omega
 rcases hcase with rfl | rfl | rfl | rfl | rfl | rfl | rfl | rfl | rfl
 ·refine ⟨(1, u), cu, st (Ev.bind e1 (Ev.yes rfl ?_)), ?_, u3⟩
  ·rw [hw2]; exact Ev.bind eu (Ev.some rfl)
  ·unfold ja; simp [dn, dm]; omega
 ·refine ⟨(2, u), cu, st (Ev.bind e1 (Ev.no rfl (Ev.yes rfl ?_))), ?_, u3⟩
  ·rw [hw2]; exact Ev.bind eu (Ev.some rfl)
  ·unfold ja; simp [dn, dm]; omega
 ·refine ⟨(3, u), cu, st (Ev.bind e1 (Ev.no rfl (Ev.no rfl (Ev.yes rfl ?_)))), ?_, u3⟩
  ·rw [hw2]; exact Ev.bind eu (Ev.some rfl)
  ·unfold ja; simp [dn, dm]; omega
 ·refine ⟨(4, v), cv, st (Ev.bind e1 (Ev.no rfl (Ev.no rfl (Ev.no rfl (Ev.yes rfl ?_))))), ?_, v3⟩
  ·exact Ev.bind ev (Ev.some rfl)
  ·unfold ja; simp [dn, dm]; omega
 ·refine ⟨(5, v), cv, st (Ev.bind e1 (Ev.no rfl (Ev.no rfl (Ev.no rfl (Ev.no rfl (Ev.yes rfl ?_)))))), ?_, v3⟩
  ·exact Ev.bind ev (Ev.some rfl)
  ·unfold ja; simp [dn, dm]; omega
 ·refine ⟨(6, 0), c1, st (Ev.bind e1 (Ev.no rfl (Ev.no rfl (Ev.no rfl (Ev.no rfl (Ev.no rfl (Ev.no rfl (Ev.no rfl (Ev.no rfl ?_))))))))), ?_, a3⟩
  ·exact Ev.some rfl
  ·unfold ja; simp [dn, dm] <;> omega
 ·refine ⟨(7, v), cv, st (Ev.bind e1 (Ev.no rfl (Ev.no rfl (Ev.no rfl (Ev.no rfl (Ev.no rfl (Ev.yes rfl ?_))))))), ?_, v3⟩
  ·exact Ev.bind ev (Ev.some rfl)
  ·unfold ja; simp [dn, dm]; omega
 ·refine ⟨(8, w), cw, st (Ev.bind e1 (Ev.no rfl (Ev.no rfl (Ev.no rfl (Ev.no rfl (Ev.no rfl (Ev.no rfl (Ev.yes rfl ?_)))))))), ?_, w3⟩
  ·exact Ev.bind ew (Ev.some rfl)
  ·unfold ja; simp [dn, dm]; omega
 ·refine ⟨(9, w), cw, st (Ev.bind e1 (Ev.no rfl (Ev.no rfl (Ev.no rfl (Ev.no rfl (Ev.no rfl (Ev.no rfl (Ev.no rfl (Ev.yes rfl ?_))))))))), ?_, w3⟩
  ·exact Ev.bind ew (Ev.some rfl)
  ·unfold ja; simp [dn, dm]; omega
end Qq
namespace Qq
open Go Go.Vt Pt
set_option linter.unusedVariables false
set_option linter.unusedSimpArgs false
theorem eL (n : Nat) (hn : 1 ≤ n) (hm : n ≤ 12) : ∀ (d i : Nat), i + d = n → Ev (fun k => uz k (n : Int) (i : Int) (upTo i)) (upTo n)
 | 0, i, h => by
   have e : i = n := by omega
   subst e
   refine Ev.step (fun k => eM k _ _ _) ?_
   rw [Dq (by omega)]
   refine Ev.no rfl (Ev.yes ?_ (Ev.pure _))
   have : (upTo i).length = i := by simp [upTo]
   cases hx : upTo i with
   | nil => rw [hx] at this; simp at this; omega
   | cons => rfl
 | d + 1, i, h => by
   have u := DH (n := (n : Int)) (i := i) (by omega) (by omega)
   refine Ev.step (fun k => eM k _ _ _) ?_
   simp only [u.g, u.w, cond_true]
   refine Ev.yes (by rw [za]; simp [upTo]; omega) ?_
   have := eL n hn hm d (i + 1) (by omega)
   have e : upTo (i + 1) = upTo i ++ [(i : Int)] := by simp [upTo, List.range_succ]
   rw [e] at this
   exact this
theorem vJ : Ev (fun k => ud k 4) (upTo 4) := by
 refine Ev.step (fun k => Qw k _) (Ev.bind (xf _ _ _) (Ev.no rfl ?_))
 exact eL 4 (by omega) (by omega) 4 0 rfl
end Qq
namespace Qq
open Go Go.Vt Pt
set_option linter.unusedVariables false
set_option linter.unusedSimpArgs false
set_option linter.unnecessarySimpa false
theorem Hq (c : Cur) (hc : jj c) (n : Nat) (h1 : 1 ≤ n) (h7 : n ≤ 7) : ∃ (s : Step) (c' : Cur), Ev (fun k => eI k (c, (n : Int))) ((s.1, (s.2.1.1, (s.2.1.2, s.2.2))), c') ∧ zP (n : Int) s = true ∧ jj c' := by
 obtain ⟨y, c1, e1, a1, a2, a3⟩ := zX c hc 4
 have hy := a2 (by omega)
 have dn : decide ((1 : Int) ≤ (n : Int)) = true := decide_eq_true (by omega)
 have dm : decide ((n : Int) ≤ (12 : Int)) = true := decide_eq_true (by omega)
 have st : ∀ {z : (Int × Int × Int × Int) × Cur}, Ev (fun k => (zm k (c, (4 : Int))).bind fun y1 =>
  bif (y1.1 == (0 : Int)) then
   ((Wk k (y1.2, [(0 : Int), (1 : Int), (1 : Int), (3 : Int), (4 : Int)])).bind fun y2 =>
   bif (y2.1 == (3 : Int)) then
    (bif decide ((n : Int) < (2 : Int)) then
      (some (((2 : Int), ((0 : Int), ((0 : Int), (1 : Int)))), y2.2))
    else (some (((2 : Int), ((0 : Int), ((0 : Int), y2.1))), y2.2)))
   else (some (((2 : Int), ((0 : Int), ((0 : Int), y2.1))), y2.2)))
  else (bif (y1.1 == (1 : Int)) then
   ((zm k (y1.2, (n : Int))).bind fun y3 =>
   some (((3 : Int), ((0 : Int), ((0 : Int), y3.1))), y3.2))
   else ((aW k (y1.2, (n : Int))).bind fun y4 =>
    some (((1 : Int), (y4.1.1, (y4.1.2, (0 : Int)))), y4.2)))) z → Ev (fun k => eI k (c, (n : Int))) z := fun h => Ev.step (fun k => Mn k c (n : Int)) h
 have hcase : y = 0 ∨ y = 1 ∨ 2 ≤ y := by omega
 rcases hcase with rfl | rfl | h2
 ·obtain ⟨u, cu, eu, u1, u2, u3⟩ := zX c1 a3 5
  have hu := u2 (by omega)
  have ep : Ev (fun k => Wk k (c1, [(0 : Int), (1 : Int), (1 : Int), (3 : Int), (4 : Int)])) (([(0 : Int), (1 : Int), (1 : Int), (3 : Int), (4 : Int)].getD u.toNat 0), cu) := by
   refine Ev.step (fun k => MC k c1 _) (Ev.bind eu (Ev.yes (decide_eq_true u1) (Ev.yes (decide_eq_true (by simpa using hu)) (Ev.pure _))))
  have hcu : u = 0 ∨ u = 1 ∨ u = 2 ∨ u = 3 ∨ u = 4 := by omega
  have one : Ev (fun k => eI k (c, (n : Int))) (((2 : Int), ((0 : Int), ((0 : Int), (1 : Int)))), cu) → ∃ (s : Step) (c' : Cur), Ev (fun k => eI k (c, (n : Int))) ((s.1, (s.2.1.1, (s.2.1.2, s.2.2))), c') ∧ zP (n : Int) s = true ∧ jj c' := fun h => ⟨(2, (0, 0), 1), cu, h, by unfold zP; simp [dn, dm], u3⟩
  rcases hcu with rfl | rfl | rfl | rfl | rfl
  ·exact ⟨(2, (0, 0), 0), cu, st (Ev.bind e1 (Ev.yes rfl (Ev.bind ep (Ev.no rfl (Ev.pure _))))), by unfold zP; simp [dn, dm], u3⟩
  ·exact one (st (Ev.bind e1 (Ev.yes rfl (Ev.bind ep (Ev.no rfl (Ev.pure _))))))
  ·exact one (st (Ev.bind e1 (Ev.yes rfl (Ev.bind ep (Ev.no rfl (Ev.pure _))))))
  ·by_cases h2 : (n : Int) < 2
   ·exact one (st (Ev.bind e1 (Ev.yes rfl (Ev.bind ep (Ev.yes rfl (Ev.yes (decide_eq_true h2) (Ev.pure _)))))))
   ·exact ⟨(2, (0, 0), 3), cu, st (Ev.bind e1 (Ev.yes rfl (Ev.bind ep (Ev.yes rfl (Ev.no (decide_eq_false h2) (Ev.pure _)))))), by unfold zP; simp [dn, dm]; omega, u3⟩
  ·exact ⟨(2, (0, 0), 4), cu, st (Ev.bind e1 (Ev.yes rfl (Ev.bind ep (Ev.no rfl (Ev.pure _))))), by unfold zP; simp [dn, dm], u3⟩
 ·obtain ⟨u, cu, eu, u1, u2, u3⟩ := zX c1 a3 (n : Int)
  have hu := u2 (by omega)
  exact ⟨(3, (0, 0), u), cu, st (Ev.bind e1 (Ev.no rfl (Ev.yes rfl (Ev.bind eu (Ev.pure _))))), by unfold zP; simp [dn, dm]; omega, u3⟩
 ·obtain ⟨m, cm, em, m1, m2⟩ := Hs c1 a3 n h1 (by omega)
  refine ⟨(1, m, 0), cm, st (Ev.bind e1 (Ev.no (by simp; omega) (Ev.no (by simp; omega) (Ev.bind em (Ev.pure _))))), ?_, m2⟩
  unfold zP
  rw [dn, dm]
  simp [m1]
theorem Gu {p : List Int} (h : zj p = true) (h1 : 1 ≤ p.length) : 0 ≤ pos p (card (p.getD 0 0)) := by
 cases p with
 | nil => simp at h1
 | cons x r =>
   have := ((yk h).2.1 x (by simp)).1
   show 0 ≤ pos (x :: r) (card x)
   unfold pos
   rw [if_neg (by omega)]
   unfold posF
   rw [if_pos rfl]
   omega
structure Made (t : Trick) : Prop where
 ok : zf t = true
 le : t.1.length ≤ 4
 st : t.2.1.length ≤ 4
theorem Ly (st : List Step) (s : Step) : wc (st ++ [s]) = (wc st || s.1 == 3) := by unfold wc; simp
theorem Ri {p : List Int} {st : List Step} {c a b : Int} (hp : zj p = true) (h1 : 1 ≤ p.length) (h4 : p.length ≤ 4) (hs : st.length ≤ 4) (hk : ∀ s ∈ st, zP (p.length : Int) s = true) (hc : wA p.length p (wc st) c a b = true) : Made (p, st, c, a, b) := by
 refine ⟨?_, h4, hs⟩
 unfold zf
 have hz : (p.length == 0) = false := by simp; intro e; rw [e] at h1; simp at h1
 have e12 : decide (st.length ≤ 12) = true := decide_eq_true (by omega)
 simp only [hp, hz, e12, Bool.true_and, Bool.not_false]
 rw [hc, Bool.and_true]
 exact List.all_eq_true.2 hk
theorem WI (p : List Int) (hp : zj p = true) (h1 : 1 ≤ p.length) (h4 : p.length ≤ 4) : ∀ (m : Nat) (st : List Step) (c : Cur), st.length + m ≤ 4 → (∀ s ∈ st, zP (p.length : Int) s = true) → jj c →
 ∃ (t : Trick) (c' : Cur), Ev (fun k => wn k (p.length : Int) (wc st) (m : Int) 0 0 0 0 0 0 p st c.1 c.2.1 c.2.2) (t, c') ∧ Made t ∧ jj c'
 | 0, st, c, hl, hs, hc => by
   obtain ⟨y, c1, e1, a1, a2, a3⟩ := zX c hc 4
   have hy := a2 (by omega)
   have hw : IntKind.i64.wrap ((p.length : Int) + (1 : Int)) = (p.length : Int) + 1 := zg (by omega) (by omega)
   have st0 : ∀ {z : Trick × Cur} {f : Nat → Option (Trick × Cur)}, (∀ k, wn (k + 1) (p.length : Int) (wc st) ((0 : Nat) : Int) 0 0 0 0 0 0 p st c.1 c.2.1 c.2.2 = f k) → Ev f z → Ev (fun k => wn k (p.length : Int) (wc st) ((0 : Nat) : Int) 0 0 0 0 0 0 p st c.1 c.2.1 c.2.2) z := fun h1 h2 => Ev.step h1 h2
   have hcase : y = 0 ∨ y = 1 ∨ y = 2 ∨ y = 3 := by omega
   rcases hcase with rfl | rfl | rfl | rfl
   ·cases hn : wc st with
    | true =>
      obtain ⟨u, cu, eu, u1, u2, u3⟩ := zX c1 a3 (p.length : Int)
      have hu := u2 (by omega)
      refine ⟨(p, st, 1, u, 0), cu, Ev.step (fun k => xB k _ _ _ _ _ _ _ _ _ _ _ _ _ _) (Ev.no rfl (Ev.bind e1 (Ev.yes rfl (Ev.yes rfl (Ev.bind eu (Ev.pure _)))))), Ri hp h1 h4 (by omega) hs ?_, u3⟩
      unfold wA
      rw [hn]
      simp; omega
    | false =>
      refine ⟨(p, st, 0, 0, 0), c1, Ev.step (fun k => xB k _ _ _ _ _ _ _ _ _ _ _ _ _ _) (Ev.no rfl (Ev.bind e1 (Ev.yes rfl (Ev.no rfl (Ev.pure _))))), Ri hp h1 h4 (by omega) hs ?_, a3⟩
      unfold wA
      simp
   ·obtain ⟨u, cu, eu, u1, u2, u3⟩ := zX c1 a3 ((p.length : Int) + 1)
    have hu := u2 (by omega)
    refine ⟨(p, st, 2, u, 0), cu, Ev.step (fun k => xB k _ _ _ _ _ _ _ _ _ _ _ _ _ _) (Ev.no rfl (Ev.bind e1 (Ev.no rfl (Ev.yes rfl ?_)))), Ri hp h1 h4 (by omega) hs ?_, u3⟩
    ·rw [hw]; exact Ev.bind eu (Ev.pure _)
    ·unfold wA
     simp; omega
   ·obtain ⟨u, cu, eu, u1, u2, u3⟩ := zX c1 a3 (p.length : Int)
    have hu := u2 (by omega)
    refine ⟨(p, st, 3, card (p.getD 0 0), u), cu, Ev.step (fun k => xB k _ _ _ _ _ _ _ _ _ _ _ _ _ _) (Ev.no rfl (Ev.bind e1 (Ev.no rfl (Ev.no rfl (Ev.yes rfl (Ev.yes (decide_eq_true (by omega)) (Ev.yes (decide_eq_true (by omega)) (Ev.bind (ws _) (Ev.bind eu (Ev.pure _)))))))))), Ri hp h1 h4 (by omega) hs ?_, u3⟩
    have := Gu hp h1
    unfold wA
    simp only [this]
    simp; omega
   ·refine ⟨(p, st, 4, 0, 0), c1, Ev.step (fun k => xB k _ _ _ _ _ _ _ _ _ _ _ _ _ _) (Ev.no rfl (Ev.bind e1 (Ev.no rfl (Ev.no rfl (Ev.no rfl (Ev.pure _)))))), Ri hp h1 h4 (by omega) hs ?_, a3⟩
    unfold wA
    simp
 | m + 1, st, c, hl, hs, hc => by
   obtain ⟨s, c1, e1, s1, hc1⟩ := Hq c hc p.length h1 (by omega)
   obtain ⟨t, c2, e2, ht, hc2⟩ := WI p hp h1 h4 m (st ++ [s]) c1 (by simp; omega) (fun q hq => by
    rcases List.mem_append.1 hq with hq | hq
    ·exact hs q hq
    ·have : q = s := by simpa using hq
     rw [this]; exact s1) hc1
   have hw : IntKind.i64.wrap (((m + 1 : Nat) : Int) - (1 : Int)) = (m : Int) := by rw [zg (by omega) (by omega)]; omega
   refine ⟨t, c2, Ev.step (fun k => xB k _ _ _ _ _ _ _ _ _ _ _ _ _ _) (Ev.yes (decide_eq_true (by omega)) (Ev.bind e1 ?_)), ht, hc2⟩
   rw [hw]
   rw [Ly] at e2
   cases hn : wc st with
   | true =>
     rw [hn, Bool.true_or] at e2
     exact Ev.yes rfl (Ev.yes (by rw [za]; simp; omega) e2)
   | false =>
     rw [hn, Bool.false_or] at e2
     exact Ev.no rfl (Ev.yes (by rw [za]; simp; omega) e2)
theorem KA (c : Cur) (hc : jj c) : ∃ (t : Trick) (c' : Cur), Ev (fun k => VL k c) (t, c') ∧ Made t ∧ jj c' := by
 obtain ⟨y, c1, e1, a1, a2, a3⟩ := zX c hc 4
 have hy := a2 (by omega)
 have hcase : y = 0 ∨ y = 1 ∨ y = 2 ∨ y = 3 := by omega
 rcases hcase with rfl | rfl | rfl | rfl
 ·exact ⟨_, c1, Ev.step (fun k => jH k c) (Ev.bind e1 (Ev.yes rfl (Ev.bind vJ (Ev.pure _)))), ⟨by decide, by decide, by decide⟩, a3⟩
 ·exact ⟨_, c1, Ev.step (fun k => jH k c) (Ev.bind e1 (Ev.no rfl (Ev.yes rfl (Ev.bind vJ (Ev.pure _))))), ⟨by decide, by decide, by decide⟩, a3⟩
 ·exact ⟨_, c1, Ev.step (fun k => jH k c) (Ev.bind e1 (Ev.no rfl (Ev.no rfl (Ev.yes rfl (Ev.bind vJ (Ev.pure _)))))), ⟨by decide, by decide, by decide⟩, a3⟩
 ·exact ⟨_, c1, Ev.step (fun k => jH k c) (Ev.bind e1 (Ev.no rfl (Ev.no rfl (Ev.no rfl (Ev.bind vJ (Ev.pure _)))))), ⟨by decide, by decide, by decide⟩, a3⟩
theorem Hr (c : Cur) (hc : jj c) : ∃ (t : Trick) (c' : Cur), Ev (fun k => Su k c) (t, c') ∧ Made t ∧ jj c' := by
 obtain ⟨b, c1, e1, hc1⟩ := V1 c hc 3
 cases b with
 | true =>
   obtain ⟨t, c2, e2, ht, hc2⟩ := KA c1 hc1
   exact ⟨t, c2, Ev.step (fun k => UL k c) (Ev.bind e1 (Ev.yes rfl (Ev.bind e2 (Ev.pure _)))), ht, hc2⟩
 | false =>
   obtain ⟨p, c2, e2, hp, hc2⟩ := Ht c1 hc1 4 (by omega) (by omega)
   obtain ⟨y, c3, e3, a1, a2, hc3⟩ := zX c2 hc2 5
   have hy := a2 (by omega)
   obtain ⟨j, rfl⟩ : ∃ j : Nat, y = (j : Int) := ⟨y.toNat, by omega⟩
   obtain ⟨t, c4, e4, ht, hc4⟩ := WI p hp.ok hp.pos hp.le j [] c3 (by simp; omega) (fun s hs => by cases hs) hc3
   exact ⟨t, c4, Ev.step (fun k => UL k c) (Ev.bind e1 (Ev.no rfl (Ev.bind e2 (Ev.bind e3 e4)))), ht, hc4⟩
theorem L7 (code : List Int) (hm : code.length ≤ 9223372036854775807) : ∃ t : Trick, Ev (fun k => Xy k code) t ∧ Made t := by
 obtain ⟨c, e, hc⟩ := GF code hm
 obtain ⟨t, c2, e2, ht, _⟩ := Hr c hc
 exact ⟨t, Ev.step (fun k => Qx k code) (Ev.bind e (Ev.bind e2 (Ev.pure _))), ht⟩
end Qq
namespace Qq
open Go Go.Vt Pt
set_option linter.unusedVariables false
set_option linter.unusedSimpArgs false
set_option linter.unnecessarySimpa false
def yW (t : Trick) : Int := if (zA t).2 = true then ((zA t).1.length : Int) else -1
theorem Qy (t : Trick) (a1 : t.1.length ≤ maxLen) (a2 : t.2.1.length ≤ maxLen) : Ev (fun k => Xz k t) (yW t) := by
 refine Ev.step (fun k => Qz k t) (Ev.bind (YT t a1 a2) (Ev.ite (fun h => Ev.some ?_) (fun h => Ev.some ?_)))
 ·unfold yW; rw [if_neg (by simpa using h)]
 ·unfold yW; rw [if_pos (by simpa using h)]
end Qq
namespace Qq
open Go Go.Vt Pt
set_option linter.unusedVariables false
set_option linter.unusedSimpArgs false
set_option linter.unnecessarySimpa false
theorem uF (t : Trick) (a1 : t.1.length ≤ maxLen) (ai : Ins t.1) (a2 : t.2.1.length ≤ maxLen) : Ev (fun k => ww k t) (yW t) := by
 refine Ev.step (fun k => QO k t) (Ev.bind (uG t a1 ai a2) (Ev.ite (fun h => Ev.some ?_) (fun h => Ev.some ?_)))
 ·unfold yW; rw [if_neg (by simpa using h)]
 ·unfold yW; rw [if_pos (by simpa using h)]
end Qq
namespace Qq
open Go Go.Vt Pt
set_option linter.unusedVariables false
set_option linter.unusedSimpArgs false
theorem Qi (xs : List Step) (hm : xs.length ≤ 1048576) : Ev (fun k => vf k xs) xs := by
 refine Ev.step (fun k => ab k xs) (Ev.ite (fun h => ?_) (fun h => ?_))
 ·exact Ev.yes (by rw [za]; simp; omega) (Ev.some (by simp))
 ·have : xs = [] := by simpa using h
  subst this
  exact Ev.both (Ev.pure _) (Ev.yes (by simp) (Ev.some rfl))
theorem Ti (t : Trick) (h1 : t.1.length ≤ 1048576) (h2 : t.2.1.length ≤ 1048576) : Ev (fun k => bo k t) t :=
 Ev.step (fun k => QG k t) (Ev.bind (yX _ h1) (Ev.bind (Qi _ h2) (Ev.pure _)))
def wU (t : Trick) (i : Nat) : Trick := (t.1, t.2.1.take i ++ t.2.1.drop (i + 1), t.2.2)
def withB (t : Trick) (b : Bool) : List Int × List Step × Int × Int × Int × Bool := (t.1, t.2.1, t.2.2.1, t.2.2.2.1, t.2.2.2.2, b)
def noTrick : List Int × List Step × Int × Int × Int × Bool := ([], [], 0, 0, 0, false)
def dropStep (t : Trick) (i : Int) : List Int × List Step × Int × Int × Int × Bool :=
 if zf t && (decide (0 ≤ i) && (decide (i < (t.2.1.length : Int)) && zf (wU t i.toNat))) then withB (wU t i.toNat) true else noTrick
theorem LN (t : Trick) (i : Nat) : (wU t i).2.1.length ≤ t.2.1.length := by simp [wU]; omega
theorem QU (xs : List Step) (i : Nat) (hi : i < xs.length) (hm : xs.length ≤ 1048576) : Ev (fun k => wQ k (xs, (i : Int), ((i + 1 : Nat) : Int))) (xs.take i ++ xs.drop (i + 1)) := by
 refine Ev.congr (fun k => cL k xs _ _) ?_
 show Ev (fun _ => deleteF (xs, (i : Int), ((i + 1 : Nat) : Int))) _
 unfold deleteF
 refine Ev.yes ?_ (Ev.some ?_)
 ·simp only [Bool.and_eq_true, decide_eq_true_eq]; omega
 ·simp
theorem Pj (t : Trick) (i : Nat) (h1 : t.1.length ≤ 1048576) (h2 : t.2.1.length ≤ 1048576) (hi : i < t.2.1.length) : Ev (fun k => X8 k (t, (i : Int))) (wU t i) := by
 refine Ev.step (fun k => Mi k t _) ?_
 have w : IntKind.i64.wrap ((i : Int) + 1) = ((i + 1 : Nat) : Int) := by rw [zg (by omega) (by omega)]; simp
 simp only [w]
 refine Ev.yes (by rw [za]; simp; omega) (Ev.yes (by simp) (Ev.yes (by simp; omega) (Ev.yes (by rw [za]; simp; omega) (Ev.yes (by simp; omega) (Ev.yes (by simp; omega) (Ev.yes (by simp) (Ev.yes (by rw [za]; simp; omega) (Ev.some ?_))))))))
 simp [wU]
end Qq
namespace Qq
open Go Go.Vt Pt
set_option linter.unusedVariables false
set_option linter.unusedSimpArgs false
theorem Nf (t : Trick) (i : Int) (a1 : t.1.length ≤ 1048576) (a2 : t.2.1.length ≤ 1048576) (hi : In i) : Ev (fun k => VV k (t, i)) (dropStep t i) := by
 unfold dropStep
 refine Ev.step (fun k => Ng k t i) (Ev.bind (xm t (by rw [zc]; omega) (by rw [zc]; omega)) (Ev.ite (fun h => Ev.some ?_) (fun h => ?_)))
 ·have : zf t = false := by simpa using h
  simp [this, noTrick]
 ·have ht : zf t = true := by simpa using h
  rw [zg (by omega) (by omega)]
  refine Ev.bind (xf _ _ _) (Ev.ite (fun h => Ev.some ?_) (fun h => ?_))
  ·have : ¬ (0 ≤ i ∧ i < (t.2.1.length : Int)) := fun hh => by
    simp at h; omega
   rw [if_neg]
   ·rfl
   ·simp; intro _ h1 h2; omega
  ·have hb : 0 ≤ i ∧ i < (t.2.1.length : Int) := by simp at h; omega
   obtain ⟨n, rfl⟩ := Int.eq_ofNat_of_zero_le hb.1
   have hn : n < t.2.1.length := by omega
   have hl := LN t n
   refine Ev.bind (Pj t n a1 a2 hn) (Ev.bind (xm (wU t n) (by show t.1.length ≤ _; rw [zc]; omega) (by rw [zc]; omega)) (Ev.ite (fun h => Ev.some ?_) (fun h => Ev.some ?_)))
   ·have : zf (wU t n) = false := by simpa using h
    simp [this, noTrick]
   ·have : zf (wU t n) = true := by simpa using h
    simp [this, ht, hn, withB]
theorem W5 (t : Trick) (i : Int) (a1 : t.1.length ≤ 1048576) (ai : Ins t.1) (a2 : t.2.1.length ≤ 1048576) (hi : In i) : Ev (fun k => Yh k (t, i)) (dropStep t i) := by
 unfold dropStep
 refine Ev.step (fun k => NA k t i) (Ev.bind (xN t (by rw [zc]; omega) ai (by rw [zc]; omega)) (Ev.ite (fun h => Ev.some ?_) (fun h => ?_)))
 ·have : zf t = false := by simpa using h
  simp [this, noTrick]
 ·have ht : zf t = true := by simpa using h
  refine Ev.ite (fun h => Ev.some ?_) (fun h => Ev.ite (fun h2 => Ev.some ?_) (fun h2 => ?_))
  ·have : ¬ 0 ≤ i := by simpa using h
   simp [this, noTrick]
  ·have : ¬ i < (t.2.1.length : Int) := by simpa using h2
   simp [this, noTrick]
  ·have hb : 0 ≤ i ∧ i < (t.2.1.length : Int) := by simp at h h2; omega
   obtain ⟨n, rfl⟩ := Int.eq_ofNat_of_zero_le hb.1
   have hn : n < t.2.1.length := by omega
   have hl := LN t n
   rw [show IntKind.i64.wrap ((n : Int) + 1) = ((n + 1 : Nat) : Int) by rw [zg (by omega) (by omega)]; simp]
   refine Ev.bind (Ti t a1 a2) (Ev.bind (QU t.2.1 n hn a2) (Ev.bind (xN (wU t n) (by show t.1.length ≤ _; rw [zc]; omega) ai (by rw [zc]; omega)) (Ev.ite (fun h => Ev.some ?_) (fun h => Ev.some ?_))))
   ·have : zf (wU t n) = false := by simpa using h
    simp [this, noTrick]
   ·have : zf (wU t n) = true := by simpa using h
    rw [if_pos (by simp [ht, hn, this])]
    rfl
end Qq
namespace Qq
open Go Go.Vt Pt
set_option linter.unusedVariables false
end Qq
namespace Qq
open Go Go.Vt Pt
set_option linter.unusedVariables false
set_option linter.unusedSimpArgs false
theorem eF {a b : ByteArray} {m n : Nat} (ha : a.size ≤ m) (hb : b.size ≤ n) : (a ++ b).size ≤ m + n := by rw [ByteArray.size_append]; omega
theorem Yu {a b : ByteArray} {m n : Nat} (ha : a.size ≤ m) (hb : b.size ≤ n) (h : m + n ≤ 9223372036854775807) : decide (a.size + b.size ≤ 9223372036854775807) = true := decide_eq_true (by omega)
def gU (x : Int) : ByteArray := if isUp x then vQ (card x) ++ ⟨#[94]⟩ else vQ (card x)
theorem Qf (x : Int) : In (card x) := by have := R4 x; unfold In; omega
theorem HT (x : Int) : (gU x).size ≤ 22 := by
 have h := x9 (card x) (Qf x)
 unfold gU
 split
 ·exact eF h (n := 1) (by decide)
 ·omega
def ya (p : List Int) : ByteArray := if zj p then (if p = [] then ⟨#[101, 109, 112, 116, 121]⟩ else WM (p.map gU) ⟨#[32]⟩) else ⟨#[]⟩
theorem fX (p : List Int) : ∀ x ∈ p.map gU, x.size ≤ 22 := by
 intro x hx
 obtain ⟨n, _, rfl⟩ := List.mem_map.1 hx
 exact HT n
theorem Fm {xs : List Int} {i : Nat} {x : Int} {r : List Int} (a : AtCons xs i x r) : (xs.take (i + 1)).map gU = (xs.take i).map gU ++ [gU x] := by
 have hlt := a.lt
 have e : xs[i] = x := by have := a.get 0; rw [Int.toNat_natCast, List.getD, List.getElem?_eq_getElem hlt] at this; exact this
 rw [List.take_succ_eq_append_getElem hlt, List.map_append, e]; rfl
theorem jx (xs : List Int) (hm : xs.length ≤ 12) : ∀ (r : List Int) (i : Nat), xs.drop i = r → Ev (fun k => xE k xs (xs.length : Int) (i : Int) ((xs.take i).map gU)) (if xs = [] then ⟨#[101, 109, 112, 116, 121]⟩ else WM (xs.map gU) ⟨#[32]⟩)
 | [], i, h => by
   have a := zz h
   refine Ev.step (fun k => jy k _ _ _ _) ?_
   simp only [a.g, cond_false]
   rw [List.take_of_length_le a.ge]
   refine Ev.ite (fun h => Ev.some ?_) (fun h => ?_)
   ·have : xs = [] := by simp at h; exact h
    rw [if_pos this]
   ·have : ¬ xs = [] := by simp at h; exact h
    rw [if_neg this]
    exact Ev.bind (MF _ _ 22 (by simp; omega) (fX xs) (by omega) (by decide)) (Ev.pure _)
 | x :: r, i, h => by
   have a := zi h (by rw [zc]; omega)
   have ih := jx xs hm r (i + 1) a.next
   rw [Fm a] at ih
   refine Ev.step (fun k => jy k _ _ _ _) ?_
   simp only [a.g, a.z, a.get, a.w, cond_true]
   have hs := x9 (card x) (Qf x)
   refine Ev.bind (ws x) (Ev.bind (uB _ (Qf x)) (Ev.bind (MH x) (Ev.ite (fun h => ?_) (fun h => ?_))))
   ·have e : gU x = vQ (card x) ++ ⟨#[94]⟩ := by unfold gU; rw [if_pos h]
    rw [e] at ih
    exact Ev.yes (Yu hs (n := 1) (by decide) (by decide)) (Ev.yes (by rw [za]; simp; omega) ih)
   ·have e : gU x = vQ (card x) := by unfold gU; rw [h]; rfl
    rw [e] at ih
    exact Ev.yes (by rw [za]; simp; omega) ih
theorem VQ (p : List Int) (hm : p.length ≤ maxLen) : Ev (fun k => fJ k p) (ya p) := by
 unfold ya
 refine Ev.step (fun k => VS k p) (Ev.bind (vI p hm) (Ev.ite (fun h => Ev.some ?_) (fun h => ?_)))
 ·have : zj p = false := by simpa using h
  rw [this]; rfl
 ·have e : zj p = true := by simpa using h
  rw [if_pos e]
  exact jx p (yk e).2.2 p 0 rfl
theorem jC (xs : List Int) (hm : xs.length ≤ 12) (hi : Ins xs) : ∀ (r : List Int) (i : Nat), xs.drop i = r → Ev (fun k => xJ k xs (xs.length : Int) (i : Int) ((xs.take i).map gU)) (WM (xs.map gU) ⟨#[32]⟩)
 | [], i, h => by
   have a := zz h
   refine Ev.step (fun k => jD k _ _ _ _) ?_
   simp only [a.g, cond_false]
   rw [List.take_of_length_le a.ge]
   exact Ev.bind (Lm _ _ 22 (by simp; omega) (fX xs) (by omega) (by decide)) (Ev.pure _)
 | x :: r, i, h => by
   have a := zi h (by rw [zc]; omega)
   have hx : In x := hi x (List.mem_of_mem_drop (h ▸ List.mem_cons_self))
   have ih := jC xs hm hi r (i + 1) a.next
   rw [Fm a] at ih
   refine Ev.step (fun k => jD k _ _ _ _) ?_
   simp only [a.g, a.z, a.get, a.w, cond_true]
   have hs := x9 (card x) (Qf x)
   refine Ev.bind (xT x hx) (Ev.bind (wY _ (Qf x)) (Ev.bind (Lo x hx) (Ev.ite (fun h => ?_) (fun h => ?_))))
   ·have e : gU x = vQ (card x) ++ ⟨#[94]⟩ := by unfold gU; rw [if_pos h]
    rw [e] at ih
    exact Ev.yes (Yu hs (n := 1) (by decide) (by decide)) (Ev.yes (by rw [za]; simp; omega) ih)
   ·have e : gU x = vQ (card x) := by unfold gU; rw [h]; rfl
    rw [e] at ih
    exact Ev.yes (by rw [za]; simp; omega) ih
theorem Ud (p : List Int) (hm : p.length ≤ maxLen) (hi : Ins p) : Ev (fun k => fR k p) (ya p) := by
 unfold ya
 refine Ev.step (fun k => Ue k p) (Ev.bind (wJ p hm hi) (Ev.ite (fun h => Ev.some ?_) (fun h => ?_)))
 ·have : zj p = false := by simpa using h
  rw [this]; rfl
 ·have e : zj p = true := by simpa using h
  rw [if_pos e]
  refine Ev.ite (fun h => Ev.some ?_) (fun h => ?_)
  ·have : p = [] := by simp at h; exact h
   rw [if_pos this]
  ·have : ¬ p = [] := by simp at h; exact h
   rw [if_neg this]
   exact jC p (yk e).2.2 hi p 0 rfl
theorem un (p : List Int) : (ya p).size ≤ 2000 := by
 unfold ya
 split
 ·rename_i h
  split
  ·decide
  ·have h12 := (yk h).2.2
   have := TR (B := 22) (S := 1) (⟨#[32]⟩ : ByteArray) (by decide) (p.map gU) (fX p)
   rw [List.length_map] at this
   rw [WM, yG]
   omega
 ·decide
end Qq
namespace Qq
open Go Go.Vt Pt
set_option linter.unusedVariables false
set_option linter.unusedSimpArgs false
def jX (c : Scene) : ByteArray := if zj c.1 then (if 0 ≤ c.2 ∧ c.2 ≤ 11 then (ya c.1 ++ ⟨#[32, 110, 111, 116, 101, 100, 32]⟩) ++ vQ c.2 else ya c.1) else ⟨#[]⟩
theorem F0 (n : Int) : 1 ≤ (Lib.itoa n).length := by
 have h : ∀ u : Nat, 1 ≤ (Lib.decDigits u).length := by
  intro u
  by_cases h : u < 10
  ·rw [Vg h]; simp
  ·rw [NO h]; simp
 unfold Lib.itoa
 split
 ·simp
 ·exact h _
theorem Eh (x : Int) : 1 ≤ (gU x).size := by
 have := F0 (card x)
 unfold gU
 split
 ·rw [ByteArray.size_append, vQ, yG]; omega
 ·rw [vQ, yG]; exact this
theorem RT {p : List Int} (h : zj p = true) : 1 ≤ (ya p).size := by
 unfold ya
 rw [if_pos h]
 cases p with
 | nil => rw [if_pos rfl]; decide
 | cons x r =>
   rw [if_neg (by simp), WM, yG, M8, List.map_cons, List.map_cons, Lib.join_cons, List.length_append, vW]
   have := Eh x
   omega
theorem Qt (c : Scene) (b1 : c.1.length ≤ maxLen) : Ev (fun k => Xx k c) (jX c) := by
 unfold jX
 refine Ev.step (fun k => Qu k c) (Ev.bind (vI c.1 b1) (Ev.ite (fun h => Ev.some ?_) (fun h => ?_)))
 ·have : zj c.1 = false := by simpa using h
  rw [this]; rfl
 ·have e : zj c.1 = true := by simpa using h
  rw [if_pos e]
  have sp := un c.1
  refine Ev.bind (VQ c.1 b1) (Ev.bind (xf _ _ _) (Ev.ite (fun h => ?_) (fun h => Ev.some ?_)))
  ·have hc : 0 ≤ c.2 ∧ c.2 ≤ 11 := by simpa using h
   rw [if_pos hc]
   have hin : In c.2 := by unfold In; omega
   exact Ev.yes (Yu sp (n := 7) (by decide) (by decide)) (Ev.bind (uB _ hin) (Ev.yes (Yu (eF sp (n := 7) (by decide)) (x9 _ hin) (by decide)) (Ev.pure _)))
  ·rw [if_neg (by simp at h; omega)]
theorem QI (c : Scene) (b1 : c.1.length ≤ maxLen) (bi : Ins c.1) : Ev (fun k => XG k c) (jX c) := by
 unfold jX
 have sp := un c.1
 refine Ev.step (fun k => QJ k c) (Ev.bind (Ud c.1 b1 bi) (Ev.ite (fun h => ?_) (fun h => Ev.some ?_)))
 ·have e : zj c.1 = true := by
   cases hp : zj c.1 with
   | true => rfl
   | false =>
     unfold ya at h
     rw [hp] at h
     simp at h
  rw [if_pos e]
  refine Ev.ite (fun h1 => Ev.ite (fun h2 => ?_) (fun h2 => Ev.some ?_)) (fun h1 => Ev.some ?_)
  ·have hc : 0 ≤ c.2 ∧ c.2 ≤ 11 := by simp at h1 h2; omega
   rw [if_pos hc]
   have hin : In c.2 := by unfold In; omega
   have s1 := x9 _ hin
   refine Ev.bind (wY _ hin) (Ev.yes (Yu (m := 7) (by decide) s1 (by decide)) (Ev.yes (Yu sp (eF (m := 7) (by decide) s1) (by decide)) (Ev.some ?_)))
   rw [ByteArray.append_assoc]
  ·rw [if_neg (by simp at h1 h2; omega)]
  ·rw [if_neg (by simp at h1; omega)]
 ·cases hp : zj c.1 with
  | true =>
    have h1 := RT hp
    have h2 : (ya c.1).toList = (⟨#[]⟩ : ByteArray).toList := by simpa using h
    rw [ByteArray.toList_eq, ByteArray.toList_eq] at h2
    have h3 : (zY (ya c.1)).length = 0 := by unfold zY; rw [h2]; rfl
    rw [vW] at h3
    omega
  | false =>
    unfold ya
    rw [hp]; rfl
end Qq
