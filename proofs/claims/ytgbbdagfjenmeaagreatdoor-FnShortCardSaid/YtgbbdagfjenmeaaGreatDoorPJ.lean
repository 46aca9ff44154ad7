/-
  What the laws lean on: what the functions come to.
  Conditions: numbers and lengths are such as a machine bears.
-/
import Derived.Test.YtgbbdagfjenmeaaGreatDoorPJa
namespace Qq
open Go Go.Vt Pt
set_option linter.unusedVariables false
set_option linter.unusedSimpArgs false
set_option linter.unnecessarySimpa false
def zn (t : Trick) (c : Scene) : Bool := !xI t c
theorem LevOk.drop {n : Nat} : ∀ {r : List zz} {Ls : List (List Scene)} (i : Nat), i ≤ r.length → LevOk n r Ls → LevOk n (r.drop i) (Ls.drop i)
 | r, Ls, 0, _, h => h
 | s :: r, L :: L2 :: Ls, i + 1, hi, h => LevOk.drop (r := r) (Ls := L2 :: Ls) i (by simpa using hi) h.2.2.2
 | [], _, i + 1, hi, _ => by simp at hi
 | _ :: _, [], _, _, h => h.elim
 | _ :: _, [_], _, _, h => h.elim
theorem LevOk.head {n : Nat} {r : List zz} {L : List Scene} {Ls : List (List Scene)} (h : LevOk n r (L :: Ls)) : SAll n L ∧ L.Nodup ∧ L.length ≤ 3000 := by
 cases r with
 | nil => cases Ls with
   | nil => exact h
   | cons => exact h.elim
 | cons s r => cases Ls with
   | nil => exact h.elim
   | cons => exact h.1
theorem R4 (bad : Scene → Bool) : ∀ (r : List zz) (Ls : List (List Scene)) (i : Nat), (rowM bad r Ls).drop i = rowM bad (r.drop i) (Ls.drop i)
 | r, Ls, 0 => rfl
 | r, [], i + 1 => by simp [rowM]
 | r, L :: Ls, i + 1 => by
   show (rowM bad (r.drop 1) Ls).drop i = rowM bad (r.drop (i + 1)) (Ls.drop i)
   rw [R4 bad (r.drop 1) Ls i, List.drop_drop, Nat.add_comm 1 i]
theorem Nj {n : Nat} (h1 : 1 ≤ n) (bad : Scene → Bool) {s : zz} {r : List zz} {L L2 : List Scene} {Ls : List (List Scene)} (h : LevOk n (s :: r) (L :: L2 :: Ls)) {M : List (Option (List ByteArray))} {i : Nat}
 (hM : M.drop (i + 1) = rowM bad r (L2 :: Ls)) {c : Scene} (hc : c ∈ L) : ∀ x ∈ zm c s, gc M i x = canF bad r x := by
 intro x hx
 have hx2 := h.2.2.1 c hc x hx
 have ho := (LevOk.head h.2.2.2).1
 have hg : M.getD (i + 1) none = some ((L2.filter (canF bad r)).map keyB) := by
  have : M[i + 1]? = some (some ((L2.filter (canF bad r)).map keyB)) := by
   have h0 : (M.drop (i + 1))[0]? = M[i + 1]? := by rw [List.getElem?_drop]
   rw [← h0, hM]; rfl
  rw [List.getD, this]; rfl
 unfold gc
 rw [hg, J6 h1 (fun c hc => ho c (List.mem_filter.1 hc).1) (ho x hx2), Bool.eq_iff_iff, decide_eq_true_eq, List.mem_filter]
 exact ⟨fun h => h.2, fun h => ⟨hx2, h⟩⟩
theorem UJ {α : Type} {f g : α → Bool} : ∀ {l : List α}, (∀ x ∈ l, f x = g x) → l.any f = l.any g
 | [], _ => rfl
 | x :: l, h => by rw [List.any_cons, List.any_cons, h x (by simp), UJ (fun y hy => h y (by simp [hy]))]
theorem TQ {α : Type} {f g : α → Bool} : ∀ {l : List α}, (∀ x ∈ l, f x = g x) → l.findIdx f = l.findIdx g
 | [], _ => rfl
 | x :: l, h => by rw [List.findIdx_cons, List.findIdx_cons, h x (by simp), TQ (fun y hy => h y (by simp [hy]))]
section
variable (t : Trick)
theorem JO {n : Nat} (h1 : 1 ≤ n) {pre post : List (Option (List ByteArray))} {done : List Scene} {c : Scene} (hd : SAll n done) (hc : SceneOk n c) (hn : c ∉ done) (F : Scene → Bool) :
 (bif fp (((pre ++ some ((done.filter F).map keyB) :: post).getD pre.length none).getD []) (keyB c) then (((pre ++ some ((done.filter F).map keyB) :: post).getD pre.length none).getD []) else (((pre ++ some ((done.filter F).map keyB) :: post).getD pre.length none).getD []) ++ [keyB c]) = (done.filter F).map keyB ++ [keyB c] := by
 have hg : ((pre ++ some ((done.filter F).map keyB) :: post).getD pre.length none) = some ((done.filter F).map keyB) := by simp [List.getD]
 rw [hg]
 show (bif fp ((done.filter F).map keyB) (keyB c) then _ else _) = _
 have hs : SAll n (done.filter F) := fun d hd2 => hd d (List.mem_filter.1 hd2).1
 rw [VN (fun d hd2 => TH h1 (hs d hd2)) (TH h1 hc), decide_eq_false (fun h => hn (List.mem_filter.1 h).1)]
 rfl
end
theorem SZ (t : Trick) {n : Nat} (h1n : 1 ≤ n) (hn : n ≤ 12) (a1 : t.1.length ≤ maxLen) (ai : Ins t.1) (a2 : t.2.1.length ≤ 12) (hlen : n = t.1.length) (V : List (List Scene)) (hV : LevOk n t.2.1 V) (i : Nat) (L : List Scene) (Lr : List (List Scene)) (hL : V.drop i = L :: Lr)
 (K : Ev (fun k => uo k V t.1 t.2.1 t.2.2.1 t.2.2.2.1 t.2.2.2.2 (List.replicate i none ++ rowM (zn t) (t.2.1.drop i) (L :: Lr)) ((i : Int) - 1)) (rowM (zn t) t.2.1 V)) :
 ∀ (r : List Scene) (j : Nat) (done : List Scene), L.drop j = r → L.take j = done →
   Ev (fun k => yZ k V L (L.length : Int) (j : Int) t.1 t.2.1 t.2.2.1 t.2.2.2.1 t.2.2.2.2 (List.replicate i none ++ some ((done.filter (canF (zn t) (t.2.1.drop i))).map keyB) :: rowM (zn t) (t.2.1.drop (i + 1)) Lr) (i : Int)) (rowM (zn t) t.2.1 V) := by
 have hVl := hV.len
 have hi : i < V.length := by
  rcases Nat.lt_or_ge i V.length with h | h
  ·exact h
  ·rw [List.drop_of_length_le h] at hL; cases hL
 have hdr := LevOk.drop i (by omega) hV
 rw [hL] at hdr
 obtain ⟨ho, hnd, hl3⟩ := hdr.head
 have hLr : Lr = V.drop (i + 1) := by rw [← List.drop_drop, hL]; rfl
 have hMl : ∀ x : Option (List ByteArray), (List.replicate i none ++ x :: rowM (zn t) (t.2.1.drop (i + 1)) Lr).length = V.length := fun x => by
  rw [List.length_append, List.length_replicate, List.length_cons, WD, hLr, List.length_drop]; omega
 have hwl : IntKind.i64.wrap ((V.length : Int) - 1) = (V.length : Int) - 1 := zf (by omega) (by omega)
 intro r
 induction r with
 | nil =>
   intro j done h hd
   have a := zO h
   have hall : done = L := by rw [← hd]; exact List.take_of_length_le a.ge
   refine Ev.step (fun k => bh k _ _ _ _ _ _ _ _ _ _ _) (Ev.no a.g ?_)
   rw [show IntKind.i64.wrap ((i : Int) - (1 : Int)) = (i : Int) - 1 from zf (by omega) (by omega), hall]
   have e : rowM (zn t) (t.2.1.drop i) (L :: Lr) = some ((L.filter (canF (zn t) (t.2.1.drop i))).map keyB) :: rowM (zn t) (t.2.1.drop (i + 1)) Lr := by
    show _ :: rowM (zn t) ((t.2.1.drop i).drop 1) Lr = _
    rw [List.drop_drop]
   rw [e] at K
   exact K
 | cons c r ih =>
   intro j done h hd
   have a := zl h (by rw [zd]; omega)
   have hlt := a.lt
   have hc := ho c a.mem
   have hg : L[j] = c := by have := a.gt (([], 0) : Scene); simpa [List.getD, hlt] using this
   have hdo : SAll n done := fun d hd2 => ho d (List.mem_of_mem_take (hd ▸ hd2))
   have hcn : c ∉ done := by
    intro hm
    rw [← hd] at hm
    obtain ⟨q, hq, hq2⟩ := List.mem_take_iff_getElem.1 hm
    have hql : q < j := by omega
    exact List.pairwise_iff_getElem.1 hnd q j (by omega) hlt hql (hq2.trans hg.symm)
   have hnext : L.take (j + 1) = done ++ [c] := by rw [List.take_add_one, hd, List.getElem?_eq_getElem hlt, hg]; rfl
   have ih2 := ih (j + 1) (done ++ [c]) a.next hnext
   have lenI : ((List.replicate i none : List (Option (List ByteArray))).length) = i := List.length_replicate
   have pk := JO h1n (pre := List.replicate i none) (post := rowM (zn t) (t.2.1.drop (i + 1)) Lr) hdo hc hcn (canF (zn t) (t.2.1.drop i))
   rw [lenI] at pk
   have hset : ∀ x y : Option (List ByteArray), (List.replicate i none ++ x :: rowM (zn t) (t.2.1.drop (i + 1)) Lr).set i y = List.replicate i none ++ y :: rowM (zn t) (t.2.1.drop (i + 1)) Lr := fun x y => by
    rw [List.set_append_right _ _ (by simp)]; simp
   have hgs : ∀ l : List ByteArray, ((List.replicate i none ++ some l :: rowM (zn t) (t.2.1.drop (i + 1)) Lr).getD i none).isSome = true := fun l => by simp [List.getD]
   have add : canF (zn t) (t.2.1.drop i) c = true → Ev (fun k => (fw k c).bind fun y => yZ k V L (L.length : Int) ((j + 1 : Nat) : Int) t.1 t.2.1 t.2.2.1 t.2.2.2.1 t.2.2.2.2 ((List.replicate i none ++ some ((done.filter (canF (zn t) (t.2.1.drop i))).map keyB) :: rowM (zn t) (t.2.1.drop (i + 1)) Lr).set i (some (bif fp (((List.replicate i none ++ some ((done.filter (canF (zn t) (t.2.1.drop i))).map keyB) :: rowM (zn t) (t.2.1.drop (i + 1)) Lr).getD i none).getD []) y then (((List.replicate i none ++ some ((done.filter (canF (zn t) (t.2.1.drop i))).map keyB) :: rowM (zn t) (t.2.1.drop (i + 1)) Lr).getD i none).getD []) else (((List.replicate i none ++ some ((done.filter (canF (zn t) (t.2.1.drop i))).map keyB) :: rowM (zn t) (t.2.1.drop (i + 1)) Lr).getD i none).getD []) ++ [y]))) (i : Int)) (rowM (zn t) t.2.1 V) := fun hF => by
    refine Ev.bind (Lt hn hc) ?_
    rw [pk, hset]
    have : (done ++ [c]).filter (canF (zn t) (t.2.1.drop i)) = done.filter (canF (zn t) (t.2.1.drop i)) ++ [c] := by rw [List.filter_append, List.filter_cons_of_pos hF]; rfl
    rw [this, List.map_append] at ih2
    exact ih2
   have skip : canF (zn t) (t.2.1.drop i) c = false → Ev (fun k => yZ k V L (L.length : Int) ((j + 1 : Nat) : Int) t.1 t.2.1 t.2.2.1 t.2.2.2.1 t.2.2.2.2 (List.replicate i none ++ some ((done.filter (canF (zn t) (t.2.1.drop i))).map keyB) :: rowM (zn t) (t.2.1.drop (i + 1)) Lr) (i : Int)) (rowM (zn t) t.2.1 V) := fun hF => by
    have : (done ++ [c]).filter (canF (zn t) (t.2.1.drop i)) = done.filter (canF (zn t) (t.2.1.drop i)) := by rw [List.filter_append, List.filter_cons_of_neg (by rw [hF]; simp)]; simp
    rw [this] at ih2
    exact ih2
   have hml := hMl (some ((done.filter (canF (zn t) (t.2.1.drop i))).map keyB))
   refine Ev.step (fun k => bh k _ _ _ _ _ _ _ _ _ _ _) ?_
   simp only [a.g, a.z, a.n, a.get, a.gt, a.w, hwl, cond_true, Int.toNat_natCast]
   have gets : ∀ {f : Nat → Option (List (Option (List ByteArray)))} {z : List (Option (List ByteArray))}, Ev f z → Ev (fun k => bif decide ((0 : Int) ≤ (i : Int)) then bif decide ((i : Int) < ((List.replicate i none ++ some ((done.filter (canF (zn t) (t.2.1.drop i))).map keyB) :: rowM (zn t) (t.2.1.drop (i + 1)) Lr).length : Int)) then bif decide (i < (List.replicate i none ++ some ((done.filter (canF (zn t) (t.2.1.drop i))).map keyB) :: rowM (zn t) (t.2.1.drop (i + 1)) Lr).length) then bif ((List.replicate i none ++ some ((done.filter (canF (zn t) (t.2.1.drop i))).map keyB) :: rowM (zn t) (t.2.1.drop (i + 1)) Lr).getD i none).isSome then bif decide ((0 : Int) ≤ (i : Int)) then bif decide ((i : Int) < ((List.replicate i none ++ some ((done.filter (canF (zn t) (t.2.1.drop i))).map keyB) :: rowM (zn t) (t.2.1.drop (i + 1)) Lr).length : Int)) then bif Nat.beq i i then f k else none else none else none else none else none else none else none) z := fun h =>
    Ev.yes (by simp) (Ev.yes (by rw [hml]; simp; omega) (Ev.yes (by rw [hml]; simp; omega) (Ev.yes (hgs _) (Ev.yes (by simp) (Ev.yes (by rw [hml]; simp; omega) (Ev.yes (by simp) h))))))
   refine Ev.ite (fun hl => ?_) (fun hl => ?_)
   ·have hil : i + 1 = V.length := by simp at hl; omega
    have hdi : t.2.1.drop i = [] := by rw [List.drop_eq_nil_iff]; omega
    have hF : canF (zn t) (t.2.1.drop i) c = !xI t c := by rw [hdi]; rfl
    refine Ev.bind (bA t c a1 ai (by rw [zd]; omega) (by rw [hc.len, zd]; omega) (zQ hc.ok)) (Ev.ite (fun hb => ?_) (fun hb => ?_))
    ·exact gets (add (hF.trans hb))
    ·exact skip (hF.trans hb)
   ·have hil : i + 1 < V.length := by
     have : ¬ (i : Int) = (V.length : Int) - 1 := by simpa using hl
     omega
    have his : i < t.2.1.length := by omega
    cases hLr2 : Lr with
    | nil => rw [hLr] at hLr2; have := List.drop_eq_nil_iff.1 hLr2; omega
    | cons L2 Lq =>
      have hds : t.2.1.drop i = t.2.1[i] :: t.2.1.drop (i + 1) := List.drop_eq_getElem_cons his
      have hgd : ∀ d, t.2.1.getD i d = t.2.1[i] := fun d => by simp [List.getD, his]
      rw [hLr2, hds] at hdr
      have hso := hdr.2.1
      have hno := cW hc hso
      have hnl := (Z7 hc hso).2
      have hany := Nj h1n (zn t) hdr (M := List.replicate i none ++ some ((done.filter (canF (zn t) (t.2.1.drop i))).map keyB) :: rowM (zn t) (t.2.1.drop (i + 1)) Lr) (i := i) (by
       rw [List.drop_append, List.length_replicate, List.drop_of_length_le (by simp), show i + 1 - i = 1 by omega, hLr2]; rfl) a.mem
      have hF : canF (zn t) (t.2.1.drop i) c = (zm c t.2.1[i]).any (gc (List.replicate i none ++ some ((done.filter (canF (zn t) (t.2.1.drop i))).map keyB) :: rowM (zn t) (t.2.1.drop (i + 1)) Lr) i) := by
       conv => lhs; rw [hds]
       exact (UJ hany).symm
      refine Ev.yes (by simp) (Ev.yes (by simp; omega) ?_)
      simp only [hgd]
      refine Ev.bind (ji hc hso) (Ev.bind (Mz hn _ (by omega) hno _ i (by rw [← hLr2, hml]; omega) (by rw [← hLr2, hml]; omega)) ?_)
      rw [← hLr2]
      refine Ev.ite (fun hb => ?_) (fun hb => ?_)
      ·exact gets (add (hF.trans hb))
      ·exact skip (hF.trans hb)
theorem YE (t : Trick) {n : Nat} (h1n : 1 ≤ n) (hn : n ≤ 12) (a1 : t.1.length ≤ maxLen) (ai : Ins t.1) (a2 : t.2.1.length ≤ 12) (hlen : n = t.1.length) (V : List (List Scene)) (hV : LevOk n t.2.1 V) : ∀ (i : Nat), i ≤ V.length →
 Ev (fun k => uo k V t.1 t.2.1 t.2.2.1 t.2.2.2.1 t.2.2.2.2 (List.replicate i none ++ rowM (zn t) (t.2.1.drop i) (V.drop i)) ((i : Int) - 1)) (rowM (zn t) t.2.1 V)
 | 0, _ => by
   refine Ev.step (fun k => bj k _ _ _ _ _ _ _ _) (Ev.no (decide_eq_false (by omega)) (Ev.some ?_))
   simp
 | i + 1, hi => by
   have ih := YE t h1n hn a1 ai a2 hlen V hV i (by omega)
   have hVl := hV.len
   cases hL : V.drop i with
   | nil => rw [List.drop_eq_nil_iff] at hL; omega
   | cons L Lr =>
     rw [hL] at ih
     have hLr : V.drop (i + 1) = Lr := by rw [← List.drop_drop, hL]; rfl
     have hVi : V[i]'(by omega) = L := by
      have := List.drop_eq_getElem_cons (l := V) (i := i) (by omega)
      rw [hL] at this
      exact (List.cons.inj this).1.symm
     have hg : V.getD i [] = L := by rw [List.getD, List.getElem?_eq_getElem (by omega), hVi]; rfl
     have key := SZ t h1n hn a1 ai a2 hlen V hV i L Lr hL ih L 0 [] rfl rfl
     have hxl : (List.replicate (i + 1) (none : Option (List ByteArray)) ++ rowM (zn t) (t.2.1.drop (i + 1)) (V.drop (i + 1))).length = V.length := by
      rw [List.length_append, List.length_replicate, WD, List.length_drop]; omega
     have hset : (List.replicate (i + 1) (none : Option (List ByteArray)) ++ rowM (zn t) (t.2.1.drop (i + 1)) (V.drop (i + 1))).set i (some []) = List.replicate i none ++ some ((([] : List Scene).filter (canF (zn t) (t.2.1.drop i))).map keyB) :: rowM (zn t) (t.2.1.drop (i + 1)) Lr := by
      rw [hLr, List.replicate_succ', List.append_assoc, List.set_append_right _ _ (by simp)]
      simp
     have ei : (((i + 1 : Nat) : Int) - 1) = (i : Int) := by omega
     rw [ei]
     refine Ev.step (fun k => bj k _ _ _ _ _ _ _ _) ?_
     simp only [Int.toNat_natCast, hset, hg]
     exact Ev.yes (decide_eq_true (by omega)) (Ev.yes (decide_eq_true (by omega)) (Ev.yes (decide_eq_true (by omega)) (Ev.yes (decide_eq_true (by omega)) (Ev.yes (decide_eq_true (by omega)) (Ev.yes (decide_eq_true (by omega)) key)))))
theorem Qv (t : Trick) {n : Nat} (h1n : 1 ≤ n) (hn : n ≤ 12) (a1 : t.1.length ≤ maxLen) (ai : Ins t.1) (a2 : t.2.1.length ≤ 12) (hlen : n = t.1.length) (V : List (List Scene)) (hV : LevOk n t.2.1 V) : Ev (fun k => Uc k (t, V)) (rowM (zn t) t.2.1 V) := by
 have hVl := hV.len
 have h := YE t h1n hn a1 ai a2 hlen V hV V.length (Nat.le_refl _)
 have e : List.replicate V.length (none : Option (List ByteArray)) ++ rowM (zn t) (t.2.1.drop V.length) (V.drop V.length) = List.replicate V.length none := by
  rw [List.drop_of_length_le (Nat.le_refl V.length)]; simp [rowM]
 rw [e] at h
 refine Ev.step (fun k => Qw k t V) (Ev.yes (by simp) (Ev.yes (decide_eq_true (by rw [za]; omega)) (Ev.yes (by simp) ?_)))
 rw [zf (by omega) (by omega), Int.toNat_natCast]
 exact h
theorem Mg {F G : Scene → Bool} {i : Nat} {r : List Scene} (h : ∀ x ∈ r, F x = G x) : idxF F i r = idxF G i r := by unfold idxF; rw [UJ h, TQ h]
theorem Wf (t : Trick) {n : Nat} (h1n : 1 ≤ n) (hn : n ≤ 12) (a2 : t.2.1.length ≤ 12) (V : List (List Scene)) (hV : LevOk n t.2.1 V) (z1 z2 z3 : Int) : ∀ (r : List zz) (i : Nat) (c : Scene) (ps : List Int), t.2.1.drop i = r → (∃ L Lr, V.drop i = L :: Lr ∧ c ∈ L) → canF (zn t) r c = true → ps.length ≤ i →
 Ev (fun k => xG k t.2.1 (t.2.1.length : Int) (i : Int) z1 z2 c.1 c.2 (rowM (zn t) t.2.1 V) 2 z3 ps) (found (some (firstW (zn t) r (c, ps))))
 | [], i, c, ps, h, hc, hF, hp => by
   have a := zO h
   obtain ⟨L, Lr, hL, hcL⟩ := hc
   have hVl := hV.len
   have hi : i < V.length := by
    rcases Nat.lt_or_ge i V.length with h | h
    ·exact h
    ·rw [List.drop_of_length_le h] at hL; cases hL
   have hdr := LevOk.drop i (by omega) hV
   rw [hL] at hdr
   have hco := hdr.head.1 c hcL
   refine Ev.step (fun k => jt k _ _ _ _ _ _ _ _ _ _ _) (Ev.no a.g (Ev.bind (Ev.step (fun k => U6 k (c.1, c.2)) (Ev.bind (yL c.1 (by rw [hco.len]; omega)) (Ev.pure _))) (Ev.some rfl)))
 | s :: r, i, c, ps, h, hc, hF, hp => by
   have a := zl h (by rw [zd]; omega)
   have hlt := a.lt
   obtain ⟨L, Lr, hL, hcL⟩ := hc
   have hVl := hV.len
   have hdr := LevOk.drop i (by omega) hV
   rw [hL, h] at hdr
   cases Lr with
   | nil => exact hdr.elim
   | cons L2 Lq =>
     have hco := hdr.head.1 c hcL
     have hso := hdr.2.1
     have hno := cW hco hso
     have hnl := (Z7 hco hso).2
     have hV2 : V.drop (i + 1) = L2 :: Lq := by rw [← List.drop_drop, hL]; rfl
     have hany := Nj h1n (zn t) hdr (M := rowM (zn t) t.2.1 V) (i := i) (by rw [R4, hV2, a.next]) hcL
     have hml := WD (zn t) t.2.1 V
     have hidx : idxF (gc (rowM (zn t) t.2.1 V) i) 0 (zm c s) = (((zm c s).findIdx (canF (zn t) r) : Nat) : Int) := by
      rw [Mg hany]
      unfold idxF
      rw [if_pos (show (zm c s).any (canF (zn t) r) = true from hF), Nat.zero_add]
     obtain ⟨x, hx, hxF⟩ := List.any_eq_true.1 hF
     have hil : (zm c s).findIdx (canF (zn t) r) < (zm c s).length := List.findIdx_lt_length_of_exists ⟨x, hx, hxF⟩
     have hilI : (((zm c s).findIdx (canF (zn t) r) : Nat) : Int) < ((zm c s).length : Int) := by omega
     have hget : (zm c s).getD ((zm c s).findIdx (canF (zn t) r)) ([], 0) = (zm c s)[(zm c s).findIdx (canF (zn t) r)] := by rw [List.getD, List.getElem?_eq_getElem hil]; rfl
     have hd2 : (zm c s).getD ((zm c s).findIdx (canF (zn t) r)) ([], 0) ∈ zm c s := by rw [hget]; exact List.getElem_mem hil
     have hdF : canF (zn t) r ((zm c s).getD ((zm c s).findIdx (canF (zn t) r)) ([], 0)) = true := by rw [hget]; exact List.findIdx_getElem (w := hil)
     have ih := fun ps hps => Wf t h1n hn a2 V hV z1 z2 z3 r (i + 1) ((zm c s).getD ((zm c s).findIdx (canF (zn t) r)) ([], 0)) ps a.next ⟨L2, Lq, hV2, hdr.2.2.1 c hcL _ hd2⟩ hdF hps
     refine Ev.step (fun k => jt k _ _ _ _ _ _ _ _ _ _ _) ?_
     simp only [a.g, a.z, a.get, a.w, cond_true]
     have eidx : Ev (fun k => zI k (zm c s, (rowM (zn t) t.2.1 V, (i : Int)))) (idxF (gc (rowM (zn t) t.2.1 V) i) 0 (zm c s)) :=
      Ev.step (fun k => xl k _ _) (Qr hn (zm c s) (by omega) hno (rowM (zn t) t.2.1 V) i (by rw [hml]; omega) (by rw [hml]; omega) (zm c s) 0 rfl)
     rw [hidx] at eidx
     refine Ev.bind (ji hco hso) (Ev.bind eidx ?_)
     simp only [Int.toNat_natCast]
     refine Ev.ite (fun h2 => ?_) (fun h2 => ?_)
     ·have e2 : s.1 = 2 := by simpa using h2
      refine Ev.yes (decide_eq_true (by rw [za]; simp; omega)) (Ev.yes (decide_eq_true (by omega)) (Ev.yes (decide_eq_true hilI) (Ev.yes (decide_eq_true hil) ?_)))
      have := ih (ps ++ [(((zm c s).findIdx (canF (zn t) r) : Nat) : Int)]) (by simp; omega)
      have es : T7 (canF (zn t) r) s (c, ps) = ((zm c s).getD ((zm c s).findIdx (canF (zn t) r)) ([], 0), ps ++ [(((zm c s).findIdx (canF (zn t) r) : Nat) : Int)]) := by
       unfold T7
       dsimp only
       rw [if_pos e2]
      show Ev _ (found (some (firstW (zn t) r (T7 (canF (zn t) r) s (c, ps)))))
      rw [es]
      exact this
     ·have e2 : ¬ s.1 = 2 := by simpa using h2
      refine Ev.yes (decide_eq_true (by omega)) (Ev.yes (decide_eq_true hilI) (Ev.yes (decide_eq_true hil) ?_))
      have := ih ps (by omega)
      have es : T7 (canF (zn t) r) s (c, ps) = ((zm c s).getD ((zm c s).findIdx (canF (zn t) r)) ([], 0), ps) := by
       unfold T7
       dsimp only
       rw [if_neg e2]
      show Ev _ (found (some (firstW (zn t) r (T7 (canF (zn t) r) s (c, ps)))))
      rw [es]
      exact this
theorem Qs (t : Trick) {n : Nat} (hn : n ≤ 12) (a1 : t.1.length ≤ maxLen) (ai : Ins t.1) (a2 : t.2.1.length ≤ 12) (l : List Scene) (hl : l.length ≤ 16384) (ho : SAll n l) : ∀ (r : List Scene) (i : Nat), l.drop i = r →
 Ev (fun k => zp k l t.1 t.2.1 t.2.2.1 t.2.2.2.1 t.2.2.2.2 (l.length : Int) (i : Int)) (idxF (zn t) i r)
 | [], i, h => Ev.step (fun k => zU k _ _ _ _ _ _ _ _) (Ev.no (zO h).g (Ev.some rfl))
 | x :: r, i, h => by
   have a := zl h (by rw [zd]; omega)
   have hx := ho x a.mem
   refine Ev.step (fun k => zU k _ _ _ _ _ _ _ _) ?_
   simp only [a.g, a.z, a.get, a.w, cond_true]
   rw [V6]
   have e1 : Ev (fun k => gl k (x, t)) (zn t x) := Ev.step (fun k => Xm k x t) (Ev.bind (bA t x a1 ai (by rw [zd]; omega) (by rw [hx.len, zd]; omega) (zQ hx.ok)) (Ev.some rfl))
   refine Ev.bind e1 (Ev.ite (fun h1 => Ev.some ?_) (fun h1 => ?_))
   ·rw [if_pos h1]
   ·rw [if_neg (by rw [h1]; simp)]; exact Qs t hn a1 ai a2 l hl ho r (i + 1) a.next
theorem bB (t : Trick) (a1 : t.1.length ≤ maxLen) (ai : Ins t.1) (a2 : t.2.1.length ≤ maxLen) : Ev (fun k => jX k t) (vl t) := by
 refine Ev.step (fun k => Up k t) (Ev.bind (xa t a1 ai a2) (Ev.ite (fun h => Ev.some ?_) (fun h => ?_)))
 ·have : zi t = false := by simpa using h
  simp [vl, this]
 ·have e : zi t = true := by simpa using h
  obtain ⟨h12, h1n, hn, hp⟩ := zy e
  have hs := yI e
  obtain ⟨q1, q2⟩ := SB t.2.1 (yj t)
  have hst : (yj t).map Prod.fst = [(t.1, -1)] := rfl
  rw [hst] at q1 q2
  refine Ev.bind (V4 t e a1 ai a2) ?_
  unfold vl wu
  rw [if_pos e]
  cases hL : levU t.2.1 [(t.1, -1)] with
  | none =>
    rw [hL] at q1
    cases hE : uL t.2.1 (yj t) with
    | some A => rw [hE] at q1; cases q1
    | none => exact Ev.yes rfl (Ev.pure _)
  | some V =>
    rw [hL] at q1
    cases hE : uL t.2.1 (yj t) with
    | none => rw [hE] at q1; cases q1
    | some A =>
      rw [hE] at q1
      have hlast : V.getLastD [] = A.map Prod.fst := Option.some.inj q1
      obtain ⟨hV, Q, hQ⟩ := Ll t.2.1 [(t.1, -1)] V hs.2 (W6 e) (by simp) (by simp) hL
      have hVl := hV.len
      have hA3 := fH _ _ A (by simp [yj]) hE
      have hAo := WM t.2.1 (yj t) A hs.2 (eK e) hE
      have hAS : SAll t.1.length (A.map Prod.fst) := fun c hc => by
       obtain ⟨d, hd, rfl⟩ := List.mem_map.1 hc
       exact hAo d hd
      have hlst : V.getD (V.length - 1) [] = A.map Prod.fst := by
       rw [← hlast]
       cases V with
       | nil => simp at hVl
       | cons a L => rw [List.getLastD_cons, List.getD, ← List.getLast?_eq_getElem?, List.getLast?_cons]; simp [List.getLastD_eq_getLast?]
      have ew : IntKind.i64.wrap ((V.length : Int) - 1) = ((V.length - 1 : Nat) : Int) := by rw [zf (by omega) (by omega)]; omega
      have h0 : V.getD 0 [] = [(t.1, -1)] := by rw [hQ]; rfl
      have hbad : ∀ w ∈ A, (!wt t w.1) = zn t w.1 := fun w hw => by
       have harr := YQ e w.1 (by
        unfold ya wu
        rw [if_pos e, hE]
        exact List.mem_map_of_mem hw)
       unfold zn xI
       rw [e, harr]; rfl
      have hfind : A.find? (fun w => !wt t w.1) = A.find? (fun w => zn t w.1) := by
       have : ∀ (l : List Way), (∀ w ∈ l, (!wt t w.1) = zn t w.1) → l.find? (fun w => !wt t w.1) = l.find? (fun w => zn t w.1) := by
        intro l
        induction l with
        | nil => intro _; rfl
        | cons w l ih => intro h; rw [List.find?_cons, List.find?_cons, h w (by simp), ih (fun u hu => h u (by simp [hu]))]
       exact this A hbad
      have hef := QH (zn t) t.2.1 (yj t) A hE
      have hany : (A.map Prod.fst).any (zn t) = canF (zn t) t.2.1 (t.1, -1) := by
       have h1 : (A.map Prod.fst).any (zn t) = (A.find? (fun w => zn t w.1)).isSome := by
        rw [List.any_map, Bool.eq_iff_iff, List.find?_isSome, List.any_eq_true]
        rfl
       rw [h1, hef]
       show (((yj t).find? (fun w => canF (zn t) t.2.1 w.1)).map (firstW (zn t) t.2.1)).isSome = _
       unfold yj
       rw [List.find?_cons]
       cases canF (zn t) t.2.1 (t.1, -1) <;> rfl
      simp only [outU, List.nil_append, ew, Int.toNat_natCast, h0, hlst]
      refine Ev.no rfl (Ev.yes (decide_eq_true (by omega)) (Ev.yes (decide_eq_true (by omega)) (Ev.yes (by simp) (Ev.yes (decide_eq_true (by omega)) (Ev.yes (decide_eq_true (by omega)) (Ev.yes (decide_eq_true (by omega)) ?_))))))
      have hcont : Ev (fun k => zD k (A.map Prod.fst, t)) ((A.map Prod.fst).any (zn t)) :=
       Ev.step (fun k => yV k _ _) (Ev.bind (Ev.step (fun k => xm k _ _) (Qs t hn a1 ai h12 (A.map Prod.fst) (by rw [List.length_map]; omega) hAS _ 0 rfl)) (Ev.some (LB _ _ _)))
      refine Ev.bind hcont ?_
      rw [hany, hfind, hef]
      cases hF : canF (zn t) t.2.1 (t.1, -1) with
      | false =>
        have : (yj t).find? (fun w => canF (zn t) t.2.1 w.1) = none := by unfold yj; rw [List.find?_cons, hF]; rfl
        rw [this]
        exact Ev.yes rfl (Ev.pure _)
      | true =>
        have : (yj t).find? (fun w => canF (zn t) t.2.1 w.1) = some ((t.1, -1), []) := by unfold yj; rw [List.find?_cons, hF]
        rw [this]
        refine Ev.no rfl (Ev.bind (Qv t h1n hn a1 ai h12 rfl V hV) ?_)
        exact Wf t h1n hn h12 V hV 0 0 0 t.2.1 0 (t.1, -1) [] rfl ⟨[(t.1, -1)], Q, by rw [hQ]; rfl, by simp⟩ hF (by simp)
end Qq
namespace Qq
open Go Go.Vt Pt
set_option linter.unusedVariables false
set_option linter.unusedSimpArgs false
theorem UT (xs : List Step) (hm : xs.length ≤ 1048576) : Ev (fun k => wG k xs) xs := by
 refine Ev.step (fun k => eE k xs) (Ev.ite (fun h => ?_) (fun h => ?_))
 ·exact Ev.yes (by rw [za]; simp; omega) (Ev.some (by simp))
 ·have : xs = [] := by simpa using h
  subst this
  exact Ev.both (Ev.pure _) (Ev.yes (by simp) (Ev.some rfl))
theorem bJ (t : Trick) (h1 : t.1.length ≤ 1048576) (h2 : t.2.1.length ≤ 1048576) : Ev (fun k => jf k t) t :=
 Ev.step (fun k => U5 k t) (Ev.bind (yL _ h1) (Ev.bind (UT _ h2) (Ev.pure _)))
def uC (t : Trick) (i : Nat) : Trick := (t.1, t.2.1.take i ++ t.2.1.drop (i + 1), t.2.2)
def Rm (t : Trick) (b : Bool) : List Int × List Step × Int × Int × Int × Bool := (t.1, t.2.1, t.2.2.1, t.2.2.2.1, t.2.2.2.2, b)
def noTrick : List Int × List Step × Int × Int × Int × Bool := ([], [], 0, 0, 0, false)
def dropStep (t : Trick) (i : Int) : List Int × List Step × Int × Int × Int × Bool :=
 if zi t && (decide (0 ≤ i) && (decide (i < (t.2.1.length : Int)) && zi (uC t i.toNat))) then Rm (uC t i.toNat) true else noTrick
theorem L6 (t : Trick) (i : Nat) : (uC t i).2.1.length ≤ t.2.1.length := by simp [uC]; omega
theorem Zc (xs : List Step) (i : Nat) (hi : i < xs.length) (hm : xs.length ≤ 1048576) : Ev (fun k => yq k (xs, (i : Int), ((i + 1 : Nat) : Int))) (xs.take i ++ xs.drop (i + 1)) := by
 refine Ev.congr (fun k => gX k xs _ _) ?_
 show Ev (fun _ => deleteF (xs, (i : Int), ((i + 1 : Nat) : Int))) _
 unfold deleteF
 refine Ev.yes ?_ (Ev.some ?_)
 ·simp only [Bool.and_eq_true, decide_eq_true_eq]; omega
 ·simp
end Qq
namespace Qq
open Go Go.Vt Pt
set_option linter.unusedVariables false
set_option linter.unusedSimpArgs false
theorem Yz (t : Trick) (i : Int) (a1 : t.1.length ≤ 1048576) (ai : Ins t.1) (a2 : t.2.1.length ≤ 1048576) (hi : In i) : Ev (fun k => b6 k (t, i)) (dropStep t i) := by
 unfold dropStep
 refine Ev.step (fun k => SP k t i) (Ev.bind (xa t (by rw [zd]; omega) ai (by rw [zd]; omega)) (Ev.ite (fun h => Ev.some ?_) (fun h => ?_)))
 ·have : zi t = false := by simpa using h
  simp [this, noTrick]
 ·have ht : zi t = true := by simpa using h
  refine Ev.ite (fun h => Ev.some ?_) (fun h => Ev.ite (fun h2 => Ev.some ?_) (fun h2 => ?_))
  ·have : ¬ 0 ≤ i := by simpa using h
   simp [this, noTrick]
  ·have : ¬ i < (t.2.1.length : Int) := by simpa using h2
   simp [this, noTrick]
  ·have hb : 0 ≤ i ∧ i < (t.2.1.length : Int) := by simp at h h2; omega
   obtain ⟨n, rfl⟩ := Int.eq_ofNat_of_zero_le hb.1
   have hn : n < t.2.1.length := by omega
   have hl := L6 t n
   rw [show IntKind.i64.wrap ((n : Int) + 1) = ((n + 1 : Nat) : Int) by rw [zf (by omega) (by omega)]; simp]
   refine Ev.bind (bJ t a1 a2) (Ev.bind (Zc t.2.1 n hn a2) (Ev.bind (xa (uC t n) (by show t.1.length ≤ _; rw [zd]; omega) ai (by rw [zd]; omega)) (Ev.ite (fun h => Ev.some ?_) (fun h => Ev.some ?_))))
   ·have : zi (uC t n) = false := by simpa using h
    simp [this, noTrick]
   ·have : zi (uC t n) = true := by simpa using h
    rw [if_pos (by simp [ht, hn, this])]
    rfl
end Qq
namespace Qq
open Go Go.Vt Pt
set_option linter.unusedVariables false
theorem vf (xs : List Step) (hm : xs.length ≤ 12) : ∀ (r : List Step) (i : Nat) (v : Nat), xs.drop i = r → v ≤ i → Ev (fun k => xX k (v : Int) xs (xs.length : Int) (i : Int)) ((v : Int) + countK (· == 1) r)
 | [], i, v, h, hv => by
   have q := zO h
   refine Ev.step (fun k => jV k _ _ _ _) ?_
   simp only [q.g, cond_false]
   exact Ev.some (by simp [countK])
 | s :: r, i, v, h, hv => by
   have q := zl h (by rw [zd]; omega)
   have := q.lt
   refine Ev.step (fun k => jV k _ _ _ _) ?_
   simp only [q.g, q.z, q.get, q.w, cond_true]
   rw [x5]
   refine Ev.ite (fun h => ?_) (fun h => ?_)
   ·rw [zf (by omega) (by omega)]
    refine (vf xs hm r (i + 1) (v + 1) q.next (by omega)).to ?_
    rw [if_pos h]; omega
   ·refine (vf xs hm r (i + 1) v q.next (by omega)).to ?_
    rw [h]; simp
def wk (t : Trick) : Int := if zi t then (countK (· == 1) t.2.1 : Int) else -1
theorem vg (t : Trick) (a1 : t.1.length ≤ maxLen) (ai : Ins t.1) (a2 : t.2.1.length ≤ maxLen) : Ev (fun k => wL k t) (wk t) := by
 refine Ev.step (fun k => Un k t) (Ev.bind (xa t a1 ai a2) (Ev.ite (fun h => Ev.some ?_) (fun h => ?_)))
 ·have : zi t = false := by simpa using h
  simp [wk, this]
 ·have e : zi t = true := by simpa using h
  refine (vf t.2.1 (zy e).1 t.2.1 0 0 rfl (by omega)).to ?_
  simp [wk, e]
end Qq
namespace Qq
open Go Go.Vt Pt
set_option linter.unusedVariables false
set_option linter.unusedSimpArgs false
set_option linter.unnecessarySimpa false
end Qq
namespace Qq
open Go Go.Vt Pt
set_option linter.unusedVariables false
set_option linter.unnecessarySimpa false
set_option linter.unusedSimpArgs false
def cutB (s : Step) : Bool := (s.1 == 1) && (s.2.1.1 == 1)
def mrg (n : Int) (s t : Step) : Step := (s.1, (s.2.1.1, if s.2.1.2 + t.2.1.2 > n then s.2.1.2 + t.2.1.2 - n else s.2.1.2 + t.2.1.2), s.2.2)
def jn (n : Int) : Step → List Step → List Step
 | s, [] => [s]
 | s, t :: r => if cutB s && cutB t then jn n (mrg n s t) r else s :: jn n t r
def joinM (n : Int) : List Step → List Step
 | [] => [] | s :: r => jn n s r
def CutFit (n : Int) (l : List Step) : Prop := ∀ s ∈ l, cutB s = true → 0 ≤ s.2.1.2 ∧ s.2.1.2 ≤ n
theorem JW {n : Int} {s t : Step} {r : List Step} (h : CutFit n (s :: t :: r)) (hs : cutB s = true) (ht : cutB t = true) : CutFit n (mrg n s t :: r) := by
 have h1 := h s (by simp) hs
 have h2 := h t (by simp) ht
 intro u hu hc
 rcases List.mem_cons.1 hu with rfl | hu
 ·unfold mrg
  dsimp only
  split <;> omega
 ·exact h u (by simp [hu]) hc
theorem Lv (n : Int) : ∀ (r : List Step) (s : Step), (jn n s r).length ≤ r.length + 1
 | [], s => by simp [jn]
 | t :: r, s => by
   unfold jn
   split
   ·have := Lv n r (mrg n s t); simp; omega
   ·have := Lv n r t; simp; omega
theorem Nu {α : Type} (done : List α) (s : α) (r : List α) (d : α) : (done ++ s :: r).getD (done.length : Int).toNat d = s := by simp [List.getD]
theorem JJ {α : Type} (done : List α) (s u : α) (r : List α) : (done ++ s :: r).set (done.length : Int).toNat u = done ++ u :: r := by simp
theorem vz (n : Int) (hn : 0 ≤ n ∧ n ≤ 12) (p0 : List Int) (hp0 : (p0.length : Int) = n) (x1 : List Step) (x2 x3 x4 a1 a2 a3 c a b : Int) (p : List Int) : ∀ (r : List Step) (done : List Step) (s : Step), done.length + 1 + r.length ≤ 1048576 → CutFit n (s :: r) →
 Ev (fun k => z8 k ((done.length + 1 : Nat) : Int) p0 x1 x2 x3 x4 a1 a2 a3 c a b p (done ++ s :: r)) (p, done ++ jn n s r, c, a, b, true)
 | [], done, s, hd, hf => by
   refine Ev.step (fun k => vA k _ _ _ _ _ _ _ _ _ _ _ _ _ _) ?_
   have : decide (((done.length + 1 : Nat) : Int) < ((done ++ [s]).length : Int)) = false := by simp
   simp only [this, cond_false]
   exact Ev.some rfl
 | t :: r, done, s, hd, hf => by
   rw [List.length_cons] at hd
   refine Ev.step (fun k => vA k _ _ _ _ _ _ _ _ _ _ _ _ _ _) ?_
   have e1 : IntKind.i64.wrap (((done.length + 1 : Nat) : Int) - 1) = (done.length : Int) := by rw [zf (by omega) (by omega)]; omega
   have e2 : IntKind.i64.wrap (((done.length + 1 : Nat) : Int) + 1) = ((done.length + 1 + 1 : Nat) : Int) := by rw [zf (by omega) (by omega)]; omega
   have e3 : ∀ d, (done ++ s :: t :: r).getD ((done.length + 1 : Nat) : Int).toNat d = t := fun d => by
    have := Nu (done ++ [s]) t r d
    simpa using this
   have hlen : ((done ++ s :: t :: r).length : Int) = (done.length : Int) + 2 + r.length := by simp; omega
   simp only [e1, e2, Nu, e3, JJ, hp0]
   have skip : Ev (fun k => z8 k ((done.length + 1 + 1 : Nat) : Int) p0 x1 x2 x3 x4 a1 a2 a3 c a b p (done ++ s :: t :: r)) (p, done ++ s :: jn n t r, c, a, b, true) := by
    have := vz n hn p0 hp0 x1 x2 x3 x4 a1 a2 a3 c a b p r (done ++ [s]) t (by simp; omega) (fun u hu => hf u (by simp at hu ⊢; exact .inr hu))
    simpa using this
   have hd1 : done.length < (done ++ s :: t :: r).length := by simp
   have hd2 : done.length + 1 < (done ++ s :: t :: r).length := by simp
   refine Ev.yes (by (first | (simp; done) | (simp; omega) | omega)) (Ev.yes (by (first | (simp; done) | (simp; omega) | omega)) (Ev.yes (by (first | (simp; done) | (simp; omega) | omega)) (Ev.yes (by (first | (simp; done) | (simp; omega) | omega)) (Ev.yes (by (first | (simp; done) | (simp; omega) | omega)) (Ev.yes (by (first | (simp; done) | (simp; omega) | omega)) (Ev.yes (by (first | (simp; done) | (simp; omega) | omega)) ?_))))))
   have nj : (cutB s && cutB t) = false → jn n s (t :: r) = s :: jn n t r := fun h => by rw [jn, if_neg (by rw [h]; simp)]
   refine Ev.ite (fun h => ?_) (fun h1 => Ev.ite (fun h => ?_) (fun h2 => Ev.ite (fun h => ?_) (fun h3 => Ev.ite (fun h => ?_) (fun h4 => ?_))))
   ·rw [nj (by simp at h; simp [cutB, h])]; exact skip
   ·rw [nj (by simp at h; simp [cutB, h])]; exact skip
   ·rw [nj (by simp at h; simp [cutB, h])]; exact skip
   ·rw [nj (by simp at h; simp [cutB, h])]; exact skip
   ·have hs : cutB s = true := by simp at h1 h3; simp [cutB, h1, h3]
    have ht : cutB t = true := by simp at h2 h4; simp [cutB, h2, h4]
    have k1 := hf s (by simp) hs
    have k2 := hf t (by simp) ht
    have ej : jn n s (t :: r) = jn n (mrg n s t) r := by rw [jn, if_pos (by rw [hs, ht]; rfl)]
    rw [ej]
    have w1 : IntKind.i64.wrap (s.2.1.2 + t.2.1.2) = s.2.1.2 + t.2.1.2 := zf (by omega) (by omega)
    have w2 : IntKind.i64.wrap (s.2.1.2 + t.2.1.2 - n) = s.2.1.2 + t.2.1.2 - n := zf (by omega) (by omega)
    simp only [w1, w2]
    have del : ∀ u : Step, CutFit n (u :: r) → Ev (fun k => (yq k (done ++ u :: t :: r, ((done.length + 1 : Nat) : Int), ((done.length + 1 + 1 : Nat) : Int))).bind fun y => z8 k ((done.length + 1 : Nat) : Int) p0 x1 x2 x3 x4 a1 a2 a3 c a b p y) (p, done ++ jn n u r, c, a, b, true) := fun u hu => by
     refine Ev.bind (Zc (done ++ u :: t :: r) (done.length + 1) (by simp) (by simp; omega)) ?_
     have e : (done ++ u :: t :: r).take (done.length + 1) ++ (done ++ u :: t :: r).drop (done.length + 1 + 1) = done ++ u :: r := by
      have : done ++ u :: t :: r = (done ++ [u]) ++ t :: r := by simp
      rw [this, List.take_append_of_le_length (by simp), List.take_of_length_le (by simp), List.drop_append]
      simp
     rw [e]
     exact vz n hn p0 hp0 x1 x2 x3 x4 a1 a2 a3 c a b p r done u (by omega) hu
    have hg := del (mrg n s t) (JW hf hs ht)
    refine Ev.ite (fun hk => ?_) (fun hk => ?_)
    ·have hk' : s.2.1.2 + t.2.1.2 > n := by simpa using hk
     unfold mrg at hg ⊢
     rw [if_pos hk'] at hg ⊢
     exact Ev.yes (by (first | (simp; done) | (simp; omega) | omega)) (Ev.yes (by (first | (simp; done) | (simp; omega) | omega)) (Ev.yes (by (first | (simp; done) | (simp; omega) | omega)) hg))
    ·have hk' : ¬ s.2.1.2 + t.2.1.2 > n := by simpa using hk
     unfold mrg at hg ⊢
     rw [if_neg hk'] at hg ⊢
     exact Ev.yes (by (first | (simp; done) | (simp; omega) | omega)) (Ev.yes (by (first | (simp; done) | (simp; omega) | omega)) (Ev.yes (by (first | (simp; done) | (simp; omega) | omega)) hg))
def fu (t : Trick) : Trick := (t.1, joinM t.1.length t.2.1, t.2.2)
def Yg (t : Trick) : List Int × List Step × Int × Int × Int × Bool := if zi t then Rm (fu t) true else noTrick
theorem NS {t : Trick} (h : zi t = true) : CutFit t.1.length t.2.1 := by
 unfold zi at h
 simp only [Bool.and_eq_true] at h
 have hs := h.2.2.2.1
 unfold vo at hs
 rw [List.all_eq_true] at hs
 intro s hm hc
 have := hs s hm
 unfold zx at this
 simp only [Bool.and_eq_true] at this
 unfold cutB at hc
 simp only [Bool.and_eq_true, beq_iff_eq] at hc
 rw [if_pos hc.1] at this
 simp only [Bool.and_eq_true] at this
 have hm := this.2.2.1
 unfold vb at hm
 simp only [Bool.and_eq_true, decide_eq_true_eq] at hm
 rw [if_pos hc.2] at hm
 simp at hm
 omega
theorem Tc (t : Trick) (a1 : t.1.length ≤ 1048576) (ai : Ins t.1) (a2 : t.2.1.length ≤ 1048576) : Ev (fun k => Zt k t) (Yg t) := by
 unfold Yg
 refine Ev.step (fun k => Td k t) (Ev.bind (xa t (by rw [zd]; omega) ai (by rw [zd]; omega)) (Ev.ite (fun h => Ev.some ?_) (fun h => ?_)))
 ·have : zi t = false := by simpa using h
  simp [this, noTrick]
 ·have ht : zi t = true := by simpa using h
  have hl := zy ht
  have hf := NS ht
  rw [if_pos ht]
  refine Ev.bind (bJ t a1 a2) ?_
  obtain ⟨p, st, c, a, b⟩ := t
  dsimp only at *
  cases st with
  | nil =>
    refine Ev.step (fun k => vA k _ _ _ _ _ _ _ _ _ _ _ _ _ _) ?_
    exact Ev.no (by simp) (Ev.some rfl)
  | cons s r =>
    exact vz (p.length : Int) (by omega) p rfl (s :: r) c a b 0 0 0 c a b p r [] s (by simp at hl ⊢; omega) hf
end Qq
namespace Qq
open Go Go.Vt Pt
set_option linter.unusedVariables false
set_option linter.unusedSimpArgs false
set_option linter.unnecessarySimpa false
def Wv : List zz → List Scene → Option (List Scene)
 | [], l => some l
 | s :: r, l => if (goU s l []).length ≤ 3000 then Wv r (goU s l []) else none
theorem QJ : ∀ (r : List zz) (l : List Way), (uL r l).map (fun A => A.map Prod.fst) = Wv r (l.map Prod.fst)
 | [], l => rfl
 | s :: r, l => by
   have e : goU s (l.map Prod.fst) [] = (goP s l []).map Prod.fst := by rw [SU]; rfl
   have hlen : (goU s (l.map Prod.fst) []).length = (goP s l []).length := by rw [e, List.length_map]
   rw [wj]
   unfold Wv
   rw [hlen]
   by_cases h : (goP s l []).length ≤ 3000
   ·rw [if_pos h, if_pos h, e]; exact QJ r _
   ·rw [if_neg h, if_neg h]; rfl
theorem UK {t : Trick} (h : zi t = true) : ya t = (match Wv t.2.1 [(t.1, -1)] with | some A => (A, true) | none => ([], false)) := by
 have e := QJ t.2.1 (yj t)
 have es : (yj t).map Prod.fst = [(t.1, -1)] := rfl
 rw [es] at e
 unfold ya wu
 rw [if_pos h, ← e]
 cases uL t.2.1 (yj t) <;> rfl
def mvS (m : Int × Int) (c : Scene) : Scene := (xf c.1 m, c.2)
theorem Nr {s : zz} (hs : s.1 = 1) : ∀ (l acc : List Scene), (acc ++ l.map (mvS s.2.1)).Nodup → goU s l acc = acc ++ l.map (mvS s.2.1)
 | [], acc, h => by simp [goU]
 | c :: r, acc, h => by
   have hn : zm c s = [mvS s.2.1 c] := by unfold zm; rw [if_pos hs]; rfl
   have hc : mvS s.2.1 c ∉ acc := by
    intro hm
    rw [List.map_cons, List.nodup_append] at h
    exact h.2.2 _ hm _ (by simp) rfl
   unfold goU
   rw [hn]
   unfold addU
   rw [if_neg hc]
   unfold addU
   have h2 : ((acc ++ [mvS s.2.1 c]) ++ r.map (mvS s.2.1)).Nodup := by simpa using h
   rw [Nr hs r _ h2]
   simp
theorem JV {n : Nat} {m : Int × Int} (hm : MoveFit n m) {c d : Scene} (hc : SceneOk n c) (hd : SceneOk n d) (h : mvS m c = mvS m d) : c = d := by
 unfold mvS at h
 have h1 := congrArg Prod.fst h
 have h2 := congrArg Prod.snd h
 have := Mr (p := c.1) (q := d.1) (by rw [hc.len]; exact hm) (by rw [hc.len, hd.len]) (fun x hx => ((yw hc.ok).2.1 x hx).1) (fun x hx => ((yw hd.ok).2.1 x hx).1) h1
 exact Prod.ext this h2
theorem Qj {n : Nat} {m : Int × Int} (hm : MoveFit n m) {l : List Scene} (ho : SAll n l) (hn : l.Nodup) : (l.map (mvS m)).Nodup := by
 show List.Pairwise _ _
 rw [List.pairwise_map]
 exact List.Pairwise.imp_of_mem (fun ha hb hne e => hne (JV hm (ho _ ha) (ho _ hb) e)) hn
theorem LR {n : Nat} {s : zz} (hs : s.1 = 1) (hm : MoveFit n s.2.1) {l : List Scene} (ho : SAll n l) (hn : l.Nodup) : goU s l [] = l.map (mvS s.2.1) := by
 have := Nr hs l [] (by simpa using Qj hm ho hn)
 simpa using this
theorem LT {n : Nat} {s : zz} (hs : zx (n : Int) s = true) {l : List Scene} (ho : SAll n l) : SAll n (goU s l []) := fun d hd => by
 rw [Us] at hd
 rcases hd with ⟨c, h1, h2⟩ | hd
 ·exact cW (ho c h1) hs d h2
 ·cases hd
theorem JN {p : List Int} {a b : Nat} (ha : a ≤ p.length) (hb : b ≤ p.length) :
 (p.drop a ++ p.take a).drop b ++ (p.drop a ++ p.take a).take b = if p.length < a + b then p.drop (a + b - p.length) ++ p.take (a + b - p.length) else p.drop (a + b) ++ p.take (a + b) := by
 have hl : (p.drop a).length = p.length - a := List.length_drop
 split
 ·rename_i h
  obtain ⟨j, hj⟩ : ∃ j, a + b - p.length = j := ⟨_, rfl⟩
  rw [hj]
  have hb2 : b - (p.drop a).length = j := by rw [hl]; omega
  have hdb : (p.drop a).length ≤ b := by rw [hl]; omega
  rw [List.drop_append, List.take_append, hb2, List.drop_of_length_le hdb, List.nil_append, List.take_of_length_le hdb, List.take_take, Nat.min_eq_left (by omega)]
  have e : p.drop j = (p.take a).drop j ++ p.drop a := by
   conv => lhs; rw [← List.take_append_drop a p]
   rw [List.drop_append_of_le_length (by simp; omega)]
  rw [e]; simp
 ·rename_i h
  rw [List.drop_append_of_le_length (by rw [hl]; omega), List.take_append_of_le_length (by rw [hl]; omega), List.drop_drop, List.take_add]
  simp
theorem Pu (p : List Int) (k : Int) : xf p (1, k) = p.drop k.toNat ++ p.take k.toNat := by unfold xf; rw [if_pos rfl]
theorem aV {s : Step} (h : cutB s = true) : s.1 = 1 ∧ s.2.1.1 = 1 := by unfold cutB at h; simpa using h
theorem Hg {n : Nat} {p : List Int} (hp : p.length = n) {s t : Step} (hs : cutB s = true) (ht : cutB t = true) (h1 : 0 ≤ s.2.1.2 ∧ s.2.1.2 ≤ n) (h2 : 0 ≤ t.2.1.2 ∧ t.2.1.2 ≤ n) : xf (xf p s.2.1) t.2.1 = xf p (mrg n s t).2.1 := by
 have es : s.2.1 = (1, s.2.1.2) := Prod.ext (aV hs).2 rfl
 have et : t.2.1 = (1, t.2.1.2) := Prod.ext (aV ht).2 rfl
 have em : (mrg n s t).2.1 = (1, if s.2.1.2 + t.2.1.2 > n then s.2.1.2 + t.2.1.2 - n else s.2.1.2 + t.2.1.2) := Prod.ext (aV hs).2 rfl
 rw [es, et, em]
 generalize s.2.1.2 = a at *
 generalize t.2.1.2 = b at *
 rw [Pu, Pu, Pu, JN (by omega) (by omega)]
 split
 ·rename_i h
  rw [if_pos (by omega)]
  have : (a + b - (n : Int)).toNat = a.toNat + b.toNat - p.length := by omega
  rw [this]
 ·rename_i h
  rw [if_neg (by omega)]
  have : (a + b).toNat = a.toNat + b.toNat := by omega
  rw [this]
theorem Yh {n : Nat} {s : Step} (h : zx (n : Int) s = true) (hs : cutB s = true) : 0 ≤ s.2.1.2 ∧ s.2.1.2 ≤ n ∧ s.2.2 = 0 ∧ MoveFit n s.2.1 := by
 obtain ⟨e1, e2⟩ := aV hs
 unfold zx at h
 rw [if_pos e1] at h
 simp only [Bool.and_eq_true, beq_iff_eq] at h
 have hm := Tx h.2.2.1
 exact ⟨hm.k0, hm.c (.inl e2), h.2.2.2, hm⟩
theorem Jw {n : Nat} {s t : Step} (hs : zx (n : Int) s = true) (ht : zx (n : Int) t = true) (cs : cutB s = true) (ct : cutB t = true) : zx (n : Int) (mrg n s t) = true := by
 obtain ⟨e1, e2⟩ := aV cs
 have a1 := Yh hs cs
 have a2 := Yh ht ct
 have h1 := hs
 unfold zx at h1 ⊢
 rw [if_pos e1] at h1
 rw [if_pos (show (mrg n s t).1 = 1 from e1)]
 simp only [Bool.and_eq_true, beq_iff_eq, decide_eq_true_eq] at h1 ⊢
 refine ⟨h1.1, h1.2.1, ?_, h1.2.2.2⟩
 unfold vb
 rw [if_pos (show (mrg n s t).2.1.1 = 1 from e2)]
 simp only [Bool.and_eq_true, decide_eq_true_eq]
 refine ⟨h1.1, h1.2.1, ?_, ?_⟩ <;>
 ·show _ ≤ _
  unfold mrg
  dsimp only
  split <;> omega
theorem JX {n : Int} {s t : Step} (cs : cutB s = true) : cutB (mrg n s t) = true := cs
theorem SE {n : Nat} : ∀ (r : List Step) (s : Step), (∀ q ∈ s :: r, zx (n : Int) q = true) → ∀ q ∈ jn n s r, zx (n : Int) q = true
 | [], s, h => h
 | t :: r, s, h => by
   unfold jn
   by_cases c : (cutB s && cutB t) = true
   ·rw [if_pos c]
    rw [Bool.and_eq_true] at c
    exact SE r _ (fun q hq => by
     rcases List.mem_cons.1 hq with rfl | hq
     ·exact Jw (h s (by simp)) (h t (by simp)) c.1 c.2
     ·exact h q (by simp [hq]))
   ·rw [if_neg c]
    intro q hq
    rcases List.mem_cons.1 hq with rfl | hq
    ·exact h q (by simp)
    ·exact SE r t (fun q hq => h q (by simp at hq ⊢; exact .inr hq)) q hq
theorem Pr {n : Int} : ∀ (r : List Step) (s : Step), yS (jn n s r) = yS (s :: r)
 | [], s => rfl
 | t :: r, s => by
   unfold jn
   by_cases c : (cutB s && cutB t) = true
   ·rw [if_pos c, Pr r]
    rw [Bool.and_eq_true] at c
    have e1 := (aV c.1).1
    have e2 := (aV c.2).1
    have e3 : (mrg n s t).1 = 1 := e1
    unfold yS
    simp [e1, e2, e3]
   ·rw [if_neg c]
    have := Pr (n := n) r t
    unfold yS at this ⊢
    rw [List.any_cons, this]
    rfl
theorem SF {n : Int} : ∀ (r : List Step) (s : Step), countK (· == 1) (jn n s r) ≤ countK (· == 1) (s :: r)
 | [], s => Nat.le_refl _
 | t :: r, s => by
   unfold jn
   by_cases c : (cutB s && cutB t) = true
   ·rw [if_pos c]
    have := SF (n := n) r (mrg n s t)
    rw [x5] at this ⊢
    rw [x5]
    have e3 : (mrg n s t).1 = s.1 := rfl
    rw [e3] at this
    omega
   ·rw [if_neg c]
    have := SF (n := n) r t
    rw [x5 (l := jn n t r), x5 (l := t :: r)]
    omega
def noAdj : List Step → Prop
 | s :: t :: r => ¬ (cutB t = true ∧ cutB s = true) ∧ noAdj (t :: r)
 | _ => True
theorem Lw {n : Int} : ∀ (r : List Step) (s : Step), ∃ u q, jn n s r = u :: q ∧ cutB u = cutB s
 | [], s => ⟨s, [], rfl, rfl⟩
 | t :: r, s => by
   unfold jn
   by_cases c : (cutB s && cutB t) = true
   ·rw [if_pos c]
    obtain ⟨u, q, h1, h2⟩ := Lw (n := n) r (mrg n s t)
    exact ⟨u, q, h1, h2⟩
   ·rw [if_neg c]; exact ⟨s, _, rfl, rfl⟩
theorem Ly {n : Int} : ∀ (r : List Step) (s : Step), noAdj (jn n s r)
 | [], s => trivial
 | t :: r, s => by
   unfold jn
   by_cases c : (cutB s && cutB t) = true
   ·rw [if_pos c]; exact Ly r _
   ·rw [if_neg c]
    obtain ⟨u, q, h1, h2⟩ := Lw (n := n) r t
    have := Ly (n := n) r t
    rw [h1] at this ⊢
    refine ⟨fun h => c ?_, this⟩
    rw [h2] at h
    rw [h.1, h.2]; rfl
theorem Ps {n : Nat} : ∀ (r : List Step) (s : Step) (l : List Scene), (∀ q ∈ s :: r, zx (n : Int) q = true) → SAll n l → l.Nodup → l.length ≤ 3000 → Wv (jn n s r) l = Wv (s :: r) l
 | [], s, l, h, ho, hn, hl => rfl
 | t :: r, s, l, h, ho, hn, hl => by
   have hs := h s (by simp)
   have ht := h t (by simp)
   unfold jn
   by_cases c : (cutB s && cutB t) = true
   ·rw [if_pos c]
    rw [Bool.and_eq_true] at c
    have hm := Jw hs ht c.1 c.2
    rw [Ps r (mrg n s t) l (fun q hq => by
     rcases List.mem_cons.1 hq with rfl | hq
     ·exact hm
     ·exact h q (by simp [hq])) ho hn hl]
    obtain ⟨a1, a2, _, a4⟩ := Yh hs c.1
    obtain ⟨b1, b2, _, b4⟩ := Yh ht c.2
    obtain ⟨_, _, _, m4⟩ := Yh hm (JX c.1)
    have g1 := LR (aV c.1).1 a4 ho hn
    have o1 : SAll n (l.map (mvS s.2.1)) := by rw [← g1]; exact LT hs ho
    have n1 := Qj a4 ho hn
    have g2 := LR (aV c.2).1 b4 o1 n1
    have g3 := LR (s := mrg n s t) (aV c.1).1 m4 ho hn
    have e : (l.map (mvS s.2.1)).map (mvS t.2.1) = l.map (mvS (mrg n s t).2.1) := by
     rw [List.map_map]
     refine List.map_congr_left fun x hx => ?_
     show (xf (xf x.1 s.2.1) t.2.1, x.2) = (xf x.1 (mrg n s t).2.1, x.2)
     rw [Hg (ho x hx).len c.1 c.2 ⟨a1, a2⟩ ⟨b1, b2⟩]
    show (if (goU (mrg n s t) l []).length ≤ 3000 then Wv r (goU (mrg n s t) l []) else none) = (if (goU s l []).length ≤ 3000 then (if (goU t (goU s l []) []).length ≤ 3000 then Wv r (goU t (goU s l []) []) else none) else none)
    rw [g1, g2, g3, e]
    simp only [List.length_map, if_pos hl]
   ·rw [if_neg c]
    show (if (goU s l []).length ≤ 3000 then Wv (jn n t r) (goU s l []) else none) = (if (goU s l []).length ≤ 3000 then Wv (t :: r) (goU s l []) else none)
    by_cases hc : (goU s l []).length ≤ 3000
    ·rw [if_pos hc, if_pos hc]
     exact Ps r t _ (fun q hq => h q (by simp at hq ⊢; exact .inr hq)) (LT hs ho) (Ur s l [] List.nodup_nil) hc
    ·rw [if_neg hc, if_neg hc]
theorem KZ {t : Trick} (h : zi t = true) : zi (fu t) = true ∧ ya (fu t) = ya t ∧ noAdj (fu t).2.1 ∧ countK (· == 1) (fu t).2.1 ≤ countK (· == 1) t.2.1 := by
 have hs := (yI h).2
 have hst := W6 h
 obtain ⟨p, st, c, a, b⟩ := t
 cases st with
 | nil => exact ⟨h, rfl, trivial, Nat.le_refl _⟩
 | cons s r =>
   have hk := SE (n := p.length) r s hs
   have hn := Pr (n := (p.length : Int)) r s
   have hok : zi (p, jn p.length s r, c, a, b) = true := by
    unfold zi at h ⊢
    simp only [Bool.and_eq_true, decide_eq_true_eq] at h ⊢
    have hl := Lv (p.length : Int) r s
    refine ⟨h.1, h.2.1, ?_, List.all_eq_true.2 hk, by rw [hn]; exact h.2.2.2.2⟩
    have := h.2.2.1
    simp only [List.length_cons] at this
    exact Nat.le_trans hl this
   refine ⟨hok, ?_, Ly r s, SF r s⟩
   show ya (p, jn p.length s r, c, a, b) = _
   rw [UK hok, UK h]
   show (match Wv (jn p.length s r) [(p, -1)] with | some A => (A, true) | none => ([], false)) = (match Wv (s :: r) [(p, -1)] with | some A => (A, true) | none => ([], false))
   rw [Ps r s [(p, -1)] hs hst (by simp) (by simp)]
end Qq
namespace Qq
open Go Go.Vt Pt
set_option linter.unusedVariables false
set_option linter.unusedSimpArgs false
set_option linter.unnecessarySimpa false
def UC (t : Trick) : Int := if (ya t).2 = true then ((ya t).1.length : Int) else -1
end Qq
namespace Qq
open Go Go.Vt Pt
set_option linter.unusedVariables false
set_option linter.unusedSimpArgs false
set_option linter.unnecessarySimpa false
end Qq
namespace Qq
open Go Go.Vt Pt
set_option linter.unusedVariables false
set_option linter.unusedSimpArgs false
theorem Hm (x y : Step) : (!((x.1 == y.1) && ((x.2.1.1 == y.2.1.1) && ((x.2.1.2 == y.2.1.2) && ((x.2.2 == y.2.2) && true))))) = !(x == y) := by
 obtain ⟨a, ⟨b, c⟩, d⟩ := x
 obtain ⟨a', ⟨b', c'⟩, d'⟩ := y
 have e : ((a == a') && ((b == b') && ((c == c') && ((d == d') && true)))) = ((a, (b, c), d) == (a', (b', c'), d')) := by
  rw [Bool.eq_iff_iff]; simp [and_assoc]
 exact congrArg not e
theorem eC (xs ys : List Step) (hx : xs.length ≤ maxLen) (hy : ys.length ≤ maxLen) : ∀ (r s : List Step) (i : Nat), xs.drop i = r → ys.drop i = s → s.length = r.length → Ev (fun k => yP k xs ys (xs.length : Int) (i : Int)) (r == s)
 | [], [], i, h1, h2, hl => by
   have a := zO h1
   refine Ev.step (fun k => wo k xs ys _ i) ?_
   simp only [a.g, cond_false]
   exact Ev.pure _
 | x :: r, y :: s, i, h1, h2, hl => by
   have a := zl h1 hx
   have b := zl h2 hy
   refine Ev.step (fun k => wo k xs ys _ i) ?_
   simp only [a.g, a.z, b.g, a.get, b.get, a.w, cond_true, Hm]
   have ih := eC xs ys hx hy r s (i + 1) a.next b.next (by simpa using hl)
   refine Ev.ite (fun h => Ev.some ?_) (fun h => ih.to ?_)
   ·have : ¬ x = y := by simpa using h
    simp [this]
   ·have : x = y := by simpa using h
    simp [this]
 | [], _ :: _, _, _, _, hl => by simp at hl
 | _ :: _, [], _, _, _, hl => by simp at hl
theorem Rl (xs ys : List Step) (hx : xs.length ≤ maxLen) (hy : ys.length ≤ maxLen) : Ev (fun k => wF k (xs, ys)) (xs == ys) := by
 refine Ev.step (fun k => eD k xs ys) (Ev.ite (fun h => Ev.some ?_) (fun h => eC xs ys hx hy xs ys 0 rfl rfl ?_))
 ·have h' : ¬ xs.length = ys.length := by simp at h; omega
  have : ¬ xs = ys := fun e => h' (by rw [e])
  simp [this]
 ·simp at h; omega
theorem U7 (t u : Trick) (h1 : t.1.length ≤ maxLen) (h2 : t.2.1.length ≤ maxLen) (h3 : u.1.length ≤ maxLen) (h4 : u.2.1.length ≤ maxLen) : Ev (fun k => Zq k (t, u)) (t == u) := by
 obtain ⟨a, b, c, d, e⟩ := t
 obtain ⟨a', b', c', d', e'⟩ := u
 refine Ev.step (fun k => U8 k _ _) (Ev.bind (uv _ _ h1 h3) ?_)
 refine Ev.ite (fun h => Ev.bind (Rl _ _ h2 h4) ?_) (fun h => Ev.some ?_)
 ·have ea : a = a' := by simpa using h
  refine Ev.ite (fun h => ?_) (fun h => Ev.some ?_)
  ·have eb : b = b' := by simpa using h
   subst ea eb
   repeat (first | (refine Ev.ite (fun h => ?_) (fun h => ?_)) | focus (refine Ev.some ?_; simp_all; done) | focus (refine Ev.some ?_; rw [Bool.eq_iff_iff]; simp_all; done))
  ·have : ¬ b = b' := by simpa using h
   simp [this]
 ·have : ¬ a = a' := by simpa using h
  simp [this]
end Qq
