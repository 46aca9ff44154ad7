/-
  The plain machine's append tells what the model's does.
  Conditions: the table of types is right (TyOk).
-/
import Derived.Test.YtlgkjckddpnfnaaGreatDoorXvk
namespace Go.Vt
open Go.RowKit
set_option linter.unusedVariables false
set_option linter.unusedSimpArgs false

section
variable {P : Program} {ρ : Type} {gw : Gw} {w0 : Base gw} {w : World} {S0 : Nat → Prop} {σ : St} {a : Act} {Im : Nat → Prop} {hd : Nat → Value} {bl : Nat → List Nat} {Q : Exit → Act → World → Prop}

/-- A row that no slot speaks of any more. -/
structure Loose {gw : Gw} (w0 : Base gw) (τ : St) (w : World) (Im : Nat → Prop) (hd : Nat → Value) (bl : Nat → List Nat) (t : Ty) (xs : List t.den) (d cn : Bool) (v : Value) (L : List Nat) : Prop where
  row : ORow w t.sz (rowP w Im t d) v xs L
  nil : cn = true → xs = [] → v = .slice none 0 0
  nodup : L.Nodup
  own : ∀ b ∈ L, w0.mine b ∧ b < w.heap.size ∧ ¬ Im b
  free : ∀ k p, obGet τ.ob k = some p → ∀ b ∈ bl k, b ∉ L

theorem SRi.takeOut (h : SRi w0 S0 σ a w Im hd bl) {c : Nat} {t : Ty} {xs : List t.den} {d cn : Bool} (hc : obGet σ.ob c = some (.row t xs d cn)) :
    SRi w0 S0 (σ.kill c) a w Im hd bl ∧ Loose w0 (σ.kill c) w Im hd bl t xs d cn (hd c) (bl c) := by
  refine ⟨h.kill c, (h.objs c _ hc).1, (h.objs c _ hc).2, (h.own c _ hc).1, (h.own c _ hc).2, fun k p hp b hb => ?_⟩
  obtain ⟨hne, o, ho, _⟩ := obGet_sub hp
  exact h.apart k o c _ ho hc hne b hb

theorem obDel_obDel (l : List (Nat × Ob)) (c : Nat) : obDel (obDel l c) c = obDel l c := by
  induction l with
  | nil => rfl
  | cons p l ih =>
    obtain ⟨d, o⟩ := p
    simp only [obDel]
    cases hb : Nat.beq d c with
    | true => simp [ih]
    | false => simp [obDel, hb, ih]
theorem kill_put (σ : St) (c : Nat) (o : Ob) : St.kill { σ with ob := obPut σ.ob c o } c = σ.kill c := by
  unfold St.kill St.sub
  congr 2
  show obDel ((c, o) :: obDel σ.ob c) c = _
  simp only [obDel]
  rw [show Nat.beq c c = true from Nat.beq_refl c]
  exact obDel_obDel _ _

/-- Taken out, and read alone from here on. -/
theorem SRi.takeSoft (h : SRi w0 S0 σ a w Im hd bl) {c : Nat} {t : Ty} {xs : List t.den} {d cn : Bool} (hc : obGet σ.ob c = some (.row t xs d cn)) (d' : Bool) (hd' : d' = true → d = true) :
    ∃ Im' bl', SRi w0 S0 (σ.kill c) a w Im' hd bl' ∧ Loose w0 (σ.kill c) w Im' hd bl' t xs d' cn (hd c) (bl' c) ∧ (∀ b, Im b → Im' b) := by
  cases d' with
  | true => obtain rfl := hd' rfl; exact ⟨Im, bl, (h.takeOut hc).1, (h.takeOut hc).2, fun _ x => x⟩
  | false =>
    cases d with
    | false => exact ⟨Im, bl, (h.takeOut hc).1, (h.takeOut hc).2, fun _ x => x⟩
    | true =>
      obtain ⟨Im', bl', h1, h2⟩ := h.soften hc
      obtain ⟨g1, g2⟩ := h1.takeOut (c := c) (t := t) (xs := xs) (d := false) (cn := cn) (by rw [obGet_put]; simp)
      rw [kill_put] at g1 g2
      exact ⟨Im', bl', g1, g2, h2⟩

theorem size_fits {m b : Nat} (hm : m ≤ rowMax) (hb : b ≤ 4096) : m * b ≤ 140737488355328 :=
  Nat.le_trans (Nat.mul_le_mul hm hb) (by unfold rowMax; decide)

/-- In place, whatever the block's kind. -/
theorem run_append_room' {T e : TypeId} {i : TypeInfo} (ht : P.underlying T = some (.slice e)) (hi : P.info? e = some i) {ty : TypeId} {g f0 sLen sCap : Nat} {cur : Array Value} {F : TypeId} (hg : w.heap[g]? = some (.cells cur F (0, 0)))
    {ad : Addr} {m c : Nat} {news : List Value} (hl : news.length = m * i.size) (hnews : ∀ j u, news[j]? = some u → w.cell? (ad.add j) = some u) (h1 : ∀ u ∈ news, u.oneCell' = true)
    (hroom : sLen + m ≤ sCap) (hfit : (f0 + sLen * i.size) + news.length ≤ cur.size) :
    (Builtin.append_ #[T, T] ty #[.slice (some ⟨g, f0, none⟩) sLen sCap, .slice (some ad) m c]).run P w =
      .ok (.slice (some ⟨g, f0, none⟩) (sLen + m) sCap) (w.setRow g (cur.toList.take ((f0 + sLen * i.size)) ++ news ++ cur.toList.drop (f0 + sLen * i.size + news.length)).toArray) := by
  have hf := run_firstCells_some (P := P) w i.size m ad m c news hl hnews
  have hst := run_storeCells_at P g ((f0 + sLen * i.size)) F news 0 cur w hg (by simpa using hfit) h1
  simp only [Nat.add_zero] at hst
  simp [Builtin.append_, run_underlying ht, sizeOf, typeInfo, hi, Builtin.lenOf, hroom, hf, Addr.add_lit, hst]

/-- Nothing is appended. -/
theorem run_append_none {T e : TypeId} {i : TypeInfo} (ht : P.underlying T = some (.slice e)) (hi : P.info? e = some i) {ty : TypeId} {A B : Option Addr} {n c m : Nat} (hn : n ≤ c)
    (hB : ∀ ad, B = some ad → True) : (Builtin.append_ #[T, T] ty #[.slice A n c, .slice B 0 m]).run P w = .ok (.slice A n c) w := by
  have hf : (Builtin.firstCells i.size 0 (.slice B 0 m)).run P w = .ok #[] w := by
    cases B with
    | none => exact run_firstCells_none w _ _ _ _
    | some ad => exact run_firstCells_some (P := P) w i.size 0 ad 0 m [] (by simp) (by simp)
  cases A with
  | none => simp [Builtin.append_, run_underlying ht, sizeOf, typeInfo, hi, Builtin.lenOf, hn, hf]
  | some ad => simp [Builtin.append_, run_underlying ht, sizeOf, typeInfo, hi, Builtin.lenOf, hn, hf, storeCells]

theorem setRow_other {w : World} {g b : Nat} {cs : Array Value} (h : b ≠ g) : (w.setRow g cs).heap[b]? = w.heap[b]? := by
  unfold World.setRow
  simp [Array.getElem?_modify, Ne.symm h]
theorem setRow_size {w : World} {g : Nat} {cs : Array Value} : (w.setRow g cs).heap.size = w.heap.size := by
  unfold World.setRow
  simp
theorem KeptW.setRow_ {gw : Gw} {B : Base gw} {w : World} (h : Kept B w) {g : Nat} (hg : B.mine g) (cs : Array Value) : Kept B (w.setRow g cs) :=
  ⟨h.os, h.tape, h.output, by rw [setRow_size]; exact h.size, fun k hk hn => by rw [setRow_other (fun e => hn (by subst e; exact hg))]; exact h.block k hk hn, h.drawn⟩

/-- What is appended: elements as the row will read them. -/
structure News {gw : Gw} (w0 : Base gw) (τ : St) (w : World) (Im : Nat → Prop) (bl : Nat → List Nat) (t : Ty) (ys : List t.den) (d : Bool) (v : Value) (L M : List Nat) : Prop where
  head : ∃ A c, v = .slice A ys.length c ∧ ∃ news, news.length = ys.length * t.sz ∧ OL t.sz (rowP w Im t d) ys news M ∧ (∀ u ∈ news, u.oneCell' = true) ∧ (ys ≠ [] → ∃ b o, A = some ⟨b, o, none⟩ ∧ At w b o news)
  nodup : M.Nodup
  own : ∀ b ∈ M, w0.mine b ∧ b < w.heap.size ∧ ¬ Im b
  free : ∀ k p, obGet τ.ob k = some p → ∀ b ∈ bl k, b ∉ M
  apart : ∀ b ∈ M, b ∉ L

theorem OL.nil_of {α : Type} {n : Nat} {p : α → List Value → List Nat → Prop} {cs : List Value} {L : List Nat} (h : OL n p [] cs L) : L = [] := h

theorem append_run {T e : TypeId} {t : Ty} (hu : P.underlying T = some (.slice e)) (he : ElemOk P e t) (h : SRi w0 S0 σ a w Im hd bl) {xs ys : List t.den} {d cn : Bool} {vx vy : Value} {L M : List Nat}
    (lo : Loose w0 σ w Im hd bl t xs d cn vx L) (nw : News w0 σ w Im bl t ys d vy L M) (hmax : ys ≠ [] → xs.length + ys.length ≤ rowMax) (ty : TypeId) (dst : Nat) (hd5 : dst < 500000) :
    ∃ v' w', (Builtin.append_ #[T, T] ty #[vx, vy]).run P w = .ok v' w' ∧ ∃ Im' hd' bl', SRi w0 S0 (σ.new dst (.row t (xs ++ ys) d cn)) a w' Im' hd' bl' ∧ hd' dst = v' := by
  obtain ⟨i, z, hi, hs, hby, hz, hzc⟩ := he
  obtain ⟨A, cy, rfl, news, hnl, hol, h1, hat⟩ := nw.head
  by_cases hy : ys = []
  · subst hy
    obtain rfl := hol.nil_of
    rw [List.append_nil]
    have key : ∀ {B : Option Addr} {n c : Nat}, vx = .slice B n c → n ≤ c → ∃ v' w', (Builtin.append_ #[T, T] ty #[vx, .slice A ([] : List t.den).length cy]).run P w = .ok v' w' ∧ ∃ Im' hd' bl', SRi w0 S0 (σ.new dst (.row t xs d cn)) a w' Im' hd' bl' ∧ hd' dst = v' := by
      intro B n c e hle
      refine ⟨vx, w, ?_, Im, _, _, h.new_ dst hd5 (v := vx) (L := L) (fun k p _ hp => lo.free k p hp) lo.nodup lo.own ⟨lo.row, lo.nil⟩, by simp⟩
      rw [e]
      exact run_append_none hu hi hle (fun _ _ => trivial)
    rcases lo.row with ⟨e1, e2, e3⟩ | ⟨b, f0, cap, cs, F, Li, e1, hb, hcs, hle, e3, hl⟩
    · exact key e1 (Nat.le_refl _)
    · exact key e1 hle
  · have hpos : 0 < ys.length := List.length_pos_iff.2 hy
    obtain ⟨b', o', rfl, hat'⟩ := hat hy
    have hnews : ∀ j u, news[j]? = some u → w.cell? ((⟨b', o', none⟩ : Addr).add j) = some u := fun j u hj => by rw [add_none]; exact hat' j u hj
    have hmax := hmax hy
    have hfit := size_fits hmax hby
    have hne : ∀ zs : List t.den, cn = true → zs ++ ys ≠ [] := fun zs _ e => hy (List.append_eq_nil_iff.1 e).2
    -- the row that is grown
    have grow : ∀ {olds : List Value} {Li : List Nat} {cap : Nat}, olds.length = xs.length * t.sz → OL t.sz (rowP w Im t d) xs olds Li → (Li ++ M).Nodup → (∀ b ∈ Li, w0.mine b ∧ b < w.heap.size ∧ ¬ Im b) →
        (∀ k p, obGet σ.ob k = some p → ∀ b ∈ bl k, b ∉ Li) → xs.length + ys.length ≤ grownCap w (xs.length + ys.length) cap e →
        ∃ Im' hd' bl', SRi w0 S0 (σ.new dst (.row t (xs ++ ys) d cn)) a (w.drew.alloc (.cells (olds.toArray ++ news.toArray ++ Builtin.zeroCells z.cells (grownCap w (xs.length + ys.length) cap e - (xs.length + ys.length))) e)) Im' hd' bl' ∧
          hd' dst = .slice (some ⟨w.heap.size, 0, none⟩) (xs.length + ys.length) (grownCap w (xs.length + ys.length) cap e) := by
      intro olds Li cap hol0 holx hnd hown hfree hcap
      have hzs : z.cells.size = t.sz := by rw [← Array.length_toList, hzc, zeroVal_len]
      obtain ⟨hd2, bl2, k1, k2⟩ := h.madeRow (w' := w.drew.alloc (.cells (olds.toArray ++ news.toArray ++ Builtin.zeroCells z.cells (grownCap w (xs.length + ys.length) cap e - (xs.length + ys.length))) e)) dst hd5 (t := t) (xs := xs ++ ys) (d := d) (cn := cn)
        (cap := grownCap w (xs.length + ys.length) cap e) (M := Li ++ M) (fun b hb => alloc_old w.drew _ _ hb) (alloc_size w.drew _) (h.below.drew.alloc _) (alloc_new w.drew _)
        (by
          rw [Array.size_append, Array.size_append, size_zeroCells, List.size_toArray, List.size_toArray, hol0, hnl, hzs, ← Nat.add_mul, ← Nat.add_mul]; congr 1; omega) (by rw [List.length_append]; exact hcap)
        (by
          rw [Array.toList_append, Array.toList_append]
          refine OL.pre (cs := olds ++ news) (OL.append holx hol0 hol) ?_ ?_
          · rw [List.length_append, List.take_of_length_le (by simp [hol0, hnl, Nat.add_mul]), List.take_append_of_le_length (by simp [hol0, hnl, Nat.add_mul]), List.take_of_length_le (by simp [hol0, hnl, Nat.add_mul])]
          · simp [hol0, hnl, Nat.add_mul]) hnd (fun b hb => by
            rcases List.mem_append.1 hb with hb | hb
            · exact hown b hb
            · exact nw.own b hb) (fun k p _ hp b hb hbL => by
            rcases List.mem_append.1 hbL with hbL | hbL
            · exact hfree k p hp b hb hbL
            · exact nw.free k p hp b hb hbL) (hne xs)
      exact ⟨Im, hd2, bl2, k1, by rw [k2, List.length_append]⟩
    rcases lo.row with ⟨e1, e2, e3⟩ | ⟨b, f0, cap, cs, F, Li, e1, hb, hcs, hle, e3, hl⟩
    · subst e2 e1 e3
      have hr := run_append_nil (P := P) w T ty e i z hu hi hz ⟨b', o', none⟩ ys.length cy news (by rw [hnl, hs]) hnews hpos (by simp at hmax; unfold rowMax at hmax; omega) (by simp at hfit; omega)
      obtain ⟨Im', hd', bl', k1, k2⟩ := grow (olds := []) (Li := []) (cap := 0) (by simp) rfl (by simpa using nw.nodup) (fun b hb => by cases hb) (fun k p _ b _ hb => by cases hb) (grownCap_ge _ _ _ _)
      simp only [List.length_nil, Nat.zero_add] at k1 k2
      refine ⟨_, _, hr, Im', hd', bl', ?_, k2⟩
      simpa using k1
    · subst e1 e3
      have hown := lo.own
      have hnd := lo.nodup
      rw [List.nodup_cons] at hnd
      have hlen := hl.len
      have hcl : ((cs.toList.drop f0).take (xs.length * t.sz)).length = xs.length * t.sz := by rw [List.length_take]; omega
      rw [List.length_drop] at hlen
      have hLi : ∀ x ∈ Li, w0.mine x ∧ x < w.heap.size ∧ ¬ Im x := fun x hx => hown x (by simp [hx])
      have hfLi : ∀ k p, obGet σ.ob k = some p → ∀ x ∈ bl k, x ∉ Li := fun k p hp x hx hx2 => lo.free k p hp x hx (by simp [hx2])
      have hndM : (Li ++ M).Nodup := by
        rw [List.nodup_append]
        exact ⟨hnd.2, nw.nodup, fun x hx y hy2 e => nw.apart y hy2 (by rw [← e]; simp [hx])⟩
      have holx : OL t.sz (rowP w Im t d) xs ((cs.toList.drop f0).take (xs.length * t.sz)) Li := OL.pre hl (by rw [List.take_take, Nat.min_self]) (by omega)
      by_cases hroom : xs.length + ys.length ≤ cap
      · -- in place
        have hfit2 : f0 + xs.length * t.sz + news.length ≤ cs.size := by
          rw [hnl, Nat.add_assoc, ← Nat.add_mul]; exact Nat.le_trans (Nat.add_le_add_left (Nat.mul_le_mul_right _ hroom) _) hcs
        have hr := run_append_room' (P := P) (ty := ty) (c := cy) hu hi hb (by rw [hnl, hs]) hnews h1 hroom (by rw [hs]; exact hfit2)
        rw [hs] at hr
        have hbo := hown b (by simp)
        have hw' : ∀ x, x < w.heap.size → x ∉ [b] → (w.setRow b (cs.toList.take (f0 + xs.length * t.sz) ++ news ++ cs.toList.drop (f0 + xs.length * t.sz + news.length)).toArray).heap[x]? = w.heap[x]? :=
          fun x _ hx => setRow_other (by simpa using hx)
        have h' := h.world2 (w' := w.setRow b (cs.toList.take (f0 + xs.length * t.sz) ++ news ++ cs.toList.drop (f0 + xs.length * t.sz + news.length)).toArray) (L := [b]) hw'
          (by rw [setRow_size]; exact Nat.le_refl _) (KeptW.setRow_ h.below hbo.1 _) (fun x hx => by simp at hx; subst hx; exact hbo.2.2) (fun k p hp x hx hx2 => lo.free k p hp x hx (by simp at hx2; simp [hx2]))
        have hbM : b ∉ Li ++ M := by
          intro hm
          rcases List.mem_append.1 hm with hm | hm
          · exact hnd.1 hm
          · exact nw.apart b hm (by simp)
        refine ⟨_, _, hr, Im, _, _, h'.new_ dst hd5 (v := .slice (some ⟨b, f0, none⟩) (xs.length + ys.length) cap) (L := b :: (Li ++ M)) (fun k p _ hp x hx hxL => ?_) ?_ (fun x hxL => ?_) ⟨.inr ⟨b, f0, cap, _, F, Li ++ M, by rw [List.length_append], setRow_heap w b cs _ F _ hb, ?_, by rw [List.length_append]; exact hroom, rfl, ?_⟩, fun e1 e2 => (hne xs e1 e2).elim⟩, by simp⟩
        · rcases List.mem_cons.1 hxL with rfl | hxL
          · exact lo.free k p hp x hx (by simp)
          · rcases List.mem_append.1 hxL with hxL | hxL
            · exact hfLi k p hp x hx hxL
            · exact nw.free k p hp x hx hxL
        · rw [List.nodup_cons]; exact ⟨hbM, hndM⟩
        · rw [setRow_size]
          rcases List.mem_cons.1 hxL with rfl | hxL
          · exact hbo
          · rcases List.mem_append.1 hxL with hxL | hxL
            · exact hLi x hxL
            · exact nw.own x hxL
        · rw [List.size_toArray]; simp; omega
        · have hsame : ∀ x, x < w.heap.size → x ≠ b → (w.setRow b (cs.toList.take (f0 + xs.length * t.sz) ++ news ++ cs.toList.drop (f0 + xs.length * t.sz + news.length)).toArray).heap[x]? = w.heap[x]? := fun x hx hne => hw' x hx (by simpa using hne)
          have hO := (OL.append holx hcl hol)
          have ecut : ((cs.toList.take (f0 + xs.length * t.sz) ++ news ++ cs.toList.drop (f0 + xs.length * t.sz + news.length)).toArray.toList.drop f0) = (cs.toList.drop f0).take (xs.length * t.sz) ++ news ++ cs.toList.drop (f0 + xs.length * t.sz + news.length) := by
            rw [List.append_assoc, List.drop_append_of_le_length (by rw [List.length_take]; simp; omega), List.drop_take, Nat.add_sub_cancel_left, ← List.append_assoc]
          rw [ecut]
          have hO2 : OL t.sz (rowP w Im t d) (xs ++ ys) ((cs.toList.drop f0).take (xs.length * t.sz) ++ news ++ cs.toList.drop (f0 + xs.length * t.sz + news.length)) (Li ++ M) := by
            have hAl : ((cs.toList.drop f0).take (xs.length * t.sz) ++ news).length = (xs ++ ys).length * t.sz := by rw [List.length_append, List.length_append, hcl, hnl, Nat.add_mul]
            refine OL.pre hO ?_ ?_
            · rw [← hAl, List.take_length, List.take_left]
            · have := List.length_append (as := (cs.toList.drop f0).take (xs.length * t.sz) ++ news) (bs := cs.toList.drop (f0 + xs.length * t.sz + news.length))
              omega
          refine OL.tell (fun x hx => hsame x (h.lt x hx) (fun e => hbo.2.2 (e ▸ hx))) (fun _ x => x) (fun x hx => hsame x ?_ (fun e => hbM (e ▸ hx))) hO2
          rcases List.mem_append.1 hx with hx | hx
          · exact (hLi x hx).2.1
          · exact (nw.own x hx).2.1
      · -- grown
        have hg : cap < xs.length + ys.length := by omega
        have hr := run_append_grow (P := P) w T ty e i z hu hi hz ⟨b, f0, none⟩ xs.length cap ((cs.toList.drop f0).take (xs.length * t.sz)) (by rw [hs]; exact hcl)
          (fun j v hj => by rw [add_none]; exact drop_at hb f0 (xs.length * t.sz) j v hj) ⟨b', o', none⟩ ys.length cy news (by rw [hnl, hs]) hnews hg
          (by unfold rowMax at hmax; omega) (growslice_fits hg hfit)
        obtain ⟨Im', hd', bl', k1, k2⟩ := grow (cap := cap) hcl holx hndM hLi hfLi (grownCap_ge _ _ _ _)
        exact ⟨_, _, hr, Im', hd', bl', k1, k2⟩

end
end Go.Vt
