/-
  The plain machine's writing of variables tells what the model's does.
  Conditions: the table of types is right (TyOk).
-/
import Derived.Test.YtlgkjckddpnfnaaGreatDoorXvm
namespace Go.Vt
open Go.RowKit
set_option linter.unusedVariables false
set_option linter.unusedSimpArgs false

section
variable {P : Program} {ρ : Type} {gw : Gw} {w0 : Base gw} {w : World} {S0 : Nat → Prop} {σ : St} {a : Act} {Im : Nat → Prop} {hd : Nat → Value} {bl : Nat → List Nat} {Q : Exit → Act → World → Prop}

/-- An object turns, and may take in blocks that nobody owns. -/
theorem SRi.obj2 (h : SRi w0 S0 σ a w Im hd bl) {c : Nat} {o o' : Ob} (hc : obGet σ.ob c = some o) {w' : World} {L M : List Nat}
    (hw : ∀ b, b < w.heap.size → b ∉ bl c → w'.heap[b]? = w.heap[b]?) (hsz : w.heap.size ≤ w'.heap.size) (hb : Kept w0 w')
    (hL : L.Nodup) (hLs : ∀ b ∈ L, b ∈ bl c ∨ b ∈ M) (hM : ∀ b ∈ M, w0.mine b ∧ b < w.heap.size ∧ ¬ Im b) (hf : ∀ k p, obGet σ.ob k = some p → ∀ b ∈ bl k, b ∉ M)
    (ho : ObR w' Im hd (hd c) L o') : SRi w0 S0 { σ with ob := obPut σ.ob c o' } a w' Im hd (fun d => if d = c then L else bl d) := by
  have hown := h.own c o hc
  have hImb : ∀ b, Im b → b ∉ bl c := fun b hb hb2 => (hown.2 b hb2).2.2 hb
  have hs : Same Im w w' := fun b hb => hw b (h.lt b hb) (hImb b hb)
  have T : Tell w w' Im Im hd hd ⟨.own, .adr, .el⟩ := Tell.keep hd hs (fun _ x => x)
  have g : ∀ d p, obGet (obPut σ.ob c o') d = some p → (d = c ∧ p = o') ∨ (d ≠ c ∧ obGet σ.ob d = some p) := by
    intro d p hp
    rw [obGet_put] at hp
    by_cases e : c = d
    · simp [e] at hp; exact .inl ⟨e.symm, hp.symm⟩
    · simp [e] at hp; exact .inr ⟨Ne.symm e, hp⟩
  have hLb : ∀ b ∈ L, w0.mine b ∧ b < w.heap.size ∧ ¬ Im b := fun b hb => (hLs b hb).elim (hown.2 b) (hM b)
  have hLf : ∀ d p, d ≠ c → obGet σ.ob d = some p → ∀ b ∈ bl d, b ∉ L := fun d p hne hp b hb hbL => (hLs b hbL).elim (h.apart d p c o hp hc hne b hb) (hf d p hp b hb)
  refine ⟨hb, h.sub, h.new, fun b hb => Nat.lt_of_lt_of_le (h.lt b hb) hsz, h.nodef, h.size, fun i av hi => ?_, fun d p hp => ?_, fun d p hp => ?_, fun d p e q hp hq hne => ?_, h.io⟩
  · have := (h.slots i av hi).tell T; rwa [AV.map_id] at this
  · rcases g d p hp with ⟨rfl, rfl⟩ | ⟨hne, hp⟩
    · simpa using ho
    · simp only [hne, if_false]
      have := (h.objs d p hp).tell T (fun b hb => hw b ((h.own d p hp).2 b hb).2.1 (h.apart d p c o hp hc hne b hb))
      rwa [Ob.map_id] at this
  · rcases g d p hp with ⟨rfl, rfl⟩ | ⟨hne, hp⟩
    · simp only [if_true]
      exact ⟨hL, fun b hb => ⟨(hLb b hb).1, Nat.lt_of_lt_of_le (hLb b hb).2.1 hsz, (hLb b hb).2.2⟩⟩
    · simp only [hne, if_false]
      exact ⟨(h.own d p hp).1, fun b hb => ⟨((h.own d p hp).2 b hb).1, Nat.lt_of_lt_of_le ((h.own d p hp).2 b hb).2.1 hsz, ((h.own d p hp).2 b hb).2.2⟩⟩
  · rcases g d p hp with ⟨rfl, rfl⟩ | ⟨hd1, hp1⟩ <;> rcases g e q hq with ⟨rfl, rfl⟩ | ⟨hd2, hq1⟩
    · exact (hne rfl).elim
    · simp only [if_true, hd2, if_false]; exact fun b hb hb2 => hLf e q hd2 hq1 b hb2 hb
    · simp only [hd1, if_false, if_true]; exact hLf d p hd1 hp1
    · simp only [hd1, hd2, if_false]; exact h.apart d p e q hp1 hq1 hne

/-- One element is written anew. -/
theorem OL.set {α : Type} {n : Nat} {p : α → List Value → List Nat → Prop} {y : α} {cy : List Value} {My : List Nat} (hcy : cy.length = n) (hy : p y cy My) : ∀ {xs : List α} {cs : List Value} {L : List Nat} {i : Nat}, OL n p xs cs L → i < xs.length →
    ∃ L', OL n p (xs.set i y) (cs.take (i * n) ++ cy ++ cs.drop (i * n + n)) L' ∧ (∀ b ∈ L', b ∈ L ∨ b ∈ My) ∧ (L.Nodup → My.Nodup → (∀ b ∈ My, b ∉ L) → L'.Nodup)
  | [], cs, L, i, h, hi => by simp at hi
  | x :: xs, cs, L, 0, h, hi => by
    obtain ⟨L1, L2, rfl, hn, hp, h⟩ := h
    refine ⟨My ++ L2, ?_, fun b hb => ?_, fun hL hM hd => ?_⟩
    · simp only [Nat.zero_mul, List.take_zero, List.nil_append, Nat.zero_add, List.set_cons_zero]
      refine ⟨My, L2, rfl, by rw [List.length_append]; omega, ?_, ?_⟩
      · rw [← hcy, List.take_left]; exact hy
      · rw [← hcy, List.drop_left, hcy]; exact h
    · rcases List.mem_append.1 hb with hb | hb
      · exact .inr hb
      · exact .inl (by simp [hb])
    · rw [List.nodup_append] at hL ⊢
      exact ⟨hM, hL.2.1, fun b hb c hc e => hd b hb (by rw [e]; simp [hc])⟩
  | x :: xs, cs, L, i + 1, h, hi => by
    obtain ⟨L1, L2, rfl, hn, hp, h⟩ := h
    have hlen := h.len
    obtain ⟨L', h1, h2, h3⟩ := OL.set hcy hy h (i := i) (by simpa using hi)
    have e1 : (i + 1) * n = n + i * n := by rw [Nat.add_mul, Nat.one_mul, Nat.add_comm]
    have e2 : cs.take ((i + 1) * n) = cs.take n ++ (cs.drop n).take (i * n) := by rw [e1, List.take_add]
    have e3 : cs.drop ((i + 1) * n + n) = (cs.drop n).drop (i * n + n) := by rw [List.drop_drop]; congr 1; omega
    have hl : (cs.take n).length = n := by rw [List.length_take]; omega
    refine ⟨L1 ++ L', ?_, fun b hb => ?_, fun hL hM hd => ?_⟩
    · rw [e2, e3, List.append_assoc, List.append_assoc, List.set_cons_succ]
      refine ⟨L1, L', rfl, by rw [List.length_append]; omega, ?_, ?_⟩
      · rw [List.take_append_of_le_length (by omega), List.take_of_length_le (by omega)]; exact hp
      · have e4 : (cs.take n ++ ((cs.drop n).take (i * n) ++ (cy ++ (cs.drop n).drop (i * n + n)))).drop n = (cs.drop n).take (i * n) ++ (cy ++ (cs.drop n).drop (i * n + n)) := by
          conv => lhs; arg 1; rw [← hl]
          rw [hl]
          exact List.drop_left' hl
        rw [e4, ← List.append_assoc]; exact h1
    · rcases List.mem_append.1 hb with hb | hb
      · exact .inl (by simp [hb])
      · exact (h2 b hb).imp_left fun hb => by simp [hb]
    · rw [List.nodup_append] at hL ⊢
      refine ⟨hL.1, h3 hL.2.1 hM (fun b hb hb2 => hd b hb (by simp [hb2])), fun b hb c hc e => ?_⟩
      subst e
      rcases h2 b hc with h4 | h4
      · exact hL.2.2 b hb b h4 rfl
      · exact hd b h4 (by simp [hb])

theorem CV.as_read {t : Ty} {c : CV} {x : t.den} {v : Value} (h : c.as t = some x) (hv : CVR w Im hd v c) : VR w Im t x [v] := by
  unfold CV.as at h
  split at h
  · exact as_VR h hv
  · split at h
    · cases h
      exact ⟨none, 0, by rw [show v = _ from hv]; rfl, Nat.le_refl _, .inl rfl⟩
    · cases h
  · cases h
theorem implode_read : ∀ {t : Ty} {l : List CV} {x : t.den} {cs : List Value}, implode t l = some x → CVs w Im hd cs l → VR w Im t x cs
  | .int k, l, x, cs, h, hv => by
    unfold implode at h
    split at h
    · match cs, hv with | [v], hv => exact CV.as_read h hv.1
    · cases h
  | .bool, l, x, cs, h, hv => by
    unfold implode at h
    split at h
    · match cs, hv with | [v], hv => exact CV.as_read h hv.1
    · cases h
  | .str, l, x, cs, h, hv => by
    unfold implode at h
    split at h
    · match cs, hv with | [v], hv => exact CV.as_read h hv.1
    · cases h
  | .slice t, l, x, cs, h, hv => by
    unfold implode at h
    split at h
    · match cs, hv with | [v], hv => exact CV.as_read h hv.1
    · cases h
  | .set, l, x, cs, h, hv => by
    unfold implode at h
    split at h
    · match cs, hv with | [v], hv => exact CV.as_read h hv.1
    · cases h
  | .err, l, x, cs, h, hv => by
    unfold implode at h
    split at h
    · match cs, hv with | [v], hv => exact CV.as_read h hv.1
    · cases h
  | .pair s t, l, x, cs, h, hv => by
    unfold implode at h
    obtain ⟨y, hy, h⟩ := Option.bind_eq_some_iff.1 h
    obtain ⟨z, hz, h⟩ := Option.bind_eq_some_iff.1 h
    cases h
    exact ⟨cs.take s.sz, cs.drop s.sz, (List.take_append_drop _ _).symm, implode_read hy (hv.take _), implode_read hz (hv.drop _)⟩

/-- Cells within an element of a row. -/
theorem splice_in {α : Type} (cs new : List α) (i m o : Nat) (hle : o + new.length ≤ m) (hcs : i * m + m ≤ cs.length) :
    cs.take (i * m + o) ++ new ++ cs.drop (i * m + o + new.length) = cs.take (i * m) ++ splice ((cs.drop (i * m)).take m) o new ++ cs.drop (i * m + m) := by
  unfold splice
  have e1 : cs.take (i * m + o) = cs.take (i * m) ++ ((cs.drop (i * m)).take m).take o := by
    rw [List.take_add, List.take_take, Nat.min_eq_left (by omega)]
  have e2 : cs.drop (i * m + o + new.length) = ((cs.drop (i * m)).take m).drop (o + new.length) ++ cs.drop (i * m + m) := by
    rw [List.drop_take, List.drop_drop]
    have : cs.drop (i * m + m) = (cs.drop (i * m + (o + new.length))).drop (m - (o + new.length)) := by rw [List.drop_drop]; congr 1; omega
    rw [this, List.take_append_drop, Nat.add_assoc]
  rw [e1, e2]
  simp [List.append_assoc]

theorem killAll_row {d : Nat} {t : Ty} {xs : List t.den} {e n : Bool} : ∀ {l : List Nat} {σ : St}, obGet σ.ob d = some (.row t xs e n) → d ∉ l → obGet (σ.killAll l).ob d = some (.row t xs e n)
  | [], σ, h, _ => h
  | c :: l, σ, h, hn => killAll_row (l := l) (kill_row h (fun e => hn (by simp [e]))) (fun e => hn (by simp [e]))
theorem freezeAll_row {d : Nat} {t : Ty} {xs : List t.den} {e n : Bool} : ∀ {l : List Nat} {σ : St}, obGet σ.ob d = some (.row t xs e n) → d ∉ l → obGet (σ.freezeAll l).ob d = some (.row t xs e n)
  | [], σ, h, _ => h
  | c :: l, σ, h, hn => freezeAll_row (l := l) (freeze_row h (fun e => hn (by simp [e]))) (fun e => hn (by simp [e]))
theorem give_row {d : Nat} {t : Ty} {xs : List t.den} {e n tree : Bool} {l : List Nat} (h : obGet σ.ob d = some (.row t xs e n)) (hn : d ∉ l) : obGet (σ.give tree l).ob d = some (.row t xs e n) := by
  cases tree with
  | true => exact killAll_row h hn
  | false => exact freezeAll_row h hn

theorem obPut_obPut (l : List (Nat × Ob)) (c : Nat) (o o' : Ob) : obPut (obPut l c o) c o' = obPut l c o' := by
  unfold obPut
  congr 1
  simp only [obDel, Nat.beq_refl, cond_true]
  exact obDel_obDel _ _

theorem row_block (h : SRi w0 S0 σ a w Im hd bl) {c : Nat} {t : Ty} {xs : List t.den} {d cn : Bool} (hc : obGet σ.ob c = some (.row t xs d cn)) {b f0 : Nat} (hb : Value.top (hd c) = some (b, f0)) :
    ∃ cap cs F Li, hd c = .slice (some ⟨b, f0, none⟩) xs.length cap ∧ w.heap[b]? = some (.cells cs F (0, 0)) ∧ f0 + cap * t.sz ≤ cs.size ∧ xs.length ≤ cap ∧ bl c = b :: Li ∧ OL t.sz (rowP w Im t d) xs (cs.toList.drop f0) Li := by
  rcases (h.objs c _ hc).1 with ⟨e1, _⟩ | ⟨b', f0', cap, cs, F, Li, e1, e2, e3, e4, e5, e6⟩
  · rw [e1] at hb; cases hb
  · rw [top_slice e1] at hb; cases hb
    exact ⟨cap, cs, F, Li, e1, e2, e3, e4, e5, e6⟩
theorem drop_pre {α : Type} {l X : List α} {f : Nat} (h : f ≤ l.length) : (l.take f ++ X).drop f = X := by
  rw [List.drop_append_of_le_length (by rw [List.length_take]; omega), List.drop_take, Nat.sub_self]; rfl
theorem drop_setAt {α : Type} (l : List α) (f i : Nat) (u : α) : (l.set (f + i) u).drop f = (l.drop f).set i u := by
  rw [List.drop_set, if_neg (by omega), Nat.add_sub_cancel_left]

theorem take_one_at : ∀ {l : List Value} {i : Nat} {u : Value}, l[i]? = some u → (l.drop i).take 1 = [u]
  | [], i, u, h => by simp at h
  | x :: l, 0, u, h => by simp at h; subst h; simp
  | x :: l, i + 1, u, h => by rw [List.drop_succ_cons]; exact take_one_at (by simpa using h)
/-! ### an element is handed out, and goes back -/
theorem OL.cut {α : Type} {p : α → List Value → List Nat → Prop} : ∀ {xs : List α} {cs : List Value} {L : List Nat} {i : Nat}, OL 1 p xs cs L → i < xs.length →
    ∃ L1 Lx L2 y u, L = L1 ++ (Lx ++ L2) ∧ xs[i]? = some y ∧ cs[i]? = some u ∧ p y [u] Lx ∧ OL 1 p (xs.take i) (cs.take i) L1 ∧ OL 1 p (xs.drop (i + 1)) (cs.drop (i + 1)) L2
  | [], cs, L, i, h, hi => by simp at hi
  | x :: xs, [], L, i, h, hi => by obtain ⟨L1, L2, rfl, hn, _⟩ := h; simp at hn
  | x :: xs, u :: cs, L, 0, h, hi => by
    obtain ⟨L1, L2, rfl, hn, hp, h⟩ := h
    exact ⟨[], L1, L2, x, u, rfl, rfl, rfl, hp, rfl, h⟩
  | x :: xs, u :: cs, L, i + 1, h, hi => by
    obtain ⟨L1, L2, rfl, hn, hp, h⟩ := h
    obtain ⟨M1, Mx, M2, y, v, e1, e2, e3, e4, e5, e6⟩ := OL.cut (i := i) h (by simpa using hi)
    refine ⟨L1 ++ M1, Mx, M2, y, v, by rw [e1]; simp, by simpa using e2, by simpa using e3, e4, ⟨L1, M1, rfl, by simp, hp, ?_⟩, by simpa using e6⟩
    simpa using e5
theorem OL.fill {α : Type} {p : α → List Value → List Nat → Prop} {xs : List α} {cs : List Value} {L1 M L2 : List Nat} {i : Nat} {y : α} {u : Value} (h1 : OL 1 p (xs.take i) (cs.take i) L1) (hp : p y [u] M)
    (h2 : OL 1 p (xs.drop (i + 1)) (cs.drop (i + 1)) L2) (hi : i < xs.length) (hc : i < cs.length) : OL 1 p (xs.set i y) (cs.set i u) (L1 ++ (M ++ L2)) := by
  rw [List.set_eq_take_append_cons_drop, List.set_eq_take_append_cons_drop, if_pos hi, if_pos hc]
  refine OL.append h1 (by rw [List.length_take, List.length_take]; omega) ?_
  exact ⟨M, L2, rfl, by simp, hp, h2⟩
theorem kill_get {c k : Nat} (hck : c ≠ k) {o : Ob} (hc : obGet σ.ob c = some o) : obGet (σ.kill k).ob c = some (o.map (rnKill k)) := by
  show obGet (obMap (rnKill k) (obDel σ.ob k)) c = _
  rw [obGet_map, obGet_del, if_neg hck, hc]; rfl

theorem SRi.fill (h : SRi w0 S0 σ a w Im hd bl) {c k : Nat} (hck : c ≠ k) {t : Ty} {xs : List (List t.den)} {i : Nat} {v : CV} (hc : obGet σ.ob c = some (.hole t xs i v)) {ys : List t.den} {n : Bool} (hk : obGet σ.ob k = some (.row t ys true n)) :
    ∃ b f0 cap cur F u, hd c = .slice (some ⟨b, f0, none⟩) xs.length cap ∧ w.heap[b]? = some (.cells cur F (0, 0)) ∧ i < xs.length ∧ f0 + i < cur.toList.length ∧ w0.mine b ∧ (cur.toList.drop f0)[i]? = some u ∧ CVR w Im hd u v ∧
      ∀ w' : World, (∀ b', b' ≠ b → w'.heap[b']? = w.heap[b']?) → w.heap.size ≤ w'.heap.size → Kept w0 w' → w'.heap[b]? = some (.cells (cur.toList.set (f0 + i) (hd k)).toArray F (0, 0)) →
        ∃ bl', SRi w0 S0 { (σ.kill k) with ob := obPut (σ.kill k).ob c (.row (.slice t) (xs.set i ys) true false) } a w' Im hd bl' := by
  obtain ⟨b, f0, cap, cur, F, L1, L2, u, e1, e2, e3, e4, e5, e6, e7, e8, e9, e10⟩ := h.objs c _ hc
  have hil : i < (cur.toList.drop f0).length := by
    rcases Nat.lt_or_ge i (cur.toList.drop f0).length with h1 | h1
    · exact h1
    · rw [List.getElem?_eq_none h1] at e9; cases e9
  have hown := h.own c _ hc
  rw [e6] at hown
  refine ⟨b, f0, cap, cur, F, u, e1, e2, e5, by rw [List.length_drop] at hil; omega, (hown.2 b (by simp)).1, e9, e10, fun w' hw hsz hb hcell => ?_⟩
  obtain ⟨g1, g2⟩ := h.takeOut hk
  have hap : ∀ x ∈ bl c, x ∉ bl k := h.apart c _ k _ hc hk hck
  rw [e6] at hap
  have hnd := List.nodup_cons.1 hown.1
  have hnd2 := List.nodup_append.1 hnd.2
  have hbL : b ∉ L1 ++ (bl k ++ L2) := by
    simp only [List.mem_append, not_or]
    exact ⟨fun hm => hnd.1 (by simp [hm]), fun hm => hap b (by simp) hm, fun hm => hnd.1 (by simp [hm])⟩
  have hL : (b :: (L1 ++ (bl k ++ L2))).Nodup := by
    refine List.nodup_cons.2 ⟨hbL, List.nodup_append.2 ⟨hnd2.1, List.nodup_append.2 ⟨g2.nodup, hnd2.2.1, fun x hx y hy e => ?_⟩, fun x hx y hy e => ?_⟩⟩
    · subst e; exact hap x (by simp [hy]) hx
    · subst e
      rcases List.mem_append.1 hy with hy | hy
      · exact hap x (by simp [hx]) hy
      · exact hnd2.2.2 x hx x hy rfl
  have hol := OL.fill e7 (p := OT w (.slice t)) (y := ys) (u := hd k) (M := bl k) ⟨_, rfl, g2.row⟩ e8 e5 hil
  refine ⟨_, g1.obj2 (L := b :: (L1 ++ (bl k ++ L2))) (M := bl k) (kill_get hck hc) (fun x _ hx => hw x (fun e => hx (by rw [e6, e]; simp))) hsz hb hL (fun x hx => ?_) g2.own g2.free
    ⟨.inr ⟨b, f0, cap, _, F, L1 ++ (bl k ++ L2), by rw [List.length_set]; exact e1, hcell, ?_, by rw [List.length_set]; exact e4, rfl, ?_⟩, fun e => by cases e⟩⟩
  · rw [e6]
    simp only [List.mem_cons, List.mem_append] at hx ⊢
    rcases hx with hx | hx | hx | hx
    · exact .inl (.inl hx)
    · exact .inl (.inr (.inl hx))
    · exact .inr hx
    · exact .inl (.inr (.inr hx))
  · rw [List.size_toArray, List.length_set, Array.length_toList]; exact e3
  · show OL 1 _ _ ((cur.toList.set (f0 + i) (hd k)).drop f0) _
    rw [drop_setAt]
    exact hol.mapP fun x cc l hl hp => OT.same hp fun b' hb' => hw b' (fun e => hbL (e ▸ hl b' hb'))

theorem SRi.dig_ (h : SRi w0 S0 σ a w Im hd bl) {c d i : Nat} {t : Ty} {xs : List (List t.den)} {cn : Bool} (hc : obGet σ.ob c = some (.row (.slice t) xs true cn)) (hcd : c ≠ d) (hd5 : d < 500000) (hi : i < xs.length) :
    ∃ b f0 cap cur F u, hd c = .slice (some ⟨b, f0, none⟩) xs.length cap ∧ w.heap[b]? = some (.cells cur F (0, 0)) ∧ (cur.toList.drop f0)[i]? = some u ∧ u.oneCell' = true ∧ ∃ hd' bl', SRi w0 S0 (σ.dig c d t xs i) a w Im hd' bl' ∧ hd' d = u := by
  rcases (h.objs c _ hc).1 with ⟨_, e, _⟩ | ⟨b, f0, cap, cur, F, Li, e1, e2, e3, e4, e5, hol⟩
  · rw [e] at hi; simp at hi
  obtain ⟨L1, Lx, L2, y, u, e6, e7, e8, e9, e10, e11⟩ := OL.cut (p := OT w (.slice t)) (show OL 1 (OT w (.slice t)) xs (cur.toList.drop f0) Li from hol) hi
  subst e6
  have hown := h.own c _ hc
  rw [e5] at hown
  have hnd := List.nodup_cons.1 hown.1
  have hnd2 := List.nodup_append.1 hnd.2
  have hnd3 := List.nodup_append.1 hnd2.2.1
  have hy : xs.getD i [] = y := by rw [List.getD, e7]; rfl
  have hL : (b :: (L1 ++ L2)).Nodup := by
    refine List.nodup_cons.2 ⟨fun hm => hnd.1 ?_, List.nodup_append.2 ⟨hnd2.1, hnd3.2.1, fun x hx z hz e => hnd2.2.2 x hx z (by simp [hz]) e⟩⟩
    simp only [List.mem_append] at hm ⊢
    exact hm.elim .inl (fun h => .inr (.inr h))
  have hsub : ∀ x ∈ b :: (L1 ++ L2), x ∈ bl c := by
    intro x hx
    rw [e5]
    simp only [List.mem_cons, List.mem_append] at hx ⊢
    rcases hx with hx | hx | hx
    · exact .inl hx
    · exact .inr (.inl hx)
    · exact .inr (.inr (.inr hx))
  have h1 := h.obj (o' := .hole t xs i .dead) (w' := w) (L := b :: (L1 ++ L2)) hc (fun _ _ _ => rfl) (Nat.le_refl _) h.below (fun _ x => x) (fun _ hb => .inl hb) hL hsub
    ⟨b, f0, cap, cur, F, L1, L2, u, e1, e2, e3, e4, hi, rfl, e10, e11, e8, trivial⟩
  have hLx : ∀ x ∈ Lx, x ∈ bl c ∧ x ∉ b :: (L1 ++ L2) := by
    intro x hx
    refine ⟨by rw [e5]; simp [hx], fun hm => ?_⟩
    simp only [List.mem_cons, List.mem_append] at hm
    rcases hm with hm | hm | hm
    · exact hnd.1 (by rw [← hm]; simp [hx])
    · exact hnd2.2.2 x hm x (by simp [hx]) rfl
    · exact hnd3.2.2 x hx x hm rfl
  have hrow : ORow w t.sz (OT w t) u y Lx := by
    obtain ⟨v, ev, hr⟩ := e9
    cases ev
    exact hr
  have h2 := h1.new_ d hd5 (o := .row t (xs.getD i []) true false) (v := u) (L := Lx) (fun e p hne hp x hx hm => by
      by_cases q : e = c
      · subst q
        simp only [if_true] at hx
        exact (hLx x hm).2 hx
      · simp only [q, if_false] at hx
        have hp' : obGet σ.ob e = some p := by
          have hp2 : obGet (obPut σ.ob c (.hole t xs i .dead)) e = some p := hp
          rw [obGet_put, if_neg (Ne.symm q)] at hp2
          exact hp2
        exact h.apart e p c _ hp' hc q x hx (hLx x hm).1) hnd3.1 (fun x hx => (h.own c _ hc).2 x (hLx x hx).1) ⟨by rw [hy]; exact hrow, fun e => by cases e⟩
  have hc2 : obGet (St.new { σ with ob := obPut σ.ob c (.hole t xs i .dead) } d (.row t (xs.getD i []) true false)).ob c = some (.hole t xs i .dead) := by
    show obGet ((d, _) :: (St.kill { σ with ob := obPut σ.ob c (.hole t xs i .dead) } d).ob) c = _
    rw [obGet_cons, if_neg (Ne.symm hcd), kill_get (o := .hole t xs i .dead) hcd (by show obGet (obPut σ.ob c _) c = _; rw [obGet_put, if_pos rfl])]
    rfl
  have h3 := h2.obj (o' := .hole t xs i (.own d)) (w' := w) (L := b :: (L1 ++ L2)) hc2 (fun _ _ _ => rfl) (Nat.le_refl _) h.below (fun _ x => x) (fun _ hb => .inl hb) hL
    (fun x hx => by simp only [hcd, if_false, if_true]; exact hx)
    ⟨b, f0, cap, cur, F, L1, L2, u, by simp only [hcd, if_false]; exact e1, e2, e3, e4, hi, rfl, e10, e11, e8, by show u = if d = d then u else hd d; rw [if_pos rfl]⟩
  refine ⟨b, f0, cap, cur, F, u, e1, e2, e8, ?_, _, _, h3, by rw [if_pos rfl]⟩
  rcases hrow with ⟨rfl, _⟩ | ⟨b', f0', cap', cs', F', Li', rfl, _⟩ <;> rfl

theorem aStore_ok {E : Env} (hE : ∀ T ti, E.ty T = some ti → TyOk P T ti) (h : SRi w0 S0 σ a w Im hd bl) {T : Nat} {x v : AV} {vx vv : Value} (hx : AVR w Im hd vx x) (hv : AVR w Im hd vv v)
    {next : St → Option ρ} {r : ρ} (hn : aStore E σ T x v next = some r) : ∃ w', (Instr.storeAt T vx vv).run P w = .ok () w' ∧ ∃ τ, next τ = some r ∧ SR w0 S0 τ a w' := by
  unfold aStore at hn
  split at hn
  · rename_i n agg cs hT hcs
    obtain ⟨h0, hnn⟩ := chk_some hn; clear hn; have hn := hnn; clear hnn
    have hcl := Nat.eq_of_beq_eq_true h0
    obtain ⟨us, hu1, hu2, hu3, hu4⟩ := cells_of h hv hcs
    have hul := hu2.len
    obtain ⟨⟨i, hi, hsz⟩, hagg, _⟩ := size_ok hE hT
    have hrun : ∀ {b o : Nat} {cur : Array Value} {F : TypeId}, w.heap[b]? = some (.cells cur F (0, 0)) → o + us.length ≤ cur.size →
        (Instr.storeAt T (.pointer (some ⟨b, o, none⟩)) vv).run P w = .ok () (w.setRow b (cur.toList.take o ++ us ++ cur.toList.drop (o + us.length)).toArray) := by
      intro b o cur F hb hf
      have := run_store_at (P := P) (T := T) (v := vv) hb hi (by rw [hu1, List.size_toArray]; omega) (by rw [hu1]; exact hu4) (by rw [hu1, List.size_toArray]; exact hf)
      rwa [hu1] at this
    split at hn
    · -- a variable
      rename_i c o
      split at hn
      · rename_i l hc
        obtain ⟨h1, hnn⟩ := chk_some hn; clear hn; have hn := hnn; clear hnn
        have hle := Nat.le_of_ble_eq_true h1
        obtain ⟨b, e1, rfl⟩ := hx
        obtain ⟨b', cur, F, e2, hb, hbl, hcur⟩ := h.objs c _ hc
        rw [e1] at e2; cases e2
        have hlen := hcur.len
        have hfit : o + us.length ≤ cur.size := by rw [← Array.length_toList]; omega
        refine ⟨_, hrun hb hfit, _, hn, Im, hd, _, h.obj (L := [b]) hc (fun x _ hx => setRow_other (fun e => hx (by rw [hbl, e]; simp))) (by rw [setRow_size]; exact Nat.le_refl _) (KeptW.setRow_ h.below ((h.own c _ hc).2 b (by rw [hbl]; simp)).1 _)
          (fun _ x => x) (fun b hb => .inl hb) (by simp) (fun x hx => by rw [hbl]; exact hx) ⟨b, _, F, e1, setRow_heap w b cur _ F _ hb, rfl, ?_⟩⟩
        have hbi : ¬ Im b := ((h.own c _ hc).2 b (by rw [hbl]; simp)).2.2
        have hk : CVs w Im hd (splice cur.toList o us) (splice l o cs) := hcur.splice hu2 o
        have := hk.tell (Tell.keep (w' := w.setRow b (cur.toList.take o ++ us ++ cur.toList.drop (o + us.length)).toArray) hd (fun x hx => setRow_other (fun e => hbi (e ▸ hx))) (fun _ x => x))
        rw [CV.map_id', List.map_id] at this
        exact this
      · cases hn
    · -- an element
      rename_i c m j o
      split at hn
      · rename_i t xs d cn hc
        obtain ⟨h1, hnn⟩ := chk_some hn; clear hn; have hn := hnn; clear hnn
        obtain ⟨h2, hnn⟩ := chk_some hn; clear hn; have hn := hnn; clear hnn
        have hm : Nat.beq m t.sz = true ∧ Nat.ble (o + n) m = true := by simpa using h1
        obtain rfl := Nat.eq_of_beq_eq_true hm.1
        have hle := Nat.le_of_ble_eq_true hm.2
        have hj : j < xs.length := of_decide_eq_true h2
        obtain ⟨b, f0, e1, rfl⟩ := hx
        obtain ⟨cap, cur, F, Li, e2, hb, hcs0, hcap, hbl, hol⟩ := row_block h hc e1
        obtain ⟨D, hD⟩ : ∃ D, cur.toList.drop f0 = D := ⟨_, rfl⟩
        have hf0 : f0 ≤ cur.toList.length := by rw [Array.length_toList]; omega
        have hDl : D.length = cur.toList.length - f0 := by rw [← hD, List.length_drop]
        rw [hD] at hol
        have hown := h.own c _ hc
        have hbi := hown.2 b (by rw [hbl]; simp)
        have hjc : j * t.sz + t.sz ≤ D.length := by
          have := hol.len
          have h3 : (j + 1) * t.sz ≤ xs.length * t.sz := Nat.mul_le_mul_right _ hj
          rw [Nat.add_mul, Nat.one_mul] at h3
          omega
        have hfit : f0 + j * t.sz + o + us.length ≤ cur.size := by rw [← Array.length_toList]; omega
        have hcells : cur.toList.take (f0 + j * t.sz + o) ++ us ++ cur.toList.drop (f0 + j * t.sz + o + us.length) = cur.toList.take f0 ++ (D.take (j * t.sz) ++ splice ((D.drop (j * t.sz)).take t.sz) o us ++ D.drop (j * t.sz + t.sz)) := by
          rw [← splice_in _ _ _ _ _ (by omega) hjc, ← hD, List.drop_drop, Nat.add_assoc, List.take_add, ← Nat.add_assoc, ← Nat.add_assoc]
          simp only [List.append_assoc, Nat.add_assoc]
        have hrun' := hrun hb hfit
        rw [hcells] at hrun'
        have hesz : ((D.drop (j * t.sz)).take t.sz).length = t.sz := by rw [List.length_take, List.length_drop]; omega
        have hspl : (splice ((D.drop (j * t.sz)).take t.sz) o us).length = t.sz := by rw [splice_len (by omega)]; exact hesz
        have hbw : ∀ {cs' : Array Value} x, x < w.heap.size → x ∉ bl c → (w.setRow b cs').heap[x]? = w.heap[x]? := fun x _ hx => setRow_other (fun e => hx (by rw [hbl, e]; simp))
        have hsmIm : ∀ {cs' : Array Value} {I : Nat → Prop}, ¬ I b → Same I w (w.setRow b cs') := fun hI x hx => setRow_other (fun e => hI (e ▸ hx))
        have hnewsz : ∀ {z : List Value}, z.length = t.sz → f0 + cap * t.sz ≤ (cur.toList.take f0 ++ (D.take (j * t.sz) ++ z ++ D.drop (j * t.sz + t.sz))).toArray.size := by
          intro z hz
          have : (cur.toList.take f0 ++ (D.take (j * t.sz) ++ z ++ D.drop (j * t.sz + t.sz))).toArray.size = cur.toList.length := by
            rw [List.size_toArray, List.length_append, List.length_append, List.length_append, List.length_take, List.length_take, List.length_drop, hz]; omega
          rw [this, Array.length_toList]; exact hcs0
        have hnewdrop : ∀ {z : List Value}, (cur.toList.take f0 ++ (D.take (j * t.sz) ++ z ++ D.drop (j * t.sz + t.sz))).toArray.toList.drop f0 = D.take (j * t.sz) ++ z ++ D.drop (j * t.sz + t.sz) := fun {z} => drop_pre hf0
        have hcnil : cn = true → xs.set j = xs.set j → ∀ y, xs.set j y = [] → hd c = .slice none 0 0 := by
          intro _ _ y e
          have := congrArg List.length e
          simp at this
          subst this
          simp at hj
        cases hf : t.flat with
        | true =>
          simp only [hf, cond_true] at hn
          split at hn
          · rename_i y hy
            have hol' : OL t.sz (rowP w Im t d) xs D [] := OL.flatly hf hol
            obtain ⟨l, hp, _, hle2⟩ := hol'.get j xs[j] (by simp [hj])
            have hpv : VR w Im t xs[j] ((D.drop (j * t.sz)).take t.sz) := by
              cases d with
              | true => exact VR.flat hf (OT.read (S := fun _ => True) hp (fun _ _ => trivial))
              | false => exact hp.1
            have hget : xs.getD j t.dflt = xs[j] := by simp [List.getD, hj]
            rw [hget] at hy
            have hyv : VR w Im t y (splice ((D.drop (j * t.sz)).take t.sz) o us) := implode_read hy ((explode_CVs hpv).splice hu2 o)
            have hyp : rowP w Im t d y (splice ((D.drop (j * t.sz)).take t.sz) o us) [] := by
              cases d with
              | true => exact VR.own hf hyv
              | false => exact ⟨hyv, rfl⟩
            obtain ⟨L', k1, k2, k3⟩ := OL.set hspl hyp hol' hj
            have k1' := OL.flatly (e := d) hf k1
            refine ⟨_, hrun', _, hn, Im, hd, _, h.obj (L := [b]) hc hbw (by rw [setRow_size]; exact Nat.le_refl _) (KeptW.setRow_ h.below hbi.1 _)
              (fun _ x => x) (fun b hb => .inl hb) (by simp) (fun x hx => by rw [hbl]; simp at hx; simp [hx]) ⟨.inr ⟨b, f0, cap, _, F, [], by rw [e2, List.length_set], setRow_heap w b cur _ F _ hb, hnewsz hspl, by rw [List.length_set]; exact hcap, rfl, ?_⟩, fun q e => hcnil q rfl y e⟩⟩
            rw [hnewdrop]
            exact OL.tell (hsmIm hbi.2.2) (fun _ x => x) (fun x hx => by cases hx) k1'
          · cases hn
        | false =>
          simp only [hf, cond_false] at hn
          obtain ⟨h3, hnn⟩ := chk_some hn; clear hn; have hn := hnn; clear hnn
          have hnm : n = t.sz := Nat.eq_of_beq_eq_true h3
          have ho0 : o = 0 := by omega
          subst ho0
          split at hn
          · rename_i y hy
            obtain ⟨h4, hnn⟩ := chk_some hn; clear hn; have hn := hnn; clear hnn
            have hnc : c ∉ ownsAll cs := fun hm => by rw [hasB_mem.2 hm] at h4; cases h4
            have hspl0 : splice ((D.drop (j * t.sz)).take t.sz) 0 us = us := by
              unfold splice
              have : ((D.drop (j * t.sz)).take t.sz).drop (0 + us.length) = [] := List.drop_eq_nil_of_le (by rw [hesz]; omega)
              rw [this]; simp
            rw [hspl0] at hrun' hspl
            have hel : EL σ t cs [y] := ⟨by omega, by rw [List.take_of_length_le (by omega)]; exact hy, List.drop_eq_nil_of_le (by omega)⟩
            generalize htree : (d && σ.treeB cs && !hasB c (ownsAll cs)) = tree at hn
            obtain ⟨Im', M, g1, g2, g3, g4, g5, g6, g7, g8⟩ := h.give hel hu2 hu3 (tree := tree) (fun e => by rw [e] at htree; simp at htree; exact htree.1.2)
            obtain ⟨M1, M2, rfl, _, hyp, hM2⟩ := g3
            obtain rfl : M2 = [] := hM2
            rw [List.append_nil] at g4 g5 g6 g7
            rw [List.take_of_length_le (by omega)] at hyp
            have hc' := give_row (tree := tree) hc hnc
            -- the row as it is read from here on
            obtain ⟨σ2, Im2, bl2, q1, q2, q3, q4, q5, q6, q7⟩ : ∃ (σ2 : St) (Im2 : Nat → Prop) (bl2 : Nat → List Nat), SRi w0 S0 σ2 a w Im2 hd bl2 ∧ obGet σ2.ob c = some (.row t xs tree cn) ∧
                (∀ o', ({ σ2 with ob := obPut σ2.ob c o' } : St) = { σ.give tree (ownsAll cs) with ob := obPut (σ.give tree (ownsAll cs)).ob c o' }) ∧ rowP w Im2 t tree y us M1 ∧
                (∀ b ∈ M1, w0.mine b ∧ b < w.heap.size ∧ ¬ Im2 b) ∧ (∀ k p, obGet σ2.ob k = some p → ∀ b ∈ bl2 k, b ∉ M1) ∧ (M1 = [] ∨ tree = true) := by
              cases tree with
              | true =>
                have hdt : d = true := by simp at htree; exact htree.1.1
                subst hdt
                exact ⟨_, Im', bl, g1, hc', fun _ => rfl, hyp, g5, fun k p hp b hb => (g6 k p hp).2 b hb, .inr rfl⟩
              | false =>
                have hM1 : M1 = [] := hyp.2
                cases d with
                | false => exact ⟨_, Im', bl, g1, hc', fun _ => rfl, hyp, g5, fun k p hp b hb => (g6 k p hp).2 b hb, .inl hM1⟩
                | true =>
                  obtain ⟨Im2, bl2, s1, s2⟩ := g1.soften hc'
                  refine ⟨_, Im2, bl2, s1, by rw [obGet_put]; simp, fun o' => by simp only [obPut_obPut], ⟨VR.mono (Same.refl _ _) s2 hyp.1, hyp.2⟩, (fun b hb => by rw [hM1] at hb; cases hb), (fun k p _ b _ hb => by rw [hM1] at hb; cases hb), .inl hM1⟩
            obtain ⟨cap2, cur2, F2, Li2, p2, hb2, _, _, hbl2, hol2⟩ := row_block q1 q2 e1
            rw [hb] at hb2; cases hb2
            rw [hD] at hol2
            have hown2 := q1.own c _ q2
            have hnd2 := hown2.1
            rw [hbl2, List.nodup_cons] at hnd2
            obtain ⟨L', k1, k2, k3⟩ := OL.set hspl q4 hol2 hj
            have hapart : ∀ b ∈ M1, b ∉ bl2 c := fun b hb hb2 => q6 c _ q2 b hb2 hb
            have hLnd : (b :: L').Nodup := by
              rw [List.nodup_cons]
              refine ⟨fun hm => ?_, k3 hnd2.2 g4 (fun x hx hx2 => hapart x hx (by rw [hbl2]; simp [hx2]))⟩
              rcases k2 b hm with h5 | h5
              · exact hnd2.1 h5
              · exact hapart b h5 (by rw [hbl2]; simp)
            have hbi2 := hown2.2 b (by rw [hbl2]; simp)
            rw [← q3] at hn
            refine ⟨_, hrun', _, hn, Im2, hd, (fun d => if d = c then b :: L' else bl2 d), ?_⟩
            refine q1.obj2 (M := M1) (L := b :: L') q2 (fun x _ hx => setRow_other (fun e => hx (by rw [hbl2, e]; simp))) (by rw [setRow_size]; exact Nat.le_refl _) (KeptW.setRow_ h.below hbi.1 _) hLnd (fun x hx => ?_) q5 q6
              ⟨.inr ⟨b, f0, cap, _, F, L', by rw [e2, List.length_set], setRow_heap w b cur _ F _ hb, hnewsz hspl, by rw [List.length_set]; exact hcap, rfl, ?_⟩, fun q e => hcnil q rfl y e⟩
            · rcases List.mem_cons.1 hx with rfl | hx
              · exact .inl (by rw [hbl2]; simp)
              · exact (k2 x hx).imp_left fun h => by rw [hbl2]; simp [h]
            · have hbL : b ∉ L' := (List.nodup_cons.1 hLnd).1
              rw [hnewdrop]
              exact OL.tell (hsmIm hbi2.2.2) (fun _ x => x) (fun x hx => setRow_other (fun e => hbL (e ▸ hx))) k1
          · cases hn
      · -- an array
        rename_i t xs hc
        obtain ⟨h1, hnn⟩ := chk_some hn; clear hn; have hn := hnn; clear hnn
        obtain ⟨h2, hnn⟩ := chk_some hn; clear hn; have hn := hnn; clear hnn
        have hm : (Nat.beq m t.sz = true ∧ Nat.ble (o + n) m = true) ∧ t.flat = true := by simpa using h1
        obtain rfl := Nat.eq_of_beq_eq_true hm.1.1
        have hle := Nat.le_of_ble_eq_true hm.1.2
        have hf := hm.2
        have hj : j < xs.length := of_decide_eq_true h2
        obtain ⟨b, fz, e1, rfl⟩ := hx
        obtain ⟨b', cur, F, e2, hb, hcs0, hbl, _, hol⟩ := h.objs c _ hc
        rw [top_ptr e2] at e1; cases e1
        rw [Nat.zero_add]
        have hown := h.own c _ hc
        have hbi := hown.2 b (by rw [hbl]; simp)
        have hjc : j * t.sz + t.sz ≤ cur.toList.length := by
          have := hol.len
          have h3 : (j + 1) * t.sz ≤ xs.length * t.sz := Nat.mul_le_mul_right _ hj
          rw [Nat.add_mul, Nat.one_mul] at h3
          omega
        have hfit : j * t.sz + o + us.length ≤ cur.size := by rw [← Array.length_toList]; omega
        have hcells : cur.toList.take (j * t.sz + o) ++ us ++ cur.toList.drop (j * t.sz + o + us.length) = cur.toList.take (j * t.sz) ++ splice ((cur.toList.drop (j * t.sz)).take t.sz) o us ++ cur.toList.drop (j * t.sz + t.sz) :=
          splice_in _ _ _ _ _ (by omega) hjc
        have hrun' := hrun hb hfit
        rw [hcells] at hrun'
        have hesz : ((cur.toList.drop (j * t.sz)).take t.sz).length = t.sz := by rw [List.length_take, List.length_drop]; omega
        have hspl : (splice ((cur.toList.drop (j * t.sz)).take t.sz) o us).length = t.sz := by rw [splice_len (by omega)]; exact hesz
        split at hn
        · rename_i y hy
          obtain ⟨l, hp, _, hle2⟩ := hol.get j xs[j] (by simp [hj])
          have hget : xs.getD j t.dflt = xs[j] := by simp [List.getD, hj]
          rw [hget] at hy
          have hyv : VR w Im t y (splice ((cur.toList.drop (j * t.sz)).take t.sz) o us) := implode_read hy ((explode_CVs hp.1).splice hu2 o)
          obtain ⟨L', k1, k2, k3⟩ := OL.set (p := rowP w Im t false) hspl (My := []) ⟨hyv, rfl⟩ hol hj
          have k1' : OL t.sz (rowP w Im t false) (xs.set j y) _ [] := OL.flatly hf k1
          refine ⟨_, hrun', _, hn, Im, hd, _, h.obj (L := [b]) hc (fun x _ hx => setRow_other (fun e => hx (by rw [hbl, e]; simp))) (by rw [setRow_size]; exact Nat.le_refl _) (KeptW.setRow_ h.below hbi.1 _)
            (fun _ x => x) (fun b hb => .inl hb) (by simp) (fun x hx => by rw [hbl]; exact hx) ⟨b, _, F, e2, setRow_heap w b cur _ F _ hb, ?_, rfl, hf, ?_⟩⟩
          · rw [List.length_set, ← hcs0, ← Array.length_toList, List.size_toArray, List.length_append, List.length_append, List.length_take, List.length_drop, hspl]; omega
          · exact OL.tell (fun x hx => setRow_other (fun e => hbi.2.2 (e ▸ hx))) (fun _ x => x) (fun x hx => by cases hx) k1'
        · cases hn
      · -- a struct that was handed out
        rename_i t xs i0 l0 hc
        obtain ⟨h1, hn1⟩ := chk_some hn
        obtain ⟨h2, hn2⟩ := chk_some hn1
        clear hn hn1
        simp only [Bool.and_eq_true] at h1
        obtain ⟨⟨⟨q1, q2⟩, q3⟩, q4⟩ := h1
        obtain rfl := Nat.eq_of_beq_eq_true q1
        have q2 := Nat.le_of_ble_eq_true q2
        obtain rfl := Nat.eq_of_beq_eq_true h2
        obtain ⟨b2, f2, k0, rfl⟩ := hx
        obtain ⟨b, f0, cap, cur, F, L1, L2, e1, e2, e3, e4, e5, e6, e7, e8, e9⟩ := h.objs c _ hc
        rw [top_slice e1] at k0; cases k0
        have hown := h.own c _ hc
        rw [e6] at hown
        have hbm := hown.2 b2 (by simp)
        have hlen := e9.len
        have hbig : f2 + (j + 1) * t.sz ≤ cur.toList.length := by
          have : (j + 1) * t.sz ≤ cap * t.sz := Nat.mul_le_mul (by omega) (Nat.le_refl _)
          rw [Array.length_toList]; omega
        rw [Nat.add_mul, Nat.one_mul] at hbig
        have hfit : f2 + j * t.sz + o + us.length ≤ cur.size := by rw [← Array.length_toList]; omega
        have hnotb : ∀ x, x ∈ L1 ∨ x ∈ L2 → x ≠ b2 := fun x hx e => (List.nodup_cons.1 hown.1).1 (by rw [← e]; exact List.mem_append.2 hx)
        generalize hW : w.setRow b2 (cur.toList.take (f2 + j * t.sz + o) ++ us ++ cur.toList.drop (f2 + j * t.sz + o + us.length)).toArray = W
        have hWo : ∀ x, x ≠ b2 → W.heap[x]? = w.heap[x]? := fun x hx => by rw [← hW]; exact setRow_other hx
        have hWs : W.heap.size = w.heap.size := by rw [← hW]; exact setRow_size
        have hWb : W.heap[b2]? = some (.cells (cur.toList.take (f2 + j * t.sz + o) ++ us ++ cur.toList.drop (f2 + j * t.sz + o + us.length)).toArray F (0, 0)) := by rw [← hW]; exact setRow_heap w b2 cur _ F _ e2
        have hsame : Same Im w W := fun x hx => hWo x (fun e => hbm.2.2 (e ▸ hx))
        -- the cells of the row behind its beginning
        have hdrop : ((cur.toList.take (f2 + j * t.sz + o) ++ us ++ cur.toList.drop (f2 + j * t.sz + o + us.length))).drop f2 = (cur.toList.drop f2).take (j * t.sz + o) ++ us ++ (cur.toList.drop f2).drop (j * t.sz + o + us.length) := by
          rw [List.append_assoc, List.drop_append_of_le_length (by rw [List.length_take]; omega), List.drop_take, List.drop_drop, List.append_assoc, show f2 + j * t.sz + o - f2 = j * t.sz + o by omega, show f2 + (j * t.sz + o + us.length) = f2 + j * t.sz + o + us.length by omega]
        refine ⟨W, by rw [← hW]; exact hrun e2 hfit, _, hn2, Im, hd, _, h.obj (L := b2 :: (L1 ++ L2)) hc (fun x _ hx => hWo x (fun e => hx (by rw [e6, e]; simp))) (by rw [hWs]; exact Nat.le_refl _)
          (by rw [← hW]; exact KeptW.setRow_ h.below hbm.1 _) (fun _ x => x) (fun b hb => .inl hb) hown.1 (fun x hx => by rw [e6]; exact hx)
          ⟨b2, f2, cap, _, F, L1, L2, e1, hWb, ?_, e4, e5, rfl, ?_, ?_, ?_⟩⟩
        · rw [List.size_toArray, List.length_append, List.length_append, List.length_take, List.length_drop, Array.length_toList]; omega
        · show OL t.sz (OT W t) _ ((List.drop f2 (_ ++ us ++ _)).take _) L1
          rw [hdrop, List.append_assoc, List.take_append_of_le_length (by rw [List.length_take, List.length_drop]; omega), List.take_take, Nat.min_eq_left (by omega)]
          exact e7.mapP fun x cc l hl hp => OT.same hp fun b' hb' => hWo b' (hnotb b' (.inl (hl b' hb')))
        · show OL t.sz (OT W t) _ ((List.drop f2 (_ ++ us ++ _)).drop _) L2
          have hd3 : ((cur.toList.drop f2).take (j * t.sz + o) ++ us ++ (cur.toList.drop f2).drop (j * t.sz + o + us.length)).drop (j * t.sz + t.sz) = (cur.toList.drop f2).drop (j * t.sz + t.sz) := by
            have h1 : ((cur.toList.drop f2).take (j * t.sz + o) ++ us).length = j * t.sz + o + us.length := by rw [List.length_append, List.length_take, List.length_drop]; omega
            have h2 : j * t.sz + t.sz = ((cur.toList.drop f2).take (j * t.sz + o) ++ us).length + (t.sz - o - us.length) := by omega
            rw [h2, List.drop_length_add_append, List.drop_drop]
            congr 1
            omega
          rw [hdrop, hd3]
          exact e8.mapP fun x cc l hl hp => OT.same hp fun b' hb' => hWo b' (hnotb b' (.inr (hl b' hb')))
        · show CVs W Im hd (((List.drop f2 (_ ++ us ++ _)).drop _).take _) _
          have hd4 : (((cur.toList.drop f2).take (j * t.sz + o) ++ us ++ (cur.toList.drop f2).drop (j * t.sz + o + us.length)).drop (j * t.sz)).take t.sz = splice (((cur.toList.drop f2).drop (j * t.sz)).take t.sz) o us := by
            have hA : j * t.sz + t.sz ≤ (cur.toList.drop f2).length := by rw [List.length_drop]; omega
            have hT : ((cur.toList.drop f2).take (j * t.sz)).length = j * t.sz := by rw [List.length_take]; omega
            have hS : (splice (((cur.toList.drop f2).drop (j * t.sz)).take t.sz) o us).length = t.sz := by
              rw [splice_len (by rw [List.length_take, List.length_drop]; omega), List.length_take, List.length_drop]; omega
            rw [splice_in _ us j t.sz o (by omega) hA, List.append_assoc, List.drop_append_of_le_length (by omega), List.drop_of_length_le (by omega), List.nil_append, List.take_append_of_le_length (by omega), List.take_of_length_le (by omega)]
          rw [hdrop, hd4]
          have hlive : CVs W Im hd us cs := by
            have := hu2.tell (Tell.keep (w' := W) hd hsame (fun _ x => x))
            rwa [CV.map_id', List.map_id] at this
          have hl0 : CVs W Im hd (((cur.toList.drop f2).drop (j * t.sz)).take t.sz) l0 := by
            have := e9.tell (Tell.keep (w' := W) hd hsame (fun _ x => x))
            rwa [CV.map_id', List.map_id] at this
          exact hl0.splice hlive o
      · -- an element that was handed out
        rename_i t xs i0 c0 hc
        split at hn
        · rename_i k
          split at hn
          · rename_i u ys nn hk
            split at hn
            · rename_i ys' hys
              obtain ⟨ee, hee⟩ := as_some hys
              cases ee
              cases hee
              obtain ⟨h1, hnn⟩ := chk_some hn; clear hn; have hn := hnn; clear hnn
              obtain ⟨h2, hnn⟩ := chk_some hn; clear hn; have hn := hnn; clear hnn
              simp only [Bool.and_eq_true, Bool.not_eq_true'] at h1
              obtain rfl := Nat.eq_of_beq_eq_true h1.1.1
              obtain rfl := Nat.eq_of_beq_eq_true h1.1.2
              obtain rfl := Nat.eq_of_beq_eq_true h2
              have hck : c ≠ k := fun e => by rw [e] at h1; have := h1.2; rw [Nat.beq_refl] at this; cases this
              obtain ⟨b, f0, cap, cur, F, u0, k1, k2, k3, k4, k5, k6, k7, k8⟩ := h.fill hck hc hk
              obtain ⟨b2, f2, q1, rfl⟩ := hx
              rw [top_slice k1] at q1; cases q1
              obtain ⟨u1, rfl⟩ : ∃ u1, us = [u1] := by
                match us, hu2 with
                | [u1], _ => exact ⟨u1, rfl⟩
              have hu : u1 = hd k := hu2.1
              subst hu
              have hrun' := hrun (o := f0 + j * 1 + 0) k2 (by rw [← Array.length_toList, List.length_singleton]; omega)
              have hset : (cur.toList.take (f0 + j * 1 + 0) ++ [hd k] ++ cur.toList.drop (f0 + j * 1 + 0 + [hd k].length)) = cur.toList.set (f0 + j) (hd k) := by
                rw [List.set_eq_take_append_cons_drop, if_pos k4]
                simp
              rw [hset] at hrun'
              obtain ⟨bl', hfin⟩ := k8 (w.setRow b (cur.toList.set (f0 + j) (hd k)).toArray) (fun b' hb' => setRow_other hb') (by rw [setRow_size]; exact Nat.le_refl _) (KeptW.setRow_ h.below k5 _) (setRow_heap w b cur _ F _ k2)
              exact ⟨_, hrun', _, hn, Im, hd, bl', hfin⟩
            · cases hn
          · cases hn
        · cases hn
      · cases hn
    · cases hn
  · cases hn

end
end Go.Vt
