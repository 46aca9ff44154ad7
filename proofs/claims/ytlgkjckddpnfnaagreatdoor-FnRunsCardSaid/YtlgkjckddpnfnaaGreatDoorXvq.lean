/-
  The plain machine's operations, one after the other, tell what the model's do.
  Conditions: the table of types is right (TyOk); the functions give what the plain machine says (Gives).
-/
import Derived.Test.YtlgkjckddpnfnaaGreatDoorXvp
import Derived.Orders
import Derived.Laws.Small
namespace Go.Vt
open Go.RowKit
set_option linter.unusedVariables false
set_option linter.unusedSimpArgs false

section
variable {P : Program} {ρ : Type} {gw : Gw} {w0 : Base gw} {w : World} {S0 : Nat → Prop} {σ : St} {a : Act} {Im : Nat → Prop} {hd : Nat → Value} {bl : Nat → List Nat} {Q : Exit → Act → World → Prop}

theorem okDst_some {d : Option Nat} (h : okDst d = true) : ∃ c, d = some c ∧ c < 500000 := by
  cases d with
  | none => cases h
  | some c => exact ⟨c, rfl, blt_lt h⟩
theorem dst_some {o : Oper} {x : Option ρ} {r : ρ} (h : chk (okDst o.dst) x = some r) : ∃ d, o.dst = some d ∧ o.dst.getD 0 = d ∧ d < 500000 ∧ x = some r := by
  obtain ⟨h1, h2⟩ := chk_some h
  obtain ⟨d, hd, hl⟩ := okDst_some h1
  exact ⟨d, hd, by rw [hd]; rfl, hl, h2⟩

theorem dig_ok {dst : Nat} : ∀ (t : Ty) {j : Nat} {x : t.den} {cs : List Value} {L M : List Nat} {σ : St} {hd : Nat → Value} {bl : Nat → List Nat}, SRi w0 S0 σ a w Im hd bl → OT w t x cs L → (L ++ M).Nodup →
    (∀ b ∈ L ++ M, w0.mine b ∧ b < w.heap.size ∧ ¬ Im b) → (∀ k p, obGet σ.ob k = some p → ∀ b ∈ bl k, b ∉ L ++ M) → dst + 1000 * (j + t.sz) < 500000 →
    ∃ hd' bl', SRi w0 S0 (digT dst t j x σ).1 a w Im hd' bl' ∧ CVs w Im hd' cs (digT dst t j x σ).2 ∧ (∀ d, (∀ i, j ≤ i → i < j + t.sz → d ≠ dst + 1000 * i) → hd' d = hd d) ∧
      (∀ k p, obGet (digT dst t j x σ).1.ob k = some p → ∀ b ∈ bl' k, b ∉ M) ∧ (∀ e ∈ (digT dst t j x σ).2, ∀ k ∈ e.owns, ∃ i, j ≤ i ∧ i < j + t.sz ∧ k = dst + 1000 * i)
  | .int k, j, x, cs, L, M, σ, hd, bl, h, ht, hn, hL, hf, hk => by
    obtain ⟨rfl, rfl⟩ := ht
    exact ⟨hd, bl, h, ⟨rfl, trivial⟩, fun _ _ => rfl, fun k p hp b hb hM => hf k p hp b hb (by simp [hM]), fun e he k hk => by simp [digT] at he; subst he; cases hk⟩
  | .bool, j, x, cs, L, M, σ, hd, bl, h, ht, hn, hL, hf, hk => by
    obtain ⟨rfl, rfl⟩ := ht
    exact ⟨hd, bl, h, ⟨rfl, trivial⟩, fun _ _ => rfl, fun k p hp b hb hM => hf k p hp b hb (by simp [hM]), fun e he k hk => by simp [digT] at he; subst he; cases hk⟩
  | .str, j, x, cs, L, M, σ, hd, bl, h, ht, hn, hL, hf, hk => by
    obtain ⟨rfl, rfl⟩ := ht
    exact ⟨hd, bl, h, ⟨rfl, trivial⟩, fun _ _ => rfl, fun k p hp b hb hM => hf k p hp b hb (by simp [hM]), fun e he k hk => by simp [digT] at he; subst he; cases hk⟩
  | .err, j, x, cs, L, M, σ, hd, bl, h, ht, hn, hL, hf, hk => by
    obtain ⟨⟨v, rfl, hv⟩, rfl⟩ := ht
    exact ⟨hd, bl, h, ⟨⟨v, rfl, hv⟩, trivial⟩, fun _ _ => rfl, fun k p hp b hb hM => hf k p hp b hb (by simp [hM]), fun e he k hk => by simp [digT] at he; subst he; cases hk⟩
  | .set, j, x, cs, L, M, σ, hd, bl, h, ht, hn, hL, hf, hk => by
    obtain ⟨v, rfl, hv⟩ := ht
    exact ⟨hd, bl, h, ⟨trivial, trivial⟩, fun _ _ => rfl, fun k p hp b hb hM => hf k p hp b hb (by simp [hM]), fun e he k hk => by simp [digT] at he; subst he; cases hk⟩
  | .slice u, j, x, cs, L, M, σ, hd, bl, h, ht, hn, hL, hf, hk => by
    obtain ⟨v, rfl, hr⟩ := ht
    have h0 : (Ty.slice u).sz = 1 := rfl
    rw [h0] at hk
    obtain ⟨hd', bl', g1, g2, g3, g4, g5⟩ := putOne_ok h (dst := dst) (j := j) (c := ⟨.slice u, some (true, false)⟩) (x := x) (v := v) (L := L) (M := M) ⟨hr, fun e => by cases e⟩ hn hL hf (fun k hm => by
      have hm' : k = dst + 1000 * j := by simpa using hm
      omega)
    exact ⟨hd', bl', g1, g2, fun d hd => g3 d (hd j (Nat.le_refl _) (by rw [h0]; omega)), g4, fun e he k hk => ⟨j, Nat.le_refl _, by rw [h0]; omega, g5 e he k hk⟩⟩
  | .pair s t, j, x, cs, L, M, σ, hd, bl, h, ht, hn, hL, hf, hk => by
    obtain ⟨c1, c2, L1, L2, rfl, rfl, h1, h2⟩ := ht
    have h0 : (Ty.pair s t).sz = s.sz + t.sz := rfl
    rw [h0] at hk
    rw [List.append_assoc] at hn hL
    obtain ⟨hd1, bl1, g1, g2, g3, g4, g5⟩ := dig_ok s (dst := dst) (j := j) (x := x.1) (M := L2 ++ M) h h1 hn hL (fun k p hp b hb => by have := hf k p hp b hb; rwa [List.append_assoc] at this) (by omega)
    rw [List.nodup_append] at hn
    obtain ⟨hd2, bl2, k1, k2, k3, k4, k5⟩ := dig_ok t (dst := dst) (j := j + s.sz) (x := x.2) (M := M) g1 h2 hn.2.1 (fun b hb => hL b (List.mem_append.2 (.inr hb))) g4 (by omega)
    refine ⟨hd2, bl2, k1, ?_, fun d hd => ?_, k4, fun e he k hk => ?_⟩
    · show CVs w Im hd2 (c1 ++ c2) (_ ++ _)
      refine CVs.app (CVs.rehead (fun e he k hk => ?_) g2) k2
      obtain ⟨i, i1, i2, rfl⟩ := g5 e he k hk
      refine k3 _ (fun i' i1' i2' => ?_)
      omega
    · rw [k3 d (fun i i1 i2 => hd i (by omega) (by rw [h0]; omega)), g3 d (fun i i1 i2 => hd i i1 (by rw [h0]; omega))]
    · have he' : e ∈ (digT dst s j x.1 σ).2 ++ (digT dst t (j + s.sz) x.2 (digT dst s j x.1 σ).1).2 := he
      rcases List.mem_append.1 he' with he' | he'
      · obtain ⟨i, i1, i2, i3⟩ := g5 e he' k hk
        exact ⟨i, i1, by rw [h0]; omega, i3⟩
      · obtain ⟨i, i1, i2, i3⟩ := k5 e he' k hk
        exact ⟨i, by omega, by rw [h0]; omega, i3⟩

theorem OL.getN {α : Type} {n : Nat} {p : α → List Value → List Nat → Prop} : ∀ {xs : List α} {cs : List Value} {L : List Nat}, OL n p xs cs L → ∀ i x, xs[i]? = some x →
    ∃ L1 l L2, L = L1 ++ (l ++ L2) ∧ p x ((cs.drop (i * n)).take n) l
  | [], cs, L, h, i, x, hx => by simp at hx
  | y :: xs, cs, L, h, i, x, hx => by
    obtain ⟨L1, L2, rfl, hn, hp, h⟩ := h
    cases i with
    | zero =>
      simp at hx
      subst hx
      exact ⟨[], L1, L2, rfl, by simpa using hp⟩
    | succ i =>
      obtain ⟨M1, l, M2, rfl, h1⟩ := OL.getN h i x (by simpa using hx)
      refine ⟨L1 ++ M1, l, M2, by simp, ?_⟩
      rw [List.drop_drop] at h1
      rw [Nat.add_mul, Nat.one_mul, Nat.add_comm (i * n) n]
      exact h1

theorem OL.cutN {α : Type} {n : Nat} {p : α → List Value → List Nat → Prop} : ∀ {xs : List α} {cs : List Value} {L : List Nat} {i : Nat}, OL n p xs cs L → (h : i < xs.length) →
    ∃ L1 Lx L2, L = L1 ++ (Lx ++ L2) ∧ p xs[i] ((cs.drop (i * n)).take n) Lx ∧ OL n p (xs.take i) (cs.take (i * n)) L1 ∧ OL n p (xs.drop (i + 1)) (cs.drop (i * n + n)) L2
  | [], cs, L, i, h, hi => by simp at hi
  | x :: xs, cs, L, 0, h, hi => by
    obtain ⟨L1, L2, rfl, hn, hp, h⟩ := h
    refine ⟨[], L1, L2, rfl, by simpa using hp, rfl, ?_⟩
    simpa using h
  | x :: xs, cs, L, i + 1, h, hi => by
    obtain ⟨L1, L2, rfl, hn, hp, h⟩ := h
    obtain ⟨M1, Mx, M2, e1, e2, e3, e4⟩ := OL.cutN (i := i) h (by simpa using hi)
    refine ⟨L1 ++ M1, Mx, M2, by rw [e1]; simp, ?_, ⟨L1, M1, rfl, ?_, ?_, ?_⟩, ?_⟩
    · rw [List.drop_drop] at e2
      rw [Nat.add_mul, Nat.one_mul, Nat.add_comm (i * n) n]
      simpa using e2
    · rw [List.length_take, Nat.add_mul, Nat.one_mul]; omega
    · rw [List.take_take, Nat.min_eq_left (by rw [Nat.add_mul, Nat.one_mul]; omega)]; exact hp
    · rw [List.drop_take]
      have : (i + 1) * n - n = i * n := by rw [Nat.add_mul, Nat.one_mul]; omega
      rw [this]; exact e3
    · rw [List.drop_drop] at e4
      have : (i + 1) * n + n = n + (i * n + n) := by rw [Nat.add_mul, Nat.one_mul]; omega
      rw [this]
      simpa using e4

theorem dead_CVs : ∀ (cs : List Value), CVs w Im hd cs (List.replicate cs.length .dead)
  | [] => trivial
  | v :: cs => ⟨trivial, dead_CVs cs⟩
theorem digT_low {dst c : Nat} (hc : 450000 ≤ c) : ∀ (t : Ty) {j : Nat} {x : t.den} {σ : St} {o : Ob}, dst + 1000 * (j + t.sz) < 450000 → obGet σ.ob c = some o → (∃ t' xs i, o = .hol t' xs i (List.replicate t'.sz .dead)) → obGet (digT dst t j x σ).1.ob c = some o
  | .int k, j, x, σ, o, hk, h, _ => h
  | .bool, j, x, σ, o, hk, h, _ => h
  | .str, j, x, σ, o, hk, h, _ => h
  | .set, j, x, σ, o, hk, h, _ => h
  | .err, j, x, σ, o, hk, h, _ => h
  | .slice u, j, x, σ, o, hk, h, ho => by
    have h0 : (Ty.slice u).sz = 1 := rfl
    rw [h0] at hk
    have hne : c ≠ dst + 1000 * j := by omega
    show obGet ((dst + 1000 * j, _) :: (σ.kill (dst + 1000 * j)).ob) c = some o
    rw [obGet_cons, if_neg (Ne.symm hne), kill_get hne h]
    obtain ⟨t', xs, i, rfl⟩ := ho
    show some (Ob.hol t' xs i ((List.replicate t'.sz CV.dead).map _)) = _
    rw [List.map_replicate]
    rfl
  | .pair s t, j, x, σ, o, hk, h, ho => by
    have h0 : (Ty.pair s t).sz = s.sz + t.sz := rfl
    rw [h0] at hk
    exact digT_low hc t (by omega) (digT_low hc s (by omega) h ho) ho

theorem SRi.digS_ (h : SRi w0 S0 σ a w Im hd bl) {c d i : Nat} {t : Ty} {xs : List t.den} {cn : Bool} (hc : obGet σ.ob c = some (.row t xs true cn)) (hc4 : 450000 ≤ c) (hd4 : d + 1000 * t.sz < 450000) (hi : i < xs.length) :
    ∃ b f0 cap cur F cs, hd c = .slice (some ⟨b, f0, none⟩) xs.length cap ∧ w.heap[b]? = some (.cells cur F (0, 0)) ∧ cs = (cur.toList.drop (f0 + i * t.sz)).take t.sz ∧ cs.length = t.sz ∧ ∃ hd' bl', SRi w0 S0 (σ.digS c d t xs i).1 a w Im hd' bl' ∧ CVs w Im hd' cs (σ.digS c d t xs i).2 := by
  rcases (h.objs c _ hc).1 with ⟨_, e, _⟩ | ⟨b, f0, cap, cur, F, Li, e1, e2, e3, e4, e5, hol⟩
  · rw [e] at hi; simp at hi
  obtain ⟨L1, Lx, L2, e6, e7, e8, e9⟩ := OL.cutN (p := OT w t) (show OL t.sz (OT w t) xs (cur.toList.drop f0) Li from hol) hi
  subst e6
  have hown := h.own c _ hc
  rw [e5] at hown
  have hnd := List.nodup_cons.1 hown.1
  have hnd2 := List.nodup_append.1 hnd.2
  have hnd3 := List.nodup_append.1 hnd2.2.1
  have hy : xs.getD i t.dflt = xs[i] := by rw [List.getD, List.getElem?_eq_getElem hi]; rfl
  have hL : (b :: (L1 ++ L2)).Nodup := by
    refine List.nodup_cons.2 ⟨fun hm => hnd.1 ?_, List.nodup_append.2 ⟨hnd2.1, hnd3.2.1, fun x hx z hz e => hnd2.2.2 x hx z (by simp [hz]) e⟩⟩
    simp only [List.mem_append] at hm ⊢
    exact hm.elim .inl (fun h => .inr (.inr h))
  have hsub : ∀ x ∈ b :: (L1 ++ L2), x ∈ bl c := by
    intro x hx
    rw [e5]
    simp only [List.mem_cons, List.mem_append] at hx ⊢
    rcases hx with hx | hx | hx
    · exact .inl hx
    · exact .inr (.inl hx)
    · exact .inr (.inr (.inr hx))
  have hlen : (((cur.toList.drop f0).drop (i * t.sz)).take t.sz).length = t.sz := e7.sz
  have hdead : CVs w Im hd (((cur.toList.drop f0).drop (i * t.sz)).take t.sz) (List.replicate t.sz .dead) := by
    have := dead_CVs (w := w) (Im := Im) (hd := hd) (((cur.toList.drop f0).drop (i * t.sz)).take t.sz)
    rwa [hlen] at this
  have h1 := h.obj (o' := .hol t xs i (List.replicate t.sz .dead)) (w' := w) (L := b :: (L1 ++ L2)) hc (fun _ _ _ => rfl) (Nat.le_refl _) h.below (fun _ x => x) (fun _ hb => .inl hb) hL hsub
    ⟨b, f0, cap, cur, F, L1, L2, e1, e2, e3, e4, hi, rfl, e8, e9, hdead⟩
  have hLx : ∀ x ∈ Lx, x ∈ bl c ∧ x ∉ b :: (L1 ++ L2) := by
    intro x hx
    refine ⟨by rw [e5]; simp [hx], fun hm => ?_⟩
    simp only [List.mem_cons, List.mem_append] at hm
    rcases hm with hm | hm | hm
    · exact hnd.1 (by rw [← hm]; simp [hx])
    · exact hnd2.2.2 x hm x (by simp [hx]) rfl
    · exact hnd3.2.2 x hx x hm rfl
  have hget1 : obGet (obPut σ.ob c (.hol t xs i (List.replicate t.sz .dead))) c = some (.hol t xs i (List.replicate t.sz .dead)) := by rw [obGet_put, if_pos rfl]
  obtain ⟨hd', bl', j1, j2, j3, _⟩ := dig_ok t (dst := d) (j := 0) (x := xs.getD i t.dflt) (L := Lx) (M := []) h1 (by rw [hy]; exact e7) (by simpa using hnd3.1)
    (fun x hx => (h.own c _ hc).2 x (hLx x (by simpa using hx)).1) (fun k p hp x hx hm => by
      have hm : x ∈ Lx := by simpa using hm
      by_cases q : k = c
      · subst q
        simp only [if_true] at hx
        exact (hLx x hm).2 hx
      · simp only [q, if_false] at hx
        have hp' : obGet σ.ob k = some p := by
          have hp2 : obGet (obPut σ.ob c (.hol t xs i (List.replicate t.sz .dead))) k = some p := hp
          rw [obGet_put, if_neg (Ne.symm q)] at hp2
          exact hp2
        exact h.apart k p c _ hp' hc q x hx (hLx x hm).1) (by omega)
  have hget2 := digT_low hc4 t (dst := d) (j := 0) (x := xs.getD i t.dflt) (σ := { σ with ob := obPut σ.ob c (.hol t xs i (List.replicate t.sz .dead)) }) (by omega) hget1 ⟨t, xs, i, rfl⟩
  have hdc : hd' c = hd c := j3 c (fun q _ hq e => by omega)
  obtain ⟨b', f', cap', cs', E', M1, M2, g1, g2, g3, g4, g5, g6, g7, g8, g9⟩ := j1.objs c _ hget2
  rw [hdc, e1] at g1
  cases g1
  rw [e2] at g2
  cases g2
  refine ⟨b, f0, _, cur, F, _, e1, e2, rfl, by rw [← List.drop_drop]; exact hlen, hd', _, j1.obj (o' := .hol t xs i (digT d t 0 (xs.getD i t.dflt) { σ with ob := obPut σ.ob c (.hol t xs i (List.replicate t.sz .dead)) }).2) (w' := w) (L := bl' c) hget2 (fun _ _ _ => rfl) (Nat.le_refl _) j1.below (fun _ x => x) (fun _ hb => .inl hb) (j1.own c _ hget2).1 (fun _ hx => hx)
    ⟨b, f0, _, cur, F, M1, M2, hdc.trans e1, e2, g3, g4, g5, g6, g7, g8, j2⟩, ?_⟩
  rw [← List.drop_drop]
  exact j2

theorem aEat_ok {E : Env} (hE : ∀ T ti, E.ty T = some ti → TyOk P T ti) (h : SRi w0 S0 σ a w Im hd bl) {T d c m i o : Nat} {v : Value} (hx : AVR w Im hd v (.el c m i o)) {next : St → Option ρ} {other : Option ρ} {r : ρ} (hn : aEat E σ T d c m i o next other = some r) :
    (∃ u τ av hd' bl', (Instr.loadAt T v).run P w = .ok u w ∧ SRi w0 S0 τ a w Im hd' bl' ∧ AVR w Im hd' u av ∧ next (τ.put (some d) av) = some r) ∨ other = some r := by
  unfold aEat at hn
  split at hn
  · rename_i t xs cn n agg hc hT
    obtain ⟨h1, hn1⟩ := chk_some hn
    obtain ⟨h2, hn2⟩ := chk_some hn1
    clear hn hn1
    simp only [Bool.and_eq_true] at h1
    obtain ⟨⟨⟨q1, q2⟩, q3⟩, q4⟩ := h1
    obtain rfl := Nat.eq_of_beq_eq_true q1
    obtain rfl := Nat.eq_of_beq_eq_true q2
    obtain rfl := Nat.eq_of_beq_eq_true q3
    have hi := of_decide_eq_true h2
    obtain ⟨⟨i0, hi0, hsz⟩, hagg, hag1⟩ := size_ok hE hT
    obtain ⟨b, f0, k0, rfl⟩ := hx
    rcases (h.objs c _ hc).1 with ⟨_, e, _⟩ | ⟨b2, f2, cap, cur, F, Li, e1, e2, e3, e4, e5, hol⟩
    · rw [e] at hi; simp at hi
    rw [top_slice e1] at k0
    cases k0
    have hol' : OL t.sz (OT w t) xs (cur.toList.drop f0) Li := hol
    have hg : xs[i]? = some (xs.getD i t.dflt) := by rw [List.getD, List.getElem?_eq_getElem hi]; rfl
    obtain ⟨L1, l, L2, e6, hot⟩ := OL.getN hol' i _ hg
    subst e6
    rw [List.drop_drop] at hot
    obtain ⟨g1, g2⟩ := h.takeOut hc
    have hown := g2.own
    have hnd := g2.nodup
    rw [e5] at hnd hown
    have hlb : ∀ x ∈ l, x ∈ bl c := fun x hx => by rw [e5]; simp [hx]
    have hln : l.Nodup := (List.nodup_append.1 (List.nodup_append.1 (List.nodup_cons.1 hnd).2).2.1).1
    obtain ⟨hd', bl', j1, j2, _⟩ := dig_ok t (dst := d) (j := 0) (x := xs.getD i t.dflt) (L := l) (M := []) g1 hot (by simpa using hln) (fun b hb => g2.own b (hlb b (by simpa using hb))) (fun k p hp b hb hm => g2.free k p hp b hb (hlb b (by simpa using hm))) (by rw [Nat.zero_add]; exact blt_lt q4)
    have hl := hot.sz
    exact .inl ⟨_, _, _, hd', bl', run_load_at (drop_at e2 (f0 + i * t.sz) t.sz) hi0 (by rw [hl]; exact hsz) hagg (fun e => by rw [hl]; exact hag1 e), j1, ofCells_AVR j2, hn2⟩
  · rename_i t xs k n agg hc hT
    obtain ⟨h1, hn1⟩ := chk_some hn
    obtain ⟨h2, hn2⟩ := chk_some hn1
    obtain ⟨h3, hn3⟩ := chk_some hn2
    clear hn hn1 hn2
    simp only [Bool.and_eq_true] at h1
    obtain ⟨⟨⟨q1, q2⟩, q3⟩, q4⟩ := h1
    obtain rfl := Nat.eq_of_beq_eq_true q1
    obtain rfl := Nat.eq_of_beq_eq_true q2
    obtain rfl := Nat.eq_of_beq_eq_true q3
    obtain rfl := Nat.eq_of_beq_eq_true h3
    have hi := of_decide_eq_true h2
    obtain ⟨⟨i0, hi0, hsz⟩, hagg, hag1⟩ := size_ok hE hT
    obtain ⟨b, f0, k0, rfl⟩ := hx
    rcases h.objs c _ hc with ⟨_, e, _⟩ | ⟨b2, f2, cap, cur, F, Li, e1, e2, e3, e4, e5, hol⟩
    · rw [e] at hi; simp at hi
    rw [top_slice e1] at k0
    cases k0
    have hg : xs.getD i t.dflt = xs[i] := by rw [List.getD, List.getElem?_eq_getElem hi]; rfl
    rw [List.drop_eq_getElem_cons hi] at hol
    obtain ⟨L1, L2, e6, hle, hot, hol2⟩ := hol
    subst e6
    rw [← hg] at hot
    rw [List.drop_drop] at hot hol2
    have hown := h.own c _ hc
    rw [e5] at hown
    have hnd := List.nodup_cons.1 hown.1
    have hnd2 := List.nodup_append.1 hnd.2
    have hL : (b :: L2).Nodup := List.nodup_cons.2 ⟨fun hm => hnd.1 (by simp [hm]), hnd2.2.1⟩
    have g1 := h.obj (o' := .tl t xs (i + 1)) (w' := w) (L := b :: L2) hc (fun _ _ _ => rfl) (Nat.le_refl _) h.below (fun _ x => x) (fun _ hb => .inl hb) hL (fun x hx => by
        rw [e5]
        rcases List.mem_cons.1 hx with hx | hx
        · simp [hx]
        · simp [hx])
      (.inr ⟨b, f0, cap, cur, F, L2, e1, e2, e3, e4, rfl, by rw [Nat.add_mul, Nat.one_mul]; rw [List.drop_drop] at hol2 ⊢; first | exact hol2 | (rw [← Nat.add_assoc] ; exact hol2)⟩)
    have hlb : ∀ x ∈ L1, x ∈ bl c := fun x hx => by rw [e5]; simp [hx]
    obtain ⟨hd', bl', j1, j2, _⟩ := dig_ok t (dst := d) (j := 0) (x := xs.getD i t.dflt) (L := L1) (M := []) g1 hot (by simpa using hnd2.1) (fun x hx => (h.own c _ hc).2 x (hlb x (by simpa using hx))) (fun k p hp x hx hm => by
        have hm : x ∈ L1 := by simpa using hm
        by_cases q : k = c
        · subst q
          simp only [if_true] at hx
          rcases List.mem_cons.1 hx with hx | hx
          · exact hnd.1 (by rw [← hx]; simp [hm])
          · exact hnd2.2.2 x hm x hx rfl
        · simp only [q, if_false] at hx
          have hp' : obGet σ.ob k = some p := by
            have hp2 : obGet (obPut σ.ob c (.tl t xs (i + 1))) k = some p := hp
            rw [obGet_put, if_neg (Ne.symm q)] at hp2
            exact hp2
          exact h.apart k p c _ hp' hc q x hx (hlb x hm)) (by rw [Nat.zero_add]; exact blt_lt q4)
    have hl := hot.sz
    exact .inl ⟨_, _, _, hd', bl', run_load_at (drop_at e2 (f0 + i * t.sz) t.sz) hi0 (by rw [hl]; exact hsz) hagg (fun e => by rw [hl]; exact hag1 e), j1, ofCells_AVR j2, hn3⟩
  · exact .inr hn

theorem set_same : ∀ {l : List Value} {i : Nat} {u : Value}, l[i]? = some u → l.set i u = l
  | [], i, u, h => by simp at h
  | x :: l, 0, u, h => by simp at h; subst h; rfl
  | x :: l, i + 1, u, h => by rw [List.set_cons_succ, set_same (by simpa using h)]
theorem drop_two {α : Type} (A : List α) (p q : Nat) : A.drop (p + q) = (A.drop p).drop q := by rw [List.drop_drop]
/-- What is killed, one by one, as one telling. -/
def rnKillAll (l : List Nat) : Rn := ⟨fun d => bif hasB d l then .dead else .own d, fun d o => bif hasB d l then .cv .dead else .adr d o, fun d n i o => bif hasB d l then .cv .dead else .el d n i o⟩
theorem killAll_hol {c : Nat} {t : Ty} {xs : List t.den} {i : Nat} : ∀ {ks : List Nat} {σ : St} {l : List CV}, obGet σ.ob c = some (.hol t xs i l) → c ∉ ks → obGet (σ.killAll ks).ob c = some (.hol t xs i (l.map (CV.map (rnKillAll ks))))
  | [], σ, l, h, hn => by
    have : l.map (CV.map (rnKillAll [])) = l := by
      have e : l.map (CV.map (rnKillAll [])) = l.map id := List.map_congr_left fun v _ => by cases v <;> rfl
      rw [e, List.map_id]
    rw [this]; exact h
  | k :: ks, σ, l, h, hn => by
    have h1 : obGet (σ.kill k).ob c = some (.hol t xs i (l.map (CV.map (rnKill k)))) := kill_get (fun e => hn (by simp [e])) h
    have h2 := killAll_hol (ks := ks) h1 (fun e => hn (by simp [e]))
    have e : (l.map (CV.map (rnKill k))).map (CV.map (rnKillAll ks)) = l.map (CV.map (rnKillAll (k :: ks))) := by
      rw [List.map_map]
      apply List.map_congr_left
      intro v _
      cases v with
      | own d =>
        show CV.map (rnKillAll ks) (bif Nat.beq d k then .dead else .own d) = bif hasB d (k :: ks) then .dead else .own d
        unfold hasB
        rw [show Nat.beq k d = Nat.beq d k by rw [beqN, beqN]; exact decide_eq_decide.2 ⟨Eq.symm, Eq.symm⟩]
        cases Nat.beq d k with
        | true => rfl
        | false => rfl
      | _ => rfl
    rw [e] at h2
    exact h2
theorem settle1_ok (h : SR w0 S0 σ a w) (c : Nat) : SR w0 S0 (σ.settle1 c) a w := by
  unfold St.settle1
  split
  · rename_i t xs i k hc
    split
    · rename_i u ys n hk
      split
      · rename_i ys' hys
        obtain ⟨ee, hee⟩ := as_some hys
        cases ee
        cases hee
        cases hb : Nat.beq c k with
        | true => exact h
        | false =>
          obtain ⟨Im, hd, bl, h⟩ := h
          have hck : c ≠ k := fun e => by rw [e, Nat.beq_refl] at hb; cases hb
          obtain ⟨b, f0, cap, cur, F, u0, k1, k2, k3, k4, k5, k6, k7, k8⟩ := h.fill hck hc hk
          have hu : u0 = hd k := k7
          subst hu
          obtain ⟨bl', hfin⟩ := k8 w (fun _ _ => rfl) (Nat.le_refl _) h.below (by rw [set_same (by rw [List.getElem?_drop] at k6; exact k6)]; exact k2)
          exact ⟨Im, hd, bl', hfin⟩
      · exact h
    · exact h
  · rename_i t xs i l hc
    cases hb : (σ.treeB l && !hasB c (ownsAll l)) with
    | false => exact h
    | true =>
      rw [cond_true]
      rw [Bool.and_eq_true, Bool.not_eq_true'] at hb
      split
      · rename_i y hy
        obtain ⟨Im, hd, bl, h⟩ := h
        obtain ⟨b, f0, cap, cur, F, L1, L2, e1, e2, e3, e4, e5, e6, e7, e8, e9⟩ := h.objs c _ hc
        have ht := hb.1
        rw [treeB_eq, Bool.and_eq_true] at ht
        have hnd := nodupB_iff.1 ht.1
        have hnc : c ∉ ownsAll l := fun hm => by have := hasB_mem.2 hm; rw [hb.2] at this; cases this
        have hot := impl_tree h ht.2 hy e9
        have hg := killAll_ok h (ownsAll l)
        have hMn := tree_nodup h hnd ht.2
        have hgc : obGet (σ.killAll (ownsAll l)).ob c = some (.hol t xs i (l.map (CV.map (rnKillAll (ownsAll l))))) := killAll_hol hc hnc
        have hown := h.own c _ hc
        rw [e6] at hown
        have hnd1 := List.nodup_cons.1 hown.1
        have hnd2 := List.nodup_append.1 hnd1.2
        have hap : ∀ x ∈ l.flatMap (blk bl), x ∉ b :: (L1 ++ L2) := fun x hx hm => by
          obtain ⟨k, hk, hb2⟩ := tree_mem hx
          obtain ⟨o', hgk, _⟩ := tree_row ht.2 k hk
          exact h.apart k _ c _ hgk hc (fun e => hnc (e ▸ hk)) x hb2 (by rw [e6]; exact hm)
        have hlen : (((cur.toList.drop f0).drop (i * t.sz)).take t.sz).length = t.sz := hot.sz
        have hol : OL t.sz (OT w t) (xs.set i y) (cur.toList.drop f0) (L1 ++ (l.flatMap (blk bl) ++ L2)) := by
          have e : cur.toList.drop f0 = (cur.toList.drop f0).take (i * t.sz) ++ (((cur.toList.drop f0).drop (i * t.sz)).take t.sz ++ (cur.toList.drop f0).drop (i * t.sz + t.sz)) := by
            have h2 := drop_two (cur.toList.drop f0) (i * t.sz) t.sz
            rw [h2, List.take_append_drop, List.take_append_drop]
          have hA : i * t.sz ≤ (cur.toList.drop f0).length := by
            have hsp := t.sz_pos
            rw [List.length_take, List.length_drop] at hlen
            omega
          rw [e, List.set_eq_take_append_cons_drop, if_pos e5]
          refine OL.append e7 (by rw [List.length_take, List.length_take, Nat.min_eq_left hA, Nat.min_eq_left (by omega)]) ⟨_, _, rfl, by rw [List.length_append]; omega, ?_, ?_⟩
          · rw [List.take_append_of_le_length (by omega), List.take_of_length_le (by omega)]; exact hot
          · have hd0 : (((cur.toList.drop f0).drop (i * t.sz)).take t.sz).drop t.sz = [] := List.drop_of_length_le (by omega)
            rw [List.drop_append_of_le_length (by omega), hd0, List.nil_append]; exact e8
        refine ⟨Im, hd, _, hg.obj2 (L := b :: (L1 ++ (l.flatMap (blk bl) ++ L2))) (M := l.flatMap (blk bl)) (o' := .row t (xs.set i y) true false) hgc (fun _ _ _ => rfl) (Nat.le_refl _) hg.below ?_ ?_ ?_ ?_ ?_⟩
        · refine List.nodup_cons.2 ⟨fun hm => ?_, List.nodup_append.2 ⟨hnd2.1, List.nodup_append.2 ⟨hMn, hnd2.2.1, fun x hx z hz e => hap x hx (by rw [e]; simp [hz])⟩, fun x hx z hz e => ?_⟩⟩
          · simp only [List.mem_append] at hm
            rcases hm with hm | hm | hm
            · exact hnd1.1 (by simp [hm])
            · exact hap b hm (by simp)
            · exact hnd1.1 (by simp [hm])
          · rcases List.mem_append.1 hz with hz | hz
            · exact hap z hz (by rw [← e]; simp [hx])
            · exact hnd2.2.2 x hx z hz e
        · intro x hx
          rw [e6]
          simp only [List.mem_cons, List.mem_append] at hx ⊢
          rcases hx with hx | hx | hx | hx
          · exact .inl (.inl hx)
          · exact .inl (.inr (.inl hx))
          · exact .inr hx
          · exact .inl (.inr (.inr hx))
        · intro x hx
          obtain ⟨k, hk, hb2⟩ := tree_mem hx
          obtain ⟨o', hgk, _⟩ := tree_row ht.2 k hk
          exact (h.own k _ hgk).2 x hb2
        · intro k p hp x hx hm
          obtain ⟨hnot, o, ho⟩ := killAll_get hp
          obtain ⟨k', hk', hb2⟩ := tree_mem hm
          obtain ⟨o', hgk, _⟩ := tree_row ht.2 k' hk'
          exact h.apart k o k' _ ho hgk (fun e => hnot (e ▸ hk')) x hx hb2
        · exact ⟨.inr ⟨b, f0, cap, cur, F, _, by rw [List.length_set]; exact e1, e2, e3, by rw [List.length_set]; exact e4, rfl, hol⟩, fun e => by cases e⟩
      · exact h
  · exact h
theorem homeFor_ok (h : SR w0 S0 σ a w) (x : AV) : SR w0 S0 (σ.homeFor x) a w := by
  unfold St.homeFor
  split
  · rename_i c
    cases (Nat.ble 420000 c && Nat.blt c 430000) with
    | true => exact settle1_ok h c
    | false => exact h
  · exact h
/-! ### maps of texts -/
theorem beqBA {a b : ByteArray} (h : (a == b) = true) : a = b := by
  cases a with
  | mk x => cases b with
    | mk y =>
      have h' : (x == y) = true := h
      rw [eq_of_beq h']
theorem beqBA_self (a : ByteArray) : (a == a) = true := by
  cases a with
  | mk x => exact (beq_self_eq_true x : (x == x) = true)
theorem run_checkKey {kt : Nat} {s : ByteArray} (hk : P.underlying kt = some .string) (e : Bool) (w : World) : (Instr.checkKey e 10000 kt (.string s)).run P w = .ok () w := by
  show (Instr.checkKey e (9999 + 1) kt (.string s)).run P w = _
  unfold Instr.checkKey
  simp [run_underlying hk]
theorem findNow_set (s : ByteArray) : ∀ (es : List MapEntry) (l : List ByteArray) (i : Nat), es.map (fun e => (e.key, e.val)) = l.map (fun x => (Value.string x, Value.bool true)) →
    (mpHas l s = true → ∃ j e, Instr.findNow .string (.string s) es i = some (some (i + j, .bool true)) ∧ es[j]? = some e ∧ e.key = .string s ∧ e.val = .bool true) ∧ (mpHas l s = false → Instr.findNow .string (.string s) es i = some none)
  | [], [], i, _ => ⟨fun h => by simp [mpHas] at h, fun _ => rfl⟩
  | [], _ :: _, i, h => by cases h
  | _ :: _, [], i, h => by cases h
  | e :: es, x :: l, i, h => by
    rw [List.map_cons, List.map_cons, List.cons.injEq, Prod.mk.injEq] at h
    obtain ⟨⟨h1, h2⟩, h3⟩ := h
    obtain ⟨ih1, ih2⟩ := findNow_set s es l (i + 1) h3
    have hs : Instr.sameNow .string (.string s) e.key = some (s == x) := by rw [h1]; rfl
    unfold mpHas at ih1 ih2 ⊢
    rw [List.any_cons]
    unfold Instr.findNow
    rw [hs]
    cases hb : s == x with
    | true =>
      have hsx : s = x := beqBA hb
      exact ⟨fun _ => ⟨0, e, by simp [h2], rfl, by rw [h1, hsx], h2⟩, fun h => by simp at h⟩
    | false =>
      refine ⟨fun h => ?_, fun h => ih2 (by simpa using h)⟩
      obtain ⟨j, e', g1, g2, g3, g4⟩ := ih1 (by simpa using h)
      exact ⟨j + 1, e', by show Instr.findNow .string (.string s) es (i + 1) = _; rw [g1, Nat.add_assoc, Nat.add_comm 1 j], by simpa using g2, g3, g4⟩

def setOb (w : World) (b : Nat) (o : Obj) : World := { w with heap := w.heap.setIfInBounds b o }
theorem run_getMap {b : Nat} {es : Array MapEntry} {ck : Nat} (hb : w.heap[b]? = some (.map es ck)) : (getObj b).run P w = .ok (.map es ck) w := by simp [getObj, Sem.run, hb]
theorem run_setMap {b : Nat} {es : Array MapEntry} {ck : Nat} (o : Obj) (hb : w.heap[b]? = some (.map es ck)) : (setObj b o).run P w = .ok () (setOb w b o) := by simp [setObj, Sem.run, hb, setOb]
theorem putObj_other {b k : Nat} {o : Obj} (hk : k ≠ b) : (setOb w b o).heap[k]? = w.heap[k]? := by
  unfold setOb
  simp [Array.getElem?_setIfInBounds, Ne.symm hk]
theorem putObj_size {b : Nat} {o : Obj} : (setOb w b o).heap.size = w.heap.size := by simp [setOb]
theorem putObj_new {b : Nat} {o p : Obj} (hb : w.heap[b]? = some p) : (setOb w b o).heap[b]? = some o := by
  have hl : b < w.heap.size := by
    rcases Nat.lt_or_ge b w.heap.size with h | h
    · exact h
    · rw [Array.getElem?_eq_none h] at hb; cases hb
  unfold setOb
  simp [Array.getElem?_setIfInBounds, hl]

theorem aLookup_ok {E : Env} (hE : ∀ T ti, E.ty T = some ti → TyOk P T ti) (h : SRi w0 S0 σ a w Im hd bl) {T : Nat} {x k : AV} {vx vk : Value} (hx : AVR w Im hd vx x) (hk : AVR w Im hd vk k)
    {next : AV → Option ρ} {r : ρ} (hn : aLookup E σ T x k next = some r) : ∃ u av, (Instr.lookup T vx vk false).run P w = .ok u w ∧ AVR w Im hd u av ∧ next av = some r := by
  unfold aLookup at hn
  have look : ∀ (b : Nat) (es : Array MapEntry) (ck : Nat) (l : List ByteArray) (s : ByteArray) (kt et : Nat) (i : TypeInfo), P.underlying T = some (.map kt et) → P.underlying kt = some .string → P.info? et = some i → i.zero = some (.bool false) →
      w.heap[b]? = some (.map es ck) → es.toList.map (fun e => (e.key, e.val)) = (l.map fun s => (Value.string s, Value.bool true)) → (Instr.lookup T (.map (some b)) (.string s) false).run P w = .ok (.bool (mpHas l s)) w := by
    intro b es ck l s kt et i h1 h2 h3 h4 e2 e4
    obtain ⟨f1, f2⟩ := findNow_set s es.toList l 0 e4
    cases hm : mpHas l s with
    | true =>
      obtain ⟨j, e, g1, _, _, _⟩ := f1 hm
      unfold Instr.lookup
      simp only [Sem.run_bind, run_underlying h1, Result.andThen_ok, run_getMap e2, Sem.run_pure, run_checkKey h2, Instr.findKey, run_underlying h2, g1]
      rfl
    | false =>
      unfold Instr.lookup
      simp only [Sem.run_bind, run_underlying h1, Result.andThen_ok, run_getMap e2, Sem.run_pure, run_checkKey h2, Instr.findKey, run_underlying h2, f2 hm, run_zero h3 h4]
      rfl
  split at hn
  · rename_i c s hT
    split at hn
    · rename_i l hc
      obtain ⟨d0, hu, ⟨kt, et, i, rfl, h2, h3, h4⟩, _⟩ := hE T _ hT
      obtain ⟨b, e1, e3, es, ck, e2, e4⟩ := h.objs c _ hc
      have ev : vx = .map (some b) := (show vx = hd c from hx).trans e1
      have ek : vk = .string s := str_of hk
      subst ev; subst ek
      exact ⟨_, _, look b es ck l s kt et i hu h2 h3 h4 e2 e4, bvr, hn⟩
    · cases hn
  · rename_i x s hT
    obtain ⟨d0, hu, ⟨kt, et, i, rfl, h2, h3, h4⟩, _⟩ := hE T _ hT
    have ek : vk = .string s := str_of hk
    subst ek
    obtain ⟨v, L, e, hL, hr⟩ := (show VR w Im .set x [vx] from hx)
    obtain rfl : vx = v := by simpa using e
    cases x with
    | none =>
      obtain ⟨rfl, _⟩ := hr
      refine ⟨.bool false, _, ?_, bvr, hn⟩
      unfold Instr.lookup
      simp only [Sem.run_bind, run_underlying hu, Result.andThen_ok, Sem.run_pure, run_checkKey h2, Instr.findKey, run_underlying h2, Instr.findNow, run_zero h3 h4]
      rfl
    | some l =>
      obtain ⟨b, rfl, _, es, ck, e2, e4⟩ := hr
      exact ⟨_, _, look b es ck l s kt et i hu h2 h3 h4 e2 e4, bvr, hn⟩
  · cases hn

theorem modify_same {f : MapEntry → MapEntry} : ∀ {es : List MapEntry} {j : Nat} {e : MapEntry}, es[j]? = some e → (fun e : MapEntry => (e.key, e.val)) (f e) = (e.key, e.val) → (es.modify j f).map (fun e => (e.key, e.val)) = es.map fun e => (e.key, e.val)
  | [], j, e, h, _ => by simp at h
  | x :: es, 0, e, h, hf => by
    simp at h; subst h
    simp [List.modify_cons] at hf ⊢
    exact hf
  | x :: es, j + 1, e, h, hf => by
    rw [List.modify_succ_cons, List.map_cons, List.map_cons, modify_same (by simpa using h) hf]

theorem aMapSet_ok {E : Env} (hE : ∀ T ti, E.ty T = some ti → TyOk P T ti) (h : SRi w0 S0 σ a w Im hd bl) {T : Nat} {x k v : AV} {vx vk vv : Value} (hx : AVR w Im hd vx x) (hk : AVR w Im hd vk k) (hv : AVR w Im hd vv v)
    {next : St → Option ρ} {r : ρ} (hn : aMapSet E σ T x k v next = some r) : ∃ w' τ bl', (Instr.mapUpdate T vx vk vv).run P w = .ok () w' ∧ SRi w0 S0 τ a w' Im hd bl' ∧ next τ = some r := by
  unfold aMapSet at hn
  split at hn
  · rename_i c s bb hT
    obtain ⟨hbb, hn⟩ := chk_some hn
    subst hbb
    split at hn
    · rename_i l hc
      obtain ⟨d0, h1, ⟨kt, et, i, rfl, h2, h3, h4⟩, _⟩ := hE T _ hT
      obtain ⟨b, e1, e3, es, ck, e2, e4⟩ := h.objs c _ hc
      have ev : vx = .map (some b) := (show vx = hd c from hx).trans e1
      have ek : vk = .string s := str_of hk
      have evv : vv = .bool true := bool_of hv
      subst ev; subst ek; subst evv
      obtain ⟨f1, f2⟩ := findNow_set s es.toList l 0 e4
      have hmine := ((h.own c _ hc).2 b (by rw [e3]; simp)).1
      have done : ∀ (es' : Array MapEntry) (ck' : Nat) (l' : List ByteArray), es'.toList.map (fun e => (e.key, e.val)) = l'.map (fun s => (Value.string s, Value.bool true)) →
          ∃ bl', SRi w0 S0 { σ with ob := obPut σ.ob c (.mp l') } a (setOb w b (.map es' ck')) Im hd bl' := by
        intro es' ck' l' he
        refine ⟨_, h.obj (L := [b]) hc (fun y _ hy => putObj_other (fun e => hy (by rw [e3, e]; simp))) (by rw [putObj_size]; exact Nat.le_refl _)
          ⟨h.below.os, h.below.tape, h.below.output, by rw [putObj_size]; exact h.below.size, fun y hy hn => by rw [putObj_other (fun e => hn (by subst e; exact hmine))]; exact h.below.block y hy hn, h.below.drawn⟩
          (fun _ x => x) (fun b hb => .inl hb) (by simp) (fun y hy => by rw [e3]; exact hy) ⟨b, e1, rfl, es', ck', putObj_new e2, he⟩⟩
      cases hm : mpHas l s with
      | true =>
        rw [hm, cond_true] at hn
        obtain ⟨j, e, g1, g2, g3, g4⟩ := f1 hm
        rw [Nat.zero_add] at g1
        have hge : (es[j]?).map (·.key) = some (.string s) := by rw [← Array.getElem?_toList, g2]; simp [g3]
        have hkt : (Instr.keyThatStays (((es[j]?).map (·.key)).getD (.string s)) (.string s)).run P w = .ok (.string s) w := by
          rw [hge]
          simp [Instr.keyThatStays, Instr.sameBits, beqBA_self]
        obtain ⟨bl', d1⟩ := done (es.modify j fun e => { e with key := .string s, val := .bool true }) ck l (by rw [Array.toList_modify, modify_same g2 (by rw [g3, g4])]; exact e4)
        refine ⟨_, _, bl', ?_, d1, hn⟩
        unfold Instr.mapUpdate
        simp only [run_underlying h1, Sem.run_bind, Result.andThen_ok, run_getMap e2, run_checkKey h2, run_underlying h2, Instr.findKey, g1, Sem.run_pure, hkt, run_setMap _ e2]
      | false =>
        rw [hm, cond_false] at hn
        obtain ⟨bl', d1⟩ := done (es.push { key := .string s, val := .bool true, born := ck }) (ck + 1) (l ++ [s]) (by rw [Array.toList_push, List.map_append, e4, List.map_append]; rfl)
        refine ⟨_, _, bl', ?_, d1, hn⟩
        unfold Instr.mapUpdate
        simp only [run_underlying h1, Sem.run_bind, Result.andThen_ok, run_getMap e2, run_checkKey h2, run_underlying h2, Instr.findKey, f2 hm, Sem.run_pure, run_setMap _ e2]
    · cases hn
  · cases hn

theorem nilC_eq {y : Operand} (h : nilC y = true) : y = .const .nilIface := by
  unfold nilC at h
  split at h
  · rfl
  · cases h
theorem errnil_run' {T : Nat} {ms : Array (String × TypeId)} (hu : P.underlying T = some (.interface ms)) (v : Value) (b : Bool) (hv : ErrV v b) (w : World) (d : Nat) : (Op.equalIn (d + 1) T v .nilIface).run P w = .ok b w := by
  cases v <;> simp [ErrV] at hv
  · subst hv; simp [Op.equalIn, run_underlying hu]
  · subst hv; simp [Op.equalIn, run_underlying hu]
theorem errnil_run {T : Nat} {ms : Array (String × TypeId)} (hu : P.underlying T = some (.interface ms)) (v : Value) (b : Bool) (hv : ErrV v b) (w : World) : (Op.equal T v .nilIface).run P w = .ok b w := errnil_run' hu v b hv w 9999
theorem errGuard (op : BinOp) (T : Nat) (X : Operand) (v : Value) (b : Bool) (hv : ErrV v b) : eqGuard op T X (.const .nilIface) v .nilIface = pure () := by
  cases v <;> simp [ErrV] at hv <;> cases op <;> simp [eqGuard]
theorem aErrNil_ok {E : Env} (hE : ∀ T ti, E.ty T = some ti → TyOk P T ti) {op : BinOp} {T : Nat} {X Y : Operand} (hY : nilC Y = true) {x : AV} {vx : Value} (hx : AVR w Im hd vx x) {next : AV → Option ρ} {r : ρ} (hn : aErrNil E op T x next = some r) :
    ∃ u av, (do eqGuard op T X Y vx (a.eval Y); Go.binOp op T vx (a.eval Y) : Sem Value).run P w = .ok u w ∧ AVR w Im hd u av ∧ next av = some r := by
  obtain rfl := nilC_eq hY
  unfold aErrNil at hn
  split at hn
  · rename_i b hT
    obtain ⟨d, hu, ⟨ms, rfl⟩, _⟩ := hE T _ hT
    obtain ⟨v, e, hv⟩ := (show VR w Im .err b [vx] from hx)
    obtain rfl : vx = v := by simpa using e
    refine ⟨.bool b, _, ?_, bvr, hn⟩
    show (do eqGuard .eql T X (.const .nilIface) vx .nilIface; Go.binOp .eql T vx .nilIface : Sem Value).run P w = _
    rw [errGuard _ _ _ _ _ hv]
    cases vx <;> simp [ErrV] at hv
    · subst hv; simp [Go.binOp, errnil_run hu (.iface _ _) false rfl]
    · subst hv; simp [Go.binOp, errnil_run hu .nilIface true rfl]
  · rename_i b hT
    obtain ⟨d, hu, ⟨ms, rfl⟩, _⟩ := hE T _ hT
    obtain ⟨v, e, hv⟩ := (show VR w Im .err b [vx] from hx)
    obtain rfl : vx = v := by simpa using e
    refine ⟨.bool (!b), _, ?_, bvr, hn⟩
    show (do eqGuard .neq T X (.const .nilIface) vx .nilIface; Go.binOp .neq T vx .nilIface : Sem Value).run P w = _
    rw [errGuard _ _ _ _ _ hv]
    cases vx <;> simp [ErrV] at hv
    · subst hv; simp [Go.binOp, errnil_run hu (.iface _ _) false rfl]
    · subst hv; simp [Go.binOp, errnil_run hu .nilIface true rfl]
  · cases hn
theorem aOp_ok {E : Env} (hE : ∀ T ti, E.ty T = some ti → TyOk P T ti) {ck : (fi : Fi) → Aden fi.ps → Option (Oden (flatRs fi.rs) (ioOf fi.ps))} (hG : ∀ f ids fi, E.fn f ids = some fi → ∀ x y, ck fi x = some y → Gives P gw f fi x y)
    (h : SRi w0 S0 σ a w Im hd bl) {o : Oper} {next : St → Option ρ} {r : ρ} (hn : aOp E σ ck o next = some r) : o.wp P a w (Goes w0 S0 next r) Q := by
  unfold aOp at hn
  cases ho : o.op with
  | move x =>
    rw [ho] at hn
    exact goes_put h (h.ev x) (by simp [execOp, ho]) hn
  | assign x =>
    rw [ho] at hn
    exact goes_put h (h.ev x) (by simp [execOp, ho]) hn
  | pick c x y =>
    rw [ho] at hn
    dsimp only at hn
    split at hn
    · rename_i b hb
      have hc := h.ev c
      rw [hb] at hc
      have ec := bool_of hc
      cases b with
      | true => exact goes_put h (h.ev x) (by simp [execOp, ho, ec, asBool]) hn
      | false => exact goes_put h (h.ev y) (by simp [execOp, ho, ec, asBool]) hn
    · cases hn
  | alloc T =>
    rw [ho] at hn
    obtain ⟨d, hd1, hd2, hd5, hn⟩ := dst_some hn
    rw [hd2] at hn
    exact aAlloc_ok hE h ho hd1 hd5 hn
  | box T x =>
    rw [ho] at hn
    obtain ⟨d, hd1, hd2, hd5, hn⟩ := dst_some hn
    rw [hd2] at hn
    exact aBox_ok (E := E) h ho hd1 hd5 hn
  | build T ps =>
    rw [ho] at hn
    dsimp only at hn
    split at hn
    · rename_i fs ks eq hT
      split at hn
      · rename_i av hb
        obtain ⟨v, h1, h2⟩ := aBuild_ok hE h hT hb
        exact goes_put h h2 (by simp [execOp, ho, h1]) hn
      · cases hn
    · cases hn
  | buildSlice T n ps =>
    rw [ho] at hn
    obtain ⟨d, hd1, hd2, hd5, hn⟩ := dst_some hn
    rw [hd2] at hn
    exact aBuildSlice_ok hE h ho hd1 hd5 hn
  | load T x =>
    rw [ho] at hn
    dsimp only at hn
    have old : (aLoad E σ T (σ.ev x) fun τ v => next (τ.put o.dst v)) = some r → o.wp P a w (Goes w0 S0 next r) Q := fun hn => by
      obtain ⟨u, τ, av, Im', bl', h1, h2, h3, h4⟩ := aLoad_ok hE h (h.ev x) hn
      exact wp_value (by simp [execOp, ho, h1]) ⟨_, h4, Im', hd, bl', h2.put o.dst h3⟩
    unfold aTake at hn
    split at hn
    · rename_i d c m i o' hd1 he
      cases hfl : Env.flag E (cutKey T d) with
      | true =>
        rw [hfl, cond_true] at hn
        have hx := h.ev x
        rw [he] at hx
        rcases aEat_ok hE h hx hn with ⟨u, τ, av, hd', bl', h1, h2, h3, h4⟩ | hn
        · refine wp_value (v := u) (w' := w) (by simp [execOp, ho, h1]) ⟨_, h4, Im, hd', bl', ?_⟩
          rw [hd1]
          exact h2.put (some d) h3
        · exact old hn
      | false =>
      rw [hfl, cond_false] at hn
      split at hn
      · rename_i t xs cn n agg hc hT
        cases hb : takesB c with
        | false => rw [hb, cond_false] at hn; exact old hn
        | true =>
          rw [hb, cond_true] at hn
          obtain ⟨h1, hn1⟩ := chk_some hn
          obtain ⟨h2, hn2⟩ := chk_some hn1
          clear hn hn1
          simp only [Bool.and_eq_true, Bool.not_eq_true'] at h1
          obtain ⟨⟨⟨⟨⟨q1, q2⟩, q3⟩, q4⟩, q5⟩, q6⟩ := h1
          obtain rfl := Nat.eq_of_beq_eq_true q1
          obtain rfl := Nat.eq_of_beq_eq_true q2
          obtain rfl := Nat.eq_of_beq_eq_true q3
          subst q4
          have hcd : c ≠ d := fun e => by rw [e, Nat.beq_refl] at q5; cases q5
          have hi := of_decide_eq_true h2
          obtain ⟨⟨i0, hi0, hsz⟩, hagg, _⟩ := size_ok hE hT
          have hx := h.ev x
          rw [he] at hx
          obtain ⟨b2, f2, k0, hv⟩ := hx
          obtain ⟨b, f0, cap, cur, F, u, k1, k2, k3, k4, hd', bl', k5, k6⟩ := h.dig_ hc hcd (blt_lt q6) hi
          rw [top_slice k1] at k0; cases k0
          have hat : At w b2 (f2 + i * 1 + 0) [u] := by
            have h3 := drop_at k2 (f2 + i * 1 + 0) 1
            rw [Nat.mul_one, Nat.add_zero] at h3 ⊢
            rw [← List.drop_drop, take_one_at k3] at h3
            exact h3
          have hrun : (Instr.loadAt T (a.eval x)).run P w = .ok u w := by rw [hv]; exact run_load_at (P := P) hat hi0 hsz hagg (fun _ => rfl)
          refine wp_value (v := u) (w' := w) (by simp [execOp, ho, hrun]) ⟨_, hn2, Im, hd', bl', ?_⟩
          rw [hd1]
          exact k5.put (some d) (av := .cv (.own d)) (show u = hd' d from k6.symm)
      · rename_i p q xs cn n agg hc hT
        cases hb : takesB c with
        | false => rw [hb, cond_false] at hn; exact old hn
        | true =>
          rw [hb, cond_true] at hn
          obtain ⟨h1, hn1⟩ := chk_some hn
          obtain ⟨h2, hn2⟩ := chk_some hn1
          clear hn hn1
          simp only [Bool.and_eq_true] at h1
          obtain ⟨⟨q1, q2⟩, q3⟩ := h1
          obtain rfl := Nat.eq_of_beq_eq_true q1
          have q2 := Nat.le_of_ble_eq_true q2
          have hi := of_decide_eq_true h2
          obtain ⟨⟨i0, hi0, hsz⟩, hagg, hag1⟩ := size_ok hE hT
          have hx := h.ev x
          rw [he] at hx
          obtain ⟨b2, f2, k0, hv⟩ := hx
          obtain ⟨b, f0, cap, cur, F, cs, k1, k2, k3, k4, hd', bl', k5, k6⟩ := h.digS_ hc (Nat.le_of_ble_eq_true hb) (by simpa [Nat.blt_eq] using q3) hi
          rw [top_slice k1] at k0; cases k0
          have hl : ((cs.drop o').take n).length = n := by rw [List.length_take, List.length_drop, k4]; omega
          have hat : At w b2 (f2 + i * (Ty.pair p q).sz + o') ((cs.drop o').take n) := fun j u hj => by
            rw [List.getElem?_take] at hj
            split at hj
            · rw [List.getElem?_drop, k3] at hj
              have := drop_at k2 (f2 + i * (Ty.pair p q).sz) (Ty.pair p q).sz (o' + j) u hj
              rwa [← Nat.add_assoc] at this
            · cases hj
          have hrun := run_load_at (P := P) hat hi0 (by rw [hl]; exact hsz) hagg (fun e => by rw [hl]; exact hag1 e)
          rw [← hv] at hrun
          refine wp_value (v := cellsVal agg ((cs.drop o').take n)) (w' := w) (by simp [execOp, ho, hrun]) ⟨_, hn2, Im, hd', bl', ?_⟩
          rw [hd1]
          exact k5.put (some d) (ofCells_AVR ((k6.drop o').take n))
      · exact old hn
    · exact old hn
  | store T x v =>
    rw [ho] at hn
    obtain ⟨w', h1, τ, h2, Im', hd', bl', h3⟩ := aStore_ok hE h (h.ev x) (h.ev v) hn
    exact wp_skip_ (w' := w') (by simp [execOp, ho, h1]) ⟨_, h2, Im', hd', bl', h3.put o.dst (av := .cv .dead) trivial⟩
  | nilCheck x =>
    rw [ho] at hn
    dsimp only at hn
    have hx := h.ev x
    split at hn
    · rename_i c o' he
      rw [he] at hx
      obtain ⟨b, e1, e2⟩ := hx
      exact goes_put h (av := .adr c o') ⟨b, e1, rfl⟩ (by simp [execOp, ho, e2]) hn
    · rename_i c n i o' he
      rw [he] at hx
      obtain ⟨b, f1, e1, e2⟩ := hx
      exact goes_put h (av := .el c n i o') ⟨b, f1, e1, rfl⟩ (by simp [execOp, ho, e2]) hn
    · rename_i l he
      rw [he] at hx
      have hx' := hx
      obtain ⟨pl, b, o', vs, hb, e2, _⟩ := hx
      exact goes_put h hx' (by simp [execOp, ho, e2]) hn
    · rename_i f l he
      rw [he] at hx
      have hx' := hx
      obtain ⟨ps, e1, _⟩ := hx
      exact goes_put h hx' (by simp [execOp, ho, e1]) hn
    · cases hn
  | binOp op T x y U =>
    rw [ho] at hn
    obtain ⟨v, av, h1, h2, h3⟩ : ∃ u av, (do eqGuard op T x y (a.eval x) (a.eval y); Go.binOp op T (a.eval x) (a.eval y) : Sem Value).run P w = .ok u w ∧ AVR w Im hd u av ∧ next (σ.put o.dst av) = some r := by
      dsimp only at hn
      cases hc : nilC y with
      | true =>
        rw [hc, cond_true] at hn
        obtain ⟨u, av, h1, h2, h3⟩ := aErrNil_ok hE hc (h.ev x) hn
        exact ⟨u, av, h1, h2, h3⟩
      | false =>
        rw [hc, cond_false] at hn
        exact aBin_ok hE h (X := x) (Y := y) (h.ev x) (h.ev y) hn
    refine goes_put h h2 ?_ h3
    have e : execOp a.eval o = (do let u ← (do eqGuard op T x y (a.eval x) (a.eval y); Go.binOp op T (a.eval x) (a.eval y) : Sem Value); pure (Next.value u)) := by unfold execOp; rw [ho]
    rw [e, Sem.run_bind, h1]
    rfl
  | unOp op T x =>
    rw [ho] at hn
    dsimp only at hn
    split at hn
    · rename_i av hav
      obtain ⟨u, h1, h2⟩ := aUn_ok (P := P) (h.ev x) hav
      exact goes_put h h2 (by simp [execOp, ho, h1]) hn
    · cases hn
  | convert S D x =>
    rw [ho] at hn
    obtain ⟨u, av, h1, h2, h3⟩ := aConv_ok hE h (h.ev x) hn
    exact goes_put h h2 (by simp [execOp, ho, h1]) h3
  | makeFunc fn first caps =>
    rw [ho] at hn
    cases fn with
    | func f =>
      obtain ⟨h1, hnn⟩ := chk_some hn
      clear hn
      have hn := hnn
      clear hnn
      have hfirst : first = #[] := by simpa using h1
      subst hfirst
      split at hn
      · rename_i τ l hc
        obtain ⟨Im', g1, g2, g3⟩ := capture_ok h hc
        refine wp_value (v := .func (.func f) #[] (caps.map a.eval)) (w' := w) (by simp [execOp, ho, Instr.makeFunc]) ⟨_, hn, Im', hd, bl, g1.put o.dst ?_⟩
        exact ⟨caps.toList.map a.eval, by congr 1; apply Array.ext'; simp, g3⟩
      · cases hn
    | _ => cases hn
  | makeSlice T n c =>
    rw [ho] at hn
    obtain ⟨d, hd1, hd2, hd5, hn⟩ := dst_some hn
    rw [hd2] at hn
    exact aMakeSlice_ok hE h ho hd1 hd5 hn
  | slice T x lo hi mx =>
    rw [ho] at hn
    obtain ⟨h1, hn⟩ := chk_some hn
    rw [Bool.and_eq_true] at h1
    obtain ⟨d, hd1⟩ := Option.isSome_iff_exists.1 h1.1
    rw [hd1] at hn
    exact aSlice_ok hE h ho hd1 (by simpa using h1.2) hn
  | fieldAddr T x f =>
    rw [ho] at hn
    dsimp only at hn
    split at hn
    · rename_i off n agg hf
      obtain ⟨h1, hn⟩ := chk_some hn
      have h1' := Nat.le_of_ble_eq_true h1
      have hr := fun b o' => run_fieldAt (P := P) hE hf h1' b o' w
      have hx := h.ev x
      split at hn
      · rename_i c o' he
        rw [he] at hx
        obtain ⟨b, e1, e2⟩ := hx
        exact goes_put h (av := .adr c (o' + off)) ⟨b, e1, rfl⟩ (by simp [execOp, ho, e2, hr]) hn
      · rename_i c m i o' he
        rw [he] at hx
        obtain ⟨b, f1, e1, e2⟩ := hx
        exact goes_put h (av := .el c m i (o' + off)) ⟨b, f1, e1, rfl⟩ (by simp [execOp, ho, e2, hr, Nat.add_assoc]) hn
      · rename_i l he
        rw [he] at hx
        obtain ⟨pl, b, o', vs, hb, e2, hat, hcs⟩ := hx
        refine goes_put h (av := .ref (l.drop off)) (v := .pointer (some ⟨b, o' + off, none⟩)) ⟨plain_drop pl off, b, o' + off, vs.drop off, hb, rfl, ?_, hcs.drop off⟩ (by simp [execOp, ho, e2, hr]) hn
        intro j v hj
        rw [List.getElem?_drop] at hj
        have := hat (off + j) v hj
        rwa [← Nat.add_assoc] at this
      · cases hn
    · cases hn
  | field T x f =>
    rw [ho] at hn
    dsimp only at hn
    split at hn
    · rename_i off n agg l hf he
      obtain ⟨h1, hn⟩ := chk_some hn
      have hx := h.ev x
      rw [he] at hx
      obtain ⟨vs, e1, hvs⟩ := hx
      obtain ⟨u, h2, h3⟩ := run_field (P := P) hE hf hvs (Nat.le_of_ble_eq_true h1)
      exact goes_put h h3 (by simp [execOp, ho, e1, h2]) hn
    · cases hn
  | indexAddr T x i =>
    rw [ho] at hn
    dsimp only at hn
    split at hn
    · rename_i z hz
      obtain ⟨k, ek⟩ := aIx_of (h.ev i) hz
      obtain ⟨u, av, h1, h2, h3⟩ := aIndexAddr_ok (k := k) hE h (h.ev x) hn
      exact goes_put h h2 (by simp [execOp, ho, ek, h1]) h3
    · cases hn
  | index T x i =>
    rw [ho] at hn
    dsimp only at hn
    split at hn
    · rename_i z hz
      obtain ⟨k, ek⟩ := aIx_of (h.ev i) hz
      obtain ⟨u, av, h1, h2, h3⟩ := aIndexStr_ok (k := k) hE (h.ev x) hn
      exact goes_put h h2 (by simp [execOp, ho, ek, h1]) h3
    · cases hn
  | extract x i =>
    rw [ho] at hn
    dsimp only at hn
    split at hn
    · rename_i l he
      have hx := h.ev x
      rw [he] at hx
      obtain ⟨vs, e1, hvs⟩ := hx
      split at hn
      · rename_i p hp
        obtain ⟨v, h1, h2⟩ := hvs.get i p hp
        exact goes_put h h2.avr (by simp [execOp, ho, e1, run_extract h1]) hn
      · cases hn
    · cases hn
  | call c =>
    rw [ho] at hn
    dsimp only at hn
    split at hn
    · -- a builtin
      rename_i b hb
      have hop : execOp a.eval o = (do let d ← (pure { target := .builtin b c.argTypes o.type (c.args.map fun | .const _ => true | _ => false), args := c.args.map a.eval } : Sem Deferred); invoke d.target d.args) := by
        unfold execOp; rw [ho]; simp only [resolve, hb]; rfl
      split at hn
      · rename_i x hx
        split at hn
        · rename_i T ts hT
          obtain ⟨u, av, h1, h2, h3⟩ := aLen_ok (ts := ts) (ty := o.type) hE h (h.ev x) hn
          refine goes_put h h2 ?_ h3
          rw [← hT] at h1
          have hm : c.args.map a.eval = #[a.eval x] := by apply Array.ext'; simp [hx]
          rw [hop]
          simp only [Sem.run_bind, Sem.run_pure, Result.andThen_ok, invoke, builtin, hm]
          rw [Array.toArray_toList] at h1
          rw [h1]; rfl
        · cases hn
      · rename_i x hx
        split at hn
        · rename_i hnil
          split at hn
          · rename_i T ts hT
            split at hn
            · rename_i t hTy
              have hv := h.ev x
              rw [hnil] at hv
              have ex : a.eval x = .slice none 0 0 := hv
              obtain ⟨e, hu, _⟩ := kind_slice hE hTy
              refine goes_put h (av := .cv (.val (.int .i64) (0 : Int))) (v := .int .i64 0) ivr ?_ hn
              have hm : c.args.map a.eval = #[a.eval x] := by apply Array.ext'; simp [hx]
              have ha : c.argTypes = (T :: ts).toArray := by apply Array.ext'; simpa using hT
              rw [hop]
              simp only [Sem.run_bind, Sem.run_pure, Result.andThen_ok, invoke, builtin, hm, ha, ex]
              simp [Builtin.cap_, run_underlying hu, goInt]
            · cases hn
          · cases hn
        · cases hn
      · rename_i x y hx
        split at hn
        · rename_i T U hT
          obtain ⟨h0, hnn⟩ := chk_some hn
          clear hn
          have hn := hnn
          clear hnn
          rw [Bool.and_eq_true] at h0
          obtain rfl := Nat.eq_of_beq_eq_true h0.2
          obtain ⟨d, hd1, hd5⟩ := okDst_some h0.1
          rw [hd1] at hn
          obtain ⟨Im0, hd0, bl0, h⟩ := homeFor_ok (⟨Im, hd, bl, h⟩ : SR w0 S0 σ a w) (σ.ev x)
          obtain ⟨v', w', h1, key, τ, h2, Im', hd', bl', h3, h4⟩ := aAppend_ok hE h (h.ev x) (h.ev y) hd5 hn o.type
          have hm : c.args.map a.eval = #[a.eval x, a.eval y] := by apply Array.ext'; simp [hx]
          have ha : c.argTypes = #[T, T] := by apply Array.ext'; simpa using hT
          refine wp_value (v := v') (w' := w') ?_ ⟨_, h2, Im', hd', bl', ?_⟩
          · rw [hop]
            simp only [Sem.run_bind, Sem.run_pure, Result.andThen_ok, invoke, builtin, hm, ha, h1]
          · rw [hd1]; exact h3.put (some d) (av := .cv (.own key)) h4.symm
        · cases hn
      · rename_i l
        split at hn
        · rename_i av hav
          obtain ⟨x', y', k, m, n, hl, e1, e2, rfl⟩ := aMaxMin_ok hav
          match hcl : c.args.toList, hl with
          | [x, y], hl =>
            simp only [List.map_cons, List.map_nil, List.cons.injEq, and_true] at hl
            obtain ⟨rfl, rfl⟩ := hl
            have hx := h.ev x
            have hy := h.ev y
            rw [e1] at hx
            rw [e2] at hy
            have ex := int_of hx
            have ey := int_of hy
            have hm : c.args.map a.eval = #[a.eval x, a.eval y] := by apply Array.ext'; simp [hcl]
            refine goes_put h (av := .cv (.val (.int k) (if n > m then n else m))) (v := .int k (if n > m then n else m)) ivr ?_ (by simpa [cond_eq_ite] using hn)
            rw [hop]
            simp only [Sem.run_bind, Sem.run_pure, Result.andThen_ok, invoke, builtin, hm, ex, ey, run_max_int2]
        · cases hn
      · rename_i l
        split at hn
        · rename_i av hav
          obtain ⟨x', y', k, m, n, hl, e1, e2, rfl⟩ := aMaxMin_ok hav
          match hcl : c.args.toList, hl with
          | [x, y], hl =>
            simp only [List.map_cons, List.map_nil, List.cons.injEq, and_true] at hl
            obtain ⟨rfl, rfl⟩ := hl
            have hx := h.ev x
            have hy := h.ev y
            rw [e1] at hx
            rw [e2] at hy
            have ex := int_of hx
            have ey := int_of hy
            have hm : c.args.map a.eval = #[a.eval x, a.eval y] := by apply Array.ext'; simp [hcl]
            refine goes_put h (av := .cv (.val (.int k) (if n < m then n else m))) (v := .int k (if n < m then n else m)) ivr ?_ (by simpa [cond_eq_ite] using hn)
            rw [hop]
            simp only [Sem.run_bind, Sem.run_pure, Result.andThen_ok, invoke, builtin, hm, ex, ey, run_min_int2]
        · cases hn
      · cases hn
    · -- a function
      rename_i f hf
      split at hn
      · rename_i g caps he
        have hx := h.ev f
        rw [he] at hx
        obtain ⟨ps, e1, hps⟩ := hx
        obtain ⟨Im', h', hsub⟩ := ready_ok h E g (c.args.toList.map σ.ev)
        refine aCall_ok hG h' (vs := c.args.toList.map a.eval ++ ps) (AVs.app (AVs.evs h' _) (AVs.refs (RefRs.tell (Same.refl _ _) hsub hps))) ?_ hn
        have hop : execOp a.eval o = (do let d ← Deferred.ofValue (a.eval f) (c.args.map a.eval); invoke d.target d.args) := by
          unfold execOp; rw [ho]; simp only [resolve, hf]
        rw [hop, e1]
        have hargs : c.args.map a.eval ++ ps.toArray = (c.args.toList.map a.eval ++ ps).toArray := by apply Array.ext'; simp
        simp [Deferred.ofValue, invoke, hargs]
      · cases hn
    · cases hn
  | makeMap T r =>
    rw [ho] at hn
    dsimp only at hn
    obtain ⟨h1, hn1⟩ := chk_some hn
    clear hn
    rw [Bool.and_eq_true] at h1
    obtain ⟨d, hd1, hd5⟩ := okDst_some h1.1
    obtain rfl : r = none := by cases r with | none => rfl | some _ => exact absurd h1.2 (by simp)
    split at hn1
    · refine wp_value (v := .map (some w.heap.size)) (w' := w.alloc (.map #[] 0)) (by simp [execOp, ho, Instr.makeMap]) ?_
      have h2 := h.made (w' := w.alloc (.map #[] 0)) d hd5 (o := .mp []) (v := .map (some w.heap.size)) (fun b hb => alloc_old _ _ _ hb) (alloc_size _ _) (h.below.alloc _)
        ⟨w.heap.size, by simp, rfl, #[], 0, alloc_new _ _, rfl⟩
      rw [hd1] at hn1 ⊢
      refine ⟨_, hn1, _, _, _, h2.put (some d) (av := .cv (.own d)) (show _ = _ by simp)⟩
    · cases hn1
  | lookup T x k ok =>
    rw [ho] at hn
    obtain ⟨h1, hn1⟩ := chk_some hn
    obtain rfl : ok = false := by simpa using h1
    obtain ⟨u, av, g1, g2, g3⟩ := aLookup_ok hE h (h.ev x) (h.ev k) hn1
    exact goes_put h g2 (by simp [execOp, ho, g1]) g3
  | mapUpdate T m k x =>
    rw [ho] at hn
    obtain ⟨w', τ, bl', g1, g2, g3⟩ := aMapSet_ok hE h (h.ev m) (h.ev k) (h.ev x) hn
    exact wp_skip_ (w' := w') (by simp [execOp, ho, g1]) ⟨_, g3, Im, hd, bl', g2.put o.dst (av := .cv .dead) trivial⟩
  | insert T m k x =>
    rw [ho] at hn
    obtain ⟨w', τ, bl', g1, g2, g3⟩ := aMapSet_ok hE h (h.ev m) (h.ev k) (h.ev x) hn
    exact wp_skip_ (w' := w') (by simp [execOp, ho, g1]) ⟨_, g3, Im, hd, bl', g2.put o.dst (av := .cv .dead) trivial⟩
  | _ => rw [ho] at hn; cases hn

end
end Go.Vt
