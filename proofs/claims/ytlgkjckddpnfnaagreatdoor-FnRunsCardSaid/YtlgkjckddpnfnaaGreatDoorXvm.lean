/-
  The plain machine's append, joined.
  Conditions: the table of types is right (TyOk).
-/
import Derived.Test.YtlgkjckddpnfnaaGreatDoorXvl
namespace Go.Vt
open Go.RowKit
set_option linter.unusedVariables false
set_option linter.unusedSimpArgs false

section
variable {P : Program} {ρ : Type} {gw : Gw} {w0 : Base gw} {w : World} {S0 : Nat → Prop} {σ : St} {a : Act} {Im : Nat → Prop} {hd : Nat → Value} {bl : Nat → List Nat} {Q : Exit → Act → World → Prop}

theorem AVR.wider {Im' : Nat → Prop} (hi : ∀ b, Im b → Im' b) {v : Value} {av : AV} (h : AVR w Im hd v av) : AVR w Im' hd v av := by
  have := h.tell (Tell.keep hd (Same.refl Im w) hi)
  rwa [AV.map_id] at this

theorem At.append {b o : Nat} {cs ds : List Value} (h : At w b o cs) (k : At w b (o + cs.length) ds) : At w b o (cs ++ ds) := by
  intro j v hj
  rw [List.getElem?_append] at hj
  split at hj
  · exact h j v hj
  · rename_i hlt
    have := k (j - cs.length) v hj
    rwa [show o + cs.length + (j - cs.length) = o + j by omega] at this

/-- Rows that are read alone, cell by cell. -/
theorem rows_cells {t : Ty} {b : Nat} : ∀ {xs : List t.den} {o : Nat}, (∀ i x, xs[i]? = some x → ∃ cs : List Value, cs.length = t.sz ∧ At w b (o + i * t.sz) cs ∧ VR w Im t x cs) →
    ∃ news, news.length = xs.length * t.sz ∧ At w b o news ∧ OL t.sz (fun x cs L => VR w Im t x cs ∧ L = []) xs news [] ∧ ∀ u ∈ news, u.oneCell' = true
  | [], o, _ => ⟨[], by simp, fun j v hj => by simp at hj, rfl, by simp⟩
  | x :: xs, o, h => by
    obtain ⟨cs, h1, h2, h3⟩ := h 0 x rfl
    obtain ⟨ns, k1, k2, k3, k4⟩ := rows_cells (t := t) (b := b) (xs := xs) (o := o + t.sz) fun i y hy => by
      obtain ⟨c, c1, c2, c3⟩ := h (i + 1) y hy
      refine ⟨c, c1, ?_, c3⟩
      rwa [Nat.add_mul, Nat.one_mul, Nat.add_comm (i * t.sz), ← Nat.add_assoc] at c2
    refine ⟨cs ++ ns, ?_, ?_, ?_, ?_⟩
    · rw [List.length_append, h1, k1, List.length_cons, Nat.add_mul, Nat.one_mul, Nat.add_comm]
    · refine At.append (by simpa using h2) (by rw [h1]; exact k2)
    · refine ⟨[], [], rfl, by rw [List.length_append]; omega, ⟨?_, rfl⟩, ?_⟩
      · rw [← h1, List.take_left]; exact h3
      · rw [← h1, List.drop_left, h1]; exact k3
    · intro u hu
      rcases List.mem_append.1 hu with hu | hu
      · exact VR.one h3 u hu
      · exact k4 u hu

theorem OL.ones {t : Ty} {d : Bool} : ∀ {xs : List t.den} {cs : List Value} {L : List Nat}, OL t.sz (rowP w Im t d) xs cs L → ∀ u ∈ cs.take (xs.length * t.sz), u.oneCell' = true
  | [], cs, L, h => by simp
  | x :: xs, cs, L, h => by
    obtain ⟨L1, L2, rfl, hn, hp, h⟩ := h
    have ih := OL.ones h
    intro u hu
    rw [List.length_cons, Nat.add_mul, Nat.one_mul, Nat.add_comm, List.take_add] at hu
    rcases List.mem_append.1 hu with hu | hu
    · cases d with
      | true => exact OT.one hp u hu
      | false => exact VR.one hp.1 u hu
    · exact ih u hu

theorem ORow.news {t : Ty} {d : Bool} {v : Value} {xs : List t.den} {L : List Nat} (h : ORow w t.sz (rowP w Im t d) v xs L) :
    ∃ A c, v = .slice A xs.length c ∧ ∃ news Li, news.length = xs.length * t.sz ∧ OL t.sz (rowP w Im t d) xs news Li ∧ (∀ u ∈ news, u.oneCell' = true) ∧ (xs ≠ [] → ∃ b o, A = some ⟨b, o, none⟩ ∧ At w b o news) ∧
      (∀ b ∈ Li, b ∈ L) ∧ (L.Nodup → Li.Nodup) := by
  rcases h with ⟨rfl, rfl, rfl⟩ | ⟨b, f0, cap, cs, F, Li, rfl, hb, hcs, hle, rfl, hl⟩
  · exact ⟨none, 0, rfl, [], [], by simp, rfl, by simp, fun e => (e rfl).elim, by simp, fun _ => List.nodup_nil⟩
  · have hlen := hl.len
    exact ⟨_, cap, rfl, (cs.toList.drop f0).take (xs.length * t.sz), Li, by rw [List.length_take]; omega, OL.pre hl (by rw [List.take_take, Nat.min_self]) (by rw [List.length_take]; omega), hl.ones, fun _ => ⟨b, f0, rfl, drop_at hb f0 (xs.length * t.sz)⟩, fun x hx => by simp [hx], fun h => (List.nodup_cons.1 h).2⟩

/-- Elements that lead to no memory may be told either way. -/
theorem OL.flatly {t : Ty} {d e : Bool} (hf : t.flat = true) {xs : List t.den} {cs : List Value} {L : List Nat} (h : OL t.sz (rowP w Im t d) xs cs L) : OL t.sz (rowP w Im t e) xs cs [] := by
  induction xs generalizing cs L with
  | nil => rfl
  | cons x xs ih =>
    obtain ⟨L1, L2, rfl, hn, hp, h⟩ := h
    refine ⟨[], [], rfl, hn, ?_, ih h⟩
    have hv : VR w Im t x (cs.take t.sz) := by
      cases d with
      | true => exact VR.flat hf (OT.read (S := fun _ => True) hp (fun _ _ => trivial))
      | false => exact hp.1
    cases e with
    | true => exact VR.own hf hv
    | false => exact ⟨hv, rfl⟩
theorem OL.unread {t : Ty} {xs : List t.den} {cs : List Value} (h : OL t.sz (fun x cs L => VR w Im t x cs ∧ L = []) xs cs []) : OL t.sz (rowP w Im t false) xs cs [] := h

theorem aApp2_ok {E : Env} {T e : TypeId} {t : Ty} (hu : P.underlying T = some (.slice e)) (he : ElemOk P e t) {xs : List t.den} {d cn : Bool} {vx : Value}
    (lo : ∀ d' : Bool, (d' = true → d = true) → ∃ Im' bl' L, SRi w0 S0 σ a w Im' hd bl' ∧ Loose w0 σ w Im' hd bl' t xs d' cn vx L ∧ (∀ b, Im b → Im' b))
    {y : AV} {vy : Value} (hy : AVR w Im hd vy y) {dst key : Nat} (hd5 : key < 500000) {next : St → Option ρ} {r : ρ} (hn : aApp2 σ t dst key y xs d cn next = some r) (ty : TypeId) :
    ∃ v' w', (Builtin.append_ #[T, T] ty #[vx, vy]).run P w = .ok v' w' ∧ ∃ τ, next (τ.put (some dst) (.cv (.own key))) = some r ∧ ∃ Im' hd' bl', SRi w0 S0 τ a w' Im' hd' bl' ∧ hd' key = v' := by
  unfold aApp2 at hn
  split at hn
  · -- nil
    obtain ⟨Im', bl', L, h, l, hi⟩ := lo d id
    have e1 : vy = .slice none 0 0 := hy
    obtain ⟨v', w', h1, I2, hd2, bl2, h2, h3⟩ := append_run (ys := []) hu he h l (vy := vy) (M := []) ⟨⟨none, 0, e1, [], by simp, rfl, by simp, fun e => (e rfl).elim⟩, List.nodup_nil, (fun b hb => by cases hb), (fun k p _ b _ hb => by cases hb), (fun b hb => by cases hb)⟩
      (fun e => (e rfl).elim) ty key hd5
    rw [List.append_nil] at h2
    exact ⟨v', w', h1, _, hn, I2, hd2, bl2, h2, h3⟩
  · -- a plain value
    rename_i u ys
    split at hn
    · rename_i ys' hys
      obtain ⟨hm, hn⟩ := chk_some hn
      obtain ⟨Im', bl', L, h, l, hi⟩ := lo (d && t.flat) (fun e => by simp at e; exact e.1)
      have hy' : VR w Im' (.slice t) ys' [vy] := as_VR hys (AVR.wider hi hy)
      obtain ⟨A, cap, ev, _, hr⟩ := hy'
      simp only [List.cons.injEq, and_true] at ev
      have hnews : ∃ news, news.length = ys'.length * t.sz ∧ OL t.sz (rowP w Im' t (d && t.flat)) ys' news [] ∧ (∀ u ∈ news, u.oneCell' = true) ∧ (ys' ≠ [] → ∃ b o, A = some ⟨b, o, none⟩ ∧ At w b o news) := by
        rcases hr with rfl | ⟨b, o, rfl, _, hr⟩
        · exact ⟨[], by simp, rfl, by simp, fun e => (e rfl).elim⟩
        · obtain ⟨news, n1, n2, n3, n4⟩ := rows_cells hr
          refine ⟨news, n1, ?_, n4, fun _ => ⟨b, o, rfl, n2⟩⟩
          cases hf : t.flat with
          | false => rw [Bool.and_false]; exact n3
          | true => exact OL.flatly hf (OL.unread n3)
      obtain ⟨news, n1, n2, n3, n4⟩ := hnews
      obtain ⟨v', w', h1, I2, hd2, bl2, h2, h3⟩ := append_run hu he h l (ys := ys') (vy := vy) (M := []) ⟨⟨A, cap, ev, news, n1, n2, n3, n4⟩, List.nodup_nil, (fun b hb => by cases hb), (fun k p _ b _ hb => by cases hb), (fun b hb => by cases hb)⟩
        (fun _ => of_decide_eq_true hm) ty key hd5
      exact ⟨v', w', h1, _, hn, I2, hd2, bl2, h2, h3⟩
    · cases hn
  · -- a row of one's own
    rename_i c
    split at hn
    · rename_i u ys e' n' hc
      split at hn
      · rename_i ys' hys
        obtain ⟨ee, rfl⟩ := as_some hys
        cases ee
        obtain ⟨hm, hn5⟩ := chk_some hn
        have hm' := of_decide_eq_true hm
        have hvy : vy = hd c := hy
        cases hf : t.flat with
        | true =>
          simp only [hf, Bool.true_or, Bool.and_true, cond_true] at hn5
          obtain ⟨Im', bl', L, h, l, hi⟩ := lo d id
          obtain ⟨A, k, ev, news, Li, n1, n2, n3, n4, _, _⟩ := (h.objs c _ hc).1.news
          obtain ⟨v', w', h1, I2, hd2, bl2, h2, h3⟩ := append_run hu he h l (ys := ys) (vy := vy) (M := []) ⟨⟨A, k, hvy.trans ev, news, n1, OL.flatly hf n2, n3, n4⟩, List.nodup_nil, (fun b hb => by cases hb), (fun k p _ b _ hb => by cases hb), (fun b hb => by cases hb)⟩
            (fun _ => hm') ty key hd5
          exact ⟨v', w', h1, _, hn5, I2, hd2, bl2, h2, h3⟩
        | false =>
          simp only [hf, Bool.false_or, cond_false] at hn5
          cases hd' : (d && e') with
          | true =>
            rw [hd', cond_true] at hn5
            have hde : d = true ∧ e' = true := by simpa using hd'
            obtain ⟨rfl, rfl⟩ := hde
            obtain ⟨Im', bl', L, h, l, hi⟩ := lo true id
            obtain ⟨h', l'⟩ := h.takeOut hc
            obtain ⟨A, k, ev, news, Li, n1, n2, n3, n4, n5, n6⟩ := l'.row.news
            have l2 : Loose w0 (σ.kill c) w Im' hd bl' t xs true cn vx L := ⟨l.row, l.nil, l.nodup, l.own, fun k p hp => by
              obtain ⟨_, o, ho, _⟩ := obGet_sub hp
              exact l.free k o ho⟩
            obtain ⟨v', w', h1, I2, hd2, bl2, h2, h3⟩ := append_run hu he h' l2 (ys := ys) (vy := vy) (M := Li) ⟨⟨A, k, hvy.trans ev, news, n1, n2, n3, n4⟩, n6 l'.nodup, (fun b hb => l'.own b (n5 b hb)),
              (fun k p hp b hb hb2 => l'.free k p hp b hb (n5 b hb2)), (fun b hb hb2 => l.free c _ hc b (n5 b hb) hb2)⟩
              (fun _ => hm') ty key hd5
            exact ⟨v', w', h1, _, hn5, I2, hd2, bl2, h2, h3⟩
          | false =>
            rw [hd', cond_false] at hn5
            obtain ⟨Im', bl', L, h, l, hi⟩ := lo false (fun e => by cases e)
            have hrow := h.objs c _ hc
            obtain ⟨Im2, h', i1, i2, i3⟩ := h.freeze c
            have l2 : Loose w0 (σ.freeze c) w Im2 hd bl' t xs false cn vx L := by
              refine ⟨?_, l.nil, l.nodup, fun b hb => ⟨(l.own b hb).1, (l.own b hb).2.1, fun hI => ?_⟩, fun k p hp => ?_⟩
              · rcases l.row with e1 | ⟨b, f0, cap, cs, F, Li, e1, e2, e3, e4, e5, e6⟩
                · exact .inl e1
                · exact .inr ⟨b, f0, cap, cs, F, Li, e1, e2, e3, e4, e5, e6.tell (Same.refl _ _) i1 (fun _ _ => rfl)⟩
              · rcases i2 b hI with h1 | h1
                · exact (l.own b hb).2.2 h1
                · exact l.free c _ hc b h1 hb
              · obtain ⟨_, o, ho⟩ := freeze_get hp
                exact l.free k o ho
            have hrd := hrow.read
            have hrd' : VR w Im2 (.slice t) ys [hd c] := VR.mono (Same.refl _ _) (fun b hb => hb.elim (i1 b) (fun hb => i3 _ hc rfl b hb)) hrd
            obtain ⟨A, cap, ev, _, hr⟩ := hrd'
            simp only [List.cons.injEq, and_true] at ev
            have hnews : ∃ news, news.length = ys.length * t.sz ∧ OL t.sz (rowP w Im2 t false) ys news [] ∧ (∀ u ∈ news, u.oneCell' = true) ∧ (ys ≠ [] → ∃ b o, A = some ⟨b, o, none⟩ ∧ At w b o news) := by
              rcases hr with rfl | ⟨b, o, rfl, _, hr⟩
              · exact ⟨[], by simp, rfl, by simp, fun e => (e rfl).elim⟩
              · obtain ⟨news, n1, n2, n3, n4⟩ := rows_cells hr
                exact ⟨news, n1, n3, n4, fun _ => ⟨b, o, rfl, n2⟩⟩
            obtain ⟨news, n1, n2, n3, n4⟩ := hnews
            obtain ⟨v', w', h1, I2, hd2, bl2, h2, h3⟩ := append_run hu he h' l2 (ys := ys) (vy := vy) (M := []) ⟨⟨A, cap, hvy.trans ev, news, n1, n2, n3, n4⟩, List.nodup_nil, (fun b hb => by cases hb), (fun k p _ b _ hb => by cases hb), (fun b hb => by cases hb)⟩
              (fun _ => hm') ty key hd5
            exact ⟨v', w', h1, _, hn5, I2, hd2, bl2, h2, h3⟩
      · cases hn
    · cases hn
  · cases hn

theorem aAppend_ok {E : Env} (hE : ∀ T ti, E.ty T = some ti → TyOk P T ti) (h : SRi w0 S0 σ a w Im hd bl) {T : Nat} {x y : AV} {vx vy : Value} (hx : AVR w Im hd vx x) (hy : AVR w Im hd vy y)
    {dst : Nat} (hd5 : dst < 500000) {next : St → Option ρ} {r : ρ} (hn : aAppend E σ T dst x y next = some r) (ty : TypeId) :
    ∃ v' w', (Builtin.append_ #[T, T] ty #[vx, vy]).run P w = .ok v' w' ∧ ∃ key τ, next (τ.put (some dst) (.cv (.own key))) = some r ∧ ∃ Im' hd' bl', SRi w0 S0 τ a w' Im' hd' bl' ∧ hd' key = v' := by
  unfold aAppend at hn
  split at hn
  · rename_i t hT
    obtain ⟨e, hu, he⟩ := kind_slice hE hT
    split at hn
    · have e1 : vx = .slice none 0 0 := hx
      obtain ⟨v', w', k1, k2⟩ := aApp2_ok (E := E) hu he (fun d' _ => ⟨Im, bl, [], h, ⟨.inl ⟨e1, rfl, rfl⟩, fun _ _ => e1, List.nodup_nil, (fun b hb => by cases hb), (fun k p _ b _ hb => by cases hb)⟩, fun _ x => x⟩) hy hd5 hn ty
      exact ⟨v', w', k1, dst, k2⟩
    · rename_i c
      have e1 : vx = hd c := hx
      split at hn
      · rename_i u xs d cn hc
        split at hn
        · rename_i xs' hxs
          obtain ⟨ee, rfl⟩ := as_some hxs
          cases ee
          have hk5 : keyFor c dst < 500000 := by
            unfold keyFor
            cases hb : Nat.ble 450000 c && Nat.blt c 500000 with
            | false => exact hd5
            | true => rw [Bool.and_eq_true] at hb; have h2 := hb.2; rw [Nat.blt_eq] at h2; exact h2
          obtain ⟨v', w', k1, k2⟩ := aApp2_ok (E := E) (vx := vx) hu he (fun d' hd' => by
            obtain ⟨Im', bl', g1, g2, g3⟩ := h.takeSoft hc d' hd'
            exact ⟨Im', bl', bl' c, g1, by rw [e1]; exact g2, g3⟩) hy hk5 hn ty
          exact ⟨v', w', k1, _, k2⟩
        · cases hn
      · cases hn
    · cases hn
  · cases hn

end
end Go.Vt
