/-
  Where ways meet, the plain machine's state in the form that the hints ask for is a state of the same activation.
  Conditions: none.
-/
import Derived.Test.YtlgkjckddpnfnaaGreatDoorXvr
namespace Go.Vt
open Go.RowKit
set_option linter.unusedVariables false
set_option linter.unusedSimpArgs false

section
variable {P : Program} {ρ : Type} {gw : Gw} {w0 : Base gw} {w : World} {S0 : Nat → Prop} {σ : St} {a : Act} {Im : Nat → Prop} {hd : Nat → Value} {bl : Nat → List Nat} {Q : Exit → Act → World → Prop}

theorem Tell.name {c e : Nat} (hne : c ≠ e) : Tell w w Im Im hd (fun d => if d = e then hd c else hd d) (rnName c e) := by
  refine ⟨Same.refl _ _, fun _ x => x, fun d => ?_, fun d o v k => ?_, fun d n i o v k => ?_⟩
  · show CVR w Im _ (hd d) (bif Nat.beq d c then .own e else bif Nat.beq d e then .dead else .own d)
    rw [beqN, beqN]
    by_cases q : d = c
    · subst q; simp only [decide_true, cond_true]; show hd d = if e = e then hd d else hd e; simp
    · by_cases q2 : d = e
      · simp only [q, q2, decide_false, decide_true, cond_false, cond_true]
        rw [show decide (e = c) = false by simp [Ne.symm hne]]
        exact trivial
      · simp only [q, q2, decide_false, cond_false]; show hd d = if d = e then hd c else hd d; simp [q2]
  · show AVR w Im _ v (bif Nat.beq d c then .adr e o else bif Nat.beq d e then .cv .dead else .adr d o)
    rw [beqN, beqN]
    obtain ⟨b, e1, e2⟩ := k
    by_cases q : d = c
    · subst q; simp only [decide_true, cond_true]; exact ⟨b, by simpa using e1, e2⟩
    · by_cases q2 : d = e
      · simp only [q, q2, decide_false, decide_true, cond_false, cond_true]
        rw [show decide (e = c) = false by simp [Ne.symm hne]]
        exact trivial
      · simp only [q, q2, decide_false, cond_false]; exact ⟨b, by simpa [q2] using e1, e2⟩
  · show AVR w Im _ v (bif Nat.beq d c then .el e n i o else bif Nat.beq d e then .cv .dead else .el d n i o)
    rw [beqN, beqN]
    obtain ⟨b, f1, e1, e2⟩ := k
    by_cases q : d = c
    · subst q; simp only [decide_true, cond_true]; exact ⟨b, f1, by simpa using e1, e2⟩
    · by_cases q2 : d = e
      · simp only [q, q2, decide_false, decide_true, cond_false, cond_true]
        rw [show decide (e = c) = false by simp [Ne.symm hne]]
        exact trivial
      · simp only [q, q2, decide_false, cond_false]; exact ⟨b, f1, by simpa [q2] using e1, e2⟩

theorem rename_ok (h : SRi w0 S0 σ a w Im hd bl) {c e : Nat} {τ : St} (hr : σ.rename c e = some τ) :
    ∃ hd' bl', SRi w0 S0 τ a w Im hd' bl' ∧ hd' e = hd c ∧ (∀ d, d ≠ e → hd' d = hd d) := by
  unfold St.rename at hr
  rw [beqN] at hr
  by_cases q : c = e
  · subst q
    simp at hr
    subst hr
    exact ⟨hd, bl, h, rfl, fun _ _ => rfl⟩
  · simp only [q, decide_false, cond_false] at hr
    have h := h.kill e
    have he : obGet (σ.kill e).ob e = none := by
      cases he : obGet (σ.kill e).ob e with
      | none => rfl
      | some o => exact ((obGet_sub he).1 rfl).elim
    split at hr
    · rename_i o hc
      have he5 : e < 500000 := by
        cases hb : Nat.blt e 500000 with
        | true => exact blt_lt hb
        | false => simp [hb] at hr
      have hbt : Nat.blt e 500000 = true := by rw [Nat.blt_eq]; exact he5
      simp only [hbt, cond_true] at hr
      cases hr
      have T := Tell.name (w := w) (Im := Im) (hd := hd) q
      have hob : ∀ d p, obGet ((e, o.map (rnName c e)) :: ((σ.kill e).sub c (rnName c e)).ob) d = some p → (d = e ∧ p = o.map (rnName c e)) ∨ (d ≠ e ∧ d ≠ c ∧ ∃ p', obGet (σ.kill e).ob d = some p' ∧ p = p'.map (rnName c e)) := by
        intro d p hp
        rw [obGet_cons] at hp
        by_cases q2 : e = d
        · simp [q2] at hp; exact .inl ⟨q2.symm, by rw [q2]; exact hp.symm⟩
        · simp [q2] at hp
          obtain ⟨h1, p', h2, h3⟩ := obGet_sub hp
          exact .inr ⟨Ne.symm q2, h1, p', h2, h3⟩
      refine ⟨fun d => if d = e then hd c else hd d, fun d => if d = e then bl c else bl d, ⟨h.below, h.sub, h.new, h.lt, h.nodef, ?_, fun i av hi => ?_, fun d p hp => ?_, fun d p hp => ?_, fun d p d' p' hp hp' hne => ?_, fun j v hj => by rw [if_neg (by omega)]; exact h.io j v hj⟩, by simp, fun d hd => by simp [hd]⟩
      · show a.tmps.size = ((σ.kill e).sl.map (AV.map (rnName c e))).length; rw [List.length_map]; exact h.size
      · have hi' : ((σ.kill e).sl.map (AV.map (rnName c e)))[i]? = some av := hi
        rw [List.getElem?_map] at hi'
        obtain ⟨u, hu, rfl⟩ := Option.map_eq_some_iff.1 hi'
        exact (h.slots i u hu).tell T
      · rcases hob d p hp with ⟨rfl, rfl⟩ | ⟨h1, h2, p', hp', rfl⟩
        · simp only [if_true]; exact (h.objs c o hc).tell T (fun _ _ => rfl)
        · simp only [h1, if_false]; exact (h.objs d p' hp').tell T (fun _ _ => rfl)
      · rcases hob d p hp with ⟨rfl, rfl⟩ | ⟨h1, h2, p', hp', rfl⟩
        · simp only [if_true]; exact h.own c o hc
        · simp only [h1, if_false]; exact h.own d p' hp'
      · rcases hob d p hp with ⟨rfl, rfl⟩ | ⟨h1, h2, p1, hp1, rfl⟩ <;> rcases hob d' p' hp' with ⟨rfl, rfl⟩ | ⟨h3, h4, p2, hp2, rfl⟩
        · exact (hne rfl).elim
        · simp only [if_true, h3, if_false]; exact h.apart c o d' p2 hc hp2 (Ne.symm h4)
        · simp only [if_true, h1, if_false]; exact h.apart d p1 c o hp1 hc h2
        · simp only [h1, h3, if_false]; exact h.apart d p1 d' p2 hp1 hp2 hne
    · cases hr

theorem weaken_ok (h : SRi w0 S0 σ a w Im hd bl) {e : Nat} {t : Ty} {deep cn : Bool} {τ : St} (hr : σ.weaken e t deep cn = some τ) : (∃ Im' bl', SRi w0 S0 τ a w Im' hd bl' ∧ (∀ b, Im b → Im' b)) ∧ ∃ xs, obGet τ.ob e = some (.row t xs deep cn) := by
  unfold St.weaken at hr
  split at hr
  · rename_i u xs d n hc
    split at hr
    · rename_i xs' hx
      obtain ⟨ee, rfl⟩ := as_some hx
      cases ee
      cases hk : ((!deep || d) && (!cn || n)) with
      | false => rw [hk] at hr; cases hr
      | true =>
        rw [hk, cond_true] at hr
        cases hr
        have hcn : cn = true → n = true := by intro e; subst e; simp at hk; exact hk.2
        have hdd : deep = true → d = true := by intro e; subst e; simp at hk; exact hk.1
        -- first the depth
        obtain ⟨σ2, Im2, bl2, h2, hc2, hob, hi⟩ : ∃ (σ2 : St) (Im2 : Nat → Prop) (bl2 : Nat → List Nat), SRi w0 S0 σ2 a w Im2 hd bl2 ∧ obGet σ2.ob e = some (.row t xs deep n) ∧ (∀ o', ({ σ2 with ob := obPut σ2.ob e o' } : St) = { σ with ob := obPut σ.ob e o' }) ∧ (∀ b, Im b → Im2 b) := by
          cases hdp : deep with
          | true => rw [hdd hdp] at hc; exact ⟨σ, Im, bl, h, hc, fun _ => rfl, fun _ x => x⟩
          | false =>
            cases d with
            | false => exact ⟨σ, Im, bl, h, hc, fun _ => rfl, fun _ x => x⟩
            | true =>
              obtain ⟨Im2, bl2, s1, s2⟩ := h.soften hc
              exact ⟨_, Im2, bl2, s1, by rw [obGet_put]; simp, fun o' => by simp only [obPut_obPut], s2⟩
        have hrow := h2.objs e _ hc2
        have key := h2.obj (L := bl2 e) (o' := .row t xs deep cn) hc2 (fun _ _ _ => rfl) (Nat.le_refl _) h2.below (fun _ x => x) (fun b hb => .inl hb) (h2.own e _ hc2).1 (fun b hb => hb) ⟨hrow.1, fun q1 q2 => hrow.2 (hcn q1) q2⟩
        rw [hob] at key
        exact ⟨⟨Im2, _, key, hi⟩, xs, by rw [obGet_put]; simp⟩
    · cases hr
  · cases hr

theorem toTl_ok (h : SRi w0 S0 σ a w Im hd bl) {e : Nat} {t : Ty} {τ : St} (hr : σ.toTl e t = some τ) : ∃ bl', SRi w0 S0 τ a w Im hd bl' ∧ ∃ xs n, obGet τ.ob e = some (.tl t xs n) := by
  unfold St.toTl at hr
  split at hr
  · rename_i u xs cn hc
    split at hr
    · rename_i xs' hx
      obtain ⟨ee, rfl⟩ := as_some hx
      cases ee
      cases hr
      have ho := (h.objs e _ hc).1
      refine ⟨_, h.obj (L := bl e) (o' := .tl t xs 0) hc (fun _ _ _ => rfl) (Nat.le_refl _) h.below (fun _ x => x) (fun b hb => .inl hb) (h.own e _ hc).1 (fun b hb => hb) ?_, xs, 0, by rw [obGet_put]; simp⟩
      rcases ho with ho | ⟨b, f, cap, cs, E, Li, e1, e2, e3, e4, e5, e6⟩
      · exact .inl ho
      · exact .inr ⟨b, f, cap, cs, E, Li, e1, e2, e3, e4, e5, by rw [Nat.zero_mul]; exact e6⟩
    · cases hr
  · rename_i u xs n hc
    split at hr
    · rename_i xs' hx
      obtain ⟨ee, rfl⟩ := as_some hx
      cases ee
      cases hr
      exact ⟨_, h.obj (L := bl e) (o' := .tl t xs n) hc (fun _ _ _ => rfl) (Nat.le_refl _) h.below (fun _ x => x) (fun b hb => .inl hb) (h.own e _ hc).1 (fun b hb => hb) (h.objs e _ hc), xs, n, by rw [obGet_put]; simp⟩
    · cases hr
  · cases hr

theorem form_ok (h : SRi w0 S0 σ a w Im hd bl) {f : CH} {v : Value} {c : CV} (hv : CVR w Im hd v c) {τ : St} {c' : CV} (hr : σ.form f c = some (τ, c')) :
    ∃ Im' hd' bl', SRi w0 S0 τ a w Im' hd' bl' ∧ CVR w Im' hd' v c' ∧ (∀ d, (∀ e t dp cn, f = .row e t dp cn → d ≠ e) → hd' d = hd d) ∧ (∀ b, Im b → Im' b) ∧
      (∀ e t dp cn, f = .row e t dp cn → ∃ o, obGet τ.ob e = some o ∧ ∀ l, o ≠ .box l) := by
  unfold St.form at hr
  cases f with
  | keep =>
    cases c with
    | own k => cases hr
    | dead => cases hr; exact ⟨Im, hd, bl, h, hv, fun _ _ => rfl, fun _ x => x, fun _ _ _ _ e => by cases e⟩
    | nil => cases hr; exact ⟨Im, hd, bl, h, hv, fun _ _ => rfl, fun _ x => x, fun _ _ _ _ e => by cases e⟩
    | val t x => cases hr; exact ⟨Im, hd, bl, h, hv, fun _ _ => rfl, fun _ x => x, fun _ _ _ _ e => by cases e⟩
    | unk => cases hr; exact ⟨Im, hd, bl, h, hv, fun _ _ => rfl, fun _ x => x, fun _ _ _ _ e => by cases e⟩
  | val t =>
    cases c with
    | nil =>
      obtain ⟨x, hx, e⟩ := Option.map_eq_some_iff.1 hr
      cases e
      exact ⟨Im, hd, bl, h, CV.as_read hx hv, fun _ _ => rfl, fun _ x => x, fun _ _ _ _ e => by cases e⟩
    | own k =>
      obtain ⟨x, hx, e⟩ := Option.map_eq_some_iff.1 hr
      cases e
      have hrd := cvAs_read h hx hv
      obtain ⟨Im', g1, g2, g3, g4⟩ := h.freeze k
      refine ⟨Im', hd, bl, g1, ?_, fun _ _ => rfl, g2, fun _ _ _ _ e => by cases e⟩
      refine VR.mono (Same.refl _ _) (fun b hb => ?_) hrd
      rcases hb with hb | ⟨k', hk', ⟨o0, hg, htr⟩, hb⟩
      · exact g2 b hb
      · obtain rfl : k' = k := by simpa [CV.owns] using hk'
        exact g4 o0 hg htr b hb
    | dead =>
      obtain ⟨x, hx, e⟩ := Option.map_eq_some_iff.1 hr
      cases hx
    | unk =>
      obtain ⟨x, hx, e⟩ := Option.map_eq_some_iff.1 hr
      cases hx
    | val u y =>
      obtain ⟨x, hx, e⟩ := Option.map_eq_some_iff.1 hr
      cases e
      exact ⟨Im, hd, bl, h, CV.as_read hx hv, fun _ _ => rfl, fun _ x => x, fun _ _ _ _ e => by cases e⟩
  | row e t deep cn =>
    dsimp only at hr
    cases htl : tlB e with
    | true =>
      rw [htl, cond_true] at hr
      cases c with
      | dead => cases hr
      | val u y => cases hr
      | unk => cases hr
      | nil => cases hr
      | own k =>
        obtain ⟨σ1, h1, hr⟩ := Option.bind_eq_some_iff.1 hr
        obtain ⟨σ2, h2, e2⟩ := Option.map_eq_some_iff.1 hr
        cases e2
        obtain ⟨hd', bl', g1, g3, g4⟩ := rename_ok h h1
        obtain ⟨bl2, k1, xs, n, k3⟩ := toTl_ok g1 h2
        refine ⟨Im, hd', bl2, k1, by show v = hd' e; rw [g3]; exact hv, fun d hd2 => g4 d (hd2 e t deep cn rfl), fun _ x => x, fun e' t' dp cn' q => ?_⟩
        cases q
        exact ⟨_, k3, fun l q => by cases q⟩
    | false =>
    rw [htl, cond_false] at hr
    cases hhb : holeB e with
    | true =>
      rw [hhb, cond_true] at hr
      cases c with
      | dead => cases hr
      | val u y => cases hr
      | unk => cases hr
      | nil => cases hr
      | own k =>
        obtain ⟨σ1, h1, hr⟩ := Option.bind_eq_some_iff.1 hr
        obtain ⟨hd', bl', g1, g3, g4⟩ := rename_ok h h1
        split at hr
        · rename_i t0 xs0 i0 k0 hl
          cases hr
          refine ⟨Im, hd', bl', g1, by show v = hd' e; rw [g3]; exact hv, fun d hd2 => g4 d (hd2 e t deep cn rfl), fun _ x => x, fun e' t' dp cn' q => ?_⟩
          cases q
          exact ⟨_, hl, fun l q => by cases q⟩
        · cases hr
    | false =>
    rw [hhb, cond_false] at hr
    cases hmb : mpB e with
    | true =>
      rw [hmb, cond_true] at hr
      cases c with
      | dead => cases hr
      | val u y => cases hr
      | unk => cases hr
      | nil => cases hr
      | own k =>
        obtain ⟨σ1, h1, hr⟩ := Option.bind_eq_some_iff.1 hr
        obtain ⟨hd', bl', g1, g3, g4⟩ := rename_ok h h1
        split at hr
        · rename_i l hl
          cases hr
          refine ⟨Im, hd', bl', g1, by show v = hd' e; rw [g3]; exact hv, fun d hd2 => g4 d (hd2 e t deep cn rfl), fun _ x => x, fun e' t' dp cn' q => ?_⟩
          cases q
          exact ⟨_, hl, fun l q => by cases q⟩
        · cases hr
    | false =>
    rw [hmb, cond_false] at hr
    cases c with
    | dead => cases hr
    | val u y => cases hr
    | unk => cases hr
    | nil =>
      have he5 : e < 500000 := by
        cases hb : Nat.blt e 500000 with
        | true => exact blt_lt hb
        | false => simp [hb] at hr
      have hbt : Nat.blt e 500000 = true := by rw [Nat.blt_eq]; exact he5
      simp only [hbt, cond_true, Option.some.injEq, Prod.mk.injEq] at hr
      obtain ⟨rfl, rfl⟩ := hr
      refine ⟨Im, _, _, h.new_ e he5 (o := .row t [] deep cn) (v := v) (L := []) (fun k p _ hp b _ hb => by cases hb) List.nodup_nil (fun b hb => by cases hb) ⟨.inl ⟨hv, rfl, rfl⟩, fun _ _ => hv⟩, by show v = _; simp, fun d hd' => ?_, fun _ x => x, fun e' t' dp cn' q => ?_⟩
      · have : d ≠ e := hd' e t deep cn rfl
        simp [this]
      · cases q
        exact ⟨.row t [] deep cn, by show obGet ((e, Ob.row t [] deep cn) :: _) e = _; rw [obGet_cons]; simp, fun l q => by cases q⟩
    | own k =>
      obtain ⟨σ1, h1, hr⟩ := Option.bind_eq_some_iff.1 hr
      obtain ⟨σ2, h2, e2⟩ := Option.map_eq_some_iff.1 hr
      cases e2
      obtain ⟨hd', bl', g1, g3, g4⟩ := rename_ok h h1
      obtain ⟨⟨Im', bl2, k1, k2⟩, xs, k3⟩ := weaken_ok g1 h2
      refine ⟨Im', hd', bl2, k1, by show v = hd' e; rw [g3]; exact hv, fun d hd2 => g4 d (hd2 e t deep cn rfl), k2, fun e' t' dp cn' q => ?_⟩
      cases q
      exact ⟨_, k3, fun l q => by cases q⟩

theorem CVs.set {vs : List Value} {l : List CV} (h : CVs w Im hd vs l) {j : Nat} {v : Value} {c : CV} (hv : vs[j]? = some v) (hc : CVR w Im hd v c) : CVs w Im hd vs (l.set j c) := by
  induction vs generalizing l j with
  | nil => simp at hv
  | cons u vs ih =>
    match l, h with
    | d :: l, h =>
      cases j with
      | zero => simp at hv; subst hv; exact ⟨hc, h.2⟩
      | succ j => exact ⟨h.1, ih h.2 (by simpa using hv)⟩

theorem formCells_ok {c : Nat} : ∀ {l : List CH} {j : Nat} {σ : St} {Im : Nat → Prop} {hd : Nat → Value} {bl : Nat → List Nat}, SRi w0 S0 σ a w Im hd bl → ∀ {τ : St}, σ.formCells c j l = some τ →
    ∃ Im' hd' bl', SRi w0 S0 τ a w Im' hd' bl' ∧ (∀ b, Im b → Im' b)
  | [], j, σ, Im, hd, bl, h, τ, hr => by
    unfold St.formCells at hr
    cases hr
    exact ⟨Im, hd, bl, h, fun _ x => x⟩
  | f :: r, j, σ, Im, hd, bl, h, τ, hr => by
    unfold St.formCells at hr
    split at hr
    · rename_i l hc
      split at hr
      · rename_i v hv
        obtain ⟨⟨σ1, v'⟩, h1, hr⟩ := Option.bind_eq_some_iff.1 hr
        obtain ⟨b, cs, F, e1, hb, hbl, hcs⟩ := h.objs c _ hc
        obtain ⟨u, hu, huv⟩ := hcs.get j v hv
        obtain ⟨Im', hd', bl', g1, g2, g30, g4, g5⟩ := form_ok h huv h1
        dsimp only at hr
        split at hr
        · rename_i l' hc'
          have g3 : hd' c = hd c := g30 c fun e t dp cn q hce => by
            obtain ⟨ob, hx, hnb⟩ := g5 e t dp cn q
            rw [← hce, hc'] at hx
            cases hx
            exact (hnb _ rfl).elim
          obtain ⟨b', cs', F', e1', hb', hbl', hcs'⟩ := g1.objs c _ hc'
          rw [g3, e1] at e1'
          cases e1'
          rw [hb] at hb'
          cases hb'
          have key := g1.obj (L := bl' c) (o' := .box (l'.set j v')) hc' (fun _ _ _ => rfl) (Nat.le_refl _) g1.below (fun _ x => x) (fun b hb => .inl hb) (g1.own c _ hc').1 (fun b hb => hb)
            ⟨b, cs, F, by rw [g3]; exact e1, hb, hbl', hcs'.set hu g2⟩
          obtain ⟨Im2, hd2, bl2, k1, k2⟩ := formCells_ok key hr
          exact ⟨Im2, hd2, bl2, k1, fun b hb => k2 b (g4 b hb)⟩
        · cases hr
      · cases hr
    · cases hr

theorem meet1_ok (h : SRi w0 S0 σ a w Im hd bl) {hint : Hint} {τ : St} (hr : σ.meet1 hint = some τ) : SR w0 S0 τ a w := by
  unfold St.meet1 at hr
  cases hint with
  | keep s =>
    dsimp only at hr
    cases hf : freeAV (slGet σ.sl s) with
    | false => rw [hf] at hr; cases hr
    | true => rw [hf] at hr; cases hr; exact ⟨Im, hd, bl, h⟩
  | cell s f =>
    dsimp only at hr
    split at hr
    · rename_i v hs
      obtain ⟨⟨σ1, v'⟩, h1, e⟩ := Option.map_eq_some_iff.1 hr
      cases e
      have hx := h.ev (.tmp s)
      have e2 : σ.ev (.tmp s) = .cv v := hs
      rw [e2] at hx
      obtain ⟨Im', hd', bl', g1, g2, _⟩ := form_ok h (v := a.tmps.getD s undef) hx h1
      exact ⟨Im', hd', bl', g1.retell (g := s) (av := .cv v') g2⟩
    · cases hr
  | box s e l =>
    dsimp only at hr
    split at hr
    · rename_i c hs
      obtain ⟨σ1, h1, hr⟩ := Option.bind_eq_some_iff.1 hr
      obtain ⟨hd', bl', g1, _⟩ := rename_ok h h1
      obtain ⟨Im2, hd2, bl2, k1, _⟩ := formCells_ok g1 hr
      exact ⟨Im2, hd2, bl2, k1⟩
    · cases hr
  | arr s e =>
    dsimp only at hr
    split at hr
    · obtain ⟨hd', bl', g1, _⟩ := rename_ok h hr
      exact ⟨Im, hd', bl', g1⟩
    · cases hr
theorem meetAll_ok : ∀ {hs : List Hint} {σ : St}, SR w0 S0 σ a w → ∀ {τ : St}, σ.meetAll hs = some τ → SR w0 S0 τ a w
  | [], σ, h, τ, hr => by unfold St.meetAll at hr; cases hr; exact h
  | f :: hs, σ, ⟨Im, hd, bl, h⟩, τ, hr => by
    unfold St.meetAll at hr
    obtain ⟨σ1, h1, hr⟩ := Option.bind_eq_some_iff.1 hr
    exact meetAll_ok (meet1_ok h h1) hr

theorem killOthers_get : ∀ {l : List AV} {i : Nat} {ks : List Nat} {j : Nat} {av : AV}, (killOthers i ks l)[j]? = some av → av = .cv .dead ∨ l[j]? = some av
  | [], i, ks, j, av, h => by simp [killOthers] at h
  | b :: l, i, ks, 0, av, h => by
    unfold killOthers at h
    cases hB : hasB i ks with
    | true => rw [hB] at h; exact .inr (by simpa using h)
    | false => rw [hB] at h; simp at h; exact .inl h.symm
  | b :: l, i, ks, j + 1, av, h => by
    unfold killOthers at h
    have := killOthers_get (l := l) (i := i + 1) (ks := ks) (j := j) (av := av) (by simpa using h)
    simpa using this
theorem killOthers_len : ∀ {l : List AV} {i : Nat} {ks : List Nat}, (killOthers i ks l).length = l.length
  | [], _, _ => rfl
  | _ :: l, i, ks => by unfold killOthers; rw [List.length_cons, List.length_cons, killOthers_len]
theorem obsOf_get {ob : List (Nat × Ob)} : ∀ {ks : List Nat} {l : List (Nat × Ob)}, obsOf ob ks = some l → ∀ d o, obGet l d = some o → obGet ob d = some o
  | [], l, h, d, o, hd => by unfold obsOf at h; cases h; cases hd
  | c :: ks, l, h, d, o, hd => by
    unfold obsOf at h
    split at h
    · rename_i o' l' h1 h2
      cases h
      rw [obGet_cons] at hd
      by_cases q : c = d
      · subst q; simp at hd; subst hd; exact h1
      · simp [q] at hd; exact obsOf_get h2 d o hd
    · cases h

theorem settleL_ok : ∀ {l : List Nat} {σ : St}, SR w0 S0 σ a w → SR w0 S0 (σ.settleL l) a w
  | [], _, h => h
  | c :: r, σ, h => settleL_ok (l := r) (settle1_ok h c)
theorem home_ok (h : SR w0 S0 σ a w) (ops : Array Oper) : SR w0 S0 (σ.home ops) a w := by
  unfold St.home
  cases appendsB ops.toList with
  | true => exact settleL_ok h
  | false => exact h
theorem meet_ok {hs : List Hint} {io : Nat} (h : SR w0 S0 σ a w) {τ : St} (hr : σ.meet io hs = some τ) : SR w0 S0 τ a w := by
  unfold St.meet at hr
  obtain ⟨σ1, h1, hr⟩ := Option.bind_eq_some_iff.1 hr
  obtain ⟨ob, h2, e⟩ := Option.map_eq_some_iff.1 hr
  cases e
  have hh : SR w0 S0 (σ.settleH hs) a w := by
    unfold St.settleH
    cases (hs.flatMap Hint.keys).any holeB with
    | true => exact settleL_ok h
    | false => exact settleL_ok h
  obtain ⟨Im, hd, bl, g⟩ := meetAll_ok hh h1
  have hob := obsOf_get h2
  refine ⟨Im, hd, bl, g.below, g.sub, g.new, g.lt, g.nodef, ?_, fun i av hi => ?_, fun c o hc => g.objs c o (hob c o hc), fun c o hc => g.own c o (hob c o hc), fun c o d p hc hd => g.apart c o d p (hob c o hc) (hob d p hd), g.io⟩
  · show a.tmps.size = (killOthers _ _ _).length
    rw [killOthers_len]; exact g.size
  · rcases killOthers_get hi with rfl | hi
    · exact trivial
    · exact g.slots i av hi

end
end Go.Vt
