/-
  The plain machine's operations, one after the other, tell what the model's do.
  Conditions: the table of types is right (TyOk); the functions give what the plain machine says (Gives).
-/
import Derived.Test.YtlgkjckddpnfnaaXvp
import Derived.Orders
import Derived.Laws.Small
namespace Go.Vt
open Go.RowKit
set_option linter.unusedVariables false
set_option linter.unusedSimpArgs false

section
variable {P : Program} {ρ : Type} {gw : World → Prop} {w0 : Base gw} {w : World} {S0 : Nat → Prop} {σ : St} {a : Act} {Im : Nat → Prop} {hd : Nat → Value} {bl : Nat → List Nat} {Q : Exit → Act → World → Prop}

theorem okDst_some {d : Option Nat} (h : okDst d = true) : ∃ c, d = some c ∧ c < 500000 := by
  cases d with
  | none => cases h
  | some c => exact ⟨c, rfl, blt_lt h⟩
theorem dst_some {o : Oper} {x : Option ρ} {r : ρ} (h : chk (okDst o.dst) x = some r) : ∃ d, o.dst = some d ∧ o.dst.getD 0 = d ∧ d < 500000 ∧ x = some r := by
  obtain ⟨h1, h2⟩ := chk_some h
  obtain ⟨d, hd, hl⟩ := okDst_some h1
  exact ⟨d, hd, by rw [hd]; rfl, hl, h2⟩

theorem aOp_ok {E : Env} (hE : ∀ T ti, E.ty T = some ti → TyOk P T ti) {ck : (fi : Fi) → Aden fi.ps → Option (Oden (flatRs fi.rs) (ioOf fi.ps))} (hG : ∀ f ids fi, E.fn f ids = some fi → ∀ x y, ck fi x = some y → Gives P gw f fi x y)
    (h : SRi w0 S0 σ a w Im hd bl) {o : Oper} {next : St → Option ρ} {r : ρ} (hn : aOp E σ ck o next = some r) : o.wp P a w (Goes w0 S0 next r) Q := by
  unfold aOp at hn
  cases ho : o.op with
  | move x =>
    rw [ho] at hn
    exact goes_put h (h.ev x) (by simp [execOp, ho]) hn
  | assign x =>
    rw [ho] at hn
    exact goes_put h (h.ev x) (by simp [execOp, ho]) hn
  | pick c x y =>
    rw [ho] at hn
    dsimp only at hn
    split at hn
    · rename_i b hb
      have hc := h.ev c
      rw [hb] at hc
      have ec := bool_of hc
      cases b with
      | true => exact goes_put h (h.ev x) (by simp [execOp, ho, ec, asBool]) hn
      | false => exact goes_put h (h.ev y) (by simp [execOp, ho, ec, asBool]) hn
    · cases hn
  | alloc T =>
    rw [ho] at hn
    obtain ⟨d, hd1, hd2, hd5, hn⟩ := dst_some hn
    rw [hd2] at hn
    exact aAlloc_ok hE h ho hd1 hd5 hn
  | box T x =>
    rw [ho] at hn
    obtain ⟨d, hd1, hd2, hd5, hn⟩ := dst_some hn
    rw [hd2] at hn
    exact aBox_ok (E := E) h ho hd1 hd5 hn
  | build T ps =>
    rw [ho] at hn
    dsimp only at hn
    split at hn
    · rename_i fs ks eq hT
      split at hn
      · rename_i av hb
        obtain ⟨v, h1, h2⟩ := aBuild_ok hE h hT hb
        exact goes_put h h2 (by simp [execOp, ho, h1]) hn
      · cases hn
    · cases hn
  | buildSlice T n ps =>
    rw [ho] at hn
    obtain ⟨d, hd1, hd2, hd5, hn⟩ := dst_some hn
    rw [hd2] at hn
    exact aBuildSlice_ok hE h ho hd1 hd5 hn
  | load T x =>
    rw [ho] at hn
    dsimp only at hn
    have old : (aLoad E σ T (σ.ev x) fun τ v => next (τ.put o.dst v)) = some r → o.wp P a w (Goes w0 S0 next r) Q := fun hn => by
      obtain ⟨u, τ, av, Im', bl', h1, h2, h3, h4⟩ := aLoad_ok hE h (h.ev x) hn
      exact wp_value (by simp [execOp, ho, h1]) ⟨_, h4, Im', hd, bl', h2.put o.dst h3⟩
    unfold aTake at hn
    split at hn
    · rename_i d c m i o' hd1 he
      split at hn
      · rename_i t xs cn n agg hc hT
        cases hb : takesB c with
        | false => rw [hb, cond_false] at hn; exact old hn
        | true =>
          rw [hb, cond_true] at hn
          obtain ⟨h1, hn1⟩ := chk_some hn
          obtain ⟨h2, hn2⟩ := chk_some hn1
          clear hn hn1
          simp only [Bool.and_eq_true, Bool.not_eq_true'] at h1
          obtain ⟨⟨⟨⟨⟨q1, q2⟩, q3⟩, q4⟩, q5⟩, q6⟩ := h1
          obtain rfl := Nat.eq_of_beq_eq_true q1
          obtain rfl := Nat.eq_of_beq_eq_true q2
          obtain rfl := Nat.eq_of_beq_eq_true q3
          subst q4
          have hcd : c ≠ d := fun e => by rw [e, Nat.beq_refl] at q5; cases q5
          have hi := of_decide_eq_true h2
          obtain ⟨⟨i0, hi0, hsz⟩, hagg, _⟩ := size_ok hE hT
          have hx := h.ev x
          rw [he] at hx
          obtain ⟨b2, f2, k0, hv⟩ := hx
          obtain ⟨b, f0, cap, cur, F, u, k1, k2, k3, k4, hd', bl', k5, k6⟩ := h.dig_ hc hcd (blt_lt q6) hi
          rw [top_slice k1] at k0; cases k0
          have hat : At w b2 (f2 + i * 1 + 0) [u] := by
            have h3 := drop_at k2 (f2 + i * 1 + 0) 1
            rw [Nat.mul_one, Nat.add_zero] at h3 ⊢
            rw [← List.drop_drop, take_one_at k3] at h3
            exact h3
          have hrun : (Instr.loadAt T (a.eval x)).run P w = .ok u w := by rw [hv]; exact run_load_at (P := P) hat hi0 hsz hagg (fun _ => rfl)
          refine wp_value (v := u) (w' := w) (by simp [execOp, ho, hrun]) ⟨_, hn2, Im, hd', bl', ?_⟩
          rw [hd1]
          exact k5.put (some d) (av := .cv (.own d)) (show u = hd' d from k6.symm)
      · exact old hn
    · exact old hn
  | store T x v =>
    rw [ho] at hn
    obtain ⟨w', h1, τ, h2, Im', hd', bl', h3⟩ := aStore_ok hE h (h.ev x) (h.ev v) hn
    exact wp_skip_ (w' := w') (by simp [execOp, ho, h1]) ⟨_, h2, Im', hd', bl', h3.put o.dst (av := .cv .dead) trivial⟩
  | nilCheck x =>
    rw [ho] at hn
    dsimp only at hn
    have hx := h.ev x
    split at hn
    · rename_i c o' he
      rw [he] at hx
      obtain ⟨b, e1, e2⟩ := hx
      exact goes_put h (av := .adr c o') ⟨b, e1, rfl⟩ (by simp [execOp, ho, e2]) hn
    · rename_i c n i o' he
      rw [he] at hx
      obtain ⟨b, f1, e1, e2⟩ := hx
      exact goes_put h (av := .el c n i o') ⟨b, f1, e1, rfl⟩ (by simp [execOp, ho, e2]) hn
    · rename_i l he
      rw [he] at hx
      have hx' := hx
      obtain ⟨pl, b, o', vs, hb, e2, _⟩ := hx
      exact goes_put h hx' (by simp [execOp, ho, e2]) hn
    · rename_i f l he
      rw [he] at hx
      have hx' := hx
      obtain ⟨ps, e1, _⟩ := hx
      exact goes_put h hx' (by simp [execOp, ho, e1]) hn
    · cases hn
  | binOp op T x y U =>
    rw [ho] at hn
    obtain ⟨v, av, h1, h2, h3⟩ := aBin_ok hE h (X := x) (Y := y) (h.ev x) (h.ev y) hn
    refine goes_put h h2 ?_ h3
    have e : execOp a.eval o = (do let u ← (do eqGuard op T x y (a.eval x) (a.eval y); Go.binOp op T (a.eval x) (a.eval y) : Sem Value); pure (Next.value u)) := by unfold execOp; rw [ho]
    rw [e, Sem.run_bind, h1]
    rfl
  | unOp op T x =>
    rw [ho] at hn
    dsimp only at hn
    split at hn
    · rename_i av hav
      obtain ⟨u, h1, h2⟩ := aUn_ok (P := P) (h.ev x) hav
      exact goes_put h h2 (by simp [execOp, ho, h1]) hn
    · cases hn
  | convert S D x =>
    rw [ho] at hn
    obtain ⟨u, av, h1, h2, h3⟩ := aConv_ok hE h (h.ev x) hn
    exact goes_put h h2 (by simp [execOp, ho, h1]) h3
  | makeFunc fn first caps =>
    rw [ho] at hn
    cases fn with
    | func f =>
      obtain ⟨h1, hnn⟩ := chk_some hn
      clear hn
      have hn := hnn
      clear hnn
      have hfirst : first = #[] := by simpa using h1
      subst hfirst
      split at hn
      · rename_i τ l hc
        obtain ⟨Im', g1, g2, g3⟩ := capture_ok h hc
        refine wp_value (v := .func (.func f) #[] (caps.map a.eval)) (w' := w) (by simp [execOp, ho, Instr.makeFunc]) ⟨_, hn, Im', hd, bl, g1.put o.dst ?_⟩
        exact ⟨caps.toList.map a.eval, by congr 1; apply Array.ext'; simp, g3⟩
      · cases hn
    | _ => cases hn
  | makeSlice T n c =>
    rw [ho] at hn
    obtain ⟨d, hd1, hd2, hd5, hn⟩ := dst_some hn
    rw [hd2] at hn
    exact aMakeSlice_ok hE h ho hd1 hd5 hn
  | slice T x lo hi mx =>
    rw [ho] at hn
    obtain ⟨h1, hn⟩ := chk_some hn
    rw [Bool.and_eq_true] at h1
    obtain ⟨d, hd1⟩ := Option.isSome_iff_exists.1 h1.1
    rw [hd1] at hn
    exact aSlice_ok hE h ho hd1 (by simpa using h1.2) hn
  | fieldAddr T x f =>
    rw [ho] at hn
    dsimp only at hn
    split at hn
    · rename_i off n agg hf
      obtain ⟨h1, hn⟩ := chk_some hn
      have h1' := Nat.le_of_ble_eq_true h1
      have hr := fun b o' => run_fieldAt (P := P) hE hf h1' b o' w
      have hx := h.ev x
      split at hn
      · rename_i c o' he
        rw [he] at hx
        obtain ⟨b, e1, e2⟩ := hx
        exact goes_put h (av := .adr c (o' + off)) ⟨b, e1, rfl⟩ (by simp [execOp, ho, e2, hr]) hn
      · rename_i c m i o' he
        rw [he] at hx
        obtain ⟨b, f1, e1, e2⟩ := hx
        exact goes_put h (av := .el c m i (o' + off)) ⟨b, f1, e1, rfl⟩ (by simp [execOp, ho, e2, hr, Nat.add_assoc]) hn
      · rename_i l he
        rw [he] at hx
        obtain ⟨pl, b, o', vs, hb, e2, hat, hcs⟩ := hx
        refine goes_put h (av := .ref (l.drop off)) (v := .pointer (some ⟨b, o' + off, none⟩)) ⟨plain_drop pl off, b, o' + off, vs.drop off, hb, rfl, ?_, hcs.drop off⟩ (by simp [execOp, ho, e2, hr]) hn
        intro j v hj
        rw [List.getElem?_drop] at hj
        have := hat (off + j) v hj
        rwa [← Nat.add_assoc] at this
      · cases hn
    · cases hn
  | field T x f =>
    rw [ho] at hn
    dsimp only at hn
    split at hn
    · rename_i off n agg l hf he
      obtain ⟨h1, hn⟩ := chk_some hn
      have hx := h.ev x
      rw [he] at hx
      obtain ⟨vs, e1, hvs⟩ := hx
      obtain ⟨u, h2, h3⟩ := run_field (P := P) hE hf hvs (Nat.le_of_ble_eq_true h1)
      exact goes_put h h3 (by simp [execOp, ho, e1, h2]) hn
    · cases hn
  | indexAddr T x i =>
    rw [ho] at hn
    dsimp only at hn
    split at hn
    · rename_i z hz
      obtain ⟨k, ek⟩ := aIx_of (h.ev i) hz
      obtain ⟨u, av, h1, h2, h3⟩ := aIndexAddr_ok (k := k) hE h (h.ev x) hn
      exact goes_put h h2 (by simp [execOp, ho, ek, h1]) h3
    · cases hn
  | index T x i =>
    rw [ho] at hn
    dsimp only at hn
    split at hn
    · rename_i z hz
      obtain ⟨k, ek⟩ := aIx_of (h.ev i) hz
      obtain ⟨u, av, h1, h2, h3⟩ := aIndexStr_ok (k := k) hE (h.ev x) hn
      exact goes_put h h2 (by simp [execOp, ho, ek, h1]) h3
    · cases hn
  | extract x i =>
    rw [ho] at hn
    dsimp only at hn
    split at hn
    · rename_i l he
      have hx := h.ev x
      rw [he] at hx
      obtain ⟨vs, e1, hvs⟩ := hx
      split at hn
      · rename_i p hp
        obtain ⟨v, h1, h2⟩ := hvs.get i p hp
        exact goes_put h h2.avr (by simp [execOp, ho, e1, run_extract h1]) hn
      · cases hn
    · cases hn
  | call c =>
    rw [ho] at hn
    dsimp only at hn
    split at hn
    · -- a builtin
      rename_i b hb
      have hop : execOp a.eval o = (do let d ← (pure { target := .builtin b c.argTypes o.type (c.args.map fun | .const _ => true | _ => false), args := c.args.map a.eval } : Sem Deferred); invoke d.target d.args) := by
        unfold execOp; rw [ho]; simp only [resolve, hb]; rfl
      split at hn
      · rename_i x hx
        split at hn
        · rename_i T ts hT
          obtain ⟨u, av, h1, h2, h3⟩ := aLen_ok (ts := ts) (ty := o.type) hE h (h.ev x) hn
          refine goes_put h h2 ?_ h3
          rw [← hT] at h1
          have hm : c.args.map a.eval = #[a.eval x] := by apply Array.ext'; simp [hx]
          rw [hop]
          simp only [Sem.run_bind, Sem.run_pure, Result.andThen_ok, invoke, builtin, hm]
          rw [Array.toArray_toList] at h1
          rw [h1]; rfl
        · cases hn
      · rename_i x hx
        split at hn
        · rename_i hnil
          split at hn
          · rename_i T ts hT
            split at hn
            · rename_i t hTy
              have hv := h.ev x
              rw [hnil] at hv
              have ex : a.eval x = .slice none 0 0 := hv
              obtain ⟨e, hu, _⟩ := kind_slice hE hTy
              refine goes_put h (av := .cv (.val (.int .i64) (0 : Int))) (v := .int .i64 0) ivr ?_ hn
              have hm : c.args.map a.eval = #[a.eval x] := by apply Array.ext'; simp [hx]
              have ha : c.argTypes = (T :: ts).toArray := by apply Array.ext'; simpa using hT
              rw [hop]
              simp only [Sem.run_bind, Sem.run_pure, Result.andThen_ok, invoke, builtin, hm, ha, ex]
              simp [Builtin.cap_, run_underlying hu, goInt]
            · cases hn
          · cases hn
        · cases hn
      · rename_i x y hx
        split at hn
        · rename_i T U hT
          obtain ⟨h0, hnn⟩ := chk_some hn
          clear hn
          have hn := hnn
          clear hnn
          rw [Bool.and_eq_true] at h0
          obtain rfl := Nat.eq_of_beq_eq_true h0.2
          obtain ⟨d, hd1, hd5⟩ := okDst_some h0.1
          rw [hd1] at hn
          obtain ⟨v', w', h1, key, τ, h2, Im', hd', bl', h3, h4⟩ := aAppend_ok hE h (h.ev x) (h.ev y) hd5 hn o.type
          have hm : c.args.map a.eval = #[a.eval x, a.eval y] := by apply Array.ext'; simp [hx]
          have ha : c.argTypes = #[T, T] := by apply Array.ext'; simpa using hT
          refine wp_value (v := v') (w' := w') ?_ ⟨_, h2, Im', hd', bl', ?_⟩
          · rw [hop]
            simp only [Sem.run_bind, Sem.run_pure, Result.andThen_ok, invoke, builtin, hm, ha, h1]
          · rw [hd1]; exact h3.put (some d) (av := .cv (.own key)) h4.symm
        · cases hn
      · rename_i l
        split at hn
        · rename_i av hav
          obtain ⟨x', y', k, m, n, hl, e1, e2, rfl⟩ := aMaxMin_ok hav
          match hcl : c.args.toList, hl with
          | [x, y], hl =>
            simp only [List.map_cons, List.map_nil, List.cons.injEq, and_true] at hl
            obtain ⟨rfl, rfl⟩ := hl
            have hx := h.ev x
            have hy := h.ev y
            rw [e1] at hx
            rw [e2] at hy
            have ex := int_of hx
            have ey := int_of hy
            have hm : c.args.map a.eval = #[a.eval x, a.eval y] := by apply Array.ext'; simp [hcl]
            refine goes_put h (av := .cv (.val (.int k) (if n > m then n else m))) (v := .int k (if n > m then n else m)) ivr ?_ (by simpa [cond_eq_ite] using hn)
            rw [hop]
            simp only [Sem.run_bind, Sem.run_pure, Result.andThen_ok, invoke, builtin, hm, ex, ey, run_max_int2]
        · cases hn
      · rename_i l
        split at hn
        · rename_i av hav
          obtain ⟨x', y', k, m, n, hl, e1, e2, rfl⟩ := aMaxMin_ok hav
          match hcl : c.args.toList, hl with
          | [x, y], hl =>
            simp only [List.map_cons, List.map_nil, List.cons.injEq, and_true] at hl
            obtain ⟨rfl, rfl⟩ := hl
            have hx := h.ev x
            have hy := h.ev y
            rw [e1] at hx
            rw [e2] at hy
            have ex := int_of hx
            have ey := int_of hy
            have hm : c.args.map a.eval = #[a.eval x, a.eval y] := by apply Array.ext'; simp [hcl]
            refine goes_put h (av := .cv (.val (.int k) (if n < m then n else m))) (v := .int k (if n < m then n else m)) ivr ?_ (by simpa [cond_eq_ite] using hn)
            rw [hop]
            simp only [Sem.run_bind, Sem.run_pure, Result.andThen_ok, invoke, builtin, hm, ex, ey, run_min_int2]
        · cases hn
      · cases hn
    · -- a function
      rename_i f hf
      split at hn
      · rename_i g caps he
        have hx := h.ev f
        rw [he] at hx
        obtain ⟨ps, e1, hps⟩ := hx
        obtain ⟨Im', h', hsub⟩ := ready_ok h E g (c.args.toList.map σ.ev)
        refine aCall_ok hG h' (vs := c.args.toList.map a.eval ++ ps) (AVs.app (AVs.evs h' _) (AVs.refs (RefRs.tell (Same.refl _ _) hsub hps))) ?_ hn
        have hop : execOp a.eval o = (do let d ← Deferred.ofValue (a.eval f) (c.args.map a.eval); invoke d.target d.args) := by
          unfold execOp; rw [ho]; simp only [resolve, hf]
        rw [hop, e1]
        have hargs : c.args.map a.eval ++ ps.toArray = (c.args.toList.map a.eval ++ ps).toArray := by apply Array.ext'; simp
        simp [Deferred.ofValue, invoke, hargs]
      · cases hn
    · cases hn
  | _ => rw [ho] at hn; cases hn

end
end Go.Vt
