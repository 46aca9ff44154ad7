/-
  A function's run: what the plain machine says that it gives, it gives.
  Conditions: the table of types is right (TyOk); so is the table of functions (FnOk).
-/
import Derived.Test.YtlgkjckddpnfnaaGreatDoorXvx
namespace Go.Vt
open Go.RowKit
set_option linter.unusedVariables false
set_option linter.unusedSimpArgs false

section
variable {P : Program} {ρ : Type} {gw : Gw} {w0 : Base gw} {w : World} {S0 : Nat → Prop} {σ : St} {a : Act} {Im : Nat → Prop} {hd : Nat → Value} {bl : Nat → List Nat} {Q : Exit → Act → World → Prop}

/-- From here on the function comes to its end, with what R says. -/
def Ends (P : Program) (fn : Func) (R : Value → World → Prop) (its : List Item) (a : Act) (w : World) : Prop :=
  ∀ (b : Frame) (cs : List Frame), ∃ a' w' todo v, Steps P (lone (b.at a its) cs w) (lone { b.at a' todo with mode := .returning } cs w') ∧ a'.defers = [] ∧ (results fn a'.tmps).run P w' = .ok v w' ∧ R v w'

theorem Ends.step {fn : Func} {R : Value → World → Prop} {its its' : List Item} {a a' : Act} {w w' : World} (h : Ends P fn R its' a' w') (hs : ∀ (b : Frame) (cs : List Frame), Steps P (lone (b.at a its) cs w) (lone (b.at a' its') cs w')) : Ends P fn R its a w := by
  intro b cs
  obtain ⟨a2, w2, todo, v, h1, h2⟩ := h b cs
  exact ⟨a2, w2, todo, v, (hs b cs).trans h1, h2⟩

/-- A region whose operations come up in the text's order. -/
theorem region_ok {E : Env} (hE : ∀ T ti, E.ty T = some ti → TyOk P T ti) {ck : (fi : Fi) → Aden fi.ps → Option (Oden (flatRs fi.rs) (ioOf fi.ps))} (hG : ∀ f ids fi, E.fn f ids = some fi → ∀ x y, ck fi x = some y → Gives P gw f fi x y)
    (h : SR w0 S0 σ a w) {id : Nat} {ops : Array Oper} {its : List Item} {next : St → Option ρ} {r : ρ} (hn : aOps E ck ops.toList ops.toList σ next = some r) {fn : Func} {R : Value → World → Prop}
    (hk : ∀ a w, Goes w0 S0 next r a w → Ends P fn R its a w) : Ends P fn R (.code (.region id ops false) :: its) a w := by
  intro b cs
  have hl := aOps_ok (Q := fun e a w => e = .normal ∧ Goes w0 S0 next r a w) hE hG (fun a w h => ⟨rfl, h⟩) h hn
  have hw : wpOps P ops (fun e a w => e = .normal ∧ Goes w0 S0 next r a w) (List.range ops.size) a w := by
    rw [List.range_eq_range', ← Array.length_toList, wpOps_eq_wpList ops.toList 0 (by simp)]; exact hl
  obtain ⟨e, a', w', ⟨rfl, hg⟩, harr⟩ := wp_ops _ a w hw b its cs
  obtain ⟨a2, w2, todo, v, h1, h2⟩ := hk a' w' hg b cs
  exact ⟨a2, w2, todo, v, (Steps.one step_region).trans (Steps.trans harr h1), h2⟩

theorem draw_ok (hm : P.follows .mixedOrders = true) {E : Env} (hE : ∀ T ti, E.ty T = some ti → TyOk P T ti) {ck : (fi : Fi) → Aden fi.ps → Option (Oden (flatRs fi.rs) (ioOf fi.ps))} (hG : ∀ f ids fi, E.fn f ids = some fi → ∀ x y, ck fi x = some y → Gives P gw f fi x y)
    (h : SR w0 S0 σ a w) {id : Nat} {ops : Array Oper} {its : List Item} {next : St → Option ρ} {r : ρ} (hn : aDraw E ck ops σ next = some r) {fn : Func} {R : Value → World → Prop}
    (hk : ∀ a w, Goes w0 S0 next r a w → Ends P fn R its a w) : Ends P fn R (.code (.region id ops true) :: its) a w := by
  intro b cs
  obtain ⟨e, a', w', ⟨rfl, hg⟩, harr⟩ := aDraw_ok hm hE hG h (id := id) hn b its cs
  obtain ⟨a2, w2, todo, v, h1, h2⟩ := hk a' w' hg b cs
  exact ⟨a2, w2, todo, v, Steps.trans harr h1, h2⟩

theorem cond_slot (h : SRi w0 S0 σ a w Im hd bl) {t : Nat} {b : Bool} (he : σ.ev (.tmp t) = .cv (.val .bool b)) : SRi w0 S0 (σ.put (some t) (.cv (.val .bool b))) a w Im hd bl := by
  have hx := h.ev (.tmp t)
  rw [he] at hx
  exact h.retell hx

theorem rdenB_eq : ∀ {rs : List RC} {x y : Rden rs}, rdenB rs x y = true → x = y
  | [], _, _, _ => rfl
  | [c], x, y, h => denB_eq c.t x y h
  | c :: d :: r, x, y, h => by
    have h' : (denB c.t x.1 y.1 && rdenB (d :: r) x.2 y.2) = true := h
    rw [Bool.and_eq_true] at h'
    exact Prod.ext (denB_eq c.t _ _ h'.1) (rdenB_eq h'.2)
theorem odenB_eq : ∀ {rs ios : List RC} {x y : Oden rs ios}, odenB rs ios x y = true → x = y
  | rs, [], x, y, h => rdenB_eq (rs := rs) h
  | rs, i :: r, x, y, h => by
    have h' : (rdenB rs x.1 y.1 && rdenB (i :: r) x.2 y.2) = true := h
    rw [Bool.and_eq_true] at h'
    exact Prod.ext (rdenB_eq h'.1) (rdenB_eq h'.2)
theorem seg_ok (hm : P.follows .mixedOrders = true) {E : Env} (hE : ∀ T ti, E.ty T = some ti → TyOk P T ti) {k : Nat} {rec_ : Rec E} (hG : ∀ f ids fi, E.fn f ids = some fi → ∀ x y, callBy E k rec_ fi x = some y → Gives P gw f fi x y)
    {rs : List (Bool × List RC)} {ios : List RC} (hio : ∀ c ∈ ios, IoRC c) (hl : w0.hs.length = ios.length) {res : List ResultVar} {hints : Nat → Option (List Hint)} {fn : Func} (hres : fn.results.toList = res) {y : Oden (flatRs rs) ios}
    (hrec : ∀ its σ, rec_ rs ios res hints its σ = some y → ∀ a w, SR w0 S0 σ a w → Ends P fn (fun v w' => Kept w0 w' ∧ ResR w0 w' S0 rs ios w0.hs y v) its a w) :
    ∀ (n : Nat) (its : List Item) (σ : St) (a : Act) (w : World), SR w0 S0 σ a w → seg E k rec_ rs ios res hints n its σ = some y → Ends P fn (fun v w' => Kept w0 w' ∧ ResR w0 w' S0 rs ios w0.hs y v) its a w := by
  have done : ∀ (σ : St) (a : Act) (w : World), SR w0 S0 σ a w → aRetI E res rs σ ios = some y → a.defers = [] ∧ ∃ v, (results fn a.tmps).run P w = .ok v w ∧ (Kept w0 w ∧ ResR w0 w S0 rs ios w0.hs y v) := by
    intro σ a w ⟨Im, hd, bl, h⟩ hr
    obtain ⟨v, h1, h2⟩ := aRetI_ok hE h hres hio hl hr
    exact ⟨h.nodef, v, h1, h.below, h2⟩
  intro n
  induction n with
  | zero => intro its σ a w h hs; cases hs
  | succ n ih =>
    intro its σ a w h hs
    cases its with
    | nil =>
      have hs' : aRetI E res rs σ ios = some y := hs
      obtain ⟨h1, v, h2, h3⟩ := done σ a w h hs'
      intro b cs
      exact ⟨a, w, [], v, Steps.one step_end, h1, h2, h3⟩
    | cons it its =>
      cases it with
      | code c =>
        cases c with
        | skip => exact (ih its σ a w h hs).step fun b cs => Steps.one step_skip
        | seq x z => exact (ih _ σ a w h hs).step fun b cs => Steps.one step_seq
        | block id x => exact (ih _ σ a w h hs).step fun b cs => Steps.one step_block
        | loop x => exact (ih _ σ a w h hs).step fun b cs => Steps.one step_loop
        | ret =>
          have hs' : aRetI E res rs σ ios = some y := hs
          obtain ⟨h1, v, h2, h3⟩ := done σ a w h hs'
          intro b cs
          exact ⟨a, w, _, v, Steps.one step_ret, h1, h2, h3⟩
        | exit id =>
          unfold seg at hs
          dsimp only at hs
          cases he : exitTo id its with
          | none => rw [he] at hs; cases hs
          | some r' =>
            rw [he] at hs
            exact (ih _ σ a w h hs).step fun b cs => Steps.one (step_exit he)
        | cond c x z =>
          unfold seg at hs
          dsimp only at hs
          split at hs
          · rename_i t b he
            obtain ⟨Im, hd, bl, h⟩ := h
            have hx := h.ev (.tmp t)
            rw [he] at hx
            have hb := bool_of hx
            have h2 := cond_slot h he
            cases b with
            | true => rw [cond_true] at hs; exact (ih _ _ a w ⟨Im, hd, bl, h2⟩ hs).step fun b cs => Steps.one (step_cond (t := true) hb)
            | false => rw [cond_false] at hs; exact (ih _ _ a w ⟨Im, hd, bl, h2⟩ hs).step fun b cs => Steps.one (step_cond (t := false) hb)
          · rename_i t he
            obtain ⟨Im, hd, bl, h⟩ := h
            have hx := h.ev (.tmp t)
            rw [he] at hx
            obtain ⟨b, hb⟩ := hx
            unfold both at hs
            split at hs
            · rename_i x1 x2 e1 e2
              cases hq : odenB (flatRs rs) ios x1 x2 with
              | false => rw [hq] at hs; cases hs
              | true =>
                rw [hq, cond_true] at hs
                cases hs
                have hxy := odenB_eq hq
                have h2 : ∀ b', SRi w0 S0 (σ.put (some t) (.cv (.val .bool b'))) a w Im hd bl ∨ b' ≠ b := fun b' => by
                  by_cases q : b' = b
                  · subst q
                    exact .inl (h.retell (g := t) (av := .cv (.val .bool b')) (by
                      have : a.tmps.getD t undef = .bool b' := hb
                      rw [this]; exact bvr))
                  · exact .inr q
                cases b with
                | true => exact (ih _ _ a w ⟨Im, hd, bl, (h2 true).resolve_right (fun q => q rfl)⟩ e1).step fun b cs => Steps.one (step_cond (t := true) hb)
                | false =>
                  exact (ih _ _ a w ⟨Im, hd, bl, (h2 false).resolve_right (fun q => q rfl)⟩ (e2.trans (congrArg some hxy.symm))).step fun b cs => Steps.one (step_cond (t := false) hb)
            · cases hs
          · rename_i v b he
            obtain ⟨Im, hd, bl, h⟩ := h
            have hx := h.ev (.const v)
            rw [he] at hx
            have hb := bool_of hx
            cases b with
            | true => rw [cond_true] at hs; exact (ih _ _ a w ⟨Im, hd, bl, h⟩ hs).step fun b cs => Steps.one (step_cond (t := true) hb)
            | false => rw [cond_false] at hs; exact (ih _ _ a w ⟨Im, hd, bl, h⟩ hs).step fun b cs => Steps.one (step_cond (t := false) hb)
          · cases hs
        | region id ops draw =>
          unfold seg at hs
          dsimp only at hs
          have run : (bif draw then aDraw E (callBy E k rec_) ops { σ.home ops with cut := false } fun τ => seg E k rec_ rs ios res hints n its τ
              else aOps E (callBy E k rec_) ops.toList ops.toList { σ.home ops with cut := false } fun τ => seg E k rec_ rs ios res hints n its τ) = some y →
              Ends P fn (fun v w' => Kept w0 w' ∧ ResR w0 w' S0 rs ios w0.hs y v) (.code (.region id ops draw) :: its) a w := by
            intro hr
            obtain ⟨Im, hd, bl, h⟩ := home_ok h ops
            cases draw with
            | false => exact region_ok hE hG ⟨Im, hd, bl, h.cut false⟩ hr fun a w ⟨τ, ht, hs⟩ => ih its τ a w hs ht
            | true => exact draw_ok hm hE hG ⟨Im, hd, bl, h.cut false⟩ hr fun a w ⟨τ, ht, hs⟩ => ih its τ a w hs ht
          split at hs
          · rename_i hs' hh
            cases hc : σ.cut with
            | true => rw [hc] at hs; exact run hs
            | false =>
              rw [hc, cond_false] at hs
              split at hs
              · rename_i τ hm
                exact hrec _ τ hs a w (meet_ok h hm)
              · cases hs
          · exact run hs
        | _ => cases hs
      | inBlock id => exact (ih its σ a w h hs).step fun b cs => Steps.one step_inBlock
      | inLoop x => exact (ih _ σ a w h hs).step fun b cs => Steps.one step_inLoop
      | _ => cases hs

/-! ### functions -/
/-- The table of functions is right. -/
def FnOk (P : Program) (gw : Gw) (E : Env) : Prop := ∀ f ids fi, E.fn f ids = some fi →
  (∀ g, fi.ext = some g → ∀ k x y, g k x = some y → Gives P gw f fi x y) ∧
  (fi.ext = none → ∃ fn, P.funcs[f]? = some fn ∧ (fn.name == "runtime.NumGoroutine") = false ∧ fn.body = some fi.code ∧ fn.results.toList = fi.res ∧ fn.ntmps = fi.nt ∧ fi.ps.length ≤ fi.nt)

theorem capsOf_ok {S : Nat → Prop} : ∀ {ts : List Ty} {ps : List Value} {x : (tupTy ts).den}, CapsR w S ps ts x → RefRs w S (fun _ => undef) ps (capsOf ts x)
  | [], [], _, _ => trivial
  | [t], [v], x, h => by
    obtain ⟨b, o, cs, hb, rfl, hat, hv⟩ := h
    exact ⟨⟨plain_explode t x, b, o, cs, hb, rfl, hat, explode_CVs hv⟩, trivial⟩
  | t :: q :: r, v :: u :: vs, x, h => by
    obtain ⟨b, o, cs, hb, rfl, hat, hv⟩ := h.1
    exact ⟨⟨plain_explode t x.1, b, o, cs, hb, rfl, hat, explode_CVs hv⟩, capsOf_ok (ts := q :: r) h.2⟩
  | [], [_], _, h => by cases h
  | [], _ :: _ :: _, _, h => by cases h
  | [_], [], _, h => by cases h
  | [_], _ :: _ :: _, _, h => by cases h
  | _ :: _ :: _, [], _, h => by cases h
  | _ :: _ :: _, [_], _, h => by cases h

/-- The rows that are handed in, as objects. -/
def IoObs (w : World) (S : Nat → Prop) : Nat → List (Nat × Ob) → List Value → List (List Nat) → Prop
  | _, [], [], [] => True
  | n, (k, o) :: obs, v :: H, l :: bls => k = 500000 + n ∧ (∀ hd, ObR w S hd v l o) ∧ IoObs w S (n + 1) obs H bls
  | _, _, _, _ => False
theorem IoObs.app {S : Nat → Prop} : ∀ {A : List (Nat × Ob)} {n : Nat} {H1 : List Value} {b1 : List (List Nat)} {B : List (Nat × Ob)} {H2 : List Value} {b2 : List (List Nat)}, IoObs w S n A H1 b1 → IoObs w S (n + H1.length) B H2 b2 → IoObs w S n (A ++ B) (H1 ++ H2) (b1 ++ b2)
  | [], n, [], [], _, _, _, _, h => h
  | (k, o) :: A, n, v :: H1, l :: b1, B, H2, b2, h, g => by
    refine ⟨h.1, h.2.1, IoObs.app h.2.2 ?_⟩
    rw [List.length_cons] at g
    rw [show n + 1 + H1.length = n + (H1.length + 1) by omega]; exact g
  | [], _, [], _ :: _, _, _, _, h, _ => h.elim
  | [], _, _ :: _, _, _, _, _, h, _ => h.elim
  | _ :: _, _, [], _, _, _, _, h, _ => h.elim
  | _ :: _, _, _ :: _, [], _, _, _, h, _ => h.elim
theorem IoObs.get {S : Nat → Prop} : ∀ {obs : List (Nat × Ob)} {n : Nat} {H : List Value} {bls : List (List Nat)}, IoObs w S n obs H bls → ∀ c o, obGet obs c = some o → ∃ j v l, c = 500000 + n + j ∧ H[j]? = some v ∧ bls[j]? = some l ∧ ∀ hd, ObR w S hd v l o
  | [], _, _, _, _, c, o, h => by cases h
  | (k, p) :: obs, n, v :: H, l :: bls, hI, c, o, h => by
    rw [obGet_cons] at h
    by_cases e : k = c
    · subst e
      simp at h; subst h
      exact ⟨0, v, l, hI.1, rfl, rfl, hI.2.1⟩
    · simp [e] at h
      obtain ⟨j, v', l', h1, h2, h3, h4⟩ := IoObs.get hI.2.2 c o h
      exact ⟨j + 1, v', l', by omega, by simpa using h2, by simpa using h3, h4⟩
  | _ :: _, _, [], _, hI, _, _, _ => hI.elim
  | _ :: _, _, _ :: _, [], hI, _, _, _ => hI.elim
/-- What of a list of heads the state's objects say. -/
def HeadsAt (hd : Nat → Value) (n : Nat) (H : List Value) : Prop := ∀ j v, H[j]? = some v → hd (500000 + n + j) = v
theorem HeadsAt.left {hd : Nat → Value} {n : Nat} {A B : List Value} (h : HeadsAt hd n (A ++ B)) : HeadsAt hd n A := fun j v hj => h j v (by
  have hlt : j < A.length := (List.getElem?_eq_some_iff.1 hj).1
  rw [List.getElem?_append_left hlt]; exact hj)
theorem HeadsAt.right {hd : Nat → Value} {n : Nat} {A B : List Value} (h : HeadsAt hd n (A ++ B)) : HeadsAt hd (n + A.length) B := fun j v hj => by
  have := h (A.length + j) v (by rw [List.getElem?_append_right (by omega)]; simpa using hj)
  rw [← this]; congr 1; omega
theorem oCell_ok {S : Nat → Prop} (n : Nat) {c : PC} {v : Value} {L : List Nat} {x : c.ty.den} (h : PCR w S v L c x) : ∃ bls : List (List Nat), L = bls.flatten ∧ IoObs w S n (oObj n c x) (cellHeads [c] [v]) bls ∧ (cellHeads [c] [v]).length = c.io ∧ (cellHeads [c] [v]).length = (pcRC [c]).length ∧ (∀ hd, HeadsAt hd n (cellHeads [c] [v]) → CVR w S hd v (oCell n c x)) := by
  cases c with
  | v t => exact ⟨[], h.2, trivial, rfl, rfl, fun hd _ => h.1⟩
  | o t d => exact ⟨[L], by simp, ⟨rfl, fun hd => ⟨h, fun e => by cases e⟩, trivial⟩, rfl, rfl, fun hd hh => by have := hh 0 v rfl; exact this.symm⟩
theorem oCells_ok {S : Nat → Prop} : ∀ {cs : List PC} (n : Nat) {vs : List Value} {L : List Nat} {x : (tupTy (cs.map PC.ty)).den}, PCs w S vs L cs x →
    ∃ bls : List (List Nat), L = bls.flatten ∧ IoObs w S n (oObjs n cs x) (cellHeads cs vs) bls ∧ (cellHeads cs vs).length = (pcRC cs).length ∧ (∀ hd, HeadsAt hd n (cellHeads cs vs) → CVs w S hd vs (oCells n cs x))
  | [], n, vs, L, x, h => by
    match vs, h with
    | [], h => exact ⟨[], h, trivial, rfl, fun _ _ => trivial⟩
    | [_], h => exact h.elim
    | _ :: _ :: _, h => exact h.elim
  | [c], n, vs, L, x, h => by
    match vs, h with
    | [v], h =>
      obtain ⟨bls, h1, h2, _, h3, h4⟩ := oCell_ok n (show PCR w S v L c x from h)
      exact ⟨bls, h1, h2, h3, fun hd hh => ⟨h4 hd hh, trivial⟩⟩
  | c :: d :: r, n, vs, L, x, h => by
    match vs, h with
    | v :: u :: us, h =>
      obtain ⟨L1, L2, e, h1, h2⟩ := h
      obtain ⟨b1, k1, k2, k3, k4, k5⟩ := oCell_ok n h1
      obtain ⟨b2, j1, j2, j3, j4⟩ := oCells_ok (cs := d :: r) (n + c.io) h2
      rw [cellHeads_cons]
      refine ⟨b1 ++ b2, by rw [e, k1, j1, List.flatten_append], IoObs.app k2 (by rw [k3]; exact j2), ?_, fun hd hh => ⟨k5 hd hh.left, j4 hd (by have := hh.right; rw [k3] at this; exact this)⟩⟩
      have : (pcRC (c :: d :: r)).length = (pcRC [c]).length + (pcRC (d :: r)).length := by cases c <;> simp [pcRC]; omega
      rw [List.length_append, k4, j3, this]
theorem slot1_ok {S : Nat → Prop} (n : Nat) {p : PT} {v : Value} {L : List Nat} {H : List Value} {x : p.ty.den} (h : ArgO w S v L H p x) :
    ∃ bls : List (List Nat), L = bls.flatten ∧ IoObs w S n (objs1 n p x) H bls ∧ H.length = p.io ∧ (∀ hd, HeadsAt hd n H → AVR w S hd v (slot1 n p x)) := by
  cases p with
  | v t agg =>
    obtain ⟨⟨cs, rfl, _, hv⟩, rfl, rfl⟩ := h
    exact ⟨[], rfl, trivial, rfl, fun hd _ => ofCells_AVR (explode_CVs hv)⟩
  | r t =>
    obtain ⟨⟨b, o, cs, hb, rfl, hat, hv⟩, rfl, rfl⟩ := h
    exact ⟨[], rfl, trivial, rfl, fun hd _ => RefR.of_VR hb hat hv⟩
  | z t =>
    obtain ⟨⟨rfl, rfl⟩, rfl, rfl⟩ := h
    exact ⟨[], rfl, trivial, rfl, fun hd _ => rfl⟩
  | fn f ts =>
    obtain ⟨⟨ps, rfl, hps⟩, rfl, rfl⟩ := h
    exact ⟨[], rfl, trivial, rfl, fun hd _ => ⟨ps, rfl, capsOf_ok hps⟩⟩
  | o cs agg =>
    obtain ⟨vs, rfl, _, hp, rfl⟩ := h
    obtain ⟨bls, h1, h2, h3, h4⟩ := oCells_ok n hp
    exact ⟨bls, h1, h2, h3, fun hd hh => ofCells_AVR (h4 hd hh)⟩
  | p s t =>
    obtain ⟨hB, rfl⟩ := h
    obtain ⟨b, cs, E, e1, e2, e3, e4⟩ := hB
    refine ⟨[L], by simp, ⟨rfl, fun hd => BoxR.obj ⟨b, cs, E, e1, e2, e3, e4⟩, trivial⟩, rfl, fun hd hh => ?_⟩
    have := hh 0 v rfl
    exact ⟨b, this.trans e1, e1⟩
theorem firstSlots_ok {S : Nat → Prop} : ∀ {ps : List PT} (n : Nat) {x : Aden ps} {vs : List Value} {L : List Nat} {H : List Value}, ArgsO w S vs L H ps x →
    ∃ bls : List (List Nat), L = bls.flatten ∧ IoObs w S n (firstObs n ps x) H bls ∧ H.length = (ioOf ps).length ∧ vs.length = ps.length ∧ (firstSlots n ps x).length = ps.length ∧
      ∀ hd, HeadsAt hd n H → ∀ (i : Nat) (av : AV), (firstSlots n ps x)[i]? = some av → ∃ v, vs[i]? = some v ∧ AVR w S hd v av := by
  have pio : ∀ (p : PT) (r : List PT), (ioOf (p :: r)).length = p.io + (ioOf r).length := by intro p r; cases p <;> simp [ioOf, PT.io] <;> omega
  intro ps
  induction ps with
  | nil =>
    intro n x vs L H h
    match vs, h with
    | [], h => obtain ⟨rfl, rfl⟩ := h; exact ⟨[], rfl, trivial, rfl, rfl, rfl, fun hd _ i av hi => by simp [firstSlots] at hi⟩
    | [_], h => exact h.elim
    | _ :: _ :: _, h => exact h.elim
  | cons p ps ih =>
    cases ps with
    | nil =>
      intro n x vs L H h
      match vs, h with
      | [v], h =>
        obtain ⟨bls, h1, h2, h3, h4⟩ := slot1_ok n (show ArgO w S v L H p x from h)
        refine ⟨bls, h1, h2, by rw [pio, h3]; rfl, rfl, rfl, fun hd hh i av hi => ?_⟩
        cases i with
        | zero => exact ⟨v, rfl, by cases (show some (slot1 n p x) = some av from hi); exact h4 hd hh⟩
        | succ i => simp [firstSlots] at hi
    | cons q r =>
      intro n x vs L H h
      match vs, h with
      | v :: u :: us, h =>
        obtain ⟨L1, L2, H1, H2, e1, e2, h1, h2⟩ := h
        obtain ⟨b1, k1, k2, k3, k4⟩ := slot1_ok n h1
        obtain ⟨b2, j1, j2, j3, j4, j5, j6⟩ := ih (n + p.io) h2
        subst e2
        refine ⟨b1 ++ b2, by rw [e1, k1, j1, List.flatten_append], IoObs.app k2 (by rw [k3]; exact j2), by rw [List.length_append, pio, k3, j3], by simp at j4 ⊢; exact j4, by show (slot1 n p x.1 :: firstSlots (n + p.io) (q :: r) x.2).length = _; simp at j5 ⊢; exact j5, fun hd hh i av hi => ?_⟩
        cases i with
        | zero => exact ⟨v, rfl, by cases (show some (slot1 n p x.1) = some av from hi); exact k4 hd hh.left⟩
        | succ i => exact j6 hd (by have := hh.right; rw [k3] at this; exact this) i av hi

theorem flatten_get {bls : List (List Nat)} (hn : bls.flatten.Nodup) : (∀ (j : Nat) (l : List Nat), bls[j]? = some l → l.Nodup ∧ ∀ b ∈ l, b ∈ bls.flatten) ∧ ∀ (i j : Nat) (l m : List Nat), bls[i]? = some l → bls[j]? = some m → i ≠ j → ∀ b ∈ l, b ∉ m := by
  induction bls with
  | nil => exact ⟨fun j l h => by simp at h, fun i j l m h => by simp at h⟩
  | cons a bls ih =>
    rw [List.flatten_cons, List.nodup_append] at hn
    obtain ⟨k1, k2⟩ := ih hn.2.1
    refine ⟨fun j l h => ?_, fun i j l m hi hj hne b hb hb2 => ?_⟩
    · cases j with
      | zero => cases (show some a = some l from h); exact ⟨hn.1, fun b hb => by simp [hb]⟩
      | succ j =>
        obtain ⟨h1, h2⟩ := k1 j l (by simpa using h)
        exact ⟨h1, fun b hb => by rw [List.flatten_cons]; exact List.mem_append.2 (.inr (h2 b hb))⟩
    · cases i with
      | zero =>
        cases (show some a = some l from hi)
        cases j with
        | zero => exact hne rfl
        | succ j =>
          obtain ⟨_, h2⟩ := k1 j m (by simpa using hj)
          exact hn.2.2 b hb b (h2 b hb2) rfl
      | succ i =>
        cases j with
        | zero =>
          cases (show some a = some m from hj)
          obtain ⟨_, h2⟩ := k1 i l (by simpa using hi)
          exact hn.2.2 b hb2 b (h2 b hb) rfl
        | succ j => exact k2 i j l m (by simpa using hi) (by simpa using hj) (by omega) b hb hb2

theorem start_ok {B : Base gw} {nt : Nat} {ps : List PT} {x : Aden ps} {vs : List Value} {S : Nat → Prop} {L : List Nat} (hS : ∀ b, S b → b < B.w.heap.size) (hL : L.Nodup) (hLb : ∀ b ∈ L, B.mine b ∧ b < B.w.heap.size ∧ ¬ S b) (ha : ArgsO B.w S vs L B.hs ps x) (hn : ps.length ≤ nt) :
    SR B S (start0 nt ps x) { tmps := vs.toArray ++ Array.replicate (nt - vs.toArray.size) undef, defers := [] } B.w := by
  obtain ⟨bls, g1, g2, g3, h1, h2, h3⟩ := firstSlots_ok 0 ha
  subst g1
  obtain ⟨f1, f2⟩ := flatten_get hL
  have hobj : ∀ c o, obGet (firstObs 0 ps x) c = some o → ∃ j v l, c = 500000 + j ∧ B.hs[j]? = some v ∧ bls[j]? = some l ∧ ∀ hd, ObR B.w S hd v l o := fun c o hc => by
    obtain ⟨j, v, l, e1, e2⟩ := g2.get c o hc
    exact ⟨j, v, l, by omega, e2⟩
  obtain ⟨hdf, hhd⟩ : ∃ hdf : Nat → Value, ∀ j v, B.hs[j]? = some v → hdf (500000 + j) = v := ⟨fun c => B.hs.getD (c - 500000) undef, fun j v hj => by
    show B.hs.getD (500000 + j - 500000) undef = v
    rw [Nat.add_sub_cancel_left, List.getD, hj]; rfl⟩
  obtain ⟨blf, hbl⟩ : ∃ blf : Nat → List Nat, ∀ j l, bls[j]? = some l → blf (500000 + j) = l := ⟨fun c => bls.getD (c - 500000) [], fun j l hj => by
    show bls.getD (500000 + j - 500000) [] = l
    rw [Nat.add_sub_cancel_left, List.getD, hj]; rfl⟩
  refine ⟨S, hdf, blf, Kept.refl _, fun _ h => h, fun _ h => .inl h, hS, rfl, ?_, fun i av hi => ?_, fun c o hc => ?_, fun c o hc => ?_, fun c o d p hc hd hne => ?_, hhd⟩
  · show (vs.toArray ++ Array.replicate _ undef).size = (firstSlots 0 ps x ++ List.replicate _ _).length
    rw [List.length_append, List.length_replicate, h2, Array.size_append, Array.size_replicate, List.size_toArray, h1]
  · have hi' : (firstSlots 0 ps x ++ List.replicate (nt - ps.length) (.cv .dead))[i]? = some av := hi
    rw [List.getElem?_append] at hi'
    split at hi'
    · rename_i hlt
      obtain ⟨v, hv, hav⟩ := h3 hdf (fun j v hj => by rw [Nat.add_zero]; exact hhd j v hj) i av hi'
      have : (vs.toArray ++ Array.replicate (nt - vs.toArray.size) undef).getD i undef = v := by
        rw [Array.getD_eq_getD_getElem?, Array.getElem?_append_left (by rw [List.size_toArray]; omega), List.getElem?_toArray, hv]; rfl
      show AVR B.w S _ ((vs.toArray ++ Array.replicate (nt - vs.toArray.size) undef).getD i undef) av
      rw [this]; exact hav
    · rw [List.getElem?_replicate] at hi'
      split at hi'
      · cases hi'; trivial
      · cases hi'
  · obtain ⟨j, v, l, rfl, e1, e2, e3⟩ := hobj c o hc
    rw [hhd j v e1, hbl j l e2]
    exact e3 _
  · obtain ⟨j, v, l, rfl, e1, e2, _⟩ := hobj c o hc
    rw [hbl j l e2]
    obtain ⟨k1, k2⟩ := f1 j l e2
    exact ⟨k1, fun b hb => hLb b (k2 b hb)⟩
  · obtain ⟨i, v, l, rfl, e1, e2, _⟩ := hobj c o hc
    obtain ⟨j, v', l', rfl, e3, e4, _⟩ := hobj d p hd
    rw [hbl i l e2, hbl j l' e4]
    exact f2 i j l l' e2 e4 (by omega)

theorem SR.unheads {B : Base gw} {H : List Value} {S : Nat → Prop} {σ : St} {a : Act} (h : SR (⟨B.w, B.mine, B.up, B.hg, H⟩ : Base gw) S σ a w) (hH : B.hs = []) : SR B S σ a w := by
  obtain ⟨Im, hd, bl, h⟩ := h
  exact ⟨Im, hd, bl, h.below, h.sub, h.new, h.lt, h.nodef, h.size, h.slots, h.objs, h.own, h.apart, fun j v hj => by rw [hH] at hj; simp at hj⟩
theorem start1_ok {B : Base gw} {nt : Nat} {ps : List PT} {x : Aden ps} {v : Value} {us : List Value} {S : Nat → Prop} {L : List Nat} (hS : ∀ b, S b → b < B.w.heap.size) (hL : L.Nodup) (hLb : ∀ b ∈ L, B.mine b ∧ b < B.w.heap.size ∧ ¬ S b) (hH : B.hs = []) (ha : ArgsG false B.w S v us L ps x) (hn : ps.length ≤ nt) :
    SR B S (start1 nt ps x) { tmps := (v :: us).toArray ++ Array.replicate (nt - (v :: us).toArray.size) undef, defers := [] } B.w ∧ (ioOf ps).length = 0 := by
  match ps, x, ha, hn with
  | .v (.slice t) false :: q :: r, x, ha, hn =>
    obtain ⟨h1, h2⟩ := ha
    have hu : ∃ u us', us = u :: us' := by
      cases us with
      | nil => cases r <;> exact h2.elim
      | cons u us' => exact ⟨u, us', rfl⟩
    obtain ⟨u, us', rfl⟩ := hu
    have ho : ArgsO B.w S (v :: u :: us') L [v] (.o [.o t false] false :: q :: r) x := ⟨L, [], [v], [], (List.append_nil L).symm, rfl, ⟨[v], rfl, fun _ => rfl, h1, rfl⟩, h2.o⟩
    refine ⟨SR.unheads (H := [v]) (start_ok (B := (⟨B.w, B.mine, B.up, B.hg, [v]⟩ : Base gw)) (nt := nt) (ps := .o [.o t false] false :: q :: r) (x := x) hS hL hLb ho hn) hH, ?_⟩
    obtain ⟨_, _, _, h3, _⟩ := firstSlots_ok 0 (h2.o)
    exact h3.symm
theorem calls_of_ends {f : FuncId} {fn : Func} {c : Code} {args : Array Value} {R : Value → World → Prop} (hf : P.funcs[f]? = some fn) (hb : fn.body = some c)
    (h : Ends P fn R [.code c] { tmps := args ++ Array.replicate (fn.ntmps - args.size) undef, defers := [] } w) : Calls P f args w fun e w' => match e with | .returned v => R v w' | _ => False := by
  intro cs
  let b : Frame := { (default : Frame) with fn := f, kind := .normal }
  have henter : Frame.enter P f args .normal = b.at { tmps := args ++ Array.replicate (fn.ntmps - args.size) undef, defers := [] } [.code c] := by
    simp [Frame.enter, Frame.at, hf, hb, b]
  obtain ⟨a', w', todo, v, h1, h2, h3, h4⟩ := h b cs
  rw [← henter] at h1
  exact ⟨.returned v, w', _, h4, h1, rfl, rfl, h2, rfl, fn, hf, h3⟩

theorem ArgsO.count {S : Nat → Prop} {ps : List PT} {vs : List Value} {L : List Nat} {H : List Value} {x : Aden ps} (h : ArgsO w S vs L H ps x) : H.length = (ioOf ps).length := by
  obtain ⟨_, _, _, h3, _⟩ := firstSlots_ok 0 h
  exact h3
theorem run_ok (hm : P.follows .mixedOrders = true) {E : Env} (hE : ∀ T ti, E.ty T = some ti → TyOk P T ti) (hF : FnOk P gw E) : ∀ k : Nat,
    (∀ f ids fi, E.fn f ids = some fi → ∀ x y, callBy E k (aRun E k) fi x = some y → Gives P gw f fi x y) ∧
    (∀ rs ios res hints its σ y, aRun E k rs ios res hints its σ = some y → ∀ (fn : Func) (w0 : Base gw) (S0 : Nat → Prop) (a : Act) (w : World), fn.results.toList = res → (∀ c ∈ ios, IoRC c) → w0.hs.length = ios.length → SR w0 S0 σ a w →
      Ends P fn (fun v w' => Kept w0 w' ∧ ResR w0 w' S0 rs ios w0.hs y v) its a w) := by
  have first : ∀ k, (∀ rs ios res hints its σ y, aRun E k rs ios res hints its σ = some y → ∀ (fn : Func) (w0 : Base gw) (S0 : Nat → Prop) (a : Act) (w : World), fn.results.toList = res → (∀ c ∈ ios, IoRC c) → w0.hs.length = ios.length → SR w0 S0 σ a w →
      Ends P fn (fun v w' => Kept w0 w' ∧ ResR w0 w' S0 rs ios w0.hs y v) its a w) → (∀ f ids fi, E.fn f ids = some fi → ∀ x y, callBy E k (aRun E k) fi x = some y → Gives P gw f fi x y) := by
    intro k hk f ids fi hfi x y hy
    obtain ⟨h1, h2⟩ := hF f ids fi hfi
    unfold callBy at hy
    split at hy
    · rename_i g hg; exact h1 g hg k x y hy
    · rename_i hg
      obtain ⟨fn, hfn, hname, hbody, hres, hnt, hps⟩ := h2 hg
      have hcall : ∀ (vs : List Value) (W : World), (callFunc f vs.toArray).run P W = .ok (.enter f vs.toArray) W := fun vs W => by
        simp only [callFunc, Sem.run_bind, program, hfn]
        have hname' : ¬ (fn.name == "runtime.NumGoroutine") = true := by rw [hname]; simp
        simp only [Sem.run, hfn, hbody, Result.andThen_ok]
        rw [if_neg hname']
        simp [Sem.run, pure]
      cases hr1 : fi.run1 with
      | true =>
        unfold Gives
        rw [Fi.gift_none hg, hr1, cond_true]
        intro B S v us L hS hL hLb hH ha
        rw [hr1] at ha
        unfold Does
        rw [hcall]
        obtain ⟨hst, hio⟩ := start1_ok (nt := fi.nt) hS hL hLb hH ha hps
        rw [← hnt] at hst
        have hst' : SR B S (fi.start x) { tmps := (v :: us).toArray ++ Array.replicate (fn.ntmps - (v :: us).toArray.size) undef, defers := [] } B.w := by
          unfold Fi.start
          rw [hr1, cond_true, ← hnt]
          exact hst
        have hres2 := calls_of_ends hfn hbody (hk fi.rs (ioOf fi.ps) fi.res fi.hints [.code fi.code] (fi.start x) y hy fn B S _ B.w hres (ioOf_io _) (by rw [hH, hio]; rfl) hst')
        rw [hH] at hres2
        exact hres2
      | false =>
      refine GivesO.all ?_ ((Fi.gift_none hg).trans hr1)
      intro B S vs L H hS hL hLb hH ha
      subst hH
      unfold Does
      rw [hcall]
      have hst := start_ok (nt := fi.nt) hS hL hLb ha hps
      rw [← hnt] at hst
      have hst' : SR B S (fi.start x) { tmps := vs.toArray ++ Array.replicate (fn.ntmps - vs.toArray.size) undef, defers := [] } B.w := by
        unfold Fi.start
        rw [hr1, cond_false, ← hnt]
        exact hst
      exact calls_of_ends hfn hbody (hk fi.rs (ioOf fi.ps) fi.res fi.hints [.code fi.code] (fi.start x) y hy fn B S _ B.w hres (ioOf_io _) ha.count hst')
  intro k
  induction k with
  | zero =>
    have h2 : ∀ rs ios res hints its σ y, aRun E 0 rs ios res hints its σ = some y → ∀ (fn : Func) (w0 : Base gw) (S0 : Nat → Prop) (a : Act) (w : World), fn.results.toList = res → (∀ c ∈ ios, IoRC c) → w0.hs.length = ios.length → SR w0 S0 σ a w →
      Ends P fn (fun v w' => Kept w0 w' ∧ ResR w0 w' S0 rs ios w0.hs y v) its a w := fun rs ios res hints its σ y h => by cases h
    exact ⟨first 0 h2, h2⟩
  | succ k ih =>
    have h2 : ∀ rs ios res hints its σ y, aRun E (k + 1) rs ios res hints its σ = some y → ∀ (fn : Func) (w0 : Base gw) (S0 : Nat → Prop) (a : Act) (w : World), fn.results.toList = res → (∀ c ∈ ios, IoRC c) → w0.hs.length = ios.length → SR w0 S0 σ a w →
      Ends P fn (fun v w' => Kept w0 w' ∧ ResR w0 w' S0 rs ios w0.hs y v) its a w := by
      intro rs ios res hints its σ y h fn w0 S0 a w hres hio hl hsr
      exact seg_ok hm hE ih.1 hio hl hres (fun its σ hr a w hs => ih.2 rs ios res hints its σ y hr fn w0 S0 a w hres hio hl hs) 4000 its σ a w hsr h
    exact ⟨first (k + 1) h2, h2⟩

/-- THE LAW OF THE PLAIN MACHINE. -/
theorem gives (hm : P.follows .mixedOrders = true) {E : Env} (hE : ∀ T ti, E.ty T = some ti → TyOk P T ti) (hF : FnOk P gw E) {f : FuncId} {ids : List Nat} {fi : Fi} (hf : E.fn f ids = some fi) {k : Nat} {x : Aden fi.ps} {y : Oden (flatRs fi.rs) (ioOf fi.ps)} (h : aFn E fi k x = some y) : Gives P gw f fi x y :=
  (run_ok hm hE hF k).1 f ids fi hf x y h

end
end Go.Vt
