/-
  A function's run: what the plain machine says that it gives, it gives.
  Conditions: the table of types is right (TyOk); so is the table of functions (FnOk).
-/
import Derived.Test.YtghbmnhaalpjeaaXvx
namespace Go.Vt
open Go.RowKit
set_option linter.unusedVariables false
set_option linter.unusedSimpArgs false

section
variable {P : Program} {ρ : Type} {w0 w : World} {S0 : Nat → Prop} {σ : St} {a : Act} {Im : Nat → Prop} {hd : Nat → Value} {bl : Nat → List Nat} {Q : Exit → Act → World → Prop}

/-- From here on the function comes to its end, with what R says. -/
def Ends (P : Program) (fn : Func) (R : Value → World → Prop) (its : List Item) (a : Act) (w : World) : Prop :=
  ∀ (b : Frame) (cs : List Frame), ∃ a' w' todo v, Steps P (lone (b.at a its) cs w) (lone { b.at a' todo with mode := .returning } cs w') ∧ a'.defers = [] ∧ (results fn a'.tmps).run P w' = .ok v w' ∧ R v w'

theorem Ends.step {fn : Func} {R : Value → World → Prop} {its its' : List Item} {a a' : Act} {w w' : World} (h : Ends P fn R its' a' w') (hs : ∀ (b : Frame) (cs : List Frame), Steps P (lone (b.at a its) cs w) (lone (b.at a' its') cs w')) : Ends P fn R its a w := by
  intro b cs
  obtain ⟨a2, w2, todo, v, h1, h2⟩ := h b cs
  exact ⟨a2, w2, todo, v, (hs b cs).trans h1, h2⟩

/-- A region whose operations come up in the text's order. -/
theorem region_ok {E : Env} (hE : ∀ T ti, E.ty T = some ti → TyOk P T ti) {ck : (fi : Fi) → Aden fi.ps → Option (Rden (flatRs fi.rs))} (hG : ∀ f ids fi, E.fn f ids = some fi → ∀ x y, ck fi x = some y → Gives P f fi x y)
    (h : SR w0 S0 σ a w) {id : Nat} {ops : Array Oper} {its : List Item} {next : St → Option ρ} {r : ρ} (hn : aOps E ck ops.toList ops.toList σ next = some r) {fn : Func} {R : Value → World → Prop}
    (hk : ∀ a w, Goes w0 S0 next r a w → Ends P fn R its a w) : Ends P fn R (.code (.region id ops false) :: its) a w := by
  intro b cs
  have hl := aOps_ok (Q := fun e a w => e = .normal ∧ Goes w0 S0 next r a w) hE hG (fun a w h => ⟨rfl, h⟩) h hn
  have hw : wpOps P ops (fun e a w => e = .normal ∧ Goes w0 S0 next r a w) (List.range ops.size) a w := by
    rw [List.range_eq_range', ← Array.length_toList, wpOps_eq_wpList ops.toList 0 (by simp)]; exact hl
  obtain ⟨e, a', w', ⟨rfl, hg⟩, harr⟩ := wp_ops _ a w hw b its cs
  obtain ⟨a2, w2, todo, v, h1, h2⟩ := hk a' w' hg b cs
  exact ⟨a2, w2, todo, v, (Steps.one step_region).trans (Steps.trans harr h1), h2⟩

theorem draw_ok (hm : P.follows .mixedOrders = true) {E : Env} (hE : ∀ T ti, E.ty T = some ti → TyOk P T ti) {ck : (fi : Fi) → Aden fi.ps → Option (Rden (flatRs fi.rs))} (hG : ∀ f ids fi, E.fn f ids = some fi → ∀ x y, ck fi x = some y → Gives P f fi x y)
    (h : SR w0 S0 σ a w) {id : Nat} {ops : Array Oper} {its : List Item} {next : St → Option ρ} {r : ρ} (hn : aDraw E ck ops σ next = some r) {fn : Func} {R : Value → World → Prop}
    (hk : ∀ a w, Goes w0 S0 next r a w → Ends P fn R its a w) : Ends P fn R (.code (.region id ops true) :: its) a w := by
  intro b cs
  obtain ⟨e, a', w', ⟨rfl, hg⟩, harr⟩ := aDraw_ok hm hE hG h (id := id) hn b its cs
  obtain ⟨a2, w2, todo, v, h1, h2⟩ := hk a' w' hg b cs
  exact ⟨a2, w2, todo, v, Steps.trans harr h1, h2⟩

theorem cond_slot (h : SRi w0 S0 σ a w Im hd bl) {t : Nat} {b : Bool} (he : σ.ev (.tmp t) = .cv (.val .bool b)) : SRi w0 S0 (σ.put (some t) (.cv (.val .bool b))) a w Im hd bl := by
  have hx := h.ev (.tmp t)
  rw [he] at hx
  exact h.retell hx

theorem seg_ok (hm : P.follows .mixedOrders = true) {E : Env} (hE : ∀ T ti, E.ty T = some ti → TyOk P T ti) {k : Nat} {rec_ : Rec E} (hG : ∀ f ids fi, E.fn f ids = some fi → ∀ x y, callBy E k rec_ fi x = some y → Gives P f fi x y)
    {rs : List (Bool × List RC)} {res : List ResultVar} {hints : Nat → Option (List Hint)} {fn : Func} (hres : fn.results.toList = res) {y : Rden (flatRs rs)}
    (hrec : ∀ its σ, rec_ rs res hints its σ = some y → ∀ a w, SR w0 S0 σ a w → Ends P fn (fun v w' => Below w0.heap.size w0 w' ∧ ResR w0 w' S0 rs y v) its a w) :
    ∀ (n : Nat) (its : List Item) (σ : St) (a : Act) (w : World), SR w0 S0 σ a w → seg E k rec_ rs res hints n its σ = some y → Ends P fn (fun v w' => Below w0.heap.size w0 w' ∧ ResR w0 w' S0 rs y v) its a w := by
  have done : ∀ (σ : St) (a : Act) (w : World), SR w0 S0 σ a w → aRet E res rs σ = some y → a.defers = [] ∧ ∃ v, (results fn a.tmps).run P w = .ok v w ∧ (Below w0.heap.size w0 w ∧ ResR w0 w S0 rs y v) := by
    intro σ a w ⟨Im, hd, bl, h⟩ hr
    obtain ⟨v, h1, h2⟩ := aRet_ok hE h hres hr
    exact ⟨h.nodef, v, h1, h.below, h2⟩
  intro n
  induction n with
  | zero => intro its σ a w h hs; cases hs
  | succ n ih =>
    intro its σ a w h hs
    cases its with
    | nil =>
      have hs' : aRet E res rs σ = some y := hs
      obtain ⟨h1, v, h2, h3⟩ := done σ a w h hs'
      intro b cs
      exact ⟨a, w, [], v, Steps.one step_end, h1, h2, h3⟩
    | cons it its =>
      cases it with
      | code c =>
        cases c with
        | skip => exact (ih its σ a w h hs).step fun b cs => Steps.one step_skip
        | seq x z => exact (ih _ σ a w h hs).step fun b cs => Steps.one step_seq
        | block id x => exact (ih _ σ a w h hs).step fun b cs => Steps.one step_block
        | loop x => exact (ih _ σ a w h hs).step fun b cs => Steps.one step_loop
        | ret =>
          have hs' : aRet E res rs σ = some y := hs
          obtain ⟨h1, v, h2, h3⟩ := done σ a w h hs'
          intro b cs
          exact ⟨a, w, _, v, Steps.one step_ret, h1, h2, h3⟩
        | exit id =>
          unfold seg at hs
          dsimp only at hs
          cases he : exitTo id its with
          | none => rw [he] at hs; cases hs
          | some r' =>
            rw [he] at hs
            exact (ih _ σ a w h hs).step fun b cs => Steps.one (step_exit he)
        | cond c x z =>
          unfold seg at hs
          dsimp only at hs
          split at hs
          · rename_i t b he
            obtain ⟨Im, hd, bl, h⟩ := h
            have hx := h.ev (.tmp t)
            rw [he] at hx
            have hb := bool_of hx
            have h2 := cond_slot h he
            cases b with
            | true => rw [cond_true] at hs; exact (ih _ _ a w ⟨Im, hd, bl, h2⟩ hs).step fun b cs => Steps.one (step_cond (t := true) hb)
            | false => rw [cond_false] at hs; exact (ih _ _ a w ⟨Im, hd, bl, h2⟩ hs).step fun b cs => Steps.one (step_cond (t := false) hb)
          · rename_i v b he
            obtain ⟨Im, hd, bl, h⟩ := h
            have hx := h.ev (.const v)
            rw [he] at hx
            have hb := bool_of hx
            cases b with
            | true => rw [cond_true] at hs; exact (ih _ _ a w ⟨Im, hd, bl, h⟩ hs).step fun b cs => Steps.one (step_cond (t := true) hb)
            | false => rw [cond_false] at hs; exact (ih _ _ a w ⟨Im, hd, bl, h⟩ hs).step fun b cs => Steps.one (step_cond (t := false) hb)
          · cases hs
        | region id ops draw =>
          unfold seg at hs
          dsimp only at hs
          have run : (bif draw then aDraw E (callBy E k rec_) ops { σ with cut := false } fun τ => seg E k rec_ rs res hints n its τ
              else aOps E (callBy E k rec_) ops.toList ops.toList { σ with cut := false } fun τ => seg E k rec_ rs res hints n its τ) = some y →
              Ends P fn (fun v w' => Below w0.heap.size w0 w' ∧ ResR w0 w' S0 rs y v) (.code (.region id ops draw) :: its) a w := by
            intro hr
            obtain ⟨Im, hd, bl, h⟩ := h
            cases draw with
            | false => exact region_ok hE hG ⟨Im, hd, bl, h.cut false⟩ hr fun a w ⟨τ, ht, hs⟩ => ih its τ a w hs ht
            | true => exact draw_ok hm hE hG ⟨Im, hd, bl, h.cut false⟩ hr fun a w ⟨τ, ht, hs⟩ => ih its τ a w hs ht
          split at hs
          · rename_i hs' hh
            cases hc : σ.cut with
            | true => rw [hc] at hs; exact run hs
            | false =>
              rw [hc, cond_false] at hs
              split at hs
              · rename_i τ hm
                exact hrec _ τ hs a w (meet_ok h hm)
              · cases hs
          · exact run hs
        | _ => cases hs
      | inBlock id => exact (ih its σ a w h hs).step fun b cs => Steps.one step_inBlock
      | inLoop x => exact (ih _ σ a w h hs).step fun b cs => Steps.one step_inLoop
      | _ => cases hs

/-! ### functions -/
/-- The table of functions is right. -/
def FnOk (P : Program) (E : Env) : Prop := ∀ f ids fi, E.fn f ids = some fi →
  (∀ g, fi.ext = some g → ∀ k x y, g k x = some y → Gives P f fi x y) ∧
  (fi.ext = none → ∃ fn, P.funcs[f]? = some fn ∧ (fn.name == "runtime.NumGoroutine") = false ∧ fn.body = some fi.code ∧ fn.results.toList = fi.res ∧ fn.ntmps = fi.nt ∧ fi.ps.length ≤ fi.nt)

theorem capsOf_ok {S : Nat → Prop} : ∀ {ts : List Ty} {ps : List Value} {x : (tupTy ts).den}, CapsR w S ps ts x → RefRs w S (fun _ => undef) ps (capsOf ts x)
  | [], [], _, _ => trivial
  | [t], [v], x, h => by
    obtain ⟨b, o, cs, hb, rfl, hat, hv⟩ := h
    exact ⟨⟨plain_explode t x, b, o, cs, hb, rfl, hat, explode_CVs hv⟩, trivial⟩
  | t :: q :: r, v :: u :: vs, x, h => by
    obtain ⟨b, o, cs, hb, rfl, hat, hv⟩ := h.1
    exact ⟨⟨plain_explode t x.1, b, o, cs, hb, rfl, hat, explode_CVs hv⟩, capsOf_ok (ts := q :: r) h.2⟩
  | [], [_], _, h => by cases h
  | [], _ :: _ :: _, _, h => by cases h
  | [_], [], _, h => by cases h
  | [_], _ :: _ :: _, _, h => by cases h
  | _ :: _ :: _, [], _, h => by cases h
  | _ :: _ :: _, [_], _, h => by cases h

theorem firstSlots_ok {S : Nat → Prop} : ∀ {ps : List PT} {x : Aden ps} {vs : List Value}, ArgsR w S vs ps x → vs.length = ps.length ∧ (firstSlots ps x).length = ps.length ∧ ∀ (i : Nat) (av : AV), (firstSlots ps x)[i]? = some av → ∃ v, vs[i]? = some v ∧ AVR w S hd v av := by
  have one : ∀ (p : PT) (x : p.ty.den) (v : Value), ArgR w S v p x → AVR w S hd v (firstSlots.slot1 p x) := by
    intro p x v h
    cases p with
    | v t agg =>
      obtain ⟨cs, rfl, _, hv⟩ := h
      exact ofCells_AVR (explode_CVs hv)
    | r t =>
      obtain ⟨b, o, cs, hb, rfl, hat, hv⟩ := h
      exact RefR.of_VR hb hat hv
    | fn f ts =>
      obtain ⟨ps, rfl, hps⟩ := h
      exact ⟨ps, rfl, capsOf_ok hps⟩
  have all : ∀ (ps : List PT) (x : Aden ps) (vs : List Value), ArgsR w S vs ps x → vs.length = ps.length ∧ (firstSlots ps x).length = ps.length ∧ ∀ (i : Nat) (av : AV), (firstSlots ps x)[i]? = some av → ∃ v, vs[i]? = some v ∧ AVR w S hd v av := by
    intro ps
    induction ps with
    | nil =>
      intro x vs h
      match vs, h with
      | [], _ => exact ⟨rfl, rfl, fun i av hi => by simp [firstSlots] at hi⟩
      | [_], h => cases h
      | _ :: _ :: _, h => cases h
    | cons p ps ih =>
      cases ps with
      | nil =>
        intro x vs h
        match vs, h with
        | [v], h =>
          refine ⟨rfl, rfl, fun i av hi => ?_⟩
          cases i with
          | zero => exact ⟨v, rfl, by cases (show some (firstSlots.slot1 p x) = some av from hi); exact one p x v h⟩
          | succ i => simp [firstSlots] at hi
        | [], h => cases h
        | _ :: _ :: _, h => cases h
      | cons q r =>
        intro x vs h
        match vs, h with
        | v :: u :: vs, h =>
          obtain ⟨h1, h2, h3⟩ := ih x.2 (u :: vs) h.2
          refine ⟨by simp at h1 ⊢; exact h1, by show (firstSlots.slot1 p x.1 :: firstSlots (q :: r) x.2).length = _; simp at h2 ⊢; exact h2, fun i av hi => ?_⟩
          cases i with
          | zero => exact ⟨v, rfl, by cases (show some (firstSlots.slot1 p x.1) = some av from hi); exact one p x.1 v h.1⟩
          | succ i => exact h3 i av hi
        | [], h => cases h
        | [_], h => cases h
  exact fun {ps} {x} {vs} h => all ps x vs h

theorem start_ok {fi : Fi} {x : Aden fi.ps} {vs : List Value} {S : Nat → Prop} (hS : ∀ b, S b → b < w.heap.size) (ha : ArgsR w S vs fi.ps x) (hn : fi.ps.length ≤ fi.nt) :
    SR w S (fi.start x) { tmps := vs.toArray ++ Array.replicate (fi.nt - vs.toArray.size) undef, defers := [] } w := by
  obtain ⟨h1, h2, h3⟩ := firstSlots_ok (hd := fun _ => undef) ha
  refine ⟨S, fun _ => undef, fun _ => [], Below.refl _ _, fun _ h => h, fun _ h => .inl h, hS, rfl, ?_, fun i av hi => ?_, (fun c o hc => by cases hc), (fun c o hc => by cases hc), (fun c o d p hc => by cases hc)⟩
  · show (vs.toArray ++ Array.replicate _ undef).size = (firstSlots fi.ps x ++ List.replicate _ _).length
    rw [List.length_append, List.length_replicate, h2, Array.size_append, Array.size_replicate, List.size_toArray, h1]
  · have hi' : (firstSlots fi.ps x ++ List.replicate (fi.nt - fi.ps.length) (.cv .dead))[i]? = some av := hi
    rw [List.getElem?_append] at hi'
    split at hi'
    · rename_i hlt
      obtain ⟨v, hv, hav⟩ := h3 i av hi'
      have : (vs.toArray ++ Array.replicate (fi.nt - vs.toArray.size) undef).getD i undef = v := by
        rw [Array.getD_eq_getD_getElem?, Array.getElem?_append_left (by rw [List.size_toArray]; omega), List.getElem?_toArray, hv]; rfl
      show AVR w S _ ((vs.toArray ++ Array.replicate (fi.nt - vs.toArray.size) undef).getD i undef) av
      rw [this]; exact hav
    · rw [List.getElem?_replicate] at hi'
      split at hi'
      · cases hi'; trivial
      · cases hi'

theorem calls_of_ends {f : FuncId} {fn : Func} {c : Code} {args : Array Value} {R : Value → World → Prop} (hf : P.funcs[f]? = some fn) (hb : fn.body = some c)
    (h : Ends P fn R [.code c] { tmps := args ++ Array.replicate (fn.ntmps - args.size) undef, defers := [] } w) : Calls P f args w fun e w' => match e with | .returned v => R v w' | _ => False := by
  intro cs
  let b : Frame := { (default : Frame) with fn := f, kind := .normal }
  have henter : Frame.enter P f args .normal = b.at { tmps := args ++ Array.replicate (fn.ntmps - args.size) undef, defers := [] } [.code c] := by
    simp [Frame.enter, Frame.at, hf, hb, b]
  obtain ⟨a', w', todo, v, h1, h2, h3, h4⟩ := h b cs
  rw [← henter] at h1
  exact ⟨.returned v, w', _, h4, h1, rfl, rfl, h2, rfl, fn, hf, h3⟩

theorem run_ok (hm : P.follows .mixedOrders = true) {E : Env} (hE : ∀ T ti, E.ty T = some ti → TyOk P T ti) (hF : FnOk P E) : ∀ k : Nat,
    (∀ f ids fi, E.fn f ids = some fi → ∀ x y, callBy E k (aRun E k) fi x = some y → Gives P f fi x y) ∧
    (∀ rs res hints its σ y, aRun E k rs res hints its σ = some y → ∀ (fn : Func) (w0 : World) (S0 : Nat → Prop) (a : Act) (w : World), fn.results.toList = res → SR w0 S0 σ a w →
      Ends P fn (fun v w' => Below w0.heap.size w0 w' ∧ ResR w0 w' S0 rs y v) its a w) := by
  have first : ∀ k, (∀ rs res hints its σ y, aRun E k rs res hints its σ = some y → ∀ (fn : Func) (w0 : World) (S0 : Nat → Prop) (a : Act) (w : World), fn.results.toList = res → SR w0 S0 σ a w →
      Ends P fn (fun v w' => Below w0.heap.size w0 w' ∧ ResR w0 w' S0 rs y v) its a w) → (∀ f ids fi, E.fn f ids = some fi → ∀ x y, callBy E k (aRun E k) fi x = some y → Gives P f fi x y) := by
    intro k hk f ids fi hfi x y hy
    obtain ⟨h1, h2⟩ := hF f ids fi hfi
    unfold callBy at hy
    split at hy
    · rename_i g hg; exact h1 g hg k x y hy
    · rename_i hg
      obtain ⟨fn, hfn, hname, hbody, hres, hnt, hps⟩ := h2 hg
      intro w S vs hS ha
      unfold Does
      have hcall : (callFunc f vs.toArray).run P w = .ok (.enter f vs.toArray) w := by
        simp only [callFunc, Sem.run_bind, program, hfn]
        have hname' : ¬ (fn.name == "runtime.NumGoroutine") = true := by rw [hname]; simp
        simp only [Sem.run, hfn, hbody, Result.andThen_ok]
        rw [if_neg hname']
        simp [Sem.run, pure]
      rw [hcall]
      have hst := start_ok (fi := fi) (x := x) hS ha hps
      rw [← hnt] at hst
      exact calls_of_ends hfn hbody (hk fi.rs fi.res fi.hints [.code fi.code] (fi.start x) y hy fn w S _ w hres hst)
  intro k
  induction k with
  | zero =>
    have h2 : ∀ rs res hints its σ y, aRun E 0 rs res hints its σ = some y → ∀ (fn : Func) (w0 : World) (S0 : Nat → Prop) (a : Act) (w : World), fn.results.toList = res → SR w0 S0 σ a w →
      Ends P fn (fun v w' => Below w0.heap.size w0 w' ∧ ResR w0 w' S0 rs y v) its a w := fun rs res hints its σ y h => by cases h
    exact ⟨first 0 h2, h2⟩
  | succ k ih =>
    have h2 : ∀ rs res hints its σ y, aRun E (k + 1) rs res hints its σ = some y → ∀ (fn : Func) (w0 : World) (S0 : Nat → Prop) (a : Act) (w : World), fn.results.toList = res → SR w0 S0 σ a w →
      Ends P fn (fun v w' => Below w0.heap.size w0 w' ∧ ResR w0 w' S0 rs y v) its a w := by
      intro rs res hints its σ y h fn w0 S0 a w hres hsr
      exact seg_ok hm hE ih.1 hres (fun its σ hr a w hs => ih.2 rs res hints its σ y hr fn w0 S0 a w hres hs) 4000 its σ a w hsr h
    exact ⟨first (k + 1) h2, h2⟩

/-- THE LAW OF THE PLAIN MACHINE. -/
theorem gives (hm : P.follows .mixedOrders = true) {E : Env} (hE : ∀ T ti, E.ty T = some ti → TyOk P T ti) (hF : FnOk P E) {f : FuncId} {ids : List Nat} {fi : Fi} (hf : E.fn f ids = some fi) {k : Nat} {x : Aden fi.ps} {y : Rden (flatRs fi.rs)} (h : aFn E fi k x = some y) : Gives P f fi x y :=
  (run_ok hm hE hF k).1 f ids fi hf x y h

end
end Go.Vt
