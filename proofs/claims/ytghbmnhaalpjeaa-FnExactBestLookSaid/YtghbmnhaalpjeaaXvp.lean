/-
  What a call gives, and the plain machine's calls.
  Conditions: none; these are definitions and lemmas on them.
-/
import Derived.Test.YtghbmnhaalpjeaaXvo
namespace Go.Vt
open Go.RowKit
set_option linter.unusedVariables false
set_option linter.unusedSimpArgs false

/-! ### contracts -/
/-- What an argument reads as. -/
def CapR (w : World) (S : Nat → Prop) (v : Value) (t : Ty) (x : t.den) : Prop := ∃ b o cs, S b ∧ v = .pointer (some ⟨b, o, none⟩) ∧ At w b o cs ∧ VR w S t x cs
def CapsR (w : World) (S : Nat → Prop) : List Value → (ts : List Ty) → (tupTy ts).den → Prop
  | [], [], _ => True
  | [v], [t], x => CapR w S v t x
  | v :: u :: vs, t :: q :: r, x => CapR w S v t x.1 ∧ CapsR w S (u :: vs) (q :: r) x.2
  | _, _, _ => False
def ArgR (w : World) (S : Nat → Prop) (v : Value) : (p : PT) → p.ty.den → Prop
  | .v t agg, x => ∃ cs, v = cellsVal agg cs ∧ (agg = false → cs.length = 1) ∧ VR w S t x cs
  | .r t, x => ∃ b o cs, S b ∧ v = .pointer (some ⟨b, o, none⟩) ∧ At w b o cs ∧ VR w S t x cs
  | .fn f ts, x => ∃ ps, v = .func (.func f) #[] ps.toArray ∧ CapsR w S ps ts x
def ArgsR (w : World) (S : Nat → Prop) : List Value → (ps : List PT) → Aden ps → Prop
  | [], [], _ => True
  | [v], [p], x => ArgR w S v p x
  | v :: u :: vs, p :: q :: r, x => ArgR w S v p x.1 ∧ ArgsR w S (u :: vs) (q :: r) x.2
  | _, _, _ => False

/-- What a result's cell reads as; the blocks that it owns. -/
def RCR (w : World) (S : Nat → Prop) (v : Value) (L : List Nat) : (c : RC) → c.t.den → Prop
  | ⟨.slice t, some (d, n)⟩, xs => ORow w t.sz (rowP w S t d) v xs L ∧ (n = true → xs = [] → v = .slice none 0 0)
  | ⟨t, _⟩, x => VR w S t x [v] ∧ L = []
def RCs (w : World) (S : Nat → Prop) : List Value → List Nat → (rs : List RC) → Rden rs → Prop
  | [], L, [], _ => L = []
  | [v], L, [c], x => RCR w S v L c x
  | v :: u :: vs, L, c :: d :: r, x => ∃ L1 L2, L = L1 ++ L2 ∧ RCR w S v L1 c x.1 ∧ RCs w S (u :: vs) L2 (d :: r) x.2
  | _, _, _, _ => False
def partVals : List (Bool × List RC) → List Value → List Value
  | [], _ => []
  | (g, rs) :: r, vs => cellsVal g (vs.take rs.length) :: partVals r (vs.drop rs.length)
def oneVal : List Value → Value
  | [v] => v | l => .tuple l.toArray
def ResR (w w' : World) (S : Nat → Prop) (rs : List (Bool × List RC)) (y : Rden (flatRs rs)) (v : Value) : Prop :=
  ∃ (S' : Nat → Prop) (vs : List Value) (L : List Nat), v = oneVal (partVals rs vs) ∧ (∀ b, S b → S' b) ∧ (∀ b, S' b → S b ∨ (w.heap.size ≤ b ∧ b < w'.heap.size)) ∧
    L.Nodup ∧ (∀ b ∈ L, w.heap.size ≤ b ∧ b < w'.heap.size ∧ ¬ S' b) ∧ RCs w' S' vs L (flatRs rs) y

/-- A function, called, comes back with what R says. -/
def Does (P : Program) (f : FuncId) (vs : Array Value) (w : World) (R : Value → World → Prop) : Prop :=
  match (callFunc f vs).run P w with
  | .ok (.value v) w' => R v w'
  | .ok (.enter g args) w' => Calls P g args w' fun e w'' => match e with | .returned v => R v w'' | _ => False
  | .ok (.row row args) w' => Go.Rows P row args w' R
  | _ => False
def Gives (P : Program) (f : FuncId) (fi : Fi) (x : Aden fi.ps) (y : Rden (flatRs fi.rs)) : Prop :=
  ∀ (w : World) (S : Nat → Prop) (vs : List Value), (∀ b, S b → b < w.heap.size) → ArgsR w S vs fi.ps x → Does P f vs.toArray w fun v w' => Below w.heap.size w w' ∧ ResR w w' S fi.rs y v

section
variable {P : Program} {ρ : Type} {w0 w : World} {S0 : Nat → Prop} {σ : St} {a : Act} {Im : Nat → Prop} {hd : Nat → Value} {bl : Nat → List Nat} {Q : Exit → Act → World → Prop}

theorem Does.wp {o : Oper} {f : FuncId} {vs : Array Value} {R : Value → World → Prop} {K : Act → World → Prop} (h : Does P f vs w R) (hr : (execOp a.eval o).run P w = (callFunc f vs).run P w) (hk : ∀ v w', R v w' → K (a.put o.dst v) w') : o.wp P a w K Q := by
  unfold Oper.wp
  rw [hr]
  unfold Does at h
  split at h
  · rename_i v w' he; rw [he]; exact hk v w' h
  · rename_i g args w' he
    rw [he, Oper.upon_enter]
    refine h.mono fun e w'' hh => ?_
    cases e with
    | returned v => exact hk v w'' hh
    | panicked c => exact hh.elim
    | outgrown => exact hh.elim
  · rename_i row args w' he
    rw [he, Oper.upon_row]
    exact h.mono fun v w'' hh => hk v w'' hh
  · exact h.elim

/-! ### arguments -/
def AVs (w : World) (Im : Nat → Prop) (hd : Nat → Value) : List Value → List AV → Prop
  | [], [] => True | v :: vs, c :: cs => AVR w Im hd v c ∧ AVs w Im hd vs cs | _, _ => False
theorem AVs.app : ∀ {vs us : List Value} {l m : List AV}, AVs w Im hd vs l → AVs w Im hd us m → AVs w Im hd (vs ++ us) (l ++ m)
  | [], _, [], _, _, h => h | _ :: _, _, _ :: _, _, h, k => ⟨h.1, AVs.app h.2 k⟩ | [], _, _ :: _, _, h, _ => h.elim | _ :: _, _, [], _, h, _ => h.elim
theorem AVs.evs (h : SRi w0 S0 σ a w Im hd bl) : ∀ (xs : List Operand), AVs w Im hd (xs.map a.eval) (xs.map σ.ev)
  | [] => trivial | x :: xs => ⟨h.ev x, AVs.evs h xs⟩
theorem AVs.refs : ∀ {ps : List Value} {caps : List (List CV)}, RefRs w Im (fun _ => undef) ps caps → AVs w Im hd ps (caps.map .ref)
  | [], [], _ => trivial | _ :: _, _ :: _, h => ⟨h.1, AVs.refs h.2⟩ | [], _ :: _, h => h.elim | _ :: _, [], h => h.elim

theorem capsTo_ok : ∀ (ts : List Ty) (caps : List (List CV)) (ps : List Value) (x : (tupTy ts).den), RefRs w Im (fun _ => undef) ps caps → capsTo ts caps = some x → CapsR w Im ps ts x := by
  intro ts
  induction ts with
  | nil =>
    intro caps ps x h hx
    cases caps with
    | nil => cases ps with
      | nil => trivial
      | cons v ps => exact h.elim
    | cons l caps => cases hx
  | cons t r ih =>
    cases r with
    | nil =>
      intro caps ps x h hx
      cases caps with
      | nil => cases hx
      | cons l caps =>
        cases caps with
        | cons m caps => cases hx
        | nil =>
          cases ps with
          | nil => exact h.elim
          | cons v ps =>
            cases ps with
            | cons u ps => exact h.2.elim
            | nil =>
              obtain ⟨pl, b, o, vs, hb, rfl, hat, hvs⟩ := h.1
              exact ⟨b, o, vs, hb, rfl, hat, implode_read (show implode t l = some x from hx) hvs⟩
    | cons q r =>
      intro caps ps x h hx
      cases caps with
      | nil => cases hx
      | cons l caps =>
        have hx' : ((implode t l).bind fun x => (capsTo (q :: r) caps).bind fun y => some (x, y)) = some x := hx
        obtain ⟨y, hy, hx'⟩ := Option.bind_eq_some_iff.1 hx'
        obtain ⟨z, hz, hx'⟩ := Option.bind_eq_some_iff.1 hx'
        cases hx'
        cases ps with
        | nil => exact h.elim
        | cons v ps =>
          have ih' := ih caps ps z h.2 hz
          cases ps with
          | nil =>
            cases r <;> exact ih'.elim
          | cons u ps =>
            obtain ⟨pl, b, o, cs, hb, rfl, hat, hvs⟩ := h.1
            exact ⟨⟨b, o, cs, hb, rfl, hat, implode_read hy hvs⟩, ih'⟩
theorem CapR.mono {S S' : Nat → Prop} (hs : ∀ b, S b → S' b) {v : Value} {t : Ty} {x : t.den} (h : CapR w S v t x) : CapR w S' v t x := by
  obtain ⟨b, o, cs, h1, h2, h3, h4⟩ := h
  exact ⟨b, o, cs, hs b h1, h2, h3, VR.mono (Same.refl _ _) hs h4⟩
theorem CapsR.mono {S S' : Nat → Prop} (hs : ∀ b, S b → S' b) : ∀ {vs : List Value} {ts : List Ty} {x : (tupTy ts).den}, CapsR w S vs ts x → CapsR w S' vs ts x
  | [], [], _, _ => trivial
  | [v], [t], x, h => CapR.mono hs h
  | v :: u :: vs, t :: q :: r, x, h => ⟨CapR.mono hs h.1, CapsR.mono hs (ts := q :: r) h.2⟩
  | [], [_], _, h => by cases h
  | [], _ :: _ :: _, _, h => by cases h
  | [_], [], _, h => by cases h
  | [_], _ :: _ :: _, _, h => by cases h
  | _ :: _ :: _, [], _, h => by cases h
  | _ :: _ :: _, [_], _, h => by cases h

theorem toArg_ok (h : SRi w0 S0 σ a w Im hd bl) {v : Value} {av : AV} (hv : AVR w Im hd v av) {p : PT} {x : p.ty.den} (hx : σ.toArg p av = some x) : ArgR w (fun b => Im b ∨ ∃ k ∈ av.owns, IsRow σ k ∧ b ∈ bl k) v p x := by
  cases p with
  | v t agg =>
    cases av with
    | cv c =>
      cases agg with
      | true => cases hx
      | false => exact ⟨[v], rfl, fun _ => rfl, cvAs_read h (show σ.cvAs t c = some x from hx) hv⟩
    | ag l =>
      cases agg with
      | false => cases hx
      | true =>
        obtain ⟨vs, rfl, hvs⟩ := hv
        exact ⟨vs, rfl, (fun e => by cases e), impl_read h (show σ.impl t l = some x from hx) hvs⟩
    | adr c o => cases hx
    | el c n i o => cases hx
    | ref l => cases hx
    | fn f l => cases hx
    | tup l => cases hx
  | r t =>
    cases av with
    | ref l =>
      obtain ⟨pl, b, o, vs, hb, rfl, hat, hvs⟩ := hv
      refine ⟨b, o, vs, .inl hb, rfl, hat, ?_⟩
      exact VR.mono (Same.refl _ _) (fun b hb => .inl hb) (implode_read (show implode t l = some x from hx) hvs)
    | cv c => cases hx
    | ag l => cases hx
    | adr c o => cases hx
    | el c n i o => cases hx
    | fn f l => cases hx
    | tup l => cases hx
  | fn f ts =>
    cases av with
    | fn g caps =>
      have hx' : (bif Nat.beq f g then capsTo ts caps else none) = some x := hx
      cases hk : Nat.beq f g with
      | false => rw [hk] at hx'; cases hx'
      | true =>
        rw [hk, cond_true] at hx'
        obtain rfl := Nat.eq_of_beq_eq_true hk
        obtain ⟨ps, rfl, hps⟩ := hv
        exact ⟨ps, rfl, (capsTo_ok _ _ _ _ hps hx').mono (fun b hb => .inl hb)⟩
    | cv c => cases hx
    | ag l => cases hx
    | adr c o => cases hx
    | el c n i o => cases hx
    | ref l => cases hx
    | tup l => cases hx
theorem ArgR.mono {S S' : Nat → Prop} (hs : ∀ b, S b → S' b) {v : Value} : ∀ {p : PT} {x : p.ty.den}, ArgR w S v p x → ArgR w S' v p x
  | .v t agg, x, h => by obtain ⟨cs, h1, h2, h3⟩ := h; exact ⟨cs, h1, h2, VR.mono (Same.refl _ _) hs h3⟩
  | .r t, x, h => by obtain ⟨b, o, cs, h1, h2, h3, h4⟩ := h; exact ⟨b, o, cs, hs b h1, h2, h3, VR.mono (Same.refl _ _) hs h4⟩
  | .fn f ts, x, h => by obtain ⟨ps, h1, h2⟩ := h; exact ⟨ps, h1, h2.mono hs⟩
theorem ArgsR.mono {S S' : Nat → Prop} (hs : ∀ b, S b → S' b) : ∀ {vs : List Value} {ps : List PT} {x : Aden ps}, ArgsR w S vs ps x → ArgsR w S' vs ps x
  | [], [], _, _ => trivial
  | [v], [p], x, h => ArgR.mono hs (p := p) (x := x) h
  | v :: u :: vs, p :: q :: r, x, h => ⟨ArgR.mono hs h.1, ArgsR.mono hs (vs := u :: vs) (ps := q :: r) (x := x.2) h.2⟩
  | [], _ :: _, _, h => by cases h
  | [_], [], _, h => by cases h
  | [_], _ :: _ :: _, _, h => by cases h
  | _ :: _ :: _, [], _, h => by cases h
  | _ :: _ :: _, [_], _, h => by cases h
theorem toArgs_ok (h : SRi w0 S0 σ a w Im hd bl) : ∀ {vs : List Value} {avs : List AV} {ps : List PT} {x : Aden ps}, AVs w Im hd vs avs → σ.toArgs ps avs = some x → ArgsR w (fun b => Im b ∨ ∃ k ∈ argOwns avs, IsRow σ k ∧ b ∈ bl k) vs ps x
  | [], [], [], _, _, _ => trivial
  | [v], [av], [p], x, hv, hx => by
    refine ArgR.mono (fun b hb => hb.imp_right fun ⟨k, hk, hb⟩ => ⟨k, ?_, hb⟩) (toArg_ok h hv.1 hx)
    simp [argOwns, hk]
  | v :: u :: vs, av :: au :: avs, p :: q :: r, x, hv, hx => by
    unfold St.toArgs at hx
    obtain ⟨y, hy, hx⟩ := Option.bind_eq_some_iff.1 hx
    obtain ⟨z, hz, hx⟩ := Option.bind_eq_some_iff.1 hx
    cases hx
    refine ⟨ArgR.mono (fun b hb => hb.imp_right fun ⟨k, hk, hb⟩ => ⟨k, ?_, hb⟩) (toArg_ok h hv.1 hy), ArgsR.mono (fun b hb => hb.imp_right fun ⟨k, hk, hb⟩ => ⟨k, ?_, hb⟩) (toArgs_ok h (vs := u :: vs) hv.2 hz)⟩
    · simp [argOwns, hk]
    · unfold argOwns at hk ⊢
      rw [List.flatMap_cons]
      exact List.mem_append.2 (.inr hk)
  | [], [], _ :: _, _, _, hx => by simp [St.toArgs] at hx
  | [], _ :: _, _, _, hv, _ => hv.elim
  | _ :: _, [], _, _, hv, _ => hv.elim
  | [_], _ :: _ :: _, _, _, hv, _ => hv.2.elim
  | _ :: _ :: _, [_], _, _, hv, _ => hv.2.elim
  | [_], [_], [], _, _, hx => by simp [St.toArgs] at hx
  | [_], [_], _ :: _ :: _, _, _, hx => by simp [St.toArgs] at hx
  | _ :: _ :: _, _ :: _ :: _, [], _, _, hx => by simp [St.toArgs] at hx
  | _ :: _ :: _, _ :: _ :: _, [_], _, _, hx => by simp [St.toArgs] at hx

/-! ### results -/
/-- More is immutable: blocks that have been made since. -/
theorem SRi.widen {n : Nat} {Im' : Nat → Prop} (h : SRi w0 S0 σ a w Im hd bl) (hi : ∀ b, Im b → Im' b) (hi' : ∀ b, Im' b → Im b ∨ (n ≤ b ∧ b < w.heap.size)) (hn : w0.heap.size ≤ n) (hown : ∀ c o, obGet σ.ob c = some o → ∀ b ∈ bl c, b < n) : SRi w0 S0 σ a w Im' hd bl := by
  have T : Tell w w Im Im' hd hd ⟨.own, .adr, .el⟩ := Tell.keep hd (Same.refl _ _) hi
  refine ⟨h.below, fun b hb => hi b (h.sub b hb), fun b hb => ?_, fun b hb => ?_, h.nodef, h.size, fun i av hi => ?_, fun c o hc => ?_, fun c o hc => ⟨(h.own c o hc).1, fun b hb => ⟨((h.own c o hc).2 b hb).1, ((h.own c o hc).2 b hb).2.1, fun hI => ?_⟩⟩, h.apart⟩
  · rcases hi' b hb with h1 | h1
    · exact h.new b h1
    · exact .inr (by omega)
  · rcases hi' b hb with h1 | h1
    · exact h.lt b h1
    · exact h1.2
  · have := (h.slots i av hi).tell T; rwa [AV.map_id] at this
  · have := (h.objs c o hc).tell T (fun _ _ => rfl); rwa [Ob.map_id] at this
  · rcases hi' b hI with h1 | h1
    · exact ((h.own c o hc).2 b hb).2.2 h1
    · have := hown c o hc b hb; omega

/-- One result's cell becomes a cell of the state. -/
theorem putOne_ok (h : SRi w0 S0 σ a w Im hd bl) {dst j : Nat} {c : RC} {x : c.t.den} {v : Value} {L M : List Nat} (hv : RCR w Im v L c x) (hn : (L ++ M).Nodup) (hL : ∀ b ∈ L ++ M, w0.heap.size ≤ b ∧ b < w.heap.size ∧ ¬ Im b)
    (hf : ∀ k p, obGet σ.ob k = some p → ∀ b ∈ bl k, b ∉ L ++ M) :
    ∃ hd' bl', SRi w0 S0 (putCells.one σ dst j c x).1 a w Im hd' bl' ∧ CVs w Im hd' [v] (putCells.one σ dst j c x).2 ∧ (∀ d, d ≠ dst + 1000 * j → hd' d = hd d) ∧
      (∀ k p, obGet (putCells.one σ dst j c x).1.ob k = some p → ∀ b ∈ bl' k, b ∉ M) ∧ (∀ e ∈ (putCells.one σ dst j c x).2, ∀ k ∈ e.owns, k = dst + 1000 * j) := by
  have plain : ∀ (t : Ty) (y : t.den), VR w Im t y [v] → ∃ hd' bl', SRi w0 S0 (σ, [CV.val t y]).1 a w Im hd' bl' ∧ CVs w Im hd' [v] (σ, [CV.val t y]).2 ∧ (∀ d, d ≠ dst + 1000 * j → hd' d = hd d) ∧
      (∀ k p, obGet (σ, [CV.val t y]).1.ob k = some p → ∀ b ∈ bl' k, b ∉ M) ∧ (∀ e ∈ (σ, [CV.val t y]).2, ∀ k ∈ e.owns, k = dst + 1000 * j) := by
    intro t y hy
    refine ⟨hd, bl, h, ⟨hy, trivial⟩, fun _ _ => rfl, fun k p hp b hb hM => hf k p hp b hb (by simp [hM]), fun e he k hk => ?_⟩
    have he' : e = .val t y := by simpa using he
    subst he'
    cases hk
  obtain ⟨t, o⟩ := c
  cases t with
  | int k => exact plain (.int k) x hv.1
  | bool => exact plain .bool x hv.1
  | str => exact plain .str x hv.1
  | pair s t => exact plain (.pair s t) x hv.1
  | slice t =>
    cases o with
    | none => exact plain (.slice t) x hv.1
    | some dn =>
      obtain ⟨d, n⟩ := dn
      obtain ⟨h1, h2⟩ := hv
      rw [List.nodup_append] at hn
      have hnew := h.new_ (dst + 1000 * j) (o := .row t x d n) (v := v) (L := L) (fun k p _ hp b hb hb2 => hf k p hp b hb (by simp [hb2])) hn.1 (fun b hb => hL b (by simp [hb])) ⟨h1, h2⟩
      refine ⟨_, _, hnew, ⟨by show v = _; simp, trivial⟩, fun e he => by simp [he], fun k p hp b hb => ?_, fun e he k hk => ?_⟩
      · by_cases e : k = dst + 1000 * j
        · simp only [e, if_true] at hb
          exact fun hM => hn.2.2 b hb b hM rfl
        · simp only [e, if_false] at hb
          have hp' : obGet ((dst + 1000 * j, Ob.row t x d n) :: (σ.kill (dst + 1000 * j)).ob) k = some p := hp
          rw [obGet_cons, if_neg (Ne.symm e)] at hp'
          obtain ⟨_, o, ho, _⟩ := obGet_sub hp'
          exact fun hM => hf k o ho b hb (by simp [hM])
      · have he' : e = .own (dst + 1000 * j) := by simpa [putCells.one] using he
        subst he'
        simpa [CV.owns] using hk

theorem CVs.rehead {hd2 : Nat → Value} : ∀ {vs : List Value} {l : List CV}, (∀ e ∈ l, ∀ k ∈ e.owns, hd2 k = hd k) → CVs w Im hd vs l → CVs w Im hd2 vs l
  | [], [], _, _ => trivial
  | v :: vs, c :: l, hk, h => by
    refine ⟨?_, CVs.rehead (fun e he => hk e (by simp [he])) h.2⟩
    cases c with
    | dead => trivial
    | nil => exact h.1
    | val t x => exact h.1
    | own k => exact (show v = hd k from h.1).trans (hk (.own k) (by simp) k (by simp [CV.owns])).symm
  | [], _ :: _, _, h => h.elim
  | _ :: _, [], _, h => h.elim

theorem putCells_ok {dst : Nat} : ∀ {rs : List RC} {j : Nat} {σ : St} {hd : Nat → Value} {bl : Nat → List Nat} {y : Rden rs} {vs : List Value} {L : List Nat}, SRi w0 S0 σ a w Im hd bl → RCs w Im vs L rs y → L.Nodup →
    (∀ b ∈ L, w0.heap.size ≤ b ∧ b < w.heap.size ∧ ¬ Im b) → (∀ k p, obGet σ.ob k = some p → ∀ b ∈ bl k, b ∉ L) →
    ∃ hd' bl', SRi w0 S0 (putCells σ dst j rs y).1 a w Im hd' bl' ∧ CVs w Im hd' vs (putCells σ dst j rs y).2 ∧ (∀ d, (∀ i, j ≤ i → d ≠ dst + 1000 * i) → hd' d = hd d)
  | [], j, σ, hd, bl, y, vs, L, h, hr, hn, hL, hf => by
    match vs, hr with
    | [], hr => exact ⟨hd, bl, h, trivial, fun _ _ => rfl⟩
    | [_], hr => cases hr
    | _ :: _ :: _, hr => cases hr
  | [c], j, σ, hd, bl, y, vs, L, h, hr, hn, hL, hf => by
    match vs, hr with
    | [], hr => cases hr
    | [v], hr =>
      obtain ⟨hd', bl', h1, h2, h3, _, _⟩ := putOne_ok h (dst := dst) (j := j) (x := y) (M := []) hr (by simpa using hn) (by simpa using hL) (by simpa using hf)
      exact ⟨hd', bl', h1, h2, fun d hd => h3 d (hd j (Nat.le_refl _))⟩
    | _ :: _ :: _, hr => cases hr
  | c :: d :: r, j, σ, hd, bl, y, vs, L, h, hr, hn, hL, hf => by
    match vs, hr with
    | [], hr => cases hr
    | [v], hr => cases hr
    | v :: u :: vs, hr =>
      obtain ⟨L1, L2, rfl, hv, hr⟩ := hr
      obtain ⟨hd', bl', h1, h2, h3, h4, h5⟩ := putOne_ok h (dst := dst) (j := j) (x := y.1) (M := L2) hv hn hL hf
      rw [List.nodup_append] at hn
      obtain ⟨hd2, bl2, k1, k2, k3⟩ := putCells_ok (j := j + 1) h1 hr hn.2.1 (fun b hb => hL b (by simp [hb])) h4
      refine ⟨hd2, bl2, k1, ?_, fun e he => ?_⟩
      · show CVs w Im hd2 ([v] ++ (u :: vs)) (_ ++ _)
        refine CVs.app (CVs.rehead (fun e he k hk => ?_) h2) k2
        refine k3 k (fun i hi => ?_)
        have := h5 e he k hk
        omega
      · rw [k3 e (fun i hi => he i (by omega)), h3 e (he j (Nat.le_refl _))]

theorem cutParts_PRs : ∀ {rs : List (Bool × List RC)} {vs : List Value} {l : List CV}, CVs w Im hd vs l → PRs w Im hd (partVals rs vs) (cutParts rs l)
  | [], _, _, _ => trivial
  | (g, rs) :: r, vs, l, h => by
    refine ⟨?_, cutParts_PRs (h.drop _)⟩
    have := ofCells_AVR (agg := g) (h.take rs.length)
    exact PR.of this
theorem ofParts_ok : ∀ {vs : List Value} {l : List (Bool × List CV)}, PRs w Im hd vs l → AVR w Im hd (oneVal vs) (ofParts l)
  | [], [], _ => ⟨[], rfl, trivial⟩
  | [v], [(g, l)], h => PR.avr h.1
  | v :: u :: vs, p :: q :: l, h => ⟨v :: u :: vs, rfl, h⟩
  | [], _ :: _, h => h.elim
  | _ :: _, [], h => h.elim
  | [_], _ :: _ :: _, h => h.2.elim
  | _ :: _ :: _, [_], h => h.2.elim

theorem leads_flat {w w' : World} {S S' : Nat → Prop} {v : Value} {L : List Nat} {c : RC} {x : c.t.den} (hl : leadsB c = false) (hL : ∀ b ∈ L, w'.heap[b]? = w.heap[b]?) (h : RCR w S v L c x) : RCR w' S' v L c x := by
  obtain ⟨t, o⟩ := c
  have plain : ∀ (t : Ty) (y : t.den), t.flat = true → VR w S t y [v] ∧ L = [] → VR w' S' t y [v] ∧ L = [] := fun t y hf h => ⟨VR.flat hf h.1, h.2⟩
  cases t with
  | int k => exact plain (.int k) x rfl h
  | bool => exact plain .bool x rfl h
  | str => exact plain .str x rfl h
  | pair s t =>
    have hf : (Ty.pair s t).flat = true := by simpa [leadsB] using hl
    exact plain (.pair s t) x hf h
  | slice t =>
    cases o with
    | none => simp [leadsB, Ty.flat] at hl
    | some dn =>
      obtain ⟨d, n⟩ := dn
      refine ⟨?_, h.2⟩
      have hdf : d = true ∨ t.flat = true := by cases d <;> simp [leadsB] at hl ⊢; exact hl
      rcases h.1 with h1 | ⟨b, cap, cs, F, Li, e1, e2, e3, e4, rfl, e6⟩
      · exact .inl h1
      · refine .inr ⟨b, cap, cs, F, Li, e1, by rw [hL b (by simp)]; exact e2, e3, e4, rfl, ?_⟩
        cases d with
        | true => exact e6.mapP fun y c l hl hp => OT.same hp (fun b hb => hL b (by simp [hl b hb]))
        | false =>
          have hf := hdf.resolve_left (by simp)
          exact e6.mapP fun y c l hl hp => ⟨VR.flat hf hp.1, hp.2⟩
theorem RCs.quiet {w w' : World} {S S' : Nat → Prop} : ∀ {rs : List RC} {vs : List Value} {L : List Nat} {y : Rden rs}, rs.any leadsB = false → (∀ b ∈ L, w'.heap[b]? = w.heap[b]?) → RCs w S vs L rs y → RCs w' S' vs L rs y
  | [], [], L, y, _, _, h => h
  | [c], [v], L, y, hl, hL, h => leads_flat (x := y) (by simpa using hl) hL h
  | c :: d :: r, v :: u :: vs, L, y, hl, hL, h => by
    obtain ⟨L1, L2, rfl, h1, h2⟩ := h
    rw [List.any_cons, Bool.or_eq_false_iff] at hl
    exact ⟨L1, L2, rfl, leads_flat hl.1 (fun b hb => hL b (by simp [hb])) h1, RCs.quiet (rs := d :: r) (vs := u :: vs) (y := y.2) hl.2 (fun b hb => hL b (by simp [hb])) h2⟩
  | [], [_], _, _, _, _, h => by cases h
  | [], _ :: _ :: _, _, _, _, _, h => by cases h
  | [_], [], _, _, _, _, h => by cases h
  | [_], _ :: _ :: _, _, _, _, _, h => by cases h
  | _ :: _ :: _, [], _, _, _, _, h => by cases h
  | _ :: _ :: _, [_], _, _, _, _, h => by cases h

theorem SRi.block_lt (h : SRi w0 S0 σ a w Im hd bl) {c : Nat} {o : Ob} (hc : obGet σ.ob c = some o) : ∀ b ∈ bl c, b < w.heap.size := fun b hb => ((h.own c o hc).2 b hb).2.1

theorem aResult_ok (h : SRi w0 S0 σ a w Im hd bl) {w' : World} {S : Nat → Prop} (hlt : ∀ b, S b → b < w.heap.size) (hbel : Below w.heap.size w w') {rs : List (Bool × List RC)} {y : Rden (flatRs rs)} {v : Value} (hr : ResR w w' S rs y v)
    (hS : immB rs = true → ∀ b, S b ↔ Im b) {dst : Option Nat} {next : St → Option ρ} {r : ρ} (hn : aResult σ dst rs y next = some r) : Goes w0 S0 next r (a.put dst v) w' := by
  obtain ⟨S', vs, L, rfl, s1, s2, s3, s4, s5⟩ := hr
  have hsz := hbel.size
  have h' : SRi w0 S0 σ a w' Im hd bl := h.world (fun b hb => hbel.block b hb) hsz (h.below.trans (hbel.mono h.below.size))
  unfold aResult at hn
  cases dst with
  | none => exact ⟨σ, hn, Im, hd, bl, h'⟩
  | some d =>
    simp only at hn
    obtain ⟨Im', g1, g2, g3⟩ : ∃ Im', SRi w0 S0 σ a w' Im' hd bl ∧ RCs w' Im' vs L (flatRs rs) y ∧ (∀ b ∈ L, ¬ Im' b) := by
      cases hi : immB rs with
      | true =>
        refine ⟨S', h'.widen (n := w.heap.size) (fun b hb => s1 b ((hS hi b).2 hb)) (fun b hb => (s2 b hb).imp_left (hS hi b).1) h.below.size (fun c o hc b hb => h.block_lt hc b hb), s5, fun b hb => (s4 b hb).2.2⟩
      | false =>
        exact ⟨Im, h', s5.quiet hi (fun _ _ => rfl), fun b hb hI => by have := h.lt b hI; have := (s4 b hb).1; omega⟩
    obtain ⟨hd', bl', k1, k2, _⟩ := putCells_ok (dst := d) (j := 0) g1 g2 s3 (fun b hb => ⟨Nat.le_trans h.below.size (s4 b hb).1, (s4 b hb).2.1, g3 b hb⟩) (fun k p hp b hb hbL => by
      have := h.block_lt hp b hb
      have := (s4 b hbL).1
      omega)
    exact ⟨_, hn, Im', hd', bl', k1.put (some d) (ofParts_ok (cutParts_PRs k2))⟩

/-- A call. -/
theorem aCall_ok {E : Env} {ck : (fi : Fi) → Aden fi.ps → Option (Rden (flatRs fi.rs))} (hG : ∀ f ids fi, E.fn f ids = some fi → ∀ x y, ck fi x = some y → Gives P f fi x y) (h : SRi w0 S0 σ a w Im hd bl) {o : Oper} {f : Nat} {vs : List Value} {avs : List AV}
    (hv : AVs w Im hd vs avs) (hr : (execOp a.eval o).run P w = (callFunc f vs.toArray).run P w) {next : St → Option ρ} {r : ρ} (hn : aCall E σ ck f o.dst avs next = some r) : o.wp P a w (Goes w0 S0 next r) Q := by
  unfold aCall at hn
  split at hn
  · cases hn
  · rename_i fi hf
    split at hn
    · cases hn
    · rename_i xs hx
      obtain ⟨y, hy, hn⟩ := Option.bind_eq_some_iff.1 hn
      have hargs := toArgs_ok h hv hx
      cases hi : immB fi.rs with
      | true =>
        rw [hi, cond_true] at hn
        obtain ⟨Im', h1, i1, i2, i3⟩ := freezeAll_ok h (argOwns avs)
        have hargs' : ArgsR w Im' vs fi.ps xs := hargs.mono fun b hb => by
          rcases hb with hb | ⟨k, hk, ⟨t, xs, d, n, hg⟩, hb⟩
          · exact i1 b hb
          · exact i3 k hk t xs d n hg b hb
        refine (hG f _ fi hf xs y hy w Im' vs h1.lt hargs').wp hr fun v w' hh => ?_
        exact aResult_ok h1 h1.lt hh.1 hh.2 (fun _ b => Iff.rfl) hn
      | false =>
        rw [hi, cond_false] at hn
        have hlt : ∀ b, (Im b ∨ ∃ k ∈ argOwns avs, IsRow σ k ∧ b ∈ bl k) → b < w.heap.size := fun b hb => by
          rcases hb with hb | ⟨k, hk, ⟨t, xs, d, n, hg⟩, hb⟩
          · exact h.lt b hb
          · exact h.block_lt hg b hb
        refine (hG f _ fi hf xs y hy w _ vs hlt hargs).wp hr fun v w' hh => ?_
        exact aResult_ok h hlt hh.1 hh.2 (fun e => by rw [hi] at e; cases e) hn

end
end Go.Vt
