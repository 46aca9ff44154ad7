/-
  What a call gives, and the plain machine's calls.
  Conditions: none; these are definitions and lemmas on them.
-/
import Derived.Test.YtlgkjckddpnfnaaGreatDoorXvo
namespace Go.Vt
open Go.RowKit
set_option linter.unusedVariables false
set_option linter.unusedSimpArgs false

/-! ### contracts -/
/-- What an argument reads as. -/
def CapR (w : World) (S : Nat → Prop) (v : Value) (t : Ty) (x : t.den) : Prop := ∃ b o cs, S b ∧ v = .pointer (some ⟨b, o, none⟩) ∧ At w b o cs ∧ VR w S t x cs
def CapsR (w : World) (S : Nat → Prop) : List Value → (ts : List Ty) → (tupTy ts).den → Prop
  | [], [], _ => True
  | [v], [t], x => CapR w S v t x
  | v :: u :: vs, t :: q :: r, x => CapR w S v t x.1 ∧ CapsR w S (u :: vs) (q :: r) x.2
  | _, _, _ => False
def ArgR (w : World) (S : Nat → Prop) (v : Value) : (p : PT) → p.ty.den → Prop
  | .v t agg, x => ∃ cs, v = cellsVal agg cs ∧ (agg = false → cs.length = 1) ∧ VR w S t x cs
  | .r t, x => ∃ b o cs, S b ∧ v = .pointer (some ⟨b, o, none⟩) ∧ At w b o cs ∧ VR w S t x cs
  | .fn f ts, x => ∃ ps, v = .func (.func f) #[] ps.toArray ∧ CapsR w S ps ts x
  | .z t, x => v = .slice none 0 0 ∧ x = ([] : List t.den)
  | .o _ _, _ => False
  | .p _ _, _ => False
def ArgsR (w : World) (S : Nat → Prop) : List Value → (ps : List PT) → Aden ps → Prop
  | [], [], _ => True
  | [v], [p], x => ArgR w S v p x
  | v :: u :: vs, p :: q :: r, x => ArgR w S v p x.1 ∧ ArgsR w S (u :: vs) (q :: r) x.2
  | _, _, _ => False

/-- A variable of one's own, told by its address. -/
def BoxR (w : World) (S : Nat → Prop) (v : Value) (L : List Nat) (t : Ty) (x : t.den) : Prop := ∃ b cs E, v = .pointer (some ⟨b, 0, none⟩) ∧ w.heap[b]? = some (.cells cs E (0, 0)) ∧ L = [b] ∧ VR w S t x cs.toList
theorem BoxR.mono {w : World} {S S' : Nat → Prop} (hs : ∀ b, S b → S' b) {v : Value} {L : List Nat} {t : Ty} {x : t.den} (h : BoxR w S v L t x) : BoxR w S' v L t x := by
  obtain ⟨b, cs, E, h1, h2, h3, h4⟩ := h
  exact ⟨b, cs, E, h1, h2, h3, VR.mono (Same.refl _ _) hs h4⟩
theorem BoxR.obj {w : World} {Im : Nat → Prop} {hd : Nat → Value} {v : Value} {L : List Nat} {t : Ty} {x : t.den} (h : BoxR w Im v L t x) : ObR w Im hd v L (.box (explode t x)) := by
  obtain ⟨b, cs, E, h1, h2, h3, h4⟩ := h
  exact ⟨b, cs, E, h1, h2, h3, explode_CVs h4⟩
theorem BoxR.of {w : World} {Im : Nat → Prop} {hd : Nat → Value} {v : Value} {L : List Nat} {t : Ty} {l : List CV} {x : t.den} (h : ObR w Im hd v L (.box l)) (hx : implode t l = some x) : BoxR w Im v L t x := by
  obtain ⟨b, cs, E, h1, h2, h3, h4⟩ := h
  exact ⟨b, cs, E, h1, h2, h3, implode_read hx h4⟩
/-- What a result's cell reads as; the blocks that it owns. -/
def RCR (w : World) (S : Nat → Prop) (v : Value) (L : List Nat) : (c : RC) → c.t.den → Prop
  | ⟨.slice t, some (d, n)⟩, xs => ORow w t.sz (rowP w S t d) v xs L ∧ (n = true → xs = [] → v = .slice none 0 0)
  | ⟨.pair a b, some _⟩, x => BoxR w S v L (.pair a b) x
  | ⟨t, _⟩, x => VR w S t x [v] ∧ L = []
def RCs (w : World) (S : Nat → Prop) : List Value → List Nat → (rs : List RC) → Rden rs → Prop
  | [], L, [], _ => L = []
  | [v], L, [c], x => RCR w S v L c x
  | v :: u :: vs, L, c :: d :: r, x => ∃ L1 L2, L = L1 ++ L2 ∧ RCR w S v L1 c x.1 ∧ RCs w S (u :: vs) L2 (d :: r) x.2
  | _, _, _, _ => False
def partVals : List (Bool × List RC) → List Value → List Value
  | [], _ => []
  | (g, rs) :: r, vs => cellsVal g (vs.take rs.length) :: partVals r (vs.drop rs.length)
def oneVal : List Value → Value
  | [v] => v | l => .tuple l.toArray
/-- An argument with rows of the caller's own: the blocks of these, and their heads. -/
def PCR (w : World) (S : Nat → Prop) (v : Value) (L : List Nat) : (c : PC) → c.ty.den → Prop
  | .v t, x => VR w S t x [v] ∧ L = []
  | .o t d, xs => ORow w t.sz (rowP w S t d) v xs L
def PCs (w : World) (S : Nat → Prop) : List Value → List Nat → (cs : List PC) → (tupTy (cs.map PC.ty)).den → Prop
  | [], L, [], _ => L = []
  | [v], L, [c], x => PCR w S v L c x
  | v :: u :: vs, L, c :: d :: r, x => ∃ L1 L2, L = L1 ++ L2 ∧ PCR w S v L1 c x.1 ∧ PCs w S (u :: vs) L2 (d :: r) x.2
  | _, _, _, _ => False
def cellHeads : List PC → List Value → List Value
  | .o _ _ :: r, v :: l => v :: cellHeads r l | .v _ :: r, _ :: l => cellHeads r l | _, _ => []
def ArgO (w : World) (S : Nat → Prop) (v : Value) (L : List Nat) (H : List Value) : (p : PT) → p.ty.den → Prop
  | .v t agg, x => ArgR w S v (.v t agg) x ∧ L = [] ∧ H = []
  | .r t, x => ArgR w S v (.r t) x ∧ L = [] ∧ H = []
  | .fn f ts, x => ArgR w S v (.fn f ts) x ∧ L = [] ∧ H = []
  | .z t, x => ArgR w S v (.z t) x ∧ L = [] ∧ H = []
  | .o cs agg, x => ∃ vs, v = cellsVal agg vs ∧ (agg = false → vs.length = 1) ∧ PCs w S vs L cs x ∧ H = cellHeads cs vs
  | .p a b, x => BoxR w S v L (.pair a b) x ∧ H = [v]
def ArgsO (w : World) (S : Nat → Prop) : List Value → List Nat → List Value → (ps : List PT) → Aden ps → Prop
  | [], L, H, [], _ => L = [] ∧ H = []
  | [v], L, H, [p], x => ArgO w S v L H p x
  | v :: u :: vs, L, H, p :: q :: r, x => ∃ L1 L2 H1 H2, L = L1 ++ L2 ∧ H = H1 ++ H2 ∧ ArgO w S v L1 H1 p x.1 ∧ ArgsO w S (u :: vs) L2 H2 (q :: r) x.2
  | _, _, _, _, _ => False

def ResR {gw : Gw} (B : Base gw) (w' : World) (S : Nat → Prop) (rs : List (Bool × List RC)) (ios : List RC) (H : List Value) (y : Oden (flatRs rs) ios) (v : Value) : Prop :=
  ∃ (S' : Nat → Prop) (vs : List Value) (L M : List Nat), v = oneVal (partVals rs vs) ∧ (∀ b, S b → S' b) ∧ (∀ b, S' b → S b ∨ (B.mine b ∧ b < w'.heap.size)) ∧
    (L ++ M).Nodup ∧ (∀ b ∈ L ++ M, B.mine b ∧ b < w'.heap.size ∧ ¬ S' b) ∧ RCs w' S' vs L (flatRs rs) (Oden.res _ _ y) ∧ RCs w' S' H M ios (Oden.io _ _ y)

/-- A function, called, comes back with what R says. -/
def Does (P : Program) (f : FuncId) (vs : Array Value) (w : World) (R : Value → World → Prop) : Prop :=
  match (callFunc f vs).run P w with
  | .ok (.value v) w' => R v w'
  | .ok (.enter g args) w' => Calls P g args w' fun e w'' => match e with | .returned v => R v w'' | _ => False
  | .ok (.row row args) w' => Go.Rows P row args w' R
  | _ => False
def ArgsG (d : Bool) (w : World) (S : Nat → Prop) (v : Value) (us : List Value) (L : List Nat) : (ps : List PT) → Aden ps → Prop
  | .v (.slice t) false :: q :: r, x => ORow w t.sz (rowP w S t d) v x.1 L ∧ ArgsR w S us (q :: r) x.2
  | _, _ => False
/-- A function to which a row is given away. -/
def GivesG (P : Program) (gw : Gw) (f : FuncId) (fi : Fi) (x : Aden fi.ps) (y : Oden (flatRs fi.rs) (ioOf fi.ps)) : Prop :=
  ∀ (B : Base gw) (S : Nat → Prop) (v : Value) (us : List Value) (L : List Nat), (∀ b, S b → b < B.w.heap.size) → L.Nodup → (∀ b ∈ L, B.mine b ∧ b < B.w.heap.size ∧ ¬ S b) → B.hs = [] → ArgsG (!fi.run1) B.w S v us L fi.ps x →
    Does P f (v :: us).toArray B.w fun u w' => Kept B w' ∧ ResR B w' S fi.rs (ioOf fi.ps) [] y u
def GivesO (P : Program) (gw : Gw) (f : FuncId) (fi : Fi) (x : Aden fi.ps) (y : Oden (flatRs fi.rs) (ioOf fi.ps)) : Prop :=
  ∀ (B : Base gw) (S : Nat → Prop) (vs : List Value) (L : List Nat) (H : List Value), (∀ b, S b → b < B.w.heap.size) → L.Nodup → (∀ b ∈ L, B.mine b ∧ b < B.w.heap.size ∧ ¬ S b) → B.hs = H → ArgsO B.w S vs L H fi.ps x →
    Does P f vs.toArray B.w fun v w' => Kept B w' ∧ ResR B w' S fi.rs (ioOf fi.ps) H y v

def Gives (P : Program) (gw : Gw) (f : FuncId) (fi : Fi) (x : Aden fi.ps) (y : Oden (flatRs fi.rs) (ioOf fi.ps)) : Prop :=
  bif fi.gift then GivesG P gw f fi x y else GivesO P gw f fi x y

theorem Gives.o {P : Program} {gw : Gw} {f : FuncId} {fi : Fi} {x : Aden fi.ps} {y : Oden (flatRs fi.rs) (ioOf fi.ps)} (h : Gives P gw f fi x y) (hg : fi.gift = false) : GivesO P gw f fi x y := by
  unfold Gives at h; rw [hg] at h; exact h
theorem GivesO.all {P : Program} {gw : Gw} {f : FuncId} {fi : Fi} {x : Aden fi.ps} {y : Oden (flatRs fi.rs) (ioOf fi.ps)} (h : GivesO P gw f fi x y) (hg : fi.gift = false) : Gives P gw f fi x y := by
  unfold Gives; rw [hg]; exact h
theorem Fi.gift_none {fi : Fi} (h : fi.ext = none) : fi.gift = fi.run1 := by
  unfold Fi.gift; rw [h]; show (Nat.beq fi.nt 77777 && false || fi.run1) = fi.run1; rw [Bool.and_false, Bool.false_or]

theorem blt_lt {a b : Nat} (h : Nat.blt a b = true) : a < b := by rw [Nat.blt_eq] at h; exact h

section
variable {P : Program} {ρ : Type} {gw : Gw} {w0 : Base gw} {w : World} {S0 : Nat → Prop} {σ : St} {a : Act} {Im : Nat → Prop} {hd : Nat → Value} {bl : Nat → List Nat} {Q : Exit → Act → World → Prop}

theorem Does.wp {o : Oper} {f : FuncId} {vs : Array Value} {R : Value → World → Prop} {K : Act → World → Prop} (h : Does P f vs w R) (hr : (execOp a.eval o).run P w = (callFunc f vs).run P w) (hk : ∀ v w', R v w' → K (a.put o.dst v) w') : o.wp P a w K Q := by
  unfold Oper.wp
  rw [hr]
  unfold Does at h
  split at h
  · rename_i v w' he; rw [he]; exact hk v w' h
  · rename_i g args w' he
    rw [he, Oper.upon_enter]
    refine h.mono fun e w'' hh => ?_
    cases e with
    | returned v => exact hk v w'' hh
    | panicked c => exact hh.elim
    | outgrown => exact hh.elim
  · rename_i row args w' he
    rw [he, Oper.upon_row]
    exact h.mono fun v w'' hh => hk v w'' hh
  · exact h.elim

/-! ### arguments -/
def AVs (w : World) (Im : Nat → Prop) (hd : Nat → Value) : List Value → List AV → Prop
  | [], [] => True | v :: vs, c :: cs => AVR w Im hd v c ∧ AVs w Im hd vs cs | _, _ => False
theorem AVs.app : ∀ {vs us : List Value} {l m : List AV}, AVs w Im hd vs l → AVs w Im hd us m → AVs w Im hd (vs ++ us) (l ++ m)
  | [], _, [], _, _, h => h | _ :: _, _, _ :: _, _, h, k => ⟨h.1, AVs.app h.2 k⟩ | [], _, _ :: _, _, h, _ => h.elim | _ :: _, _, [], _, h, _ => h.elim
theorem AVs.evs (h : SRi w0 S0 σ a w Im hd bl) : ∀ (xs : List Operand), AVs w Im hd (xs.map a.eval) (xs.map σ.ev)
  | [] => trivial | x :: xs => ⟨h.ev x, AVs.evs h xs⟩
theorem AVs.refs : ∀ {ps : List Value} {caps : List (List CV)}, RefRs w Im (fun _ => undef) ps caps → AVs w Im hd ps (caps.map .ref)
  | [], [], _ => trivial | _ :: _, _ :: _, h => ⟨h.1, AVs.refs h.2⟩ | [], _ :: _, h => h.elim | _ :: _, [], h => h.elim

theorem capsTo_ok : ∀ (ts : List Ty) (caps : List (List CV)) (ps : List Value) (x : (tupTy ts).den), RefRs w Im (fun _ => undef) ps caps → capsTo ts caps = some x → CapsR w Im ps ts x := by
  intro ts
  induction ts with
  | nil =>
    intro caps ps x h hx
    cases caps with
    | nil => cases ps with
      | nil => trivial
      | cons v ps => exact h.elim
    | cons l caps => cases hx
  | cons t r ih =>
    cases r with
    | nil =>
      intro caps ps x h hx
      cases caps with
      | nil => cases hx
      | cons l caps =>
        cases caps with
        | cons m caps => cases hx
        | nil =>
          cases ps with
          | nil => exact h.elim
          | cons v ps =>
            cases ps with
            | cons u ps => exact h.2.elim
            | nil =>
              obtain ⟨pl, b, o, vs, hb, rfl, hat, hvs⟩ := h.1
              exact ⟨b, o, vs, hb, rfl, hat, implode_read (show implode t l = some x from hx) hvs⟩
    | cons q r =>
      intro caps ps x h hx
      cases caps with
      | nil => cases hx
      | cons l caps =>
        have hx' : ((implode t l).bind fun x => (capsTo (q :: r) caps).bind fun y => some (x, y)) = some x := hx
        obtain ⟨y, hy, hx'⟩ := Option.bind_eq_some_iff.1 hx'
        obtain ⟨z, hz, hx'⟩ := Option.bind_eq_some_iff.1 hx'
        cases hx'
        cases ps with
        | nil => exact h.elim
        | cons v ps =>
          have ih' := ih caps ps z h.2 hz
          cases ps with
          | nil =>
            cases r <;> exact ih'.elim
          | cons u ps =>
            obtain ⟨pl, b, o, cs, hb, rfl, hat, hvs⟩ := h.1
            exact ⟨⟨b, o, cs, hb, rfl, hat, implode_read hy hvs⟩, ih'⟩
theorem CapR.mono {S S' : Nat → Prop} (hs : ∀ b, S b → S' b) {v : Value} {t : Ty} {x : t.den} (h : CapR w S v t x) : CapR w S' v t x := by
  obtain ⟨b, o, cs, h1, h2, h3, h4⟩ := h
  exact ⟨b, o, cs, hs b h1, h2, h3, VR.mono (Same.refl _ _) hs h4⟩
theorem CapsR.mono {S S' : Nat → Prop} (hs : ∀ b, S b → S' b) : ∀ {vs : List Value} {ts : List Ty} {x : (tupTy ts).den}, CapsR w S vs ts x → CapsR w S' vs ts x
  | [], [], _, _ => trivial
  | [v], [t], x, h => CapR.mono hs h
  | v :: u :: vs, t :: q :: r, x, h => ⟨CapR.mono hs h.1, CapsR.mono hs (ts := q :: r) h.2⟩
  | [], [_], _, h => by cases h
  | [], _ :: _ :: _, _, h => by cases h
  | [_], [], _, h => by cases h
  | [_], _ :: _ :: _, _, h => by cases h
  | _ :: _ :: _, [], _, h => by cases h
  | _ :: _ :: _, [_], _, h => by cases h

theorem OT.flat_nil {w : World} : ∀ {t : Ty} {x : t.den} {cs : List Value} {L : List Nat}, t.flat = true → OT w t x cs L → L = []
  | .int _, _, _, _, _, h => h.2
  | .bool, _, _, _, _, h => h.2
  | .str, _, _, _, _, h => h.2
  | .slice t, _, _, _, f, _ => by cases f
  | .set, _, _, _, f, _ => by cases f
  | .err, _, _, _, _, h => h.2
  | .pair a b, x, cs, L, f, h => by
    obtain ⟨c1, c2, L1, L2, e, rfl, h1, h2⟩ := h
    have f' : a.flat = true ∧ b.flat = true := by simpa [Ty.flat] using f
    rw [OT.flat_nil f'.1 h1, OT.flat_nil f'.2 h2]; rfl
/-- A row, or a variable's box. -/
def IsOb (σ : St) (k : Nat) : Prop := IsRow σ k ∨ ∃ l, obGet σ.ob k = some (.box l)
theorem IsOb.some {σ : St} {k : Nat} (h : IsOb σ k) : ∃ o, obGet σ.ob k = some o := by
  rcases h with ⟨t, xs, d, n, h⟩ | ⟨l, h⟩
  · exact ⟨_, h⟩
  · exact ⟨_, h⟩
theorem flat_rowP {w w' : World} {S S' : Nat → Prop} {t : Ty} {d e : Bool} (hf : t.flat = true) {x : t.den} {cs : List Value} {L : List Nat} (h : rowP w S t d x cs L) : rowP w' S' t e x cs L := by
  have key : VR w S t x cs ∧ L = [] := by
    cases d with
    | true =>
      have h' : OT w t x cs L := h
      have hL := OT.flat_nil hf h'
      exact ⟨h'.read (fun b hb => by rw [hL] at hb; cases hb), hL⟩
    | false => exact h
  cases e with
  | true => rw [key.2]; exact VR.own hf key.1
  | false => exact ⟨VR.flat hf key.1, key.2⟩
theorem toCell_ok (h : SRi w0 S0 σ a w Im hd bl) {v : Value} {cv : CV} (hv : CVR w Im hd v cv) {c : PC} {x : c.ty.den} (hx : σ.toCell c cv = some x) :
    PCR w Im v ((someKeys (cellKeys [c] [cv])).flatMap bl) c x ∧ (∀ k ∈ someKeys (cellKeys [c] [cv]), IsRow σ k) := by
  cases c with
  | v t =>
    have hk : cellKeys [.v t] [cv] = [] := by cases cv <;> rfl
    rw [hk]
    refine ⟨⟨?_, rfl⟩, fun k hk => by cases hk⟩
    cases cv with
    | own k => cases hx
    | dead => exact (by cases (show (none : Option t.den) = some x from hx))
    | unk => exact (by cases (show (none : Option t.den) = some x from hx))
    | nil => have := cvAs_read h (show σ.cvAs t .nil = some x from hx) hv; exact VR.mono (Same.refl _ _) (fun b hb => hb.elim (fun h => h) (fun ⟨k, hk, _⟩ => by cases hk)) this
    | val u y => have := cvAs_read h (show σ.cvAs t (.val u y) = some x from hx) hv; exact VR.mono (Same.refl _ _) (fun b hb => hb.elim (fun h => h) (fun ⟨k, hk, _⟩ => by cases hk)) this
  | o t d =>
    cases cv with
    | dead => cases hx
    | unk => cases hx
    | val u y => cases hx
    | nil => cases hx; exact ⟨.inl ⟨hv, rfl, rfl⟩, fun k hk => by cases hk⟩
    | own k =>
      unfold St.toCell at hx
      dsimp only at hx
      split at hx
      · rename_i u xs e n hc
        cases hk : (t.flat || (bif d then e else !e)) with
        | false => rw [hk] at hx; cases hx
        | true =>
          rw [hk] at hx
          obtain ⟨ee, rfl⟩ := as_some (show (Ty.slice u).as (.slice t) xs = some x from hx)
          cases ee
          refine ⟨?_, fun k' hk' => ?_⟩
          · have ho := (h.objs k _ hc).1
            rw [show v = hd k from hv]
            show ORow w t.sz (rowP w Im t d) (hd k) xs ((someKeys [some k]).flatMap bl)
            have hb : (someKeys [some k]).flatMap bl = bl k := by simp [someKeys]
            rw [hb]
            rcases ho with h1 | ⟨b, f0, cap, cs, F, Li, e1, e2, e3, e4, e5, e6⟩
            · exact .inl h1
            · refine .inr ⟨b, f0, cap, cs, F, Li, e1, e2, e3, e4, e5, ?_⟩
              cases hf : t.flat with
              | true => exact e6.mapP fun y c l _ hp => flat_rowP hf hp
              | false =>
                rw [hf, Bool.false_or] at hk
                cases d <;> cases e <;> first | exact e6 | cases hk
          · have : k' = k := by simpa [cellKeys, someKeys] using hk'
            subst this
            exact ⟨_, _, _, _, hc⟩
      · cases hx
theorem someKeys_app : ∀ (a b : List (Option Nat)), someKeys (a ++ b) = someKeys a ++ someKeys b
  | [], b => rfl
  | some k :: a, b => by simp [someKeys, someKeys_app a b]
  | none :: a, b => by simp [someKeys, someKeys_app a b]
theorem cellKeys_cons (c : PC) (cv : CV) (cs : List PC) (l : List CV) : cellKeys (c :: cs) (cv :: l) = cellKeys [c] [cv] ++ cellKeys cs l := by
  cases c with
  | v t => cases cv <;> rfl
  | o t d => cases cv <;> rfl
/-- The heads of the rows that are handed in are those of the state's objects; or nil. -/
def HeadsR (hd : Nat → Value) : List (Option Nat) → List Value → Prop
  | [], [] => True | some k :: ks, v :: vs => v = hd k ∧ HeadsR hd ks vs | none :: ks, v :: vs => v = .slice none 0 0 ∧ HeadsR hd ks vs | _, _ => False
theorem HeadsR.app {hd : Nat → Value} : ∀ {ks js : List (Option Nat)} {vs us : List Value}, HeadsR hd ks vs → HeadsR hd js us → HeadsR hd (ks ++ js) (vs ++ us)
  | [], _, [], _, _, k => k
  | some _ :: _, _, _ :: _, _, h, k => ⟨h.1, HeadsR.app h.2 k⟩
  | none :: _, _, _ :: _, _, h, k => ⟨h.1, HeadsR.app h.2 k⟩
  | [], _, _ :: _, _, h, _ => h.elim
  | some _ :: _, _, [], _, h, _ => h.elim
  | none :: _, _, [], _, h, _ => h.elim
theorem toCell_head (h : SRi w0 S0 σ a w Im hd bl) {v : Value} {cv : CV} (hv : CVR w Im hd v cv) {c : PC} {x : c.ty.den} (hx : σ.toCell c cv = some x) : HeadsR hd (cellKeys [c] [cv]) (cellHeads [c] [v]) := by
  cases c with
  | v t => cases cv <;> trivial
  | o t d =>
    cases cv with
    | dead => cases hx
    | unk => cases hx
    | val u y => cases hx
    | nil => exact ⟨hv, trivial⟩
    | own k => exact ⟨hv, trivial⟩
theorem cellHeads_cons (c : PC) (v : Value) (cs : List PC) (l : List Value) : cellHeads (c :: cs) (v :: l) = cellHeads [c] [v] ++ cellHeads cs l := by cases c <;> rfl
theorem toCells_nil {σ : St} : ∀ {d : PC} {r : List PC} {x : (tupTy ((d :: r).map PC.ty)).den}, σ.toCells (d :: r) [] = some x → False
  | _, [], _, h => by cases h
  | _, _ :: _, _, h => by cases h
theorem toCells_ok (h : SRi w0 S0 σ a w Im hd bl) : ∀ {cs : List PC} {vs : List Value} {l : List CV} {x : (tupTy (cs.map PC.ty)).den}, CVs w Im hd vs l → σ.toCells cs l = some x →
    PCs w Im vs ((someKeys (cellKeys cs l)).flatMap bl) cs x ∧ (∀ k ∈ someKeys (cellKeys cs l), IsRow σ k) ∧ HeadsR hd (cellKeys cs l) (cellHeads cs vs)
  | [], vs, [], x, hv, hx => by match vs, hv with | [], _ => exact ⟨rfl, (fun k hk => by cases hk), trivial⟩
  | [c], vs, [cv], x, hv, hx => by
    match vs, hv with
    | [v], hv =>
      have := toCell_ok h hv.1 (c := c) (x := x) hx
      exact ⟨this.1, this.2, toCell_head h hv.1 (c := c) (x := x) hx⟩
  | c :: d :: r, vs, cv :: l, x, hv, hx => by
    obtain ⟨x1, h1, hx⟩ := Option.bind_eq_some_iff.1 (show ((σ.toCell c cv).bind fun x => (σ.toCells (d :: r) l).bind fun y => some (x, y)) = some x from hx)
    obtain ⟨x2, h2, hx⟩ := Option.bind_eq_some_iff.1 hx
    cases hx
    match l, vs, hv with
    | cv2 :: l, v :: u :: us, hv =>
      have k1 := toCell_ok h hv.1 (c := c) (x := x1) h1
      have k2 := toCells_ok h (cs := d :: r) (x := x2) hv.2 h2
      rw [cellKeys_cons, someKeys_app, List.flatMap_append, cellHeads_cons]
      refine ⟨⟨_, _, rfl, k1.1, k2.1⟩, fun k hk => ?_, (toCell_head h hv.1 (c := c) (x := x1) h1).app k2.2.2⟩
      rcases List.mem_append.1 hk with hk | hk
      · exact k1.2 k hk
      · exact k2.2.1 k hk
    | [], _, _ => exact nomatch toCells_nil h2
  | [], _, _ :: _, _, _, hx => by cases hx
  | [_], _, [], _, _, hx => by cases hx
  | [_], _, _ :: _ :: _, _, _, hx => by cases hx
  | _ :: _ :: _, _, [], _, _, hx => by cases hx

theorem toArg_ok (h : SRi w0 S0 σ a w Im hd bl) {v : Value} {av : AV} (hv : AVR w Im hd v av) {p : PT} (ho : ∀ cs agg, p ≠ .o cs agg) (hp : ∀ a b, p ≠ .p a b) {x : p.ty.den} (hx : σ.toArg p av = some x) : ArgR w (fun b => Im b ∨ ∃ k ∈ av.owns, IsTr σ k ∧ b ∈ bl k) v p x := by
  cases p with
  | v t agg =>
    cases av with
    | cv c =>
      cases agg with
      | true => cases hx
      | false => exact ⟨[v], rfl, fun _ => rfl, cvAs_read h (show σ.cvAs t c = some x from hx) hv⟩
    | ag l =>
      cases agg with
      | false => cases hx
      | true =>
        obtain ⟨vs, rfl, hvs⟩ := hv
        exact ⟨vs, rfl, (fun e => by cases e), impl_read h (show σ.impl t l = some x from hx) hvs⟩
    | adr c o => cases hx
    | el c n i o => cases hx
    | ref l => cases hx
    | fn f l => cases hx
    | tup l => cases hx
  | r t =>
    cases av with
    | ref l =>
      obtain ⟨pl, b, o, vs, hb, rfl, hat, hvs⟩ := hv
      refine ⟨b, o, vs, .inl hb, rfl, hat, ?_⟩
      exact VR.mono (Same.refl _ _) (fun b hb => .inl hb) (implode_read (show implode t l = some x from hx) hvs)
    | cv c => cases hx
    | ag l => cases hx
    | adr c o => cases hx
    | el c n i o => cases hx
    | fn f l => cases hx
    | tup l => cases hx
  | fn f ts =>
    cases av with
    | fn g caps =>
      have hx' : (bif Nat.beq f g then capsTo ts caps else none) = some x := hx
      cases hk : Nat.beq f g with
      | false => rw [hk] at hx'; cases hx'
      | true =>
        rw [hk, cond_true] at hx'
        obtain rfl := Nat.eq_of_beq_eq_true hk
        obtain ⟨ps, rfl, hps⟩ := hv
        exact ⟨ps, rfl, (capsTo_ok _ _ _ _ hps hx').mono (fun b hb => .inl hb)⟩
    | cv c => cases hx
    | ag l => cases hx
    | adr c o => cases hx
    | el c n i o => cases hx
    | ref l => cases hx
    | tup l => cases hx
  | z t =>
    cases av with
    | cv c =>
      cases c with
      | nil => exact ⟨hv, (Option.some.inj (show some ([] : List t.den) = some x from hx)).symm⟩
      | dead => cases hx
      | val _ _ => cases hx
      | own _ => cases hx
      | unk => cases hx
    | ag l => cases hx
    | adr c o => cases hx
    | el c n i o => cases hx
    | ref l => cases hx
    | fn f l => cases hx
    | tup l => cases hx
  | o cs agg => exact (ho cs agg rfl).elim
  | p a b => exact (hp a b rfl).elim
theorem ArgR.mono {S S' : Nat → Prop} (hs : ∀ b, S b → S' b) {v : Value} : ∀ {p : PT} {x : p.ty.den}, ArgR w S v p x → ArgR w S' v p x
  | .v t agg, x, h => by obtain ⟨cs, h1, h2, h3⟩ := h; exact ⟨cs, h1, h2, VR.mono (Same.refl _ _) hs h3⟩
  | .r t, x, h => by obtain ⟨b, o, cs, h1, h2, h3, h4⟩ := h; exact ⟨b, o, cs, hs b h1, h2, h3, VR.mono (Same.refl _ _) hs h4⟩
  | .fn f ts, x, h => by obtain ⟨ps, h1, h2⟩ := h; exact ⟨ps, h1, h2.mono hs⟩
  | .z t, x, h => h
  | .o _ _, x, h => h.elim
  | .p _ _, x, h => h.elim
theorem PCR.mono {S S' : Nat → Prop} (hs : ∀ b, S b → S' b) {v : Value} {L : List Nat} : ∀ {c : PC} {x : c.ty.den}, PCR w S v L c x → PCR w S' v L c x
  | .v t, x, h => ⟨VR.mono (Same.refl _ _) hs h.1, h.2⟩
  | .o t d, xs, h => by
    rcases h with h1 | ⟨b, f0, cap, cs, F, Li, e1, e2, e3, e4, e5, e6⟩
    · exact .inl h1
    · exact .inr ⟨b, f0, cap, cs, F, Li, e1, e2, e3, e4, e5, e6.mapP fun y c l hl hp => rowP.tell (Same.refl _ _) hs (fun _ _ => rfl) hp⟩
theorem PCs.mono {S S' : Nat → Prop} (hs : ∀ b, S b → S' b) : ∀ {cs : List PC} {vs : List Value} {L : List Nat} {x : (tupTy (cs.map PC.ty)).den}, PCs w S vs L cs x → PCs w S' vs L cs x
  | [], vs, L, x, h => by match vs, h with
            | [], h => exact h
            | [_], h => exact h.elim
            | _ :: _ :: _, h => exact h.elim
  | [c], vs, L, x, h => by match vs, h with | [v], h => exact PCR.mono hs (c := c) (x := x) h
  | c :: d :: r, vs, L, x, h => by
    match vs, h with
    | v :: u :: us, h =>
      obtain ⟨L1, L2, e, h1, h2⟩ := h
      exact ⟨L1, L2, e, PCR.mono hs h1, PCs.mono hs (cs := d :: r) (x := x.2) h2⟩
theorem ArgO.mono {S S' : Nat → Prop} (hs : ∀ b, S b → S' b) {v : Value} {L : List Nat} {H : List Value} : ∀ {p : PT} {x : p.ty.den}, ArgO w S v L H p x → ArgO w S' v L H p x
  | .v t agg, x, h => ⟨ArgR.mono hs (p := .v t agg) (x := x) h.1, h.2⟩
  | .r t, x, h => ⟨ArgR.mono hs (p := .r t) (x := x) h.1, h.2⟩
  | .fn f ts, x, h => ⟨ArgR.mono hs (p := .fn f ts) (x := x) h.1, h.2⟩
  | .z t, x, h => h
  | .o cs agg, x, h => by obtain ⟨vs, h1, h2, h3, h4⟩ := h; exact ⟨vs, h1, h2, PCs.mono hs (cs := cs) (x := x) h3, h4⟩
  | .p a b, x, h => ⟨BoxR.mono hs h.1, h.2⟩
theorem ArgsO.mono {S S' : Nat → Prop} (hs : ∀ b, S b → S' b) : ∀ {ps : List PT} {vs : List Value} {L : List Nat} {H : List Value} {x : Aden ps}, ArgsO w S vs L H ps x → ArgsO w S' vs L H ps x
  | [], vs, L, H, x, h => by match vs, h with
            | [], h => exact h
            | [_], h => exact h.elim
            | _ :: _ :: _, h => exact h.elim
  | [p], vs, L, H, x, h => by match vs, h with | [v], h => exact ArgO.mono hs (p := p) (x := x) h
  | p :: q :: r, vs, L, H, x, h => by
    match vs, h with
    | v :: u :: us, h =>
      obtain ⟨L1, L2, H1, H2, e1, e2, h1, h2⟩ := h
      exact ⟨L1, L2, H1, H2, e1, e2, ArgO.mono hs h1, ArgsO.mono hs (ps := q :: r) (x := x.2) h2⟩
/-- Arguments that are read alone. -/
theorem ArgsR.o {S : Nat → Prop} : ∀ {ps : List PT} {vs : List Value} {x : Aden ps}, ArgsR w S vs ps x → ArgsO w S vs [] [] ps x
  | [], vs, x, h => by match vs, h with
            | [], _ => exact ⟨rfl, rfl⟩
            | [_], h => exact h.elim
            | _ :: _ :: _, h => exact h.elim
  | [p], vs, x, h => by
    match vs, h with
    | [v], h =>
      have h' : ArgR w S v p x := h
      show ArgO w S v [] [] p x
      cases p with
      | v t agg => exact ⟨h', rfl, rfl⟩
      | r t => exact ⟨h', rfl, rfl⟩
      | z t => exact ⟨h', rfl, rfl⟩
      | fn f ts => exact ⟨h', rfl, rfl⟩
      | o cs agg => exact h'.elim
      | p a b => exact h'.elim
  | p :: q :: r, vs, x, h => by
    match vs, h with
    | v :: u :: us, h =>
      refine ⟨[], [], [], [], rfl, rfl, ?_, ArgsR.o (ps := q :: r) (x := x.2) h.2⟩
      have h' : ArgR w S v p x.1 := h.1
      cases p with
      | v t agg => exact ⟨h', rfl, rfl⟩
      | r t => exact ⟨h', rfl, rfl⟩
      | z t => exact ⟨h', rfl, rfl⟩
      | fn f ts => exact ⟨h', rfl, rfl⟩
      | o cs agg => exact h'.elim
      | p a b => exact h'.elim
def blks (bl : Nat → List Nat) (ks : List (Option Nat)) : List Nat := (someKeys ks).flatMap bl
theorem blks_app (bl : Nat → List Nat) (a b : List (Option Nat)) : blks bl (a ++ b) = blks bl a ++ blks bl b := by unfold blks; rw [someKeys_app, List.flatMap_append]
theorem argKeys_cons (p : PT) (av : AV) (ps : List PT) (l : List AV) : argKeys (p :: ps) (av :: l) = argKeys [p] [av] ++ argKeys ps l := by
  cases p with
  | p a b => cases av <;> simp [argKeys]
  | _ => simp [argKeys]
theorem rdOwns_cons (p : PT) (av : AV) (ps : List PT) (l : List AV) : rdOwns (p :: ps) (av :: l) = rdOwns [p] [av] ++ rdOwns ps l := by
  cases p <;> simp [rdOwns]
theorem toArgO_ok (h : SRi w0 S0 σ a w Im hd bl) {v : Value} {av : AV} (hv : AVR w Im hd v av) {p : PT} {x : p.ty.den} (hx : σ.toArg p av = some x) :
    ∃ H, ArgO w (fun b => Im b ∨ ∃ k ∈ rdOwns [p] [av], IsTr σ k ∧ b ∈ bl k) v (blks bl (argKeys [p] [av])) H p x ∧ (∀ k ∈ someKeys (argKeys [p] [av]), IsOb σ k) ∧ HeadsR hd (argKeys [p] [av]) H := by
  have rd : ∀ (hp : ∀ cs agg, p ≠ .o cs agg) (hq : ∀ a b, p ≠ .p a b), argKeys [p] [av] = [] ∧ rdOwns [p] [av] = av.owns := fun hp hq => by
    cases p with
    | v t agg => simp [argKeys, rdOwns]
    | r t => simp [argKeys, rdOwns]
    | z t => simp [argKeys, rdOwns]
    | fn f ts => simp [argKeys, rdOwns]
    | o cs agg => exact (hp cs agg rfl).elim
    | p a b => exact (hq a b rfl).elim
  cases p with
  | v t agg =>
    obtain ⟨e1, e2⟩ := rd (fun _ _ e => by cases e) (fun _ _ e => by cases e)
    rw [e1, e2]
    exact ⟨[], ⟨toArg_ok h hv (fun _ _ e => by cases e) (fun _ _ e => by cases e) hx, rfl, rfl⟩, (fun k hk => by cases hk), trivial⟩
  | r t =>
    obtain ⟨e1, e2⟩ := rd (fun _ _ e => by cases e) (fun _ _ e => by cases e)
    rw [e1, e2]
    exact ⟨[], ⟨toArg_ok h hv (fun _ _ e => by cases e) (fun _ _ e => by cases e) hx, rfl, rfl⟩, (fun k hk => by cases hk), trivial⟩
  | z t =>
    obtain ⟨e1, e2⟩ := rd (fun _ _ e => by cases e) (fun _ _ e => by cases e)
    rw [e1, e2]
    exact ⟨[], ⟨toArg_ok h hv (fun _ _ e => by cases e) (fun _ _ e => by cases e) hx, rfl, rfl⟩, (fun k hk => by cases hk), trivial⟩
  | fn f ts =>
    obtain ⟨e1, e2⟩ := rd (fun _ _ e => by cases e) (fun _ _ e => by cases e)
    rw [e1, e2]
    exact ⟨[], ⟨toArg_ok h hv (fun _ _ e => by cases e) (fun _ _ e => by cases e) hx, rfl, rfl⟩, (fun k hk => by cases hk), trivial⟩
  | o cs agg =>
    cases av with
    | cv c =>
      cases agg with
      | true => cases hx
      | false =>
        have e1 : argKeys [.o cs false] [.cv c] = cellKeys cs [c] := by simp [argKeys, avCells]
        rw [e1]
        obtain ⟨k1, k2, k3⟩ := toCells_ok h (cs := cs) (vs := [v]) (l := [c]) (x := x) ⟨hv, trivial⟩ hx
        exact ⟨_, ⟨[v], rfl, fun _ => rfl, PCs.mono (fun b hb => .inl hb) (cs := cs) (x := x) k1, rfl⟩, fun k hk => .inl (k2 k hk), k3⟩
    | ag l =>
      cases agg with
      | false => cases hx
      | true =>
        have e1 : argKeys [.o cs true] [.ag l] = cellKeys cs l := by simp [argKeys, avCells]
        rw [e1]
        obtain ⟨vs, rfl, hvs⟩ := hv
        obtain ⟨k1, k2, k3⟩ := toCells_ok h (cs := cs) (vs := vs) (l := l) (x := x) hvs hx
        exact ⟨_, ⟨vs, rfl, (fun e => by cases e), PCs.mono (fun b hb => .inl hb) (cs := cs) (x := x) k1, rfl⟩, fun k hk => .inl (k2 k hk), k3⟩
    | adr c o => cases hx
    | el c n i o => cases hx
    | ref l => cases hx
    | fn f l => cases hx
    | tup l => cases hx
  | p s t =>
    cases av with
    | adr c o =>
      cases o with
      | succ o => cases hx
      | zero =>
        have hx' : (match obGet σ.ob c with | some (.box l) => implode (.pair s t) l | _ => none) = some x := hx
        cases hc : obGet σ.ob c with
        | none => rw [hc] at hx'; cases hx'
        | some o =>
          rw [hc] at hx'
          cases o with
          | box l =>
              have e1 : argKeys [.p s t] [.adr c 0] = [some c] := rfl
              have e2 : rdOwns [.p s t] [.adr c 0] = [] := rfl
              rw [e1, e2]
              obtain ⟨b, hb1, hb2⟩ := hv
              have hv' : v = hd c := hb2.trans hb1.symm
              have hbl : blks bl [some c] = bl c := by simp [blks, someKeys]
              rw [hbl, hv']
              refine ⟨[hd c], ⟨BoxR.mono (fun b hb => .inl hb) (BoxR.of (h.objs c _ hc) hx'), rfl⟩, fun k hk => ?_, ⟨rfl, trivial⟩⟩
              have : k = c := by simpa [someKeys] using hk
              subst this
              exact .inr ⟨_, hc⟩
          | _ => cases hx'
    | cv c => cases hx
    | ag l => cases hx
    | el c n i o => cases hx
    | ref l => cases hx
    | fn f l => cases hx
    | tup l => cases hx
theorem toArgsO_ok (h : SRi w0 S0 σ a w Im hd bl) : ∀ {ps : List PT} {vs : List Value} {avs : List AV} {x : Aden ps}, AVs w Im hd vs avs → σ.toArgs ps avs = some x →
    ∃ H, ArgsO w (fun b => Im b ∨ ∃ k ∈ rdOwns ps avs, IsTr σ k ∧ b ∈ bl k) vs (blks bl (argKeys ps avs)) H ps x ∧ (∀ k ∈ someKeys (argKeys ps avs), IsOb σ k) ∧ HeadsR hd (argKeys ps avs) H
  | [], vs, [], x, hv, hx => by match vs, hv with | [], _ => exact ⟨[], ⟨rfl, rfl⟩, (fun k hk => by cases hk), trivial⟩
  | [p], vs, [av], x, hv, hx => by match vs, hv with | [v], hv => exact toArgO_ok h hv.1 (p := p) (x := x) hx
  | p :: q :: r, vs, av :: au :: avs, x, hv, hx => by
    match vs, hv with
    | v :: u :: us, hv =>
      unfold St.toArgs at hx
      obtain ⟨y, hy, hx⟩ := Option.bind_eq_some_iff.1 hx
      obtain ⟨z, hz, hx⟩ := Option.bind_eq_some_iff.1 hx
      cases hx
      obtain ⟨H1, k1, k2, k3⟩ := toArgO_ok h hv.1 hy
      obtain ⟨H2, j1, j2, j3⟩ := toArgsO_ok h (ps := q :: r) (vs := u :: us) hv.2 hz
      rw [argKeys_cons, blks_app, rdOwns_cons, someKeys_app]
      refine ⟨H1 ++ H2, ⟨_, _, H1, H2, rfl, rfl, ArgO.mono (fun b hb => hb.imp_right fun ⟨k, hk, hb⟩ => ⟨k, List.mem_append.2 (.inl hk), hb⟩) k1, ArgsO.mono (fun b hb => hb.imp_right fun ⟨k, hk, hb⟩ => ⟨k, List.mem_append.2 (.inr hk), hb⟩) (ps := q :: r) j1⟩, fun k hk => ?_, k3.app j3⟩
      rcases List.mem_append.1 hk with hk | hk
      · exact k2 k hk
      · exact j2 k hk
  | [], _, _ :: _, _, _, hx => by simp [St.toArgs] at hx
  | [_], _, [], _, _, hx => by simp [St.toArgs] at hx
  | [_], _, _ :: _ :: _, _, _, hx => by simp [St.toArgs] at hx
  | _ :: _ :: _, _, [], _, _, hx => by simp [St.toArgs] at hx
  | _ :: _ :: _, _, [_], _, _, hx => by simp [St.toArgs] at hx

/-! ### results -/
/-- More is immutable. -/
theorem SRi.widen {Im' : Nat → Prop} (h : SRi w0 S0 σ a w Im hd bl) (hi : ∀ b, Im b → Im' b) (hnew : ∀ b, Im' b → S0 b ∨ w0.mine b) (hlt : ∀ b, Im' b → b < w.heap.size) (hown : ∀ c o, obGet σ.ob c = some o → ∀ b ∈ bl c, ¬ Im' b) : SRi w0 S0 σ a w Im' hd bl := by
  have T : Tell w w Im Im' hd hd ⟨.own, .adr, .el⟩ := Tell.keep hd (Same.refl _ _) hi
  refine ⟨h.below, fun b hb => hi b (h.sub b hb), hnew, hlt, h.nodef, h.size, fun i av hi => ?_, fun c o hc => ?_, fun c o hc => ⟨(h.own c o hc).1, fun b hb => ⟨((h.own c o hc).2 b hb).1, ((h.own c o hc).2 b hb).2.1, hown c o hc b hb⟩⟩, h.apart, h.io⟩
  · have := (h.slots i av hi).tell T; rwa [AV.map_id] at this
  · have := (h.objs c o hc).tell T (fun _ _ => rfl); rwa [Ob.map_id] at this
/-- Fewer objects. -/
theorem SRi.less {τ : St} (h : SRi w0 S0 σ a w Im hd bl) (hs : τ.sl = σ.sl) (ho : ∀ d o, obGet τ.ob d = some o → obGet σ.ob d = some o) : SRi w0 S0 τ a w Im hd bl :=
  ⟨h.below, h.sub, h.new, h.lt, h.nodef, by rw [hs]; exact h.size, fun i av hi => h.slots i av (by rw [← hs]; exact hi), fun c o hc => h.objs c o (ho c o hc), fun c o hc => h.own c o (ho c o hc), fun c o d p hc hd => h.apart c o d p (ho c o hc) (ho d p hd), h.io⟩
/-- One object more, of which slots may speak already. -/
theorem SRi.add1 {τ : St} {k : Nat} {o : Ob} {L : List Nat} (h : SRi w0 S0 σ a w Im hd bl) (hs : τ.sl = σ.sl) (ho : ∀ d, obGet τ.ob d = if d = k then some o else obGet σ.ob d)
    (hR : ObR w Im hd (hd k) L o) (hL : L.Nodup) (hLb : ∀ b ∈ L, w0.mine b ∧ b < w.heap.size ∧ ¬ Im b) (hf : ∀ d p, d ≠ k → obGet σ.ob d = some p → ∀ b ∈ bl d, b ∉ L) : SRi w0 S0 τ a w Im hd (fun d => if d = k then L else bl d) := by
  refine ⟨h.below, h.sub, h.new, h.lt, h.nodef, by rw [hs]; exact h.size, fun i av hi => h.slots i av (by rw [← hs]; exact hi), fun c p hc => ?_, fun c p hc => ?_, fun c p d q hc hd hne => ?_, h.io⟩
  · rw [ho] at hc
    by_cases e : c = k
    · subst e; simp at hc; subst hc; simpa using hR
    · simp only [e, if_false] at hc ⊢; exact h.objs c p hc
  · rw [ho] at hc
    by_cases e : c = k
    · subst e; simp only [if_true]; exact ⟨hL, hLb⟩
    · simp only [e, if_false] at hc ⊢; exact h.own c p hc
  · rw [ho] at hc hd
    by_cases e : c = k
    · have e2 : d ≠ k := fun e2 => hne (e.trans e2.symm)
      simp only [e, e2, if_true, if_false] at hd ⊢
      exact fun b hb hb2 => hf d q e2 hd b hb2 hb
    · by_cases e2 : d = k
      · simp only [e, e2, if_true, if_false] at hc ⊢
        exact fun b hb hb2 => hf c p e hc b hb hb2
      · simp only [e, e2, if_false] at hc hd ⊢
        exact h.apart c p d q hc hd hne

/-! ### rows that were handed in come back -/
def rfst : (c : RC) → (r : List RC) → Rden (c :: r) → c.t.den
  | _, [], x => x | _, _ :: _, x => x.1
def rsnd : (c : RC) → (r : List RC) → Rden (c :: r) → Rden r
  | _, [], _ => () | _, _ :: _, x => x.2
theorem back_cons (σ : St) (k : Option Nat) (ks : List (Option Nat)) (c : RC) (r : List RC) (z : Rden (c :: r)) : σ.back (k :: ks) (c :: r) z = (σ.back1 k c (rfst c r z)).back ks r (rsnd c r z) := by
  cases r with
  | nil => cases ks <;> rfl
  | cons d r => rfl
theorem back_nil (σ : St) (ios : List RC) (z : Rden ios) : σ.back [] ios z = σ := by
  cases ios with
  | nil => rfl
  | cons c r => cases r <;> rfl
theorem RCs_cons {w : World} {S : Nat → Prop} {H : List Value} {M : List Nat} {c : RC} {r : List RC} {z : Rden (c :: r)} (h : RCs w S H M (c :: r) z) : ∃ v H' M1 M2, H = v :: H' ∧ M = M1 ++ M2 ∧ RCR w S v M1 c (rfst c r z) ∧ RCs w S H' M2 r (rsnd c r z) := by
  cases r with
  | nil =>
    match H, h with
    | [v], h => exact ⟨v, [], M, [], rfl, by simp, h, rfl⟩
    | [], h => exact h.elim
    | _ :: _ :: _, h => exact h.elim
  | cons d r =>
    match H, h with
    | v :: u :: us, h =>
      obtain ⟨L1, L2, e, h1, h2⟩ := h
      exact ⟨v, u :: us, L1, L2, rfl, e, h1, h2⟩
    | [], h => exact h.elim
    | [_], h => exact h.elim
def IoRC : RC → Prop | ⟨.slice _, some (_, false)⟩ => True | ⟨.pair _ _, some _⟩ => True | _ => False
theorem pcRC_io : ∀ (cs : List PC), ∀ c ∈ pcRC cs, IoRC c
  | [], c, h => by cases h
  | .v t :: r, c, h => pcRC_io r c h
  | .o t d :: r, c, h => by
    rcases List.mem_cons.1 (show c ∈ ⟨.slice t, some (d, false)⟩ :: pcRC r from h) with rfl | h
    · trivial
    · exact pcRC_io r c h
theorem ioOf_io : ∀ (ps : List PT), ∀ c ∈ ioOf ps, IoRC c
  | [], c, h => by cases h
  | .v _ _ :: r, c, h => ioOf_io r c h
  | .r _ :: r, c, h => ioOf_io r c h
  | .z _ :: r, c, h => ioOf_io r c h
  | .fn _ _ :: r, c, h => ioOf_io r c h
  | .o cs _ :: r, c, h => by
    rcases List.mem_append.1 (show c ∈ pcRC cs ++ ioOf r from h) with h | h
    · exact pcRC_io cs c h
    · exact ioOf_io r c h
  | .p a b :: r, c, h => by
    rcases List.mem_cons.1 (show c ∈ ⟨.pair a b, some (false, false)⟩ :: ioOf r from h) with rfl | h
    · trivial
    · exact ioOf_io r c h
/-- What a row's head says where the row is nil if it is empty. -/
def HeadN (v : Value) : Prop := v = .slice none 0 0 ∨ ∃ b m cap, v = .slice (some b) (m + 1) cap
/-- What is said of an object that was handed in to be written. -/
def KOk (σ : St) (hd : Nat → Value) (k : Nat) : Prop :=
  (∃ u xs e n, obGet σ.ob k = some (.row u xs e n) ∧ (n = true → HeadN (hd k)) ∧ ∃ o m c, hd k = .slice o m c) ∨ ∃ l b, obGet σ.ob k = some (.box l) ∧ hd k = .pointer (some ⟨b, 0, none⟩)
theorem KOk.put {σ : St} {hd : Nat → Value} {k k' : Nat} {O : Ob} (h : KOk σ hd k') (hne : k ≠ k') : KOk { σ with ob := obPut σ.ob k O } hd k' := by
  have e : obGet (obPut σ.ob k O) k' = obGet σ.ob k' := by rw [obGet_put, if_neg hne]
  rcases h with ⟨u, xs, e1, n, h1, h2⟩ | ⟨l, b, h1, h2⟩
  · exact .inl ⟨u, xs, e1, n, e.trans h1, h2⟩
  · exact .inr ⟨l, b, e.trans h1, h2⟩
theorem back_ok : ∀ (ks : List (Option Nat)) (ios : List RC) (z : Rden ios) (H : List Value) (M : List Nat) (σ τ : St) (bl : Nat → List Nat), SRi w0 S0 τ a w Im hd bl → τ.sl = σ.sl →
    (∀ d, obGet τ.ob d = if d ∈ someKeys ks then none else obGet σ.ob d) → RCs w Im H M ios z → HeadsR hd ks H → (someKeys ks).Nodup →
    (∀ k ∈ someKeys ks, KOk σ hd k) → (∀ c ∈ ios, IoRC c) → M.Nodup → (∀ b ∈ M, w0.mine b ∧ b < w.heap.size ∧ ¬ Im b) →
    (∀ d p, obGet τ.ob d = some p → ∀ b ∈ bl d, b ∉ M) →
    ∃ bl', SRi w0 S0 (σ.back ks ios z) a w Im hd bl' ∧ ∀ d p, obGet (σ.back ks ios z).ob d = some p → ∀ b ∈ bl' d, b ∈ M ∨ ∃ q, obGet τ.ob d = some q ∧ b ∈ bl d := by
  intro ks
  induction ks with
  | nil =>
    intro ios z H M σ τ bl h hs ho hr hh hn hrow hio hM hMb hf
    rw [back_nil]
    refine ⟨bl, h.less hs.symm (fun d o hd => by rw [ho d]; simpa [someKeys] using hd), fun d p hp b hb => .inr ⟨p, by rw [ho d]; simpa [someKeys] using hp, hb⟩⟩
  | cons k ks ih =>
    intro ios z H M σ τ bl h hs ho hr hh hn hrow hio hM hMb hf
    cases ios with
    | nil =>
      match H, hr with
      | [], _ => cases k <;> exact hh.elim
      | [_], h => exact h.elim
      | _ :: _ :: _, h => exact h.elim
    | cons c r =>
      obtain ⟨v, H', M1, M2, rfl, rfl, r1, r2⟩ := RCs_cons hr
      rw [back_cons]
      rw [List.nodup_append] at hM
      have fin : ∀ (k' : Nat) (O : Ob), k = some k' → σ.back1 k c (rfst c r z) = { σ with ob := obPut σ.ob k' O } → ObR w Im hd (hd k') M1 O →
          ∃ bl', SRi w0 S0 ((σ.back1 k c (rfst c r z)).back ks r (rsnd c r z)) a w Im hd bl' ∧ ∀ d p, obGet ((σ.back1 k c (rfst c r z)).back ks r (rsnd c r z)).ob d = some p → ∀ b ∈ bl' d, b ∈ M1 ++ M2 ∨ ∃ q, obGet τ.ob d = some q ∧ b ∈ bl d := by
        intro k O hk e1 hR
        subst hk
        obtain ⟨hv, hh⟩ := hh
        have hn' : k ∉ someKeys ks ∧ (someKeys ks).Nodup := List.nodup_cons.1 hn
        rw [e1]
        have hτ : ∀ d', obGet (⟨τ.sl, (k, O) :: τ.ob, τ.cut⟩ : St).ob d' = if d' = k then some O else obGet τ.ob d' := fun d' => by
          show obGet ((k, _) :: τ.ob) d' = _
          rw [obGet_cons]
          by_cases q : k = d'
          · simp [q]
          · simp [q, Ne.symm q]
        have h2 := h.add1 (τ := ⟨τ.sl, (k, O) :: τ.ob, τ.cut⟩) (k := k) (L := M1) rfl hτ hR hM.1 (fun b hb => hMb b (by simp [hb])) (fun d' p _ hp b hb hb2 => hf d' p hp b hb (by simp [hb2]))
        obtain ⟨bl', k1, k2⟩ := ih r (rsnd _ r z) H' M2 { σ with ob := obPut σ.ob k O } _ _ h2 hs (fun d' => by
            rw [hτ]
            show _ = if d' ∈ someKeys ks then none else obGet (obPut σ.ob k _) d'
            rw [obGet_put]
            by_cases q : d' = k
            · subst q; simp [hn'.1]
            · rw [if_neg q, if_neg (Ne.symm q), ho d']
              simp [someKeys, q]) r2 hh hn'.2 (fun k' hk' => (hrow k' (by simp [someKeys, hk'])).put (fun (q : k = k') => hn'.1 (by rw [q]; exact hk'))) (fun c hc => hio c (by simp [hc])) hM.2.1 (fun b hb => hMb b (by simp [hb])) (fun d' p hp b hb hb2 => by
            rw [hτ] at hp
            by_cases q : d' = k
            · simp only [q, if_true] at hb
              exact hM.2.2 b hb b hb2 rfl
            · simp only [q, if_false] at hp hb
              exact hf d' p hp b hb (by simp [hb2]))
        refine ⟨bl', k1, fun d' p hp b hb => ?_⟩
        rcases k2 d' p hp b hb with hb | ⟨q, hq, hb⟩
        · exact .inl (by simp [hb])
        · rw [hτ] at hq
          by_cases e : d' = k
          · simp only [e, if_true] at hb
            exact .inl (by simp [hb])
          · simp only [e, if_false] at hq hb
            exact .inr ⟨q, hq, hb⟩
      have hc := hio c (by simp)
      obtain ⟨ct, co⟩ := c
      cases ct with
      | int _ => exact hc.elim
      | bool => exact hc.elim
      | str => exact hc.elim
      | set => exact hc.elim
      | err => exact hc.elim
      | pair s t =>
        cases co with
        | none => exact hc.elim
        | some dn =>
          have r1' : BoxR w Im v M1 (.pair s t) (rfst ⟨.pair s t, some dn⟩ r z) := r1
          cases k with
          | none =>
            obtain ⟨hv, hh⟩ := hh
            obtain ⟨b, cs, E, e1, _⟩ := r1'
            rw [hv] at e1; cases e1
          | some k =>
            have hv := hh.1
            rw [hv] at r1'
            rcases hrow k (by simp [someKeys]) with ⟨u, xs, e, n, hg, _, o, m, c', he⟩ | ⟨l, b, hg, he⟩
            · obtain ⟨b, cs, E, e1, _⟩ := r1'
              rw [he] at e1; cases e1
            · refine fin k (.box (explode (.pair s t) (rfst ⟨.pair s t, some dn⟩ r z))) rfl ?_ r1'.obj
              show (match obGet σ.ob k with | some (.box _) => { σ with ob := obPut σ.ob k (.box (explode (.pair s t) (rfst ⟨.pair s t, some dn⟩ r z))) } | _ => σ) = _
              rw [hg]
      | slice t =>
        cases co with
        | none => exact hc.elim
        | some dn =>
          obtain ⟨d, n0⟩ := dn
          generalize hxd : rfst ⟨.slice t, some (d, n0)⟩ r z = x at r1 fin ⊢
          cases k with
          | none =>
            obtain ⟨hv, hh⟩ := hh
            have hM1 : M1 = [] := by
              rcases r1.1 with ⟨_, _, e⟩ | ⟨b, f0, cap, cs, F, Li, e1, _⟩
              · exact e
              · rw [hv] at e1; cases e1
            subst hM1
            have e1 : σ.back1 none ⟨.slice t, some (d, n0)⟩ x = σ := rfl
            rw [e1]
            exact ih r _ H' M2 σ τ bl h hs ho r2 hh hn hrow (fun c hc => hio c (by simp [hc])) hM.2.1 (fun b hb => hMb b (by simpa using hb)) (fun d p hp b hb => by simpa using hf d p hp b hb)
          | some k =>
            have hv := hh.1
            rcases hrow k (by simp [someKeys]) with ⟨u, xs, e, n, hg, hcn, _⟩ | ⟨l, b, hg, he⟩
            · have hR : ObR w Im hd (hd k) M1 (.row t x (bif t.flat then e else d) n) := by
                rw [hv] at r1
                have r1' : ORow w t.sz (rowP w Im t d) (hd k) x M1 := r1.1
                refine ⟨?_, fun hnt hx => ?_⟩
                · cases hfl : t.flat with
                  | false => exact r1'
                  | true =>
                    rcases r1' with h1 | ⟨b, f0, cap, cs, F, Li, e1, e2, e3, e4, e5, e6⟩
                    · exact .inl h1
                    · exact .inr ⟨b, f0, cap, cs, F, Li, e1, e2, e3, e4, e5, e6.mapP fun y c l _ hp => flat_rowP hfl hp⟩
                · rcases hcn hnt with e | ⟨b, m, cap, e⟩
                  · exact e
                  · rcases r1' with ⟨e2, _⟩ | ⟨b', f0', cap', cs, F, Li, e2, _⟩
                    · exact e2
                    · rw [e] at e2; rw [hx] at e2
                      simp at e2
              refine fin k _ rfl ?_ hR
              show (match obGet σ.ob k with | some (.row _ _ e n) => { σ with ob := obPut σ.ob k (.row t x (bif t.flat then e else d) n) } | _ => σ) = _
              rw [hg]
            · exfalso
              rw [hv, he] at r1
              rcases r1.1 with ⟨e2, _⟩ | ⟨b', f0', cap', cs, F, Li, e2, _⟩
              · cases e2
              · cases e2

/-- One result's cell becomes a cell of the state. -/
theorem putOne_ok (h : SRi w0 S0 σ a w Im hd bl) {dst j : Nat} {c : RC} {x : c.t.den} {v : Value} {L M : List Nat} (hv : RCR w Im v L c x) (hn : (L ++ M).Nodup) (hL : ∀ b ∈ L ++ M, w0.mine b ∧ b < w.heap.size ∧ ¬ Im b)
    (hf : ∀ k p, obGet σ.ob k = some p → ∀ b ∈ bl k, b ∉ L ++ M) (hk5 : ∀ k ∈ (match c with | ⟨.slice _, some _⟩ => [dst + 1000 * j] | ⟨.pair _ _, some _⟩ => [dst + 1000 * j] | _ => []), k < 500000) :
    ∃ hd' bl', SRi w0 S0 (putCells.one σ dst j c x).1 a w Im hd' bl' ∧ CVs w Im hd' [v] (putCells.one σ dst j c x).2 ∧ (∀ d, d ≠ dst + 1000 * j → hd' d = hd d) ∧
      (∀ k p, obGet (putCells.one σ dst j c x).1.ob k = some p → ∀ b ∈ bl' k, b ∉ M) ∧ (∀ e ∈ (putCells.one σ dst j c x).2, ∀ k ∈ e.owns, k = dst + 1000 * j) := by
  have plain : ∀ (t : Ty) (y : t.den), VR w Im t y [v] → ∃ hd' bl', SRi w0 S0 (σ, [CV.val t y]).1 a w Im hd' bl' ∧ CVs w Im hd' [v] (σ, [CV.val t y]).2 ∧ (∀ d, d ≠ dst + 1000 * j → hd' d = hd d) ∧
      (∀ k p, obGet (σ, [CV.val t y]).1.ob k = some p → ∀ b ∈ bl' k, b ∉ M) ∧ (∀ e ∈ (σ, [CV.val t y]).2, ∀ k ∈ e.owns, k = dst + 1000 * j) := by
    intro t y hy
    refine ⟨hd, bl, h, ⟨hy, trivial⟩, fun _ _ => rfl, fun k p hp b hb hM => hf k p hp b hb (by simp [hM]), fun e he k hk => ?_⟩
    have he' : e = .val t y := by simpa using he
    subst he'
    cases hk
  obtain ⟨t, o⟩ := c
  cases t with
  | int k => exact plain (.int k) x hv.1
  | bool => exact plain .bool x hv.1
  | str => exact plain .str x hv.1
  | set => exact plain .set x hv.1
  | err => exact plain .err x hv.1
  | pair s t =>
    cases o with
    | none => exact plain (.pair s t) x hv.1
    | some dn =>
      have hB : BoxR w Im v L (.pair s t) x := hv
      rw [List.nodup_append] at hn
      have hnew := h.new_ (dst + 1000 * j) (hk5 _ (by simp)) (o := .box (explode (.pair s t) x)) (v := v) (L := L) (fun k p _ hp b hb hb2 => hf k p hp b hb (by simp [hb2])) hn.1 (fun b hb => hL b (by simp [hb])) hB.obj
      refine ⟨_, _, hnew, ⟨by show v = _; simp, trivial⟩, fun e he => by simp [he], fun k p hp b hb => ?_, fun e he k hk => ?_⟩
      · by_cases e : k = dst + 1000 * j
        · simp only [e, if_true] at hb
          exact fun hM => hn.2.2 b hb b hM rfl
        · simp only [e, if_false] at hb
          have hp' : obGet ((dst + 1000 * j, Ob.box (explode (.pair s t) x)) :: (σ.kill (dst + 1000 * j)).ob) k = some p := hp
          rw [obGet_cons, if_neg (Ne.symm e)] at hp'
          obtain ⟨_, o, ho, _⟩ := obGet_sub hp'
          exact fun hM => hf k o ho b hb (by simp [hM])
      · have he' : e = .own (dst + 1000 * j) := by simpa [putCells.one] using he
        subst he'
        simpa [CV.owns] using hk
  | slice t =>
    cases o with
    | none => exact plain (.slice t) x hv.1
    | some dn =>
      obtain ⟨d, n⟩ := dn
      obtain ⟨h1, h2⟩ := hv
      rw [List.nodup_append] at hn
      have hnew := h.new_ (dst + 1000 * j) (hk5 _ (by simp)) (o := .row t x d n) (v := v) (L := L) (fun k p _ hp b hb hb2 => hf k p hp b hb (by simp [hb2])) hn.1 (fun b hb => hL b (by simp [hb])) ⟨h1, h2⟩
      refine ⟨_, _, hnew, ⟨by show v = _; simp, trivial⟩, fun e he => by simp [he], fun k p hp b hb => ?_, fun e he k hk => ?_⟩
      · by_cases e : k = dst + 1000 * j
        · simp only [e, if_true] at hb
          exact fun hM => hn.2.2 b hb b hM rfl
        · simp only [e, if_false] at hb
          have hp' : obGet ((dst + 1000 * j, Ob.row t x d n) :: (σ.kill (dst + 1000 * j)).ob) k = some p := hp
          rw [obGet_cons, if_neg (Ne.symm e)] at hp'
          obtain ⟨_, o, ho, _⟩ := obGet_sub hp'
          exact fun hM => hf k o ho b hb (by simp [hM])
      · have he' : e = .own (dst + 1000 * j) := by simpa [putCells.one] using he
        subst he'
        simpa [CV.owns] using hk

theorem CVs.rehead {hd2 : Nat → Value} : ∀ {vs : List Value} {l : List CV}, (∀ e ∈ l, ∀ k ∈ e.owns, hd2 k = hd k) → CVs w Im hd vs l → CVs w Im hd2 vs l
  | [], [], _, _ => trivial
  | v :: vs, c :: l, hk, h => by
    refine ⟨?_, CVs.rehead (fun e he => hk e (by simp [he])) h.2⟩
    cases c with
    | dead => trivial
    | nil => exact h.1
    | val t x => exact h.1
    | unk => exact h.1
    | own k => exact (show v = hd k from h.1).trans (hk (.own k) (by simp) k (by simp [CV.owns])).symm
  | [], _ :: _, _, h => h.elim
  | _ :: _, [], _, h => h.elim

theorem putCells_ok {dst : Nat} : ∀ {rs : List RC} {j : Nat} {σ : St} {hd : Nat → Value} {bl : Nat → List Nat} {y : Rden rs} {vs : List Value} {L : List Nat}, SRi w0 S0 σ a w Im hd bl → RCs w Im vs L rs y → L.Nodup →
    (∀ b ∈ L, w0.mine b ∧ b < w.heap.size ∧ ¬ Im b) → (∀ k p, obGet σ.ob k = some p → ∀ b ∈ bl k, b ∉ L) → (∀ k ∈ keysFrom dst j rs, k < 500000) →
    ∃ hd' bl', SRi w0 S0 (putCells σ dst j rs y).1 a w Im hd' bl' ∧ CVs w Im hd' vs (putCells σ dst j rs y).2 ∧ (∀ d, (∀ i, j ≤ i → d ≠ dst + 1000 * i) → hd' d = hd d)
  | [], j, σ, hd, bl, y, vs, L, h, hr, hn, hL, hf, hk => by
    match vs, hr with
    | [], hr => exact ⟨hd, bl, h, trivial, fun _ _ => rfl⟩
    | [_], hr => cases hr
    | _ :: _ :: _, hr => cases hr
  | [c], j, σ, hd, bl, y, vs, L, h, hr, hn, hL, hf, hk => by
    match vs, hr with
    | [], hr => cases hr
    | [v], hr =>
      obtain ⟨hd', bl', h1, h2, h3, _, _⟩ := putOne_ok h (dst := dst) (j := j) (x := y) (M := []) hr (by simpa using hn) (by simpa using hL) (by simpa using hf) (fun k hm => hk k (List.mem_append.2 (.inl hm)))
      exact ⟨hd', bl', h1, h2, fun d hd => h3 d (hd j (Nat.le_refl _))⟩
    | _ :: _ :: _, hr => cases hr
  | c :: d :: r, j, σ, hd, bl, y, vs, L, h, hr, hn, hL, hf, hk => by
    match vs, hr with
    | [], hr => cases hr
    | [v], hr => cases hr
    | v :: u :: vs, hr =>
      obtain ⟨L1, L2, rfl, hv, hr⟩ := hr
      obtain ⟨hd', bl', h1, h2, h3, h4, h5⟩ := putOne_ok h (dst := dst) (j := j) (x := y.1) (M := L2) hv hn hL hf (fun k hm => hk k (List.mem_append.2 (.inl hm)))
      rw [List.nodup_append] at hn
      obtain ⟨hd2, bl2, k1, k2, k3⟩ := putCells_ok (j := j + 1) h1 hr hn.2.1 (fun b hb => hL b (by simp [hb])) h4 (fun k hm => hk k (List.mem_append.2 (.inr hm)))
      refine ⟨hd2, bl2, k1, ?_, fun e he => ?_⟩
      · show CVs w Im hd2 ([v] ++ (u :: vs)) (_ ++ _)
        refine CVs.app (CVs.rehead (fun e he k hk => ?_) h2) k2
        refine k3 k (fun i hi => ?_)
        have := h5 e he k hk
        omega
      · rw [k3 e (fun i hi => he i (by omega)), h3 e (he j (Nat.le_refl _))]

theorem cutParts_PRs : ∀ {rs : List (Bool × List RC)} {vs : List Value} {l : List CV}, CVs w Im hd vs l → PRs w Im hd (partVals rs vs) (cutParts rs l)
  | [], _, _, _ => trivial
  | (g, rs) :: r, vs, l, h => by
    refine ⟨?_, cutParts_PRs (h.drop _)⟩
    have := ofCells_AVR (agg := g) (h.take rs.length)
    exact PR.of this
theorem ofParts_ok : ∀ {vs : List Value} {l : List (Bool × List CV)}, PRs w Im hd vs l → AVR w Im hd (oneVal vs) (ofParts l)
  | [], [], _ => ⟨[], rfl, trivial⟩
  | [v], [(g, l)], h => PR.avr h.1
  | v :: u :: vs, p :: q :: l, h => ⟨v :: u :: vs, rfl, h⟩
  | [], _ :: _, h => h.elim
  | _ :: _, [], h => h.elim
  | [_], _ :: _ :: _, h => h.2.elim
  | _ :: _ :: _, [_], h => h.2.elim

theorem leads_flat {w w' : World} {S S' : Nat → Prop} {v : Value} {L : List Nat} {c : RC} {x : c.t.den} (hl : leadsB c = false) (hL : ∀ b ∈ L, w'.heap[b]? = w.heap[b]?) (h : RCR w S v L c x) : RCR w' S' v L c x := by
  obtain ⟨t, o⟩ := c
  have plain : ∀ (t : Ty) (y : t.den), t.flat = true → VR w S t y [v] ∧ L = [] → VR w' S' t y [v] ∧ L = [] := fun t y hf h => ⟨VR.flat hf h.1, h.2⟩
  cases t with
  | int k => exact plain (.int k) x rfl h
  | bool => exact plain .bool x rfl h
  | str => exact plain .str x rfl h
  | set => simp [leadsB, Ty.flat] at hl
  | err => exact plain .err x rfl h
  | pair s t =>
    have hf : (Ty.pair s t).flat = true := by simpa [leadsB] using hl
    cases o with
    | none => exact plain (.pair s t) x hf h
    | some dn =>
      obtain ⟨b, cs, E, h1, h2, h3, h4⟩ := (show BoxR w S v L (.pair s t) x from h)
      exact ⟨b, cs, E, h1, (hL b (by rw [h3]; simp)).trans h2, h3, VR.flat hf h4⟩
  | slice t =>
    cases o with
    | none => simp [leadsB, Ty.flat] at hl
    | some dn =>
      obtain ⟨d, n⟩ := dn
      refine ⟨?_, h.2⟩
      have hdf : d = true ∨ t.flat = true := by cases d <;> simp [leadsB] at hl ⊢; exact hl
      rcases h.1 with h1 | ⟨b, f0, cap, cs, F, Li, e1, e2, e3, e4, rfl, e6⟩
      · exact .inl h1
      · refine .inr ⟨b, f0, cap, cs, F, Li, e1, by rw [hL b (by simp)]; exact e2, e3, e4, rfl, ?_⟩
        cases d with
        | true => exact e6.mapP fun y c l hl hp => OT.same hp (fun b hb => hL b (by simp [hl b hb]))
        | false =>
          have hf := hdf.resolve_left (by simp)
          exact e6.mapP fun y c l hl hp => ⟨VR.flat hf hp.1, hp.2⟩
theorem RCs.quiet {w w' : World} {S S' : Nat → Prop} : ∀ {rs : List RC} {vs : List Value} {L : List Nat} {y : Rden rs}, rs.any leadsB = false → (∀ b ∈ L, w'.heap[b]? = w.heap[b]?) → RCs w S vs L rs y → RCs w' S' vs L rs y
  | [], [], L, y, _, _, h => h
  | [c], [v], L, y, hl, hL, h => leads_flat (x := y) (by simpa using hl) hL h
  | c :: d :: r, v :: u :: vs, L, y, hl, hL, h => by
    obtain ⟨L1, L2, rfl, h1, h2⟩ := h
    rw [List.any_cons, Bool.or_eq_false_iff] at hl
    exact ⟨L1, L2, rfl, leads_flat hl.1 (fun b hb => hL b (by simp [hb])) h1, RCs.quiet (rs := d :: r) (vs := u :: vs) (y := y.2) hl.2 (fun b hb => hL b (by simp [hb])) h2⟩
  | [], [_], _, _, _, _, h => by cases h
  | [], _ :: _ :: _, _, _, _, _, h => by cases h
  | [_], [], _, _, _, _, h => by cases h
  | [_], _ :: _ :: _, _, _, _, _, h => by cases h
  | _ :: _ :: _, [], _, _, _, _, h => by cases h
  | _ :: _ :: _, [_], _, _, _, _, h => by cases h

theorem SRi.block_lt (h : SRi w0 S0 σ a w Im hd bl) {c : Nat} {o : Ob} (hc : obGet σ.ob c = some o) : ∀ b ∈ bl c, b < w.heap.size := fun b hb => ((h.own c o hc).2 b hb).2.1

theorem obGet_dels : ∀ {ks : List Nat} {l : List (Nat × Ob)} {d : Nat}, obGet (dels l ks) d = if d ∈ ks then none else obGet l d
  | [], l, d => by simp [dels]
  | c :: r, l, d => by
    unfold dels
    rw [obGet_dels, obGet_del]
    by_cases e : d = c
    · simp [e]
    · simp [e]
theorem blks_mem {bl : Nat → List Nat} {ks : List (Option Nat)} {b : Nat} (h : b ∈ blks bl ks) : ∃ k ∈ someKeys ks, b ∈ bl k := List.mem_flatMap.1 h

theorem SRi.adrOf (h : SRi w0 S0 σ a w Im hd bl) {v : Value} {av : AV} (hv : AVR w Im hd v av) : AVR w Im hd v (σ.adrOf av) := by
  unfold St.adrOf
  split
  · rename_i c
    split
    · rename_i l hc
      obtain ⟨b, cs, E, e1, _⟩ := h.objs c _ hc
      exact ⟨b, e1, (show v = hd c from hv).trans e1⟩
    · exact hv
  · exact hv
theorem aResult_ok (h : SRi w0 S0 σ a w Im hd bl) {C : Base gw} (hC : C.w = w) {ks : List (Option Nat)} {G : List Nat} (hGf : ∀ d p, obGet σ.ob d = some p → ∀ b ∈ bl d, b ∉ G) (hGi : ∀ b ∈ G, ¬ Im b) (hCm : ∀ b, C.mine b → w0.mine b ∧ (w.heap.size ≤ b ∨ b ∈ blks bl ks ++ G)) {S : Nat → Prop} {ios : List RC} {H : List Value}
    (hks : (someKeys ks).Nodup) (hrow : ∀ k ∈ someKeys ks, IsOb σ k) (hH : HeadsR hd ks H) (hio : ∀ c ∈ ios, IoRC c) {w' : World} (hbel : Kept C w') {rs : List (Bool × List RC)} {y : Oden (flatRs rs) ios} {v : Value} (hr : ResR C w' S rs ios H y v)
    (hS : (immB rs || ios.any leadsB) = true → ∀ b, S b ↔ Im b) {dst : Option Nat} {next : St → Option ρ} {r : ρ} (hn : aResult (σ.back ks ios (Oden.io _ _ y)) dst rs (Oden.res _ _ y) next = some r) : Goes w0 S0 next r (a.put dst v) w' := by
  subst hC
  obtain ⟨S', vs, L, M, rfl, s1, s2, s3, s4, s5, s6⟩ := hr
  have hsz := hbel.size
  have hobj : ∀ b ∈ blks bl ks, ∃ k o, obGet σ.ob k = some o ∧ k ∈ someKeys ks ∧ b ∈ bl k := fun b hb => by
    obtain ⟨k, hk, hb⟩ := blks_mem hb
    obtain ⟨o, hg⟩ := (hrow k hk).some
    exact ⟨k, _, hg, hk, hb⟩
  have h0 : SRi w0 S0 ⟨σ.sl, dels σ.ob (someKeys ks), σ.cut⟩ a C.w Im hd bl := h.less rfl (fun d o hd => by
    have hd' : obGet (dels σ.ob (someKeys ks)) d = some o := hd
    rw [obGet_dels] at hd'
    split at hd'
    · cases hd'
    · exact hd')
  have hτ : ∀ d p, obGet (dels σ.ob (someKeys ks)) d = some p → d ∉ someKeys ks ∧ obGet σ.ob d = some p := fun d p hp => by
    rw [obGet_dels] at hp
    split at hp
    · cases hp
    · rename_i hq; exact ⟨hq, hp⟩
  have hapart : ∀ d p, obGet (dels σ.ob (someKeys ks)) d = some p → ∀ b ∈ bl d, b ∉ blks bl ks ++ G := fun d p hp b hb hb2 => by
    obtain ⟨hd, ho⟩ := hτ d p hp
    rcases List.mem_append.1 hb2 with hb2 | hb2
    case inr => exact hGf d p ho b hb hb2
    obtain ⟨k, o, hg, hk, hb2⟩ := hobj b hb2
    exact h.apart d p k o ho hg (fun e => hd (e ▸ hk)) b hb hb2
  have hIL : ∀ b ∈ blks bl ks ++ G, ¬ Im b := fun b hb => by
    rcases List.mem_append.1 hb with hb | hb
    case inr => exact hGi b hb
    obtain ⟨k, o, hg, hk, hb⟩ := hobj b hb
    exact ((h.own k o hg).2 b hb).2.2
  have h1 : SRi w0 S0 ⟨σ.sl, dels σ.ob (someKeys ks), σ.cut⟩ a w' Im hd bl := h0.world2 (L := blks bl ks ++ G) (fun b hb hL => hbel.block b hb (fun hc => (hCm b hc).2.elim (fun h3 => by omega) hL)) hsz
    (KeptW.trans h.below hbel (fun b hb => (hCm b hb).1)) hIL hapart
  have hLM : ∀ b ∈ L ++ M, w0.mine b ∧ b < w'.heap.size := fun b hb => ⟨(hCm b (s4 b hb).1).1, (s4 b hb).2.1⟩
  obtain ⟨Im', g1, g2, g2', g3⟩ : ∃ Im', SRi w0 S0 ⟨σ.sl, dels σ.ob (someKeys ks), σ.cut⟩ a w' Im' hd bl ∧ RCs w' Im' vs L (flatRs rs) (Oden.res _ _ y) ∧ RCs w' Im' H M ios (Oden.io _ _ y) ∧ (∀ b ∈ L ++ M, ¬ Im' b) := by
    cases hi : (immB rs || ios.any leadsB) with
    | true =>
      refine ⟨S', h1.widen (fun b hb => s1 b ((hS hi b).2 hb)) (fun b hb => ?_) (fun b hb => ?_) (fun c o hc b hb hb2 => ?_), s5, s6, fun b hb => (s4 b hb).2.2⟩
      · rcases s2 b hb with h3 | h3
        · exact h.new b ((hS hi b).1 h3)
        · exact .inr (hCm b h3.1).1
      · rcases s2 b hb with h3 | h3
        · have := h.lt b ((hS hi b).1 h3); omega
        · exact h3.2
      · obtain ⟨hd, ho⟩ := hτ c o hc
        rcases s2 b hb2 with h3 | h3
        · exact ((h.own c o ho).2 b hb).2.2 ((hS hi b).1 h3)
        · rcases (hCm b h3.1).2 with h4 | h4
          · have := ((h.own c o ho).2 b hb).2.1; omega
          · exact hapart c o hc b hb h4
    | false =>
      rw [Bool.or_eq_false_iff] at hi
      refine ⟨Im, h1, s5.quiet hi.1 (fun _ _ => rfl), s6.quiet hi.2 (fun _ _ => rfl), fun b hb hI => ?_⟩
      rcases (hCm b (s4 b hb).1).2 with h4 | h4
      · have := h.lt b hI; omega
      · exact hIL b h4 hI
  rw [List.nodup_append] at s3
  have hblt : ∀ d p, obGet (dels σ.ob (someKeys ks)) d = some p → ∀ b ∈ bl d, b ∉ L ++ M := fun d p hp b hb hb2 => by
    rcases (hCm b (s4 b hb2).1).2 with h4 | h4
    · have := ((h.own d p (hτ d p hp).2).2 b hb).2.1; omega
    · exact hapart d p hp b hb h4
  obtain ⟨bl', k1, k2⟩ := back_ok ks ios (Oden.io _ _ y) H M σ ⟨σ.sl, dels σ.ob (someKeys ks), σ.cut⟩ bl g1 rfl (fun d => obGet_dels) g2' hH hks (fun k hk => by
      rcases hrow k hk with ⟨t, xs, d, n, hg⟩ | ⟨l, hg⟩
      · have ho := h.objs k _ hg
        refine .inl ⟨t, xs, d, n, hg, fun hn => ?_, ?_⟩
        · rcases ho.1 with ⟨e1, _⟩ | ⟨b, f0, cap, cs, F, Li, e1, _⟩
          · exact .inl e1
          · cases hx : xs with
            | nil => exact .inl (ho.2 hn hx)
            | cons x xs' => rw [hx] at e1; exact .inr ⟨_, xs'.length, cap, e1⟩
        · rcases ho.1 with ⟨e1, _⟩ | ⟨b, f0, cap, cs, F, Li, e1, _⟩
          · exact ⟨_, _, _, e1⟩
          · exact ⟨_, _, _, e1⟩
      · obtain ⟨b, cs, E, e1, _⟩ := h.objs k _ hg
        exact .inr ⟨l, b, hg, e1⟩) hio s3.2.1 (fun b hb => ⟨(hLM b (by simp [hb])).1, (hLM b (by simp [hb])).2, g3 b (by simp [hb])⟩)
    (fun d p hp b hb hb2 => hblt d p hp b hb (by simp [hb2]))
  unfold aResult at hn
  cases dst with
  | none => exact ⟨_, hn, Im', hd, bl', k1⟩
  | some d =>
    simp only at hn
    obtain ⟨hk5, hn⟩ := chk_some hn
    obtain ⟨hd', bl2, j1, j2, _⟩ := putCells_ok (dst := d) (j := 0) k1 g2 s3.1 (fun b hb => ⟨(hLM b (by simp [hb])).1, (hLM b (by simp [hb])).2, g3 b (by simp [hb])⟩) (fun k p hp b hb hbL => by
      rcases k2 k p hp b hb with hb | ⟨q, hq, hb⟩
      · exact s3.2.2 b hbL b hb rfl
      · exact hblt k q hq b hb (by simp [hbL])) (fun k hk => blt_lt (List.all_eq_true.1 hk5 k hk))
    exact ⟨_, hn, Im', hd', bl2, j1.put (some d) (j1.adrOf (ofParts_ok (cutParts_PRs j2)))⟩

theorem freezeAll_isRow : ∀ {l : List Nat} {σ : St} {d : Nat}, IsRow σ d → d ∉ l → IsRow (σ.freezeAll l) d
  | [], σ, d, h, _ => h
  | c :: l, σ, d, ⟨t, xs, e, n, h⟩, hn => freezeAll_isRow (l := l) (σ := σ.freeze c) ⟨t, xs, e, n, freeze_row h (fun e => hn (by simp [e]))⟩ (fun h2 => hn (by simp [h2]))
theorem freeze_box {σ : St} {c d : Nat} {l : List CV} (h : obGet σ.ob d = some (.box l)) (hne : d ≠ c) : ∃ l', obGet (σ.freeze c).ob d = some (.box l') := by
  have key : ∀ r, ∃ l', obGet (σ.sub c r).ob d = some (.box l') := by
    intro r
    refine ⟨l.map (CV.map r), ?_⟩
    show obGet (obMap r (obDel σ.ob c)) d = _
    rw [obGet_map, obGet_del]; simp [hne, h, Ob.map]
  unfold St.freeze
  split
  · exact key _
  · exact key _
  · exact key _
theorem freezeAll_isOb : ∀ {l : List Nat} {σ : St} {d : Nat}, IsOb σ d → d ∉ l → IsOb (σ.freezeAll l) d
  | l, σ, d, .inl h, hn => .inl (freezeAll_isRow h hn)
  | [], σ, d, .inr h, _ => .inr h
  | c :: l, σ, d, .inr ⟨m, h⟩, hn => freezeAll_isOb (l := l) (σ := σ.freeze c) (.inr (freeze_box h (fun e => hn (by simp [e])))) (fun h2 => hn (by simp [h2]))
theorem hasB_iff {c : Nat} {l : List Nat} : hasB c l = true ↔ c ∈ l := by
  induction l with
  | nil => simp [hasB]
  | cons d l ih => simp only [hasB, Bool.or_eq_true, ih, Nat.beq_eq, List.mem_cons]; exact ⟨fun h => h.imp_left (·.symm), fun h => h.imp_left (·.symm)⟩

/-- What is given beside the row: plain values. -/
theorem toArgsP_ok (h : SRi w0 S0 σ a w Im hd bl) : ∀ {ps : List PT} {vs : List Value} {avs : List AV} {x : Aden ps}, AVs w Im hd vs avs → σ.toArgs ps avs = some x → argOwns avs = [] → plainPs ps = true → ArgsR w Im vs ps x := by
  have one : ∀ {p : PT} {v : Value} {av : AV} {x : p.ty.den}, AVR w Im hd v av → σ.toArg p av = some x → av.owns = [] → plainPs [p] = true → ArgR w Im v p x := by
    intro p v av x hv hx ho hp
    cases p with
    | v t agg =>
      obtain ⟨H, h1, _, _⟩ := toArgO_ok h hv (p := .v t agg) (x := x) hx
      refine ArgR.mono (fun b hb => hb.elim (fun h => h) (fun ⟨k, hk, _⟩ => ?_)) h1.1
      have hr : rdOwns [.v t agg] [av] = av.owns ++ [] := rfl
      rw [hr, ho] at hk
      cases hk
    | r t => cases hp
    | z t => cases hp
    | fn f ts =>
      obtain ⟨H, h1, _, _⟩ := toArgO_ok h hv (p := .fn f ts) (x := x) hx
      refine ArgR.mono (fun b hb => hb.elim (fun h => h) (fun ⟨k, hk, _⟩ => ?_)) h1.1
      have hr : rdOwns [.fn f ts] [av] = av.owns ++ [] := rfl
      rw [hr, ho] at hk
      cases hk
    | o cs agg => cases hp
    | p a b => cases hp
  intro ps
  induction ps with
  | nil =>
    intro vs avs x hv hx _ _
    cases avs with
    | nil => cases vs with | nil => trivial | cons v vs => exact hv.elim
    | cons av avs => cases hx
  | cons p r ih =>
    intro vs avs x hv hx ho hp
    cases r with
    | nil =>
      match avs, hx with
      | [av], hx =>
        match vs, hv with
        | [v], hv => exact one hv.1 hx (by simpa [argOwns] using ho) hp
    | cons q r =>
      match avs, hx with
      | av :: au :: avs, hx =>
        obtain ⟨x1, h1, hx⟩ := Option.bind_eq_some_iff.1 (show ((σ.toArg p av).bind fun x => (σ.toArgs (q :: r) (au :: avs)).bind fun y => some (x, y)) = some x from hx)
        obtain ⟨x2, h2, hx⟩ := Option.bind_eq_some_iff.1 hx
        cases hx
        have ho1 : av.owns = [] ∧ argOwns (au :: avs) = [] := by simpa [argOwns] using ho
        have hp1 : plainPs [p] = true ∧ plainPs (q :: r) = true := by
          cases p with
          | v t agg => exact ⟨rfl, hp⟩
          | r t => cases hp
          | z t => cases hp
          | fn f ts => exact ⟨rfl, hp⟩
          | o cs agg => cases hp
          | p a b => cases hp
        match vs, hv with
        | v :: u :: us, hv => exact ⟨one hv.1 h1 ho1.1 hp1.1, ih hv.2 h2 ho1.2 hp1.2⟩
      | [av], hx =>
        exfalso
        obtain ⟨x1, h1, hx⟩ := Option.bind_eq_some_iff.1 (show ((σ.toArg p av).bind fun x => (σ.toArgs (q :: r) []).bind fun y => some (x, y)) = some x from hx)
        obtain ⟨x2, h2, hx⟩ := Option.bind_eq_some_iff.1 hx
        cases r <;> cases h2
theorem plainPs_io : ∀ {ps : List PT}, plainPs ps = true → ioOf ps = []
  | [], _ => rfl
  | .v _ _ :: r, h => plainPs_io (ps := r) h
  | .r _ :: _, h => by cases h
  | .z _ :: _, h => by cases h
  | .fn _ _ :: r, h => plainPs_io (ps := r) h
  | .o _ _ :: _, h => by cases h
  | .p _ _ :: _, h => by cases h
/-- The arguments, the first a row that is given away. -/
theorem toArgsG_ok (h : SRi w0 S0 σ a w Im hd bl) {c : Nat} {t : Ty} {ys : List t.den} {d cn : Bool} (hc : obGet σ.ob c = some (.row t ys d cn)) {e : Bool} (hd1 : (t.flat || (bif e then d else !d)) = true) : ∀ {ps : List PT} {v : Value} {us : List Value} {rest : List AV} {x : Aden ps},
    AVs w Im hd (v :: us) (.cv (.own c) :: rest) → σ.toArgs ps (.cv (.own c) :: rest) = some x → argOwns rest = [] → giftPs ps = true → ArgsG e w Im v us (bl c) ps x
  | .v (.slice s) false :: q :: r, v, us, au :: rest, x, hv, hx, ho, hp => by
    obtain ⟨x1, h1, hx⟩ := Option.bind_eq_some_iff.1 (show ((σ.toArg (.v (.slice s) false) (.cv (.own c))).bind fun x => (σ.toArgs (q :: r) (au :: rest)).bind fun y => some (x, y)) = some x from hx)
    obtain ⟨x2, h2, hx⟩ := Option.bind_eq_some_iff.1 hx
    cases hx
    refine ⟨?_, toArgsP_ok h hv.2 h2 ho hp⟩
    have h3 : σ.toCell (.o s e) (.own c) = some x1 := by
      have h4 : (match obGet σ.ob c with | some (.row u xs _ _) => (Ty.slice u).as (.slice s) xs | some (.mp l) => Ty.set.as (.slice s) (some l) | _ => none) = some x1 := h1
      show (match obGet σ.ob c with | some (.row u xs d' _) => bif s.flat || (bif e then d' else !d') then (Ty.slice u).as (.slice s) xs else none | _ => none) = some x1
      rw [hc] at h4 ⊢
      dsimp only at h4 ⊢
      obtain ⟨ee, hh⟩ := as_some h4
      have e1 : t = s := by cases ee; rfl
      subst e1
      rw [hd1]
      exact h4
    have := (toCell_ok h (v := v) (cv := .own c) (show CVR w Im hd v (.own c) from hv.1) (c := .o s e) (x := x1) h3).1
    have hb : (someKeys (cellKeys [.o s e] [.own c])).flatMap bl = bl c := by simp [someKeys, cellKeys]
    rw [hb] at this
    exact this
  | .v (.slice s) false :: q :: r, v, us, [], x, hv, hx, ho, hp => by
    exfalso
    obtain ⟨x1, h1, hx⟩ := Option.bind_eq_some_iff.1 (show ((σ.toArg (.v (.slice s) false) (.cv (.own c))).bind fun x => (σ.toArgs (q :: r) []).bind fun y => some (x, y)) = some x from hx)
    obtain ⟨x2, h2, hx⟩ := Option.bind_eq_some_iff.1 hx
    cases r <;> cases h2
theorem giftPs_io : ∀ {ps : List PT}, giftPs ps = true → ioOf ps = []
  | .v (.slice s) false :: q :: r, h => plainPs_io (ps := q :: r) h
theorem aGift_ok {E : Env} {ck : (fi : Fi) → Aden fi.ps → Option (Oden (flatRs fi.rs) (ioOf fi.ps))} (hG : ∀ f ids fi, E.fn f ids = some fi → ∀ x y, ck fi x = some y → Gives P gw f fi x y) (h : SRi w0 S0 σ a w Im hd bl) {o : Oper} {f : Nat} {vs : List Value} {avs : List AV}
    (hv : AVs w Im hd vs avs) (hr : (execOp a.eval o).run P w = (callFunc f vs.toArray).run P w) {ids : List Nat} {fi : Fi} (hf : E.fn f ids = some fi) {xs : Aden fi.ps} (hx : σ.toArgs fi.ps avs = some xs) (hgift : fi.gift = true)
    {next : St → Option ρ} {r : ρ} (hn : aGift σ ck fi o.dst avs xs next = some r) : o.wp P a w (Goes w0 S0 next r) Q := by
  unfold aGift at hn
  split at hn
  · rename_i c rest
    split at hn
    · rename_i t ys d cn hc
      obtain ⟨hk, hn⟩ := chk_some hn
      obtain ⟨y, hy, hn⟩ := Option.bind_eq_some_iff.1 hn
      simp only [Bool.and_eq_true] at hk
      obtain ⟨⟨hd0, hps⟩, hre⟩ := hk
      have hd1 : (t.flat || (bif !fi.run1 then d else !d)) = true := by
        cases hr1 : fi.run1 <;> rw [hr1] at hd0 <;> simpa using hd0
      have hGo : GivesG P gw f fi xs y := by
        have := hG f _ fi hf xs y hy
        unfold Gives at this
        rw [hgift] at this
        exact this
      have hro : argOwns rest = [] := List.isEmpty_iff.1 hre
      have hown := h.own c _ hc
      let C : Base gw := ⟨w, fun b => w.heap.size ≤ b ∨ b ∈ bl c, fun _ h => .inl h, fun w' hw' => w0.hg w' (KeptW.trans h.below hw' (fun b hb => hb.elim (fun h2 => Kept.fresh h.below h2) (fun h2 => (hown.2 b h2).1))), []⟩
      obtain ⟨g1, g2⟩ := h.takeOut hc
      match vs, hv with
      | v :: us, hv =>
        have hargs : ArgsG (!fi.run1) w Im v us (bl c) fi.ps xs := toArgsG_ok h hc hd1 hv hx hro hps
        refine (hGo C Im v us (bl c) h.lt hown.1 (fun b hb => ⟨.inr hb, (hown.2 b hb).2.1, (hown.2 b hb).2.2⟩) rfl hargs).wp hr fun v' w' hh => ?_
        have hio : ioOf fi.ps = [] := giftPs_io hps
        have hCm : ∀ b, C.mine b → w0.mine b ∧ (w.heap.size ≤ b ∨ b ∈ blks bl [] ++ bl c) := fun b hb => ⟨hb.elim (fun h2 => Kept.fresh h.below h2) (fun h2 => (hown.2 b h2).1), hb⟩
        exact aResult_ok g1 (C := C) rfl (ks := []) (G := bl c) (fun k p hp b hb hb2 => g2.free k p hp b hb hb2) (fun b hb => (hown.2 b hb).2.2) hCm List.nodup_nil (fun k hk => by cases hk) (H := []) trivial (by rw [hio]; intro _ hc; cases hc) hh.1 hh.2 (fun _ _ => Iff.rfl) (by rw [show (σ.kill c).back [] (ioOf fi.ps) (Oden.io _ _ y) = σ.kill c from by unfold St.back; rfl]; exact hn)
    · cases hn
  · cases hn

theorem ready_ok (h : SRi w0 S0 σ a w Im hd bl) (E : Env) (f : Nat) (vs : List AV) : ∃ Im', SRi w0 S0 (σ.ready E f vs) a w Im' hd bl ∧ ∀ b, Im b → Im' b := by
  unfold St.ready
  split
  · rename_i fi _
    cases fi.run1 with
    | true =>
      obtain ⟨Im', h1, h2, _⟩ := freezeAll_ok h (argOwns (vs.drop 1))
      exact ⟨Im', h1, h2⟩
    | false => exact ⟨Im, h, fun _ h => h⟩
  · exact ⟨Im, h, fun _ h => h⟩
/-- A call. -/
theorem aCall_ok {E : Env} {ck : (fi : Fi) → Aden fi.ps → Option (Oden (flatRs fi.rs) (ioOf fi.ps))} (hG : ∀ f ids fi, E.fn f ids = some fi → ∀ x y, ck fi x = some y → Gives P gw f fi x y) (h : SRi w0 S0 σ a w Im hd bl) {o : Oper} {f : Nat} {vs : List Value} {avs : List AV}
    (hv : AVs w Im hd vs avs) (hr : (execOp a.eval o).run P w = (callFunc f vs.toArray).run P w) {next : St → Option ρ} {r : ρ} (hn : aCall E σ ck f o.dst avs next = some r) : o.wp P a w (Goes w0 S0 next r) Q := by
  unfold aCall at hn
  split at hn
  · cases hn
  · rename_i fi hf
    split at hn
    · cases hn
    · rename_i xs hx
      cases hgift : fi.gift with
      | true =>
        rw [hgift, cond_true] at hn
        exact aGift_ok hG h hv hr hf hx hgift hn
      | false =>
      rw [hgift, cond_false] at hn
      obtain ⟨hk, hn⟩ := chk_some hn
      obtain ⟨y, hy, hn⟩ := Option.bind_eq_some_iff.1 hn
      have hGo : GivesO P gw f fi xs y := by
        have := hG f _ fi hf xs y hy
        unfold Gives at this
        rw [hgift] at this
        exact this
      rw [Bool.and_eq_true] at hk
      have hnd := nodupB_iff.1 hk.1
      have hdis : ∀ k ∈ rdOwns fi.ps avs, k ∉ someKeys (argKeys fi.ps avs) := fun k hk2 hk3 => by
        have := List.all_eq_true.1 hk.2 k hk2
        rw [hasB_iff.2 hk3] at this; cases this
      obtain ⟨H, hargs, hrows, hheads⟩ := toArgsO_ok h hv hx
      have hmem : ∀ b ∈ blks bl (argKeys fi.ps avs), w0.mine b ∧ b < w.heap.size ∧ ¬ Im b := fun b hb => by
        obtain ⟨k, hk, hb⟩ := blks_mem hb
        obtain ⟨o, hg⟩ := (hrows k hk).some
        exact (h.own k _ hg).2 b hb
      have hLn : (blks bl (argKeys fi.ps avs)).Nodup := by
        have : ∀ (l : List Nat), l.Nodup → (∀ k ∈ l, IsOb σ k) → (l.flatMap bl).Nodup := by
          intro l
          induction l with
          | nil => intro _ _; simp
          | cons k l ih =>
            intro hl hr
            rw [List.nodup_cons] at hl
            rw [List.flatMap_cons, List.nodup_append]
            obtain ⟨o, hg⟩ := (hr k (by simp)).some
            refine ⟨(h.own k _ hg).1, ih hl.2 (fun k' hk' => hr k' (by simp [hk'])), fun b hb b' hb' e => ?_⟩
            subst e
            obtain ⟨k', hk', hb'⟩ := List.mem_flatMap.1 hb'
            obtain ⟨o', hg'⟩ := (hr k' (by simp [hk'])).some
            exact h.apart k _ k' _ hg hg' (fun e => hl.1 (e ▸ hk')) b hb hb'
        exact this _ hnd hrows
      let C : Base gw := ⟨w, fun b => w.heap.size ≤ b ∨ b ∈ blks bl (argKeys fi.ps avs), fun _ h => .inl h, fun w' hw' => w0.hg w' (KeptW.trans h.below hw' (fun b hb => hb.elim (fun h2 => Kept.fresh h.below h2) (fun h2 => (hmem b h2).1))), H⟩
      have hCm : ∀ b, C.mine b → w0.mine b ∧ (w.heap.size ≤ b ∨ b ∈ blks bl (argKeys fi.ps avs)) := fun b hb => ⟨hb.elim (fun h2 => Kept.fresh h.below h2) (fun h2 => (hmem b h2).1), hb⟩
      cases hi : (immB fi.rs || (ioOf fi.ps).any leadsB) with
      | true =>
        rw [hi, cond_true] at hn
        obtain ⟨Im', h1, i1, i2, i3⟩ := freezeAll_ok h (rdOwns fi.ps avs)
        have hargs' : ArgsO w Im' vs (blks bl (argKeys fi.ps avs)) H fi.ps xs := ArgsO.mono (fun b hb => by
          rcases hb with hb | ⟨k, hk, ⟨o0, hg, htr⟩, hb⟩
          · exact i1 b hb
          · exact i3 k hk o0 hg htr b hb) hargs
        have hnI : ∀ b ∈ blks bl (argKeys fi.ps avs), ¬ Im' b := fun b hb hI => by
          rcases i2 b hI with h3 | ⟨k, hk, hb2⟩
          · exact (hmem b hb).2.2 h3
          · obtain ⟨k', hk', hb'⟩ := blks_mem hb
            obtain ⟨o, hg⟩ := (freezeAll_isOb (l := rdOwns fi.ps avs) (hrows k' hk') (fun h4 => hdis k' h4 hk')).some
            exact ((h1.own k' _ hg).2 b hb').2.2 hI
        refine (hGo C Im' vs (blks bl (argKeys fi.ps avs)) H h1.lt hLn (fun b hb => ⟨.inr hb, (hmem b hb).2.1, hnI b hb⟩) rfl hargs').wp hr fun v w' hh => ?_
        exact aResult_ok h1 (C := C) rfl (G := []) (fun _ _ _ _ _ hb => by cases hb) (fun _ hb => by cases hb) (by simpa using hCm) hnd (fun k hk => freezeAll_isOb (hrows k hk) (fun h4 => hdis k h4 hk)) hheads (ioOf_io _) hh.1 hh.2 (fun _ b => Iff.rfl) hn
      | false =>
        rw [hi, cond_false] at hn
        have hlt : ∀ b, (Im b ∨ ∃ k ∈ rdOwns fi.ps avs, IsTr σ k ∧ b ∈ bl k) → b < w.heap.size := fun b hb => by
          rcases hb with hb | ⟨k, hk, ⟨o0, hg, htr⟩, hb⟩
          · exact h.lt b hb
          · exact h.block_lt hg b hb
        refine (hGo C _ vs (blks bl (argKeys fi.ps avs)) H hlt hLn (fun b hb => ⟨.inr hb, (hmem b hb).2.1, fun hS => ?_⟩) rfl hargs).wp hr fun v w' hh => ?_
        · rcases hS with hS | ⟨k, hk, ⟨o0, hg, htr⟩, hb2⟩
          · exact (hmem b hb).2.2 hS
          · obtain ⟨k', hk', hb'⟩ := blks_mem hb
            obtain ⟨o', hg'⟩ := (hrows k' hk').some
            exact h.apart k _ k' _ hg hg' (fun e => hdis k hk (e ▸ hk')) b hb2 hb'
        · exact aResult_ok h (C := C) rfl (G := []) (fun _ _ _ _ _ hb => by cases hb) (fun _ hb => by cases hb) (by simpa using hCm) hnd hrows hheads (ioOf_io _) hh.1 hh.2 (fun e => by rw [hi] at e; cases e) hn

end
end Go.Vt
