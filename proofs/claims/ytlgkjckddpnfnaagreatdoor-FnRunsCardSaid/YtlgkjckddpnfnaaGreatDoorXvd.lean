/-
  What ties a state of the plain machine to an activation and a world of the model, and how that tie is kept.
  Conditions: none; these are definitions and lemmas on them.
-/
import Derived.Test.YtlgkjckddpnfnaaGreatDoorXvc
namespace Go.Vt
open Go.RowKit
set_option linter.unusedVariables false
set_option linter.unusedSimpArgs false

/-! ### lists of objects, slots -/
theorem beqN (a b : Nat) : Nat.beq a b = decide (a = b) := by
  rw [Bool.eq_iff_iff]; simp [Nat.beq_eq]
theorem obGet_del (l : List (Nat × Ob)) (c d : Nat) : obGet (obDel l c) d = if d = c then none else obGet l d := by
  induction l with
  | nil => simp [obDel, obGet]
  | cons p l ih =>
    obtain ⟨e, o⟩ := p
    simp only [obDel, obGet, beqN]
    by_cases h : e = c
    · subst h
      simp only [decide_true, cond_true, ih]
      by_cases h2 : d = e
      · simp [h2]
      · simp [h2, Ne.symm h2]
    · simp only [h, decide_false, cond_false, obGet, beqN, ih]
      by_cases h2 : e = d
      · subst h2; simp [h]
      · simp [h2]
theorem obGet_map (r : Rn) (l : List (Nat × Ob)) (d : Nat) : obGet (obMap r l) d = (obGet l d).map (Ob.map r) := by
  induction l with
  | nil => rfl
  | cons p l ih =>
    obtain ⟨e, o⟩ := p
    show obGet ((e, o.map r) :: obMap r l) d = _
    simp only [obGet, beqN]
    by_cases h : e = d <;> simp [h, ih]
theorem obGet_cons (l : List (Nat × Ob)) (c d : Nat) (o : Ob) : obGet ((c, o) :: l) d = if c = d then some o else obGet l d := by
  simp only [obGet, beqN]; by_cases h : c = d <;> simp [h]
theorem obGet_put (l : List (Nat × Ob)) (c d : Nat) (o : Ob) : obGet (obPut l c o) d = if c = d then some o else obGet l d := by
  unfold obPut
  rw [obGet_cons, obGet_del]
  by_cases h : c = d
  · simp [h]
  · simp [h, Ne.symm h]

theorem slGet_eq : ∀ (l : List AV) (n : Nat), slGet l n = (l[n]?).getD (.cv .dead)
  | [], n => by simp [slGet]
  | a :: l, 0 => by simp [slGet]
  | a :: l, n + 1 => by simp [slGet, slGet_eq l n]
theorem slSet_eq : ∀ (l : List AV) (n : Nat) (b : AV), slSet l n b = l.set n b
  | [], n, b => rfl
  | a :: l, 0, b => rfl
  | a :: l, n + 1, b => by simp [slSet, slSet_eq l n b]

/-! ### the tie -/
def CVR (w : World) (Im : Nat → Prop) (hd : Nat → Value) (v : Value) : CV → Prop
  | .dead => True | .nil => v = .slice none 0 0 | .val t x => VR w Im t x [v] | .own c => v = hd c | .unk => ∃ b, v = .bool b
def CVs (w : World) (Im : Nat → Prop) (hd : Nat → Value) : List Value → List CV → Prop
  | [], [] => True | v :: vs, c :: cs => CVR w Im hd v c ∧ CVs w Im hd vs cs | _, _ => False
def PR (w : World) (Im : Nat → Prop) (hd : Nat → Value) (v : Value) (p : Bool × List CV) : Prop :=
  match p with
  | (true, l) => ∃ vs, v = .agg vs.toArray ∧ CVs w Im hd vs l
  | (false, l) => match l with | [c] => CVR w Im hd v c | _ => True
def PRs (w : World) (Im : Nat → Prop) (hd : Nat → Value) : List Value → List (Bool × List CV) → Prop
  | [], [] => True | v :: vs, c :: cs => PR w Im hd v c ∧ PRs w Im hd vs cs | _, _ => False
def Value.top : Value → Option (Nat × Nat)
  | .slice (some ⟨b, f, none⟩) _ _ => some (b, f) | .pointer (some ⟨b, f, none⟩) => some (b, f) | _ => none
def RefR (w : World) (Im : Nat → Prop) (hd : Nat → Value) (v : Value) (l : List CV) : Prop :=
  plainCells l = true ∧ ∃ b o vs, Im b ∧ v = .pointer (some ⟨b, o, none⟩) ∧ At w b o vs ∧ CVs w Im hd vs l
def RefRs (w : World) (Im : Nat → Prop) (hd : Nat → Value) : List Value → List (List CV) → Prop
  | [], [] => True | v :: vs, c :: cs => RefR w Im hd v c ∧ RefRs w Im hd vs cs | _, _ => False
def plainCV : CV → Prop | .own _ => False | _ => True
def AVR (w : World) (Im : Nat → Prop) (hd : Nat → Value) (v : Value) : AV → Prop
  | .cv c => CVR w Im hd v c
  | .ag l => ∃ vs, v = .agg vs.toArray ∧ CVs w Im hd vs l
  | .adr c o => ∃ b, hd c = .pointer (some ⟨b, 0, none⟩) ∧ v = .pointer (some ⟨b, o, none⟩)
  | .el c n i o => ∃ b f, Value.top (hd c) = some (b, f) ∧ v = .pointer (some ⟨b, f + i * n + o, none⟩)
  | .ref l => RefR w Im (fun _ => undef) v l
  | .fn f caps => ∃ ps, v = .func (.func f) #[] ps.toArray ∧ RefRs w Im (fun _ => undef) ps caps
  | .tup l => ∃ vs, v = .tuple vs.toArray ∧ PRs w Im hd vs l

def rowP (w : World) (Im : Nat → Prop) (t : Ty) (deep : Bool) : t.den → List Value → List Nat → Prop :=
  if deep then OT w t else fun x cs L => VR w Im t x cs ∧ L = []
def ObR (w : World) (Im : Nat → Prop) (hd : Nat → Value) (v : Value) (L : List Nat) : Ob → Prop
  | .row t xs deep cn => ORow w t.sz (rowP w Im t deep) v xs L ∧ (cn = true → xs = [] → v = .slice none 0 0)
  | .arr t xs => ∃ b cs E, v = .pointer (some ⟨b, 0, none⟩) ∧ w.heap[b]? = some (.cells cs E (0, 0)) ∧ cs.size = xs.length * t.sz ∧ L = [b] ∧ t.flat = true ∧ OL t.sz (rowP w Im t false) xs cs.toList []
  | .box l => ∃ b cs E, v = .pointer (some ⟨b, 0, none⟩) ∧ w.heap[b]? = some (.cells cs E (0, 0)) ∧ L = [b] ∧ CVs w Im hd cs.toList l
  | .hole t xs i c => ∃ b f cap cs E L1 L2 u, v = .slice (some ⟨b, f, none⟩) xs.length cap ∧ w.heap[b]? = some (.cells cs E (0, 0)) ∧ f + cap * 1 ≤ cs.size ∧ xs.length ≤ cap ∧ i < xs.length ∧ L = b :: (L1 ++ L2) ∧
      OL 1 (OT w (.slice t)) (xs.take i) ((cs.toList.drop f).take i) L1 ∧ OL 1 (OT w (.slice t)) (xs.drop (i + 1)) ((cs.toList.drop f).drop (i + 1)) L2 ∧ (cs.toList.drop f)[i]? = some u ∧ CVR w Im hd u c
  | .tl t xs n => (v = .slice none 0 0 ∧ xs = [] ∧ L = []) ∨ ∃ b f cap cs E Li, v = .slice (some ⟨b, f, none⟩) xs.length cap ∧ w.heap[b]? = some (.cells cs E (0, 0)) ∧ f + cap * t.sz ≤ cs.size ∧ xs.length ≤ cap ∧ L = b :: Li ∧
      OL t.sz (OT w t) (xs.drop n) ((cs.toList.drop f).drop (n * t.sz)) Li
  | .hol t xs i l => ∃ b f cap cs E L1 L2, v = .slice (some ⟨b, f, none⟩) xs.length cap ∧ w.heap[b]? = some (.cells cs E (0, 0)) ∧ f + cap * t.sz ≤ cs.size ∧ xs.length ≤ cap ∧ i < xs.length ∧ L = b :: (L1 ++ L2) ∧
      OL t.sz (OT w t) (xs.take i) ((cs.toList.drop f).take (i * t.sz)) L1 ∧ OL t.sz (OT w t) (xs.drop (i + 1)) ((cs.toList.drop f).drop (i * t.sz + t.sz)) L2 ∧ CVs w Im hd (((cs.toList.drop f).drop (i * t.sz)).take t.sz) l
  | .mp l => SetR w v L (some l)

/-- What holds of the world throughout; is the count of draws told. -/
structure Gw where
  p : World → Prop
  dr : Bool
/-- The world in which a function begins, and the blocks that it may write: those that come later, and those that are handed in to be written. -/
structure KeptW (dr : Bool) (w : World) (mine : Nat → Prop) (w' : World) : Prop where
  os : w'.os = w.os
  tape : w'.tape = w.tape
  output : w'.output = w.output
  size : w.heap.size ≤ w'.heap.size
  block : ∀ k, k < w.heap.size → ¬ mine k → w'.heap[k]? = w.heap[k]?
  drawn : dr = true → w.drawn ≤ w'.drawn
/-- (gw: what holds of the world throughout: how the program's tables read.) -/
structure Base (gw : Gw) where
  w : World
  mine : Nat → Prop
  up : ∀ b, w.heap.size ≤ b → mine b
  hg : ∀ w', KeptW gw.dr w mine w' → gw.p w'
  hs : List Value   -- the heads of the rows that are handed in to be written
/-- What isn't the function's own is as it was. -/
abbrev Kept {gw : Gw} (B : Base gw) (w' : World) : Prop := KeptW gw.dr B.w B.mine w'
theorem Kept.refl {gw : Gw} (B : Base gw) : Kept B B.w := ⟨rfl, rfl, rfl, Nat.le_refl _, fun _ _ _ => rfl, fun _ => Nat.le_refl _⟩
theorem KeptW.trans {dr : Bool} {w u w' : World} {m n : Nat → Prop} (h : KeptW dr w m u) (k : KeptW dr u n w') (hm : ∀ b, n b → m b) : KeptW dr w m w' :=
  ⟨k.os.trans h.os, k.tape.trans h.tape, k.output.trans h.output, Nat.le_trans h.size k.size, fun i hi hn => (k.block i (Nat.lt_of_lt_of_le hi h.size) (fun hc => hn (hm i hc))).trans (h.block i hi hn), fun e => Nat.le_trans (h.drawn e) (k.drawn e)⟩
theorem KeptW.below {dr : Bool} {w u w' : World} {m : Nat → Prop} (h : KeptW dr w m u) (k : Below u.heap.size u w') (hdr : dr = true → u.drawn ≤ w'.drawn) : KeptW dr w m w' :=
  ⟨k.os.trans h.os, k.tape.trans h.tape, k.output.trans h.output, Nat.le_trans h.size k.size, fun i hi hn => (k.block i (Nat.lt_of_lt_of_le hi h.size)).trans (h.block i hi hn), fun e => Nat.le_trans (h.drawn e) (hdr e)⟩
theorem KeptW.drew {dr : Bool} {w u : World} {m : Nat → Prop} (h : KeptW dr w m u) : KeptW dr w m u.drew := ⟨h.os, h.tape, h.output, h.size, h.block, fun e => Nat.le_trans (h.drawn e) (Nat.le_succ _)⟩
theorem KeptW.alloc {dr : Bool} {w u : World} {m : Nat → Prop} (h : KeptW dr w m u) (o : Obj) : KeptW dr w m (u.alloc o) :=
  h.below ((Below.refl _ _).alloc (Nat.le_refl _) o) (fun _ => Nat.le_refl _)
theorem Kept.fresh {gw : Gw} {B : Base gw} {w : World} (h : Kept B w) {b : Nat} (hb : w.heap.size ≤ b) : B.mine b := B.up b (Nat.le_trans h.size hb)

structure SRi {gw : Gw} (w0 : Base gw) (S0 : Nat → Prop) (σ : St) (a : Act) (w : World) (Im : Nat → Prop) (hd : Nat → Value) (bl : Nat → List Nat) : Prop where
  below : Kept w0 w
  sub : ∀ b, S0 b → Im b
  new : ∀ b, Im b → S0 b ∨ w0.mine b
  lt : ∀ b, Im b → b < w.heap.size
  nodef : a.defers = []
  size : a.tmps.size = σ.sl.length
  slots : ∀ i av, σ.sl[i]? = some av → AVR w Im hd (a.tmps.getD i undef) av
  objs : ∀ c o, obGet σ.ob c = some o → ObR w Im hd (hd c) (bl c) o
  own : ∀ c o, obGet σ.ob c = some o → (bl c).Nodup ∧ ∀ b ∈ bl c, w0.mine b ∧ b < w.heap.size ∧ ¬ Im b
  apart : ∀ c o d p, obGet σ.ob c = some o → obGet σ.ob d = some p → c ≠ d → ∀ b ∈ bl c, b ∉ bl d
  io : ∀ j v, w0.hs[j]? = some v → hd (500000 + j) = v

def SR {gw : Gw} (w0 : Base gw) (S0 : Nat → Prop) (σ : St) (a : Act) (w : World) : Prop := ∃ Im hd bl, SRi w0 S0 σ a w Im hd bl

/-! ### the tie in another world, under another telling -/
structure Tell (w w' : World) (Im Im' : Nat → Prop) (hd hd' : Nat → Value) (r : Rn) : Prop where
  same : Same Im w w'
  sub : ∀ b, Im b → Im' b
  own : ∀ c, CVR w' Im' hd' (hd c) (r.own c)
  adr : ∀ c o v, AVR w Im hd v (.adr c o) → AVR w' Im' hd' v (r.adr c o)
  el : ∀ c n i o v, AVR w Im hd v (.el c n i o) → AVR w' Im' hd' v (r.el c n i o)

section
variable {w w' : World} {Im Im' : Nat → Prop} {hd hd' : Nat → Value} {r : Rn}
theorem CVR.tell (h : Tell w w' Im Im' hd hd' r) {v : Value} : ∀ {c : CV}, CVR w Im hd v c → CVR w' Im' hd' v (c.map r)
  | .dead, _ => trivial
  | .nil, e => e
  | .val t x, e => VR.mono h.same h.sub e
  | .own c, e => by cases (show v = hd c from e); exact h.own c
  | .unk, e => e
theorem CVs.tell (h : Tell w w' Im Im' hd hd' r) : ∀ {vs : List Value} {l : List CV}, CVs w Im hd vs l → CVs w' Im' hd' vs (l.map (CV.map r))
  | [], [], _ => trivial
  | v :: vs, c :: cs, e => ⟨CVR.tell h e.1, CVs.tell h e.2⟩
  | [], _ :: _, e => e.elim
  | _ :: _, [], e => e.elim
theorem PR.tell (h : Tell w w' Im Im' hd hd' r) {v : Value} : ∀ {p : Bool × List CV}, PR w Im hd v p → PR w' Im' hd' v (p.1, p.2.map (CV.map r))
  | (true, l), e => by obtain ⟨vs, e1, e2⟩ := e; exact ⟨vs, e1, e2.tell h⟩
  | (false, []), _ => trivial
  | (false, [c]), e => CVR.tell h (c := c) e
  | (false, _ :: _ :: _), _ => trivial
theorem PRs.tell (h : Tell w w' Im Im' hd hd' r) : ∀ {vs : List Value} {l : List (Bool × List CV)}, PRs w Im hd vs l → PRs w' Im' hd' vs (l.map fun p => (p.1, p.2.map (CV.map r)))
  | [], [], _ => trivial
  | v :: vs, c :: cs, e => ⟨PR.tell h e.1, PRs.tell h e.2⟩
  | [], _ :: _, e => e.elim
  | _ :: _, [], e => e.elim
theorem CVs.plain (hs : Same Im w w') (hi : ∀ b, Im b → Im' b) : ∀ {vs : List Value} {l : List CV}, CVs w Im (fun _ => undef) vs l → CVs w' Im' (fun _ => undef) vs l
  | [], [], _ => trivial
  | v :: vs, c :: cs, e => by
    refine ⟨?_, CVs.plain hs hi e.2⟩
    cases c with
    | dead => trivial
    | nil => exact e.1
    | val t x => exact VR.mono hs hi e.1
    | own c => exact e.1
    | unk => exact e.1
  | [], _ :: _, e => e.elim
  | _ :: _, [], e => e.elim
theorem RefR.tell (hs : Same Im w w') (hi : ∀ b, Im b → Im' b) {v : Value} {l : List CV} (e : RefR w Im (fun _ => undef) v l) : RefR w' Im' (fun _ => undef) v l := by
  obtain ⟨pl, b, o, vs, hb, e1, e2, e3⟩ := e
  exact ⟨pl, b, o, vs, hi b hb, e1, e2.same (hs b hb), CVs.plain hs hi e3⟩
theorem RefRs.tell (hs : Same Im w w') (hi : ∀ b, Im b → Im' b) : ∀ {vs : List Value} {l : List (List CV)}, RefRs w Im (fun _ => undef) vs l → RefRs w' Im' (fun _ => undef) vs l
  | [], [], _ => trivial
  | v :: vs, c :: cs, e => ⟨RefR.tell hs hi e.1, RefRs.tell hs hi e.2⟩
  | [], _ :: _, e => e.elim
  | _ :: _, [], e => e.elim
theorem AVR.tell (h : Tell w w' Im Im' hd hd' r) {v : Value} : ∀ {av : AV}, AVR w Im hd v av → AVR w' Im' hd' v (av.map r)
  | .cv c, e => CVR.tell h (c := c) e
  | .ag l, e => by obtain ⟨vs, e1, e2⟩ := e; exact ⟨vs, e1, e2.tell h⟩
  | .adr c o, e => h.adr c o v e
  | .el c n i o, e => h.el c n i o v e
  | .ref l, e => RefR.tell h.same h.sub e
  | .fn f caps, e => by obtain ⟨ps, e1, e2⟩ := e; exact ⟨ps, e1, e2.tell h.same h.sub⟩
  | .tup l, e => by obtain ⟨vs, e1, e2⟩ := e; exact ⟨vs, e1, e2.tell h⟩

theorem OL.mapP {α : Type} {n : Nat} {p q : α → List Value → List Nat → Prop} {xs : List α} {cs : List Value} {L : List Nat} (h : OL n p xs cs L) (hq : ∀ x c l, (∀ b ∈ l, b ∈ L) → p x c l → q x c l) : OL n q xs cs L := h.imp fun x _ c l hl hp => hq x c l hl hp

theorem rowP.tell (hs : Same Im w w') (hi : ∀ b, Im b → Im' b) {t : Ty} {deep : Bool} {x : t.den} {cs : List Value} {L : List Nat} (hL : ∀ b ∈ L, w'.heap[b]? = w.heap[b]?) (e : rowP w Im t deep x cs L) : rowP w' Im' t deep x cs L := by
  cases deep with
  | true => exact OT.same e hL
  | false => exact ⟨VR.mono hs hi e.1, e.2⟩
theorem ObR.tell (h : Tell w w' Im Im' hd hd' r) {v : Value} {L : List Nat} (hL : ∀ b ∈ L, w'.heap[b]? = w.heap[b]?) : ∀ {o : Ob}, ObR w Im hd v L o → ObR w' Im' hd' v L (o.map r)
  | .row t xs deep cn, e => by
    refine ⟨?_, e.2⟩
    rcases e.1 with h1 | ⟨b, f, cap, cs, E, Li, e1, e2, e3, e4, e5, e6⟩
    · exact .inl h1
    · subst e5
      refine .inr ⟨b, f, cap, cs, E, Li, e1, by rw [hL b (by simp)]; exact e2, e3, e4, rfl, e6.mapP fun x c l hl hp => rowP.tell h.same h.sub (fun b hb => hL b (by simp [hl b hb])) hp⟩
  | .arr t xs, e => by
    obtain ⟨b, cs, E, e1, e2, e3, rfl, hf, e5⟩ := e
    exact ⟨b, cs, E, e1, by rw [hL b (by simp)]; exact e2, e3, rfl, hf, e5.mapP fun x c l hl hp => rowP.tell h.same h.sub (fun b hb => by have := hl b hb; simp at this) hp⟩
  | .box l, e => by
    obtain ⟨b, cs, E, e1, e2, rfl, e5⟩ := e
    exact ⟨b, cs, E, e1, by rw [hL b (by simp)]; exact e2, rfl, e5.tell h⟩
  | .hole t xs i c, e => by
    obtain ⟨b, f, cap, cs, E, L1, L2, u, e1, e2, e3, e4, e5, rfl, e6, e7, e8, e9⟩ := e
    exact ⟨b, f, cap, cs, E, L1, L2, u, e1, by rw [hL b (by simp)]; exact e2, e3, e4, e5, rfl, e6.mapP fun x c l hl hp => OT.same hp (fun b hb => hL b (by simp [hl b hb])),
      e7.mapP fun x c l hl hp => OT.same hp (fun b hb => hL b (by simp [hl b hb])), e8, CVR.tell h e9⟩
  | .hol t xs i l, e => by
    obtain ⟨b, f, cap, cs, E, L1, L2, e1, e2, e3, e4, e5, rfl, e6, e7, e8⟩ := e
    exact ⟨b, f, cap, cs, E, L1, L2, e1, by rw [hL b (by simp)]; exact e2, e3, e4, e5, rfl, e6.mapP fun x c l hl hp => OT.same hp (fun b hb => hL b (by simp [hl b hb])),
      e7.mapP fun x c l hl hp => OT.same hp (fun b hb => hL b (by simp [hl b hb])), CVs.tell h e8⟩
  | .mp l, e => SetR.same (x := some l) e hL
  | .tl t xs n, e => by
    rcases e with h1 | ⟨b, f, cap, cs, E, Li, e1, e2, e3, e4, rfl, e6⟩
    · exact .inl h1
    · exact .inr ⟨b, f, cap, cs, E, Li, e1, by rw [hL b (by simp)]; exact e2, e3, e4, rfl, e6.mapP fun x c l hl hp => OT.same hp (fun b hb => hL b (by simp [hl b hb]))⟩
end

/-! ### objects go, come, are told anew -/
theorem Tell.id (w : World) (Im : Nat → Prop) (hd : Nat → Value) : Tell w w Im Im hd hd ⟨.own, .adr, .el⟩ :=
  ⟨Same.refl _ _, fun _ h => h, fun _ => rfl, fun _ _ _ h => h, fun _ _ _ _ _ h => h⟩
theorem Tell.keep {w w' : World} {Im Im' : Nat → Prop} (hd : Nat → Value) (hs : Same Im w w') (hi : ∀ b, Im b → Im' b) : Tell w w' Im Im' hd hd ⟨.own, .adr, .el⟩ :=
  ⟨hs, hi, fun _ => rfl, fun _ _ _ h => h, fun _ _ _ _ _ h => h⟩
theorem CV.map_id (c : CV) : c.map ⟨.own, .adr, .el⟩ = c := by cases c <;> rfl
theorem CV.map_id' : CV.map ⟨.own, .adr, .el⟩ = id := by funext c; exact c.map_id
theorem AV.map_id (a : AV) : a.map ⟨.own, .adr, .el⟩ = a := by
  cases a <;> simp [AV.map, CV.map_id, CV.map_id']
theorem Ob.map_id (o : Ob) : o.map ⟨.own, .adr, .el⟩ = o := by cases o <;> simp [Ob.map, CV.map_id', CV.map_id]

/-- The world goes on, nothing that the tie speaks of having turned. -/
theorem SRi.world {gw : Gw} {w0 : Base gw} {S0 : Nat → Prop} {σ : St} {a : Act} {w w' : World} {Im : Nat → Prop} {hd : Nat → Value} {bl : Nat → List Nat}
    (h : SRi w0 S0 σ a w Im hd bl) (hw : ∀ b, b < w.heap.size → w'.heap[b]? = w.heap[b]?) (hsz : w.heap.size ≤ w'.heap.size) (hb : Kept w0 w') : SRi w0 S0 σ a w' Im hd bl := by
  have T : Tell w w' Im Im hd hd ⟨.own, .adr, .el⟩ := Tell.keep hd (fun b hb => hw b (h.lt b hb)) fun _ x => x
  refine ⟨hb, h.sub, h.new, fun b hb => Nat.lt_of_lt_of_le (h.lt b hb) hsz, h.nodef, h.size, fun i av hi => ?_, fun c o hc => ?_, fun c o hc => ?_, h.apart, h.io⟩
  · have := (h.slots i av hi).tell T; rwa [AV.map_id] at this
  · have := (h.objs c o hc).tell T (fun b hb => hw b ((h.own c o hc).2 b hb).2.1); rwa [Ob.map_id] at this
  · exact ⟨(h.own c o hc).1, fun b hb => ⟨((h.own c o hc).2 b hb).1, Nat.lt_of_lt_of_le ((h.own c o hc).2 b hb).2.1 hsz, ((h.own c o hc).2 b hb).2.2⟩⟩

/-- The object c goes, more is immutable. -/
theorem SRi.sub_ {gw : Gw} {w0 : Base gw} {S0 : Nat → Prop} {σ : St} {a : Act} {w : World} {Im Im' : Nat → Prop} {hd : Nat → Value} {bl : Nat → List Nat} {c : Nat} {r : Rn}
    (h : SRi w0 S0 σ a w Im hd bl) (T : Tell w w Im Im' hd hd r) (hi : ∀ b, Im' b → Im b ∨ b ∈ bl c) (hc : (∃ b, Im' b ∧ ¬ Im b) → ∃ o, obGet σ.ob c = some o) : SRi w0 S0 (σ.sub c r) a w Im' hd bl := by
  have hob : ∀ d p, obGet (σ.sub c r).ob d = some p → d ≠ c ∧ ∃ o, obGet σ.ob d = some o ∧ p = o.map r := by
    intro d p hp
    have hp' : obGet (obMap r (obDel σ.ob c)) d = some p := hp
    rw [obGet_map, obGet_del] at hp'
    by_cases e : d = c
    · simp [e] at hp'
    · simp only [e, if_false] at hp'
      obtain ⟨o, ho, rfl⟩ := Option.map_eq_some_iff.1 hp'
      exact ⟨e, o, ho, rfl⟩
  have hIm : ∀ b, Im' b → ∀ d o, d ≠ c → obGet σ.ob d = some o → b ∉ bl d := by
    intro b hb d o hd ho hbl
    rcases hi b hb with h1 | h1
    · exact ((h.own d o ho).2 b hbl).2.2 h1
    · by_cases h2 : Im b
      · exact ((h.own d o ho).2 b hbl).2.2 h2
      · obtain ⟨oc, hoc⟩ := hc ⟨b, hb, h2⟩
        exact h.apart c oc d o hoc ho (Ne.symm hd) b h1 hbl
  refine ⟨h.below, fun b hb => T.sub b (h.sub b hb), fun b hb => ?_, fun b hb => ?_, h.nodef, ?_, fun i av hi => ?_, fun d p hp => ?_, fun d p hp => ?_, fun d p e q hp hq hne => ?_, h.io⟩
  · rcases hi b hb with h1 | h1
    · exact h.new b h1
    · by_cases h2 : Im b
      · exact h.new b h2
      · obtain ⟨oc, hoc⟩ := hc ⟨b, hb, h2⟩
        exact .inr ((h.own c oc hoc).2 b h1).1
  · rcases hi b hb with h1 | h1
    · exact h.lt b h1
    · by_cases h2 : Im b
      · exact h.lt b h2
      · obtain ⟨oc, hoc⟩ := hc ⟨b, hb, h2⟩
        exact ((h.own c oc hoc).2 b h1).2.1
  · show a.tmps.size = (σ.sl.map (AV.map r)).length; rw [List.length_map]; exact h.size
  · have hi' : (σ.sl.map (AV.map r))[i]? = some av := hi
    rw [List.getElem?_map] at hi'
    obtain ⟨u, hu, rfl⟩ := Option.map_eq_some_iff.1 hi'
    exact (h.slots i u hu).tell T
  · obtain ⟨hne, o, ho, rfl⟩ := hob d p hp
    exact (h.objs d o ho).tell T fun _ _ => rfl
  · obtain ⟨hne, o, ho, rfl⟩ := hob d p hp
    exact ⟨(h.own d o ho).1, fun b hb => ⟨((h.own d o ho).2 b hb).1, ((h.own d o ho).2 b hb).2.1, fun hb2 => hIm b hb2 d o hne ho hb⟩⟩
  · obtain ⟨_, o, ho, rfl⟩ := hob d p hp
    obtain ⟨_, o', ho', rfl⟩ := hob e q hq
    exact h.apart d o e o' ho ho' hne

theorem CVR.wider {w : World} {Im Im' : Nat → Prop} {hd : Nat → Value} {v : Value} (hi : ∀ b, Im b → Im' b) : ∀ {c : CV}, CVR w Im hd v c → CVR w Im' hd v c
  | .dead, _ => trivial | .nil, e => e | .val t x, e => VR.mono (Same.refl _ _) hi e | .own c, e => e | .unk, e => e

theorem SRi.kill {gw : Gw} {w0 : Base gw} {S0 : Nat → Prop} {σ : St} {a : Act} {w : World} {Im : Nat → Prop} {hd : Nat → Value} {bl : Nat → List Nat} (h : SRi w0 S0 σ a w Im hd bl) (c : Nat) : SRi w0 S0 (σ.kill c) a w Im hd bl := by
  refine h.sub_ ⟨Same.refl _ _, fun _ x => x, fun d => ?_, fun d o v e => ?_, fun d n i o v e => ?_⟩ (fun b hb => .inl hb) (fun ⟨b, h1, h2⟩ => (h2 h1).elim)
  · show CVR w Im hd (hd d) (bif Nat.beq d c then .dead else .own d); cases Nat.beq d c <;> first | rfl | trivial
  · show AVR w Im hd v (bif Nat.beq d c then .cv .dead else .adr d o); cases Nat.beq d c <;> first | exact e | trivial
  · show AVR w Im hd v (bif Nat.beq d c then .cv .dead else .el d n i o); cases Nat.beq d c <;> first | exact e | trivial

/-- What a row holds, read alone. -/
theorem ObR.read {w : World} {Im : Nat → Prop} {hd : Nat → Value} {v : Value} {L : List Nat} {t : Ty} {xs : List t.den} {d n : Bool} (h : ObR w Im hd v L (.row t xs d n)) : VR w (fun b => Im b ∨ b ∈ L) (.slice t) xs [v] := by
  rcases h.1 with ⟨rfl, rfl, rfl⟩ | ⟨b, f, cap, cs, E, Li, rfl, hb, h1, h2, rfl, hl⟩
  · exact ⟨none, 0, rfl, Nat.le_refl _, .inl rfl⟩
  · refine ⟨_, cap, rfl, h2, .inr ⟨b, f, rfl, .inr (by simp), fun i x hx => ?_⟩⟩
    obtain ⟨l, hp, hl2, hle⟩ := hl.get i x hx
    rw [List.drop_drop] at hp
    have hv : VR w (fun b' => Im b' ∨ b' ∈ b :: Li) t x ((cs.toList.drop (f + i * t.sz)).take t.sz) := by
      cases d with
      | true => exact OT.read (S := fun b' => Im b' ∨ b' ∈ b :: Li) hp fun b' hb' => .inr (by simp [hl2 b' hb'])
      | false => exact VR.mono (Same.refl _ _) (fun b hb => .inl hb) hp.1
    exact ⟨_, hv.sz, drop_at hb (f + i * t.sz) t.sz, hv⟩

theorem SRi.freeze {gw : Gw} {w0 : Base gw} {S0 : Nat → Prop} {σ : St} {a : Act} {w : World} {Im : Nat → Prop} {hd : Nat → Value} {bl : Nat → List Nat} (h : SRi w0 S0 σ a w Im hd bl) (c : Nat) :
    ∃ Im', SRi w0 S0 (σ.freeze c) a w Im' hd bl ∧ (∀ b, Im b → Im' b) ∧ (∀ b, Im' b → Im b ∨ b ∈ bl c) ∧ (∀ o, obGet σ.ob c = some o → o.tree = true → ∀ b, b ∈ bl c → Im' b) := by
  unfold St.freeze
  cases hc : obGet σ.ob c with
  | none => exact ⟨Im, h.kill c, fun _ x => x, fun _ x => .inl x, fun _ e _ => by cases e⟩
  | some o =>
    cases o with
    | arr t xs => exact ⟨Im, h.kill c, fun _ x => x, fun _ x => .inl x, fun _ e ht => by cases e; cases ht⟩
    | box l => exact ⟨Im, h.kill c, fun _ x => x, fun _ x => .inl x, fun _ e ht => by cases e; cases ht⟩
    | hole t xs i v => exact ⟨Im, h.kill c, fun _ x => x, fun _ x => .inl x, fun _ e ht => by cases e; cases ht⟩
    | tl t xs n => exact ⟨Im, h.kill c, fun _ x => x, fun _ x => .inl x, fun _ e ht => by cases e; cases ht⟩
    | mp l =>
      have hr : VR w (fun b => Im b ∨ b ∈ bl c) .set (some l) [hd c] := ⟨hd c, bl c, rfl, fun _ hb => .inr hb, h.objs c _ hc⟩
      refine ⟨fun b => Im b ∨ b ∈ bl c, h.sub_ ⟨Same.refl _ _, fun _ x => .inl x, fun e => ?_, fun e o v k => ?_, fun e n i o v k => ?_⟩ (fun b hb => hb) (fun _ => ⟨_, hc⟩), fun _ x => .inl x, fun _ x => x, fun _ _ _ b hb => .inr hb⟩
      · show CVR w _ hd (hd e) (bif Nat.beq e c then .val .set (some l) else .own e)
        rw [beqN]
        by_cases q : e = c
        · subst q; simp only [decide_true, cond_true]; exact hr
        · simp only [q, decide_false, cond_false]; rfl
      · show AVR w _ hd v (bif Nat.beq e c then .cv .dead else .adr e o); cases Nat.beq e c <;> first | exact k | trivial
      · show AVR w _ hd v (bif Nat.beq e c then .cv .dead else .el e n i o); cases Nat.beq e c <;> first | exact k | trivial
    | hol t xs i l => exact ⟨Im, h.kill c, fun _ x => x, fun _ x => .inl x, fun _ e ht => by cases e; cases ht⟩
    | row t xs d n =>
      have hr := (h.objs c _ hc).read
      refine ⟨fun b => Im b ∨ b ∈ bl c, h.sub_ ⟨Same.refl _ _, fun _ x => .inl x, fun e => ?_, fun e o v k => ?_, fun e n i o v k => ?_⟩ (fun b hb => hb) (fun _ => ⟨_, hc⟩), fun _ x => .inl x, fun _ x => x, fun _ _ _ b hb => .inr hb⟩
      · show CVR w _ hd (hd e) (bif Nat.beq e c then .val (.slice t) xs else .own e)
        rw [beqN]
        by_cases q : e = c
        · subst q; simp only [decide_true, cond_true]; exact hr
        · simp only [q, decide_false, cond_false]; rfl
      · show AVR w _ hd v (bif Nat.beq e c then .cv .dead else .adr e o); cases Nat.beq e c <;> first | exact k | trivial
      · show AVR w _ hd v (bif Nat.beq e c then .cv .dead else .el e n i o); cases Nat.beq e c <;> first | exact k | trivial

end Go.Vt
