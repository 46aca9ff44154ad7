/-
  What is asked of the table of types, and the model's reading and writing of variables under it.
  Conditions: none; these are definitions and lemmas on them.
-/
import Derived.Test.YtlgkjckddpnfnaaGreatDoorXvd
import Derived.Laws.Append
import Derived.Laws.CopyRow
import Derived.Laws.Cells
import Derived.Laws.Entries
import Derived.Laws.MakeOwn
namespace Go.Vt
open Go.RowKit
set_option linter.unusedVariables false
set_option linter.unusedSimpArgs false

def zeroVal : Ty → List Value
  | .int k => [.int k 0] | .bool => [.bool false] | .str => [.string ⟨#[]⟩] | .slice _ => [.slice none 0 0] | .pair a b => zeroVal a ++ zeroVal b | .set => [.map none] | .err => [.nilIface]

/-- The element type e of slices and arrays of kind t. -/
def ElemOk (P : Program) (e : Nat) (t : Ty) : Prop := ∃ i z, P.info? e = some i ∧ i.size = t.sz ∧ i.bytes ≤ 4096 ∧ i.zero = some z ∧ z.cells.toList = zeroVal t
def KindOk (P : Program) (d : TypeDesc) : Ty → Prop
  | .int k => d = .int k | .bool => d = .bool | .str => d = .string | .slice t => ∃ e, d = .slice e ∧ ElemOk P e t | .pair _ _ => False
  | .set => ∃ kt et i, d = .map kt et ∧ P.underlying kt = some .string ∧ P.info? et = some i ∧ i.zero = some (.bool false)
  | .err => ∃ ms, d = .interface ms
def ZeroOk (P : Program) (T : Nat) (cs : List Value) : Prop := ∃ i z, P.info? T = some i ∧ i.size = cs.length ∧ i.zero = some z ∧ z.cells.toList = cs
def kindZero : Ty → Value
  | .int k => .int k 0 | .bool => .bool false | .str => .string ⟨#[]⟩ | .slice _ => .slice none 0 0 | .pair _ _ => undef | .set => .map none | .err => .nilIface
def scalarB : Ty → Bool | .int _ => true | .bool => true | _ => false
def valEq : Value → Value → Bool | .int _ a, .int _ b => a == b | .bool a, .bool b => a == b | _, _ => false
def ScalarV (v : Value) : Ty → Prop | .int k => ∃ n, v = .int k n | .bool => ∃ b, v = .bool b | _ => False
def Scalars : List Value → List Ty → Prop
  | [], [] => True | v :: vs, t :: ts => ScalarV v t ∧ Scalars vs ts | _, _ => False
def valsEq : List Value → List Value → Bool
  | [], [] => true | a :: as, b :: bs => valEq a b && valsEq as bs | _, _ => false
def TyOk (P : Program) (T : Nat) : TI → Prop
  | .one t => ∃ d, P.underlying T = some d ∧ KindOk P d t ∧ ZeroOk P T [kindZero t]
  | .struct fs ks eq => ∃ fields, P.underlying T = some (.struct fields) ∧ ZeroOk P T (ks.map kindZero) ∧ (∀ k ∈ ks, ∀ a b, k ≠ .pair a b) ∧
      (∀ (f off u : Nat), (fs : List (Nat × Nat))[f]? = some (off, u) → ∃ fld : Field, fields[f]? = some fld ∧ fld.offset = off ∧ fld.type = u) ∧
      (∃ places, fields.toList.mapM (fun f => (P.info? f.type).map fun i => (f.offset, i.size)) = some places) ∧
      (eq = true → ∀ xs ys w op, Scalars xs ks → Scalars ys ks → op = BinOp.eql ∨ op = BinOp.neq →
        (eqGuard op T (.tmp 0) (.tmp 0) (.agg xs.toArray) (.agg ys.toArray)).run P w = .ok () w ∧ (Op.equal T (.agg xs.toArray) (.agg ys.toArray)).run P w = .ok (valsEq xs ys) w)
  | .flag => True
  | .bytes => 1000000 ≤ T ∧ ∃ e, P.underlying (T - 1000000) = some (.slice e) ∧ P.underlying e = some (.int .u8)
  | .arr n t => ∃ e, P.underlying T = some (.array n e) ∧ ElemOk P e t ∧ ∃ i z, P.info? T = some i ∧ i.size = n * t.sz ∧ i.zero = some z ∧ z.cells.toList = (List.replicate n (zeroVal t)).flatten

theorem zeroVal_len : ∀ t : Ty, (zeroVal t).length = t.sz
  | .int _ => rfl | .bool => rfl | .str => rfl | .slice _ => rfl | .set => rfl | .err => rfl
  | .pair a b => by show (zeroVal a ++ zeroVal b).length = a.sz + b.sz; rw [List.length_append, zeroVal_len a, zeroVal_len b]

section
variable {P : Program}

theorem add_none (b o n : Nat) : (⟨b, o, none⟩ : Addr).add n = ⟨b, o + n, none⟩ := by unfold Addr.add; split <;> simp_all

theorem run_info {T : Nat} {i : TypeInfo} (h : P.info? T = some i) (w : World) : (typeInfo T).run P w = .ok i w := by
  simp [typeInfo, program, Sem.run, h]
theorem run_size {T : Nat} {i : TypeInfo} (h : P.info? T = some i) (w : World) : (sizeOf T).run P w = .ok i.size w := by
  simp [sizeOf, run_info h]
theorem run_zero {T : Nat} {i : TypeInfo} {z : Value} (h : P.info? T = some i) (hz : i.zero = some z) (w : World) : (zeroValue T).run P w = .ok z w := by
  simp [zeroValue, run_info h, hz]

/-- What a table says of a type's size. -/
theorem size_ok {E : Env} (hE : ∀ T ti, E.ty T = some ti → TyOk P T ti) {T n : Nat} {agg : Bool} (h : aSize E T = some (n, agg)) :
    (∃ i, P.info? T = some i ∧ i.size = n) ∧ (∀ w, (isAgg T).run P w = .ok agg w) ∧ (agg = false → n = 1) := by
  unfold aSize at h
  cases hT : E.ty T with
  | none => simp [hT] at h
  | some ti =>
    have k := hE T ti hT
    cases ti with
    | one t =>
      simp only [hT, Option.some.injEq, Prod.mk.injEq] at h
      obtain ⟨rfl, rfl⟩ := h
      obtain ⟨d, hd, hk, i, z, hi, hs, _⟩ := k
      refine ⟨⟨i, hi, by simpa using hs⟩, fun w => ?_, fun _ => rfl⟩
      cases t <;> simp only [KindOk] at hk
      · subst hk; simp [isAgg, run_underlying hd]
      · subst hk; simp [isAgg, run_underlying hd]
      · subst hk; simp [isAgg, run_underlying hd]
      · obtain ⟨e, rfl, _⟩ := hk; simp [isAgg, run_underlying hd]
      · obtain ⟨kt, et, i0, rfl, _⟩ := hk; simp [isAgg, run_underlying hd]
      · obtain ⟨ms, rfl⟩ := hk; simp [isAgg, run_underlying hd]
    | struct fs ks eq =>
      simp only [hT, Option.some.injEq, Prod.mk.injEq] at h
      obtain ⟨rfl, rfl⟩ := h
      obtain ⟨fields, hd, ⟨i, z, hi, hs, _⟩, _⟩ := k
      exact ⟨⟨i, hi, by simpa using hs⟩, fun w => by simp [isAgg, run_underlying hd], fun e => by cases e⟩
    | bytes => simp only [hT] at h; cases h
    | flag => simp only [hT] at h; cases h
    | arr m t =>
      simp only [hT, Option.some.injEq, Prod.mk.injEq] at h
      obtain ⟨rfl, rfl⟩ := h
      obtain ⟨e, hd, _, i, z, hi, hs, _⟩ := k
      exact ⟨⟨i, hi, hs⟩, fun w => by simp [isAgg, run_underlying hd], fun e => by cases e⟩

theorem run_loadCells_at {w : World} {b o : Nat} {cs : List Value} (h : At w b o cs) : (loadCells ⟨b, o, none⟩ cs.length).run P w = .ok cs.toArray w :=
  run_loadCells_list w _ cs fun j v hj => by rw [add_none]; exact h j v hj

/-- The value of a variable, made of its cells. -/
def cellsVal (agg : Bool) (cs : List Value) : Value := bif agg then .agg cs.toArray else cs.headD undef

theorem run_load_at {w : World} {b o T : Nat} {cs : List Value} {agg : Bool} {i : TypeInfo} (h : At w b o cs) (hi : P.info? T = some i) (hs : i.size = cs.length)
    (ha : ∀ w, (isAgg T).run P w = .ok agg w) (h1 : agg = false → cs.length = 1) : (Instr.loadAt T (.pointer (some ⟨b, o, none⟩))).run P w = .ok (cellsVal agg cs) w := by
  cases agg with
  | true => simp [Instr.loadAt, Instr.sureAddr, loadVar, ha w, run_size hi, hs, run_loadCells_at h, cellsVal]
  | false =>
    obtain ⟨v, rfl⟩ : ∃ v, cs = [v] := by match cs, h1 rfl with | [v], _ => exact ⟨v, rfl⟩
    have hc : w.cell? ⟨b, o, none⟩ = some v := h 0 v rfl
    simp [Instr.loadAt, Instr.sureAddr, loadVar, ha w, load, Sem.run, hc, cellsVal]

theorem cells_agg (vs : List Value) : (Value.agg vs.toArray).cells = vs.toArray := rfl
theorem cells_one {v : Value} (h : v.oneCell' = true) : v.cells = #[v] := by cases v <;> first | rfl | cases h

/-- Writing a variable that lies in a row which isn't frozen. -/
theorem run_store_at {w : World} {b o T : Nat} {cs : Array Value} {E : TypeId} {v : Value} {i : TypeInfo} (hb : w.heap[b]? = some (.cells cs E (0, 0))) (hi : P.info? T = some i)
    (hs : v.cells.size = i.size) (h1 : ∀ u ∈ v.cells.toList, u.oneCell' = true) (hf : o + v.cells.size ≤ cs.size) :
    (Instr.storeAt T (.pointer (some ⟨b, o, none⟩)) v).run P w = .ok () (w.setRow b (cs.toList.take o ++ v.cells.toList ++ cs.toList.drop (o + v.cells.size)).toArray) := by
  have := run_storeCells_at P b o E v.cells.toList 0 cs w hb (by simpa using hf) h1
  simp only [Nat.add_zero, Array.length_toList] at this
  simp only [Instr.storeAt, Instr.sureAddr, storeVar, Sem.run_bind, Sem.run_pure, Result.andThen_ok, run_size hi, hs, ne_eq, not_true_eq_false, if_false]
  rw [hs] at this
  exact this
end

/-! ### values of one cell -/
theorem VR.one {w : World} {S : Nat → Prop} : ∀ {t : Ty} {x : t.den} {cs : List Value}, VR w S t x cs → ∀ u ∈ cs, u.oneCell' = true
  | .int _, _, _, h => by cases h; simp [Value.oneCell']
  | .bool, _, _, h => by cases h; simp [Value.oneCell']
  | .str, _, _, h => by cases h; simp [Value.oneCell']
  | .slice t, _, _, h => by obtain ⟨a, cap, rfl, _⟩ := h; simp [Value.oneCell']
  | .set, x, _, h => by
    obtain ⟨v, L, rfl, _, h2⟩ := h
    cases x with
    | none => obtain ⟨rfl, _⟩ := h2; simp [Value.oneCell']
    | some l => obtain ⟨b, rfl, _⟩ := h2; simp [Value.oneCell']
  | .err, x, _, h => by
    obtain ⟨v, rfl, h2⟩ := h
    cases v <;> simp [ErrV] at h2 <;> simp [Value.oneCell']
  | .pair a b, x, cs, h => by
    obtain ⟨c1, c2, rfl, h1, h2⟩ := h
    intro u hu
    rcases List.mem_append.1 hu with h | h
    · exact VR.one h1 u h
    · exact VR.one h2 u h
theorem OT.one {w : World} {t : Ty} {x : t.den} {cs : List Value} {L : List Nat} (h : OT w t x cs L) : ∀ u ∈ cs, u.oneCell' = true := (h.read (S := fun _ => True) (fun _ _ => trivial)).one

/-! ### operands, slots -/
section
variable {gw : Gw} {w0 : Base gw} {w : World} {S0 : Nat → Prop} {σ : St} {a : Act} {Im : Nat → Prop} {hd : Nat → Value} {bl : Nat → List Nat}

theorem cval_ok (v : Value) : AVR w Im hd v (cval v) := by
  unfold cval
  split
  · exact rfl
  · exact rfl
  · exact rfl
  · exact rfl
  · exact trivial

theorem SRi.ev (h : SRi w0 S0 σ a w Im hd bl) (x : Operand) : AVR w Im hd (a.eval x) (σ.ev x) := by
  cases x with
  | tmp t =>
    show AVR w Im hd (a.tmps.getD t undef) (slGet σ.sl t)
    rw [slGet_eq]
    cases hs : σ.sl[t]? with
    | none => exact trivial
    | some av => exact h.slots t av hs
  | const v => exact cval_ok v
  | global g => exact trivial
  | func f => exact ⟨[], rfl, trivial⟩

theorem SRi.put (h : SRi w0 S0 σ a w Im hd bl) (dst : Option Nat) {v : Value} {av : AV} (hv : AVR w Im hd v av) : SRi w0 S0 (σ.put dst av) (a.put dst v) w Im hd bl := by
  cases dst with
  | none => exact h
  | some d =>
    refine ⟨h.below, h.sub, h.new, h.lt, h.nodef, ?_, fun i u hi => ?_, h.objs, h.own, h.apart, h.io⟩
    · show (a.tmps.setIfInBounds d v).size = (slSet σ.sl d av).length
      rw [slSet_eq, List.length_set, Array.size_setIfInBounds]
      exact h.size
    · have hi' : (slSet σ.sl d av)[i]? = some u := hi
      show AVR w Im hd ((a.tmps.setIfInBounds d v).getD i undef) u
      rw [slSet_eq, List.getElem?_set] at hi'
      rw [Array.getD_eq_getD_getElem?, Array.getElem?_setIfInBounds]
      by_cases e : d = i
      · subst e
        simp only [if_true] at hi' ⊢
        split at hi'
        · rename_i hlt
          rw [if_pos (by rw [h.size]; exact hlt)]
          cases hi'
          exact hv
        · cases hi'
      · simp only [e, if_false] at hi' ⊢
        have := h.slots i u hi'
        rwa [Array.getD_eq_getD_getElem?] at this

theorem SRi.cut (h : SRi w0 S0 σ a w Im hd bl) (c : Bool) : SRi w0 S0 { σ with cut := c } a w Im hd bl := ⟨h.below, h.sub, h.new, h.lt, h.nodef, h.size, h.slots, h.objs, h.own, h.apart, h.io⟩

/-- Where nobody speaks of the number c, it may be given anew. -/
theorem Tell.fresh (c : Nat) (v : Value) : Tell w w Im Im hd (fun d => if d = c then v else hd d) (rnKill c) := by
  refine ⟨Same.refl _ _, fun _ x => x, fun d => ?_, fun d o u e => ?_, fun d n i o u e => ?_⟩
  · show CVR w Im _ (hd d) (bif Nat.beq d c then .dead else .own d)
    rw [beqN]
    by_cases q : d = c
    · simp [q]; exact trivial
    · simp only [q, decide_false, cond_false]; show hd d = if d = c then v else hd d; simp [q]
  · show AVR w Im _ u (bif Nat.beq d c then .cv .dead else .adr d o)
    rw [beqN]
    by_cases q : d = c
    · simp [q]; exact trivial
    · simp only [q, decide_false, cond_false]
      obtain ⟨b, e1, e2⟩ := e
      exact ⟨b, by simp only [q, if_false]; exact e1, e2⟩
  · show AVR w Im _ u (bif Nat.beq d c then .cv .dead else .el d n i o)
    rw [beqN]
    by_cases q : d = c
    · simp [q]; exact trivial
    · simp only [q, decide_false, cond_false]
      obtain ⟨b, f, e1, e2⟩ := e
      exact ⟨b, f, by simp only [q, if_false]; exact e1, e2⟩

theorem SRi.new_ (h : SRi w0 S0 σ a w Im hd bl) (c : Nat) (hc5 : c < 500000) {o : Ob} {v : Value} {L : List Nat}
    (hfree : ∀ d p, d ≠ c → obGet σ.ob d = some p → ∀ b ∈ bl d, b ∉ L) (hL : L.Nodup) (hn : ∀ b ∈ L, w0.mine b ∧ b < w.heap.size ∧ ¬ Im b)
    (ho : ObR w Im (fun d => if d = c then v else hd d) v L o) :
    SRi w0 S0 (σ.new c o) a w Im (fun d => if d = c then v else hd d) (fun d => if d = c then L else bl d) := by
  -- first: nobody speaks of c, and its value is v
  have T := Tell.fresh (w := w) (Im := Im) (hd := hd) c v
  have hob : ∀ d p, obGet (σ.kill c).ob d = some p → d ≠ c ∧ ∃ q, obGet σ.ob d = some q ∧ p = q.map (rnKill c) := by
    intro d p hp
    have hp' : obGet (obMap (rnKill c) (obDel σ.ob c)) d = some p := hp
    rw [obGet_map, obGet_del] at hp'
    by_cases e : d = c
    · simp [e] at hp'
    · simp only [e, if_false] at hp'
      obtain ⟨q, hq, rfl⟩ := Option.map_eq_some_iff.1 hp'
      exact ⟨e, q, hq, rfl⟩
  have g : ∀ d p, obGet ((c, o) :: (σ.kill c).ob) d = some p → (d = c ∧ p = o) ∨ (d ≠ c ∧ ∃ q, obGet σ.ob d = some q ∧ p = q.map (rnKill c)) := by
    intro d p hp
    rw [obGet_cons] at hp
    by_cases e : c = d
    · simp [e] at hp; exact .inl ⟨e.symm, hp.symm⟩
    · simp [e] at hp; exact .inr (hob d p hp)
  refine ⟨h.below, h.sub, h.new, h.lt, h.nodef, ?_, fun i av hi => ?_, fun d p hp => ?_, fun d p hp => ?_, fun d p e q hp hq hne => ?_, fun j v hj => by rw [if_neg (by omega)]; exact h.io j v hj⟩
  · show a.tmps.size = (σ.sl.map (AV.map (rnKill c))).length; rw [List.length_map]; exact h.size
  · have hi' : (σ.sl.map (AV.map (rnKill c)))[i]? = some av := hi
    rw [List.getElem?_map] at hi'
    obtain ⟨u, hu, rfl⟩ := Option.map_eq_some_iff.1 hi'
    exact (h.slots i u hu).tell T
  · rcases g d p hp with ⟨rfl, rfl⟩ | ⟨hne, q, hq, rfl⟩
    · simpa using ho
    · simp only [hne, if_false]; exact (h.objs d q hq).tell T fun _ _ => rfl
  · rcases g d p hp with ⟨rfl, rfl⟩ | ⟨hne, q, hq, rfl⟩
    · simp only [if_true]; exact ⟨hL, hn⟩
    · simp only [hne, if_false]; exact h.own d q hq
  · rcases g d p hp with ⟨rfl, rfl⟩ | ⟨hd1, p', hp1, rfl⟩ <;> rcases g e q hq with ⟨rfl, rfl⟩ | ⟨hd2, q', hq1, rfl⟩
    · exact (hne rfl).elim
    · simp only [if_true, hd2, if_false]; intro b hb hb2; exact hfree e q' hd2 hq1 b hb2 hb
    · simp only [if_true, hd1, if_false]; exact fun b hb hb2 => hfree d p' hd1 hp1 b hb hb2
    · simp only [hd1, hd2, if_false]; exact h.apart d p' e q' hp1 hq1 hne

end
end Go.Vt
