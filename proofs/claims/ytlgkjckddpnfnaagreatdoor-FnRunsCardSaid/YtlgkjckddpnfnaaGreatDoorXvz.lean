/-
  What is asked of the tables, from closed facts.
  Conditions: closed facts on the program's tables.
-/
import Derived.Test.YtlgkjckddpnfnaaGreatDoorXvy
namespace Go.Vt
open Go.RowKit
set_option linter.unusedVariables false
set_option linter.unusedSimpArgs false

section
variable {P : Program} {gw : Gw}
theorem elemOk_of {e : Nat} {t : Ty} (h1 : (P.info? e).map (·.size) = some t.sz) (h2 : (P.info? e).map (fun i => Nat.ble i.bytes 4096) = some true) (h3 : ((P.info? e).bind (·.zero)).map (fun z => z.cells.toList) = some (zeroVal t)) : ElemOk P e t := by
  cases hi : P.info? e with
  | none => rw [hi] at h1; cases h1
  | some i =>
    rw [hi] at h1 h2 h3
    cases hz : i.zero with
    | none => simp [hz] at h3
    | some z =>
      simp [hz] at h3
      exact ⟨i, z, hi, by simpa using h1, by simpa using h2, hz, h3⟩
theorem zeroOk_of {T : Nat} {cs : List Value} (h1 : (P.info? T).map (·.size) = some cs.length) (h3 : ((P.info? T).bind (·.zero)).map (fun z => z.cells.toList) = some cs) : ZeroOk P T cs := by
  cases hi : P.info? T with
  | none => rw [hi] at h1; cases h1
  | some i =>
    rw [hi] at h1 h3
    cases hz : i.zero with
    | none => simp [hz] at h3
    | some z =>
      simp [hz] at h3
      exact ⟨i, z, hi, by simpa using h1, hz, h3⟩
theorem tyOk_int {T : Nat} {k : IntKind} (hu : P.underlying T = some (.int k)) (h1 : (P.info? T).map (·.size) = some 1) (h3 : ((P.info? T).bind (·.zero)).map (fun z => z.cells.toList) = some [.int k 0]) : TyOk P T (.one (.int k)) :=
  ⟨_, hu, rfl, zeroOk_of h1 h3⟩
theorem tyOk_bool {T : Nat} (hu : P.underlying T = some .bool) (h1 : (P.info? T).map (·.size) = some 1) (h3 : ((P.info? T).bind (·.zero)).map (fun z => z.cells.toList) = some [.bool false]) : TyOk P T (.one .bool) :=
  ⟨_, hu, rfl, zeroOk_of h1 h3⟩
theorem tyOk_str {T : Nat} (hu : P.underlying T = some .string) (h1 : (P.info? T).map (·.size) = some 1) (h3 : ((P.info? T).bind (·.zero)).map (fun z => z.cells.toList) = some [.string ⟨#[]⟩]) : TyOk P T (.one .str) :=
  ⟨_, hu, rfl, zeroOk_of h1 h3⟩
theorem tyOk_slice {T e : Nat} {t : Ty} (hu : P.underlying T = some (.slice e)) (h1 : (P.info? T).map (·.size) = some 1) (h3 : ((P.info? T).bind (·.zero)).map (fun z => z.cells.toList) = some [.slice none 0 0]) (he : ElemOk P e t) : TyOk P T (.one (.slice t)) :=
  ⟨_, hu, ⟨e, rfl, he⟩, zeroOk_of h1 h3⟩
theorem tyOk_bytes {T e : Nat} (hu : P.underlying T = some (.slice e)) (he : P.underlying e = some (.int .u8)) : TyOk P (T + 1000000) .bytes :=
  ⟨Nat.le_add_left _ _, e, by rw [Nat.add_sub_cancel]; exact hu, he⟩
theorem tyOk_err {T : Nat} {d : TypeDesc} (hu : P.underlying T = some d) (hd : (match d with | .interface _ => true | _ => false) = true) (h1 : (P.info? T).map (·.size) = some 1) (h3 : ((P.info? T).bind (·.zero)).map (fun z => z.cells.toList) = some [.nilIface]) : TyOk P T (.one .err) := by
  refine ⟨d, hu, ?_, zeroOk_of h1 h3⟩
  cases d with
  | interface ms => exact ⟨ms, rfl⟩
  | _ => cases hd
theorem tyOk_set {T kt et : Nat} (hu : P.underlying T = some (.map kt et)) (hk : P.underlying kt = some .string) (h3 : ((P.info? et).bind (·.zero)).map (fun z => match z with | .bool false => true | _ => false) = some true) (h1 : (P.info? T).map (·.size) = some 1) (h4 : ((P.info? T).bind (·.zero)).map (fun z => z.cells.toList) = some [.map none]) : TyOk P T (.one .set) := by
  refine ⟨_, hu, ?_, zeroOk_of h1 h4⟩
  cases hi : P.info? et with
  | none => rw [hi] at h3; cases h3
  | some i =>
    rw [hi] at h3
    cases hz : i.zero with
    | none => simp [hz] at h3
    | some z =>
      simp [hz] at h3
      refine ⟨kt, et, i, rfl, hk, hi, ?_⟩
      split at h3
      · exact hz
      · cases h3
theorem tyOk_arr {T e n : Nat} {t : Ty} (hu : P.underlying T = some (.array n e)) (he : ElemOk P e t) (h1 : (P.info? T).map (·.size) = some (n * t.sz)) (h3 : ((P.info? T).bind (·.zero)).map (fun z => z.cells.toList) = some (List.replicate n (zeroVal t)).flatten) : TyOk P T (.arr n t) := by
  refine ⟨e, hu, he, ?_⟩
  cases hi : P.info? T with
  | none => rw [hi] at h1; cases h1
  | some i =>
    rw [hi] at h1 h3
    cases hz : i.zero with
    | none => simp [hz] at h3
    | some z =>
      simp [hz] at h3
      exact ⟨i, z, rfl, by simpa using h1, hz, h3⟩
def noPair : Ty → Bool | .pair _ _ => false | _ => true
theorem tyOk_struct {T : Nat} {fs : List (Nat × Nat)} {ks : List Ty} {eq : Bool} {fields : Array Field} (hu : P.underlying T = some (.struct fields)) (h1 : (P.info? T).map (·.size) = some ks.length) (h3 : ((P.info? T).bind (·.zero)).map (fun z => z.cells.toList) = some (ks.map kindZero))
    (hk : ks.all noPair = true) (hf : fields.toList.map (fun f => (f.offset, f.type)) = fs) (hp : (fields.toList.mapM (fun f => (P.info? f.type).map fun i => (f.offset, i.size))).isSome = true)
    (heq : eq = true → ∀ xs ys w op, Scalars xs ks → Scalars ys ks → op = BinOp.eql ∨ op = BinOp.neq →
        (eqGuard op T (.tmp 0) (.tmp 0) (.agg xs.toArray) (.agg ys.toArray)).run P w = .ok () w ∧ (Op.equal T (.agg xs.toArray) (.agg ys.toArray)).run P w = .ok (valsEq xs ys) w) : TyOk P T (.struct fs ks eq) := by
  refine ⟨fields, hu, zeroOk_of (by rw [List.length_map]; exact h1) h3, fun k hkm a b e => ?_, fun f off u hfu => ?_, Option.isSome_iff_exists.1 hp, heq⟩
  · have := List.all_eq_true.1 hk k hkm
    rw [e] at this; cases this
  · rw [← hf, List.getElem?_map] at hfu
    obtain ⟨fld, h1, h2⟩ := Option.map_eq_some_iff.1 hfu
    simp only [Prod.mk.injEq] at h2
    exact ⟨fld, by simpa using h1, h2.1, h2.2⟩

theorem fnOk_of {f : Nat} {fi : Fi} {fn : Func} {c : Code} (hf : P.funcs[f]? = some fn) (hn : (fn.name == "runtime.NumGoroutine") = false) (hb : fn.body = some c) (hc : fi.code = c) (hr : fi.res = fn.results.toList) (ht : fi.nt = fn.ntmps) (hp : Nat.ble fi.ps.length fi.nt = true) (he : fi.ext = none) :
    (∀ g, fi.ext = some g → ∀ k x y, g k x = some y → Gives P gw f fi x y) ∧ (fi.ext = none → ∃ fn, P.funcs[f]? = some fn ∧ (fn.name == "runtime.NumGoroutine") = false ∧ fn.body = some fi.code ∧ fn.results.toList = fi.res ∧ fn.ntmps = fi.nt ∧ fi.ps.length ≤ fi.nt) :=
  ⟨(fun g hg => by rw [he] at hg; cases hg), fun _ => ⟨fn, hf, hn, by rw [hb, hc], hr.symm, ht.symm, Nat.le_of_ble_eq_true hp⟩⟩

/-! ### tables as lists -/
def sameIds : List Nat → List Nat → Bool
  | [], [] => true | a :: as, b :: bs => Nat.beq a b && sameIds as bs | _, _ => false
theorem sameIds_eq : ∀ {a b : List Nat}, sameIds a b = true → a = b
  | [], [], _ => rfl
  | a :: as, b :: bs, h => by
    have h' : Nat.beq a b = true ∧ sameIds as bs = true := by simpa [sameIds] using h
    rw [Nat.eq_of_beq_eq_true h'.1, sameIds_eq h'.2]
  | [], _ :: _, h => by cases h
  | _ :: _, [], h => by cases h
def lookT : List (Nat × TI) → Nat → Option TI
  | [], _ => none | (t, i) :: r, u => bif Nat.beq t u then some i else lookT r u
def lookF : List (Nat × List Nat × Fi) → Nat → List Nat → Option Fi
  | [], _, _ => none | (f, js, fi) :: r, g, ids => bif Nat.beq f g && sameIds js ids then some fi else lookF r g ids
def AllT (P : Program) : List (Nat × TI) → Prop
  | [] => True | (t, i) :: r => TyOk P t i ∧ AllT P r
def OneF (P : Program) (gw : Gw) (f : Nat) (fi : Fi) : Prop := (∀ g, fi.ext = some g → ∀ k x y, g k x = some y → Gives P gw f fi x y) ∧
  (fi.ext = none → ∃ fn, P.funcs[f]? = some fn ∧ (fn.name == "runtime.NumGoroutine") = false ∧ fn.body = some fi.code ∧ fn.results.toList = fi.res ∧ fn.ntmps = fi.nt ∧ fi.ps.length ≤ fi.nt)
def AllF (P : Program) (gw : Gw) : List (Nat × List Nat × Fi) → Prop
  | [] => True | (f, _, fi) :: r => OneF P gw f fi ∧ AllF P gw r
theorem lookT_ok : ∀ {l : List (Nat × TI)}, AllT P l → ∀ T ti, lookT l T = some ti → TyOk P T ti
  | [], _, T, ti, h => by cases h
  | (t, i) :: r, ha, T, ti, h => by
    unfold lookT at h
    cases hb : Nat.beq t T with
    | true => rw [hb] at h; cases h; rw [← Nat.eq_of_beq_eq_true hb]; exact ha.1
    | false => rw [hb] at h; exact lookT_ok ha.2 T ti h
theorem lookF_ok : ∀ {l : List (Nat × List Nat × Fi)}, AllF P gw l → ∀ f ids fi, lookF l f ids = some fi → OneF P gw f fi
  | [], _, f, ids, fi, h => by cases h
  | (g, js, gi) :: r, ha, f, ids, fi, h => by
    unfold lookF at h
    cases hb : Nat.beq g f && sameIds js ids with
    | true =>
      rw [hb] at h; cases h
      rw [Bool.and_eq_true] at hb
      rw [← Nat.eq_of_beq_eq_true hb.1]; exact ha.1
    | false => rw [hb] at h; exact lookF_ok ha.2 f ids fi h

end
end Go.Vt
