/-
  A row's arguments, told to the plain machine; a contract as a call.
  Conditions: closed facts on the program's tables.
-/
import Derived.Test.YtlgkjckddpnfnaaGreatDoorXvzc
import Derived.RowKit
namespace Go.Vt
open Go.RowKit
set_option linter.unusedVariables false
set_option linter.unusedSimpArgs false
def isStructB (P : Program) (t : TypeId) : Bool := match P.underlying t with | some (.struct _) => true | _ => false

section
variable {P : Program} {w : World} {H : Type} {enc : TypeId × Value → H} {base base' : Nat} {spare : Nat → Bool} {held : Bool}
theorem Does.calls {f : FuncId} {fn : Func} {vs : Array Value} {R : Value → World → Prop} (h : Does P f vs w R) (hf : P.funcs[f]? = some fn) (hn : (fn.name == "runtime.NumGoroutine") = false) (hb : fn.body.isSome = true) :
    Calls P f vs w fun e w' => match e with | .returned v => R v w' | _ => False := by
  have hcall : (callFunc f vs).run P w = .ok (.enter f vs) w := by
    simp only [callFunc, Sem.run_bind, program]
    have hname' : ¬ (fn.name == "runtime.NumGoroutine") = true := by rw [hn]; simp
    have hb' : ¬ fn.body.isNone = true := by cases hfb : fn.body with
      | none => rw [hfb] at hb; cases hb
      | some c => simp
    simp only [Sem.run, hf, Result.andThen_ok]
    rw [if_neg hname', if_neg hb']
    simp [Sem.run, pure]
  unfold Does at h
  rw [hcall] at h
  exact h

/-- An argument of a row, told to the plain machine. -/
theorem arg_open {d : Nat} {t : TypeId} {u : Ty} {agg : Bool} (hk : kindOf P d t = some u) (ha : isStructB P t = agg) {v : Value} (hw : Value.okWide P w .any base' t v) {dd : DataW H} {ps : List MemPlace} (h : DataW.Trod enc P w base spare held t v dd ps) :
    ∃ y : u.den, ArgR w (fun b => b < w.heap.size) v (.v u agg) y ∧ Fits u y := by
  obtain ⟨m, hm⟩ := h
  obtain ⟨y, hy, hf⟩ := open_VR d t u m _ _ hk hm
  have one : agg = false → v.cells.toList = [v] := by
    intro e
    subst e
    cases d with
    | zero => cases hk
    | succ d =>
      unfold kindOf at hk
      split at hk
      · rename_i k hu
        simp only [Value.okWide, hu, Cell.okWide] at hw
        cases v <;> simp_all [Cell.ok, Value.cells]
      · rename_i hu
        simp only [Value.okWide, hu, Cell.okWide] at hw
        cases v <;> simp_all [Cell.ok, Value.cells]
      · rename_i hu
        simp only [Value.okWide, hu, Cell.okWide] at hw
        cases v <;> simp_all [Cell.ok, Value.cells]
      · rename_i e hu
        simp only [Value.okWide, hu, Cell.okWide] at hw
        cases v <;> simp_all [Cell.ok, Value.cells]
      · rename_i fs hu
        simp [isStructB, hu] at ha
      · cases hk
  refine ⟨y, ⟨v.cells.toList, ?_, fun e => by rw [one e]; rfl, hy⟩, hf⟩
  cases agg with
  | false => rw [one rfl]; rfl
  | true =>
    unfold isStructB at ha
    split at ha
    · rename_i fs hu
      simp only [Value.okWide, hu] at hw
      obtain ⟨cs, rfl, _⟩ := hw
      simp [cellsVal, Value.cells]
    · cases ha

theorem Does.mono {f : FuncId} {vs : Array Value} {R R' : Value → World → Prop} (h : Does P f vs w R) (hk : ∀ v w', R v w' → R' v w') : Does P f vs w R' := by
  unfold Does at h ⊢
  split at h
  · exact hk _ _ h
  · refine h.mono fun e w'' hh => ?_
    cases e with
    | returned v => exact hk _ _ hh
    | panicked c => exact hh
    | outgrown => exact hh
  · exact h.mono fun v w'' hh => hk _ _ hh
  · exact h.elim
/-- A contract, in a row: nothing is handed in to be written. -/
theorem Gives.row {gw : Gw} {f : FuncId} {fi : Fi} {x : Aden fi.ps} {y : Oden (flatRs fi.rs) (ioOf fi.ps)} (hg : Gives P gw f fi x y) (W : World) (hG : ∀ w', Below W.heap.size W w' → gw.p w') {vs : List Value} (ha : ArgsR W (fun b => b < W.heap.size) vs fi.ps x) (hng : fi.gift = false := by rfl) :
    Does P f vs.toArray W fun v w' => Below W.heap.size W w' ∧ ∃ (S' : Nat → Prop) (us : List Value) (L : List Nat), v = oneVal (partVals fi.rs us) ∧ RCs w' S' us L (flatRs fi.rs) (Oden.res _ _ y) := by
  have hb : ∀ w', KeptW gw.dr W (fun b => W.heap.size ≤ b) w' → Below W.heap.size W w' := fun w' h => ⟨h.os, h.tape, h.output, h.size, fun k hk => h.block k hk (fun hc => Nat.lt_irrefl _ (Nat.lt_of_lt_of_le hk hc))⟩
  have h := (hg.o hng) (⟨W, fun b => W.heap.size ≤ b, fun _ h => h, fun w' h => hG w' (hb w' h), []⟩ : Base gw) (fun b => b < W.heap.size) vs [] [] (fun _ h => h) List.nodup_nil (fun b hb => by cases hb) rfl ha.o
  exact h.mono fun v w' hh => ⟨hb _ hh.1, by obtain ⟨S', us, L, M, e, _, _, _, _, h5, _⟩ := hh.2; exact ⟨S', us, L, e, h5⟩⟩

/-- A law's answer. -/
theorem res_bool {w' : World} {b : Bool} {v : Value} (h : ∃ (S' : Nat → Prop) (us : List Value) (L : List Nat), v = oneVal (partVals [(false, [⟨.bool, none⟩])] us) ∧ RCs w' S' us L [⟨.bool, none⟩] b) : v = .bool b := by
  obtain ⟨S', vs, L, rfl, h⟩ := h
  match vs, h with
  | [u], h =>
    have h' : VR w' S' .bool b [u] := h.1
    have e : u = .bool b := by simpa [VR] using h'
    subst e
    rfl
  | [], h => cases h
  | _ :: _ :: _, h => cases h

end
end Go.Vt
