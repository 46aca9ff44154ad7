/-
  A region's operations in the text's order, each behind its guard.
  Conditions: the table of types is right (TyOk); the functions give what the plain machine says (Gives).
-/
import Derived.Test.YtlgkjckddpnfnaaGreatDoorXvq
import Derived.Tactics
namespace Go.Vt
open Go.RowKit
set_option linter.unusedVariables false
set_option linter.unusedSimpArgs false

section
variable {P : Program} {ρ : Type} {gw : Gw} {w0 : Base gw} {w : World} {S0 : Nat → Prop} {σ : St} {a : Act} {Im : Nat → Prop} {hd : Nat → Value} {bl : Nat → List Nat} {Q : Exit → Act → World → Prop}

/-- A slot is told anew. -/
theorem SRi.retell (h : SRi w0 S0 σ a w Im hd bl) {g : Nat} {av : AV} (hv : AVR w Im hd (a.tmps.getD g undef) av) : SRi w0 S0 (σ.put (some g) av) a w Im hd bl := by
  refine ⟨h.below, h.sub, h.new, h.lt, h.nodef, ?_, fun i u hi => ?_, h.objs, h.own, h.apart, h.io⟩
  · show a.tmps.size = (slSet σ.sl g av).length
    rw [slSet_eq, List.length_set]; exact h.size
  · have hi' : (slSet σ.sl g av)[i]? = some u := hi
    rw [slSet_eq, List.getElem?_set] at hi'
    by_cases e : g = i
    · subst e
      simp only [if_true] at hi'
      split at hi'
      · cases hi'; exact hv
      · cases hi'
    · simp only [e, if_false] at hi'
      exact h.slots i u hi'

theorem slot_bool (h : SRi w0 S0 σ a w Im hd bl) {g : Nat} {b : Bool} (hg : slGet σ.sl g = .cv (.val .bool b)) : a.tmps[g]? = some (.bool b) := by
  have hlt : g < a.tmps.size := by
    rw [h.size]
    rcases Nat.lt_or_ge g σ.sl.length with h1 | h1
    · exact h1
    · rw [slGet_eq, List.getElem?_eq_none h1] at hg; cases hg
  have hx := h.ev (.tmp g)
  have e : σ.ev (.tmp g) = .cv (.val .bool b) := hg
  rw [e] at hx
  have e2 : a.tmps.getD g undef = .bool b := bool_of (w := w) (Im := Im) (hd := hd) hx
  rw [Array.getD_eq_getD_getElem?, Array.getElem?_eq_getElem hlt] at e2
  rw [Array.getElem?_eq_getElem hlt]
  simpa using e2

theorem undef_tup : AVR w Im hd undef (.tup []) := ⟨[], rfl, trivial⟩
theorem slot_undef (h : SRi w0 S0 σ a w Im hd bl) {g : Nat} (hg : slGet σ.sl g = .tup []) : a.tmps[g]? = some undef := by
  have hlt : g < a.tmps.size := by
    rw [h.size]
    rcases Nat.lt_or_ge g σ.sl.length with h1 | h1
    · exact h1
    · rw [slGet_eq, List.getElem?_eq_none h1] at hg; cases hg
  have hx := h.ev (.tmp g)
  have e : σ.ev (.tmp g) = .tup [] := hg
  rw [e] at hx
  obtain ⟨vs, e2, hvs⟩ := hx
  have : vs = [] := by
    match vs, hvs with
    | [], _ => rfl
  subst this
  have e3 : a.tmps.getD g undef = undef := e2
  rw [Array.getD_eq_getD_getElem?, Array.getElem?_eq_getElem hlt] at e3
  rw [Array.getElem?_eq_getElem hlt]
  simpa using e3

/-- One operation behind its guard. -/
theorem guard_ok {E : Env} (hE : ∀ T ti, E.ty T = some ti → TyOk P T ti) {ck : (fi : Fi) → Aden fi.ps → Option (Oden (flatRs fi.rs) (ioOf fi.ps))} (hG : ∀ f ids fi, E.fn f ids = some fi → ∀ x y, ck fi x = some y → Gives P gw f fi x y)
    (h : SRi w0 S0 σ a w Im hd bl) {ops : Array Oper} {o : Oper} {l : List Oper} {next : St → Option ρ} {r : ρ} (hn : aOps E ck ops.toList (o :: l) σ next = some r) :
    if Region.wanted o (yielded ops a.tmps) then o.wp P a w (Goes w0 S0 (fun τ => aOps E ck ops.toList l τ next) r) Q else Goes w0 S0 (fun τ => aOps E ck ops.toList l τ next) r (a.put o.dst undef) w := by
  unfold aOps at hn
  split at hn
  · rename_i hg
    have hw : Region.wanted o (yielded ops a.tmps) = true := by simp [Region.wanted, hg]
    rw [if_pos hw]
    exact aOp_ok hE hG h hn
  · rename_i j want hg
    split at hn
    · rename_i g hj
      split at hn
      · rename_i b hb
        have ht := slot_bool h hb
        have hj' : (ops[j]?).bind (·.dst) = some g := by rw [← Array.getElem?_toList]; exact hj
        have hy : yielded ops a.tmps j = some b := by simp [yielded, hj', ht]
        have hput : ∀ b', b' = b → SRi w0 S0 (σ.put (some g) (.cv (.val .bool b'))) a w Im hd bl := fun b' e => by
          subst e
          refine h.retell ?_
          rw [Array.getD_eq_getD_getElem?, ht]
          exact bvr
        have hwant : Region.wanted o (yielded ops a.tmps) = (b == want) := by simp [Region.wanted, hg, hy]
        rw [hwant]
        cases b <;> cases want
        · exact aOp_ok hE hG (hput false rfl) hn
        · exact ⟨_, hn, Im, hd, bl, (hput false rfl).put o.dst (av := .tup []) undef_tup⟩
        · exact ⟨_, hn, Im, hd, bl, (hput true rfl).put o.dst (av := .tup []) undef_tup⟩
        · exact aOp_ok hE hG (hput true rfl) hn
      · rename_i hb
        have hj' : (ops[j]?).bind (·.dst) = some g := by rw [← Array.getElem?_toList]; exact hj
        have hy : yielded ops a.tmps j = none := by simp [yielded, hj', slot_undef h hb, undef]
        have hwant : Region.wanted o (yielded ops a.tmps) = false := by simp [Region.wanted, hg, hy]
        rw [hwant]
        exact ⟨_, hn, Im, hd, bl, h.put o.dst (av := .tup []) undef_tup⟩
      · cases hn
    · cases hn

theorem aOps_ok {E : Env} (hE : ∀ T ti, E.ty T = some ti → TyOk P T ti) {ck : (fi : Fi) → Aden fi.ps → Option (Oden (flatRs fi.rs) (ioOf fi.ps))} (hG : ∀ f ids fi, E.fn f ids = some fi → ∀ x y, ck fi x = some y → Gives P gw f fi x y)
    {ops : Array Oper} {next : St → Option ρ} {r : ρ} (hQ : ∀ a w, Goes w0 S0 next r a w → Q .normal a w) : ∀ {l : List Oper} {σ : St} {a : Act} {w : World}, SR w0 S0 σ a w → aOps E ck ops.toList l σ next = some r → wpList P ops Q l a w
  | [], σ, a, w, h, hn => hQ a w ⟨σ, hn, h⟩
  | o :: l, σ, a, w, ⟨Im, hd, bl, h⟩, hn => by
    have hg := guard_ok (Q := Q) hE hG h hn
    unfold wpList
    split at hg
    · rename_i hw
      rw [if_pos hw]
      exact .inl (Oper.wp_mono (fun a' w' ⟨τ, ht, hs⟩ => aOps_ok hE hG hQ hs ht) hg)
    · rename_i hw
      rw [if_neg hw]
      obtain ⟨τ, ht, hs⟩ := hg
      exact aOps_ok hE hG hQ hs ht

end
end Go.Vt
