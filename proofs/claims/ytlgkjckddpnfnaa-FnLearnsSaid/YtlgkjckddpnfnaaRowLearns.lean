/-
  The law FnLearns holds of every input: the row of the statement, from what the law's function comes to.
  Conditions: those of the given statement alone.
-/
import Derived.Test.YtlgkjckddpnfnaaRows
import Derived.Test.YtlgkjckddpnfnaaPLearns
import Derived.WalkKit
import Derived.ProofKit
import Derived.OpenShut
import Derived.ShutString
import Derived.ChangeOld
import Derived.Below
import Derived.SizedLaws
namespace Go.Proofs.Ytlgkjckddpnfnaa.fnLearns
open Go.ChangeShapes Go.WideShapes Go.ChangeAt Go.RowKit Go.Vt
set_option linter.unusedVariables false
theorem own : ownKnob Try.prog.godebug = none := by kernel_rfl
theorem laidOut : laidOutB Try.prog = true := by kernel_rfl
set_option maxRecDepth 100000 in
theorem lifted (os : Os) (started : os.Started) (H : Type) (enc : TypeId × Value → H) :
    ReturnsInHanded {} Try.checked os 9 .any (Rows.fnLearnsSpec.pre6 enc Try.prog Try.f9 Rows.fnLearnsRow.domain false) (Rows.fnLearnsSpec.post enc Try.prog Try.f9 false true false false) := by
  refine returnsInHanded_of_change_sized (C := Try.checked) own started (by kernel_rfl) Try.func9
    (ChangeSpec.witness6 (enc := enc) (C := Try.checked) false ⟨#[], #[.slice none 0 0], []⟩ 8 (by kernel_rfl) (by kernel_rfl) (by kernel_rfl) (by kernel_rfl)) ?_
  intro W base args ds gs before hval0 hW hcnd hsz0 _
  have hval : ∀ (j : Nat) t v, Try.f9.params[j]? = some t → args[j]? = some v → Value.okWide Try.prog W .any base t v := hval0
  have hW' := hW
  obtain ⟨p, q, hA0, hV, rfl, hfz, hnd⟩ := hW
  have hA : DataW.TrodAll enc Try.prog W 0 (fun _ => true) true Try.f9.params.toList args.toList ds p := hA0
  rw [Try.params9] at hA hval
  obtain ⟨v0, vs0, d0, ds0, p0, q0, hargs0, rfl, rfl, h0, r0⟩ := trodAll_cons hA
  obtain ⟨rfl, rfl, rfl⟩ := trodAll_nil r0
  obtain rfl : args = #[v0] := by cases args; simp_all
  obtain ⟨rfl, rfl⟩ := trodVars_none hV
  have lt0 : ∀ x ∈ p0, x.block < W.heap.size := by obtain ⟨m, hm⟩ := h0; exact DataW.trod_lt m _ _ _ hm
  obtain ⟨y0, a0, f0⟩ := arg_open (u := .slice (.int .u8)) (d := 20) (agg := false) (by kernel_rfl) (by kernel_rfl) (hval 0 74 v0 rfl rfl) h0
  obtain ⟨k, hk⟩ := (Qq.FnLearns_ev y0 f0).get
  have hg : Gives Try.prog Pt.gw 9 Pt.w_FnLearns_fi y0 true := gives (P := Try.prog) (gw := Pt.gw) Try.checked.mixed Pt.hE Pt.hF (f := 9) (ids := []) (by kernel_rfl) hk
  have hd := hg.row W (fun _ _ => trivial) (vs := [v0]) a0
  refine (hd.calls Try.func9 (by kernel_rfl) (by kernel_rfl)).mono fun e W' he => ?_
  cases e with
  | panicked c => exact he.elim
  | outgrown => exact he.elim
  | returned v =>
    obtain ⟨bel, hres⟩ := he
    obtain rfl := res_bool hres
    exact ⟨_, rfl, _, _, _, [], _, [], hW', trodAll_mk1 (shut_bool Try.underlying4 _), (trodAll_cons_mk (Below.trod laidOut (by kernel_rfl) (of_decide_eq_true (by kernel_rfl)) h0 bel lt0) trodAll_mk0), rfl, bel.frame _, fun h => by cases h⟩
theorem over : Rows.fnLearnsRow.holds Try.pinned (OpenSpec.ofChange Rows.fnLearnsSpec) :=
  OpenClaim.holds_of_wide 9 Try.f9 rfl rfl rfl rfl rfl rfl rfl ⟨rfl, rfl, rfl, rfl, rfl⟩ rfl rfl rfl rfl rfl (by kernel_rfl) Try.func9 (by kernel_rfl)
    (of_decide_eq_true (by kernel_rfl)) (by unfold Func.isWrapper; first | (rw [if_pos (by decide +kernel)]; kernel_rfl) | (rw [if_neg (by decide +kernel)]; exact ⟨rfl, rfl⟩))
    (fun os started H enc _ => lifted os started H enc)
theorem proved : Rows.FnLearnsSaid := over
#print axioms proved
end Go.Proofs.Ytlgkjckddpnfnaa.fnLearns
