/-
  The law FnConfirms holds of every input: the row of the statement, from what the law's function comes to.
  Conditions: those of the given statement alone.
-/
import Derived.Test.YtcpfklamgkilnaaGreatDoorRows
import Derived.Test.YtcpfklamgkilnaaGreatDoorQlConfirms
import Derived.WalkKit
import Derived.ProofKit
import Derived.OpenShut
import Derived.ShutString
import Derived.ChangeOld
import Derived.Below
import Derived.SizedLaws
import Derived.JoinedOf
import Derived.LaidLaws
import Derived.LaidSub
import Derived.Lay
import Derived.Lib.LaidTab
import Derived.Test.YtcpfklamgkilnaaGreatDoorCards
import Derived.Test.YtcpfklamgkilnaaGreatDoorTie
import Derived.SevenTiedAt
import Derived.Stop.LaidErr
namespace Go.Proofs.YtcpfklamgkilnaaGreatDoor.fnConfirms
open Go.ChangeShapes Go.WideShapes Go.ChangeAt Go.RowKit Go.Vt
set_option linter.unusedVariables false
theorem own : ownKnob Tryz.prog.godebug = none := by kernel_rfl
theorem laidOut : laidOutB Tryz.prog = true := by kernel_rfl
noncomputable def b8 (os : Os) : World := World.laidAll Tryz.prog os Rows.fnConfirmsRow.laid
set_option maxRecDepth 100000 in
theorem cq (os : Os) (args : Array Value) : laidMetH Tryz.prog Rows.fnConfirmsRow.laid ((b8 os).forCall (fun _ _ => 0) ⟨#[], args, []⟩).memory :=
 show laidMet Tryz.prog Rows.fnConfirmsRow.laid _ from laidMet_laidAll args (by kernel_rfl) (by kernel_rfl)
theorem eZ {W : World} (h : laidMetH Tryz.prog Rows.fnConfirmsRow.laid W) : Lib.TabIs Tryz.prog W "internal/strconv.uint64pow10" .u64 Lib.pow10Tab := by
 have h1 : laidMet Tryz.prog Rows.fnConfirmsRow.laid W := h
 have h2 := h1.filter (fun x => x.1 == "internal/strconv.uint64pow10")
 have e : (Rows.fnConfirmsRow.laid : List (String × DataW Unit)).filter (fun x => x.1 == "internal/strconv.uint64pow10") = [("internal/strconv.uint64pow10", Lib.tabData .u64 Lib.pow10Tab)] := by kernel_rfl
 rw [e] at h2
 exact Lib.tabIs_of_head (rest := []) (g := 0) (t := 145) (e := 108) (n := 20) (by kernel_rfl) (by kernel_rfl) (by kernel_rfl) (by kernel_rfl) (by kernel_rfl) (by kernel_rfl) h2
theorem Yy {W W' : World} (h : Lib.TabIs Tryz.prog W "internal/strconv.uint64pow10" .u64 Lib.pow10Tab) (hb : Below W.heap.size W W') : Lib.TabIs Tryz.prog W' "internal/strconv.uint64pow10" .u64 Lib.pow10Tab := by
 have hg : Tryz.prog.globalNamed "internal/strconv.uint64pow10" = some 0 := by kernel_rfl
 unfold Lib.TabIs World.var? at h ⊢
 rw [hg] at h ⊢
 have hlt : 0 < W.heap.size := by
  rcases Nat.lt_or_ge 0 W.heap.size with h1 | h1
  ·exact h1
  ·simp [Array.getElem?_eq_none h1] at h
 have e := hb.block 0 hlt
 simpa [e] using h
theorem star : "*" ++ "errors.errorString" = "*errors.errorString" := by decide
theorem rowErr (u : TypeId) (h : Tryz.prog.typeName? 3 u = some "*errors.errorString") : u = 191 :=
 typeName_ptr_named (nm := "errors.errorString") (by rw [star]; kernel_rfl) (by kernel_rfl) (by decide) u (by rw [star]; exact h)
theorem uH {W : World} (h : laidMetH Tryz.prog Rows.fnConfirmsRow.laid W) : ∃ tp p, W.var? Tryz.prog "strconv.ErrSyntax" = some #[.iface tp p] := by
 have h1 : laidMet Tryz.prog Rows.fnConfirmsRow.laid W := h
 have h2 := h1.filter (fun x => x.1 == "strconv.ErrSyntax")
 have e : (Rows.fnConfirmsRow.laid : List (String × DataW Unit)).filter (fun x => x.1 == "strconv.ErrSyntax") = [("strconv.ErrSyntax", Rows.laid_strconv_ErrSyntax)] := by kernel_rfl
 rw [e] at h2
 obtain ⟨a, s, hv, _, _, _⟩ := laid_sentinel h2 (g := 2) (ti := 80) (by kernel_rfl) (by kernel_rfl) Tryz.underlying80 rowErr Tryz.underlying191 Tryz.underlying193 rfl rfl Tryz.underlying9 (by kernel_rfl) (by kernel_rfl)
 exact ⟨_, _, hv⟩
theorem gS {W W' : World} (h : ∃ tp p, W.var? Tryz.prog "strconv.ErrSyntax" = some #[.iface tp p]) (hb : Below W.heap.size W W') : ∃ tp p, W'.var? Tryz.prog "strconv.ErrSyntax" = some #[.iface tp p] := by
 have hg : Tryz.prog.globalNamed "strconv.ErrSyntax" = some 2 := by kernel_rfl
 obtain ⟨tp, p, h⟩ := h
 refine ⟨tp, p, ?_⟩
 unfold World.var? at h ⊢
 rw [hg] at h ⊢
 have hlt : 2 < W.heap.size := by
  rcases Nat.lt_or_ge 2 W.heap.size with h1 | h1
  ·exact h1
  ·simp [Array.getElem?_eq_none h1] at h
 have e := hb.block 2 hlt
 simpa [e] using h
theorem jz {W : World} (h : laidMetH Tryz.prog Rows.fnConfirmsRow.laid W) : ∃ tp p, W.var? Tryz.prog "strconv.ErrRange" = some #[.iface tp p] := by
 have h1 : laidMet Tryz.prog Rows.fnConfirmsRow.laid W := h
 have h2 := h1.filter (fun x => x.1 == "strconv.ErrRange")
 have e : (Rows.fnConfirmsRow.laid : List (String × DataW Unit)).filter (fun x => x.1 == "strconv.ErrRange") = [("strconv.ErrRange", Rows.laid_strconv_ErrRange)] := by kernel_rfl
 rw [e] at h2
 obtain ⟨a, s, hv, _, _, _⟩ := laid_sentinel h2 (g := 3) (ti := 80) (by kernel_rfl) (by kernel_rfl) Tryz.underlying80 rowErr Tryz.underlying191 Tryz.underlying193 rfl rfl Tryz.underlying9 (by kernel_rfl) (by kernel_rfl)
 exact ⟨_, _, hv⟩
theorem fM {W W' : World} (h : ∃ tp p, W.var? Tryz.prog "strconv.ErrRange" = some #[.iface tp p]) (hb : Below W.heap.size W W') : ∃ tp p, W'.var? Tryz.prog "strconv.ErrRange" = some #[.iface tp p] := by
 have hg : Tryz.prog.globalNamed "strconv.ErrRange" = some 3 := by kernel_rfl
 obtain ⟨tp, p, h⟩ := h
 refine ⟨tp, p, ?_⟩
 unfold World.var? at h ⊢
 rw [hg] at h ⊢
 have hlt : 3 < W.heap.size := by
  rcases Nat.lt_or_ge 3 W.heap.size with h1 | h1
  ·exact h1
  ·simp [Array.getElem?_eq_none h1] at h
 have e := hb.block 3 hlt
 simpa [e] using h
set_option maxRecDepth 100000 in
theorem lifted (os : Os) (started : os.Started) (H : Type) (enc : TypeId × Value → H) :
 ReturnsInHanded {} Tryz.checked os 3 .any (fun w args => (Rows.fnConfirmsSpec.pre enc Tryz.prog Tryz.f3 Rows.fnConfirmsRow.domain false w args ∧ laidMetH Tryz.prog Rows.fnConfirmsRow.laid w) ∧ sizedMet enc Tryz.prog Tryz.f3 (OpenSpec.ofChange Rows.fnConfirmsSpec) false w args) (Rows.fnConfirmsSpec.post enc Tryz.prog Tryz.f3 false true false false) := by
 refine returnsInHanded_of_change_and (C := Tryz.checked) (X := fun w _ => laidMetH Tryz.prog Rows.fnConfirmsRow.laid w) (fun _ _ _ hh h => h.of_heap hh) own started (by kernel_rfl) Tryz.func3
  (ChangeSpec.witness_at (enc := enc) (C := Tryz.checked) (os := os) (X := fun w _ => laidMetH Tryz.prog Rows.fnConfirmsRow.laid w) false (b8 os) #[.slice none 0 0] 8 (World.laidAll_os _ _ _) (by kernel_rfl) (by kernel_rfl) (by kernel_rfl) (by kernel_rfl) (by kernel_rfl) (cq os _)) ?_
 intro W base args ds gs before hval0 hW hcnd hsz0 hL _
 have hval : ∀ (j : Nat) t v, Tryz.f3.params[j]? = some t → args[j]? = some v → Value.okWide Tryz.prog W .any base t v := hval0
 have hW' := hW
 obtain ⟨p, q, hA0, hV, rfl, hfz, hnd⟩ := hW
 have hA : DataW.TrodAll enc Tryz.prog W 0 (fun _ => true) true Tryz.f3.params.toList args.toList ds p := hA0
 rw [Tryz.params3] at hA hval
 obtain ⟨v0, vs0, d0, ds0, p0, q0, hargs0, rfl, rfl, h0, r0⟩ := trodAll_cons hA
 obtain ⟨rfl, rfl, rfl⟩ := trodAll_nil r0
 obtain rfl : args = #[v0] := by cases args; simp_all
 obtain ⟨rfl, rfl⟩ := trodVars_none hV
 have lt0 : ∀ x ∈ p0, x.block < W.heap.size := by obtain ⟨m, hm⟩ := h0; exact DataW.trod_lt m _ _ _ hm
 obtain ⟨y0, a0, f0⟩ := Kn (u := .slice (.int .u8)) (d := 20) (agg := false) (by kernel_rfl) (by kernel_rfl) (hval 0 22 v0 rfl rfl) h0
 obtain ⟨k, hk⟩ := (Qq.Pp y0 f0).get
 have hg : Gives Tryz.prog Pt.gw 3 Pt.jZ y0 true := gives (P := Tryz.prog) (gw := Pt.gw) Tryz.checked.mixed Pt.hE Pt.hF (f := 3) (ids := []) (by kernel_rfl) hk
 have hd := hg.row W (fun _ hb => ⟨Yy (eZ hL) hb, gS (uH hL) hb, fM (jz hL) hb⟩) (vs := [v0]) a0
 refine (hd.calls Tryz.func3 (by kernel_rfl) (by kernel_rfl)).mono fun e W' he => ?_
 cases e with
 | panicked c => exact he.elim
 | outgrown => exact he.elim
 | returned v =>
   obtain ⟨bel, hres⟩ := he
   obtain rfl := LJ hres
   exact ⟨_, rfl, _, _, _, [], _, [], hW', trodAll_mk1 (shut_bool Tryz.underlying4 _), (trodAll_cons_mk (Below.trod laidOut (by kernel_rfl) (of_decide_eq_true (by kernel_rfl)) h0 bel lt0) trodAll_mk0), rfl, bel.frame _, fun h => by cases h⟩
end Go.Proofs.YtcpfklamgkilnaaGreatDoor.fnConfirms
