/-
  The law FnExactRunSession holds of every input: the row of the statement, from what the law's function comes to.
  Conditions: those of the given statement alone.
-/
import Derived.Test.YtdcnefakiajgdaaGreatDoorRows
import Derived.Test.YtdcnefakiajgdaaGreatDoorQlRunSession
import Derived.WalkKit
import Derived.ProofKit
import Derived.OpenShut
import Derived.ShutString
import Derived.ChangeOld
import Derived.Below
import Derived.SizedLaws
import Derived.JoinedOf
import Derived.LaidLaws
import Derived.LaidSub
import Derived.Lay
import Derived.Lib.LaidTab
import Derived.Test.YtdcnefakiajgdaaGreatDoorCards
import Derived.Test.YtdcnefakiajgdaaGreatDoorTie
import Derived.SevenTiedAt
import Derived.Stop.LaidErr
set_option linter.unusedVariables false
namespace Go.Proofs.YtdcnefakiajgdaaGreatDoor.fnExactRunSession
open Go.ChangeShapes Go.WideShapes Go.ChangeAt Go.RowKit Go.Vt
theorem own:ownKnob Tryz.prog.godebug=none:=by kernel_rfl
theorem laidOut:laidOutB Tryz.prog=true:=by kernel_rfl
noncomputable def DZ (os:Os):World:=World.laidAll Tryz.prog os Rows.fnExactRunSessionRow.laid
set_option maxRecDepth 100000 in
theorem FR (os:Os)(args:Array Value):laidMetH Tryz.prog Rows.fnExactRunSessionRow.laid ((DZ os).forCall (fun _ _=>0) ⟨#[],args,[]⟩).memory:=
 show laidMet Tryz.prog Rows.fnExactRunSessionRow.laid _ from laidMet_laidAll args (by kernel_rfl) (by kernel_rfl)
theorem FI {W:World}(h:laidMetH Tryz.prog Rows.fnExactRunSessionRow.laid W):Lib.TabIs Tryz.prog W "internal/strconv.uint64pow10" .u64 Lib.pow10Tab:=by
 have h1:laidMet Tryz.prog Rows.fnExactRunSessionRow.laid W:=h
 have h2:=h1.filter (fun x=>x.1== "internal/strconv.uint64pow10")
 have e:(Rows.fnExactRunSessionRow.laid:List (String×DataW Unit)).filter (fun x=>x.1== "internal/strconv.uint64pow10")=[("internal/strconv.uint64pow10",Lib.tabData .u64 Lib.pow10Tab)]:=by kernel_rfl
 rw[e]at h2
 exact Lib.tabIs_of_head (rest:=[]) (g:=3) (t:=230) (e:=208) (n:=20) (by kernel_rfl) (by kernel_rfl) (by kernel_rfl) (by kernel_rfl) (by kernel_rfl) (by kernel_rfl) h2
theorem By {W W' :World}(h:Lib.TabIs Tryz.prog W "internal/strconv.uint64pow10" .u64 Lib.pow10Tab)(hb:Below W.heap.size W W'):Lib.TabIs Tryz.prog W' "internal/strconv.uint64pow10" .u64 Lib.pow10Tab:=by
 have hg:Tryz.prog.globalNamed "internal/strconv.uint64pow10" =some 3:=by kernel_rfl
 unfold Lib.TabIs World.var? at h⊢
 rw[hg]at h⊢
 have hlt:3<W.heap.size:=by
  rcases Nat.lt_or_ge 3 W.heap.size with h1|h1
  ·exact h1
  ·simp[Array.getElem?_eq_none h1]at h
 have e:=hb.block 3 hlt
 simpa[e]using h
theorem star: "*" ++ "errors.errorString" = "*errors.errorString" :=by decide
theorem rowErr (u:TypeId)(h:Tryz.prog.typeName? 3 u=some "*errors.errorString"):u=218:=
 typeName_ptr_named (nm:= "errors.errorString") (by rw[star];kernel_rfl) (by kernel_rfl) (by decide) u (by rw[star];exact h)
theorem Nb {W:World}(h:laidMetH Tryz.prog Rows.fnExactRunSessionRow.laid W):∃tp p,W.var? Tryz.prog "strconv.ErrSyntax" =some #[.iface tp p]:=by
 have h1:laidMet Tryz.prog Rows.fnExactRunSessionRow.laid W:=h
 have h2:=h1.filter (fun x=>x.1== "strconv.ErrSyntax")
 have e:(Rows.fnExactRunSessionRow.laid:List (String×DataW Unit)).filter (fun x=>x.1== "strconv.ErrSyntax")=[("strconv.ErrSyntax",Rows.laid_strconv_ErrSyntax)]:=by kernel_rfl
 rw[e]at h2
 obtain⟨a,s,hv,_,_,_⟩:=laid_sentinel h2 (g:=1) (ti:=130) (by kernel_rfl) (by kernel_rfl) Tryz.underlying130 rowErr Tryz.underlying218 Tryz.underlying220 rfl rfl Tryz.underlying9 (by kernel_rfl) (by kernel_rfl)
 exact⟨_,_,hv⟩
theorem Hd {W W' :World}(h:∃tp p,W.var? Tryz.prog "strconv.ErrSyntax" =some #[.iface tp p])(hb:Below W.heap.size W W'):∃tp p,W'.var? Tryz.prog "strconv.ErrSyntax" =some #[.iface tp p]:=by
 have hg:Tryz.prog.globalNamed "strconv.ErrSyntax" =some 1:=by kernel_rfl
 obtain⟨tp,p,h⟩:=h
 refine⟨tp,p, ?_⟩
 unfold World.var? at h⊢
 rw[hg]at h⊢
 have hlt:1<W.heap.size:=by
  rcases Nat.lt_or_ge 1 W.heap.size with h1|h1
  ·exact h1
  ·simp[Array.getElem?_eq_none h1]at h
 have e:=hb.block 1 hlt
 simpa[e]using h
theorem MP {W:World}(h:laidMetH Tryz.prog Rows.fnExactRunSessionRow.laid W):∃tp p,W.var? Tryz.prog "strconv.ErrRange" =some #[.iface tp p]:=by
 have h1:laidMet Tryz.prog Rows.fnExactRunSessionRow.laid W:=h
 have h2:=h1.filter (fun x=>x.1== "strconv.ErrRange")
 have e:(Rows.fnExactRunSessionRow.laid:List (String×DataW Unit)).filter (fun x=>x.1== "strconv.ErrRange")=[("strconv.ErrRange",Rows.laid_strconv_ErrRange)]:=by kernel_rfl
 rw[e]at h2
 obtain⟨a,s,hv,_,_,_⟩:=laid_sentinel h2 (g:=2) (ti:=130) (by kernel_rfl) (by kernel_rfl) Tryz.underlying130 rowErr Tryz.underlying218 Tryz.underlying220 rfl rfl Tryz.underlying9 (by kernel_rfl) (by kernel_rfl)
 exact⟨_,_,hv⟩
theorem HY {W W' :World}(h:∃tp p,W.var? Tryz.prog "strconv.ErrRange" =some #[.iface tp p])(hb:Below W.heap.size W W'):∃tp p,W'.var? Tryz.prog "strconv.ErrRange" =some #[.iface tp p]:=by
 have hg:Tryz.prog.globalNamed "strconv.ErrRange" =some 2:=by kernel_rfl
 obtain⟨tp,p,h⟩:=h
 refine⟨tp,p, ?_⟩
 unfold World.var? at h⊢
 rw[hg]at h⊢
 have hlt:2<W.heap.size:=by
  rcases Nat.lt_or_ge 2 W.heap.size with h1|h1
  ·exact h1
  ·simp[Array.getElem?_eq_none h1]at h
 have e:=hb.block 2 hlt
 simpa[e]using h
set_option maxRecDepth 100000 in
theorem lifted (os:Os)(started:os.Started)(H:Type)(enc:TypeId×Value->H):
 ReturnsInHanded {} Tryz.checked os 3 .any (fun w args=>(Rows.fnExactRunSessionSpec.pre enc Tryz.prog Tryz.f3 Rows.fnExactRunSessionRow.domain false w args/\laidMetH Tryz.prog Rows.fnExactRunSessionRow.laid w)/\sizedMet enc Tryz.prog Tryz.f3 (OpenSpec.ofChange Rows.fnExactRunSessionSpec) false w args) (Rows.fnExactRunSessionSpec.post enc Tryz.prog Tryz.f3 false true false false):=by
 refine returnsInHanded_of_change_and (C:=Tryz.checked) (X:=fun w _=>laidMetH Tryz.prog Rows.fnExactRunSessionRow.laid w) (fun _ _ _ hh h=>h.of_heap hh) own started (by kernel_rfl) Tryz.func3
  (ChangeSpec.witness_at (enc:=enc) (C:=Tryz.checked) (os:=os) (X:=fun w _=>laidMetH Tryz.prog Rows.fnExactRunSessionRow.laid w) false (DZ os) #[.string ⟨#[]⟩] 8 (World.laidAll_os _ _ _) (by kernel_rfl) (by kernel_rfl) (by kernel_rfl) (by kernel_rfl) (by kernel_rfl) (FR os _)) ?_
 intro W base args ds gs before hval0 hW hcnd hsz0 hL _
 have hval:∀(j:Nat) t v,Tryz.f3.params[j]? =some t->args[j]? =some v->Value.okWide Tryz.prog W .any base t v:=hval0
 have hW' :=hW
 obtain⟨p,q,hA0,hV,rfl,hfz,hnd⟩:=hW
 have hA:DataW.TrodAll enc Tryz.prog W 0 (fun _=>true) true Tryz.f3.params.toList args.toList ds p:=hA0
 rw[Tryz.params3]at hA hval
 obtain⟨v0,vs0,d0,ds0,p0,q0,hargs0,rfl,rfl,h0,r0⟩:=trodAll_cons hA
 obtain⟨rfl,rfl,rfl⟩:=trodAll_nil r0
 obtain rfl:args= #[v0]:=by cases args;simp_all
 obtain⟨rfl,rfl⟩:=trodVars_none hV
 have lt0:∀x∈p0,x.block<W.heap.size:=by obtain⟨m,hm⟩:=h0;exact DataW.trod_lt m _ _ _ hm
 obtain⟨y0,a0,f0⟩:=zeQ (u:= .str) (d:=20) (agg:=false) (by kernel_rfl) (by kernel_rfl) (hval 0 9 v0 rfl rfl) h0
 obtain⟨k,hk⟩:=(Qq.UO y0 f0).get
 have hg:Gives Tryz.prog Pt.gw 3 Pt.vd y0 true:=gives (P:=Tryz.prog) (gw:=Pt.gw) Tryz.checked.mixed Pt.hE Pt.hF (f:=3) (ids:=[]) (by kernel_rfl) hk
 have hd:=hg.row W (fun _ hb=>⟨By (FI hL) hb,Hd (Nb hL) hb,HY (MP hL) hb⟩) (vs:=[v0]) a0
 refine(hd.calls Tryz.func3 (by kernel_rfl) (by kernel_rfl)).mono fun e W' he=> ?_
 cases e with
 |panicked c=>exact he.elim
 |outgrown=>exact he.elim
 |returned v=>
  obtain⟨bel,hres⟩:=he
  obtain rfl:=zd8 hres
  exact⟨_,rfl,_,_,_,[],_,[],hW',trodAll_mk1 (shut_bool Tryz.underlying4 _),(trodAll_cons_mk (Below.trod laidOut (by kernel_rfl) (zgw (by kernel_rfl)) h0 bel lt0) trodAll_mk0),rfl,bel.frame _,fun h=>by cases h⟩
end Go.Proofs.YtdcnefakiajgdaaGreatDoor.fnExactRunSession
