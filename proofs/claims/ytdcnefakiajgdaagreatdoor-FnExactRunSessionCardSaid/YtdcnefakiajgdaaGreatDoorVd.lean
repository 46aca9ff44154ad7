/-
  The plain machine: its parts and their laws, 4 of 4.
  Conditions: those of each statement.
-/
import Derived.Test.YtdcnefakiajgdaaGreatDoorVc
import Derived.Laws.StructEq
import Derived.ChangeArms
import Derived.RowKit
import Derived.Shelf.Strconv.Itoa3
import Derived.Shelf.Strings.OnBuilder
import Derived.Shelf.Strconv.ErrVarAll
import Derived.Shelf.Small.Strs
import Derived.Shelf.SlLaysE0
import Derived.Shelf.SlicesE.Kit
import Derived.Shelf.RegionOpenPlain
import Derived.WalkKit
import Derived.Deep.LoopGhost
import Derived.Deep.RegionLaw
import Derived.Lib.Walk
import Derived.Sort.WalkB12
import Derived.Shelf.GgSortFunc.RowK
import Derived.Lib.SliceRun
import Derived.Lib.SlicesDelete
import Derived.Shelf.SlSortCmp.Whole1
import Derived.Shelf.SlSortCmp.NoneTotal
import Derived.Shelf.SlicesE.Reverse
import Derived.Shelf.Spec.SlicesGrow
set_option linter.unusedSimpArgs false
set_option linter.unusedVariables false
namespace Go.Vt
open Go.RowKit
def eqKsL (g:TypeId->Option (List Ty)):Nat->List Field->Option (List Ty)
 |off,[]=>some []
 |off,f::fs=>bif f.name== "_" then none else bif Nat.beq f.offset off then(match g f.type with
   |some a=>match eqKsL g (off+a.length) fs with|some b=>some (a++b)|none=>none
   |none=>none)else none
def eqKs (P:Program):Nat->TypeId->Option (List Ty)
 |0,_=>none
 |d+1,t=>match P.underlying t with
  |some (.int k)=>some [.int k]
  |some .bool=>some [.bool]
  |some (.struct fields)=>bif P.stoodInHeld t then none else match eqKsL (eqKs P d) 0 fields.toList with
   |some ks=>bif(P.info? t).map (·.size)==some ks.length then some ks else none
   |none=>none
  |_=>none
theorem Scalars.len:∀ {xs:List Value} {ks:List Ty},Scalars xs ks->xs.length=ks.length
 | [],[],_=>rfl
 |_::_,_::_,h=>by simp[Scalars.len h.2]
 | [],_::_,h=>h.elim
 |_::_,[],h=>h.elim
theorem Scalars.split:∀ {az bs:List Ty} {xs:List Value},Scalars xs (az++bs)->Scalars (xs.take az.length) az/\Scalars (xs.drop az.length) bs
 | [],bs,xs,h=>⟨trivial,h⟩
 |a::az,bs,x::xs,h=>by
  obtain⟨h1,h2⟩:=Scalars.split (az:=az) h.2
  exact⟨⟨h.1,h1⟩,h2⟩
 |a::az,bs,[],h=>h.elim
theorem Nd:∀(n:Nat) {xs ys:List Value},xs.length=ys.length->u7 xs ys=(u7 (xs.take n) (ys.take n)&&u7 (xs.drop n) (ys.drop n))
 |0,xs,ys,h=>by simp[u7]
 |n+1,[],[],h=>by simp[u7]
 |n+1,x::xs,y::ys,h=>by
  have ih:=Nd n (xs:=xs) (ys:=ys) (by simpa using h)
  simp only[u7,List.take_succ_cons,List.drop_succ_cons,ih,Bool.and_assoc]
 |n+1,[],_::_,h=>by simp at h
 |n+1,_::_,[],h=>by simp at h
section
variable {P:Program} {w:World}
def EqTo (P:Program)(t:TypeId)(ks:List Ty)(agg:Bool):Prop:=(∀w,(isAgg t).run P w= .ok agg w)/\(agg=false->ks.length=1)/\(agg=true->∀w,(sizeOf t).run P w= .ok ks.length w)
theorem zcr {t:TypeId}{ks:List Ty}{agg:Bool}(h:EqTo P t ks agg){pre xs post:List Value}(hx:xs.length=ks.length)(w:World):(part t (pre++xs++post).toArray pre.length).run P w= .ok (xw agg xs) w:=by
 obtain⟨h1,h2,h3⟩:=h
 cases agg with
 |true=>
  have e:(pre++xs++post).toArray.extract pre.length (pre.length+ks.length)=xs.toArray:=by
   apply Array.ext'
   simp[<-hx,List.drop_append,List.take_append]
  have e2:(xs++post).take ks.length=xs:=by rw[<-hx,List.take_left]
  simp[part,h1,h3 rfl,xw,e2]
 |false=>
  have hl:xs.length=1:=by rw[hx];exact h2 rfl
  match xs,hl with
  | [x],_=>
    simp[part,h1,xw]
theorem zfF:∀(d:Nat) (t:TypeId) (ks:List Ty),eqKs P d t=some ks->∃agg,EqTo P t ks agg/\∀(d' :Nat),d<=d' ->∀(xs ys:List Value) (w:World),Scalars xs ks->Scalars ys ks->(Op.equalIn d' t (xw agg xs) (xw agg ys)).run P w= .ok (u7 xs ys) w:=by
 intro d
 induction d with
 |zero=>intro t ks h;cases h
 |succ d ih=>
  intro t ks h
  unfold eqKs at h
  split at h
  ·rename_i k hu
   cases h
   refine⟨false,⟨fun w=>by simp[isAgg,run_underlying hu],fun _=>rfl,(fun e=>by cases e)⟩,fun d' hd xs ys w hx hy=> ?_⟩
   match xs,ys,hx,hy with
   | [x],[y],hx,hy=>
     obtain⟨m,rfl⟩:=hx.1
     obtain⟨n,rfl⟩:=hy.1
     match d',hd with
     |d' +1,_=>simp[xw,Op.equalIn,run_underlying hu,u7,valEq]
  ·rename_i hu
   cases h
   refine⟨false,⟨fun w=>by simp[isAgg,run_underlying hu],fun _=>rfl,(fun e=>by cases e)⟩,fun d' hd xs ys w hx hy=> ?_⟩
   match xs,ys,hx,hy with
   | [x],[y],hx,hy=>
     obtain⟨m,rfl⟩:=hx.1
     obtain⟨n,rfl⟩:=hy.1
     match d',hd with
     |d' +1,_=>simp[xw,Op.equalIn,run_underlying hu,u7,valEq]
  ·rename_i fields hu
   cases hst:P.stoodInHeld t with
   |true=>rw[hst]at h;cases h
   |false=>
    rw[hst,zgK]at h
    split at h
    ·rename_i ks' hks
     cases hsz:((P.info? t).map (·.size)==some ks'.length)with
     |false=>rw[hsz]at h;cases h
     |true=>
      rw[hsz,zgJ]at h
      cases h
      have hsz' :(P.info? t).map (·.size)=some ks.length:=by simpa using hsz
      refine⟨true,⟨fun w=>by simp[isAgg,run_underlying hu],(fun e=>by cases e),fun _ w=> ?_⟩,fun d' hd xs ys w hx hy=> ?_⟩
      ·cases hi:P.info? t with
       |none=>rw[hi]at hsz';cases hsz'
       |some i=>rw[hi]at hsz';rw[gJ hi];simp at hsz';rw[hsz']
      ·match d',hd with
       |d' +1,hd=>
        have hf:P.fieldsOf t=fields:=by simp[Program.fieldsOf,hu]
        show(Op.equalIn (d' +1) t (.agg xs.toArray) (.agg ys.toArray)).run P w=_
        rw[run_equalIn_struct (P:=P) w d' t xs.toArray ys.toArray (by rw[hf];exact hu) hst,hf]
        have key:∀(fs:List Field) (ks:List Ty) (px py xs ys:List Value),eqKsL (eqKs P d) px.length fs=some ks->px.length=py.length->Scalars xs ks->Scalars ys ks->
         (Op.eqFields d' (px++xs).toArray (py++ys).toArray fs).run P w= .ok (u7 xs ys) w:=by
         intro fs
         induction fs with
         |nil=>
          intro ks px py xs ys h hp hx hy
          cases h
          match xs,ys,hx,hy with
          | [],[],_,_=>simp[Op.eqFields,u7]
         |cons f fs ihf=>
          intro ks px py xs ys h hp hx hy
          unfold eqKsL at h
          cases hn:(f.name== "_")with
          |true=>rw[hn]at h;cases h
          |false=>
           rw[hn,zgK]at h
           cases ho:Nat.beq f.offset px.length with
           |false=>rw[ho]at h;cases h
           |true=>
            rw[ho,zgJ]at h
            have ho' :=zgE ho
            split at h
            ·rename_i az ha
             split at h
             ·rename_i bs hb
              cases h
              obtain⟨agg,hE,hq⟩:=ih f.type az ha
              obtain⟨x1,x2⟩:=hx.split
              obtain⟨y1,y2⟩:=hy.split
              have ex:px++xs=px++xs.take az.length++xs.drop az.length:=by rw[zgU,List.take_append_drop]
              have ey:py++ys=py++ys.take az.length++ys.drop az.length:=by rw[zgU,List.take_append_drop]
              have hn' :f.name≠ "_" :=by simpa using hn
              have pa:=zcr (w:=w) hE (pre:=px) (post:=xs.drop az.length) x1.len
              have pb:=zcr (w:=w) hE (pre:=py) (post:=ys.drop az.length) y1.len
              rw[<-ex]at pa
              rw[<-ey]at pb
              have hrest:=ihf bs (px++xs.take az.length) (py++ys.take az.length) (xs.drop az.length) (ys.drop az.length) (by rw[zgA,x1.len];exact hb) (by rw[zgA,zgA,x1.len,y1.len,hp]) x2 y2
              rw[<-ex,<-ey]at hrest
              have hlen:xs.length=ys.length:=by rw[hx.len,hy.len]
              rw[Nd az.length hlen,Op.eqFields]
              simp only[zgG hn',Sem.run_bind,ho',pa,Result.andThen_ok]
              rw[hp,pb]
              simp only[Result.andThen_ok,hq d' (by omega) _ _ w x1 y1]
              cases u7 (xs.take az.length) (ys.take az.length)
              ·simp
              ·simpa using hrest
             ·cases h
            ·cases h
        have:=key fields.toList ks [] [] xs ys (by simpa using hks) rfl hx hy
        simpa using this
    ·cases h
  ·cases h
theorem Lk {d:Nat}{T:TypeId}{ks:List Ty}{fields:Array Field}(hu:P.underlying T=some (.struct fields))(h:eqKs P d T=some ks)(hd:d<=10000)(hg:P.eqGuardType P.depth T=false):
 ∀xs ys w op,Scalars xs ks->Scalars ys ks->op=BinOp.eql\/op=BinOp.neq->
   (eqGuard op T (.tmp 0) (.tmp 0) (.agg xs.toArray) (.agg ys.toArray)).run P w= .ok () w/\(Op.equal T (.agg xs.toArray) (.agg ys.toArray)).run P w= .ok (u7 xs ys) w:=by
 intro xs ys w op hx hy hop
 obtain⟨agg,hE,hq⟩:=zfF d T ks h
 have hagg:agg=true:=by
  have h1:=hE.1 w
  have h2:(isAgg T).run P w= .ok true w:=by simp[isAgg,run_underlying hu]
  rw[h2]at h1;cases h1;rfl
 subst hagg
 refine⟨?_,hq 10000 hd xs ys w hx hy⟩
 rcases hop with rfl|rfl<;>simp[eqGuard,program,Sem.run,hg]
end
def gQ (xs:List Int):ByteArray:=xs.foldl (fun r n=>r.push (UInt8.ofNat n.toNat)) ByteArray.empty
def Ev {α:Type}(g:Nat->Option α)(y:α):Prop:=∃K,∀k,K<=k->g k=some y
theorem ES {α:Type}{g h:Nat->Option α}{y:α}(hs:∀k,g (k+1)=h k)(hh:Ev h y):Ev g y:=by
 obtain⟨K,hK⟩:=hh
 refine⟨K+1,fun k hk=> ?_⟩
 obtain⟨j,rfl⟩:∃j,k=j+1:=⟨k-1,by omega⟩
 rw[hs];exact hK j (by omega)
theorem EP {α:Type}(y:α):Ev (fun _=>some y) y:=⟨0,fun _ _=>rfl⟩
theorem EB {α β:Type}{g:Nat->Option α}{h:Nat->α->Option β}{x:α}{y:β}(hg:Ev g x)(hh:Ev (fun k=>h k x) y):Ev (fun k=>(g k).bind (h k)) y:=by
 obtain⟨K,hK⟩:=hg
 obtain⟨L,hL⟩:=hh
 refine⟨max K L,fun k hk=> ?_⟩
 show(g k).bind (h k)=some y
 rw[hK k (by omega)]
 exact hL k (by omega)
theorem EI {α:Type}{b:Bool}{g h:Nat->Option α}{y:α}(ht:b=true->Ev g y)(hf:b=false->Ev h y):Ev (fun k=>bif b then g k else h k) y:=by
 cases b with
 |true=>exact ht rfl
 |false=>exact hf rfl
theorem EY {α:Type}{b:Bool}{g h:Nat->Option α}{y:α}(hb:b=true)(ht:Ev g y):Ev (fun k=>bif b then g k else h k) y:=by subst hb;exact ht
theorem EN {α:Type}{b:Bool}{g h:Nat->Option α}{y:α}(hb:b=false)(ht:Ev h y):Ev (fun k=>bif b then g k else h k) y:=by subst hb;exact ht
theorem Ev.congr {α:Type}{g h:Nat->Option α}{y:α}(e:∀k,g k=h k)(hh:Ev h y):Ev g y:=by
 obtain⟨K,hK⟩:=hh
 exact⟨K,fun k hk=>(e k).trans (hK k hk)⟩
theorem Ev.get {α:Type}{g:Nat->Option α}{y:α}(h:Ev g y):∃k,g k=some y:=by
 obtain⟨K,hK⟩:=h
 exact⟨K,hK K (zgC _)⟩
theorem ZQ {α:Type}{f:α->α->Bool}(hf:∀x,f x x=true):∀xs:List α,HD f xs xs=true
 | []=>rfl
 |x::xs=>by unfold HD;rw[hf x,ZQ hf xs];rfl
theorem VX:∀(t:Ty) (x:t.den),denB t x x=true
 | .int _,x=>by show((x:Int)==x)=true;simp
 | .bool,x=>by show((x:Bool)==x)=true;simp
 | .str,x=>ZQ (f:=fun a b:UInt8=>Nat.beq a.toNat b.toNat) (fun a=>by simp) _
 | .slice t,x=>ZQ (VX t) x
 | .set,x=>by
   cases x with
   |none=>rfl
   |some l=>exact ZQ (f:=strB) (fun x=>ZQ (f:=fun a b:UInt8=>Nat.beq a.toNat b.toNat) (fun a=>by simp) x.data.toList) l
 | .err,x=>by show((x:Bool)==x)=true;simp
 | .pair a b,x=>by show(denB a x.1 x.1&&denB b x.2 x.2)=true;rw[VX a,VX b];rfl
theorem Un:∀(rs:List RC) (x:Rden rs),Mp rs x x=true
 | [],_=>rfl
 | [c],x=>VX c.t x
 |c::d::r,x=>by show(denB c.t x.1 x.1&&Mp (d::r) x.2 x.2)=true;rw[VX,Un (d::r)];rfl
theorem za8:∀(rs ios:List RC) (x:Oden rs ios),odenB rs ios x x=true
 |rs,[],x=>Un rs x
 |rs,i::r,x=>by show(Mp rs x.1 x.1&&Mp (i::r) x.2 x.2)=true;rw[Un,Un];rfl
theorem Ev.both {rs ios:List RC}{g h:Nat->Option (Oden rs ios)}{y:Oden rs ios}(hg:Ev g y)(hh:Ev h y):Ev (fun k=>Go.Vt.both (g k) (h k)) y:=by
 obtain⟨K,hK⟩:=hg
 obtain⟨L,hL⟩:=hh
 refine⟨max K L,fun k hk=> ?_⟩
 show Go.Vt.both (g k) (h k)=some y
 rw[hK k (by omega),hL k (by omega)]
 show(bif odenB rs ios y y then some y else none)=some y
 rw[za8];rfl
theorem EZ {α:Type}{x y:α}(e:x=y):Ev (fun _=>Option.some x) y:=by subst e;exact EP _
theorem Ev.to {α:Type}{g:Nat->Option α}{x y:α}(h:Ev g x)(e:x=y):Ev g y:=e▸h
def kindL (P:Program)(g:TypeId->Option Ty):Nat->List Field->Option Ty
 |_,[]=>none
 |off,[f]=>bif Nat.beq f.offset off then(match g f.type with|some t=>bif Nat.beq (P.cellsOf f.type) t.sz then some t else none|none=>none)else none
 |off,f::f2::r=>bif Nat.beq f.offset off then(match g f.type with
   |some t=>bif Nat.beq (P.cellsOf f.type) t.sz then(match kindL P g (off+t.sz) (f2::r)with|some u=>some (.pair t u)|none=>none)else none
   |none=>none)else none
def NI (P:Program):Nat->TypeId->Option Ty
 |0,_=>none
 |d+1,t=>match P.underlying t with
  |some (.int k)=>some (.int k)
  |some .bool=>some .bool
  |some .string=>some .str
  |some (.slice e)=>match NI P d e with|some u=>bif Nat.beq (P.cellsOf e) u.sz then some (.slice u)else none|none=>none
  |some (.struct fs)=>match kindL P (NI P d) 0 fs.toList with|some u=>bif Nat.beq (P.cellsOf t) u.sz then some u else none|none=>none
  |_=>none
def Fits:(t:Ty)->t.den->Prop
 | .int k,n=>k.min<=n/\n<=k.max
 | .bool,_=>True
 | .str,s=>s.size<=maxLen
 | .slice t,xs=>xs.length<=maxLen/\∀x∈xs,Fits t x
 | .set,_=>False
 | .err,_=>False
 | .pair a b,x=>Fits a x.1/\Fits b x.2
theorem KR {α:Type}(p:Nat->α->Prop):∀(n:Nat),(∀i,i<n->∃x,p i x)->∃xs:List α,xs.length=n/\∀i x,xs[i]? =some x->p i x
 |0,_=>⟨[],rfl,by simp⟩
 |n+1,h=>by
  obtain⟨xs,h1,h2⟩:=KR p n (fun i hi=>h i (by omega))
  obtain⟨x,hx⟩:=h n (by omega)
  refine⟨xs++[x],by simp[h1],fun i y hy=> ?_⟩
  rw[List.getElem?_append]at hy
  split at hy
  ·exact h2 i y hy
  ·rename_i hlt
   have:i=n:=by
    rcases Nat.lt_or_ge i (n+1)with h3|h3
    ·omega
    ·rw[List.getElem?_eq_none (by simp;omega)]at hy;cases hy
   subst this
   simp[h1]at hy
   subst hy;exact hx
section
variable {P:Program} {w:World} {H:Type} {enc:TypeId×Value->H} {base:Nat} {spare:Nat->Bool} {held:Bool}
theorem CZ {a:Addr}{n:Nat}{cs:List Value}(h:w.cells? base a n=some cs):cs.length=n/\∀j v,cs[j]? =some v->w.cell? (a.add j)=some v:=by
 unfold World.cells? at h
 split at h
 ·have hl:=mapM_some_length h
  rw[List.length_range]at hl
  refine⟨hl,fun j v hj=> ?_⟩
  have hlt:j<cs.length:=(List.getElem?_eq_some_iff.1 hj).1
  rw[mapM_some_get h j j (by rw[List.getElem?_range (by omega)])]
  exact hj
 ·cases h
theorem zbF {a:Addr}{v:Value}(h:w.cell? a=some v):a.spot=none/\a.block<w.heap.size:=by
 unfold World.cell? at h
 split at h
 ·rename_i c e f hc
  refine⟨?_, ?_⟩
  ·cases hsp:a.spot with
   |none=>rfl
   |some x=>simp[hsp]at h
  ·rcases Nat.lt_or_ge a.block w.heap.size with h1|h1
   ·exact h1
   ·rw[Array.getElem?_eq_none h1]at hc;cases hc
 ·cases h
theorem KA {d n:Nat}(ih:∀(t:TypeId) (u:Ty) (fuel:Nat) (cs:List Value) (x:DataW H×List MemPlace),NI P d t=some u->DataW.trod enc P w base spare held fuel t cs=some x->∃y:u.den,VR w (fun b=>b<w.heap.size) u y cs/\Fits u y):
 ∀(fs:List Field) (off:Nat) (u:Ty) (cs:List Value),kindL P (NI P d) off fs=some u->cs.length=off+u.sz->
  (∀f∈fs,∃x,DataW.trod enc P w base spare held n f.type ((cs.drop f.offset).take (P.cellsOf f.type))=some x)->∃y:u.den,VR w (fun b=>b<w.heap.size) u y (cs.drop off)/\Fits u y
 | [],off,u,cs,h,hl,ht=>by cases h
 | [f],off,u,cs,h,hl,ht=>by
   unfold kindL at h
   cases ho:Nat.beq f.offset off with
   |false=>rw[ho]at h;cases h
   |true=>
    rw[ho,zgJ]at h
    have ho' :=zgE ho
    split at h
    ·rename_i t hk
     cases hc:Nat.beq (P.cellsOf f.type) t.sz with
     |false=>rw[hc]at h;cases h
     |true=>
      rw[hc,zgJ]at h
      cases h
      have hc' :=zgE hc
      obtain⟨x,hx⟩:=ht f (by simp)
      rw[ho',hc',zgT (by rw[zgR];omega)]at hx
      exact ih _ _ _ _ _ hk hx
    ·cases h
 |f::f2::r,off,u,cs,h,hl,ht=>by
  unfold kindL at h
  cases ho:Nat.beq f.offset off with
  |false=>rw[ho]at h;cases h
  |true=>
   rw[ho,zgJ]at h
   have ho' :=zgE ho
   split at h
   ·rename_i t hk
    cases hc:Nat.beq (P.cellsOf f.type) t.sz with
    |false=>rw[hc]at h;cases h
    |true=>
     rw[hc,zgJ]at h
     have hc' :=zgE hc
     split at h
     ·rename_i u2 hk2
      cases h
      obtain⟨x,hx⟩:=ht f (by simp)
      rw[ho',hc']at hx
      have hsz:(Ty.pair t u2).sz=t.sz+u2.sz:=rfl
      rw[hsz]at hl
      obtain⟨y1,v1,f1⟩:=ih _ _ _ _ _ hk hx
      obtain⟨y2,v2,f2'⟩:=KA ih (f2::r) (off+t.sz) u2 cs hk2 (by omega) (fun g hg=>ht g (by simp[zgO.1 hg]))
      refine⟨(y1,y2),⟨_,_, ?_,v1,v2⟩,f1,f2'⟩
      rw[<-List.drop_drop,List.take_append_drop]
     ·cases h
   ·cases h
theorem zfr:∀(d:Nat) (t:TypeId) (u:Ty) (fuel:Nat) (cs:List Value) (x:DataW H×List MemPlace),NI P d t=some u->DataW.trod enc P w base spare held fuel t cs=some x->∃y:u.den,VR w (fun b=>b<w.heap.size) u y cs/\Fits u y:=by
 intro d
 induction d with
 |zero=>intro t u fuel cs x h;cases h
 |succ d ih=>
  intro t u fuel cs x h hx
  unfold NI at h
  split at h
  ·rename_i k hu
   cases h
   obtain⟨n,rfl,_,hw⟩:=DataW.trod_int hu hx
   refine⟨n,rfl, ?_⟩
   show k.min<=n/\n<=k.max
   simpa[Lit.wf]using hw
  ·rename_i hu
   cases h
   obtain⟨b,rfl,_⟩:=DataW.trod_bool hu hx
   exact⟨b,rfl,trivial⟩
  ·rename_i hu
   cases h
   obtain⟨s,rfl,_,hs⟩:=DataW.trod_string hu hx
   exact⟨s,rfl,hs⟩
  ·rename_i e hu
   split at h
   ·rename_i u' hk
    cases hc:Nat.beq (P.cellsOf e) u'.sz with
    |false=>rw[hc]at h;cases h
    |true=>
     rw[hc,zgJ]at h
     cases h
     have hc' :=zgE hc
     rcases DataW.trod_slice hu hx with⟨rfl,_⟩|⟨a,len,cap,elems,rest,n,_,rfl,_,_,hlc,hcm,hel,hget,_,_⟩
     ·exact⟨[],⟨none,0,rfl,zgC _, .inl rfl⟩,⟨Nat.zero_le _,fun x hx=>by cases hx⟩⟩
     ·obtain⟨ys,h1,h2⟩:=KR (fun i (y:u'.den)=>∃cs,w.cells? base (a.add (i*u'.sz)) u'.sz=some cs/\VR w (fun b=>b<w.heap.size) u' y cs/\Fits u' y) len (fun i hi=>by
       have hg:=hget i hi
       rw[zgD (by omega),hc']at hg
       obtain⟨cs,hcs,hg⟩:=zgF.1 hg
       obtain⟨y,hy,hf⟩:=ih _ _ _ _ _ hk hg
       exact⟨y,cs,hcs,hy,hf⟩)
      refine⟨ys,⟨some a,cap,by rw[h1],by omega, ?_⟩,⟨by omega,fun y hy=> ?_⟩⟩
      ·by_cases he:ys=[]
       ·exact .inl he
       ·have hpos:0<ys.length:=List.length_pos_iff.2 he
        have hp:=u'.sz_pos
        obtain⟨cs0,hcs0,hv0,_⟩:=h2 0 ys[0] (by simp)
        obtain⟨l0,g0⟩:=CZ hcs0
        have hz:(a.add (0*u'.sz))=a:=by simp[Addr.add]
        rw[hz]at g0
        have hc0:=g0 0 cs0[0] (by simp)
        have hz2:a.add 0=a:=by simp[Addr.add]
        rw[hz2]at hc0
        obtain⟨hsp,hlt⟩:=zbF hc0
        obtain⟨b,o,s⟩:=a
        simp only at hsp hlt
        subst hsp
        refine .inr ⟨b,o,rfl,hlt,fun i y hy=> ?_⟩
        obtain⟨cs,hcs,hv,_⟩:=h2 i y hy
        obtain⟨l1,g1⟩:=CZ hcs
        refine⟨cs,l1,fun j v hj=> ?_,hv⟩
        have:=g1 j v hj
        rwa [gR,gR]at this
      ·obtain⟨i,hi⟩:=List.getElem?_of_mem hy
       obtain⟨_,_,_,hf⟩:=h2 i y hi
       exact hf
   ·cases h
  ·rename_i fs hu
   split at h
   ·rename_i u' hk
    cases hc:Nat.beq (P.cellsOf t) u'.sz with
    |false=>rw[hc]at h;cases h
    |true=>
     rw[hc,zgJ]at h
     cases h
     have hc' :=zgE hc
     obtain⟨xs,n,_,_,hl,hxl,hg⟩:=DataW.trod_struct hu hx
     have:=KA (n:=n) ih fs.toList 0 u cs hk (by rw[hl,hc'];omega) (fun f hf=>by
      obtain⟨i,hi⟩:=List.getElem?_of_mem hf
      have hi' :fs[i]? =some f:=by simpa using hi
      have hlt:i<fs.size:=(Array.getElem?_eq_some_iff.1 hi').1
      have:=hg i f hi'
      rw[zgD (by omega)]at this
      exact⟨_,this⟩)
     simpa using this
   ·cases h
  ·cases h
end
def K2 (P:Program)(t:TypeId):Bool:=match P.underlying t with|some (.struct _)=>true|_=>false
section
variable {P:Program} {w:World} {H:Type} {enc:TypeId×Value->H} {base base' :Nat} {spare:Nat->Bool} {held:Bool}
theorem Does.calls {f:FuncId}{fn:Func}{vs:Array Value}{R:Value->World->Prop}(h:Does P f vs w R)(hf:P.funcs[f]? =some fn)(hn:(fn.name== "runtime.NumGoroutine")=false)(hb:fn.body.isSome=true):
 Calls P f vs w fun e w' =>match e with| .returned v=>R v w' |_=>False:=by
 have hcall:(callFunc f vs).run P w= .ok (.enter f vs) w:=by
  simp only[callFunc,Sem.run_bind,program]
  have hname' :¬(fn.name== "runtime.NumGoroutine")=true:=by rw[hn];simp
  have hb' :¬fn.body.isNone=true:=by cases hfb:fn.body with
   |none=>rw[hfb]at hb;cases hb
   |some c=>simp
  simp only[Sem.run,hf,Result.andThen_ok]
  rw[zgH hname',zgH hb']
  simp[Sem.run,pure]
 unfold Does at h
 rw[hcall]at h
 exact h
theorem zeQ {d:Nat}{t:TypeId}{u:Ty}{agg:Bool}(hk:NI P d t=some u)(ha:K2 P t=agg){v:Value}(hw:Value.okWide P w .any base' t v){dd:DataW H}{ps:List MemPlace}(h:DataW.Trod enc P w base spare held t v dd ps):
 ∃y:u.den,ArgR w (fun b=>b<w.heap.size) v (.v u agg) y/\Fits u y:=by
 obtain⟨m,hm⟩:=h
 obtain⟨y,hy,hf⟩:=zfr d t u m _ _ hk hm
 have one:agg=false->v.cells.toList=[v]:=by
  intro e
  subst e
  cases d with
  |zero=>cases hk
  |succ d=>
   unfold NI at hk
   split at hk
   ·rename_i k hu
    simp only[Value.okWide,hu,Cell.okWide]at hw
    cases v<;>simp_all[Cell.ok,Value.cells]
   ·rename_i hu
    simp only[Value.okWide,hu,Cell.okWide]at hw
    cases v<;>simp_all[Cell.ok,Value.cells]
   ·rename_i hu
    simp only[Value.okWide,hu,Cell.okWide]at hw
    cases v<;>simp_all[Cell.ok,Value.cells]
   ·rename_i e hu
    simp only[Value.okWide,hu,Cell.okWide]at hw
    cases v<;>simp_all[Cell.ok,Value.cells]
   ·rename_i fs hu
    simp[K2,hu]at ha
   ·cases hk
 refine⟨y,⟨v.cells.toList, ?_,fun e=>by rw[one e];rfl,hy⟩,hf⟩
 cases agg with
 |false=>rw[one rfl];rfl
 |true=>
  unfold K2 at ha
  split at ha
  ·rename_i fs hu
   simp only[Value.okWide,hu]at hw
   obtain⟨cs,rfl,_⟩:=hw
   simp[xw,Value.cells]
  ·cases ha
theorem Does.mono {f:FuncId}{vs:Array Value}{R R' :Value->World->Prop}(h:Does P f vs w R)(hk:∀v w',R v w' ->R' v w'):Does P f vs w R' :=by
 unfold Does at h⊢
 split at h
 ·exact hk _ _ h
 ·refine h.mono fun e w'' hh=> ?_
  cases e with
  |returned v=>exact hk _ _ hh
  |panicked c=>exact hh
  |outgrown=>exact hh
 ·exact h.mono fun v w'' hh=>hk _ _ hh
 ·exact h.elim
theorem Gives.row {gw:Gw}{f:FuncId}{fi:Fi}{x:Aden fi.ps}{y:Oden (zm fi.rs) (ioOf fi.ps)}(hg:Gives P gw f fi x y)(W:World)(hG:∀w',Below W.heap.size W w' ->gw.p w'){vs:List Value}(ha:ArgsR W (fun b=>b<W.heap.size) vs fi.ps x)(hng:fi.gift=false:=by rfl):
 Does P f vs.toArray W fun v w' =>Below W.heap.size W w' /\∃(S' :Nat->Prop) (us:List Value) (L:List Nat),v=oneVal (vU fi.rs us)/\RCs w' S' us L (zm fi.rs) (Oden.res _ _ y):=by
 have hb:∀w',KeptW gw.dr W (fun b=>W.heap.size<=b) w' ->Below W.heap.size W w' :=fun w' h=>⟨h.os,h.tape,h.output,h.size,fun k hk=>h.block k hk (fun hc=>Nat.lt_irrefl _ (Nat.lt_of_lt_of_le hk hc))⟩
 have h:=(hg.o hng) (⟨W,fun b=>W.heap.size<=b,fun _ h=>h,fun w' h=>hG w' (hb w' h),[]⟩:Base gw) (fun b=>b<W.heap.size) vs [] [] (fun _ h=>h) List.nodup_nil (fun b hb=>by cases hb) rfl ha.o
 exact h.mono fun v w' hh=>⟨hb _ hh.1,by obtain⟨S',us,L,M,e,_,_,_,_,h5,_⟩:=hh.2;exact⟨S',us,L,e,h5⟩⟩
theorem zd8 {w' :World}{b:Bool}{v:Value}(h:∃(S' :Nat->Prop) (us:List Value) (L:List Nat),v=oneVal (vU [(false,[⟨.bool,none⟩])] us)/\RCs w' S' us L [⟨.bool,none⟩] b):v= .bool b:=by
 obtain⟨S',vs,L,rfl,h⟩:=h
 match vs,h with
 | [u],h=>
   have h' :VR w' S' .bool b [u]:=h.1
   have e:u= .bool b:=by simpa[VR]using h'
   subst e
   rfl
 | [],h=>cases h
 |_::_::_,h=>cases h
end
section
variable {P:Program} {gw:Gw}
theorem Does.of_calls {w:World}{f:FuncId}{fn:Func}{vs:Array Value}{R:Value->World->Prop}(hf:P.funcs[f]? =some fn)(hn:(fn.name== "runtime.NumGoroutine")=false)(hb:fn.body.isSome=true)
 (h:Calls P f vs w fun e w' =>match e with| .returned v=>R v w' |_=>False):Does P f vs w R:=by
 have hcall:(callFunc f vs).run P w= .ok (.enter f vs) w:=by
  simp only[callFunc,Sem.run_bind,program]
  have hname' :¬(fn.name== "runtime.NumGoroutine")=true:=by rw[hn];simp
  have hb' :¬fn.body.isNone=true:=by cases hfb:fn.body with
   |none=>rw[hfb]at hb;cases hb
   |some c=>simp
  simp only[Sem.run,hf,Result.andThen_ok]
  rw[zgH hname',zgH hb']
  simp[Sem.run,pure]
 unfold Does
 rw[hcall]
 exact h
theorem Bg {B:Base gw}{w' :World}{S:Nat->Prop}(s:ByteArray):ResR B w' S [(false,[⟨.str,none⟩])] [] [] s (.string s):=
 by
 refine⟨S,[.string s],[],[],rfl,fun _ h=>h,fun _ h=> .inl h,List.nodup_nil, ?_,⟨rfl,rfl⟩,rfl⟩
 intro b hb;cases hb
theorem zcH {B:Base gw}(k:Nat)(os:Array Obj):Kept B (Sort.grow (B.w.drewN k) os):=
 ⟨rfl,rfl,rfl,by show B.w.heap.size<=(B.w.heap++os).size;simp,fun i hi _=>by show(B.w.heap++os)[i]? =_;rw[Array.getElem?_append_left hi],fun _=>by show B.w.drawn<=B.w.drawn+k;omega⟩
def itoaF (n:Int):Option ByteArray:=bif decide (-9223372036854775808<=n)&&decide (n<=9223372036854775807)then some ⟨(Lib.itoa n).toArray⟩else none
def itoaFi:Fi:=⟨[.v (.int .i64) false],[(false,[⟨.str,none⟩])],some (fun _ n=>itoaF n), .skip,[],0,fun _=>none⟩
theorem zfw {f:FuncId}{fn:Func}(hf:P.funcs[f]? =some fn)(hn:(fn.name== "runtime.NumGoroutine")=false)(hb:fn.body.isSome=true)
 (hc:∀(n:Int) (w:World),gw.p w->-9223372036854775808<=n->n<=9223372036854775807->Calls P f #[.int .i64 n] w fun e w' =>e= .returned (.string ⟨(Lib.itoa n).toArray⟩)/\∃k os,w' =Sort.grow (w.drewN k) os):OneF P gw f itoaFi:=by
 suffices hg:∀(x:Int) (y:ByteArray),itoaF x=some y->GivesO P gw f itoaFi x y from⟨fun g hg' k x y hy=>by cases hg';exact(hg x y hy).all rfl,fun h=>by cases h⟩
 intro x y hy' B S vs L H hS hL hm hH hA
 match vs,hA with
 | [v],hA=>
   obtain⟨⟨cs,rfl,_,hv⟩,rfl,rfl⟩:=hA
   cases(show cs=[Value.int .i64 x]from hv)
   unfold itoaF at hy'
   cases hb2:(decide (-9223372036854775808<=x)&&decide (x<=9223372036854775807))with
   |false=>rw[hb2]at hy';cases hy'
   |true=>
    rw[hb2]at hy'
    cases hy'
    rw[zgx,zgI,zgI]at hb2
    refine Does.of_calls hf hn hb ((hc x B.w (B.hg _ (Kept.refl B)) hb2.1 hb2.2).mono fun e w' he=> ?_)
    obtain⟨rfl,k,os,rfl⟩:=he
    exact⟨zcH k os,Bg _⟩
def joinF (xs:List ByteArray)(sep:ByteArray):Option ByteArray:=
 bif decide (xs.length<=140737488355328)&&decide ((Lib.join (xs.map (·.data.toList)) sep.data.toList).length<=140737488355328)then some ⟨(Lib.join (xs.map (·.data.toList)) sep.data.toList).toArray⟩else none
def joinFi:Fi:=⟨[.v (.slice .str) false, .v .str false],[(false,[⟨.str,none⟩])],some (fun _ x=>joinF x.1 x.2), .skip,[],0,fun _=>none⟩
theorem zfv {f:FuncId}{fn:Func}(hf:P.funcs[f]? =some fn)(hn:(fn.name== "runtime.NumGoroutine")=false)(hb:fn.body.isSome=true)
 (h0:∀(a:Option Addr) (c:Nat) (sep:ByteArray) (w:World),Calls P f #[.slice a 0 c, .string sep] w fun e w' =>e= .returned (.string ⟨#[]⟩)/\w' =w)
 (h1:∀(bk o c:Nat) (xs:List ByteArray) (sep:ByteArray) (w:World),(∀(j:Nat) x,xs[j]? =some x->w.cell? ⟨bk,o+j,none⟩=some (.string x))->bk<w.heap.size->xs.length<=140737488355328->xs.length<=c->
   (Lib.join (xs.map (·.data.toList)) sep.data.toList).length<=140737488355328->
   Calls P f #[.slice (some ⟨bk,o,none⟩) xs.length c, .string sep] w fun e w' =>e= .returned (.string ⟨(Lib.join (xs.map (·.data.toList)) sep.data.toList).toArray⟩)/\Below w.heap.size w w') (hdr:gw.dr=false):OneF P gw f joinFi:=by
 suffices hg:∀(xs:List ByteArray) (sep y:ByteArray),joinF xs sep=some y->GivesO P gw f joinFi (xs,sep) y from⟨fun g hg' k x y hy=>by cases hg';exact(hg x.1 x.2 y hy).all rfl,fun h=>by cases h⟩
 intro xs sep y hy' B S vs L H hS hL hm hH hA
 match vs,hA with
 | [v,u],hA=>
   obtain⟨L1,L2,H1,H2,rfl,rfl,⟨⟨cs,rfl,_,hv⟩,rfl,rfl⟩,⟨⟨ds,rfl,_,hu⟩,rfl,rfl⟩⟩:=hA
   cases(show ds=[Value.string sep]from hu)
   obtain⟨a,cap,rfl,hcap,hr⟩:=hv
   unfold joinF at hy'
   cases hb2:(decide (xs.length<=140737488355328)&&decide ((Lib.join (xs.map (·.data.toList)) (ByteArray.data sep).toList).length<=140737488355328))with
   |false=>rw[hb2]at hy';cases hy'
   |true=>
    rw[hb2]at hy'
    cases hy'
    rw[zgx,zgI,zgI]at hb2
    have hat:∀b o,(∀(i:Nat) x,xs[i]? =some x->∃cs:List Value,cs.length=1/\At B.w b (o+i*1) cs/\VR B.w S .str x cs)->∀(j:Nat) x,xs[j]? =some x->B.w.cell? ⟨b,o+j,none⟩=some (.string x):=by
     intro b o hr j x hx
     obtain⟨cs,_,hat,hcs⟩:=hr j x hx
     cases(show cs=[Value.string x]from hcs)
     have:=hat 0 _ rfl
     simpa using this
    refine Does.of_calls hf hn hb ?_
    rcases hr with rfl|⟨b,o,rfl,hb3,hr⟩
    ·refine(h0 a cap sep B.w).mono fun e w' he=> ?_
     obtain⟨rfl,rfl⟩:=he
     exact⟨Kept.refl B,Bg _⟩
    ·refine(h1 b o cap xs sep B.w (hat b o hr) (hS b hb3) hb2.1 hcap hb2.2).mono fun e w' he=> ?_
     obtain⟨rfl,hbel⟩:=he
     exact⟨(Kept.refl B).below hbel (fun e=>by rw[hdr]at e;cases e),Bg _⟩
end
section
variable {P:Program} {gw:Gw}
theorem zb0 {T:Nat}(hu:(match P.underlying T with|some (.interface _)=>true|_=>false)=true)(h1:(P.info? T).map (·.size)=some 1)(h3:((P.info? T).bind (·.zero)).map (fun z=>z.cells.toList)=some [.nilIface]):TyOk P T (.one .err):=by
 cases h:P.underlying T with
 |none=>rw[h]at hu;cases hu
 |some d=>rw[h]at hu;exact zdR h (by cases d<;>first|rfl|cases hu) h1 h3
def atoiR (s:List UInt8):Int×Bool:=match Lib.atoiAll s with| .ok v=>(v,true)| .range=>(Lib.atoiSat s,false)|_=>(0,false)
def atoiF (s:ByteArray):Option (Int×Bool):=bif decide (s.size<=281474976710656)then some (atoiR s.data.toList)else none
def atoiFi:Fi:=⟨[.v .str false],[(false,[⟨.int .i64,none⟩]),(false,[⟨.err,none⟩])],some (fun _ s=>atoiF s), .skip,[],0,fun _=>none⟩
theorem zeP {B:Base gw}{w' :World}{S:Nat->Prop}(n:Int)(b:Bool)(v:Value)(h:ErrV v b):ResR B w' S [(false,[⟨.int .i64,none⟩]),(false,[⟨.err,none⟩])] [] [] (n,b) (.tuple #[.int .i64 n,v]):=by
 refine⟨S,[.int .i64 n,v],[],[],rfl,fun _ h=>h,fun _ h=> .inl h,List.nodup_nil, ?_,⟨[],[],rfl,⟨rfl,rfl⟩,⟨⟨v,rfl,h⟩,rfl⟩⟩,rfl⟩
 intro b hb;cases hb
def AtoiDoes (P:Program)(gw:Gw)(f:FuncId):Prop:=
 ∀(s:ByteArray) (w:World),gw.p w->s.size<=281474976710656->Calls P f #[.string s] w fun e w' =>(∃v,e= .returned (.tuple #[.int .i64 (atoiR s.data.toList).1,v])/\ErrV v (atoiR s.data.toList).2)/\Below w.heap.size w w'
theorem zfO {f:FuncId}{fn:Func}(hf:P.funcs[f]? =some fn)(hn:(fn.name== "runtime.NumGoroutine")=false)(hb:fn.body.isSome=true)(hdr:gw.dr=false)(hc:AtoiDoes P gw f):OneF P gw f atoiFi:=by
 suffices hg:∀(x:ByteArray) (y:Int×Bool),atoiF x=some y->GivesO P gw f atoiFi x y from⟨fun g hg' k x y hy=>by cases hg';exact(hg x y hy).all rfl,fun h=>by cases h⟩
 intro x y hy' B S vs L H hS hL hm hH hA
 match vs,hA with
 | [v],hA=>
   obtain⟨⟨cs,rfl,_,hv⟩,rfl,rfl⟩:=hA
   cases(show cs=[Value.string x]from hv)
   unfold atoiF at hy'
   cases hb2:decide (x.size<=281474976710656)with
   |false=>rw[hb2]at hy';cases hy'
   |true=>
    rw[hb2]at hy'
    cases hy'
    refine Does.of_calls hf hn hb ((hc x B.w (B.hg _ (Kept.refl B)) (zgw hb2)).mono fun e w' he=> ?_)
    obtain⟨⟨v,rfl,hv⟩,hbel⟩:=he
    exact⟨(Kept.refl B).below hbel (fun e=>by rw[hdr]at e;cases e),zeP _ _ v hv⟩
theorem Af {ρ:Go.Shelf.Ren}(L:Go.Proofs.LaysC.n172 P ρ)(h:∀w,gw.p w->(∃tp p,w.var? P "strconv.ErrSyntax" =some #[.iface tp p])/\∃tp p,w.var? P "strconv.ErrRange" =some #[.iface tp p]):AtoiDoes P gw (ρ.f 172):=by
 intro s w hw hs
 obtain⟨⟨tp,p,h1⟩,tq,q,h2⟩:=h w hw
 unfold atoiR
 cases hc:Lib.atoiAll s.data.toList with
 |ok v=>
  refine(Go.Proofs.Any.strconv_Atoi_ok L s (by omega) v hc w).mono fun e w' he=> ?_
  obtain⟨rfl,rfl|⟨t,rfl⟩⟩:=he
  ·exact⟨⟨_,rfl,rfl⟩,Below.refl _ _⟩
  ·exact⟨⟨_,rfl,rfl⟩,Lib.bytesWorld_below _ _ _⟩
 |range=>
  refine(Go.Proofs.Any.strconv_Atoi_range_var L s hs hc tq q w h2).mono fun e w' he=> ?_
  obtain⟨N,rfl,_,_,hb⟩:=he
  exact⟨⟨_,rfl,rfl⟩,hb⟩
 |_=>
  refine(Go.Proofs.Any.strconv_Atoi_syntax_var L s hs hc tp p w h1).mono fun e w' he=> ?_
  obtain⟨N,rfl,_,_,hb⟩:=he
  exact⟨⟨_,rfl,rfl⟩,hb⟩
def Pw (s:ByteArray)(c:Int):Option Int:=some (Lib.indexByte s.data.toList c.toNat.toUInt8)
def indexByteFi:Fi:=⟨[.v .str false, .v (.int .u8) false],[(false,[⟨.int .i64,none⟩])],some (fun _ x=>Pw x.1 x.2), .skip,[],0,fun _=>none⟩
theorem zfx {B:Base gw}{w' :World}{S:Nat->Prop}(n:Int):ResR B w' S [(false,[⟨.int .i64,none⟩])] [] [] n (.int .i64 n):=by
 refine⟨S,[.int .i64 n],[],[],rfl,fun _ h=>h,fun _ h=> .inl h,List.nodup_nil, ?_,⟨rfl,rfl⟩,rfl⟩
 intro b hb;cases hb
theorem D5 {f:FuncId}{fn:Func}(hf:P.funcs[f]? =some fn)(hn:(fn.name== "runtime.NumGoroutine")=false)(hb:fn.body.isSome=true)
 (hc:∀(s:ByteArray) (c:Int) (w:World),Calls P f #[.string s, .int .u8 c] w fun e w' =>e= .returned (.int .i64 (Lib.indexByte s.data.toList c.toNat.toUInt8))/\w' =w):OneF P gw f indexByteFi:=by
 suffices hg:∀(s:ByteArray) (c:Int) (y:Int),Pw s c=some y->GivesO P gw f indexByteFi (s,c) y from⟨fun g hg' k x y hy=>by cases hg';exact(hg x.1 x.2 y hy).all rfl,fun h=>by cases h⟩
 intro s c y hy' B S vs L H hS hL hm hH hA
 match vs,hA with
 | [v,u],hA=>
   obtain⟨L1,L2,H1,H2,rfl,rfl,⟨⟨cs,rfl,_,hv⟩,rfl,rfl⟩,⟨⟨ds,rfl,_,hu⟩,rfl,rfl⟩⟩:=hA
   cases(show cs=[Value.string s]from hv)
   cases(show ds=[Value.int .u8 c]from hu)
   cases hy'
   refine Does.of_calls hf hn hb ((hc s c B.w).mono fun e w' he=> ?_)
   obtain⟨rfl,rfl⟩:=he
   exact⟨Kept.refl B,zfx _⟩
end
end Go.Vt
namespace Go.Vt
open Go.Proofs
open Go.Shelf Go.RowKit Go.Lib Go.Sort
variable {P:Program} {ρ:Ren}
theorem Mn (w:World)(t e ty:TypeId)(z:Value)(ht:P.underlying t=some (.slice e))(hv:∀w,(zeroValue e).run P w= .ok z w)(b o n c:Nat)(hn:0<n)(zs:List Value)(hz:(Builtin.zeroCells z.cells n).toList=zs)(h1:∀v∈zs,v.oneCell' =true)
 (hc:∀j,j<zs.length->(w.cell? ⟨b,o+j,none⟩).isSome=true) (hf:∀j,j<zs.length->w.frozen? ⟨b,o+j,none⟩=false):
 (Builtin.clear_ #[t] ty #[.slice (some ⟨b,o,none⟩) n c]).run P w= .ok (.tuple #[]) (w.setCells b o zs):=by
 have hst:=run_storeCells_cells (P:=P) b o zs 0 w (by simpa using hc) (by simpa using hf) h1
 simp only[Nat.add_zero]at hst
 obtain⟨m,rfl⟩:∃m,n=m+1:=⟨n-1,by omega⟩
 simp[Builtin.clear_,run_underlying ht,hv,hz,hst]
set_option maxHeartbeats 4000000 in
set_option maxRecDepth 1000000 in
theorem Hg (L:SlLaysE0.n45 P ρ)(k:Nat)(hk:0<k)(aE:∀w,(isAgg (ρ.t 23)).run P w= .ok true w)(zE:∀w,(Go.sizeOf (ρ.t 23)).run P w= .ok k w)(z:Value)(v23:∀w,(zeroValue (ρ.t 23)).run P w= .ok z w)(i0:TypeInfo)(hi0:P.info? (ρ.t 23)=some i0)(hz1:i0.size=k)
 (blk off cap n i j:Nat) (F:Array Value) (hF:F.size=n*k) (h1:∀v∈F.toList,v.oneCell' =true) (zs:List Value) (hzs:(Builtin.zeroCells z.cells (j-i)).toList=zs) (hzl:zs.length=(j-i)*k) (hz1' :∀v∈zs,v.oneCell' =true)
 (w:World) (hH:Holds id w blk off F) (hcap:n<=cap) (hm:n<=9223372036854775807) (hlt:i<j) (hj:j<=n):
 Calls P (ρ.f 45) #[.slice (some ⟨blk,off,none⟩) n cap, .int .i64 i, .int .i64 j] w fun e w' =>e= .returned (.slice (some ⟨blk,off,none⟩) (n-(j-i)) cap)/\w' =(w.drew.setCells blk (off+i*k) (F.toList.drop (j*k))).setCells blk (off+(n-(j-i))*k) zs:=by
 have mixed:=L.mixed;have t0:=L.t0;have a0:=L.a0;have z0:=L.z0;have v0:=L.v0;have t3:=L.t3;have a3:=L.a3;have z3:=L.z3;have v3:=L.v3;have t4:=L.t4;have a4:=L.a4;have z4:=L.z4;have v4:=L.v4;have t22:=L.t22;have a22:=L.a22;have z22:=L.z22;have v22:=L.v22
 have bnd:∀ {x y:Nat},x<=y->x*k<=y*k:=fun h=>Nat.mul_le_mul_right k h
 obtain⟨news,hnews⟩:∃news,news=F.toList.drop (j*k):=⟨_,rfl⟩
 have hlen:news.length=(n-j)*k:=by rw[hnews,zgR,zgW,hF,Nat.sub_mul]
 have hnj:(n-j)*k+j*k=n*k:=by rw[<-Nat.add_mul];congr 1;omega
 have hHd:∀t,t<F.size->w.drew.cell? ⟨blk,off+t,none⟩=some F[t]! /\w.drew.frozen? ⟨blk,off+t,none⟩=false:=fun t ht=>⟨(hH t ht).1,(hH t ht).2⟩
 have hget:∀t u,news[t]? =some u->t<(n-j)*k/\w.drew.cell? ⟨blk,off+(j*k+t),none⟩=some u:=by
  intro t u hu
  have ht:t<(n-j)*k:=by have:=(List.getElem?_eq_some_iff.1 hu).1;rwa [hlen]at this
  refine⟨ht, ?_⟩
  rw[(hHd (j*k+t) (by omega)).1]
  rw[hnews,List.getElem?_drop,zgX,Array.getElem?_eq_getElem (by omega)]at hu
  rw[getElem!_pos F (j*k+t) (by omega)]
  exact hu
 obtain⟨A,hA,hsrc⟩:∃A:Addr,(if cap=j then(some ⟨blk,off,none⟩:Option Addr)else some ⟨blk,off+j*k,none⟩)=some A/\Hid (∀t u,news[t]? =some u->w.drew.cell? (A.add t)=some u):=by
  by_cases h:cap=j
  ·refine⟨⟨blk,off,none⟩,by simp[h],fun t u hu=> ?_⟩
   have:=(hget t u hu).1
   have h0:n-j=0:=by omega
   rw[h0,Nat.zero_mul]at this
   omega
  ·exact⟨⟨blk,off+j*k,none⟩,by simp[h],fun t u hu=>by rw[Addr.add_lit,Nat.add_assoc];exact(hget t u hu).2⟩
 have s1:Hid (news.length=(n-j)*k):=hlen
 have s2:Hid (∀u∈news,u.oneCell' =true):=by
  intro u hu
  rw[hnews]at hu
  exact h1 u (List.mem_of_mem_drop hu)
 have hij:i*k<=j*k:=bnd (Nat.le_of_lt hlt)
 have s3:Hid (∀t,t<news.length->(w.drew.cell? ⟨blk,off+i*k+t,none⟩).isSome=true/\w.drew.frozen? ⟨blk,off+i*k+t,none⟩=false):=by
  intro t ht
  rw[hlen]at ht
  rw[Nat.add_assoc]
  exact⟨by rw[(hHd (i*k+t) (by omega)).1];rfl,(hHd (i*k+t) (by omega)).2⟩
 obtain⟨W1,hW1⟩:∃W1,W1=w.drew.setCells blk (off+i*k) news:=⟨_,rfl⟩
 have hH1:∀t,t<F.size->(W1.cell? ⟨blk,off+t,none⟩).isSome=true/\W1.frozen? ⟨blk,off+t,none⟩=false:=by
  have hHe:Holds id w.drew blk off F:=fun t ht=>⟨(hH t ht).1,(hH t ht).2⟩
  have e:W1=putRow id w.drew blk off (setMany F (i*k) news):=by
   rw[hW1]
   conv=>lhs;rw[<-putRow_self id w.drew blk off F hHe]
   exact setCells_putRow w.drew blk off news (i*k) F (by omega)
  have hH2:Holds id W1 blk off (setMany F (i*k) news):=by
   rw[e]
   exact holds_putRow id w.drew blk off F _ hHe (size_setMany _ _ _)
  intro t ht
  have:=hH2 t (by rw[size_setMany];exact ht)
  exact⟨by rw[this.1];rfl,this.2⟩
 have hcl:∀ty,(Builtin.clear_ #[ρ.t 22] ty #[.slice (some ⟨blk,off+(i+(n-j))*k,none⟩) (n-(i+(n-j))) (cap-(i+(n-j)))]).run P W1= .ok (.tuple #[]) (W1.setCells blk (off+(i+(n-j))*k) zs):=
  fun ty=>Mn W1 _ _ ty _ t22 v23 blk (off+(i+(n-j))*k) _ _ (by omega) zs (by rw[show n-(i+(n-j))=j-i by omega];exact hzs) hz1'
   (fun t ht=>by
     have e:(i+(n-j))*k+(j-i)*k=n*k:=by rw[<-Nat.add_mul];congr 1;omega
     rw[Nat.add_assoc];exact(hH1 _ (by omega)).1)
   (fun t ht=>by
     have e:(i+(n-j))*k+(j-i)*k=n*k:=by rw[<-Nat.add_mul];congr 1;omega
     rw[Nat.add_assoc];exact(hH1 _ (by omega)).2)
 have hW:Hid (W1=w.drew.setCells blk (off+i*k) news):=hW1
 have hic:i<=cap:=by omega
 have hjc:j<=cap:=by omega
 have hN:Hid (news=F.toList.drop (j*k)):=hnews
 clear hW1 hH1 hH hHd hget hnews hlen bnd hnj hij h1 hz1' hzs hzl hF
 obtain⟨_,_,FG⟩:=L.f45
 go_enter FG,SlBodyN.n45_ntmps ρ
 go_wp2_with fail
 go_region_law_o (refine step_append_room rfl (.tmp 22) (.tmp 25) (ρ.t 22) rfl (ρ.t 23) i0 k t22 hi0 hz1 blk off i cap (by simp[Act.eval,Act.put]) A (n-j) (cap-j) news (by simp[Act.eval,Act.put]) s1.out hsrc.out s2.out (by omega) s3.out ?_;rw[<-hW.out])
 go_wp2
 go_ret
 rw[<-hN.out,<-hW.out,show n-(j-i)=i+(n-j) by omega]
 exact⟨rfl,rfl⟩
end Go.Vt
namespace Go.Vt
open Go.RowKit Go.Sort
theorem Xe (b:Nat):∀(vs:List Value) (o:Nat) (w:World) (cs:Array Value) (E:TypeId),w.heap[b]? =some (.cells cs E (0,0))->(w.setCells b o vs).heap[b]? =some (.cells (setMany cs o vs) E (0,0))
 | [],_,_,_,_,h=>h
 |v::r,o,w,cs,E,h=>by
  rw[World.setCells,setMany]
  exact Xe b r (o+1) _ _ _ (by simp[World.setCell,Array.getElem?_modify,h])
theorem aU:∀(vs:List Value) (s:Nat) (F:Array Value),s+vs.length<=F.size->(setMany F s vs).toList=F.toList.take s++vs++F.toList.drop (s+vs.length)
 | [],s,F,h=>by simp[setMany]
 |v::r,s,F,h=>by
  have h' :s+(r.length+1)<=F.size:=by simpa using h
  rw[setMany,aU r (s+1) _ (by simp;omega)]
  have e1:(F.setIfInBounds s v).toList.take (s+1)=F.toList.take s++[v]:=by
   rw[Array.toList_setIfInBounds,List.take_add_one,List.take_set_of_le (zgC _),List.getElem?_set_self (by simp;omega)]
   rfl
  have e2:(F.setIfInBounds s v).toList.drop (s+1+r.length)=F.toList.drop (s+(v::r).length):=by
   rw[Array.toList_setIfInBounds,List.drop_set_of_lt (by omega)]
   congr 1
   simp;omega
  rw[e1,e2]
  simp
theorem OL.dropN {α:Type}{n:Nat}{p:α->List Value->List Nat->Prop}:∀ {xs:List α} {cs:List Value} (k:Nat),OL n p xs cs []->OL n p (xs.drop k) (cs.drop (k*n)) []
 | [],cs,k,h=>by rw[List.drop_nil];exact rfl
 |x::xs,cs,0,h=>by simpa using h
 |x::xs,cs,k+1,h=>by
  obtain⟨L1,L2,e,hl,hp,hr⟩:=h
  have e2:L2=[]:=(List.append_eq_nil_iff.1 e.symm).2
  subst e2
  have:=OL.dropN k hr
  rw[List.drop_drop]at this
  rw[List.drop_succ_cons,show(k+1)*n=n+k*n by rw[Nat.add_mul];omega]
  exact this
end Go.Vt
namespace Go.Vt
open Go.Proofs Go.Shelf Go.RowKit Go.Sort
variable {P:Program} {ρ:Ren} {gw:Gw}
def deleteF {α:Type}(x:List α×Int×Int):Option (List α):=
 bif decide (0<=x.2.1)&&decide (x.2.1<x.2.2)&&decide (x.2.2<=(x.1.length:Int))&&decide (x.1.length<=9223372036854775807)then some (x.1.take x.2.1.toNat++x.1.drop x.2.2.toNat)else none
def deleteFi (t:Ty):Fi:=⟨[.v (.slice t) false, .v (.int .i64) false, .v (.int .i64) false],[(false,[⟨.slice t,some (false,false)⟩])],some (fun _ x=>deleteF x), .skip,[],77777,fun _=>none⟩
theorem Ym (b:Nat):∀(vs:List Value) (o:Nat) (w:World),(w.setCells b o vs).os=w.os/\(w.setCells b o vs).tape=w.tape/\(w.setCells b o vs).output=w.output/\(w.setCells b o vs).heap.size=w.heap.size/\∀k,k≠b->(w.setCells b o vs).heap[k]? =w.heap[k]?
 | [],_,_=>⟨rfl,rfl,rfl,rfl,fun _ _=>rfl⟩
 |v::r,o,w=>by
  obtain⟨h1,h2,h3,h4,h5⟩:=Ym b r (o+1) (w.setCell ⟨b,o,none⟩ v)
  rw[World.setCells]
  refine⟨h1.trans rfl,h2.trans rfl,h3.trans rfl,h4.trans (by simp[World.setCell]),fun k hk=>(h5 k hk).trans ?_⟩
  simp[World.setCell,Array.getElem?_modify,Ne.symm hk]
theorem aX (b:Nat):∀(vs:List Value) (o:Nat) (w:World),(w.setCells b o vs).drawn=w.drawn
 | [],_,_=>rfl
 |v::r,o,w=>by rw[World.setCells,aX b r (o+1)];rfl
theorem Does.of_calls' {w:World}{f:FuncId}{fn:Func}{vs:Array Value}{R:Value->World->Prop}(hf:P.funcs[f]? =some fn)(hn:(fn.name== "runtime.NumGoroutine")=false)(hb:fn.body.isSome=true)
 (h:Calls P f vs w fun e w' =>match e with| .returned v=>R v w' |_=>False):Does P f vs w R:=by
 have hcall:(callFunc f vs).run P w= .ok (.enter f vs) w:=by
  simp only[callFunc,Sem.run_bind,program]
  have hname' :¬(fn.name== "runtime.NumGoroutine")=true:=by rw[hn];simp
  have hb' :¬fn.body.isNone=true:=by cases hfb:fn.body with
   |none=>rw[hfb]at hb;cases hb
   |some c=>simp
  simp only[Sem.run,hf,Result.andThen_ok]
  rw[zgH hname',zgH hb']
  simp[Sem.run,pure]
 unfold Does
 rw[hcall]
 exact h
theorem zdU {α:Type}{A R Z Y:List α}{m:Nat}(h:A.length=m):A.take m=(((A++R).take m++Z)++Y).take m:=by subst h;simp
theorem zc9 {t:Ty}(ht:t.flat=true)(hk:0<t.sz)(L:SlLaysE0.n45 P ρ)(aE:∀w,(isAgg (ρ.t 23)).run P w= .ok true w)(zE:∀w,(Go.sizeOf (ρ.t 23)).run P w= .ok t.sz w)(z:Value)(v23:∀w,(zeroValue (ρ.t 23)).run P w= .ok z w)(i0:TypeInfo)(hi0:P.info? (ρ.t 23)=some i0)(hz1:i0.size=t.sz)
 (hzl:∀n,(Builtin.zeroCells z.cells n).toList.length=n*t.sz) (hzo:∀n,∀v∈(Builtin.zeroCells z.cells n).toList,v.oneCell' =true) {fn:Func} (hf:P.funcs[ρ.f 45]? =some fn) (hn:(fn.name== "runtime.NumGoroutine")=false) (hb:fn.body.isSome=true):
 OneF P gw (ρ.f 45) (deleteFi t):=by
 suffices hg:∀(x:List t.den×Int×Int) (y:List t.den),deleteF x=some y->GivesG P gw (ρ.f 45) (deleteFi t) x y from
  ⟨fun g hg' k x y hy=>by cases hg';exact hg x y hy,fun h=>by cases h⟩
 rintro⟨xs,i,j⟩ y hy B S v us LL hS hL hm hH hA
 obtain⟨hrow,hA⟩:=hA
 match us,hA with
 | [u1,u2],hA=>
 obtain⟨⟨c1,rfl,_,h1⟩,⟨c2,rfl,_,h2⟩⟩:=hA
 cases(show c1=[Value.int .i64 i]from h1)
 cases(show c2=[Value.int .i64 j]from h2)
 unfold deleteF at hy
 cases hd:(decide (0<=i)&&decide (i<j)&&decide (j<=(xs.length:Int))&&decide (xs.length<=9223372036854775807))with
 |false=>rw[hd]at hy;cases hy
 |true=>
 rw[hd]at hy
 cases hy
 simp only[zgx,zgI]at hd
 obtain⟨⟨⟨d1,d2⟩,d3⟩,d4⟩:=hd
 obtain⟨a,rfl⟩:=Int.eq_ofNat_of_zero_le d1
 obtain⟨b',rfl⟩:=Int.eq_ofNat_of_zero_le (Int.le_trans d1 (Int.le_of_lt d2))
 have d2' :a<b' :=by omega
 have d3' :b' <=xs.length:=by omega
 have d4' :xs.length<=9223372036854775807:=d4
 rcases hrow with⟨_,h0,_⟩|⟨b,f0,cap,cs,E,Li,rfl,e2,e3,e4,rfl,e6⟩
 ·rw[show xs=[]from h0]at d3';simp at d3';omega
 have e7:=OL.flatly (e:=false) ht e6
 have hlen:xs.length*t.sz<=cs.size-f0:=by simpa using OL.len e7
 have hf0:f0<=cs.size:=by omega
 have hlen2:xs.length*t.sz<=(cs.toList.drop f0).length:=by simpa using hlen
 have bnd:∀ {x y:Nat},x<=y->x*t.sz<=y*t.sz:=fun h=>Nat.mul_le_mul_right t.sz h
 obtain⟨F,hFd⟩:∃F:Array Value,F=((cs.toList.drop f0).take (xs.length*t.sz)).toArray:=⟨_,rfl⟩
 have hF:F.size=xs.length*t.sz:=by rw[hFd,List.size_toArray,zgL,Nat.min_eq_left hlen2]
 have hFl:F.toList=(cs.toList.drop f0).take (xs.length*t.sz):=by rw[hFd]
 have hF1:∀v∈F.toList,v.oneCell' =true:=by rw[hFl];exact OL.ones e7
 have hHold:Holds id B.w b f0 F:=fun q hq=>by
  have hq' :f0+q<cs.size:=by rw[hF]at hq;omega
  constructor
  ·show B.w.cell? ⟨b,f0+q,none⟩=some F[q]!
   have:F[q]! =cs[f0+q]:=by
    rw[getElem!_pos F q hq]
    simp[hFd]
   rw[this]
   simp[World.cell?,e2,hq']
  ·simp[World.frozen?,e2]
 refine Does.of_calls' hf hn hb ((Hg L t.sz hk aE zE z v23 i0 hi0 hz1 b f0 cap xs.length a b' F hF hF1 _ rfl (hzl _) (hzo _) B.w hHold e4 d4' d2' d3').mono ?_)
 rintro e w' ⟨rfl,rfl⟩
 have k1:=Ym b (F.toList.drop (b' *t.sz)) (f0+a*t.sz) B.w.drew
 have k2:=Ym b (Builtin.zeroCells z.cells (b' -a)).toList (f0+(xs.length-(b' -a))*t.sz) (B.w.drew.setCells b (f0+a*t.sz) (F.toList.drop (b' *t.sz)))
 have hbm:=hm b (by simp)
 constructor
 ·exact⟨k2.1.trans (k1.1.trans rfl),k2.2.1.trans (k1.2.1.trans rfl),k2.2.2.1.trans (k1.2.2.1.trans rfl),by rw[k2.2.2.2.1,k1.2.2.2.1];exact zgC _,fun k hk hmk=>by
   have hne:k≠b:=fun e=>hmk (e▸hbm.1)
   exact(k2.2.2.2.2 k hne).trans ((k1.2.2.2.2 k hne).trans rfl),fun _=>by rw[aX,aX];exact Nat.le_succ _⟩
 ·have hsz:=Xe b (Builtin.zeroCells z.cells (b' -a)).toList (f0+(xs.length-(b' -a))*t.sz) _ _ _ (Xe b (F.toList.drop (b' *t.sz)) (f0+a*t.sz) B.w.drew cs E e2)
  have hl:(xs.take a++xs.drop b').length=xs.length-(b' -a):=by simp;omega
  refine⟨S,[.slice (some ⟨b,f0,none⟩) (xs.length-(b' -a)) cap],[b],[],rfl,fun _ h=>h,fun _ h=> .inl h,by simp,fun c hc=> ?_, ?_,rfl⟩
  ·have:c=b:=by simpa using hc
   subst this
   exact⟨hbm.1,by rw[k2.2.2.2.1,k1.2.2.2.1];exact hbm.2.1,hbm.2.2⟩
  ·have hl2:(xs.take a++xs.drop b').length<=cap:=by rw[hl];exact zg1 (Nat.sub_le _ _) e4
   refine⟨.inr ⟨b,f0,cap,_,E,[],congrArg (fun m=>Value.slice (some ⟨b,f0,none⟩) m cap) hl.symm,hsz,by simp[e3],hl2,rfl, ?_⟩,fun h=>by cases h⟩
   show OL t.sz (rowP _ S t false) (xs.take a++xs.drop b') ((setMany (setMany cs (f0+a*t.sz) (F.toList.drop (b' *t.sz))) (f0+(xs.length-(b' -a))*t.sz) (Builtin.zeroCells z.cells (b' -a)).toList).toList.drop f0) []
   have q1:a*t.sz<=b' *t.sz:=bnd (Nat.le_of_lt d2')
   have q2:b' *t.sz<=xs.length*t.sz:=bnd d3'
   have q3:(xs.length-(b' -a))*t.sz+(b' -a)*t.sz=xs.length*t.sz:=by rw[<-Nat.add_mul];congr 1;omega
   have q4:(xs.length-(b' -a))*t.sz=a*t.sz+(xs.length-b')*t.sz:=by rw[<-Nat.add_mul];congr 1;omega
   have q5:(xs.length-b')*t.sz+b' *t.sz=xs.length*t.sz:=by rw[<-Nat.add_mul];congr 1;omega
   have hnl:(F.toList.drop (b' *t.sz)).length=(xs.length-b')*t.sz:=by
    rw[zgR,zgW,hF];omega
   have hcl:cs.toList.length=cs.size:=rfl
   have g1:=aU (F.toList.drop (b' *t.sz)) (f0+a*t.sz) cs (by rw[hnl];omega)
   have g2:=aU (Builtin.zeroCells z.cells (b' -a)).toList (f0+(xs.length-(b' -a))*t.sz) (setMany cs (f0+a*t.sz) (F.toList.drop (b' *t.sz))) (by rw[hzl,size_setMany];omega)
   obtain⟨L',o1,o2,_⟩:=OL.takeN a e7
   have:L' =[]:=List.eq_nil_iff_forall_not_mem.2 fun x hx=>by have:=o2 x hx;cases this
   subst this
   have cutp:∀(l:List Value) (m:Nat) (X:List Value),f0<=l.length->(l.take (f0+m)++X).drop f0=(l.drop f0).take m++X:=fun l m X h=>by
    rw[List.drop_append_of_le_length (by rw[zgL];omega),List.drop_take,Nat.add_sub_cancel_left]
   have c1:(setMany cs (f0+a*t.sz) (F.toList.drop (b' *t.sz))).toList.drop f0=(cs.toList.drop f0).take (a*t.sz)++(F.toList.drop (b' *t.sz)++cs.toList.drop (f0+a*t.sz+(F.toList.drop (b' *t.sz)).length)):=by
    rw[g1,zgU,cutp _ _ _ (by rw[hcl];exact hf0)]
   have ha:(xs.take a).length=a:=by simp;omega
   have p1:OL t.sz (rowP B.w S t false) (xs.take a) ((cs.toList.drop f0).take (a*t.sz)) []:=OL.pre o1 (by rw[ha,List.take_take,Nat.min_self]) (by rw[ha,zgL];omega)
   have hdl:(xs.drop b').length*t.sz=(xs.length-b')*t.sz:=by rw[zgR]
   have p2:OL t.sz (rowP B.w S t false) (xs.drop b') (F.toList.drop (b' *t.sz)) []:=OL.pre (OL.dropN b' e7) (by rw[hdl,hFl,List.drop_take,List.take_take];congr 1;omega) (by rw[hdl,hnl];exact zgC _)
   have p3:=OL.append p1 (by rw[ha,zgL];omega) p2
   have p4:OL t.sz (rowP B.w S t false) (xs.take a++xs.drop b') ((setMany (setMany cs (f0+a*t.sz) (F.toList.drop (b' *t.sz))) (f0+(xs.length-(b' -a))*t.sz) (Builtin.zeroCells z.cells (b' -a)).toList).toList.drop f0) []:=by
    refine OL.pre p3 ?_ ?_
    ·rw[hl,g2,zgU,cutp _ _ _ (by rw[zgW,size_setMany];exact hf0),c1,<-zgU,<-zgU]
     exact zdU (by rw[zgA,zgL,hnl];omega)
    ·rw[hl,zgR];refine zg1 ?_ (Nat.le_of_eq (congrArg (·- f0) ((size_setMany _ _ _).trans (size_setMany _ _ _)).symm));omega
   exact OL.mapP p4 fun x c l _ hp=>Qn ht hp
abbrev El (t:Ty):=t.den×Value×List Nat
theorem OL.split {t:Ty}{p:t.den->List Value->List Nat->Prop}:∀ {xs:List t.den} {cs:List Value} {L:List Nat},OL 1 p xs cs L->
 ∃zs:List (El t),zs.map (·.1)=xs/\cs.take xs.length=zs.map (·.2.1)/\zs.flatMap (·.2.2)=L/\∀a∈zs,p a.1 [a.2.1] a.2.2
 | [],cs,L,h=>⟨[],rfl,by simp,by rw[show L=[]from h];rfl,fun a ha=>by cases ha⟩
 |x::xs,[],L,h=>by obtain⟨_,_,_,hn,_⟩:=h;simp at hn
 |x::xs,c::cs,L,h=>by
  obtain⟨L1,L2,rfl,hn,hp,h⟩:=h
  obtain⟨zs,h1,h2,h3,h4⟩:=OL.split (cs:=cs) h
  refine⟨(x,c,L1)::zs,by simp[h1],by simp[h2],by simp[h3],fun a ha=> ?_⟩
  rcases zgO.1 ha with rfl|ha
  ·exact hp
  ·exact h4 a ha
theorem OL.joins {t:Ty}{p:t.den->List Value->List Nat->Prop}:∀(zs:List (El t)) (rest:List Value),(∀a∈zs,p a.1 [a.2.1] a.2.2)->OL 1 p (zs.map (·.1)) (zs.map (·.2.1)++rest) (zs.flatMap (·.2.2))
 | [],rest,_=>rfl
 |a::zs,rest,h=>⟨a.2.2,zs.flatMap (fun a=>a.2.2),by simp,by simp,h a (by simp),by
  have:=OL.joins zs rest fun b hb=>h b (by simp[hb])
  simpa using this⟩
structure RowO (w:World)(S:Nat->Prop)(t:Ty)(deep:Bool)(b f cap:Nat)(cs:Array Value)(E:TypeId)(zs:List (El t)):Prop where
 heap:w.heap[b]? =some (.cells cs E (0,0))
 fit:f+cap<=cs.size
 len:zs.length<=cap
 cells:(cs.toList.drop f).take zs.length=zs.map (·.2.1)
 p:∀a∈zs,rowP w S t deep a.1 [a.2.1] a.2.2
variable {w:World} {S:Nat->Prop} {t:Ty} {deep:Bool}
theorem RowO.of (h1:t.sz=1){v:Value}{xs:List t.den}{L:List Nat}(h:ORow w t.sz (rowP w S t deep) v xs L):
 (v= .slice none 0 0/\xs=[]/\L=[])\/∃b f cap cs E zs,v= .slice (some ⟨b,f,none⟩) xs.length cap/\RowO w S t deep b f cap cs E zs/\zs.map (·.1)=xs/\L=b::zs.flatMap (·.2.2):=by
 rcases h with h|⟨b,f,cap,cs,E,Li,hv,hb,hf,hl,rfl,ho⟩
 ·exact .inl h
 ·rw[h1]at ho hf
  obtain⟨zs,e1,e2,e3,e4⟩:=OL.split ho
  have hl2:zs.length=xs.length:=by rw[<-e1,zgN]
  exact .inr ⟨b,f,cap,cs,E,zs,hv,⟨hb,by omega,by omega,by rw[hl2];exact e2,e4⟩,e1,by rw[e3]⟩
theorem RowO.row (h1:t.sz=1){b f cap:Nat}{cs:Array Value}{E:TypeId}{zs:List (El t)}(h:RowO w S t deep b f cap cs E zs):
 ORow w t.sz (rowP w S t deep) (.slice (some ⟨b,f,none⟩) zs.length cap) (zs.map (·.1)) (b::zs.flatMap (·.2.2)):=by
 refine .inr ⟨b,f,cap,cs,E,zs.flatMap (·.2.2),by rw[zgN],h.heap,by rw[h1,Nat.mul_one];exact h.fit,by rw[zgN];exact h.len,rfl, ?_⟩
 rw[h1]
 have:=OL.joins zs ((cs.toList.drop f).drop zs.length) h.p
 rw[<-h.cells,List.take_append_drop]at this
 exact this
variable {α:Type} [Inhabited α] {enc:α->Value}
theorem wU {b f m:Nat}{d:Array α}{os:Array Obj}{k:Nat}(hk:k<w.heap.size)(hne:k≠b):(sortWorld enc w b f m d os).heap[k]? =w.heap[k]? :=by
 unfold sortWorld grow putRow mapBlock Sort.ahead
 dsimp only
 rw[Array.getElem?_append_left (by simpa using hk),Array.getElem?_modify,zgH (Ne.symm hne)]
theorem Qj {b f m:Nat}{d:Array α}{os:Array Obj}{cs:Array Value}{E:TypeId}(hb:w.heap[b]? =some (.cells cs E (0,0))):(sortWorld enc w b f m d os).heap[b]? =some (.cells (Sort.putCells enc f d cs) E (0,0)):=by
 have hk:b<w.heap.size:=by
  rcases Nat.lt_or_ge b w.heap.size with h|h
  ·exact h
  ·rw[Array.getElem?_eq_none h]at hb;cases hb
 unfold sortWorld grow putRow mapBlock Sort.ahead
 dsimp only
 rw[Array.getElem?_append_left (by simpa using hk),Array.getElem?_modify,zgG rfl,hb]
 rfl
theorem Tc {gw:Gw}{B:Base gw}{b f m:Nat}{d:Array α}{os:Array Obj}(hb:B.mine b):Kept B (sortWorld enc B.w b f m d os):=by
 refine⟨rfl,rfl,rfl, ?_,fun k hk hn=>wU hk (fun e=>hn (e▸hb)), ?_⟩
 ·unfold sortWorld;rw[size_grow,Sort.size_putRow];exact Nat.le_add_right _ _
 ·intro _
  show B.w.drawn<=B.w.drawn+m
  omega
theorem DJ {f:Nat}{d:Array α}{cs:Array Value}(h:f+d.size<=cs.size):((Sort.putCells enc f d cs).toList.drop f).take d.size=d.toList.map enc:=by
 apply List.ext_getElem?
 intro j
 rw[List.getElem?_take]
 split
 ·rename_i hj
  have hj' :f+j<cs.size:=by omega
  rw[List.getElem?_drop,zgX,Sort.putCells,Array.getElem?_mapIdx,Array.getElem?_eq_getElem hj',List.getElem?_map,zgX,Array.getElem?_eq_getElem hj]
  simp only[Option.map_some]
  rw[zgG ⟨by omega,by omega⟩,Nat.add_sub_cancel_left,getElem!_pos d j hj]
 ·rename_i hj
  rw[List.getElem?_eq_none (by simp;omega)]
theorem G7 {f:Nat}{d:Array α}{cs:Array Value}:(Sort.putCells enc f d cs).size=cs.size:=by simp[Sort.putCells]
theorem RowO.holds {b f cap:Nat}{cs:Array Value}{E:TypeId}{zs:List (El t)}(h:RowO w S t deep b f cap cs E zs)(ds:List α)(e:ds.map enc=zs.map (·.2.1)):Holds enc w b f ds.toArray:=by
 have hl:ds.length=zs.length:=by have:=congrArg List.length e;simpa using this
 intro j hj
 have hj' :j<ds.length:=by simpa using hj
 constructor
 ·have h2:(cs.toList.drop f)[j]? =some (enc ds[j]):=by
   have h3:=congrArg (fun l=>l[j]?) h.cells
   simp only[List.getElem?_take]at h3
   rw[zgG (by omega),<-e,List.getElem?_map,zgD hj']at h3
   exact h3
  rw[List.getElem?_drop,zgX]at h2
  simp only[World.cell?,h.heap,Option.isSome_none,Bool.false_eq_true,if_false]
  rw[h2,getElem!_pos _ j hj]
  rfl
 ·simp[World.frozen?,h.heap]
theorem RowO.after {b f cap m:Nat}{cs:Array Value}{E:TypeId}{zs:List (El t)}(h:RowO w S t deep b f cap cs E zs)(d:Array α)(hd:d.size=zs.length)(zs' :List (El t))(hp:∀a∈zs',rowP w S t deep a.1 [a.2.1] a.2.2)
 (hk:(d.toList.map enc).take zs'.length=zs'.map (·.2.1)) (hlen:zs'.length<=zs.length) (hS:∀k,S k->k<w.heap.size/\k≠b) (hL:∀a∈zs',∀k∈a.2.2,k<w.heap.size/\k≠b) (os:Array Obj):
 RowO (sortWorld enc w b f m d os) S t deep b f cap (Sort.putCells enc f d cs) E zs' :=by
 have hfit:=h.fit
 have hl:=h.len
 refine⟨Qj h.heap,by rw[G7];exact h.fit,by omega, ?_,fun a ha=> ?_⟩
 ·have:=congrArg (List.take zs'.length) (DJ (enc:=enc) (f:=f) (d:=d) (cs:=cs) (by omega))
  rw[List.take_take,Nat.min_eq_left (by omega)]at this
  rw[this,hk]
 ·exact rowP.tell (fun k hk2=>wU (hS k hk2).1 (hS k hk2).2) (fun _ h=>h) (fun k hk2=>wU (hL a ha k hk2).1 (hL a ha k hk2).2) (hp a ha)
theorem zbe {W w' :World}(h:KeptW true W (fun b=>W.heap.size<=b) w'):∃q os,w' =grow (W.drewN q) os:=by
 refine⟨w'.drawn-W.drawn,w'.heap.extract W.heap.size w'.heap.size, ?_⟩
 have hh:w'.heap=W.heap++w'.heap.extract W.heap.size w'.heap.size:=by
  apply Array.ext_getElem?
  intro i
  by_cases hi:i<W.heap.size
  ·rw[Array.getElem?_append_left hi]
   exact h.block i hi (by omega)
  ·rw[Array.getElem?_append_right (by omega),Array.getElem?_extract]
   have:=h.size
   by_cases hi2:i<w'.heap.size
   ·rw[zgG (by omega)]
    congr 1
    omega
   ·rw[zgH (by omega),Array.getElem?_eq_none (by omega)]
 have hd:=h.drawn rfl
 obtain⟨heap,tape,drawn,os,output⟩:=w'
 have e1:os=W.os:=h.os
 have e2:tape=W.tape:=h.tape
 have e3:output=W.output:=h.output
 subst e1 e2 e3
 unfold grow World.drewN
 dsimp only at hh hd⊢
 congr 1
 omega
abbrev ints:Ty:= .slice (.int .i64)
abbrev g1:Gw:=⟨fun _=>True,true⟩
theorem calls2 {P:Program}{g:Nat}{r:Ty}{ext c res nt hs}{x y:List Int}{z:r.den}
 (hg:GivesO P g1 g ⟨[.v ints false, .v ints false],[(false,[⟨r,none⟩])],ext,c,res,nt,hs⟩ (x,y) z) (hr:r.flat=true) {W:World} (eg:∀args w,(callFunc g args).run P w= .ok (.enter g args) w)
 {v1 v2:Value} (h1:VR W (fun b=>b<W.heap.size) ints x [v1]) (h2:VR W (fun b=>b<W.heap.size) ints y [v2]):
 Calls P g #[v1,v2] W fun e w' =>(∃u,e= .returned u/\VR w' (fun _=>True) r z [u])/\∃q os,w' =grow (W.drewN q) os:=by
 have h:=hg ⟨W,fun b=>W.heap.size<=b,fun _ h=>h,fun _ _=>trivial,[]⟩ (fun b=>b<W.heap.size) [v1,v2] [] [] (fun _ h=>h) List.nodup_nil (fun b hb=>by cases hb) rfl
  ⟨[],[],[],[],rfl,rfl,⟨⟨[v1],rfl,fun _=>rfl,h1⟩,rfl,rfl⟩,⟨⟨[v2],rfl,fun _=>rfl,h2⟩,rfl,rfl⟩⟩
 unfold Does at h
 rw[eg]at h
 refine h.mono fun e w' hh=> ?_
 cases e with
 |panicked c=>exact hh.elim
 |outgrown=>exact hh.elim
 |returned v=>
  obtain⟨hk,S',vs,L,M,rfl,_,_,_,_,hR,_⟩:=hh
  refine⟨?_,zbe hk⟩
  match vs,hR with
  | [u],hR=>
    refine⟨u,rfl, ?_⟩
    have h3:VR w' S' r z [u]:=by
     cases r with
     |slice t=>cases hr
     |set=>cases hr
     |err=>exact hR.1
     |int k=>exact hR.1
     |bool=>exact hR.1
     |str=>exact hR.1
     |pair a b=>exact hR.1
    exact VR.mono (Same.refl _ _) (fun _ _=>trivial) h3
variable {P:Program} {ρ:Ren} {gw:Gw}
theorem zcK {B:Base gw}{S:Nat->Prop}{t:Ty}{deep:Bool}(h1:t.sz=1){α:Type}[Inhabited α]{enc:α->Value}{b f cap:Nat}{cs:Array Value}{E:TypeId}{zs zs' :List (El t)}(hR:RowO B.w S t deep b f cap cs E zs)
 (hL:(b::zs.flatMap (·.2.2)).Nodup) (hm:∀k∈b::zs.flatMap (·.2.2),B.mine k/\k<B.w.heap.size/\¬S k) (hS:∀k,S k->k<B.w.heap.size) (hp:zs'.Perm zs) (d:Array α) (hd:d.toList.map enc=zs'.map (·.2.1)) (m:Nat) (os:Array Obj):
 Kept B (sortWorld enc B.w b f m d os)/\ResR B (sortWorld enc B.w b f m d os) S [] [⟨.slice t,some (deep,false)⟩] [.slice (some ⟨b,f,none⟩) zs.length cap] ((),zs'.map (·.1)) (.tuple #[]):=by
 have hb:=hm b (by simp)
 have hk:=Tc (enc:=enc) (f:=f) (m:=m) (d:=d) (os:=os) hb.1
 refine⟨hk, ?_⟩
 have hdl:d.size=zs.length:=by
  have:=congrArg List.length hd
  simp only[zgN,zgW]at this
  rw[this,hp.length_eq]
 have hpf:=hp.flatMap_right (·.2.2)
 have hM:∀k∈b::zs'.flatMap (·.2.2),k∈b::zs.flatMap (·.2.2):=fun k hk=>by
  rcases zgO.1 hk with rfl|hk
  ·simp
  ·exact zg3 _ ((hpf.mem_iff).1 hk)
 have hr:=RowO.row h1 (hR.after (enc:=enc) (m:=m) d hdl zs' (fun a ha=>hR.p a (hp.mem_iff.1 ha)) (by rw[hd,zgT (by simp)]) (Nat.le_of_eq hp.length_eq)
  (fun k hk=>⟨hS k hk,fun e=>hb.2.2 (e▸hk)⟩) (fun a ha k hk2=>⟨(hm k (hM k (zg3 _ (zgP.2 ⟨a,ha,hk2⟩)))).2.1,fun e=>by
    have h2:=(zgV.1 hL).1
    exact h2 (hpf.mem_iff.1 (e▸zgP.2 ⟨a,ha,hk2⟩))⟩) os)
 refine⟨S,[],[],b::zs'.flatMap (·.2.2),rfl,fun _ h=>h,fun _ h=> .inl h, ?_,fun c hc=> ?_,rfl, ?_⟩
 ·rw[List.nil_append]
  exact(List.Perm.nodup_iff (List.Perm.cons b hpf)).2 hL
 ·rw[List.nil_append]at hc
  have:=hm c (hM c hc)
  exact⟨this.1,Nat.lt_of_lt_of_le this.2.1 hk.size,this.2.2⟩
 ·rw[hp.length_eq]at hr
  exact⟨hr,fun h=>by cases h⟩
def reverseF (x:List Int):Option (Unit×List Int):=bif decide (x.length<=9223372036854775807)then some ((),x.reverse)else none
def reverseFi:Fi:=⟨[.o [.o (.int .i64) false] false],[],some (fun _ x=>reverseF x), .skip,[],0,fun _=>none⟩
theorem za4 (L:SlLaysE.n35 P ρ){fn:Func}(hf:P.funcs[ρ.f 35]? =some fn)(hn:(fn.name== "runtime.NumGoroutine")=false)(hb:fn.body.isSome=true):OneF P gw (ρ.f 35) reverseFi:=by
 suffices hg:∀(x:List Int) (y:Unit×List Int),reverseF x=some y->GivesO P gw (ρ.f 35) reverseFi x y from⟨fun g hg' k x y hy=>by cases hg';exact(hg x y hy).all rfl,fun h=>by cases h⟩
 intro xs y hy B S vs LL H hS hL hm hH hA
 match vs,hA with
 | [v],hA=>
 obtain⟨us,e,hl,hpc,hHe⟩:=hA
 have hl:=hl rfl
 match us,hl,e,hpc,hHe with
 | [u],_,e,hpc,hHe=>
 have e:v=u:=e
 have hHe:H=[u]:=hHe
 subst e
 subst hHe
 have hpc:ORow B.w (Ty.int .i64).sz (rowP B.w S (.int .i64) false) v xs LL:=hpc
 unfold reverseF at hy
 cases hd:decide (xs.length<=9223372036854775807)with
 |false=>rw[hd]at hy;cases hy
 |true=>
 rw[hd]at hy
 cases hy
 have hd:=zgw hd
 rcases RowO.of rfl hpc with⟨rfl,rfl,rfl⟩|⟨b,f,cap,cs,E,zs,rfl,hR,e1,rfl⟩
 ·refine Does.of_calls' hf hn hb ((AnyE.slices_Reverse_empty L none 0 B.w).mono ?_)
  rintro e w' ⟨rfl,rfl⟩
  exact⟨Kept.refl B,S,[],[],[],rfl,fun _ h=>h,fun _ h=> .inl h,List.nodup_nil,(fun c hc=>by cases hc),rfl, .inl ⟨rfl,rfl,rfl⟩,fun h=>by cases h⟩
 ·have hl:zs.length=xs.length:=by rw[<-e1,zgN]
  let G:El (.int .i64)->Prop:=fun a=>rowP B.w S (.int .i64) false a.1 [a.2.1] a.2.2
  have:Inhabited {a:El (.int .i64)//G a}:=⟨⟨((0:Int), .int .i64 0,[]),⟨rfl,rfl⟩⟩⟩
  let ds:List {a:El (.int .i64)//G a}:=zs.attachWith G hR.p
  have hds:ds.map Subtype.val=zs:=List.attachWith_map_subtype_val hR.p
  have hdl:ds.length=xs.length:=by rw[<-hl,<-hds,zgN]
  let enc: {a:El (.int .i64)//G a}->Value:=fun a=>a.1.2.1
  have henc:ds.map enc=zs.map (·.2.1):=by rw[<-hds,List.map_map];rfl
  have h1:OneCell enc:=fun a=>by
   have h3:rowP B.w S (.int .i64) false a.1.1 [a.1.2.1] a.1.2.2:=a.2
   have h4:[a.1.2.1]=[Value.int .i64 a.1.1]:=h3.1
   show(a.1.2.1).oneCell' =true
   rw[List.cons.inj h4|>.1]
   rfl
  have hc:=AnyE.slices_Reverse L enc h1 b f cap ds B.w (hR.holds ds henc) (by omega)
  rw[hdl]at hc
  refine Does.of_calls' hf hn hb (hc.mono ?_)
  rintro e w' ⟨rfl,n,rfl⟩
  have hw:putRow enc (Sort.ahead B.w n) b f ds.reverse.toArray=sortWorld enc B.w b f n ds.reverse.toArray #[]:=by unfold sortWorld;rw[grow_empty]
  have:=zcK rfl hR hL hm hS (List.reverse_perm zs) (enc:=enc) ds.reverse.toArray (by rw[List.map_reverse,henc,List.map_reverse]) n #[]
  rw[<-hw,hl]at this
  rw[List.map_reverse,e1]at this
  exact this
def cmpI:List Int->List Int->Int
 | [],b=>if 0<b.length then-1 else 0
 |_::_,[]=>1
 |x::a,y::b=>if x=y then cmpI a b else if x<y then-1 else 1
theorem uN:∀a,¬cmpI a a<0
 | []=>by simp[cmpI]
 |x::a=>by unfold cmpI;rw[zgG rfl];exact uN a
theorem gr:∀a b c,cmpI a b<0->cmpI b c<0->cmpI a c<0
 | [],[],_,h,_=>by simp[cmpI]at h
 | [],_::_,[],_,h=>by simp[cmpI]at h
 | [],_::_,_::_,_,_=>by simp[cmpI]
 |_::_,[],_,h,_=>by simp[cmpI]at h
 |_::_,_::_,[],_,h=>by simp[cmpI]at h
 |x::a,y::b,z::c,h,k=>by
  unfold cmpI at h k⊢
  split at h<;>split at k<;>try split at h
  all_goals (try split at k)
  all_goals (split<;>try split)
  all_goals first|omega|exact gr a b c h k|skip
theorem SB:∀a b c,¬cmpI a b<0->¬cmpI b c<0->¬cmpI a c<0
 | [],[],[],_,_=>by simp[cmpI]
 | [],[],_::_,_,h=>by simp[cmpI]at h
 | [],_::_,_,h,_=>by simp[cmpI]at h
 |_::_,_,[],_,_=>by simp[cmpI]
 |_::_,[],_::_,_,h=>by simp[cmpI]at h
 |x::a,y::b,z::c,h,k=>by
  unfold cmpI at h k⊢
  split at h<;>split at k<;>try split at h
  all_goals (try split at k)
  all_goals (split<;>try split)
  all_goals first|omega|exact SB a b c h k|skip
theorem JS:∀a b,¬cmpI a b<0->¬cmpI b a<0->a=b
 | [],[],_,_=>rfl
 | [],_::_,h,_=>by simp[cmpI]at h
 |_::_,[],_,h=>by simp[cmpI]at h
 |x::a,y::b,h,k=>by
  unfold cmpI at h k
  by_cases e:x=y
  ·subst e
   rw[zgG rfl]at h k
   rw[JS a b h k]
  ·rw[zgH e]at h
   rw[zgH (Ne.symm e)]at k
   split at h<;>split at k<;>omega
def leI (x y:List Int):Bool:= !decide (cmpI y x<0)
def SM (l:List (List Int)):List (List Int):=l.mergeSort leI
theorem KU (a b c:List Int)(h:leI a b=true)(k:leI b c=true):leI a c=true:=by
 unfold leI at*
 simp only[Bool.not_eq_true',decide_eq_false_iff_not]at*
 exact SB c b a k h
theorem zcE (a b:List Int):(leI a b||leI b a)=true:=by
 unfold leI
 by_cases h:cmpI b a<0
 ·have:¬cmpI a b<0:=fun k=>uN a (gr a b a k h)
  simp[h,this]
 ·simp[h]
theorem zek {a b:List Int}(h:leI a b=true)(k:leI b a=true):a=b:=by
 unfold leI at*
 simp only[Bool.not_eq_true',decide_eq_false_iff_not]at*
 exact JS a b k h
theorem Zx (l:List (List Int)):(SM l).Perm l:=List.mergeSort_perm l leI
theorem Wh (l:List (List Int)):(SM l).Pairwise (fun a b=>leI a b=true):=List.pairwise_mergeSort KU zcE l
theorem E2 {l m:List (List Int)}(hp:m.Perm l)(hs:m.Pairwise (fun a b=>leI a b=true)):m=SM l:=
 List.Perm.eq_of_pairwise (le:=fun a b=>leI a b=true) (fun a b _ _ h k=>zek h k) hs (Wh l) (hp.trans (Zx l).symm)
def Ni (x:List (List Int)):Bool:=decide (x.length<=4611686018427387903)&&x.all fun l=>decide (l.length<=9223372036854775807)
def Bi (x:List (List Int)):Option (Unit×List (List Int)):=bif Ni x then some ((),SM x)else none
def sortFi (g:Nat):Fi:=⟨[.o [.o ints true] false, .fn g []],[],some (fun _ x=>Bi x.1), .skip,[],0,fun _=>none⟩
theorem za7 {w:World}{t:Ty}{x:List t.den}{v:Value}{L:List Nat}(h:OT w (.slice t) x [v] L):v.oneCell' =true:=by
 obtain⟨v',e,h⟩:=h
 cases(List.cons.inj e).1
 rcases h with⟨rfl,_,_⟩|⟨b,f,cap,c,E,Li,rfl,_⟩<;>rfl
def Elem (w:World)(S:Nat->Prop)(b:Nat)(a:El ints):Prop:=rowP w S ints true a.1 [a.2.1] a.2.2/\(∀k∈a.2.2,k<w.heap.size/\k≠b)/\(a.1:List Int).length<=9223372036854775807
instance {w:World}{S:Nat->Prop}{b:Nat}:Inhabited {a:El ints//Elem w S b a}:=
 ⟨⟨(([]:List Int), .slice none 0 0,[]),⟨⟨_,rfl, .inl ⟨rfl,rfl,rfl⟩⟩,(fun k hk=>by cases hk),Nat.zero_le _⟩⟩⟩
abbrev P1 {w:World}{S:Nat->Prop}{b:Nat}(a: {a:El ints//Elem w S b a}):Value:=a.1.2.1
theorem A8 {w:World}{S:Nat->Prop}{b:Nat}:OneCell (P1 (w:=w) (S:=S) (b:=b)):=fun a=>za7 (show OT w ints a.1.1 [a.1.2.1] a.1.2.2 from a.2.1)
theorem Qr {w:World}{S:Nat->Prop}{b f m:Nat}{d:Array {a:El ints//Elem w S b a}}{os:Array Obj}(a: {a:El ints//Elem w S b a}):
 VR (sortWorld P1 w b f m d os) (fun k=>k<(sortWorld P1 w b f m d os).heap.size) ints a.1.1 [P1 a]:=by
 have h:OT w ints a.1.1 [a.1.2.1] a.1.2.2:=a.2.1
 refine(OT.same h fun k hk=>wU (a.2.2.1 k hk).1 (a.2.2.1 k hk).2).read fun k hk=> ?_
 refine Nat.lt_of_lt_of_le (a.2.2.1 k hk).1 ?_
 unfold sortWorld;rw[size_grow,Sort.size_putRow];exact Nat.le_add_right _ _
theorem zdV {w:World}{S:Nat->Prop}{b:Nat}:SWO (ltOf fun(x y: {a:El ints//Elem w S b a})=>cmpI x.1.1 y.1.1) where
 irrefl x:=by unfold ltOf;simp[uN]
 trans x y z h1 h2:=by unfold ltOf at*;simp only[zgI]at*;exact gr _ _ _ h1 h2
 ntrans x y z h1 h2:=by unfold ltOf at*;simp only[decide_eq_false_iff_not]at*;exact SB _ _ _ h1 h2
theorem zfl (L:SlLaysF.n6 P ρ){fn:Func}(hf:P.funcs[ρ.f 6]? =some fn)(hn:(fn.name== "runtime.NumGoroutine")=false)(hb:fn.body.isSome=true)
 {g:Nat} (eg:∀args w,(callFunc g args).run P w= .ok (.enter g args) w) {ext c res nt hs}
 (hcmp:∀x y:List Int,x.length<=9223372036854775807->y.length<=9223372036854775807->GivesO P g1 g ⟨[.v ints false, .v ints false],[(false,[⟨.int .i64,none⟩])],ext,c,res,nt,hs⟩ (x,y) (cmpI x y)):
 OneF P gw (ρ.f 6) (sortFi g):=by
 suffices hg:∀(x:List (List Int)×Bool) (y:Unit×List (List Int)),Bi x.1=some y->GivesO P gw (ρ.f 6) (sortFi g) x y from⟨fun g hg' k x y hy=>by cases hg';exact(hg x y hy).all rfl,fun h=>by cases h⟩
 rintro⟨xs,fx⟩ y hy B S vs LL H hS hL hm hH hA
 match vs,hA with
 | [v,u2],hA=>
 obtain⟨L1,L2,H1,H2,rfl,rfl,⟨us,e,hl,hpc,hHe⟩,⟨ps,e2,hcap⟩,rfl,rfl⟩:=hA
 have hl:=hl rfl
 have hps:ps=[]:=by
  cases ps with
  |nil=>rfl
  |cons p r=>cases r<;>exact hcap.elim
 subst hps
 subst e2
 match us,hl,e,hpc,hHe with
 | [u],_,e,hpc,hHe=>
 have e:v=u:=e
 have hHe:H1=[u]:=hHe
 subst e
 subst hHe
 rw[List.append_nil]at hL hm
 have hpc:ORow B.w ints.sz (rowP B.w S ints true) v xs L1:=hpc
 have hy:Bi xs=some y:=hy
 unfold Bi at hy
 cases hd:Ni xs with
 |false=>rw[hd]at hy;cases hy
 |true=>
 rw[hd]at hy
 cases hy
 unfold Ni at hd
 simp only[zgx,zgI,zgS]at hd
 obtain⟨hd1,hd2⟩:=hd
 rcases RowO.of rfl hpc with⟨rfl,rfl,rfl⟩|⟨b,f,cap,cs,E,zs,rfl,hR,e1,rfl⟩
 ·refine Does.of_calls' hf hn hb ((AnyF.slices_SortFunc_none (P:=P) (ρ:=ρ) { L with} none 0 (.func (.func g) #[] #[]) B.w).mono ?_)
  rintro e w' ⟨rfl,rfl⟩
  exact⟨Kept.refl B,S,[],[],[],rfl,fun _ h=>h,fun _ h=> .inl h,List.nodup_nil,(fun c hc=>by cases hc),rfl, .inl ⟨rfl,(show SM []=[] by simp[SM]),rfl⟩,fun h=>by cases h⟩
 ·have hl:zs.length=xs.length:=by rw[<-e1,zgN]
  have hG:∀a∈zs,Elem B.w S b a:=fun a ha=>⟨hR.p a ha,fun k hk=>⟨(hm k (zg3 _ (zgP.2 ⟨a,ha,hk⟩))).2.1,fun e=>(zgV.1 hL).1 (e▸zgP.2 ⟨a,ha,hk⟩)⟩,hd2 a.1 (by rw[<-e1];exact zgY.2 ⟨a,ha,rfl⟩)⟩
  let ds:List {a:El ints//Elem B.w S b a}:=zs.attachWith _ hG
  have hds:ds.map Subtype.val=zs:=List.attachWith_map_subtype_val hG
  have hdl:ds.length=xs.length:=by rw[<-hl,<-hds,zgN]
  have henc:ds.map P1=zs.map (·.2.1):=by rw[<-hds,List.map_map];rfl
  have hbm:=hm b (by simp)
  have hcl:CmpLays1 P g #[] (P1 (w:=B.w) (S:=S) (b:=b)) (fun x y=>cmpI x.1.1 y.1.1) b f ds.toArray.size B.w:=fun m os dk hdk x y=>by
   have:=calls2 (hcmp x.1.1 y.1.1 x.2.2.2 y.2.2.2) rfl eg (Qr (f:=f) (m:=m) (d:=dk) (os:=os) x) (Qr y)
   refine this.mono fun e w' hh=> ?_
   obtain⟨⟨u,rfl,hu⟩,q,os',hw⟩:=hh
   have hu:[u]=[Value.int .i64 (cmpI x.1.1 y.1.1)]:=hu
   exact⟨by rw[(List.cons.inj hu).1],q,os',hw⟩
  have hc:=Any.slices_SortFunc L P1 A8 (fun x y=>cmpI x.1.1 y.1.1) zdV g #[] b f cap ds.toArray B.w eg hcl (hR.holds ds henc) hbm.2.1 (by rw[List.size_toArray];omega)
  have hsz:ds.toArray.size=xs.length:=by simpa using hdl
  rw[hsz]at hc
  refine Does.of_calls' hf hn hb (hc.mono ?_)
  rintro e w' ⟨rfl,d',n,os,⟨hp1,_,hp3⟩,hs,rfl⟩
  have hperm:d'.toList.Perm ds:=by
   have e1:d'.extract 0 xs.length=d' :=by rw[<-hsz,<-hp1];exact Array.extract_size
   have e2:ds.toArray.extract 0 xs.length=ds.toArray:=by rw[<-hsz];exact Array.extract_size
   rw[e1,e2]at hp3
   exact hp3
  have hzp:(d'.toList.map Subtype.val).Perm zs:=by rw[<-hds];exact hperm.map _
  have hres:=zcK rfl hR hL hm hS hzp (enc:=P1) d' (by rw[List.map_map];rfl) n os
  have hsort:(d'.toList.map Subtype.val).map (·.1)=SM xs:=by
   refine E2 (by rw[<-e1];exact hzp.map _) ?_
   rw[List.map_map,List.pairwise_map,List.pairwise_iff_getElem]
   intro i j hi hj hij
   have hi' :i<d'.size:=by simpa using hi
   have hj' :j<d'.size:=by simpa using hj
   have:=hs i j (Nat.zero_le _) hij (by rw[<-hsz,<-hp1];exact hj')
   rw[getElem!_pos d' j hj',getElem!_pos d' i hi']at this
   unfold ltOf at this
   unfold leI
   simp only[Bool.not_eq_true']
   simpa using this
  rw[hsort,hl]at hres
  exact hres
variable {P:Program} {ρ:Ren} {gw:Gw}
def BV (n:Int):Option (List Int):=bif decide (0<=n)&&decide (n<=1048576)then some []else none
def growFi:Fi:=⟨[.z (.int .i64), .v (.int .i64) false],[(false,[⟨.slice (.int .i64),some (true,false)⟩])],some (fun _ x=>BV x.2), .skip,[],0,fun _=>none⟩
theorem zfC (L:Lays8.n4 P ρ)(i0:TypeInfo)(z:Value)(hi0:P.info? (ρ.t 25)=some i0)(hz0:i0.zero=some z)(hs1:i0.size=1)(hb8:i0.bytes=8)(hzl:∀n,(Builtin.zeroCells z.cells n).size=n)
 {fn:Func} (hf:P.funcs[ρ.f 4]? =some fn) (hn:(fn.name== "runtime.NumGoroutine")=false) (hb:fn.body.isSome=true):OneF P gw (ρ.f 4) growFi:=by
 suffices hg:∀(x:List Int×Int) (y:List Int),BV x.2=some y->GivesO P gw (ρ.f 4) growFi x y from⟨fun g hg' k x y hy=>by cases hg';exact(hg x y hy).all rfl,fun h=>by cases h⟩
 rintro⟨xs,n⟩ y hy B S vs LL H hS hL hm hH hA
 match vs,hA with
 | [v,u2],hA=>
 obtain⟨L1,L2,H1,H2,rfl,rfl,⟨⟨hv,hx⟩,rfl,rfl⟩,⟨⟨c2,e2,_,h2⟩,rfl,rfl⟩⟩:=hA
 cases(show c2=[Value.int .i64 n]from h2)
 subst hv
 have e2:u2=Value.int .i64 n:=e2
 subst e2
 have hy:BV n=some y:=hy
 unfold BV at hy
 cases hd:(decide (0<=n)&&decide (n<=1048576))with
 |false=>rw[hd]at hy;cases hy
 |true=>
 rw[hd]at hy
 cases hy
 simp only[zgx,zgI]at hd
 obtain⟨d1,d2⟩:=hd
 obtain⟨m,rfl⟩:=Int.eq_ofNat_of_zero_le d1
 by_cases h0:m=0
 ·subst h0
  refine Does.of_calls' hf hn hb ((Any8.slices_Grow_room L none 0 0 0 B.w (zgC _) (by omega) (by omega) (by omega)).mono ?_)
  rintro e w' ⟨rfl,rfl⟩
  exact⟨Kept.refl B,S,[.slice none 0 0],[],[],rfl,fun _ h=>h,fun _ h=> .inl h,List.nodup_nil,(fun c hc=>by cases hc),⟨.inl ⟨rfl,rfl,rfl⟩,fun h=>by cases h⟩,rfl⟩
 ·refine Does.of_calls' hf hn hb ((Any8.slices_Grow_grow L i0 z hi0 hz0 (by omega) none 0 0 m [] B.w (zgC _) (by omega) (by rw[hb8];omega) (by omega) (by simp) (fun _=>rfl) (fun a h=>by cases h)).mono ?_)
  rintro e w' ⟨rfl,rfl⟩
  have hk:Kept B (B.w.drew.alloc (.cells (([]:List Value).toArray++Builtin.zeroCells z.cells (0+m-0)++Builtin.zeroCells z.cells (grownCap B.w (0+m) 0 (ρ.t 25)-(0+m))) (ρ.t 25))):=(KeptW.drew (Kept.refl B)).alloc _
  have hG:=grownCap_ge B.w (0+m) 0 (ρ.t 25)
  refine⟨hk,S,[.slice (some ⟨B.w.heap.size,0,none⟩) 0 (grownCap B.w (0+m) 0 (ρ.t 25))],[B.w.heap.size],[],rfl,fun _ h=>h,fun _ h=> .inl h,by simp,fun c hc=> ?_,⟨.inr ⟨B.w.heap.size,0,grownCap B.w (0+m) 0 (ρ.t 25),_,ρ.t 25,[],rfl,by
   exact Array.getElem?_push_size, ?_,Nat.zero_le _,rfl,rfl⟩,fun h=>by cases h⟩,rfl⟩
  ·have:c=B.w.heap.size:=by simpa using hc
   subst this
   exact⟨B.up _ (zgC _),(by show B.w.heap.size<(Array.push _ _).size;rw[Array.size_push];exact Nat.lt_succ_self _),fun hs=>Nat.lt_irrefl _ (hS _ hs)⟩
  ·show 0+grownCap B.w (0+m) 0 (ρ.t 25)*1<=_
   rw[Array.size_append,Array.size_append,hzl,hzl,show(([]:List Value).toArray).size=0 from rfl]
   omega
def h0:Nat->Option (List Hint):=fun _=>none
def fiOf (fn:Func)(ps:List PT)(rs:List (Bool×List RC))(h:Nat->Option (List Hint)):Fi:=⟨ps,rs,none,(fn.body).getD .skip,fn.results.toList,fn.ntmps,h⟩
def okB (fn:Func)(ps:List PT):Bool:= !(fn.name== "runtime.NumGoroutine")&&(fn.body.isSome&&Nat.ble ps.length fn.ntmps)
def BK:Code->Nat->List Item->Option (List Item)
 | .region id ops draw,n,r=>bif Nat.beq id n then some (.code (.region id ops draw)::r)else none
 | .seq a b,n,r=>match BK a n (.code b::r)with|some x=>some x|none=>BK b n r
 | .block id c,n,r=>BK c n (.inBlock id::r)
 | .loop c,n,r=>BK c n (.inLoop c::r)
 | .cond _ a b,n,r=>match BK a n r with|some x=>some x|none=>BK b n r
 |_,_,_=>none
def mkSl:Nat->Nat->List (Nat×AV)->List AV
 |0,_,_=> []
 |n+1,i,[]=> .cv .dead::mkSl n (i+1) []
 |n+1,i,(j,a)::l=>bif Nat.beq i j then a::mkSl n (i+1) l else .cv .dead::mkSl n (i+1) ((j,a)::l)
noncomputable def zv (E:Env)(k:Nat)(fi:Fi)(n:Nat)(sl:List (Nat×AV))(ob:List (Nat×Ob)):Option (Oden (zm fi.rs) (ioOf fi.ps)):=
 aRun E k fi.rs (ioOf fi.ps) fi.res fi.hints ((BK fi.code n []).getD []) ⟨mkSl fi.nt 0 sl,ob,true⟩
theorem okOf {P:Program}{gw:Gw}{f:Nat}{fn:Func}{ps:List PT}{rs:List (Bool×List RC)}{h:Nat->Option (List Hint)}(hf:P.funcs[f]? =some fn)(hb:okB fn ps=true:=by kernel_rfl):OneF P gw f (fiOf fn ps rs h):=by
 unfold okB at hb
 rw[zgx,zgx,Bool.not_eq_true']at hb
 obtain⟨c,hc⟩:=Option.isSome_iff_exists.1 hb.2.1
 exact JH hf hb.1 hc (by show fn.body.getD .skip=c;rw[hc];rfl) rfl rfl hb.2.2 rfl
end Go.Vt
