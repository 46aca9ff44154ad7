/-
  slices.CompactFunc[[][]int], walked.
  Conditions: what the function that compares returns; how the row lies.
-/
import Derived.Test.YtdcnefakiajgdaaGreatDoorVd
import Derived.Test.YtdcnefakiajgdaaGreatDoorProg
import Derived.Test.YtdcnefakiajgdaaGreatDoorChecked
import Derived.Lib.SliceRun
import Derived.Deep.LoopGhost
import Derived.WalkKit
import Derived.Shelf.RegionOpenPlain
import Derived.Sort.WalkB12
import Derived.Lib.SlicesCompact
set_option linter.unusedSectionVars false
set_option linter.unusedSimpArgs false
set_option linter.unusedVariables false
namespace Go.Vt
open Go.Proofs Go.Shelf Go.RowKit Go.Sort Go.Lib
variable {α:Type} [Inhabited α]
def eu (eq:α->α->Bool)(d:Array α)(j:Nat):Bool:=Nat.beq j 0|| !eq d[j]! d[j-1]!
def gT (eq:α->α->Bool)(d:Array α):Nat->List α
 |0=> []
 |m+1=>gT eq d m++(bif eu eq d m then [d[m]!]else [])
theorem EW {eq:α->α->Bool}{d:Array α}(j:Nat)(hj:j<1):eu eq d j=true:=by
 have:j=0:=by omega
 subst this
 rfl
theorem Lp {eq:α->α->Bool}{d:Array α}:∀ {m:Nat},(∀j,j<m->eu eq d j=true)->gT eq d m=(List.range m).map (d[·]!)
 |0,_=>rfl
 |m+1,h=>by rw[gT,Lp fun j hj=>h j (by omega),h m (by omega),List.range_succ,List.map_append];rfl
structure CI (eq:α->α->Bool)(d:Array α)(m k:Nat)(dk:Array α):Prop where
 size:dk.size=d.size
 len:(gT eq d m).length=k
 lt:k<m
 low:∀j,j<k->(gT eq d m)[j]? =some dk[j]!
 high:∀j,k<=j->dk[j]! =d[j]!
theorem CI.start {eq:α->α->Bool}{d:Array α}{k0:Nat}(hall:∀j,j<k0->eu eq d j=true)(hdup:eu eq d k0=false):CI eq d (k0+1) k0 d:=
 have e:gT eq d (k0+1)=(List.range k0).map (d[·]!):=by rw[gT,hdup,Lp hall];simp
 ⟨rfl,by rw[e];simp,Nat.lt_succ_self _,fun j hj=>by rw[e];simp[hj],fun _ _=>rfl⟩
theorem CI.keep {eq:α->α->Bool}{d dk:Array α}{m k:Nat}(h:CI eq d m k dk)(hm:m<d.size)(hk:eu eq d m=true):CI eq d (m+1) (k+1) (dk.setIfInBounds k d[m]!):=by
 have hlt:=h.lt
 have hs:=h.size
 have e:gT eq d (m+1)=gT eq d m++[d[m]!]:=by rw[gT,hk];rfl
 refine⟨by simp[hs],by rw[e];simp[h.len],by omega,fun j hj=> ?_,fun j hj=> ?_⟩
 ·rw[e]
  by_cases c:j=k
  ·subst c
   rw[List.getElem?_append_right (by rw[h.len];exact zgC _),h.len,Nat.sub_self,getElem!_set_same dk j _ (by omega)]
   rfl
  ·rw[List.getElem?_append_left (by rw[h.len];omega),h.low j (by omega),getElem!_set_other dk k j _ c]
 ·rw[getElem!_set_other dk k j _ (by omega),h.high j (by omega)]
theorem CI.skip {eq:α->α->Bool}{d dk:Array α}{m k:Nat}(h:CI eq d m k dk)(hk:eu eq d m=false):CI eq d (m+1) k dk:=
 have e:gT eq d (m+1)=gT eq d m:=by rw[gT,hk];simp
 ⟨h.size,by rw[e];exact h.len,by have:=h.lt;omega,fun j hj=>by rw[e];exact h.low j hj,h.high⟩
theorem Ax:∀(ys:List α) (d:Array α) (k:Nat),(lay d k ys).size=d.size
 | [],_,_=>rfl
 |y::r,d,k=>by rw[lay,Ax r];simp
theorem CI.take {eq:α->α->Bool}{d dk:Array α}{k:Nat}(h:CI eq d d.size k dk)(ys:List α)(hy:k+ys.length<=d.size):(lay dk k ys).toList.take k=gT eq d d.size:=by
 have hs:=h.size
 have hlt:=h.lt
 apply List.ext_getElem?
 intro j
 rw[List.getElem?_take]
 split
 ·rename_i hj
  rw[h.low j hj,zgX,lay_get? _ _ _ _ (by omega),zgH (by omega),getElem!_pos dk j (by omega),Array.getElem?_eq_getElem]
 ·rename_i hj
  rw[List.getElem?_eq_none (by rw[h.len];omega)]
theorem SW.set {enc:α->Value}{w0 W:World}{blk off:Nat}{dk:Array α}(h:SW enc w0 blk off dk W)(hblk:blk<w0.heap.size)(i:Nat)(hi:i<dk.size)(x:α):
 SW enc w0 blk off (dk.setIfInBounds i x) (W.setCell ⟨blk,off+i,none⟩ (enc x)):=by
 obtain⟨n,os,rfl⟩:=h
 refine⟨n,os, ?_⟩
 unfold sortWorld
 rw[<-putRow_grow enc (Sort.ahead w0 n) os blk off dk hblk,putRow_set enc _ blk off dk i x hi,putRow_grow enc (Sort.ahead w0 n) os blk off _ hblk]
theorem SW.lays {enc:α->Value}{w0:World}{blk off:Nat}(hblk:blk<w0.heap.size):∀(ys:List α) {W:World} {dk:Array α} (k:Nat),SW enc w0 blk off dk W->k+ys.length<=dk.size->SW enc w0 blk off (lay dk k ys) (W.setCells blk (off+k) (ys.map enc))
 | [],_,_,_,h,_=>h
 |y::r,W,dk,k,h,hk=>by
  have hk' :k+(r.length+1)<=dk.size:=by simpa using hk
  rw[List.map_cons,World.setCells,lay]
  exact SW.lays hblk r (k+1) (SW.set h hblk k (by omega) y) (by simp;omega)
def EqLays (P:Program)(g:Nat)(enc:α->Value)(eq:α->α->Bool)(blk off size:Nat)(w:World):Prop:=
 ∀(m:Nat) (os:Array Obj) (dk:Array α),dk.size=size->∀x y:α,
  Calls P g #[enc x,enc y] (sortWorld enc w blk off m dk os) fun e w' =>e= .returned (.bool (eq x y))/\∃q os',w' =grow ((sortWorld enc w blk off m dk os).drewN q) os'
theorem EqLays.meets {P:Program}{g:Nat}{enc:α->Value}{eq:α->α->Bool}{blk off size:Nat}{w W:World}{dk:Array α}(h:EqLays P g enc eq blk off size w)(hS:SW enc w blk off dk W)(hs:dk.size=size)(x y:α)(n:Nat)(os:Array Obj):
 Calls P g #[enc x,enc y] (grow (W.drewN n) os) fun e w' =>e= .returned (.bool (eq x y))/\∃q os',w' =grow ((grow (W.drewN n) os).drewN q) os' :=by
 obtain⟨m,os0,hw⟩:=hS.grown n os
 rw[hw]
 exact h m os0 dk hs x y
set_option maxHeartbeats 4000000 in
set_option maxRecDepth 1000000 in
theorem MK (enc:α->Value)(hO:OneCell enc)(eq:α->α->Bool)(zr:α)(hz:enc zr= .slice none 0 0)(blk off cap:Nat)(d:Array α)(w:World)(heq:EqLays Tryz.prog 258 enc eq blk off d.size w)(hH:Holds enc w blk off d)(hblk:blk<w.heap.size)
 (hsz:d.size<=4611686018427387903) (hcap:d.size<=cap):
 Calls Tryz.prog 272 #[.slice (some ⟨blk,off,none⟩) d.size cap, .func (.func 258) #[] #[]] w fun e w' =>
  e= .returned (.slice (some ⟨blk,off,none⟩) (gT eq d d.size).length cap)/\∃dk:Array α,dk.size=d.size/\dk.toList.take (gT eq d d.size).length=gT eq d d.size/\SW enc w blk off dk w' :=by
 have mixed:=Tryz.checked.mixed
 have eg:∀args w,(callFunc 258 args).run Tryz.prog w= .ok (.enter 258 args) w:=enters_of Tryz.func258 (by kernel_rfl) rfl
 have R:Row1 enc w blk off d:=⟨hO,hH,hblk⟩
 have hcl0:=hO.cells
 simp only[Value.cells]at hcl0
 have hst:=hO.store Tryz.prog
 have HC:Aside (EqLays Tryz.prog 258 enc eq blk off d.size w):=heq
 clear heq
 have same:∀W,SW enc w blk off d W->(∀j,j<d.size->eu eq d j=true)->(gT eq d d.size).length=d.size/\∃dk:Array α,dk.size=d.size/\dk.toList.take (gT eq d d.size).length=gT eq d d.size/\SW enc w blk off dk W:=by
  intro W hW hall
  have e:gT eq d d.size=d.toList:=by rw[Lp hall,range_map_get]
  rw[e]
  exact⟨by simp,d,rfl,by rw[List.take_length],hW⟩
 have HS:Aside _:=same
 clear same
 have S0:Aside (SW enc w blk off d w):=SW.start hH
 clear hH
 by_cases h2:d.size<2
 ·go_enter Tryz.func272,Tryz.ntmps272
  go_wp2
  go_ret
  obtain⟨e1,e2⟩:=HS.out w S0.out (fun j hj=>EW j (by omega))
  exact⟨by rw[e1];rfl,e2⟩
 ·go_enter Tryz.func272,Tryz.ntmps272
  go_wp2
  go_loopg [5] d.size (fun g s5 wr=>∃k:Nat,1<=k/\k<=d.size/\d.size-k<=g/\s5= .int .i64 k/\Aside (SW enc w blk off d wr)/\Aside (∀j,j<k->eu eq d j=true))
  case atStart=>exact⟨1,zgC _,by omega,by omega,rfl,S0,(show Aside _ from EW)⟩
  case round=>
   clear S0
   obtain⟨k,hk1,hk,hg,rfl,S1,A⟩:=hrel
   obtain⟨kp,rfl⟩:∃q,k=q+1:=⟨k-1,by omega⟩
   by_cases hlt:kp+1<d.size
   ·obtain⟨x,hx⟩:∃x,x=d[kp+1]! :=⟨_,rfl⟩
    obtain⟨y,hy⟩:∃y,y=d[kp]! :=⟨_,rfl⟩
    have c1:=S1.out.cl R rfl (kp+1) (by omega)
    have c0:=S1.out.cl R rfl kp (by omega)
    rw[<-hx]at c1
    rw[<-hy]at c0
    have hc:=HC.out.meets S1.out rfl x y
    have pa:(0:Int)<=(kp:Int)+1:=by omega
    have ba:(kp:Int)+1<(d.size:Int):=by omega
    have ra:IntKind.i64.wrap ((kp:Int)+1)=(kp:Int)+1:=by rw[IntKind.wrap_i64];omega
    have pc:(0:Int)<=(kp:Int):=by omega
    have bc:(kp:Int)<(d.size:Int):=by omega
    have rc:IntKind.i64.wrap (kp:Int)=(kp:Int):=by rw[IntKind.wrap_i64];omega
    have XY:Aside (x=d[kp+1]! /\y=d[kp]!):=⟨hx,hy⟩
    clear hx hy
    have st:eu eq d (kp+1)= !eq x y:=by unfold eu;rw[XY.out.1,XY.out.2];rfl
    have ST:Aside _:=st
    clear st
    cases hdup:eq x y with
    |true=>
     rw[hdup]at hc
     go_wp2_with fail
     go_quiet_grown (first|(go_at_fn 258;refine Calls.grown_of (hc _ _)))
     have S2:Aside (SW enc w blk off d (grow (wr.drewN nq) osq)):=S1.out.grown nq osq
     clear c0 c1 hc S1
     generalize grow (wr.drewN nq) osq=w2 at S2⊢
     clear nq osq
     go_wp2
     clear pa ba ra pc bc rc
     go_loopg [5,7] d.size (fun g s5 s7 w3=>∃(kk k2:Nat) (dk:Array α),s5= .int .i64 kk/\s7= .int .i64 k2/\1<=k2/\kp+1+k2<=d.size/\d.size-(kp+1+k2)<=g/\Aside (SW enc w blk off dk w3)/\Aside (CI eq d (kp+1+k2) kk dk))
     case atStart=>exact⟨kp+1,1,d,by go_num,rfl,zgC _,by omega,by omega,S2,CI.start A.out (by rw[ST.out,hdup];rfl)⟩
     case round=>
      clear S2
      obtain⟨kk,k2,dk,rfl,rfl,h1,hle,hg2,S3,C⟩:=hrel
      obtain⟨kq,rfl⟩:∃q,k2=q+1:=⟨k2-1,by omega⟩
      have hkk:=C.out.lt
      have hds:=C.out.size
      by_cases hlt2:kp+1+(kq+1)<d.size
      ·obtain⟨u,hu⟩:∃x,x=d[kp+1+(kq+1)]! :=⟨_,rfl⟩
       obtain⟨v,hv⟩:∃y,y=d[kp+1+kq]! :=⟨_,rfl⟩
       have cm:=S3.out.cl R hds (kp+1+(kq+1)) (by omega)
       have cp:=S3.out.cl R hds (kp+1+kq) (by omega)
       rw[C.out.high _ (by omega),<-hu,show off+(kp+1+(kq+1))=off+(kp+1)+(kq+1) by omega]at cm
       rw[C.out.high _ (by omega),<-hv,show off+(kp+1+kq)=off+(kp+1)+kq by omega]at cp
       have hc:=HC.out.meets S3.out hds u v
       have UV:Aside (u=d[kp+1+(kq+1)]! /\v=d[kp+1+kq]!):=⟨hu,hv⟩
       have st2:eu eq d (kp+1+(kq+1))= !eq u v:=by unfold eu;rw[hu,hv];rfl
       have ST2:Aside _:=st2
       clear hu hv st2
       have pa:(0:Int)<=(kq:Int)+1:=by omega
       have ba:(kq:Int)+1<((d.size-(kp+1):Nat):Int):=by omega
       have ra:IntKind.i64.wrap ((kq:Int)+1)=(kq:Int)+1:=by rw[IntKind.wrap_i64];omega
       have pc:(0:Int)<=(kq:Int):=by omega
       have bc:(kq:Int)<((d.size-(kp+1):Nat):Int):=by omega
       have rc:IntKind.i64.wrap (kq:Int)=(kq:Int):=by rw[IntKind.wrap_i64];omega
       cases huv:eq u v with
       |true=>
        rw[huv]at hc
        go_wp2_with fail
        go_quiet_grown (first|(go_at_fn 258;refine Calls.grown_of (hc _ _)))
        have S4:Aside (SW enc w blk off dk (grow (wr.drewN nq) osq)):=S3.out.grown nq osq
        clear cm cp hc S3
        generalize grow (wr.drewN nq) osq=w4 at S4⊢
        clear nq osq
        go_wp2
        go_roundg (d.size-(kp+1+(kq+1+1)))
        case measure=>omega
        case rel=>exact⟨kk,kq+1+1,dk,rfl,by go_num,by omega,by omega,zgC _,S4,C.out.skip (by rw[ST2.out,huv];rfl)⟩
       |false=>
        rw[huv]at hc
        go_wp2_with fail
        go_quiet_grown (first|(go_at_fn 258;refine Calls.grown_of (hc _ _)))
        have S4:Aside (SW enc w blk off dk (grow (wr.drewN nq) osq)):=S3.out.grown nq osq
        clear cm cp hc S3
        generalize grow (wr.drewN nq) osq=w4 at S4⊢
        clear nq osq
        have cm:=S4.out.c1 R hds (kp+1+(kq+1)) (by omega)
        rw[C.out.high _ (by omega),<-UV.out.1,show off+(kp+1+(kq+1))=off+(kp+1)+(kq+1) by omega]at cm
        have ck:=S4.out.c1 R hds kk (by omega)
        have fk:=S4.out.f1 R hds kk (by omega)
        have hkz:(kk:Int)<(d.size:Int):=by omega
        have hkp:(0:Int)<=(kk:Int):=by omega
        generalize dk[kk]! =old at ck
        have S5:Aside (SW enc w blk off (dk.setIfInBounds kk u) (w4.setCell ⟨blk,off+kk,none⟩ (enc u))):=SW.set S4.out hblk kk (by omega) u
        go_wp2
        clear cm ck fk
        go_roundg (d.size-(kp+1+(kq+1+1)))
        case measure=>omega
        case rel=>exact⟨kk+1,kq+1+1,dk.setIfInBounds kk u,by go_num,by go_num,by omega,by omega,zgC _,S5,by have:=C.out.keep hlt2 (by rw[ST2.out,huv];rfl);rwa [<-UV.out.1]at this⟩
      ·have hend:kp+1+(kq+1)=d.size:=by omega
       have hnz:¬((kq:Int)+1<((d.size-(kp+1):Nat):Int)):=by omega
       have hcl:∀ty,(Builtin.clear_ #[136] ty #[.slice (some ⟨blk,off+kk,none⟩) (d.size-kk) (cap-kk)]).run Tryz.prog wr= .ok (.tuple #[]) (wr.setCells blk (off+kk) (List.replicate (d.size-kk) (enc zr))):=
        fun ty=>Lib.run_clear_slice wr _ _ ty _ Tryz.underlying136 (fun W=>by rw[hz];exact Tryz.zeroValue25 W) (hO.cells zr) (hO zr) blk (off+kk) _ _ (by omega) (fun j hj=>by rw[show off+kk+j=off+(kk+j) by omega,S3.out.c1 R hds (kk+j) (by omega)];rfl) (fun j hj=>by rw[show off+kk+j=off+(kk+j) by omega];exact S3.out.f1 R hds (kk+j) (by omega))
       have S5:Aside (SW enc w blk off (lay dk kk (List.replicate (d.size-kk) zr)) (wr.setCells blk (off+kk) (List.replicate (d.size-kk) (enc zr)))):=by
        have:=SW.lays hblk (List.replicate (d.size-kk) zr) kk S3.out (by simp;omega)
        rwa [List.map_replicate]at this
       have CT:=C.out
       rw[hend]at CT
       have CC:Aside (CI eq d d.size kk dk):=CT
       clear CT
       go_wp2
       go_ret
       have e1:=CC.out.len
       exact⟨by rw[e1];rfl,lay dk kk (List.replicate (d.size-kk) zr),by rw[Ax];exact hds,by rw[e1];exact CC.out.take _ (by simp;omega),by have:=S5.out;rw[hz]at this;exact this⟩
    |false=>
     rw[hdup]at hc
     go_wp2_with fail
     go_quiet_grown (first|(go_at_fn 258;refine Calls.grown_of (hc _ _)))
     have S2:Aside (SW enc w blk off d (grow (wr.drewN nq) osq)):=S1.out.grown nq osq
     clear c0 c1 hc S1
     generalize grow (wr.drewN nq) osq=w2 at S2⊢
     clear nq osq
     go_wp2
     go_roundg (d.size-(kp+1+1))
     case measure=>omega
     case rel=>
      refine⟨kp+1+1,by omega,by omega,zgC _,by go_num,S2,(show Aside _ from fun j hj=> ?_)⟩
      by_cases e:j=kp+1
      ·subst e
       rw[ST.out,hdup];rfl
      ·exact A.out j (by omega)
   ·have e:kp+1=d.size:=by omega
    have ez:(kp:Int)+1=(d.size:Int):=by omega
    go_wp2
    go_ret
    obtain⟨e1,e2⟩:=HS.out wr S1.out (fun j hj=>A.out j (by omega))
    exact⟨by rw[e1];rfl,e2⟩
set_option maxHeartbeats 4000000 in
theorem ML (p:Option Addr)(cap:Nat)(w:World):Calls Tryz.prog 272 #[.slice p 0 cap, .func (.func 258) #[] #[]] w fun e w' =>e= .returned (.slice p 0 cap)/\w' =w:=by
 have mixed:=Tryz.checked.mixed
 go_enter Tryz.func272,Tryz.ntmps272
 go_wp2
 go_ret
 exact⟨rfl,rfl⟩
def xl:List Int->List (List Int)->List (List Int)
 |_,[]=> []|p,y::r=>if y=p then xl y r else y::xl y r
def TE:List (List Int)->List (List Int)
 | []=> []|x::r=>x::xl x r
theorem TF (y:List Int):∀(l:List (List Int)) (p:List Int),xl p (l++[y])=xl p l++(if y=(p::l).getLast (by simp)then []else [y])
 | [],p=>rfl
 |x::l,p=>by
  show(if x=p then xl x (l++[y])else x::xl x (l++[y]))=(if x=p then xl x l else x::xl x l)++(if y=(x::l).getLast (by simp)then []else [y])
  rw[TF y l x]
  split<;>rfl
theorem B3 (y:List Int)(l:List (List Int))(h:l≠[]):TE (l++[y])=TE l++(if y=l.getLast h then []else [y]):=by
 cases l with
 |nil=>exact(h rfl).elim
 |cons x l=>
  show x::xl x (l++[y])=(x::xl x l)++_
  rw[TF]
  rfl
theorem EX {eq:α->α->Bool}{d:Array α}:∀ {m:Nat},(gT eq d m).Sublist ((List.range m).map (d[·]!))
 |0=>List.Sublist.refl _
 |m+1=>by
  rw[gT,List.range_succ,List.map_append]
  refine List.Sublist.append EX ?_
  cases eu eq d m<;>simp
theorem H7 {dat:α->List Int}{d:Array α}:∀ {m:Nat},m<=d.size->(gT (fun x y=>decide (dat x=dat y)) d m).map dat=TE ((d.toList.map dat).take m)
 |0,_=>rfl
 |m+1,hm=>by
  have hget:∀i (hi:i<d.size),dat d[i]! =(d.toList.map dat)[i]'(by simpa using hi):=fun i hi=>by rw[getElem!_pos d i hi];simp
  rw[gT,List.map_append,H7 (m:=m) (by omega),List.take_add_one,zgD (by simp;omega)]
  rw[Option.toList_some]
  by_cases h0:m=0
  ·subst h0
   simp[eu,TE,xl,hget 0 (by omega)]
  ·have hne:(d.toList.map dat).take m≠[]:=by
    intro e
    have:=congrArg List.length e
    rw[zgL,zgN,zgW,List.length_nil]at this
    omega
   rw[B3 _ _ hne]
   congr 1
   have hlast:((d.toList.map dat).take m).getLast hne=dat d[m-1]! :=by
    rw[List.getLast_eq_getElem,hget (m-1) (by omega),List.getElem_take]
    congr 1
    rw[zgL,zgN,zgW,Nat.min_eq_left (by omega)]
   rw[hlast]
   unfold eu
   rw[show Nat.beq m 0=false by cases m with|zero=>exact(h0 rfl).elim|succ n=>rfl,<-hget m (by omega)]
   by_cases e:dat d[m]! =dat d[m-1]!
   ·simp[e]
   ·simp[e]
theorem zdW {α β:Type}(f:α->List β){l m:List α}(h:l.Sublist m):(l.flatMap f).Sublist (m.flatMap f):=by
 induction h with
 |slnil=>exact List.Sublist.refl _
 |cons a _ ih=>rw[List.flatMap_cons];exact ih.trans (List.sublist_append_right _ _)
 |cons_cons a _ ih=>rw[List.flatMap_cons,List.flatMap_cons];exact List.Sublist.append (List.Sublist.refl _) ih
def Xk (x:List (List Int)):Option (List (List Int)):=bif Ni x then some (TE x)else none
def compactFi:Fi:=⟨[.v (.slice ints) false, .fn 258 []],[(false,[⟨.slice ints,some (true,false)⟩])],some (fun _ x=>Xk x.1), .skip,[],77777,fun _=>none⟩
set_option maxRecDepth 100000 in
theorem zbA {gw:Gw}{ext c res nt hs}
 (heq:∀x y:List Int,x.length<=9223372036854775807->y.length<=9223372036854775807->GivesO Tryz.prog g1 258 ⟨[.v ints false, .v ints false],[(false,[⟨.bool,none⟩])],ext,c,res,nt,hs⟩ (x,y) (decide (x=y))):
 OneF Tryz.prog gw 272 compactFi:=by
 have hf:=Tryz.func272
 have hn:(Tryz.f272.name== "runtime.NumGoroutine")=false:=by kernel_rfl
 have hb:Tryz.f272.body.isSome=true:=by kernel_rfl
 have eg:∀args w,(callFunc 258 args).run Tryz.prog w= .ok (.enter 258 args) w:=enters_of Tryz.func258 (by kernel_rfl) rfl
 suffices hg:∀(x:List (List Int)×Bool) (y:List (List Int)),Xk x.1=some y->GivesG Tryz.prog gw 272 compactFi x y from
  ⟨fun g hg' k x y hy=>by cases hg';exact hg x y hy,fun h=>by cases h⟩
 rintro⟨xs,fx⟩ y hy B S v us LL hS hL hm hH hA
 obtain⟨hrow,hA⟩:=hA
 match us,hA with
 | [u1],hA=>
 obtain⟨ps,e2,hcap⟩:=hA
 have hps:ps=[]:=by
  cases ps with
  |nil=>rfl
  |cons p r=>cases r<;>exact hcap.elim
 subst hps
 subst e2
 have hrow:ORow B.w ints.sz (rowP B.w S ints true) v xs LL:=hrow
 have hy:Xk xs=some y:=hy
 unfold Xk at hy
 cases hd:Ni xs with
 |false=>rw[hd]at hy;cases hy
 |true=>
 rw[hd]at hy
 cases hy
 unfold Ni at hd
 simp only[zgx,zgI,zgS]at hd
 obtain⟨hd1,hd2⟩:=hd
 rcases RowO.of rfl hrow with⟨rfl,rfl,rfl⟩|⟨b,f,cap,cs,E,zs,rfl,hR,e1,rfl⟩
 ·refine Does.of_calls' hf hn hb ((ML none 0 B.w).mono ?_)
  rintro e w' ⟨rfl,rfl⟩
  exact⟨Kept.refl B,S,[.slice none 0 0],[],[],rfl,fun _ h=>h,fun _ h=> .inl h,List.nodup_nil,(fun c hc=>by cases hc),⟨.inl ⟨rfl,rfl,rfl⟩,fun h=>by cases h⟩,rfl⟩
 ·have hl:zs.length=xs.length:=by rw[<-e1,zgN]
  have hG:∀a∈zs,Elem B.w S b a:=fun a ha=>⟨hR.p a ha,fun k hk=>⟨(hm k (zg3 _ (zgP.2 ⟨a,ha,hk⟩))).2.1,fun e=>(zgV.1 hL).1 (e▸zgP.2 ⟨a,ha,hk⟩)⟩,hd2 a.1 (by rw[<-e1];exact zgY.2 ⟨a,ha,rfl⟩)⟩
  let ds:List {a:El ints//Elem B.w S b a}:=zs.attachWith _ hG
  have hds:ds.map Subtype.val=zs:=List.attachWith_map_subtype_val hG
  have hdl:ds.length=xs.length:=by rw[<-hl,<-hds,zgN]
  have henc:ds.map P1=zs.map (·.2.1):=by rw[<-hds,List.map_map];rfl
  have hbm:=hm b (by simp)
  have hsz:ds.toArray.size=xs.length:=by simpa using hdl
  let dat: {a:El ints//Elem B.w S b a}->List Int:=fun a=>a.1.1
  have hcl:EqLays Tryz.prog 258 (P1 (w:=B.w) (S:=S) (b:=b)) (fun x y=>decide (dat x=dat y)) b f ds.toArray.size B.w:=fun m os dk hdk x y=>by
   have:=calls2 (heq x.1.1 y.1.1 x.2.2.2 y.2.2.2) rfl eg (Qr (f:=f) (m:=m) (d:=dk) (os:=os) x) (Qr y)
   refine this.mono fun e w' hh=> ?_
   obtain⟨⟨u,rfl,hu⟩,q,os',hw⟩:=hh
   have hu:[u]=[Value.bool (decide (dat x=dat y))]:=hu
   exact⟨by rw[(List.cons.inj hu).1],q,os',hw⟩
  have hc:=MK P1 A8 (fun x y=>decide (dat x=dat y)) default rfl b f cap ds.toArray B.w hcl (hR.holds ds henc) hbm.2.1 (by rw[List.size_toArray];omega) (by rw[hsz,<-hl];exact hR.len)
  rw[hsz]at hc
  refine Does.of_calls' hf hn hb (hc.mono ?_)
  rintro e w' ⟨rfl,dk,hdk,htk,n,os,rfl⟩
  obtain⟨st,hst⟩:∃st,st=gT (fun x y=>decide (dat x=dat y)) ds.toArray xs.length:=⟨_,rfl⟩
  rw[<-hst]at htk⊢
  have hdat:st.map dat=TE xs:=by
   rw[hst,H7 (by omega)]
   have e3:ds.toArray.toList.map dat=xs:=by rw[<-e1,<-hds,List.map_map];rfl
   rw[e3,List.take_length]
  have hsub:(st.map Subtype.val).Sublist zs:=by
   rw[<-hds]
   refine List.Sublist.map _ ?_
   rw[hst]
   refine EX.trans ?_
   rw[<-hsz,range_map_get]
   exact List.Sublist.refl _
  have hlen:(st.map Subtype.val).length<=zs.length:=hsub.length_le
  have hfl:((st.map Subtype.val).flatMap (·.2.2)).Sublist (zs.flatMap (·.2.2)):=by
   exact zdW _ hsub
  have hM:∀k∈b::(st.map Subtype.val).flatMap (·.2.2),k∈b::zs.flatMap (·.2.2):=fun k hk=>(List.Sublist.cons_cons b hfl).subset hk
  have hr:=RowO.row rfl (hR.after (enc:=P1) (m:=n) dk (by omega) (st.map Subtype.val) (fun a ha=>hR.p a (hsub.subset ha)) (by rw[zgN,<-List.map_take,htk,List.map_map];rfl) hlen
   (fun k hk=>⟨hS k hk,fun e=>hbm.2.2 (e▸hk)⟩) (fun a ha k hk2=>⟨(hm k (hM k (zg3 _ (zgP.2 ⟨a,ha,hk2⟩)))).2.1,fun e=>by
     rw[e]at hk2
     exact(zgV.1 hL).1 (hfl.subset (zgP.2 ⟨a,ha,hk2⟩))⟩) os)
  have hk:=Tc (B:=B) (enc:=P1) (f:=f) (m:=n) (d:=dk) (os:=os) hbm.1
  refine⟨hk,S,[.slice (some ⟨b,f,none⟩) st.length cap],b::(st.map Subtype.val).flatMap (·.2.2),[],rfl,fun _ h=>h,fun _ h=> .inl h, ?_,fun c hc=> ?_,⟨?_,fun h=>by cases h⟩,rfl⟩
  ·rw[List.append_nil]
   exact(List.Sublist.cons_cons b hfl).nodup hL
  ·rw[List.append_nil]at hc
   have:=hm c (hM c hc)
   exact⟨this.1,Nat.lt_of_lt_of_le this.2.1 hk.size,this.2.2⟩
  ·rw[zgN,List.map_map,show((fun x=>x.fst)∘Subtype.val)=dat from rfl,hdat]at hr
   exact hr
end Go.Vt
