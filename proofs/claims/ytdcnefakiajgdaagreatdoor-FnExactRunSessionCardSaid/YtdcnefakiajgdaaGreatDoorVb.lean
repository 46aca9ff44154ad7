/-
  The plain machine: its parts and their laws, 2 of 4.
  Conditions: those of each statement.
-/
import Derived.Test.YtdcnefakiajgdaaGreatDoorVa
import Derived.Laws.Slices
import Derived.Laws.BytesString
import Derived.Orders
import Derived.Laws.Small
import Derived.Tactics
set_option linter.unusedSimpArgs false
set_option linter.unusedVariables false
namespace Go.Vt
open Go.RowKit
section
variable {P:Program} {ρ:Type} {gw:Gw} {w0:Base gw} {w:World} {S0:Nat->Prop} {σ:St} {a:Act} {Im:Nat->Prop} {hd:Nat->Value} {bl:Nat->List Nat} {Q:Exit->Act->World->Prop}
theorem AVR.wider {Im' :Nat->Prop}(hi:∀b,Im b->Im' b){v:Value}{av:AV}(h:AVR w Im hd v av):AVR w Im' hd v av:=by
 have:=h.tell (Tell.keep hd (Same.refl Im w) hi)
 rwa [AV.map_id]at this
theorem At.append {b o:Nat}{cs ds:List Value}(h:At w b o cs)(k:At w b (o+cs.length) ds):At w b o (cs++ds):=by
 intro j v hj
 rw[List.getElem?_append]at hj
 split at hj
 ·exact h j v hj
 ·rename_i hlt
  have:=k (j-cs.length) v hj
  rwa [show o+cs.length+(j-cs.length)=o+j by omega]at this
theorem Um {t:Ty}{b:Nat}:∀ {xs:List t.den} {o:Nat},(∀i x,xs[i]? =some x->∃cs:List Value,cs.length=t.sz/\At w b (o+i*t.sz) cs/\VR w Im t x cs)->
 ∃news,news.length=xs.length*t.sz/\At w b o news/\OL t.sz (fun x cs L=>VR w Im t x cs/\L=[]) xs news []/\∀u∈news,u.oneCell' =true
 | [],o,_=>⟨[],by simp,fun j v hj=>by simp at hj,rfl,by simp⟩
 |x::xs,o,h=>by
  obtain⟨cs,h1,h2,h3⟩:=h 0 x rfl
  obtain⟨ns,k1,k2,k3,k4⟩:=Um (t:=t) (b:=b) (xs:=xs) (o:=o+t.sz) fun i y hy=>by
   obtain⟨c,c1,c2,c3⟩:=h (i+1) y hy
   refine⟨c,c1, ?_,c3⟩
   rwa [Nat.add_mul,Nat.one_mul,Nat.add_comm (i*t.sz),<-Nat.add_assoc]at c2
  refine⟨cs++ns, ?_, ?_, ?_, ?_⟩
  ·rw[zgA,h1,k1,zgB,Nat.add_mul,Nat.one_mul,Nat.add_comm]
  ·refine At.append (by simpa using h2) (by rw[h1];exact k2)
  ·refine⟨[],[],rfl,by rw[zgA];omega,⟨?_,rfl⟩, ?_⟩
   ·rw[<-h1,List.take_left];exact h3
   ·rw[<-h1,List.drop_left,h1];exact k3
  ·intro u hu
   rcases zgz.1 hu with hu|hu
   ·exact VR.one h3 u hu
   ·exact k4 u hu
theorem OL.ones {t:Ty}{d:Bool}:∀ {xs:List t.den} {cs:List Value} {L:List Nat},OL t.sz (rowP w Im t d) xs cs L->∀u∈cs.take (xs.length*t.sz),u.oneCell' =true
 | [],cs,L,h=>by simp
 |x::xs,cs,L,h=>by
  obtain⟨L1,L2,rfl,hn,hp,h⟩:=h
  have ih:=OL.ones h
  intro u hu
  rw[zgB,Nat.add_mul,Nat.one_mul,Nat.add_comm,List.take_add]at hu
  rcases zgz.1 hu with hu|hu
  ·cases d with
   |true=>exact OT.one hp u hu
   |false=>exact VR.one hp.1 u hu
  ·exact ih u hu
theorem ORow.news {t:Ty}{d:Bool}{v:Value}{xs:List t.den}{L:List Nat}(h:ORow w t.sz (rowP w Im t d) v xs L):
 ∃A c,v= .slice A xs.length c/\∃news Li,news.length=xs.length*t.sz/\OL t.sz (rowP w Im t d) xs news Li/\(∀u∈news,u.oneCell' =true)/\(xs≠[]->∃b o,A=some ⟨b,o,none⟩/\At w b o news)/\
  (∀b∈Li,b∈L)/\(L.Nodup->Li.Nodup):=by
 rcases h with⟨rfl,rfl,rfl⟩|⟨b,f0,cap,cs,F,Li,rfl,hb,hcs,hle,rfl,hl⟩
 ·exact⟨none,0,rfl,[],[],by simp,rfl,by simp,fun e=>(e rfl).elim,by simp,fun _=>List.nodup_nil⟩
 ·have hlen:=hl.len
  exact⟨_,cap,rfl,(cs.toList.drop f0).take (xs.length*t.sz),Li,by rw[zgL];omega,OL.pre hl (by rw[List.take_take,Nat.min_self]) (by rw[zgL];omega),hl.ones,fun _=>⟨b,f0,rfl,ud hb f0 (xs.length*t.sz)⟩,fun x hx=>by simp[hx],fun h=>(zgV.1 h).2⟩
theorem OL.flatly {t:Ty}{d e:Bool}(hf:t.flat=true){xs:List t.den}{cs:List Value}{L:List Nat}(h:OL t.sz (rowP w Im t d) xs cs L):OL t.sz (rowP w Im t e) xs cs []:=by
 induction xs generalizing cs L with
 |nil=>rfl
 |cons x xs ih=>
  obtain⟨L1,L2,rfl,hn,hp,h⟩:=h
  refine⟨[],[],rfl,hn, ?_,ih h⟩
  have hv:VR w Im t x (cs.take t.sz):=by
   cases d with
   |true=>exact VR.flat hf (OT.read (S:=fun _=>True) hp (fun _ _=>trivial))
   |false=>exact hp.1
  cases e with
  |true=>exact VR.own hf hv
  |false=>exact⟨hv,rfl⟩
theorem OL.unread {t:Ty}{xs:List t.den}{cs:List Value}(h:OL t.sz (fun x cs L=>VR w Im t x cs/\L=[]) xs cs []):OL t.sz (rowP w Im t false) xs cs []:=h
theorem zaq {E:Env}{T e:TypeId}{t:Ty}(hu:P.underlying T=some (.slice e))(he:V5 P e t){xs:List t.den}{d cn:Bool}{vx:Value}
 (lo:∀d' :Bool,(d' =true->d=true)->∃Im' bl' L,SRi w0 S0 σ a w Im' hd bl' /\Loose w0 σ w Im' hd bl' t xs d' cn vx L/\(∀b,Im b->Im' b))
 {y:AV} {vy:Value} (hy:AVR w Im hd vy y) {dst key:Nat} (hd5:key<500000) {next:St->Option ρ} {r:ρ} (hn:aApp2 σ t dst key y xs d cn next=some r) (ty:TypeId):
 ∃v' w',(Builtin.append_ #[T,T] ty #[vx,vy]).run P w= .ok v' w' /\∃τ,next (τ.put (some dst) (.cv (.own key)))=some r/\∃Im' hd' bl',SRi w0 S0 τ a w' Im' hd' bl' /\hd' key=v' :=by
 unfold aApp2 at hn
 split at hn
 ·
  obtain⟨Im',bl',L,h,l,hi⟩:=lo d id
  have e1:vy= .slice none 0 0:=hy
  obtain⟨v',w',h1,I2,hd2,bl2,h2,h3⟩:=u4 (ys:=[]) hu he h l (vy:=vy) (M:=[]) ⟨⟨none,0,e1,[],by simp,rfl,by simp,fun e=>(e rfl).elim⟩,List.nodup_nil,(fun b hb=>by cases hb),(fun k p _ b _ hb=>by cases hb),(fun b hb=>by cases hb)⟩
   (fun e=>(e rfl).elim) ty key hd5
  rw[List.append_nil]at h2
  exact⟨v',w',h1,_,hn,I2,hd2,bl2,h2,h3⟩
 ·
  rename_i u ys
  split at hn
  ·rename_i ys' hys
   obtain⟨hm,hn⟩:=zb hn
   obtain⟨Im',bl',L,h,l,hi⟩:=lo (d&&t.flat) (fun e=>by simp at e;exact e.1)
   have hy' :VR w Im' (.slice t) ys' [vy]:=zbJ hys (AVR.wider hi hy)
   obtain⟨A,cap,ev,_,hr⟩:=hy'
   simp only[List.cons.injEq,and_true]at ev
   have hnews:∃news,news.length=ys'.length*t.sz/\OL t.sz (rowP w Im' t (d&&t.flat)) ys' news []/\(∀u∈news,u.oneCell' =true)/\(ys' ≠[]->∃b o,A=some ⟨b,o,none⟩/\At w b o news):=by
    rcases hr with rfl|⟨b,o,rfl,_,hr⟩
    ·exact⟨[],by simp,rfl,by simp,fun e=>(e rfl).elim⟩
    ·obtain⟨news,n1,n2,n3,n4⟩:=Um hr
     refine⟨news,n1, ?_,n4,fun _=>⟨b,o,rfl,n2⟩⟩
     cases hf:t.flat with
     |false=>rw[Bool.and_false];exact n3
     |true=>exact OL.flatly hf (OL.unread n3)
   obtain⟨news,n1,n2,n3,n4⟩:=hnews
   obtain⟨v',w',h1,I2,hd2,bl2,h2,h3⟩:=u4 hu he h l (ys:=ys') (vy:=vy) (M:=[]) ⟨⟨A,cap,ev,news,n1,n2,n3,n4⟩,List.nodup_nil,(fun b hb=>by cases hb),(fun k p _ b _ hb=>by cases hb),(fun b hb=>by cases hb)⟩
    (fun _=>zgw hm) ty key hd5
   exact⟨v',w',h1,_,hn,I2,hd2,bl2,h2,h3⟩
  ·cases hn
 ·
  rename_i c
  split at hn
  ·rename_i u ys e' n' hc
   split at hn
   ·rename_i ys' hys
    obtain⟨ee,rfl⟩:=yP hys
    cases ee
    obtain⟨hm,hn5⟩:=zb hn
    have hm' :=zgw hm
    have hvy:vy=hd c:=hy
    cases hf:t.flat with
    |true=>
     simp only[hf,Bool.true_or,Bool.and_true,zgJ]at hn5
     obtain⟨Im',bl',L,h,l,hi⟩:=lo d id
     obtain⟨A,k,ev,news,Li,n1,n2,n3,n4,_,_⟩:=(h.objs c _ hc).1.news
     obtain⟨v',w',h1,I2,hd2,bl2,h2,h3⟩:=u4 hu he h l (ys:=ys) (vy:=vy) (M:=[]) ⟨⟨A,k,hvy.trans ev,news,n1,OL.flatly hf n2,n3,n4⟩,List.nodup_nil,(fun b hb=>by cases hb),(fun k p _ b _ hb=>by cases hb),(fun b hb=>by cases hb)⟩
      (fun _=>hm') ty key hd5
     exact⟨v',w',h1,_,hn5,I2,hd2,bl2,h2,h3⟩
    |false=>
     simp only[hf,Bool.false_or,zgK]at hn5
     cases hd' :(d&&e')with
     |true=>
      rw[hd',zgJ]at hn5
      have hde:d=true/\e' =true:=by simpa using hd'
      obtain⟨rfl,rfl⟩:=hde
      obtain⟨Im',bl',L,h,l,hi⟩:=lo true id
      obtain⟨h',l'⟩:=h.takeOut hc
      obtain⟨A,k,ev,news,Li,n1,n2,n3,n4,n5,n6⟩:=l'.row.news
      have l2:Loose w0 (σ.kill c) w Im' hd bl' t xs true cn vx L:=⟨l.row,l.nil,l.nodup,l.own,fun k p hp=>by
       obtain⟨_,o,ho,_⟩:=uj hp
       exact l.free k o ho⟩
      obtain⟨v',w',h1,I2,hd2,bl2,h2,h3⟩:=u4 hu he h' l2 (ys:=ys) (vy:=vy) (M:=Li) ⟨⟨A,k,hvy.trans ev,news,n1,n2,n3,n4⟩,n6 l'.nodup,(fun b hb=>l'.own b (n5 b hb)),
       (fun k p hp b hb hb2=>l'.free k p hp b hb (n5 b hb2)),(fun b hb hb2=>l.free c _ hc b (n5 b hb) hb2)⟩
       (fun _=>hm') ty key hd5
      exact⟨v',w',h1,_,hn5,I2,hd2,bl2,h2,h3⟩
     |false=>
      rw[hd',zgK]at hn5
      obtain⟨Im',bl',L,h,l,hi⟩:=lo false (fun e=>by cases e)
      have hrow:=h.objs c _ hc
      obtain⟨Im2,h',i1,i2,i3⟩:=h.freeze c
      have l2:Loose w0 (σ.freeze c) w Im2 hd bl' t xs false cn vx L:=by
       refine⟨?_,l.nil,l.nodup,fun b hb=>⟨(l.own b hb).1,(l.own b hb).2.1,fun hI=> ?_⟩,fun k p hp=> ?_⟩
       ·rcases l.row with e1|⟨b,f0,cap,cs,F,Li,e1,e2,e3,e4,e5,e6⟩
        ·exact .inl e1
        ·exact .inr ⟨b,f0,cap,cs,F,Li,e1,e2,e3,e4,e5,e6.tell (Same.refl _ _) i1 (fun _ _=>rfl)⟩
       ·rcases i2 b hI with h1|h1
        ·exact(l.own b hb).2.2 h1
        ·exact l.free c _ hc b h1 hb
       ·obtain⟨_,o,ho⟩:=GM hp
        exact l.free k o ho
      have hrd:=hrow.read
      have hrd' :VR w Im2 (.slice t) ys [hd c]:=VR.mono (Same.refl _ _) (fun b hb=>hb.elim (i1 b) (fun hb=>i3 _ hc b hb)) hrd
      obtain⟨A,cap,ev,_,hr⟩:=hrd'
      simp only[List.cons.injEq,and_true]at ev
      have hnews:∃news,news.length=ys.length*t.sz/\OL t.sz (rowP w Im2 t false) ys news []/\(∀u∈news,u.oneCell' =true)/\(ys≠[]->∃b o,A=some ⟨b,o,none⟩/\At w b o news):=by
       rcases hr with rfl|⟨b,o,rfl,_,hr⟩
       ·exact⟨[],by simp,rfl,by simp,fun e=>(e rfl).elim⟩
       ·obtain⟨news,n1,n2,n3,n4⟩:=Um hr
        exact⟨news,n1,n3,n4,fun _=>⟨b,o,rfl,n2⟩⟩
      obtain⟨news,n1,n2,n3,n4⟩:=hnews
      obtain⟨v',w',h1,I2,hd2,bl2,h2,h3⟩:=u4 hu he h' l2 (ys:=ys) (vy:=vy) (M:=[]) ⟨⟨A,cap,hvy.trans ev,news,n1,n2,n3,n4⟩,List.nodup_nil,(fun b hb=>by cases hb),(fun k p _ b _ hb=>by cases hb),(fun b hb=>by cases hb)⟩
       (fun _=>hm') ty key hd5
      exact⟨v',w',h1,_,hn5,I2,hd2,bl2,h2,h3⟩
   ·cases hn
  ·cases hn
 ·cases hn
theorem zbQ {E:Env}(hE:∀T ti,E.ty T=some ti->TyOk P T ti)(h:SRi w0 S0 σ a w Im hd bl){T:Nat}{x y:AV}{vx vy:Value}(hx:AVR w Im hd vx x)(hy:AVR w Im hd vy y)
 {dst:Nat} (hd5:dst<500000) {next:St->Option ρ} {r:ρ} (hn:aAppend E σ T dst x y next=some r) (ty:TypeId):
 ∃v' w',(Builtin.append_ #[T,T] ty #[vx,vy]).run P w= .ok v' w' /\∃key τ,next (τ.put (some dst) (.cv (.own key)))=some r/\∃Im' hd' bl',SRi w0 S0 τ a w' Im' hd' bl' /\hd' key=v' :=by
 unfold aAppend at hn
 split at hn
 ·rename_i t hT
  obtain⟨e,hu,he⟩:=yB hE hT
  split at hn
  ·have e1:vx= .slice none 0 0:=hx
   obtain⟨v',w',k1,k2⟩:=zaq (E:=E) hu he (fun d' _=>⟨Im,bl,[],h,⟨.inl ⟨e1,rfl,rfl⟩,fun _ _=>e1,List.nodup_nil,(fun b hb=>by cases hb),(fun k p _ b _ hb=>by cases hb)⟩,fun _ x=>x⟩) hy hd5 hn ty
   exact⟨v',w',k1,dst,k2⟩
  ·rename_i c
   have e1:vx=hd c:=hx
   split at hn
   ·rename_i u xs d cn hc
    split at hn
    ·rename_i xs' hxs
     obtain⟨ee,rfl⟩:=yP hxs
     cases ee
     have hk5:keyFor c dst<500000:=by
      unfold keyFor
      cases hb:Nat.ble 450000 c&&Nat.blt c 500000 with
      |false=>exact hd5
      |true=>rw[zgx]at hb;have h2:=hb.2;rw[Nat.blt_eq]at h2;exact h2
     obtain⟨v',w',k1,k2⟩:=zaq (E:=E) (vx:=vx) hu he (fun d' hd' =>by
      obtain⟨Im',bl',g1,g2,g3⟩:=h.takeSoft hc d' hd'
      exact⟨Im',bl',bl' c,g1,by rw[e1];exact g2,g3⟩) hy hk5 hn ty
     exact⟨v',w',k1,_,k2⟩
    ·cases hn
   ·cases hn
  ·cases hn
 ·cases hn
end
section
variable {P:Program} {ρ:Type} {gw:Gw} {w0:Base gw} {w:World} {S0:Nat->Prop} {σ:St} {a:Act} {Im:Nat->Prop} {hd:Nat->Value} {bl:Nat->List Nat} {Q:Exit->Act->World->Prop}
theorem SRi.obj2 (h:SRi w0 S0 σ a w Im hd bl){c:Nat}{o o' :Ob}(hc:zd σ.ob c=some o){w' :World}{L M:List Nat}
 (hw:∀b,b<w.heap.size->b∉bl c->w'.heap[b]? =w.heap[b]?) (hsz:w.heap.size<=w'.heap.size) (hb:Kept w0 w')
 (hL:L.Nodup) (hLs:∀b∈L,b∈bl c\/b∈M) (hM:∀b∈M,w0.mine b/\b<w.heap.size/\¬Im b) (hf:∀k p,zd σ.ob k=some p->∀b∈bl k,b∉M)
 (ho:ObR w' Im hd (hd c) L o'):SRi w0 S0 { σ with ob:=yt σ.ob c o'} a w' Im hd (fun d=>if d=c then L else bl d):=by
 have hown:=h.own c o hc
 have hImb:∀b,Im b->b∉bl c:=fun b hb hb2=>(hown.2 b hb2).2.2 hb
 have hs:Same Im w w' :=fun b hb=>hw b (h.lt b hb) (hImb b hb)
 have T:Tell w w' Im Im hd hd ⟨.own, .adr, .el⟩:=Tell.keep hd hs (fun _ x=>x)
 have g:∀d p,zd (yt σ.ob c o') d=some p->(d=c/\p=o')\/(d≠c/\zd σ.ob d=some p):=by
  intro d p hp
  rw[yW]at hp
  by_cases e:c=d
  ·simp[e]at hp;exact .inl ⟨e.symm,hp.symm⟩
  ·simp[e]at hp;exact .inr ⟨Ne.symm e,hp⟩
 have hLb:∀b∈L,w0.mine b/\b<w.heap.size/\¬Im b:=fun b hb=>(hLs b hb).elim (hown.2 b) (hM b)
 have hLf:∀d p,d≠c->zd σ.ob d=some p->∀b∈bl d,b∉L:=fun d p hne hp b hb hbL=>(hLs b hbL).elim (h.apart d p c o hp hc hne b hb) (hf d p hp b hb)
 refine⟨hb,h.sub,h.new,fun b hb=>Nat.lt_of_lt_of_le (h.lt b hb) hsz,h.nodef,h.size,fun i av hi=> ?_,fun d p hp=> ?_,fun d p hp=> ?_,fun d p e q hp hq hne=> ?_,h.io⟩
 ·have:=(h.slots i av hi).tell T;rwa [AV.map_id]at this
 ·rcases g d p hp with⟨rfl,rfl⟩|⟨hne,hp⟩
  ·simpa using ho
  ·simp only[hne,if_false]
   have:=(h.objs d p hp).tell T (fun b hb=>hw b ((h.own d p hp).2 b hb).2.1 (h.apart d p c o hp hc hne b hb))
   rwa [Ob.map_id]at this
 ·rcases g d p hp with⟨rfl,rfl⟩|⟨hne,hp⟩
  ·simp only[if_true]
   exact⟨hL,fun b hb=>⟨(hLb b hb).1,Nat.lt_of_lt_of_le (hLb b hb).2.1 hsz,(hLb b hb).2.2⟩⟩
  ·simp only[hne,if_false]
   exact⟨(h.own d p hp).1,fun b hb=>⟨((h.own d p hp).2 b hb).1,Nat.lt_of_lt_of_le ((h.own d p hp).2 b hb).2.1 hsz,((h.own d p hp).2 b hb).2.2⟩⟩
 ·rcases g d p hp with⟨rfl,rfl⟩|⟨hd1,hp1⟩<;>rcases g e q hq with⟨rfl,rfl⟩|⟨hd2,hq1⟩
  ·exact(hne rfl).elim
  ·simp only[if_true,hd2,if_false];exact fun b hb hb2=>hLf e q hd2 hq1 b hb2 hb
  ·simp only[hd1,if_false,if_true];exact hLf d p hd1 hp1
  ·simp only[hd1,hd2,if_false];exact h.apart d p e q hp1 hq1 hne
theorem OL.set {α:Type}{n:Nat}{p:α->List Value->List Nat->Prop}{y:α}{cy:List Value}{My:List Nat}(hcy:cy.length=n)(hy:p y cy My):∀ {xs:List α} {cs:List Value} {L:List Nat} {i:Nat},OL n p xs cs L->i<xs.length->
 ∃L',OL n p (xs.set i y) (cs.take (i*n)++cy++cs.drop (i*n+n)) L' /\(∀b∈L',b∈L\/b∈My)/\(L.Nodup->My.Nodup->(∀b∈My,b∉L)->L'.Nodup)
 | [],cs,L,i,h,hi=>by simp at hi
 |x::xs,cs,L,0,h,hi=>by
  obtain⟨L1,L2,rfl,hn,hp,h⟩:=h
  refine⟨My++L2, ?_,fun b hb=> ?_,fun hL hM hd=> ?_⟩
  ·simp only[Nat.zero_mul,List.take_zero,List.nil_append,Nat.zero_add,List.set_cons_zero]
   refine⟨My,L2,rfl,by rw[zgA];omega, ?_, ?_⟩
   ·rw[<-hcy,List.take_left];exact hy
   ·rw[<-hcy,List.drop_left,hcy];exact h
  ·rcases zgz.1 hb with hb|hb
   ·exact .inr hb
   ·exact .inl (by simp[hb])
  ·rw[zgM]at hL⊢
   exact⟨hM,hL.2.1,fun b hb c hc e=>hd b hb (by rw[e];simp[hc])⟩
 |x::xs,cs,L,i+1,h,hi=>by
  obtain⟨L1,L2,rfl,hn,hp,h⟩:=h
  have hlen:=h.len
  obtain⟨L',h1,h2,h3⟩:=OL.set hcy hy h (i:=i) (by simpa using hi)
  have e1:(i+1)*n=n+i*n:=by rw[Nat.add_mul,Nat.one_mul,Nat.add_comm]
  have e2:cs.take ((i+1)*n)=cs.take n++(cs.drop n).take (i*n):=by rw[e1,List.take_add]
  have e3:cs.drop ((i+1)*n+n)=(cs.drop n).drop (i*n+n):=by rw[List.drop_drop];congr 1;omega
  have hl:(cs.take n).length=n:=by rw[zgL];omega
  refine⟨L1++L', ?_,fun b hb=> ?_,fun hL hM hd=> ?_⟩
  ·rw[e2,e3,zgU,zgU,List.set_cons_succ]
   refine⟨L1,L',rfl,by rw[zgA];omega, ?_, ?_⟩
   ·rw[List.take_append_of_le_length (by omega),zgT (by omega)];exact hp
   ·have e4:(cs.take n++((cs.drop n).take (i*n)++(cy++(cs.drop n).drop (i*n+n)))).drop n=(cs.drop n).take (i*n)++(cy++(cs.drop n).drop (i*n+n)):=by
     conv=>lhs;arg 1;rw[<-hl]
     rw[hl]
     exact List.drop_left' hl
    rw[e4,<-zgU];exact h1
  ·rcases zgz.1 hb with hb|hb
   ·exact .inl (by simp[hb])
   ·exact(h2 b hb).imp_left fun hb=>by simp[hb]
  ·rw[zgM]at hL⊢
   refine⟨hL.1,h3 hL.2.1 hM (fun b hb hb2=>hd b hb (by simp[hb2])),fun b hb c hc e=> ?_⟩
   subst e
   rcases h2 b hc with h4|h4
   ·exact hL.2.2 b hb b h4 rfl
   ·exact hd b h4 (by simp[hb])
theorem CV.as_read {t:Ty}{c:CV}{x:t.den}{v:Value}(h:c.as t=some x)(hv:CVR w Im hd v c):VR w Im t x [v]:=by
 unfold CV.as at h
 split at h
 ·exact zbJ h hv
 ·split at h
  ·cases h
   exact⟨none,0,by rw[show v=_ from hv];rfl,zgC _, .inl rfl⟩
  ·cases h
 ·cases h
theorem vA:∀ {t:Ty} {l:List CV} {x:t.den} {cs:List Value},yE t l=some x->CVs w Im hd cs l->VR w Im t x cs
 | .int k,l,x,cs,h,hv=>by
   unfold yE at h
   split at h
   ·match cs,hv with| [v],hv=>exact CV.as_read h hv.1
   ·cases h
 | .bool,l,x,cs,h,hv=>by
   unfold yE at h
   split at h
   ·match cs,hv with| [v],hv=>exact CV.as_read h hv.1
   ·cases h
 | .str,l,x,cs,h,hv=>by
   unfold yE at h
   split at h
   ·match cs,hv with| [v],hv=>exact CV.as_read h hv.1
   ·cases h
 | .slice t,l,x,cs,h,hv=>by
   unfold yE at h
   split at h
   ·match cs,hv with| [v],hv=>exact CV.as_read h hv.1
   ·cases h
 | .set,l,x,cs,h,hv=>by
   unfold yE at h
   split at h
   ·match cs,hv with| [v],hv=>exact CV.as_read h hv.1
   ·cases h
 | .err,l,x,cs,h,hv=>by
   unfold yE at h
   split at h
   ·match cs,hv with| [v],hv=>exact CV.as_read h hv.1
   ·cases h
 | .pair s t,l,x,cs,h,hv=>by
   unfold yE at h
   obtain⟨y,hy,h⟩:=zgF.1 h
   obtain⟨z,hz,h⟩:=zgF.1 h
   cases h
   exact⟨cs.take s.sz,cs.drop s.sz,(List.take_append_drop _ _).symm,vA hy (hv.take _),vA hz (hv.drop _)⟩
theorem Lv {α:Type}(cs new:List α)(i m o:Nat)(hle:o+new.length<=m)(hcs:i*m+m<=cs.length):
 cs.take (i*m+o)++new++cs.drop (i*m+o+new.length)=cs.take (i*m)++splice ((cs.drop (i*m)).take m) o new++cs.drop (i*m+m):=by
 unfold splice
 have e1:cs.take (i*m+o)=cs.take (i*m)++((cs.drop (i*m)).take m).take o:=by
  rw[List.take_add,List.take_take,Nat.min_eq_left (by omega)]
 have e2:cs.drop (i*m+o+new.length)=((cs.drop (i*m)).take m).drop (o+new.length)++cs.drop (i*m+m):=by
  rw[List.drop_take,List.drop_drop]
  have:cs.drop (i*m+m)=(cs.drop (i*m+(o+new.length))).drop (m-(o+new.length)):=by rw[List.drop_drop];congr 1;omega
  rw[this,List.take_append_drop,Nat.add_assoc]
 rw[e1,e2]
 simp[zgU]
theorem KV {d:Nat}{t:Ty}{xs:List t.den}{e n:Bool}:∀ {l:List Nat} {σ:St},zd σ.ob d=some (.row t xs e n)->d∉l->zd (σ.killAll l).ob d=some (.row t xs e n)
 | [],σ,h,_=>h
 |c::l,σ,h,hn=>KV (l:=l) (zel h (fun e=>hn (by simp[e]))) (fun e=>hn (by simp[e]))
theorem Ql {d:Nat}{t:Ty}{xs:List t.den}{e n:Bool}:∀ {l:List Nat} {σ:St},zd σ.ob d=some (.row t xs e n)->d∉l->zd (σ.freezeAll l).ob d=some (.row t xs e n)
 | [],σ,h,_=>h
 |c::l,σ,h,hn=>Ql (l:=l) (GL h (fun e=>hn (by simp[e]))) (fun e=>hn (by simp[e]))
theorem zet {d:Nat}{t:Ty}{xs:List t.den}{e n tree:Bool}{l:List Nat}(h:zd σ.ob d=some (.row t xs e n))(hn:d∉l):zd (σ.give tree l).ob d=some (.row t xs e n):=by
 cases tree with
 |true=>exact KV h hn
 |false=>exact Ql h hn
theorem KB (l:List (Nat×Ob))(c:Nat)(o o' :Ob):yt (yt l c o) c o' =yt l c o' :=by
 unfold yt
 congr 1
 simp only[fq,Nat.beq_refl,zgJ]
 exact KC _ _
theorem DF (h:SRi w0 S0 σ a w Im hd bl){c:Nat}{t:Ty}{xs:List t.den}{d cn:Bool}(hc:zd σ.ob c=some (.row t xs d cn)){b f0:Nat}(hb:Value.top (hd c)=some (b,f0)):
 ∃cap cs F Li,hd c= .slice (some ⟨b,f0,none⟩) xs.length cap/\w.heap[b]? =some (.cells cs F (0,0))/\f0+cap*t.sz<=cs.size/\xs.length<=cap/\bl c=b::Li/\OL t.sz (rowP w Im t d) xs (cs.toList.drop f0) Li:=by
 rcases(h.objs c _ hc).1 with⟨e1,_⟩|⟨b',f0',cap,cs,F,Li,e1,e2,e3,e4,e5,e6⟩
 ·rw[e1]at hb;cases hb
 ·rw[wi e1]at hb;cases hb
  exact⟨cap,cs,F,Li,e1,e2,e3,e4,e5,e6⟩
theorem zeC {α:Type}{l X:List α}{f:Nat}(h:f<=l.length):(l.take f++X).drop f=X:=by
 rw[List.drop_append_of_le_length (by rw[zgL];omega),List.drop_take,Nat.sub_self];rfl
theorem zbu {α:Type}(l:List α)(f i:Nat)(u:α):(l.set (f+i) u).drop f=(l.drop f).set i u:=by
 rw[List.drop_set,zgH (by omega),Nat.add_sub_cancel_left]
theorem TO:∀ {l:List Value} {i:Nat} {u:Value},l[i]? =some u->(l.drop i).take 1=[u]
 | [],i,u,h=>by simp at h
 |x::l,0,u,h=>by simp at h;subst h;simp
 |x::l,i+1,u,h=>by rw[List.drop_succ_cons];exact TO (by simpa using h)
theorem OL.cut {α:Type}{p:α->List Value->List Nat->Prop}:∀ {xs:List α} {cs:List Value} {L:List Nat} {i:Nat},OL 1 p xs cs L->i<xs.length->
 ∃L1 Lx L2 y u,L=L1++(Lx++L2)/\xs[i]? =some y/\cs[i]? =some u/\p y [u] Lx/\OL 1 p (xs.take i) (cs.take i) L1/\OL 1 p (xs.drop (i+1)) (cs.drop (i+1)) L2
 | [],cs,L,i,h,hi=>by simp at hi
 |x::xs,[],L,i,h,hi=>by obtain⟨L1,L2,rfl,hn,_⟩:=h;simp at hn
 |x::xs,u::cs,L,0,h,hi=>by
  obtain⟨L1,L2,rfl,hn,hp,h⟩:=h
  exact⟨[],L1,L2,x,u,rfl,rfl,rfl,hp,rfl,h⟩
 |x::xs,u::cs,L,i+1,h,hi=>by
  obtain⟨L1,L2,rfl,hn,hp,h⟩:=h
  obtain⟨M1,Mx,M2,y,v,e1,e2,e3,e4,e5,e6⟩:=OL.cut (i:=i) h (by simpa using hi)
  refine⟨L1++M1,Mx,M2,y,v,by rw[e1];simp,by simpa using e2,by simpa using e3,e4,⟨L1,M1,rfl,by simp,hp, ?_⟩,by simpa using e6⟩
  simpa using e5
theorem OL.fill {α:Type}{p:α->List Value->List Nat->Prop}{xs:List α}{cs:List Value}{L1 M L2:List Nat}{i:Nat}{y:α}{u:Value}(h1:OL 1 p (xs.take i) (cs.take i) L1)(hp:p y [u] M)
 (h2:OL 1 p (xs.drop (i+1)) (cs.drop (i+1)) L2) (hi:i<xs.length) (hc:i<cs.length):OL 1 p (xs.set i y) (cs.set i u) (L1++(M++L2)):=by
 rw[List.set_eq_take_append_cons_drop,List.set_eq_take_append_cons_drop,zgG hi,zgG hc]
 refine OL.append h1 (by rw[zgL,zgL];omega) ?_
 exact⟨M,L2,rfl,by simp,hp,h2⟩
theorem RP {c k:Nat}(hck:c≠k){o:Ob}(hc:zd σ.ob c=some o):zd (σ.kill k).ob c=some (o.map (xG k)):=by
 show zd (Mq (xG k) (fq σ.ob k)) c=_
 rw[jy,vw,zgH hck,hc];rfl
theorem SRi.fill (h:SRi w0 S0 σ a w Im hd bl){c k:Nat}(hck:c≠k){t:Ty}{xs:List (List t.den)}{i:Nat}{v:CV}(hc:zd σ.ob c=some (.hole t xs i v)){ys:List t.den}{n:Bool}(hk:zd σ.ob k=some (.row t ys true n)):
 ∃b f0 cap cur F u,hd c= .slice (some ⟨b,f0,none⟩) xs.length cap/\w.heap[b]? =some (.cells cur F (0,0))/\i<xs.length/\f0+i<cur.toList.length/\w0.mine b/\(cur.toList.drop f0)[i]? =some u/\CVR w Im hd u v/\
  ∀w' :World,(∀b',b' ≠b->w'.heap[b']? =w.heap[b']?)->w.heap.size<=w'.heap.size->Kept w0 w' ->w'.heap[b]? =some (.cells (cur.toList.set (f0+i) (hd k)).toArray F (0,0))->
   ∃bl',SRi w0 S0 { (σ.kill k)with ob:=yt (σ.kill k).ob c (.row (.slice t) (xs.set i ys) true false)} a w' Im hd bl' :=by
 obtain⟨b,f0,cap,cur,F,L1,L2,u,e1,e2,e3,e4,e5,e6,e7,e8,e9,e10⟩:=h.objs c _ hc
 have hil:i<(cur.toList.drop f0).length:=by
  rcases Nat.lt_or_ge i (cur.toList.drop f0).length with h1|h1
  ·exact h1
  ·rw[List.getElem?_eq_none h1]at e9;cases e9
 have hown:=h.own c _ hc
 rw[e6]at hown
 refine⟨b,f0,cap,cur,F,u,e1,e2,e5,by rw[zgR]at hil;omega,(hown.2 b (by simp)).1,e9,e10,fun w' hw hsz hb hcell=> ?_⟩
 obtain⟨g1,g2⟩:=h.takeOut hk
 have hap:∀x∈bl c,x∉bl k:=h.apart c _ k _ hc hk hck
 rw[e6]at hap
 have hnd:=zgV.1 hown.1
 have hnd2:=zgM.1 hnd.2
 have hbL:b∉L1++(bl k++L2):=by
  simp only[zgz,not_or]
  exact⟨fun hm=>hnd.1 (by simp[hm]),fun hm=>hap b (by simp) hm,fun hm=>hnd.1 (by simp[hm])⟩
 have hL:(b::(L1++(bl k++L2))).Nodup:=by
  refine zgV.2 ⟨hbL,zgM.2 ⟨hnd2.1,zgM.2 ⟨g2.nodup,hnd2.2.1,fun x hx y hy e=> ?_⟩,fun x hx y hy e=> ?_⟩⟩
  ·subst e;exact hap x (by simp[hy]) hx
  ·subst e
   rcases zgz.1 hy with hy|hy
   ·exact hap x (by simp[hx]) hy
   ·exact hnd2.2.2 x hx x hy rfl
 have hol:=OL.fill e7 (p:=OT w (.slice t)) (y:=ys) (u:=hd k) (M:=bl k) ⟨_,rfl,g2.row⟩ e8 e5 hil
 refine⟨_,g1.obj2 (L:=b::(L1++(bl k++L2))) (M:=bl k) (RP hck hc) (fun x _ hx=>hw x (fun e=>hx (by rw[e6,e];simp))) hsz hb hL (fun x hx=> ?_) g2.own g2.free
  ⟨.inr ⟨b,f0,cap,_,F,L1++(bl k++L2),by rw[List.length_set];exact e1,hcell, ?_,by rw[List.length_set];exact e4,rfl, ?_⟩,fun e=>by cases e⟩⟩
 ·rw[e6]
  simp only[zgO,zgz]at hx⊢
  rcases hx with hx|hx|hx|hx
  ·exact .inl (.inl hx)
  ·exact .inl (.inr (.inl hx))
  ·exact .inr hx
  ·exact .inl (.inr (.inr hx))
 ·rw[List.size_toArray,List.length_set,zgW];exact e3
 ·show OL 1 _ _ ((cur.toList.set (f0+i) (hd k)).drop f0) _
  rw[zbu]
  exact hol.mapP fun x cc l hl hp=>OT.same hp fun b' hb' =>hw b' (fun e=>hbL (e▸hl b' hb'))
theorem SRi.dig_ (h:SRi w0 S0 σ a w Im hd bl){c d i:Nat}{t:Ty}{xs:List (List t.den)}{cn:Bool}(hc:zd σ.ob c=some (.row (.slice t) xs true cn))(hcd:c≠d)(hd5:d<500000)(hi:i<xs.length):
 ∃b f0 cap cur F u,hd c= .slice (some ⟨b,f0,none⟩) xs.length cap/\w.heap[b]? =some (.cells cur F (0,0))/\(cur.toList.drop f0)[i]? =some u/\u.oneCell' =true/\∃hd' bl',SRi w0 S0 (σ.dig c d t xs i) a w Im hd' bl' /\hd' d=u:=by
 rcases(h.objs c _ hc).1 with⟨_,e,_⟩|⟨b,f0,cap,cur,F,Li,e1,e2,e3,e4,e5,hol⟩
 ·rw[e]at hi;simp at hi
 obtain⟨L1,Lx,L2,y,u,e6,e7,e8,e9,e10,e11⟩:=OL.cut (p:=OT w (.slice t)) (show OL 1 (OT w (.slice t)) xs (cur.toList.drop f0) Li from hol) hi
 subst e6
 have hown:=h.own c _ hc
 rw[e5]at hown
 have hnd:=zgV.1 hown.1
 have hnd2:=zgM.1 hnd.2
 have hnd3:=zgM.1 hnd2.2.1
 have hy:xs.getD i []=y:=by rw[List.getD,e7];rfl
 have hL:(b::(L1++L2)).Nodup:=by
  refine zgV.2 ⟨fun hm=>hnd.1 ?_,zgM.2 ⟨hnd2.1,hnd3.2.1,fun x hx z hz e=>hnd2.2.2 x hx z (by simp[hz]) e⟩⟩
  simp only[zgz]at hm⊢
  exact hm.elim .inl (fun h=> .inr (.inr h))
 have hsub:∀x∈b::(L1++L2),x∈bl c:=by
  intro x hx
  rw[e5]
  simp only[zgO,zgz]at hx⊢
  rcases hx with hx|hx|hx
  ·exact .inl hx
  ·exact .inr (.inl hx)
  ·exact .inr (.inr (.inr hx))
 have h1:=h.obj (o' := .hole t xs i .dead) (w' :=w) (L:=b::(L1++L2)) hc (fun _ _ _=>rfl) (zgC _) h.below (fun _ x=>x) (fun _ hb=> .inl hb) hL hsub
  ⟨b,f0,cap,cur,F,L1,L2,u,e1,e2,e3,e4,hi,rfl,e10,e11,e8,trivial⟩
 have hLx:∀x∈Lx,x∈bl c/\x∉b::(L1++L2):=by
  intro x hx
  refine⟨by rw[e5];simp[hx],fun hm=> ?_⟩
  simp only[zgO,zgz]at hm
  rcases hm with hm|hm|hm
  ·exact hnd.1 (by rw[<-hm];simp[hx])
  ·exact hnd2.2.2 x hm x (by simp[hx]) rfl
  ·exact hnd3.2.2 x hx x hm rfl
 have hrow:ORow w t.sz (OT w t) u y Lx:=by
  obtain⟨v,ev,hr⟩:=e9
  cases ev
  exact hr
 have h2:=h1.new_ d hd5 (o:= .row t (xs.getD i []) true false) (v:=u) (L:=Lx) (fun e p hne hp x hx hm=>by
  by_cases q:e=c
  ·subst q
   simp only[if_true]at hx
   exact(hLx x hm).2 hx
  ·simp only[q,if_false]at hx
   have hp' :zd σ.ob e=some p:=by
    have hp2:zd (yt σ.ob c (.hole t xs i .dead)) e=some p:=hp
    rw[yW,zgH (Ne.symm q)]at hp2
    exact hp2
   exact h.apart e p c _ hp' hc q x hx (hLx x hm).1) hnd3.1 (fun x hx=>(h.own c _ hc).2 x (hLx x hx).1) ⟨by rw[hy];exact hrow,fun e=>by cases e⟩
 have hc2:zd (St.new { σ with ob:=yt σ.ob c (.hole t xs i .dead)} d (.row t (xs.getD i []) true false)).ob c=some (.hole t xs i .dead):=by
  show zd ((d,_)::(St.kill { σ with ob:=yt σ.ob c (.hole t xs i .dead)} d).ob) c=_
  rw[yj,zgH (Ne.symm hcd),RP (o:= .hole t xs i .dead) hcd (by show zd (yt σ.ob c _) c=_;rw[yW,zgG rfl])]
  rfl
 have h3:=h2.obj (o' := .hole t xs i (.own d)) (w' :=w) (L:=b::(L1++L2)) hc2 (fun _ _ _=>rfl) (zgC _) h.below (fun _ x=>x) (fun _ hb=> .inl hb) hL
  (fun x hx=>by simp only[hcd,if_false,if_true];exact hx)
  ⟨b,f0,cap,cur,F,L1,L2,u,by simp only[hcd,if_false];exact e1,e2,e3,e4,hi,rfl,e10,e11,e8,by show u=if d=d then u else hd d;rw[zgG rfl]⟩
 refine⟨b,f0,cap,cur,F,u,e1,e2,e8, ?_,_,_,h3,by rw[zgG rfl]⟩
 rcases hrow with⟨rfl,_⟩|⟨b',f0',cap',cs',F',Li',rfl,_⟩<;>rfl
theorem SRi.digM_ (h:SRi w0 S0 σ a w Im hd bl){c d i:Nat}{xs:List (Option (List ByteArray))}{cn:Bool}(hc:zd σ.ob c=some (.row .set xs true cn))(hcd:c≠d)(hd5:d<500000)(hi:i<xs.length)(hs:(xs.getD i none).isSome=true):
 ∃hd' bl',SRi w0 S0 (σ.digM c d xs i) a w Im hd' bl' :=by
 rcases(h.objs c _ hc).1 with⟨_,e,_⟩|⟨b,f0,cap,cur,F,Li,e1,e2,e3,e4,e5,hol⟩
 ·rw[e]at hi;simp at hi
 obtain⟨L1,Lx,L2,y,u,e6,e7,e8,e9,e10,e11⟩:=OL.cut (p:=OT w .set) (show OL 1 (OT w .set) xs (cur.toList.drop f0) Li from hol) hi
 subst e6
 have hown:=h.own c _ hc
 rw[e5]at hown
 have hnd:=zgV.1 hown.1
 have hnd2:=zgM.1 hnd.2
 have hnd3:=zgM.1 hnd2.2.1
 have hy:xs.getD i none=y:=by rw[List.getD,e7];rfl
 have hL:(b::(L1++L2)).Nodup:=by
  refine zgV.2 ⟨fun hm=>hnd.1 ?_,zgM.2 ⟨hnd2.1,hnd3.2.1,fun x hx z hz e=>hnd2.2.2 x hx z (by simp[hz]) e⟩⟩
  simp only[zgz]at hm⊢
  exact hm.elim .inl (fun h=> .inr (.inr h))
 have hsub:∀x∈b::(L1++L2),x∈bl c:=by
  intro x hx
  rw[e5]
  simp only[zgO,zgz]at hx⊢
  rcases hx with hx|hx|hx
  ·exact .inl hx
  ·exact .inr (.inl hx)
  ·exact .inr (.inr (.inr hx))
 have hsz1:Ty.set.sz=1:=rfl
 have htk:((cur.toList.drop f0).drop (i*Ty.set.sz)).take Ty.set.sz=[u]:=by
  rw[hsz1,Nat.mul_one]
  exact TO e8
 have hobj:∀(hd:Nat->Value) (cv:CV),CVR w Im hd u cv->hd c= .slice (some ⟨b,f0,none⟩) xs.length cap->ObR w Im hd (hd c) (b::(L1++L2)) (.hol .set xs i [cv]):=fun hd cv hu he=>
  ⟨b,f0,cap,cur,F,L1,L2,he,e2,e3,e4,hi,rfl,by rw[hsz1,Nat.mul_one];exact e10,by rw[hsz1,Nat.mul_one];exact e11,by rw[htk];exact⟨hu,trivial⟩⟩
 have h1:=h.obj (o' := .hol .set xs i [.dead]) (w' :=w) (L:=b::(L1++L2)) hc (fun _ _ _=>rfl) (zgC _) h.below (fun _ x=>x) (fun _ hb=> .inl hb) hL hsub
  (hobj hd .dead trivial e1)
 have hLx:∀x∈Lx,x∈bl c/\x∉b::(L1++L2):=by
  intro x hx
  refine⟨by rw[e5];simp[hx],fun hm=> ?_⟩
  simp only[zgO,zgz]at hm
  rcases hm with hm|hm|hm
  ·exact hnd.1 (by rw[<-hm];simp[hx])
  ·exact hnd2.2.2 x hm x (by simp[hx]) rfl
  ·exact hnd3.2.2 x hx x hm rfl
 have hmp:SetR w u Lx (some ((xs.getD i none).getD [])):=by
  obtain⟨v,ev,hr⟩:=e9
  cases ev
  rw[<-hy]at hr
  cases hq:xs.getD i none with
  |none=>rw[hq]at hs;cases hs
  |some l=>rw[hq]at hr;exact hr
 have h2:=h1.new_ d hd5 (o:= .mp ((xs.getD i none).getD [])) (v:=u) (L:=Lx) (fun e p hne hp x hx hm=>by
  by_cases q:e=c
  ·subst q
   simp only[if_true]at hx
   exact(hLx x hm).2 hx
  ·simp only[q,if_false]at hx
   have hp' :zd σ.ob e=some p:=by
    have hp2:zd (yt σ.ob c (.hol .set xs i [.dead])) e=some p:=hp
    rw[yW,zgH (Ne.symm q)]at hp2
    exact hp2
   exact h.apart e p c _ hp' hc q x hx (hLx x hm).1) hnd3.1 (fun x hx=>(h.own c _ hc).2 x (hLx x hx).1) hmp
 have hc2:zd (St.new { σ with ob:=yt σ.ob c (.hol .set xs i [.dead])} d (.mp ((xs.getD i none).getD []))).ob c=some (.hol .set xs i [.dead]):=by
  show zd ((d,_)::(St.kill { σ with ob:=yt σ.ob c (.hol .set xs i [.dead])} d).ob) c=_
  rw[yj,zgH (Ne.symm hcd),RP (o:= .hol .set xs i [.dead]) hcd (by show zd (yt σ.ob c _) c=_;rw[yW,zgG rfl])]
  rfl
 have h3:=h2.obj (o' := .hol .set xs i [.own d]) (w' :=w) (L:=b::(L1++L2)) hc2 (fun _ _ _=>rfl) (zgC _) h.below (fun _ x=>x) (fun _ hb=> .inl hb) hL
  (fun x hx=>by simp only[hcd,if_false,if_true];exact hx)
  (hobj _ (.own d) (by show u=if d=d then u else hd d;rw[zgG rfl]) (by simp only[hcd,if_false];exact e1))
 exact⟨_,_,h3⟩
theorem C8 {E:Env}(hE:∀T ti,E.ty T=some ti->TyOk P T ti)(h:SRi w0 S0 σ a w Im hd bl){T:Nat}{x v:AV}{vx vv:Value}(hx:AVR w Im hd vx x)(hv:AVR w Im hd vv v)
 {next:St->Option ρ} {r:ρ} (hn:aStore E σ T x v next=some r):∃w',(Instr.storeAt T vx vv).run P w= .ok () w' /\∃τ,next τ=some r/\SR w0 S0 τ a w' :=by
 unfold aStore at hn
 split at hn
 ·rename_i n agg cs hT hcs
  obtain⟨h0,hnn⟩:=zb hn;clear hn;have hn:=hnn;clear hnn
  have hcl:=zgE h0
  obtain⟨us,hu1,hu2,hu3,hu4⟩:=M9 h hv hcs
  have hul:=hu2.len
  obtain⟨⟨i,hi,hsz⟩,hagg,_⟩:=aW hE hT
  have hrun:∀ {b o:Nat} {cur:Array Value} {F:TypeId},w.heap[b]? =some (.cells cur F (0,0))->o+us.length<=cur.size->
   (Instr.storeAt T (.pointer (some ⟨b,o,none⟩)) vv).run P w= .ok () (w.setRow b (cur.toList.take o++us++cur.toList.drop (o+us.length)).toArray):=by
   intro b o cur F hb hf
   have:=DD (P:=P) (T:=T) (v:=vv) hb hi (by rw[hu1,List.size_toArray];omega) (by rw[hu1];exact hu4) (by rw[hu1,List.size_toArray];exact hf)
   rwa [hu1]at this
  split at hn
  ·
   rename_i c o
   split at hn
   ·rename_i l hc
    obtain⟨h1,hnn⟩:=zb hn;clear hn;have hn:=hnn;clear hnn
    have hle:=zgZ h1
    obtain⟨b,e1,rfl⟩:=hx
    obtain⟨b',cur,F,e2,hb,hbl,hcur⟩:=h.objs c _ hc
    rw[e1]at e2;cases e2
    have hlen:=hcur.len
    have hfit:o+us.length<=cur.size:=by rw[<-zgW];omega
    refine⟨_,hrun hb hfit,_,hn,Im,hd,_,h.obj (L:=[b]) hc (fun x _ hx=>xa (fun e=>hx (by rw[hbl,e];simp))) (by rw[wM];exact zgC _) (KeptW.setRow_ h.below ((h.own c _ hc).2 b (by rw[hbl];simp)).1 _)
     (fun _ x=>x) (fun b hb=> .inl hb) (by simp) (fun x hx=>by rw[hbl];exact hx) ⟨b,_,F,e1,setRow_heap w b cur _ F _ hb,rfl, ?_⟩⟩
    have hbi:¬Im b:=((h.own c _ hc).2 b (by rw[hbl];simp)).2.2
    have hk:CVs w Im hd (splice cur.toList o us) (splice l o cs):=hcur.splice hu2 o
    have:=hk.tell (Tell.keep (w' :=w.setRow b (cur.toList.take o++us++cur.toList.drop (o+us.length)).toArray) hd (fun x hx=>xa (fun e=>hbi (e▸hx))) (fun _ x=>x))
    rw[CV.map_id',List.map_id]at this
    exact this
   ·cases hn
  ·
   rename_i c m j o
   split at hn
   ·rename_i t xs d cn hc
    obtain⟨h1,hnn⟩:=zb hn;clear hn;have hn:=hnn;clear hnn
    obtain⟨h2,hnn⟩:=zb hn;clear hn;have hn:=hnn;clear hnn
    have hm:Nat.beq m t.sz=true/\Nat.ble (o+n) m=true:=by simpa using h1
    obtain rfl:=zgE hm.1
    have hle:=zgZ hm.2
    have hj:j<xs.length:=zgw h2
    obtain⟨b,f0,e1,rfl⟩:=hx
    obtain⟨cap,cur,F,Li,e2,hb,hcs0,hcap,hbl,hol⟩:=DF h hc e1
    obtain⟨D,hD⟩:∃D,cur.toList.drop f0=D:=⟨_,rfl⟩
    have hf0:f0<=cur.toList.length:=by rw[zgW];omega
    have hDl:D.length=cur.toList.length-f0:=by rw[<-hD,zgR]
    rw[hD]at hol
    have hown:=h.own c _ hc
    have hbi:=hown.2 b (by rw[hbl];simp)
    have hjc:j*t.sz+t.sz<=D.length:=by
     have:=hol.len
     have h3:(j+1)*t.sz<=xs.length*t.sz:=Nat.mul_le_mul_right _ hj
     rw[Nat.add_mul,Nat.one_mul]at h3
     omega
    have hfit:f0+j*t.sz+o+us.length<=cur.size:=by rw[<-zgW];omega
    have hcells:cur.toList.take (f0+j*t.sz+o)++us++cur.toList.drop (f0+j*t.sz+o+us.length)=cur.toList.take f0++(D.take (j*t.sz)++splice ((D.drop (j*t.sz)).take t.sz) o us++D.drop (j*t.sz+t.sz)):=by
     rw[<-Lv _ _ _ _ _ (by omega) hjc,<-hD,List.drop_drop,Nat.add_assoc,List.take_add,<-Nat.add_assoc,<-Nat.add_assoc]
     simp only[zgU,Nat.add_assoc]
    have hrun' :=hrun hb hfit
    rw[hcells]at hrun'
    have hesz:((D.drop (j*t.sz)).take t.sz).length=t.sz:=by rw[zgL,zgR];omega
    have hspl:(splice ((D.drop (j*t.sz)).take t.sz) o us).length=t.sz:=by rw[QT (by omega)];exact hesz
    have hbw:∀ {cs' :Array Value} x,x<w.heap.size->x∉bl c->(w.setRow b cs').heap[x]? =w.heap[x]? :=fun x _ hx=>xa (fun e=>hx (by rw[hbl,e];simp))
    have hsmIm:∀ {cs' :Array Value} {I:Nat->Prop},¬I b->Same I w (w.setRow b cs'):=fun hI x hx=>xa (fun e=>hI (e▸hx))
    have hnewsz:∀ {z:List Value},z.length=t.sz->f0+cap*t.sz<=(cur.toList.take f0++(D.take (j*t.sz)++z++D.drop (j*t.sz+t.sz))).toArray.size:=by
     intro z hz
     have:(cur.toList.take f0++(D.take (j*t.sz)++z++D.drop (j*t.sz+t.sz))).toArray.size=cur.toList.length:=by
      rw[List.size_toArray,zgA,zgA,zgA,zgL,zgL,zgR,hz];omega
     rw[this,zgW];exact hcs0
    have hnewdrop:∀ {z:List Value},(cur.toList.take f0++(D.take (j*t.sz)++z++D.drop (j*t.sz+t.sz))).toArray.toList.drop f0=D.take (j*t.sz)++z++D.drop (j*t.sz+t.sz):=fun {z}=>zeC hf0
    have hcnil:cn=true->xs.set j=xs.set j->∀y,xs.set j y=[]->hd c= .slice none 0 0:=by
     intro _ _ y e
     have:=congrArg List.length e
     simp at this
     subst this
     simp at hj
    cases hf:t.flat with
    |true=>
     simp only[hf,zgJ]at hn
     split at hn
     ·rename_i y hy
      have hol' :OL t.sz (rowP w Im t d) xs D []:=OL.flatly hf hol
      obtain⟨l,hp,_,hle2⟩:=hol'.get j xs[j] (by simp[hj])
      have hpv:VR w Im t xs[j] ((D.drop (j*t.sz)).take t.sz):=by
       cases d with
       |true=>exact VR.flat hf (OT.read (S:=fun _=>True) hp (fun _ _=>trivial))
       |false=>exact hp.1
      have hget:xs.getD j t.dflt=xs[j]:=by simp[List.getD,hj]
      rw[hget]at hy
      have hyv:VR w Im t y (splice ((D.drop (j*t.sz)).take t.sz) o us):=vA hy ((xH hpv).splice hu2 o)
      have hyp:rowP w Im t d y (splice ((D.drop (j*t.sz)).take t.sz) o us) []:=by
       cases d with
       |true=>exact VR.own hf hyv
       |false=>exact⟨hyv,rfl⟩
      obtain⟨L',k1,k2,k3⟩:=OL.set hspl hyp hol' hj
      have k1' :=OL.flatly (e:=d) hf k1
      refine⟨_,hrun',_,hn,Im,hd,_,h.obj (L:=[b]) hc hbw (by rw[wM];exact zgC _) (KeptW.setRow_ h.below hbi.1 _)
       (fun _ x=>x) (fun b hb=> .inl hb) (by simp) (fun x hx=>by rw[hbl];simp at hx;simp[hx]) ⟨.inr ⟨b,f0,cap,_,F,[],by rw[e2,List.length_set],setRow_heap w b cur _ F _ hb,hnewsz hspl,by rw[List.length_set];exact hcap,rfl, ?_⟩,fun q e=>hcnil q rfl y e⟩⟩
      rw[hnewdrop]
      exact OL.tell (hsmIm hbi.2.2) (fun _ x=>x) (fun x hx=>by cases hx) k1'
     ·cases hn
    |false=>
     simp only[hf,zgK]at hn
     obtain⟨h3,hnn⟩:=zb hn;clear hn;have hn:=hnn;clear hnn
     have hnm:n=t.sz:=zgE h3
     have ho0:o=0:=by omega
     subst ho0
     split at hn
     ·rename_i y hy
      obtain⟨h4,hnn⟩:=zb hn;clear hn;have hn:=hnn;clear hnn
      have hnc:c∉zf cs:=fun hm=>by rw[jL.2 hm]at h4;cases h4
      have hspl0:splice ((D.drop (j*t.sz)).take t.sz) 0 us=us:=by
       unfold splice
       have:((D.drop (j*t.sz)).take t.sz).drop (0+us.length)=[]:=List.drop_eq_nil_of_le (by rw[hesz];omega)
       rw[this];simp
      rw[hspl0]at hrun' hspl
      have hel:EL σ t cs [y]:=⟨by omega,by rw[zgT (by omega)];exact hy,List.drop_eq_nil_of_le (by omega)⟩
      generalize htree:(d&&σ.treeB cs&& !hasB c (zf cs))=tree at hn
      obtain⟨Im',M,g1,g2,g3,g4,g5,g6,g7,g8⟩:=h.give hel hu2 hu3 (tree:=tree) (fun e=>by rw[e]at htree;simp at htree;exact htree.1.2)
      obtain⟨M1,M2,rfl,_,hyp,hM2⟩:=g3
      obtain rfl:M2=[]:=hM2
      rw[List.append_nil]at g4 g5 g6 g7
      rw[zgT (by omega)]at hyp
      have hc' :=zet (tree:=tree) hc hnc
      obtain⟨σ2,Im2,bl2,q1,q2,q3,q4,q5,q6,q7⟩:∃(σ2:St) (Im2:Nat->Prop) (bl2:Nat->List Nat),SRi w0 S0 σ2 a w Im2 hd bl2/\zd σ2.ob c=some (.row t xs tree cn)/\
       (∀o',({ σ2 with ob:=yt σ2.ob c o'}:St)= { σ.give tree (zf cs)with ob:=yt (σ.give tree (zf cs)).ob c o'})/\rowP w Im2 t tree y us M1/\
       (∀b∈M1,w0.mine b/\b<w.heap.size/\¬Im2 b)/\(∀k p,zd σ2.ob k=some p->∀b∈bl2 k,b∉M1)/\(M1=[]\/tree=true):=by
       cases tree with
       |true=>
        have hdt:d=true:=by simp at htree;exact htree.1.1
        subst hdt
        exact⟨_,Im',bl,g1,hc',fun _=>rfl,hyp,g5,fun k p hp b hb=>(g6 k p hp).2 b hb, .inr rfl⟩
       |false=>
        have hM1:M1=[]:=hyp.2
        cases d with
        |false=>exact⟨_,Im',bl,g1,hc',fun _=>rfl,hyp,g5,fun k p hp b hb=>(g6 k p hp).2 b hb, .inl hM1⟩
        |true=>
         obtain⟨Im2,bl2,s1,s2⟩:=g1.soften hc'
         refine⟨_,Im2,bl2,s1,by rw[yW];simp,fun o' =>by simp only[KB],⟨VR.mono (Same.refl _ _) s2 hyp.1,hyp.2⟩,(fun b hb=>by rw[hM1]at hb;cases hb),(fun k p _ b _ hb=>by rw[hM1]at hb;cases hb), .inl hM1⟩
      obtain⟨cap2,cur2,F2,Li2,p2,hb2,_,_,hbl2,hol2⟩:=DF q1 q2 e1
      rw[hb]at hb2;cases hb2
      rw[hD]at hol2
      have hown2:=q1.own c _ q2
      have hnd2:=hown2.1
      rw[hbl2,zgV]at hnd2
      obtain⟨L',k1,k2,k3⟩:=OL.set hspl q4 hol2 hj
      have hapart:∀b∈M1,b∉bl2 c:=fun b hb hb2=>q6 c _ q2 b hb2 hb
      have hLnd:(b::L').Nodup:=by
       rw[zgV]
       refine⟨fun hm=> ?_,k3 hnd2.2 g4 (fun x hx hx2=>hapart x hx (by rw[hbl2];simp[hx2]))⟩
       rcases k2 b hm with h5|h5
       ·exact hnd2.1 h5
       ·exact hapart b h5 (by rw[hbl2];simp)
      have hbi2:=hown2.2 b (by rw[hbl2];simp)
      rw[<-q3]at hn
      refine⟨_,hrun',_,hn,Im2,hd,(fun d=>if d=c then b::L' else bl2 d), ?_⟩
      refine q1.obj2 (M:=M1) (L:=b::L') q2 (fun x _ hx=>xa (fun e=>hx (by rw[hbl2,e];simp))) (by rw[wM];exact zgC _) (KeptW.setRow_ h.below hbi.1 _) hLnd (fun x hx=> ?_) q5 q6
       ⟨.inr ⟨b,f0,cap,_,F,L',by rw[e2,List.length_set],setRow_heap w b cur _ F _ hb,hnewsz hspl,by rw[List.length_set];exact hcap,rfl, ?_⟩,fun q e=>hcnil q rfl y e⟩
      ·rcases zgO.1 hx with rfl|hx
       ·exact .inl (by rw[hbl2];simp)
       ·exact(k2 x hx).imp_left fun h=>by rw[hbl2];simp[h]
      ·have hbL:b∉L' :=(zgV.1 hLnd).1
       rw[hnewdrop]
       exact OL.tell (hsmIm hbi2.2.2) (fun _ x=>x) (fun x hx=>xa (fun e=>hbL (e▸hx))) k1
     ·cases hn
   ·
    rename_i t xs hc
    obtain⟨h1,hnn⟩:=zb hn;clear hn;have hn:=hnn;clear hnn
    obtain⟨h2,hnn⟩:=zb hn;clear hn;have hn:=hnn;clear hnn
    have hm:(Nat.beq m t.sz=true/\Nat.ble (o+n) m=true)/\t.flat=true:=by simpa using h1
    obtain rfl:=zgE hm.1.1
    have hle:=zgZ hm.1.2
    have hf:=hm.2
    have hj:j<xs.length:=zgw h2
    obtain⟨b,fz,e1,rfl⟩:=hx
    obtain⟨b',cur,F,e2,hb,hcs0,hbl,_,hol⟩:=h.objs c _ hc
    rw[Bc e2]at e1;cases e1
    rw[Nat.zero_add]
    have hown:=h.own c _ hc
    have hbi:=hown.2 b (by rw[hbl];simp)
    have hjc:j*t.sz+t.sz<=cur.toList.length:=by
     have:=hol.len
     have h3:(j+1)*t.sz<=xs.length*t.sz:=Nat.mul_le_mul_right _ hj
     rw[Nat.add_mul,Nat.one_mul]at h3
     omega
    have hfit:j*t.sz+o+us.length<=cur.size:=by rw[<-zgW];omega
    have hcells:cur.toList.take (j*t.sz+o)++us++cur.toList.drop (j*t.sz+o+us.length)=cur.toList.take (j*t.sz)++splice ((cur.toList.drop (j*t.sz)).take t.sz) o us++cur.toList.drop (j*t.sz+t.sz):=
     Lv _ _ _ _ _ (by omega) hjc
    have hrun' :=hrun hb hfit
    rw[hcells]at hrun'
    have hesz:((cur.toList.drop (j*t.sz)).take t.sz).length=t.sz:=by rw[zgL,zgR];omega
    have hspl:(splice ((cur.toList.drop (j*t.sz)).take t.sz) o us).length=t.sz:=by rw[QT (by omega)];exact hesz
    split at hn
    ·rename_i y hy
     obtain⟨l,hp,_,hle2⟩:=hol.get j xs[j] (by simp[hj])
     have hget:xs.getD j t.dflt=xs[j]:=by simp[List.getD,hj]
     rw[hget]at hy
     have hyv:VR w Im t y (splice ((cur.toList.drop (j*t.sz)).take t.sz) o us):=vA hy ((xH hp.1).splice hu2 o)
     obtain⟨L',k1,k2,k3⟩:=OL.set (p:=rowP w Im t false) hspl (My:=[]) ⟨hyv,rfl⟩ hol hj
     have k1' :OL t.sz (rowP w Im t false) (xs.set j y) _ []:=OL.flatly hf k1
     refine⟨_,hrun',_,hn,Im,hd,_,h.obj (L:=[b]) hc (fun x _ hx=>xa (fun e=>hx (by rw[hbl,e];simp))) (by rw[wM];exact zgC _) (KeptW.setRow_ h.below hbi.1 _)
      (fun _ x=>x) (fun b hb=> .inl hb) (by simp) (fun x hx=>by rw[hbl];exact hx) ⟨b,_,F,e2,setRow_heap w b cur _ F _ hb, ?_,rfl,hf, ?_⟩⟩
     ·rw[List.length_set,<-hcs0,<-zgW,List.size_toArray,zgA,zgA,zgL,zgR,hspl];omega
     ·exact OL.tell (fun x hx=>xa (fun e=>hbi.2.2 (e▸hx))) (fun _ x=>x) (fun x hx=>by cases hx) k1'
    ·cases hn
   ·
    rename_i t xs i0 l0 hc
    obtain⟨h1,hn1⟩:=zb hn
    obtain⟨h2,hn2⟩:=zb hn1
    clear hn hn1
    simp only[zgx]at h1
    obtain⟨⟨⟨q1,q2⟩,q3⟩,q4⟩:=h1
    obtain rfl:=zgE q1
    have q2:=zgZ q2
    obtain rfl:=zgE h2
    obtain⟨b2,f2,k0,rfl⟩:=hx
    obtain⟨b,f0,cap,cur,F,L1,L2,e1,e2,e3,e4,e5,e6,e7,e8,e9⟩:=h.objs c _ hc
    rw[wi e1]at k0;cases k0
    have hown:=h.own c _ hc
    rw[e6]at hown
    have hbm:=hown.2 b2 (by simp)
    have hlen:=e9.len
    have hbig:f2+(j+1)*t.sz<=cur.toList.length:=by
     have:(j+1)*t.sz<=cap*t.sz:=Nat.mul_le_mul (by omega) (zgC _)
     rw[zgW];omega
    rw[Nat.add_mul,Nat.one_mul]at hbig
    have hfit:f2+j*t.sz+o+us.length<=cur.size:=by rw[<-zgW];omega
    have hnotb:∀x,x∈L1\/x∈L2->x≠b2:=fun x hx e=>(zgV.1 hown.1).1 (by rw[<-e];exact zgz.2 hx)
    generalize hW:w.setRow b2 (cur.toList.take (f2+j*t.sz+o)++us++cur.toList.drop (f2+j*t.sz+o+us.length)).toArray=W
    have hWo:∀x,x≠b2->W.heap[x]? =w.heap[x]? :=fun x hx=>by rw[<-hW];exact xa hx
    have hWs:W.heap.size=w.heap.size:=by rw[<-hW];exact wM
    have hWb:W.heap[b2]? =some (.cells (cur.toList.take (f2+j*t.sz+o)++us++cur.toList.drop (f2+j*t.sz+o+us.length)).toArray F (0,0)):=by rw[<-hW];exact setRow_heap w b2 cur _ F _ e2
    have hsame:Same Im w W:=fun x hx=>hWo x (fun e=>hbm.2.2 (e▸hx))
    have hdrop:((cur.toList.take (f2+j*t.sz+o)++us++cur.toList.drop (f2+j*t.sz+o+us.length))).drop f2=(cur.toList.drop f2).take (j*t.sz+o)++us++(cur.toList.drop f2).drop (j*t.sz+o+us.length):=by
     rw[zgU,List.drop_append_of_le_length (by rw[zgL];omega),List.drop_take,List.drop_drop,zgU,show f2+j*t.sz+o-f2=j*t.sz+o by omega,show f2+(j*t.sz+o+us.length)=f2+j*t.sz+o+us.length by omega]
    refine⟨W,by rw[<-hW];exact hrun e2 hfit,_,hn2,Im,hd,_,h.obj (L:=b2::(L1++L2)) hc (fun x _ hx=>hWo x (fun e=>hx (by rw[e6,e];simp))) (by rw[hWs];exact zgC _)
     (by rw[<-hW];exact KeptW.setRow_ h.below hbm.1 _) (fun _ x=>x) (fun b hb=> .inl hb) hown.1 (fun x hx=>by rw[e6];exact hx)
     ⟨b2,f2,cap,_,F,L1,L2,e1,hWb, ?_,e4,e5,rfl, ?_, ?_, ?_⟩⟩
    ·rw[List.size_toArray,zgA,zgA,zgL,zgR,zgW];omega
    ·show OL t.sz (OT W t) _ ((List.drop f2 (_++us++_)).take _) L1
     rw[hdrop,zgU,List.take_append_of_le_length (by rw[zgL,zgR];omega),List.take_take,Nat.min_eq_left (by omega)]
     exact e7.mapP fun x cc l hl hp=>OT.same hp fun b' hb' =>hWo b' (hnotb b' (.inl (hl b' hb')))
    ·show OL t.sz (OT W t) _ ((List.drop f2 (_++us++_)).drop _) L2
     have hd3:((cur.toList.drop f2).take (j*t.sz+o)++us++(cur.toList.drop f2).drop (j*t.sz+o+us.length)).drop (j*t.sz+t.sz)=(cur.toList.drop f2).drop (j*t.sz+t.sz):=by
      have h1:((cur.toList.drop f2).take (j*t.sz+o)++us).length=j*t.sz+o+us.length:=by rw[zgA,zgL,zgR];omega
      have h2:j*t.sz+t.sz=((cur.toList.drop f2).take (j*t.sz+o)++us).length+(t.sz-o-us.length):=by omega
      rw[h2,List.drop_length_add_append,List.drop_drop]
      congr 1
      omega
     rw[hdrop,hd3]
     exact e8.mapP fun x cc l hl hp=>OT.same hp fun b' hb' =>hWo b' (hnotb b' (.inr (hl b' hb')))
    ·show CVs W Im hd (((List.drop f2 (_++us++_)).drop _).take _) _
     have hd4:(((cur.toList.drop f2).take (j*t.sz+o)++us++(cur.toList.drop f2).drop (j*t.sz+o+us.length)).drop (j*t.sz)).take t.sz=splice (((cur.toList.drop f2).drop (j*t.sz)).take t.sz) o us:=by
      have hA:j*t.sz+t.sz<=(cur.toList.drop f2).length:=by rw[zgR];omega
      have hT:((cur.toList.drop f2).take (j*t.sz)).length=j*t.sz:=by rw[zgL];omega
      have hS:(splice (((cur.toList.drop f2).drop (j*t.sz)).take t.sz) o us).length=t.sz:=by
       rw[QT (by rw[zgL,zgR];omega),zgL,zgR];omega
      rw[Lv _ us j t.sz o (by omega) hA,zgU,List.drop_append_of_le_length (by omega),List.drop_of_length_le (by omega),List.nil_append,List.take_append_of_le_length (by omega),zgT (by omega)]
     rw[hdrop,hd4]
     have hlive:CVs W Im hd us cs:=by
      have:=hu2.tell (Tell.keep (w' :=W) hd hsame (fun _ x=>x))
      rwa [CV.map_id',List.map_id]at this
     have hl0:CVs W Im hd (((cur.toList.drop f2).drop (j*t.sz)).take t.sz) l0:=by
      have:=e9.tell (Tell.keep (w' :=W) hd hsame (fun _ x=>x))
      rwa [CV.map_id',List.map_id]at this
     exact hl0.splice hlive o
   ·
    rename_i t xs i0 c0 hc
    split at hn
    ·rename_i k
     split at hn
     ·rename_i u ys nn hk
      split at hn
      ·rename_i ys' hys
       obtain⟨ee,hee⟩:=yP hys
       cases ee
       cases hee
       obtain⟨h1,hnn⟩:=zb hn;clear hn;have hn:=hnn;clear hnn
       obtain⟨h2,hnn⟩:=zb hn;clear hn;have hn:=hnn;clear hnn
       simp only[zgx,Bool.not_eq_true']at h1
       obtain rfl:=zgE h1.1.1
       obtain rfl:=zgE h1.1.2
       obtain rfl:=zgE h2
       have hck:c≠k:=fun e=>by rw[e]at h1;have:=h1.2;rw[Nat.beq_refl]at this;cases this
       obtain⟨b,f0,cap,cur,F,u0,k1,k2,k3,k4,k5,k6,k7,k8⟩:=h.fill hck hc hk
       obtain⟨b2,f2,q1,rfl⟩:=hx
       rw[wi k1]at q1;cases q1
       obtain⟨u1,rfl⟩:∃u1,us=[u1]:=by
        match us,hu2 with
        | [u1],_=>exact⟨u1,rfl⟩
       have hu:u1=hd k:=hu2.1
       subst hu
       have hrun' :=hrun (o:=f0+j*1+0) k2 (by rw[<-zgW,List.length_singleton];omega)
       have hset:(cur.toList.take (f0+j*1+0)++[hd k]++cur.toList.drop (f0+j*1+0+[hd k].length))=cur.toList.set (f0+j) (hd k):=by
        rw[List.set_eq_take_append_cons_drop,zgG k4]
        simp
       rw[hset]at hrun'
       obtain⟨bl',hfin⟩:=k8 (w.setRow b (cur.toList.set (f0+j) (hd k)).toArray) (fun b' hb' =>xa hb') (by rw[wM];exact zgC _) (KeptW.setRow_ h.below k5 _) (setRow_heap w b cur _ F _ k2)
       exact⟨_,hrun',_,hn,Im,hd,bl',hfin⟩
      ·cases hn
     ·cases hn
    ·cases hn
   ·cases hn
  ·cases hn
 ·cases hn
end
section
variable {P:Program} {ρ:Type} {gw:Gw} {w0:Base gw} {w:World} {S0:Nat->Prop} {σ:St} {a:Act} {Im:Nat->Prop} {hd:Nat->Value} {bl:Nat->List Nat} {Q:Exit->Act->World->Prop}
theorem Yd {k:IntKind}{i y:Nat}{code:BoundsCode}(h:i<=y):(Instr.sliceBound (.int k (i:Int)) y code).run P w= .ok i w:=by
 simp[Instr.sliceBound,asIntOf,h]
theorem gx (h:SRi w0 S0 σ a w Im hd bl){n:Nat}{lo hi:Option Operand}{next:Nat->Nat->Option ρ}{r:ρ}(hn:jQ (n:Int) (lo.map σ.ev) (hi.map σ.ev) next=some r):
 ∃l h' :Nat,l<=h' /\h' <=n/\next l h' =some r/\(lo=none->l=0)/\
  ∀(isSlice:Bool) (cap:Nat),n<=cap->(Instr.sliceBounds isSlice n cap (lo.map a.eval) (hi.map a.eval) none).run P w= .ok (l,h',cap) w:=by
 unfold jQ at hn
 have key:∀(hv:Option Value) (m:Nat),(hv=none/\m=n\/∃k,hv=some (.int k (m:Int)))->
  (match lo.map σ.ev with
    |none=>chk (decide (0<=(m:Int))) (chk (decide ((m:Int)<=n)) (next 0 (m:Int).toNat))
    |some l=>match aIx l with
     |some l=>chk (decide (0<=l)) (chk (decide (l<=(m:Int))) (chk (decide ((m:Int)<=n)) (next l.toNat (m:Int).toNat)))
     |none=>none)=some r->∃l:Nat,l<=m/\m<=n/\next l m=some r/\(lo=none->l=0)/\
    ∀(isSlice:Bool) (cap:Nat),n<=cap->(Instr.sliceBounds isSlice n cap (lo.map a.eval) hv none).run P w= .ok (l,m,cap) w:=by
  intro hv m hrun hl
  cases lo with
  |none=>
   simp only[Option.map_none]at hl⊢
   obtain⟨_,hl⟩:=zb hl
   obtain⟨h2,hl⟩:=zb hl
   have h2' :(m:Int)<=n:=zgw h2
   refine⟨0,Nat.zero_le _,by omega,by simpa using hl,fun _=>rfl,fun isSlice cap hc=> ?_⟩
   rcases hrun with⟨rfl,rfl⟩|⟨k,rfl⟩
   ·simp[Instr.sliceBounds]
   ·have hb:∀code,(Instr.sliceBound (.int k (m:Int)) cap code).run P w= .ok m w:=fun code=>Yd (by omega)
    simp[Instr.sliceBounds,hb]
  |some l=>
   simp only[Option.map_some]at hl⊢
   cases hx:aIx (σ.ev l)with
   |none=>simp[hx]at hl
   |some z=>
    simp only[hx]at hl
    obtain⟨h1,hl⟩:=zb hl
    obtain⟨h2,hl⟩:=zb hl
    obtain⟨h3,hl⟩:=zb hl
    have h1' :0<=z:=zgw h1
    have h2' :z<=(m:Int):=zgw h2
    have h3' :(m:Int)<=n:=zgw h3
    obtain⟨q,rfl⟩:∃q:Nat,z=q:=⟨z.toNat,by omega⟩
    obtain⟨k,ek⟩:=V3 (h.ev l) hx
    refine⟨q,by omega,by omega,by simpa using hl,(fun e=>by cases e),fun isSlice cap hc=> ?_⟩
    have hb:∀code,(Instr.sliceBound (.int k (q:Int)) m code).run P w= .ok q w:=fun code=>Yd (by omega)
    rcases hrun with⟨rfl,rfl⟩|⟨k',rfl⟩
    ·simp[Instr.sliceBounds,ek,hb]
    ·have hb' :∀code,(Instr.sliceBound (.int k' (m:Int)) cap code).run P w= .ok m w:=fun code=>Yd (by omega)
     simp[Instr.sliceBounds,ek,hb,hb']
 cases hi with
 |none=>
  simp only[Option.map_none]at hn
  obtain⟨l,h1,h2,h3,h4,h5⟩:=key none n (.inl ⟨rfl,rfl⟩) hn
  exact⟨l,n,h1,h2,h3,h4,h5⟩
 |some x=>
  simp only[Option.map_some]at hn
  cases hx:aIx (σ.ev x)with
  |none=>simp[hx]at hn
  |some z=>
   simp only[hx]at hn
   obtain⟨k,ek⟩:=V3 (h.ev x) hx
   have hz:0<=z/\z<=n:=by
    cases lo with
    |none=>
     simp only[Option.map_none]at hn
     obtain⟨h1,hn⟩:=zb hn
     obtain⟨h2,hn⟩:=zb hn
     exact⟨zgw h1,zgw h2⟩
    |some l=>
     simp only[Option.map_some]at hn
     cases hl:aIx (σ.ev l)with
     |none=>simp[hl]at hn
     |some y=>
      simp only[hl]at hn
      obtain⟨h1,hn⟩:=zb hn
      obtain⟨h2,hn⟩:=zb hn
      obtain⟨h3,hn⟩:=zb hn
      exact⟨Int.le_trans (zgw h1) (zgw h2),zgw h3⟩
   obtain⟨m,rfl⟩:∃m:Nat,z=m:=⟨z.toNat,by omega⟩
   obtain⟨l,h1,h2,h3,h4,h5⟩:=key (some (a.eval x)) m (.inr ⟨k,by rw[ek]⟩) hn
   exact⟨l,m,h1,h2,h3,h4,h5⟩
theorem J7 (h:SRi w0 S0 σ a w Im hd bl){n:Nat}{lo hi:Option Operand}{next:Nat->Nat->Option ρ}{r:ρ}(hn:jQ (n:Int) (lo.map σ.ev) (hi.map σ.ev) next=some r):
 ∃l h' :Nat,l<=h' /\h' <=n/\next l h' =some r/\(lo=none->l=0)/\
  ∀(w' :World) (isSlice:Bool) (cap:Nat),n<=cap->(Instr.sliceBounds isSlice n cap (lo.map a.eval) (hi.map a.eval) none).run P w' = .ok (l,h',cap) w' :=by
 unfold jQ at hn
 have key:∀(hv:Option Value) (m:Nat),(hv=none/\m=n\/∃k,hv=some (.int k (m:Int)))->
  (match lo.map σ.ev with
    |none=>chk (decide (0<=(m:Int))) (chk (decide ((m:Int)<=n)) (next 0 (m:Int).toNat))
    |some l=>match aIx l with
     |some l=>chk (decide (0<=l)) (chk (decide (l<=(m:Int))) (chk (decide ((m:Int)<=n)) (next l.toNat (m:Int).toNat)))
     |none=>none)=some r->∃l:Nat,l<=m/\m<=n/\next l m=some r/\(lo=none->l=0)/\
    ∀(w' :World) (isSlice:Bool) (cap:Nat),n<=cap->(Instr.sliceBounds isSlice n cap (lo.map a.eval) hv none).run P w' = .ok (l,m,cap) w' :=by
  intro hv m hrun hl
  cases lo with
  |none=>
   simp only[Option.map_none]at hl⊢
   obtain⟨_,hl⟩:=zb hl
   obtain⟨h2,hl⟩:=zb hl
   have h2' :(m:Int)<=n:=zgw h2
   refine⟨0,Nat.zero_le _,by omega,by simpa using hl,fun _=>rfl,fun w' isSlice cap hc=> ?_⟩
   rcases hrun with⟨rfl,rfl⟩|⟨k,rfl⟩
   ·simp[Instr.sliceBounds]
   ·have hb:∀code,(Instr.sliceBound (.int k (m:Int)) cap code).run P w' = .ok m w' :=fun code=>Yd (by omega)
    simp[Instr.sliceBounds,hb]
  |some l=>
   simp only[Option.map_some]at hl⊢
   cases hx:aIx (σ.ev l)with
   |none=>simp[hx]at hl
   |some z=>
    simp only[hx]at hl
    obtain⟨h1,hl⟩:=zb hl
    obtain⟨h2,hl⟩:=zb hl
    obtain⟨h3,hl⟩:=zb hl
    have h1' :0<=z:=zgw h1
    have h2' :z<=(m:Int):=zgw h2
    have h3' :(m:Int)<=n:=zgw h3
    obtain⟨q,rfl⟩:∃q:Nat,z=q:=⟨z.toNat,by omega⟩
    obtain⟨k,ek⟩:=V3 (h.ev l) hx
    refine⟨q,by omega,by omega,by simpa using hl,(fun e=>by cases e),fun w' isSlice cap hc=> ?_⟩
    have hb:∀code,(Instr.sliceBound (.int k (q:Int)) m code).run P w' = .ok q w' :=fun code=>Yd (by omega)
    rcases hrun with⟨rfl,rfl⟩|⟨k',rfl⟩
    ·simp[Instr.sliceBounds,ek,hb]
    ·have hb' :∀code,(Instr.sliceBound (.int k' (m:Int)) cap code).run P w' = .ok m w' :=fun code=>Yd (by omega)
     simp[Instr.sliceBounds,ek,hb,hb']
 cases hi with
 |none=>
  simp only[Option.map_none]at hn
  obtain⟨l,h1,h2,h3,h4,h5⟩:=key none n (.inl ⟨rfl,rfl⟩) hn
  exact⟨l,n,h1,h2,h3,h4,h5⟩
 |some x=>
  simp only[Option.map_some]at hn
  cases hx:aIx (σ.ev x)with
  |none=>simp[hx]at hn
  |some z=>
   simp only[hx]at hn
   obtain⟨k,ek⟩:=V3 (h.ev x) hx
   have hz:0<=z/\z<=n:=by
    cases lo with
    |none=>
     simp only[Option.map_none]at hn
     obtain⟨h1,hn⟩:=zb hn
     obtain⟨h2,hn⟩:=zb hn
     exact⟨zgw h1,zgw h2⟩
    |some l=>
     simp only[Option.map_some]at hn
     cases hl:aIx (σ.ev l)with
     |none=>simp[hl]at hn
     |some y=>
      simp only[hl]at hn
      obtain⟨h1,hn⟩:=zb hn
      obtain⟨h2,hn⟩:=zb hn
      obtain⟨h3,hn⟩:=zb hn
      exact⟨Int.le_trans (zgw h1) (zgw h2),zgw h3⟩
   obtain⟨m,rfl⟩:∃m:Nat,z=m:=⟨z.toNat,by omega⟩
   obtain⟨l,h1,h2,h3,h4,h5⟩:=key (some (a.eval x)) m (.inr ⟨k,by rw[ek]⟩) hn
   exact⟨l,m,h1,h2,h3,h4,h5⟩
theorem VR.cut {t:Ty}{xs:List t.den}{A:Option Addr}{cap l h:Nat}(hv:VR w Im (.slice t) xs [.slice A xs.length cap])(hl:l<=h)(hh:h<=xs.length)(hc:xs.length<=cap):
 VR w Im (.slice t) ((xs.take h).drop l) [.slice (if cap=l then A else A.map (·.add (l*t.sz))) (h-l) (cap-l)]:=by
 have hlen:((xs.take h).drop l).length=h-l:=by rw[zgR,zgL];omega
 refine⟨_,cap-l,by rw[hlen],by omega, ?_⟩
 obtain⟨A',cap',e,_,hr⟩:=hv
 simp only[List.cons.injEq,Value.slice.injEq,and_true]at e
 obtain⟨rfl,_,rfl⟩:=e
 by_cases he:(xs.take h).drop l=[]
 ·exact .inl he
 ·have hlt:l<h:=by
   rcases Nat.lt_or_ge l h with h1|h1
   ·exact h1
   ·exfalso;apply he;rw[<-List.length_eq_zero_iff,hlen];omega
  rcases hr with rfl|⟨b,o,rfl,hb,hr⟩
  ·simp at he
  ·refine .inr ⟨b,o+l*t.sz,by rw[zgH (by omega)];simp[gR],hb,fun i x hx=> ?_⟩
   rw[List.getElem?_drop,List.getElem?_take]at hx
   split at hx
   ·obtain⟨cs,h1,h2,h3⟩:=hr (l+i) x hx
    refine⟨cs,h1, ?_,h3⟩
    rwa [Nat.add_mul,<-Nat.add_assoc]at h2
   ·cases hx
theorem Km {T e:TypeId}(hu:P.underlying T=some (.slice e)){i:TypeInfo}(hi:P.info? e=some i){A:Option Addr}{n cap l h:Nat}{lo hi' :Option Value}
 (hb:(Instr.sliceBounds true n cap lo hi' none).run P w= .ok (l,h,cap) w):
 (Instr.sliceAt T (.slice A n cap) lo hi' none).run P w= .ok (.slice (if cap=l then A else A.map (·.add (l*i.size))) (h-l) (cap-l)) w:=by
 simp[Instr.sliceAt,Instr.slice,run_underlying hu,hb,gJ hi]
theorem OL.takeN {α:Type}{n:Nat}{p:α->List Value->List Nat->Prop}:∀ {xs:List α} {cs:List Value} {L:List Nat} (k:Nat),OL n p xs cs L->∃L',OL n p (xs.take k) cs L' /\(∀b∈L',b∈L)/\(L.Nodup->L'.Nodup)
 | [],cs,L,k,h=>⟨[],by cases k<;>rfl,by simp,fun _=>List.nodup_nil⟩
 |x::xs,cs,L,0,h=>⟨[],rfl,by simp,fun _=>List.nodup_nil⟩
 |x::xs,cs,L,k+1,h=>by
  obtain⟨L1,L2,rfl,hn,hp,h⟩:=h
  obtain⟨L',h1,h2,h3⟩:=OL.takeN k h
  refine⟨L1++L',⟨L1,L',rfl,hn,hp,h1⟩,fun b hb=> ?_,fun hL=> ?_⟩
  ·rcases zgz.1 hb with hb|hb
   ·simp[hb]
   ·simp[h2 b hb]
  ·rw[zgM]at hL⊢
   exact⟨hL.1,h3 hL.2.1,fun b hb c hc=>hL.2.2 b hb c (h2 c hc)⟩
theorem OL.dropG {α:Type}{n:Nat}{p:α->List Value->List Nat->Prop}:∀ {xs:List α} {cs:List Value} {L:List Nat} (k:Nat),OL n p xs cs L->∃L',OL n p (xs.drop k) (cs.drop (k*n)) L' /\(∀b∈L',b∈L)/\(L.Nodup->L'.Nodup)
 | [],cs,L,k,h=>⟨[],by rw[List.drop_nil];exact rfl,by simp,fun _=>List.nodup_nil⟩
 |x::xs,cs,L,0,h=>⟨L,by simpa using h,fun _ h=>h,fun h=>h⟩
 |x::xs,cs,L,k+1,h=>by
  obtain⟨L1,L2,rfl,hn,hp,h⟩:=h
  obtain⟨L',h1,h2,h3⟩:=OL.dropG k h
  refine⟨L', ?_,fun b hb=>by simp[h2 b hb],fun hL=>h3 (zgM.1 hL).2.1⟩
  rw[List.drop_drop]at h1
  rw[List.drop_succ_cons,show(k+1)*n=n+k*n by rw[Nat.add_mul];omega]
  exact h1
theorem SRi.cutRow (h:SRi w0 S0 σ a w Im hd bl){c d:Nat}(hd5:d<500000){t:Ty}{xs:List t.den}{dp cn:Bool}(hc:zd σ.ob c=some (.row t xs dp cn)){l m:Nat}(hl:l<=m)(hm:m<=xs.length){A:Option Addr}{cap:Nat}(eA:hd c= .slice A xs.length cap):
 ∃hd' bl',SRi w0 S0 ((σ.kill c).new d (.row t ((xs.take m).drop l) dp false)) a w Im hd' bl' /\hd' d= .slice (if cap=l then A else A.map (·.add (l*t.sz))) (m-l) (cap-l):=by
 obtain⟨g1,lo⟩:=h.takeOut hc
 have hlen:((xs.take m).drop l).length=m-l:=by rw[zgR,zgL];omega
 rcases lo.row with⟨e1,e2,e3⟩|⟨b,f0,cap',cs,F,Li,e1,hb,hcs,hle,e3,hol⟩
 ·subst e2
  rw[e1]at eA
  cases eA
  have hm0:m=0:=by simpa using hm
  subst hm0
  obtain rfl:l=0:=by omega
  refine⟨_,_,g1.new_ d hd5 (v:= .slice none 0 0) (L:=[]) (fun k p _ _ b _ hb=>by cases hb) List.nodup_nil (fun b hb=>by cases hb) ⟨.inl ⟨rfl,by simp,rfl⟩,fun e=>by cases e⟩,by simp⟩
 ·rw[e1]at eA
  cases eA
  have hnd:=lo.nodup
  rw[e3]at hnd
  rw[zgV]at hnd
  obtain⟨L1,o1,o2,o3⟩:=OL.takeN m hol
  obtain⟨L2,q1,q2,q3⟩:=OL.dropG l o1
  have hsub:∀x∈b::L2,x∈bl c:=fun x hx=>by
   rw[e3]
   rcases zgO.1 hx with rfl|hx
   ·simp
   ·simp[o2 x (q2 x hx)]
  refine⟨_,_,g1.new_ d hd5 (v:= .slice (if cap=l then some ⟨b,f0,none⟩else(some ⟨b,f0,none⟩:Option Addr).map (·.add (l*t.sz))) (m-l) (cap-l)) (L:=b::L2) (fun k p _ hp x hx hx2=>lo.free k p hp x hx (hsub x hx2))
   (zgV.2 ⟨fun hx=>hnd.1 (o2 b (q2 b hx)),q3 (o3 hnd.2)⟩) (fun x hx=>lo.own x (hsub x hx)) ⟨.inr ⟨b,if cap=l then f0 else f0+l*t.sz,cap-l,cs,F,L2, ?_,hb, ?_,by rw[hlen];omega,rfl, ?_⟩,fun e=>by cases e⟩,by simp⟩
  ·rw[hlen]
   by_cases e:cap=l
   ·simp[e]
   ·simp[e,gR]
  ·by_cases e:cap=l
   ·simp only[e,if_true,Nat.sub_self,Nat.zero_mul,Nat.add_zero];omega
   ·simp only[e,if_false]
    have:l*t.sz+(cap-l)*t.sz=cap*t.sz:=by rw[<-Nat.add_mul];congr 1;omega
    omega
  ·by_cases e:cap=l
   ·simp only[e,if_true]
    have hnil:(xs.take m).drop l=[]:=List.eq_nil_of_length_eq_zero (by rw[hlen];omega)
    rw[hnil]at q1⊢
    exact q1
   ·simp only[e,if_false]
    rw[List.drop_drop]at q1
    exact OL.tell (Same.refl _ _) (fun _ x=>x) (fun _ _=>rfl) q1
theorem zdC {E:Env}(hE:∀T ti,E.ty T=some ti->TyOk P T ti)(h:SRi w0 S0 σ a w Im hd bl){o:Oper}{T d:Nat}{x:Operand}{lo hi mx:Option Operand}(ho:o.op= .slice T x lo hi mx)(hd' :o.dst=some d)(hmx:mx=none)
 {next:St->Option ρ} {r:ρ} (hn:aSlice E σ T d (σ.ev x) (lo.map σ.ev) (hi.map σ.ev) next=some r):o.wp P a w (Goes w0 S0 next r) Q:=by
 subst hmx
 have hx:=h.ev x
 have hop:∀ {v:Value},(Instr.sliceAt T (a.eval x) (lo.map a.eval) (hi.map a.eval) none).run P w= .ok v w->(execOp a.eval o).run P w= .ok (.value v) w:=by
  intro v hv
  simp[execOp,ho,hv]
 unfold aSlice at hn
 split at hn
 ·
  rename_i s hs
  rw[hs]at hx
  have ex:=Wg hx
  split at hn
  ·rename_i hT
   obtain⟨dd,hd2,hk,_⟩:=hE T _ hT
   cases(show dd=_ from hk)
   obtain⟨l,h',h1,h2,h3,_,h5⟩:=gx (P:=P) h hn
   refine yO (hop (v:= .string (s.extract l h')) ?_) (w' :=w) ⟨_,h3,Im,hd,bl, ?_⟩
   ·rw[ex]
    have:=h5 false s.size (zgC _)
    simp[Instr.sliceAt,Instr.slice,run_underlying hd2,this]
   ·rw[hd'];exact h.put (some d) svr
  ·cases hn
 ·
  rename_i t xs hs
  rw[hs]at hx
  split at hn
  ·rename_i u hT
   obtain⟨h0,hn⟩:=zb hn
   obtain rfl:=Ty.same_eq h0
   obtain⟨e,hu,i,z,hi',hsz,_⟩:=yB hE hT
   obtain⟨l,h',h1,h2,h3,_,h5⟩:=gx (P:=P) h hn
   have hx' :VR w Im (.slice u) xs [a.eval x]:=hx
   obtain⟨A,cap,ev,hc,_⟩:=hx'
   simp only[List.cons.injEq,and_true]at ev
   have hr:=Km (P:=P) hu hi' (A:=A) (h5 true cap hc)
   rw[<-ev]at hr
   refine yO (hop hr) ⟨_,h3,Im,hd,bl, ?_⟩
   rw[hd']
   refine h.put (some d) ?_
   rw[hsz]
   have hx2:VR w Im (.slice u) xs [a.eval x]:=hx
   rw[ev]at hx2
   exact VR.cut hx2 h1 h2 hc
  ·cases hn
 ·
  rename_i c hs
  rw[hs]at hx
  have ex:a.eval x=hd c:=hx
  split at hn
  ·rename_i t xs dp cn u hc hT
   obtain⟨h0,hn⟩:=zb hn
   obtain rfl:=Ty.same_eq h0
   obtain⟨e,hu,i,z,hi',hsz,_⟩:=yB hE hT
   have hrow:=h.objs c _ hc
   obtain⟨A,cap,eA,hcap⟩:∃A cap,hd c= .slice A xs.length cap/\xs.length<=cap:=by
    rcases hrow.1 with⟨e1,rfl,_⟩|⟨b,f0,cap,cs,F,Li,e1,_,_,h4,_⟩
    ·exact⟨none,0,e1,zgC _⟩
    ·exact⟨_,cap,e1,h4⟩
   obtain⟨l,h',h1,h2,h3,h4,h5⟩:=gx (P:=P) h hn
   have hr:=Km (P:=P) hu hi' (A:=A) (h5 true cap hcap)
   cases hfl:(Env.flag E (X0 T d)&&Nat.blt d 500000)with
   |true=>
    rw[hfl,zgJ]at h3
    rw[zgx]at hfl
    obtain⟨hd2,bl2,g1,g2⟩:=h.cutRow (by have:=hfl.2;rw[Nat.blt_eq]at this;exact this) hc h1 h2 eA
    rw[<-eA,<-ex,hsz]at hr
    refine yO (hop hr) ?_
    rw[hd',<-g2]
    exact⟨_,h3,Im,hd2,bl2,g1.put (some d) (av:= .cv (.own d)) rfl⟩
   |false=>
   rw[hfl,zgK]at h3
   rw[<-eA,<-ex]at hr
   refine yO (hop hr) ?_
   rw[hd']
   obtain⟨Im',g1,g2,g3,g4⟩:=h.freeze c
   have hrd:VR w Im' (.slice u) xs [hd c]:=VR.mono (Same.refl _ _) (fun b hb=>hb.elim (g2 b) (fun hb=>g4 _ hc b hb)) hrow.read
   rw[eA]at hrd
   refine⟨_,h3,Im',hd,bl,g1.put (some d) ?_⟩
   rw[hsz]
   exact VR.cut hrd h1 h2 hcap
  ·cases hn
 ·
  rename_i hs
  rw[hs]at hx
  have ex:a.eval x= .slice none 0 0:=hx
  split at hn
  ·rename_i u hT
   obtain⟨e,hu,i,z,hi',hsz,_⟩:=yB hE hT
   obtain⟨l,h',h1,h2,h3,h4,h5⟩:=gx (P:=P) (n:=0) h hn
   have hr:=Km (P:=P) hu hi' (A:=none) (h5 true 0 (zgC _))
   obtain rfl:h' =0:=by omega
   obtain rfl:l=0:=by omega
   rw[<-ex]at hr
   refine yO (hop hr) ⟨_,h3,Im,hd,bl, ?_⟩
   rw[hd']
   exact h.put (some d) (av:= .cv .nil) (by simp;exact rfl)
  ·cases hn
 ·
  rename_i c hs
  rw[hs]at hx
  obtain⟨b,e1,ex⟩:=hx
  split at hn
  ·rename_i t xs n u hc hT
   obtain⟨h0,hn⟩:=zb hn
   rw[zgx]at h0
   obtain rfl:=Ty.same_eq h0.1
   have hlen:=zgE h0.2
   obtain⟨e,hu,⟨i,z,hi',hsz,_⟩,_⟩:=hE T _ hT
   obtain⟨b',cs,F,e2,hb,hcs,hbl,hf,hol⟩:=h.objs c _ hc
   rw[e1]at e2;cases e2
   obtain⟨l,h',h1,h2,h3,h4,h5⟩:=gx (P:=P) h hn
   have hr:(Instr.sliceAt T (a.eval x) (lo.map a.eval) (hi.map a.eval) none).run P w= .ok (.slice (if xs.length=l then some ⟨b,0,none⟩else(some ⟨b,0,none⟩:Option Addr).map (·.add (l*u.sz))) (h' -l) (xs.length-l)) w:=by
    have h5' :=h5 false xs.length (zgC _)
    rw[hlen]at h5' ⊢
    rw[ex]
    simp[Instr.sliceAt,run_underlying hu,Instr.sureAddr,h5',gJ hi',hsz]
    split<;>rfl
   refine yO (hop hr) ?_
   rw[hd']
   have hk:SRi w0 S0 (σ.kill c) a w (fun x=>Im x\/x∈bl c) hd bl:=h.sub_ ⟨Same.refl _ _,fun _ x=> .inl x,fun d=>by
    show CVR w _ hd (hd d) (bif Nat.beq d c then .dead else .own d);cases Nat.beq d c<;>first|rfl|trivial,fun d o v k=>by
    show AVR w _ hd v (bif Nat.beq d c then .cv .dead else .adr d o);cases Nat.beq d c<;>first|exact k|trivial,fun d n i o v k=>by
    show AVR w _ hd v (bif Nat.beq d c then .cv .dead else .el d n i o);cases Nat.beq d c<;>first|exact k|trivial⟩ (fun b hb=>hb) (fun _=>⟨_,hc⟩)
   have hrd:VR w (fun x=>Im x\/x∈bl c) (.slice u) xs [.slice (some ⟨b,0,none⟩) xs.length xs.length]:=by
    refine⟨_,xs.length,rfl,zgC _, .inr ⟨b,0,rfl, .inr (by rw[hbl];simp),fun i x hx=> ?_⟩⟩
    obtain⟨l,hp,_,hle⟩:=hol.get i x hx
    refine⟨_,VR.sz hp.1, ?_,VR.mono (Same.refl _ _) (fun b hb=> .inl hb) hp.1⟩
    have:=ud hb (i*u.sz) u.sz
    rwa [Nat.zero_add]
   refine⟨_,h3,_,hd,bl,hk.put (some d) ?_⟩
   exact VR.cut hrd h1 h2 (zgC _)
  ·cases hn
 ·cases hn
theorem zap {E:Env}(hE:∀T ti,E.ty T=some ti->TyOk P T ti)(h:SRi w0 S0 σ a w Im hd bl){S D:Nat}{x:AV}{v:Value}(hx:AVR w Im hd v x){next:AV->Option ρ}{r:ρ}(hn:Na E σ S D x next=some r):
 ∃u av,(convert S D v).run P w= .ok u w/\AVR w Im hd u av/\next av=some r:=by
 unfold Na at hn
 split at hn
 ·rename_i hS hD
  obtain⟨d1,h1,_⟩:=hE S _ hS
  obtain⟨d2,h2,hk,_⟩:=hE D _ hD
  cases(show d2=_ from hk)
  rw[jB hx]
  exact⟨_,_,by simp[convert,run_underlying h1,run_underlying h2,Conv.intToInt],ivr,hn⟩
 ·rename_i hS hD
  obtain⟨d1,h1,hk1,_⟩:=hE S _ hS
  obtain⟨d2,h2,hk,_⟩:=hE D _ hD
  cases(show d2=_ from hk)
  cases(show d1=_ from hk1)
  rw[Wg hx]
  exact⟨_,_,by simp[convert,run_underlying h1,run_underlying h2],svr,hn⟩
 ·rename_i c hS hD
  split at hn
  ·rename_i xs hB hxs
   obtain⟨d2,h2,hk,_⟩:=hE D _ hD
   cases(show d2=_ from hk)
   obtain⟨_,e,h1,h3⟩:=hE _ _ hB
   rw[Nat.add_sub_cancel]at h1
   obtain⟨a,cap,ev,hc,hr⟩:=w6 h hxs hx
   cases ev
   refine⟨_,_, ?_,svr,hn⟩
   rw[run_convert_bytes_string w S D e a _ cap h1 h3 h2]
   rcases hr with rfl|⟨b,o,rfl,hb,hr⟩
   ·cases a with
    |none=>rfl
    |some a=>exact run_bytesToString w a 0 cap [] (run_loadCells_list w a [] (fun j v hj=>by cases hj))
   ·refine run_bytesToString w _ _ cap xs ?_
    have:=XJ (P:=P) (w:=w) (b:=b) (o:=o) (cs:=xs.map (Value.int .u8)) (fun j u hj=>by
     rw[List.getElem?_map]at hj
     obtain⟨x,hx,rfl⟩:=zgQ.1 hj
     obtain⟨cs,_,hat,hcs⟩:=hr j x hx
     cases(show cs=[Value.int .u8 x]from hcs)
     have:=hat 0 _ rfl
     simpa[Ty.sz]using this)
    rwa [zgN]at this
  ·cases hn
 ·cases hn
theorem zaS (h:SRi w0 S0 σ a w Im hd bl){c:Nat}{τ:St}{l:List CV}(hs:σ.sealBox c=some (τ,l)):
 ∃Im',SRi w0 S0 τ a w Im' hd bl/\(∀b,Im b->Im' b)/\∀v,AVR w Im hd v (.adr c 0)->RefR w Im' (fun _=>undef) v l:=by
 unfold St.sealBox at hs
 split at hs
 ·rename_i l0 hc0
  obtain⟨Im1,h1,i1,i2,i3⟩:=wH h (zf l0)
  dsimp only at hs
  split at hs
  ·rename_i l' hc
   cases hp:xO l' with
   |false=>rw[hp]at hs;cases hs
   |true=>
    rw[hp]at hs
    simp only[zgJ,Option.some.injEq,Prod.mk.injEq]at hs
    obtain⟨rfl,rfl⟩:=hs
    obtain⟨b,cs,F,e1,hb,hbl,hcs⟩:=h1.objs c _ hc
    have href:∀o v,AVR w Im1 hd v (.adr c o)->RefR w (fun x=>Im1 x\/x∈bl c) (fun _=>undef) v (l'.drop o):=by
     intro o v hv
     obtain⟨b',e2,rfl⟩:=hv
     rw[e1]at e2;cases e2
     refine⟨Pq hp o,b,o,cs.toList.drop o, .inr (by rw[hbl];simp),rfl, ?_, ?_⟩
     ·have:=ud hb o cs.size
      rwa [zgT (by simp)]at this
     ·have:=(Kw (hd2:=fun _=>undef) hp hcs).drop o
      exact CVs.plain (Same.refl _ _) (fun b hb=> .inl hb) this
    refine⟨fun x=>Im1 x\/x∈bl c,h1.sub_ ⟨Same.refl _ _,fun _ x=> .inl x,fun e=> ?_,fun e o v k=> ?_,fun e n i o v k=> ?_⟩ (fun b hb=>hb) (fun _=>⟨_,hc⟩),fun b hb=> .inl (i1 b hb),fun v hv=> ?_⟩
    ·show CVR w _ hd (hd e) (bif Nat.beq e c then .dead else .own e)
     cases Nat.beq e c
     ·exact rfl
     ·exact trivial
    ·show AVR w _ hd v (bif Nat.beq e c then .ref (l'.drop o)else .adr e o)
     rw[beqN]
     by_cases q:e=c
     ·subst q;simp only[decide_true,zgJ];exact href o v k
     ·simp only[q,decide_false,zgK];exact k
    ·show AVR w _ hd v (bif Nat.beq e c then .cv .dead else .el e n i o)
     cases Nat.beq e c<;>first|exact k|trivial
    ·have:=href 0 v hv
     simpa using this
  ·cases hs
 ·cases hs
theorem RefR.wider {Im' :Nat->Prop}(hi:∀b,Im b->Im' b){v:Value}{l:List CV}(h:RefR w Im (fun _=>undef) v l):RefR w Im' (fun _=>undef) v l:=RefR.tell (Same.refl _ _) hi h
theorem P6:∀ {xs:List Operand} {σ:St} {Im:Nat->Prop},SRi w0 S0 σ a w Im hd bl->∀ {τ:St} {l:List (List CV)},σ.capture xs=some (τ,l)->
 ∃Im',SRi w0 S0 τ a w Im' hd bl/\(∀b,Im b->Im' b)/\RefRs w Im' (fun _=>undef) (xs.map a.eval) l
 | [],σ,Im,h,τ,l,hc=>by
   unfold St.capture at hc
   cases hc
   exact⟨Im,h,fun _ x=>x,trivial⟩
 |x::xs,σ,Im,h,τ,l,hc=>by
  unfold St.capture at hc
  split at hc
  ·rename_i l' he
   obtain⟨⟨τ',m⟩,hm,e⟩:=zgQ.1 hc
   cases e
   obtain⟨Im',h1,h2,h3⟩:=P6 h hm
   have hx:=h.ev x
   rw[he]at hx
   exact⟨Im',h1,h2,RefR.wider h2 hx,h3⟩
  ·rename_i c he
   split at hc
   ·rename_i τ1 l1 hs
    obtain⟨⟨τ',m⟩,hm,e⟩:=zgQ.1 hc
    cases e
    obtain⟨Im1,g1,g2,g3⟩:=zaS h hs
    obtain⟨Im',h1,h2,h3⟩:=P6 g1 hm
    have hx:=h.ev x
    rw[he]at hx
    exact⟨Im',h1,fun b hb=>h2 b (g2 b hb),RefR.wider h2 (g3 _ hx),h3⟩
   ·cases hc
  ·cases hc
theorem UE (h:SRi w0 S0 σ a w Im hd bl):∀ {xs:List Operand} {l:List (List CV)},σ.capLive xs=some l->CapAs w Im hd (xs.map a.eval) l
 | [],l,hc=>by
   unfold St.capLive at hc
   cases hc
   trivial
 |x::xs,l,hc=>by
  unfold St.capLive at hc
  split at hc
  ·rename_i l' he
   obtain⟨m,hm,e⟩:=zgQ.1 hc
   cases e
   have hx:=h.ev x
   rw[he]at hx
   exact⟨RefR.capA hx,UE h hm⟩
  ·rename_i c he
   split at hc
   ·obtain⟨m,hm,e⟩:=zgQ.1 hc
    cases e
    have hx:=h.ev x
    rw[he]at hx
    exact⟨hx,UE h hm⟩
   ·cases hc
  ·cases hc
end
def CapR (w:World)(S:Nat->Prop)(v:Value)(t:Ty)(x:t.den):Prop:=∃b o cs,S b/\v= .pointer (some ⟨b,o,none⟩)/\At w b o cs/\VR w S t x cs
def CapsR (w:World)(S:Nat->Prop):List Value->(ts:List Ty)->(We ts).den->Prop
 | [],[],_=>True
 | [v],[t],x=>CapR w S v t x
 |v::u::vs,t::q::r,x=>CapR w S v t x.1/\CapsR w S (u::vs) (q::r) x.2
 |_,_,_=>False
def ArgR (w:World)(S:Nat->Prop)(v:Value):(p:PT)->p.ty.den->Prop
 | .v t agg,x=>∃cs,v=xw agg cs/\(agg=false->cs.length=1)/\VR w S t x cs
 | .r t,x=>∃b o cs,S b/\v= .pointer (some ⟨b,o,none⟩)/\At w b o cs/\VR w S t x cs
 | .fn f ts,x=>∃ps,v= .func (.func f) #[] ps.toArray/\CapsR w S ps ts x
 | .z t,x=>v= .slice none 0 0/\x=([]:List t.den)
 | .o _ _,_=>False
 | .p _ _,_=>False
def ArgsR (w:World)(S:Nat->Prop):List Value->(ps:List PT)->Aden ps->Prop
 | [],[],_=>True
 | [v],[p],x=>ArgR w S v p x
 |v::u::vs,p::q::r,x=>ArgR w S v p x.1/\ArgsR w S (u::vs) (q::r) x.2
 |_,_,_=>False
def BoxR (w:World)(S:Nat->Prop)(v:Value)(L:List Nat)(t:Ty)(x:t.den):Prop:=∃b cs E,v= .pointer (some ⟨b,0,none⟩)/\w.heap[b]? =some (.cells cs E (0,0))/\L=[b]/\VR w S t x cs.toList
theorem BoxR.mono {w:World}{S S' :Nat->Prop}(hs:∀b,S b->S' b){v:Value}{L:List Nat}{t:Ty}{x:t.den}(h:BoxR w S v L t x):BoxR w S' v L t x:=by
 obtain⟨b,cs,E,h1,h2,h3,h4⟩:=h
 exact⟨b,cs,E,h1,h2,h3,VR.mono (Same.refl _ _) hs h4⟩
theorem BoxR.obj {w:World}{Im:Nat->Prop}{hd:Nat->Value}{v:Value}{L:List Nat}{t:Ty}{x:t.den}(h:BoxR w Im v L t x):ObR w Im hd v L (.box (yX t x)):=by
 obtain⟨b,cs,E,h1,h2,h3,h4⟩:=h
 exact⟨b,cs,E,h1,h2,h3,xH h4⟩
theorem BoxR.of {w:World}{Im:Nat->Prop}{hd:Nat->Value}{v:Value}{L:List Nat}{t:Ty}{l:List CV}{x:t.den}(h:ObR w Im hd v L (.box l))(hx:yE t l=some x):BoxR w Im v L t x:=by
 obtain⟨b,cs,E,h1,h2,h3,h4⟩:=h
 exact⟨b,cs,E,h1,h2,h3,vA hx h4⟩
def RCR (w:World)(S:Nat->Prop)(v:Value)(L:List Nat):(c:RC)->c.t.den->Prop
 |⟨.slice t,some (d,n)⟩,xs=>ORow w t.sz (rowP w S t d) v xs L/\(n=true->xs=[]->v= .slice none 0 0)
 |⟨.pair a b,some _⟩,x=>BoxR w S v L (.pair a b) x
 |⟨t,_⟩,x=>VR w S t x [v]/\L=[]
def RCs (w:World)(S:Nat->Prop):List Value->List Nat->(rs:List RC)->Rden rs->Prop
 | [],L,[],_=>L=[]
 | [v],L,[c],x=>RCR w S v L c x
 |v::u::vs,L,c::d::r,x=>∃L1 L2,L=L1++L2/\RCR w S v L1 c x.1/\RCs w S (u::vs) L2 (d::r) x.2
 |_,_,_,_=>False
def vU:List (Bool×List RC)->List Value->List Value
 | [],_=> []
 |(g,rs)::r,vs=>xw g (vs.take rs.length)::vU r (vs.drop rs.length)
def oneVal:List Value->Value
 | [v]=>v|l=> .tuple l.toArray
def PCR (w:World)(S:Nat->Prop)(v:Value)(L:List Nat):(c:PC)->c.ty.den->Prop
 | .v t,x=>VR w S t x [v]/\L=[]
 | .o t d,xs=>ORow w t.sz (rowP w S t d) v xs L
def PCs (w:World)(S:Nat->Prop):List Value->List Nat->(cs:List PC)->(We (cs.map PC.ty)).den->Prop
 | [],L,[],_=>L=[]
 | [v],L,[c],x=>PCR w S v L c x
 |v::u::vs,L,c::d::r,x=>∃L1 L2,L=L1++L2/\PCR w S v L1 c x.1/\PCs w S (u::vs) L2 (d::r) x.2
 |_,_,_,_=>False
def xI:List PC->List Value->List Value
 | .o _ _::r,v::l=>v::xI r l| .v _::r,_::l=>xI r l|_,_=> []
def ArgO (w:World)(S:Nat->Prop)(v:Value)(L:List Nat)(H:List Value):(p:PT)->p.ty.den->Prop
 | .v t agg,x=>ArgR w S v (.v t agg) x/\L=[]/\H=[]
 | .r t,x=>ArgR w S v (.r t) x/\L=[]/\H=[]
 | .fn f ts,x=>ArgR w S v (.fn f ts) x/\L=[]/\H=[]
 | .z t,x=>ArgR w S v (.z t) x/\L=[]/\H=[]
 | .o cs agg,x=>∃vs,v=xw agg vs/\(agg=false->vs.length=1)/\PCs w S vs L cs x/\H=xI cs vs
 | .p a b,x=>BoxR w S v L (.pair a b) x/\H=[v]
def ArgsO (w:World)(S:Nat->Prop):List Value->List Nat->List Value->(ps:List PT)->Aden ps->Prop
 | [],L,H,[],_=>L=[]/\H=[]
 | [v],L,H,[p],x=>ArgO w S v L H p x
 |v::u::vs,L,H,p::q::r,x=>∃L1 L2 H1 H2,L=L1++L2/\H=H1++H2/\ArgO w S v L1 H1 p x.1/\ArgsO w S (u::vs) L2 H2 (q::r) x.2
 |_,_,_,_,_=>False
def ResR {gw:Gw}(B:Base gw)(w' :World)(S:Nat->Prop)(rs:List (Bool×List RC))(ios:List RC)(H:List Value)(y:Oden (zm rs) ios)(v:Value):Prop:=
 ∃(S' :Nat->Prop) (vs:List Value) (L M:List Nat),v=oneVal (vU rs vs)/\(∀b,S b->S' b)/\(∀b,S' b->S b\/(B.mine b/\b<w'.heap.size))/\
  (L++M).Nodup/\(∀b∈L++M,B.mine b/\b<w'.heap.size/\¬S' b)/\RCs w' S' vs L (zm rs) (Oden.res _ _ y)/\RCs w' S' H M ios (Oden.io _ _ y)
def Does (P:Program)(f:FuncId)(vs:Array Value)(w:World)(R:Value->World->Prop):Prop:=
 match(callFunc f vs).run P w with
 | .ok (.value v) w' =>R v w'
 | .ok (.enter g args) w' =>Calls P g args w' fun e w'' =>match e with| .returned v=>R v w'' |_=>False
 | .ok (.row row args) w' =>Go.Rows P row args w' R
 |_=>False
def ArgsG (d:Bool)(w:World)(S:Nat->Prop)(v:Value)(us:List Value)(L:List Nat):(ps:List PT)->Aden ps->Prop
 | .v (.slice t) false::q::r,x=>ORow w t.sz (rowP w S t d) v x.1 L/\ArgsR w S us (q::r) x.2
 |_,_=>False
def GivesG (P:Program)(gw:Gw)(f:FuncId)(fi:Fi)(x:Aden fi.ps)(y:Oden (zm fi.rs) (ioOf fi.ps)):Prop:=
 ∀(B:Base gw) (S:Nat->Prop) (v:Value) (us:List Value) (L:List Nat),(∀b,S b->b<B.w.heap.size)->L.Nodup->(∀b∈L,B.mine b/\b<B.w.heap.size/\¬S b)->B.hs=[]->ArgsG (!fi.run1) B.w S v us L fi.ps x->
  Does P f (v::us).toArray B.w fun u w' =>Kept B w' /\ResR B w' S fi.rs (ioOf fi.ps) [] y u
def GivesO (P:Program)(gw:Gw)(f:FuncId)(fi:Fi)(x:Aden fi.ps)(y:Oden (zm fi.rs) (ioOf fi.ps)):Prop:=
 ∀(B:Base gw) (S:Nat->Prop) (vs:List Value) (L:List Nat) (H:List Value),(∀b,S b->b<B.w.heap.size)->L.Nodup->(∀b∈L,B.mine b/\b<B.w.heap.size/\¬S b)->B.hs=H->ArgsO B.w S vs L H fi.ps x->
  Does P f vs.toArray B.w fun v w' =>Kept B w' /\ResR B w' S fi.rs (ioOf fi.ps) H y v
def Gives (P:Program)(gw:Gw)(f:FuncId)(fi:Fi)(x:Aden fi.ps)(y:Oden (zm fi.rs) (ioOf fi.ps)):Prop:=
 bif fi.gift then GivesG P gw f fi x y else GivesO P gw f fi x y
theorem Gives.o {P:Program}{gw:Gw}{f:FuncId}{fi:Fi}{x:Aden fi.ps}{y:Oden (zm fi.rs) (ioOf fi.ps)}(h:Gives P gw f fi x y)(hg:fi.gift=false):GivesO P gw f fi x y:=by
 unfold Gives at h;rw[hg]at h;exact h
theorem GivesO.all {P:Program}{gw:Gw}{f:FuncId}{fi:Fi}{x:Aden fi.ps}{y:Oden (zm fi.rs) (ioOf fi.ps)}(h:GivesO P gw f fi x y)(hg:fi.gift=false):Gives P gw f fi x y:=by
 unfold Gives;rw[hg];exact h
theorem Fi.gift_none {fi:Fi}(h:fi.ext=none):fi.gift=fi.run1:=by
 unfold Fi.gift;rw[h];show(Nat.beq fi.nt 77777&&false||fi.run1)=fi.run1;rw[Bool.and_false,Bool.false_or]
theorem TJ {a b:Nat}(h:Nat.blt a b=true):a<b:=by rw[Nat.blt_eq]at h;exact h
section
variable {P:Program} {ρ:Type} {gw:Gw} {w0:Base gw} {w:World} {S0:Nat->Prop} {σ:St} {a:Act} {Im:Nat->Prop} {hd:Nat->Value} {bl:Nat->List Nat} {Q:Exit->Act->World->Prop}
theorem Does.wp {o:Oper}{f:FuncId}{vs:Array Value}{R:Value->World->Prop}{K:Act->World->Prop}(h:Does P f vs w R)(hr:(execOp a.eval o).run P w=(callFunc f vs).run P w)(hk:∀v w',R v w' ->K (a.put o.dst v) w'):o.wp P a w K Q:=by
 unfold Oper.wp
 rw[hr]
 unfold Does at h
 split at h
 ·rename_i v w' he;rw[he];exact hk v w' h
 ·rename_i g args w' he
  rw[he,Oper.upon_enter]
  refine h.mono fun e w'' hh=> ?_
  cases e with
  |returned v=>exact hk v w'' hh
  |panicked c=>exact hh.elim
  |outgrown=>exact hh.elim
 ·rename_i row args w' he
  rw[he,Oper.upon_row]
  exact h.mono fun v w'' hh=>hk v w'' hh
 ·exact h.elim
def AVs (w:World)(Im:Nat->Prop)(hd:Nat->Value):List Value->List AV->Prop
 | [],[]=>True|v::vs,c::cs=>AVR w Im hd v c/\AVs w Im hd vs cs|_,_=>False
theorem AVs.app:∀ {vs us:List Value} {l m:List AV},AVs w Im hd vs l->AVs w Im hd us m->AVs w Im hd (vs++us) (l++m)
 | [],_,[],_,_,h=>h|_::_,_,_::_,_,h,k=>⟨h.1,AVs.app h.2 k⟩| [],_,_::_,_,h,_=>h.elim|_::_,_,[],_,h,_=>h.elim
theorem AVs.evs (h:SRi w0 S0 σ a w Im hd bl):∀(xs:List Operand),AVs w Im hd (xs.map a.eval) (xs.map σ.ev)
 | []=>trivial|x::xs=>⟨h.ev x,AVs.evs h xs⟩
theorem CapA.av {v:Value}:∀ {l:List CV},CapA w Im hd v l->AVR w Im hd v (capAV l)
 | [],h=>h
 | .own c::l,h=>h
 | .dead::l,h=>trivial
 | .nil::l,h=>h
 | .val t x::l,h=>h
 | .unk::l,h=>h
theorem AVs.caps:∀ {ps:List Value} {caps:List (List CV)},CapAs w Im hd ps caps->AVs w Im hd ps (caps.map capAV)
 | [],[],_=>trivial|_::_,_::_,h=>⟨CapA.av h.1,AVs.caps h.2⟩| [],_::_,h=>h.elim|_::_,[],h=>h.elim
theorem CapR.mono {S S' :Nat->Prop}(hs:∀b,S b->S' b){v:Value}{t:Ty}{x:t.den}(h:CapR w S v t x):CapR w S' v t x:=by
 obtain⟨b,o,cs,h1,h2,h3,h4⟩:=h
 exact⟨b,o,cs,hs b h1,h2,h3,VR.mono (Same.refl _ _) hs h4⟩
theorem CapsR.mono {S S' :Nat->Prop}(hs:∀b,S b->S' b):∀ {vs:List Value} {ts:List Ty} {x:(We ts).den},CapsR w S vs ts x->CapsR w S' vs ts x
 | [],[],_,_=>trivial
 | [v],[t],x,h=>CapR.mono hs h
 |v::u::vs,t::q::r,x,h=>⟨CapR.mono hs h.1,CapsR.mono hs (ts:=q::r) h.2⟩
 | [],[_],_,h=>by cases h
 | [],_::_::_,_,h=>by cases h
 | [_],[],_,h=>by cases h
 | [_],_::_::_,_,h=>by cases h
 |_::_::_,[],_,h=>by cases h
 |_::_::_,[_],_,h=>by cases h
theorem Eg {c:Nat}{l:List Nat}:hasB c l=true↔c∈l:=by
 induction l with
 |nil=>simp[hasB]
 |cons d l ih=>simp only[hasB,Bool.or_eq_true,ih,Nat.beq_eq,zgO];exact⟨fun h=>h.imp_left (·.symm),fun h=>h.imp_left (·.symm)⟩
theorem NJ:∀ {t:Ty} {l:List CV} {x:t.den},yE t (.dead::l)=some x->False
 | .pair a b,l,x,h=>by
   obtain⟨y,hy,_⟩:=zgF.1 (show((yE a ((.dead::l).take a.sz)).bind fun x=>(yE b ((.dead::l).drop a.sz)).bind fun y=>some (x,y))=some x from h)
   have e:(CV.dead::l).take a.sz= .dead::l.take (a.sz-1):=by
    have:=a.sz_pos
    cases hs:a.sz with
    |zero=>omega
    |succ n=>rfl
   rw[e]at hy
   exact NJ hy
 | .int k,l,x,h=>by cases l<;>cases h
 | .bool,l,x,h=>by cases l<;>cases h
 | .str,l,x,h=>by cases l<;>cases h
 | .slice t,l,x,h=>by cases l<;>cases h
 | .set,l,x,h=>by cases l<;>cases h
 | .err,l,x,h=>by cases l<;>cases h
theorem JW (h:SRi w0 S0 σ a w Im hd bl){t:Ty}{l:List CV}{v:Value}{x:t.den}(hv:CapA w Im hd v l)(hx:σ.capCells t l=some x):CapR w (fun b=>Im b\/∃k∈zf l,IsTr σ k/\b∈bl k) v t x:=by
 have ref:∀ {l:List CV},RefR w Im (fun _=>undef) v l->yE t l=some x->CapR w (fun b=>Im b\/∃k∈zf l,IsTr σ k/\b∈bl k) v t x:=fun hv hx=>by
  obtain⟨pl,b,o,vs,hb,rfl,hat,hvs⟩:=hv
  exact CapR.mono (fun b hb=> .inl hb) ⟨b,o,vs,hb,rfl,hat,vA hx hvs⟩
 match l,hv,hx with
 | [],hv,hx=>exact ref hv hx
 | .nil::_,hv,hx=>exact ref hv hx
 | .val _ _::_,hv,hx=>exact ref hv hx
 | .unk::_,hv,hx=>exact ref hv hx
 | .dead::r,hv,hx=>
   exfalso
   have hx' :yE t (.dead::r)=some x:=hx
   exact nomatch NJ hx'
 | .own c::ks,hv,hx=>
   have hx' :(match zd σ.ob c with|some (.box m)=>bif(zf m).all fun k=>hasB k (zf ks)then σ.impl t m else none|_=>none)=some x:=hx
   split at hx'
   ·rename_i m hc
    cases hk:((zf m).all fun k=>hasB k (zf ks))with
    |false=>rw[hk]at hx';cases hx'
    |true=>
     rw[hk,zgJ]at hx'
     obtain⟨b,cs,E,e1,e2,e3,e4⟩:=h.objs c _ hc
     obtain⟨b',f1,f2⟩:=hv
     rw[e1]at f1
     cases f1
     have hat:At w b 0 cs.toList:=by
      have:=ud (w:=w) e2 0 cs.toList.length
      rw[List.drop_zero,List.take_length]at this
      exact this
     refine⟨b,0,cs.toList, .inr ⟨c,by simp[zf,CV.owns],⟨_,hc,rfl⟩,by rw[e3];simp⟩,f2,hat,VR.mono (Same.refl _ _) (fun z hz=> ?_) (Vo h hx' e4)⟩
     rcases hz with hz|⟨k,hk1,hk2⟩
     ·exact .inl hz
     ·refine .inr ⟨k, ?_,hk2⟩
      have:=Eg.1 (zgS.1 hk k hk1)
      show k∈zf (.own c::ks)
      unfold zf at this⊢
      rw[List.flatMap_cons]
      exact zgz.2 (.inr this)
   ·cases hx'
theorem zds (h0:SRi w0 S0 σ a w Im hd bl):∀(ts:List Ty) (caps:List (List CV)) (ps:List Value) (x:(We ts).den),CapAs w Im hd ps caps->σ.capsTo ts caps=some x->CapsR w (fun b=>Im b\/∃k∈caps.flatMap zf,IsTr σ k/\b∈bl k) ps ts x:=by
 intro ts
 induction ts with
 |nil=>
  intro caps ps x h hx
  cases caps with
  |nil=>cases ps with
   |nil=>trivial
   |cons v ps=>exact h.elim
  |cons l caps=>cases hx
 |cons t r ih=>
  cases r with
  |nil=>
   intro caps ps x h hx
   cases caps with
   |nil=>cases hx
   |cons l caps=>
    cases caps with
    |cons m caps=>cases hx
    |nil=>
     cases ps with
     |nil=>exact h.elim
     |cons v ps=>
      cases ps with
      |cons u ps=>exact h.2.elim
      |nil=>
       refine CapR.mono (fun b hb=> ?_) (JW h0 h.1 (show σ.capCells t l=some x from hx))
       rcases hb with hb|⟨k,hk,hk2⟩
       ·exact .inl hb
       ·exact .inr ⟨k,by simp[hk],hk2⟩
  |cons q r=>
   intro caps ps x h hx
   cases caps with
   |nil=>cases hx
   |cons l caps=>
    have hx' :((σ.capCells t l).bind fun x=>(σ.capsTo (q::r) caps).bind fun y=>some (x,y))=some x:=hx
    obtain⟨y,hy,hx'⟩:=zgF.1 hx'
    obtain⟨z,hz,hx'⟩:=zgF.1 hx'
    cases hx'
    cases ps with
    |nil=>exact h.elim
    |cons v ps=>
     have ih' :=ih caps ps z h.2 hz
     cases ps with
     |nil=>
      cases r<;>exact ih'.elim
     |cons u ps=>
      refine⟨CapR.mono (fun b hb=> ?_) (JW h0 h.1 hy),CapsR.mono (fun b hb=> ?_) ih'⟩
      ·rcases hb with hb|⟨k,hk,hk2⟩
       ·exact .inl hb
       ·exact .inr ⟨k,by simp[hk],hk2⟩
      ·rcases hb with hb|⟨k,hk,hk2⟩
       ·exact .inl hb
       ·refine .inr ⟨k, ?_,hk2⟩
        rw[List.flatMap_cons]
        exact zgz.2 (.inr hk)
theorem OT.flat_nil {w:World}:∀ {t:Ty} {x:t.den} {cs:List Value} {L:List Nat},t.flat=true->OT w t x cs L->L=[]
 | .int _,_,_,_,_,h=>h.2
 | .bool,_,_,_,_,h=>h.2
 | .str,_,_,_,_,h=>h.2
 | .slice t,_,_,_,f,_=>by cases f
 | .set,_,_,_,f,_=>by cases f
 | .err,_,_,_,_,h=>h.2
 | .pair a b,x,cs,L,f,h=>by
   obtain⟨c1,c2,L1,L2,e,rfl,h1,h2⟩:=h
   have f' :a.flat=true/\b.flat=true:=by simpa[Ty.flat]using f
   rw[OT.flat_nil f'.1 h1,OT.flat_nil f'.2 h2];rfl
def IsOb (σ:St)(k:Nat):Prop:=IsRow σ k\/∃l,zd σ.ob k=some (.box l)
theorem IsOb.some {σ:St}{k:Nat}(h:IsOb σ k):∃o,zd σ.ob k=some o:=by
 rcases h with⟨t,xs,d,n,h⟩|⟨l,h⟩
 ·exact⟨_,h⟩
 ·exact⟨_,h⟩
theorem Qn {w w' :World}{S S' :Nat->Prop}{t:Ty}{d e:Bool}(hf:t.flat=true){x:t.den}{cs:List Value}{L:List Nat}(h:rowP w S t d x cs L):rowP w' S' t e x cs L:=by
 have key:VR w S t x cs/\L=[]:=by
  cases d with
  |true=>
   have h' :OT w t x cs L:=h
   have hL:=OT.flat_nil hf h'
   exact⟨h'.read (fun b hb=>by rw[hL]at hb;cases hb),hL⟩
  |false=>exact h
 cases e with
 |true=>rw[key.2];exact VR.own hf key.1
 |false=>exact⟨VR.flat hf key.1,key.2⟩
theorem Lg (h:SRi w0 S0 σ a w Im hd bl){v:Value}{cv:CV}(hv:CVR w Im hd v cv){c:PC}{x:c.ty.den}(hx:σ.toCell c cv=some x):
 PCR w Im v ((zt (yY [c] [cv])).flatMap bl) c x/\(∀k∈zt (yY [c] [cv]),IsRow σ k):=by
 cases c with
 |v t=>
  have hk:yY [.v t] [cv]=[]:=by cases cv<;>rfl
  rw[hk]
  refine⟨⟨?_,rfl⟩,fun k hk=>by cases hk⟩
  cases cv with
  |own k=>cases hx
  |dead=>exact(by cases(show(none:Option t.den)=some x from hx))
  |unk=>exact(by cases(show(none:Option t.den)=some x from hx))
  |nil=>have:=w6 h (show σ.cvAs t .nil=some x from hx) hv;exact VR.mono (Same.refl _ _) (fun b hb=>hb.elim (fun h=>h) (fun⟨k,hk,_⟩=>by cases hk)) this
  |val u y=>have:=w6 h (show σ.cvAs t (.val u y)=some x from hx) hv;exact VR.mono (Same.refl _ _) (fun b hb=>hb.elim (fun h=>h) (fun⟨k,hk,_⟩=>by cases hk)) this
 |o t d=>
  cases cv with
  |dead=>cases hx
  |unk=>cases hx
  |val u y=>cases hx
  |nil=>cases hx;exact⟨.inl ⟨hv,rfl,rfl⟩,fun k hk=>by cases hk⟩
  |own k=>
   unfold St.toCell at hx
   dsimp only at hx
   split at hx
   ·rename_i u xs e n hc
    cases hk:(t.flat||(bif d then e else !e))with
    |false=>rw[hk]at hx;cases hx
    |true=>
     rw[hk]at hx
     obtain⟨ee,rfl⟩:=yP (show(Ty.slice u).as (.slice t) xs=some x from hx)
     cases ee
     refine⟨?_,fun k' hk' => ?_⟩
     ·have ho:=(h.objs k _ hc).1
      rw[show v=hd k from hv]
      show ORow w t.sz (rowP w Im t d) (hd k) xs ((zt [some k]).flatMap bl)
      have hb:(zt [some k]).flatMap bl=bl k:=by simp[zt]
      rw[hb]
      rcases ho with h1|⟨b,f0,cap,cs,F,Li,e1,e2,e3,e4,e5,e6⟩
      ·exact .inl h1
      ·refine .inr ⟨b,f0,cap,cs,F,Li,e1,e2,e3,e4,e5, ?_⟩
       cases hf:t.flat with
       |true=>exact e6.mapP fun y c l _ hp=>Qn hf hp
       |false=>
        rw[hf,Bool.false_or]at hk
        cases d<;>cases e<;>first|exact e6|cases hk
     ·have:k' =k:=by simpa[yY,zt]using hk'
      subst this
      exact⟨_,_,_,_,hc⟩
   ·cases hx
theorem gU:∀(a b:List (Option Nat)),zt (a++b)=zt a++zt b
 | [],b=>rfl
 |some k::a,b=>by simp[zt,gU a b]
 |none::a,b=>by simp[zt,gU a b]
theorem Ex (c:PC)(cv:CV)(cs:List PC)(l:List CV):yY (c::cs) (cv::l)=yY [c] [cv]++yY cs l:=by
 cases c with
 |v t=>cases cv<;>rfl
 |o t d=>cases cv<;>rfl
def HeadsR (hd:Nat->Value):List (Option Nat)->List Value->Prop
 | [],[]=>True|some k::ks,v::vs=>v=hd k/\HeadsR hd ks vs|none::ks,v::vs=>v= .slice none 0 0/\HeadsR hd ks vs|_,_=>False
theorem HeadsR.app {hd:Nat->Value}:∀ {ks js:List (Option Nat)} {vs us:List Value},HeadsR hd ks vs->HeadsR hd js us->HeadsR hd (ks++js) (vs++us)
 | [],_,[],_,_,k=>k
 |some _::_,_,_::_,_,h,k=>⟨h.1,HeadsR.app h.2 k⟩
 |none::_,_,_::_,_,h,k=>⟨h.1,HeadsR.app h.2 k⟩
 | [],_,_::_,_,h,_=>h.elim
 |some _::_,_,[],_,h,_=>h.elim
 |none::_,_,[],_,h,_=>h.elim
theorem Lh (h:SRi w0 S0 σ a w Im hd bl){v:Value}{cv:CV}(hv:CVR w Im hd v cv){c:PC}{x:c.ty.den}(hx:σ.toCell c cv=some x):HeadsR hd (yY [c] [cv]) (xI [c] [v]):=by
 cases c with
 |v t=>cases cv<;>trivial
 |o t d=>
  cases cv with
  |dead=>cases hx
  |unk=>cases hx
  |val u y=>cases hx
  |nil=>exact⟨hv,trivial⟩
  |own k=>exact⟨hv,trivial⟩
theorem TG (c:PC)(v:Value)(cs:List PC)(l:List Value):xI (c::cs) (v::l)=xI [c] [v]++xI cs l:=by cases c<;>rfl
theorem Bd {σ:St}:∀ {d:PC} {r:List PC} {x:(We ((d::r).map PC.ty)).den},σ.toCells (d::r) []=some x->False
 |_,[],_,h=>by cases h
 |_,_::_,_,h=>by cases h
theorem QP (h:SRi w0 S0 σ a w Im hd bl):∀ {cs:List PC} {vs:List Value} {l:List CV} {x:(We (cs.map PC.ty)).den},CVs w Im hd vs l->σ.toCells cs l=some x->
 PCs w Im vs ((zt (yY cs l)).flatMap bl) cs x/\(∀k∈zt (yY cs l),IsRow σ k)/\HeadsR hd (yY cs l) (xI cs vs)
 | [],vs,[],x,hv,hx=>by match vs,hv with| [],_=>exact⟨rfl,(fun k hk=>by cases hk),trivial⟩
 | [c],vs,[cv],x,hv,hx=>by
   match vs,hv with
   | [v],hv=>
     have:=Lg h hv.1 (c:=c) (x:=x) hx
     exact⟨this.1,this.2,Lh h hv.1 (c:=c) (x:=x) hx⟩
 |c::d::r,vs,cv::l,x,hv,hx=>by
  obtain⟨x1,h1,hx⟩:=zgF.1 (show((σ.toCell c cv).bind fun x=>(σ.toCells (d::r) l).bind fun y=>some (x,y))=some x from hx)
  obtain⟨x2,h2,hx⟩:=zgF.1 hx
  cases hx
  match l,vs,hv with
  |cv2::l,v::u::us,hv=>
   have k1:=Lg h hv.1 (c:=c) (x:=x1) h1
   have k2:=QP h (cs:=d::r) (x:=x2) hv.2 h2
   rw[Ex,gU,List.flatMap_append,TG]
   refine⟨⟨_,_,rfl,k1.1,k2.1⟩,fun k hk=> ?_,(Lh h hv.1 (c:=c) (x:=x1) h1).app k2.2.2⟩
   rcases zgz.1 hk with hk|hk
   ·exact k1.2 k hk
   ·exact k2.2.1 k hk
  | [],_,_=>exact nomatch Bd h2
 | [],_,_::_,_,_,hx=>by cases hx
 | [_],_,[],_,_,hx=>by cases hx
 | [_],_,_::_::_,_,_,hx=>by cases hx
 |_::_::_,_,[],_,_,hx=>by cases hx
theorem MQ (h:SRi w0 S0 σ a w Im hd bl){v:Value}{av:AV}(hv:AVR w Im hd v av){p:PT}(ho:∀cs agg,p≠ .o cs agg)(hp:∀a b,p≠ .p a b){x:p.ty.den}(hx:σ.toArg p av=some x):ArgR w (fun b=>Im b\/∃k∈av.owns,IsTr σ k/\b∈bl k) v p x:=by
 cases p with
 |v t agg=>
  cases av with
  |cv c=>
   cases agg with
   |true=>cases hx
   |false=>exact⟨[v],rfl,fun _=>rfl,w6 h (show σ.cvAs t c=some x from hx) hv⟩
  |ag l=>
   cases agg with
   |false=>cases hx
   |true=>
    obtain⟨vs,rfl,hvs⟩:=hv
    exact⟨vs,rfl,(fun e=>by cases e),Vo h (show σ.impl t l=some x from hx) hvs⟩
  |adr c o=>cases hx
  |el c n i o=>cases hx
  |ref l=>cases hx
  |fn f l=>cases hx
  |tup l=>cases hx
 |r t=>
  cases av with
  |ref l=>
   obtain⟨pl,b,o,vs,hb,rfl,hat,hvs⟩:=hv
   refine⟨b,o,vs, .inl hb,rfl,hat, ?_⟩
   exact VR.mono (Same.refl _ _) (fun b hb=> .inl hb) (vA (show yE t l=some x from hx) hvs)
  |cv c=>cases hx
  |ag l=>cases hx
  |adr c o=>cases hx
  |el c n i o=>cases hx
  |fn f l=>cases hx
  |tup l=>cases hx
 |fn f ts=>
  cases av with
  |fn g caps=>
   have hx' :(bif Nat.beq f g then σ.capsTo ts caps else none)=some x:=hx
   cases hk:Nat.beq f g with
   |false=>rw[hk]at hx';cases hx'
   |true=>
    rw[hk,zgJ]at hx'
    obtain rfl:=zgE hk
    obtain⟨ps,rfl,hps⟩:=hv
    exact⟨ps,rfl,zds h _ _ _ _ hps hx'⟩
  |cv c=>cases hx
  |ag l=>cases hx
  |adr c o=>cases hx
  |el c n i o=>cases hx
  |ref l=>cases hx
  |tup l=>cases hx
 |z t=>
  cases av with
  |cv c=>
   cases c with
   |nil=>exact⟨hv,(Option.some.inj (show some ([]:List t.den)=some x from hx)).symm⟩
   |dead=>cases hx
   |val _ _=>cases hx
   |own _=>cases hx
   |unk=>cases hx
  |ag l=>cases hx
  |adr c o=>cases hx
  |el c n i o=>cases hx
  |ref l=>cases hx
  |fn f l=>cases hx
  |tup l=>cases hx
 |o cs agg=>exact(ho cs agg rfl).elim
 |p a b=>exact(hp a b rfl).elim
theorem ArgR.mono {S S' :Nat->Prop}(hs:∀b,S b->S' b){v:Value}:∀ {p:PT} {x:p.ty.den},ArgR w S v p x->ArgR w S' v p x
 | .v t agg,x,h=>by obtain⟨cs,h1,h2,h3⟩:=h;exact⟨cs,h1,h2,VR.mono (Same.refl _ _) hs h3⟩
 | .r t,x,h=>by obtain⟨b,o,cs,h1,h2,h3,h4⟩:=h;exact⟨b,o,cs,hs b h1,h2,h3,VR.mono (Same.refl _ _) hs h4⟩
 | .fn f ts,x,h=>by obtain⟨ps,h1,h2⟩:=h;exact⟨ps,h1,h2.mono hs⟩
 | .z t,x,h=>h
 | .o _ _,x,h=>h.elim
 | .p _ _,x,h=>h.elim
theorem PCR.mono {S S' :Nat->Prop}(hs:∀b,S b->S' b){v:Value}{L:List Nat}:∀ {c:PC} {x:c.ty.den},PCR w S v L c x->PCR w S' v L c x
 | .v t,x,h=>⟨VR.mono (Same.refl _ _) hs h.1,h.2⟩
 | .o t d,xs,h=>by
   rcases h with h1|⟨b,f0,cap,cs,F,Li,e1,e2,e3,e4,e5,e6⟩
   ·exact .inl h1
   ·exact .inr ⟨b,f0,cap,cs,F,Li,e1,e2,e3,e4,e5,e6.mapP fun y c l hl hp=>rowP.tell (Same.refl _ _) hs (fun _ _=>rfl) hp⟩
theorem PCs.mono {S S' :Nat->Prop}(hs:∀b,S b->S' b):∀ {cs:List PC} {vs:List Value} {L:List Nat} {x:(We (cs.map PC.ty)).den},PCs w S vs L cs x->PCs w S' vs L cs x
 | [],vs,L,x,h=>by match vs,h with
         | [],h=>exact h
         | [_],h=>exact h.elim
         |_::_::_,h=>exact h.elim
 | [c],vs,L,x,h=>by match vs,h with| [v],h=>exact PCR.mono hs (c:=c) (x:=x) h
 |c::d::r,vs,L,x,h=>by
  match vs,h with
  |v::u::us,h=>
   obtain⟨L1,L2,e,h1,h2⟩:=h
   exact⟨L1,L2,e,PCR.mono hs h1,PCs.mono hs (cs:=d::r) (x:=x.2) h2⟩
theorem ArgO.mono {S S' :Nat->Prop}(hs:∀b,S b->S' b){v:Value}{L:List Nat}{H:List Value}:∀ {p:PT} {x:p.ty.den},ArgO w S v L H p x->ArgO w S' v L H p x
 | .v t agg,x,h=>⟨ArgR.mono hs (p:= .v t agg) (x:=x) h.1,h.2⟩
 | .r t,x,h=>⟨ArgR.mono hs (p:= .r t) (x:=x) h.1,h.2⟩
 | .fn f ts,x,h=>⟨ArgR.mono hs (p:= .fn f ts) (x:=x) h.1,h.2⟩
 | .z t,x,h=>h
 | .o cs agg,x,h=>by obtain⟨vs,h1,h2,h3,h4⟩:=h;exact⟨vs,h1,h2,PCs.mono hs (cs:=cs) (x:=x) h3,h4⟩
 | .p a b,x,h=>⟨BoxR.mono hs h.1,h.2⟩
theorem ArgsO.mono {S S' :Nat->Prop}(hs:∀b,S b->S' b):∀ {ps:List PT} {vs:List Value} {L:List Nat} {H:List Value} {x:Aden ps},ArgsO w S vs L H ps x->ArgsO w S' vs L H ps x
 | [],vs,L,H,x,h=>by match vs,h with
         | [],h=>exact h
         | [_],h=>exact h.elim
         |_::_::_,h=>exact h.elim
 | [p],vs,L,H,x,h=>by match vs,h with| [v],h=>exact ArgO.mono hs (p:=p) (x:=x) h
 |p::q::r,vs,L,H,x,h=>by
  match vs,h with
  |v::u::us,h=>
   obtain⟨L1,L2,H1,H2,e1,e2,h1,h2⟩:=h
   exact⟨L1,L2,H1,H2,e1,e2,ArgO.mono hs h1,ArgsO.mono hs (ps:=q::r) (x:=x.2) h2⟩
theorem ArgsR.o {S:Nat->Prop}:∀ {ps:List PT} {vs:List Value} {x:Aden ps},ArgsR w S vs ps x->ArgsO w S vs [] [] ps x
 | [],vs,x,h=>by match vs,h with
         | [],_=>exact⟨rfl,rfl⟩
         | [_],h=>exact h.elim
         |_::_::_,h=>exact h.elim
 | [p],vs,x,h=>by
   match vs,h with
   | [v],h=>
     have h' :ArgR w S v p x:=h
     show ArgO w S v [] [] p x
     cases p with
     |v t agg=>exact⟨h',rfl,rfl⟩
     |r t=>exact⟨h',rfl,rfl⟩
     |z t=>exact⟨h',rfl,rfl⟩
     |fn f ts=>exact⟨h',rfl,rfl⟩
     |o cs agg=>exact h'.elim
     |p a b=>exact h'.elim
 |p::q::r,vs,x,h=>by
  match vs,h with
  |v::u::us,h=>
   refine⟨[],[],[],[],rfl,rfl, ?_,ArgsR.o (ps:=q::r) (x:=x.2) h.2⟩
   have h' :ArgR w S v p x.1:=h.1
   cases p with
   |v t agg=>exact⟨h',rfl,rfl⟩
   |r t=>exact⟨h',rfl,rfl⟩
   |z t=>exact⟨h',rfl,rfl⟩
   |fn f ts=>exact⟨h',rfl,rfl⟩
   |o cs agg=>exact h'.elim
   |p a b=>exact h'.elim
def blks (bl:Nat->List Nat)(ks:List (Option Nat)):List Nat:=(zt ks).flatMap bl
theorem zeN (bl:Nat->List Nat)(a b:List (Option Nat)):blks bl (a++b)=blks bl a++blks bl b:=by unfold blks;rw[gU,List.flatMap_append]
theorem C5 (p:PT)(av:AV)(ps:List PT)(l:List AV):ye (p::ps) (av::l)=ye [p] [av]++ye ps l:=by
 cases p with
 |p a b=>cases av<;>simp[ye]
 |_=>simp[ye]
theorem Ku (p:PT)(av:AV)(ps:List PT)(l:List AV):wE (p::ps) (av::l)=wE [p] [av]++wE ps l:=by
 cases p<;>simp[wE]
theorem SJ (h:SRi w0 S0 σ a w Im hd bl){v:Value}{av:AV}(hv:AVR w Im hd v av){p:PT}{x:p.ty.den}(hx:σ.toArg p av=some x):
 ∃H,ArgO w (fun b=>Im b\/∃k∈wE [p] [av],IsTr σ k/\b∈bl k) v (blks bl (ye [p] [av])) H p x/\(∀k∈zt (ye [p] [av]),IsOb σ k)/\HeadsR hd (ye [p] [av]) H:=by
 have rd:∀(hp:∀cs agg,p≠ .o cs agg) (hq:∀a b,p≠ .p a b),ye [p] [av]=[]/\wE [p] [av]=av.owns:=fun hp hq=>by
  cases p with
  |v t agg=>simp[ye,wE]
  |r t=>simp[ye,wE]
  |z t=>simp[ye,wE]
  |fn f ts=>simp[ye,wE]
  |o cs agg=>exact(hp cs agg rfl).elim
  |p a b=>exact(hq a b rfl).elim
 cases p with
 |v t agg=>
  obtain⟨e1,e2⟩:=rd (fun _ _ e=>by cases e) (fun _ _ e=>by cases e)
  rw[e1,e2]
  exact⟨[],⟨MQ h hv (fun _ _ e=>by cases e) (fun _ _ e=>by cases e) hx,rfl,rfl⟩,(fun k hk=>by cases hk),trivial⟩
 |r t=>
  obtain⟨e1,e2⟩:=rd (fun _ _ e=>by cases e) (fun _ _ e=>by cases e)
  rw[e1,e2]
  exact⟨[],⟨MQ h hv (fun _ _ e=>by cases e) (fun _ _ e=>by cases e) hx,rfl,rfl⟩,(fun k hk=>by cases hk),trivial⟩
 |z t=>
  obtain⟨e1,e2⟩:=rd (fun _ _ e=>by cases e) (fun _ _ e=>by cases e)
  rw[e1,e2]
  exact⟨[],⟨MQ h hv (fun _ _ e=>by cases e) (fun _ _ e=>by cases e) hx,rfl,rfl⟩,(fun k hk=>by cases hk),trivial⟩
 |fn f ts=>
  obtain⟨e1,e2⟩:=rd (fun _ _ e=>by cases e) (fun _ _ e=>by cases e)
  rw[e1,e2]
  exact⟨[],⟨MQ h hv (fun _ _ e=>by cases e) (fun _ _ e=>by cases e) hx,rfl,rfl⟩,(fun k hk=>by cases hk),trivial⟩
 |o cs agg=>
  cases av with
  |cv c=>
   cases agg with
   |true=>cases hx
   |false=>
    have e1:ye [.o cs false] [.cv c]=yY cs [c]:=by simp[ye,avCells]
    rw[e1]
    obtain⟨k1,k2,k3⟩:=QP h (cs:=cs) (vs:=[v]) (l:=[c]) (x:=x) ⟨hv,trivial⟩ hx
    exact⟨_,⟨[v],rfl,fun _=>rfl,PCs.mono (fun b hb=> .inl hb) (cs:=cs) (x:=x) k1,rfl⟩,fun k hk=> .inl (k2 k hk),k3⟩
  |ag l=>
   cases agg with
   |false=>cases hx
   |true=>
    have e1:ye [.o cs true] [.ag l]=yY cs l:=by simp[ye,avCells]
    rw[e1]
    obtain⟨vs,rfl,hvs⟩:=hv
    obtain⟨k1,k2,k3⟩:=QP h (cs:=cs) (vs:=vs) (l:=l) (x:=x) hvs hx
    exact⟨_,⟨vs,rfl,(fun e=>by cases e),PCs.mono (fun b hb=> .inl hb) (cs:=cs) (x:=x) k1,rfl⟩,fun k hk=> .inl (k2 k hk),k3⟩
  |adr c o=>cases hx
  |el c n i o=>cases hx
  |ref l=>cases hx
  |fn f l=>cases hx
  |tup l=>cases hx
 |p s t=>
  cases av with
  |adr c o=>
   cases o with
   |succ o=>cases hx
   |zero=>
    have hx' :(match zd σ.ob c with|some (.box l)=>yE (.pair s t) l|_=>none)=some x:=hx
    cases hc:zd σ.ob c with
    |none=>rw[hc]at hx';cases hx'
    |some o=>
     rw[hc]at hx'
     cases o with
     |box l=>
       have e1:ye [.p s t] [.adr c 0]=[some c]:=rfl
       have e2:wE [.p s t] [.adr c 0]=[]:=rfl
       rw[e1,e2]
       obtain⟨b,hb1,hb2⟩:=hv
       have hv' :v=hd c:=hb2.trans hb1.symm
       have hbl:blks bl [some c]=bl c:=by simp[blks,zt]
       rw[hbl,hv']
       refine⟨[hd c],⟨BoxR.mono (fun b hb=> .inl hb) (BoxR.of (h.objs c _ hc) hx'),rfl⟩,fun k hk=> ?_,⟨rfl,trivial⟩⟩
       have:k=c:=by simpa[zt]using hk
       subst this
       exact .inr ⟨_,hc⟩
     |_=>cases hx'
  |cv c=>cases hx
  |ag l=>cases hx
  |el c n i o=>cases hx
  |ref l=>cases hx
  |fn f l=>cases hx
  |tup l=>cases hx
theorem QR (h:SRi w0 S0 σ a w Im hd bl):∀ {ps:List PT} {vs:List Value} {avs:List AV} {x:Aden ps},AVs w Im hd vs avs->σ.toArgs ps avs=some x->
 ∃H,ArgsO w (fun b=>Im b\/∃k∈wE ps avs,IsTr σ k/\b∈bl k) vs (blks bl (ye ps avs)) H ps x/\(∀k∈zt (ye ps avs),IsOb σ k)/\HeadsR hd (ye ps avs) H
 | [],vs,[],x,hv,hx=>by match vs,hv with| [],_=>exact⟨[],⟨rfl,rfl⟩,(fun k hk=>by cases hk),trivial⟩
 | [p],vs,[av],x,hv,hx=>by match vs,hv with| [v],hv=>exact SJ h hv.1 (p:=p) (x:=x) hx
 |p::q::r,vs,av::au::avs,x,hv,hx=>by
  match vs,hv with
  |v::u::us,hv=>
   unfold St.toArgs at hx
   obtain⟨y,hy,hx⟩:=zgF.1 hx
   obtain⟨z,hz,hx⟩:=zgF.1 hx
   cases hx
   obtain⟨H1,k1,k2,k3⟩:=SJ h hv.1 hy
   obtain⟨H2,j1,j2,j3⟩:=QR h (ps:=q::r) (vs:=u::us) hv.2 hz
   rw[C5,zeN,Ku,gU]
   refine⟨H1++H2,⟨_,_,H1,H2,rfl,rfl,ArgO.mono (fun b hb=>hb.imp_right fun⟨k,hk,hb⟩=>⟨k,zgz.2 (.inl hk),hb⟩) k1,ArgsO.mono (fun b hb=>hb.imp_right fun⟨k,hk,hb⟩=>⟨k,zgz.2 (.inr hk),hb⟩) (ps:=q::r) j1⟩,fun k hk=> ?_,k3.app j3⟩
   rcases zgz.1 hk with hk|hk
   ·exact k2 k hk
   ·exact j2 k hk
 | [],_,_::_,_,_,hx=>by simp[St.toArgs]at hx
 | [_],_,[],_,_,hx=>by simp[St.toArgs]at hx
 | [_],_,_::_::_,_,_,hx=>by simp[St.toArgs]at hx
 |_::_::_,_,[],_,_,hx=>by simp[St.toArgs]at hx
 |_::_::_,_,[_],_,_,hx=>by simp[St.toArgs]at hx
theorem SRi.widen {Im' :Nat->Prop}(h:SRi w0 S0 σ a w Im hd bl)(hi:∀b,Im b->Im' b)(hnew:∀b,Im' b->S0 b\/w0.mine b)(hlt:∀b,Im' b->b<w.heap.size)(hown:∀c o,zd σ.ob c=some o->∀b∈bl c,¬Im' b):SRi w0 S0 σ a w Im' hd bl:=by
 have T:Tell w w Im Im' hd hd ⟨.own, .adr, .el⟩:=Tell.keep hd (Same.refl _ _) hi
 refine⟨h.below,fun b hb=>hi b (h.sub b hb),hnew,hlt,h.nodef,h.size,fun i av hi=> ?_,fun c o hc=> ?_,fun c o hc=>⟨(h.own c o hc).1,fun b hb=>⟨((h.own c o hc).2 b hb).1,((h.own c o hc).2 b hb).2.1,hown c o hc b hb⟩⟩,h.apart,h.io⟩
 ·have:=(h.slots i av hi).tell T;rwa [AV.map_id]at this
 ·have:=(h.objs c o hc).tell T (fun _ _=>rfl);rwa [Ob.map_id]at this
theorem SRi.less {τ:St}(h:SRi w0 S0 σ a w Im hd bl)(hs:τ.sl=σ.sl)(ho:∀d o,zd τ.ob d=some o->zd σ.ob d=some o):SRi w0 S0 τ a w Im hd bl:=
 ⟨h.below,h.sub,h.new,h.lt,h.nodef,by rw[hs];exact h.size,fun i av hi=>h.slots i av (by rw[<-hs];exact hi),fun c o hc=>h.objs c o (ho c o hc),fun c o hc=>h.own c o (ho c o hc),fun c o d p hc hd=>h.apart c o d p (ho c o hc) (ho d p hd),h.io⟩
theorem SRi.add1 {τ:St}{k:Nat}{o:Ob}{L:List Nat}(h:SRi w0 S0 σ a w Im hd bl)(hs:τ.sl=σ.sl)(ho:∀d,zd τ.ob d=if d=k then some o else zd σ.ob d)
 (hR:ObR w Im hd (hd k) L o) (hL:L.Nodup) (hLb:∀b∈L,w0.mine b/\b<w.heap.size/\¬Im b) (hf:∀d p,d≠k->zd σ.ob d=some p->∀b∈bl d,b∉L):SRi w0 S0 τ a w Im hd (fun d=>if d=k then L else bl d):=by
 refine⟨h.below,h.sub,h.new,h.lt,h.nodef,by rw[hs];exact h.size,fun i av hi=>h.slots i av (by rw[<-hs];exact hi),fun c p hc=> ?_,fun c p hc=> ?_,fun c p d q hc hd hne=> ?_,h.io⟩
 ·rw[ho]at hc
  by_cases e:c=k
  ·subst e;simp at hc;subst hc;simpa using hR
  ·simp only[e,if_false]at hc⊢;exact h.objs c p hc
 ·rw[ho]at hc
  by_cases e:c=k
  ·subst e;simp only[if_true];exact⟨hL,hLb⟩
  ·simp only[e,if_false]at hc⊢;exact h.own c p hc
 ·rw[ho]at hc hd
  by_cases e:c=k
  ·have e2:d≠k:=fun e2=>hne (e.trans e2.symm)
   simp only[e,e2,if_true,if_false]at hd⊢
   exact fun b hb hb2=>hf d q e2 hd b hb2 hb
  ·by_cases e2:d=k
   ·simp only[e,e2,if_true,if_false]at hc⊢
    exact fun b hb hb2=>hf c p e hc b hb hb2
   ·simp only[e,e2,if_false]at hc hd⊢
    exact h.apart c p d q hc hd hne
def rfst:(c:RC)->(r:List RC)->Rden (c::r)->c.t.den
 |_,[],x=>x|_,_::_,x=>x.1
def rsnd:(c:RC)->(r:List RC)->Rden (c::r)->Rden r
 |_,[],_=>()|_,_::_,x=>x.2
theorem zdx (σ:St)(k:Option Nat)(ks:List (Option Nat))(c:RC)(r:List RC)(z:Rden (c::r)):σ.back (k::ks) (c::r) z=(σ.back1 k c (rfst c r z)).back ks r (rsnd c r z):=by
 cases r with
 |nil=>cases ks<;>rfl
 |cons d r=>rfl
theorem zeO (σ:St)(ios:List RC)(z:Rden ios):σ.back [] ios z=σ:=by
 cases ios with
 |nil=>rfl
 |cons c r=>cases r<;>rfl
theorem zeZ {w:World}{S:Nat->Prop}{H:List Value}{M:List Nat}{c:RC}{r:List RC}{z:Rden (c::r)}(h:RCs w S H M (c::r) z):∃v H' M1 M2,H=v::H' /\M=M1++M2/\RCR w S v M1 c (rfst c r z)/\RCs w S H' M2 r (rsnd c r z):=by
 cases r with
 |nil=>
  match H,h with
  | [v],h=>exact⟨v,[],M,[],rfl,by simp,h,rfl⟩
  | [],h=>exact h.elim
  |_::_::_,h=>exact h.elim
 |cons d r=>
  match H,h with
  |v::u::us,h=>
   obtain⟨L1,L2,e,h1,h2⟩:=h
   exact⟨v,u::us,L1,L2,rfl,e,h1,h2⟩
  | [],h=>exact h.elim
  | [_],h=>exact h.elim
def IoRC:RC->Prop|⟨.slice _,some (_,false)⟩=>True|⟨.pair _ _,some _⟩=>True|_=>False
theorem BB:∀(cs:List PC),∀c∈pcRC cs,IoRC c
 | [],c,h=>by cases h
 | .v t::r,c,h=>BB r c h
 | .o t d::r,c,h=>by
   rcases zgO.1 (show c∈⟨.slice t,some (d,false)⟩::pcRC r from h)with rfl|h
   ·trivial
   ·exact BB r c h
theorem Zk:∀(ps:List PT),∀c∈ioOf ps,IoRC c
 | [],c,h=>by cases h
 | .v _ _::r,c,h=>Zk r c h
 | .r _::r,c,h=>Zk r c h
 | .z _::r,c,h=>Zk r c h
 | .fn _ _::r,c,h=>Zk r c h
 | .o cs _::r,c,h=>by
   rcases zgz.1 (show c∈pcRC cs++ioOf r from h)with h|h
   ·exact BB cs c h
   ·exact Zk r c h
 | .p a b::r,c,h=>by
   rcases zgO.1 (show c∈⟨.pair a b,some (false,false)⟩::ioOf r from h)with rfl|h
   ·trivial
   ·exact Zk r c h
def HeadN (v:Value):Prop:=v= .slice none 0 0\/∃b m cap,v= .slice (some b) (m+1) cap
def KOk (σ:St)(hd:Nat->Value)(k:Nat):Prop:=
 (∃u xs e n,zd σ.ob k=some (.row u xs e n)/\(n=true->HeadN (hd k))/\∃o m c,hd k= .slice o m c)\/∃l b,zd σ.ob k=some (.box l)/\hd k= .pointer (some ⟨b,0,none⟩)
theorem KOk.put {σ:St}{hd:Nat->Value}{k k' :Nat}{O:Ob}(h:KOk σ hd k')(hne:k≠k'):KOk { σ with ob:=yt σ.ob k O} hd k' :=by
 have e:zd (yt σ.ob k O) k' =zd σ.ob k' :=by rw[yW,zgH hne]
 rcases h with⟨u,xs,e1,n,h1,h2⟩|⟨l,b,h1,h2⟩
 ·exact .inl ⟨u,xs,e1,n,e.trans h1,h2⟩
 ·exact .inr ⟨l,b,e.trans h1,h2⟩
theorem zfN:∀(ks:List (Option Nat)) (ios:List RC) (z:Rden ios) (H:List Value) (M:List Nat) (σ τ:St) (bl:Nat->List Nat),SRi w0 S0 τ a w Im hd bl->τ.sl=σ.sl->
 (∀d,zd τ.ob d=if d∈zt ks then none else zd σ.ob d)->RCs w Im H M ios z->HeadsR hd ks H->(zt ks).Nodup->
 (∀k∈zt ks,KOk σ hd k)->(∀c∈ios,IoRC c)->M.Nodup->(∀b∈M,w0.mine b/\b<w.heap.size/\¬Im b)->
 (∀d p,zd τ.ob d=some p->∀b∈bl d,b∉M)->
 ∃bl',SRi w0 S0 (σ.back ks ios z) a w Im hd bl' /\∀d p,zd (σ.back ks ios z).ob d=some p->∀b∈bl' d,b∈M\/∃q,zd τ.ob d=some q/\b∈bl d:=by
 intro ks
 induction ks with
 |nil=>
  intro ios z H M σ τ bl h hs ho hr hh hn hrow hio hM hMb hf
  rw[zeO]
  refine⟨bl,h.less hs.symm (fun d o hd=>by rw[ho d];simpa[zt]using hd),fun d p hp b hb=> .inr ⟨p,by rw[ho d];simpa[zt]using hp,hb⟩⟩
 |cons k ks ih=>
  intro ios z H M σ τ bl h hs ho hr hh hn hrow hio hM hMb hf
  cases ios with
  |nil=>
   match H,hr with
   | [],_=>cases k<;>exact hh.elim
   | [_],h=>exact h.elim
   |_::_::_,h=>exact h.elim
  |cons c r=>
   obtain⟨v,H',M1,M2,rfl,rfl,r1,r2⟩:=zeZ hr
   rw[zdx]
   rw[zgM]at hM
   have fin:∀(k' :Nat) (O:Ob),k=some k' ->σ.back1 k c (rfst c r z)= { σ with ob:=yt σ.ob k' O}->ObR w Im hd (hd k') M1 O->
    ∃bl',SRi w0 S0 ((σ.back1 k c (rfst c r z)).back ks r (rsnd c r z)) a w Im hd bl' /\∀d p,zd ((σ.back1 k c (rfst c r z)).back ks r (rsnd c r z)).ob d=some p->∀b∈bl' d,b∈M1++M2\/∃q,zd τ.ob d=some q/\b∈bl d:=by
    intro k O hk e1 hR
    subst hk
    obtain⟨hv,hh⟩:=hh
    have hn' :k∉zt ks/\(zt ks).Nodup:=zgV.1 hn
    rw[e1]
    have hτ:∀d',zd (⟨τ.sl,(k,O)::τ.ob,τ.cut⟩:St).ob d' =if d' =k then some O else zd τ.ob d' :=fun d' =>by
     show zd ((k,_)::τ.ob) d' =_
     rw[yj]
     by_cases q:k=d'
     ·simp[q]
     ·simp[q,Ne.symm q]
    have h2:=h.add1 (τ:=⟨τ.sl,(k,O)::τ.ob,τ.cut⟩) (k:=k) (L:=M1) rfl hτ hR hM.1 (fun b hb=>hMb b (by simp[hb])) (fun d' p _ hp b hb hb2=>hf d' p hp b hb (by simp[hb2]))
    obtain⟨bl',k1,k2⟩:=ih r (rsnd _ r z) H' M2 { σ with ob:=yt σ.ob k O} _ _ h2 hs (fun d' =>by
     rw[hτ]
     show _=if d' ∈zt ks then none else zd (yt σ.ob k _) d'
     rw[yW]
     by_cases q:d' =k
     ·subst q;simp[hn'.1]
     ·rw[zgH q,zgH (Ne.symm q),ho d']
      simp[zt,q]) r2 hh hn'.2 (fun k' hk' =>(hrow k' (by simp[zt,hk'])).put (fun(q:k=k')=>hn'.1 (by rw[q];exact hk'))) (fun c hc=>hio c (by simp[hc])) hM.2.1 (fun b hb=>hMb b (by simp[hb])) (fun d' p hp b hb hb2=>by
     rw[hτ]at hp
     by_cases q:d' =k
     ·simp only[q,if_true]at hb
      exact hM.2.2 b hb b hb2 rfl
     ·simp only[q,if_false]at hp hb
      exact hf d' p hp b hb (by simp[hb2]))
    refine⟨bl',k1,fun d' p hp b hb=> ?_⟩
    rcases k2 d' p hp b hb with hb|⟨q,hq,hb⟩
    ·exact .inl (by simp[hb])
    ·rw[hτ]at hq
     by_cases e:d' =k
     ·simp only[e,if_true]at hb
      exact .inl (by simp[hb])
     ·simp only[e,if_false]at hq hb
      exact .inr ⟨q,hq,hb⟩
   have hc:=hio c (by simp)
   obtain⟨ct,co⟩:=c
   cases ct with
   |int _=>exact hc.elim
   |bool=>exact hc.elim
   |str=>exact hc.elim
   |set=>exact hc.elim
   |err=>exact hc.elim
   |pair s t=>
    cases co with
    |none=>exact hc.elim
    |some dn=>
     have r1' :BoxR w Im v M1 (.pair s t) (rfst ⟨.pair s t,some dn⟩ r z):=r1
     cases k with
     |none=>
      obtain⟨hv,hh⟩:=hh
      obtain⟨b,cs,E,e1,_⟩:=r1'
      rw[hv]at e1;cases e1
     |some k=>
      have hv:=hh.1
      rw[hv]at r1'
      rcases hrow k (by simp[zt])with⟨u,xs,e,n,hg,_,o,m,c',he⟩|⟨l,b,hg,he⟩
      ·obtain⟨b,cs,E,e1,_⟩:=r1'
       rw[he]at e1;cases e1
      ·refine fin k (.box (yX (.pair s t) (rfst ⟨.pair s t,some dn⟩ r z))) rfl ?_ r1'.obj
       show(match zd σ.ob k with|some (.box _)=> { σ with ob:=yt σ.ob k (.box (yX (.pair s t) (rfst ⟨.pair s t,some dn⟩ r z)))}|_=>σ)=_
       rw[hg]
   |slice t=>
    cases co with
    |none=>exact hc.elim
    |some dn=>
     obtain⟨d,n0⟩:=dn
     generalize hxd:rfst ⟨.slice t,some (d,n0)⟩ r z=x at r1 fin⊢
     cases k with
     |none=>
      obtain⟨hv,hh⟩:=hh
      have hM1:M1=[]:=by
       rcases r1.1 with⟨_,_,e⟩|⟨b,f0,cap,cs,F,Li,e1,_⟩
       ·exact e
       ·rw[hv]at e1;cases e1
      subst hM1
      have e1:σ.back1 none ⟨.slice t,some (d,n0)⟩ x=σ:=rfl
      rw[e1]
      exact ih r _ H' M2 σ τ bl h hs ho r2 hh hn hrow (fun c hc=>hio c (by simp[hc])) hM.2.1 (fun b hb=>hMb b (by simpa using hb)) (fun d p hp b hb=>by simpa using hf d p hp b hb)
     |some k=>
      have hv:=hh.1
      rcases hrow k (by simp[zt])with⟨u,xs,e,n,hg,hcn,_⟩|⟨l,b,hg,he⟩
      ·have hR:ObR w Im hd (hd k) M1 (.row t x (bif t.flat then e else d) n):=by
        rw[hv]at r1
        have r1' :ORow w t.sz (rowP w Im t d) (hd k) x M1:=r1.1
        refine⟨?_,fun hnt hx=> ?_⟩
        ·cases hfl:t.flat with
         |false=>exact r1'
         |true=>
          rcases r1' with h1|⟨b,f0,cap,cs,F,Li,e1,e2,e3,e4,e5,e6⟩
          ·exact .inl h1
          ·exact .inr ⟨b,f0,cap,cs,F,Li,e1,e2,e3,e4,e5,e6.mapP fun y c l _ hp=>Qn hfl hp⟩
        ·rcases hcn hnt with e|⟨b,m,cap,e⟩
         ·exact e
         ·rcases r1' with⟨e2,_⟩|⟨b',f0',cap',cs,F,Li,e2,_⟩
          ·exact e2
          ·rw[e]at e2;rw[hx]at e2
           simp at e2
       refine fin k _ rfl ?_ hR
       show(match zd σ.ob k with|some (.row _ _ e n)=> { σ with ob:=yt σ.ob k (.row t x (bif t.flat then e else d) n)}|_=>σ)=_
       rw[hg]
      ·exfalso
       rw[hv,he]at r1
       rcases r1.1 with⟨e2,_⟩|⟨b',f0',cap',cs,F,Li,e2,_⟩
       ·cases e2
       ·cases e2
theorem RE (h:SRi w0 S0 σ a w Im hd bl){dst j:Nat}{c:RC}{x:c.t.den}{v:Value}{L M:List Nat}(hv:RCR w Im v L c x)(hn:(L++M).Nodup)(hL:∀b∈L++M,w0.mine b/\b<w.heap.size/\¬Im b)
 (hf:∀k p,zd σ.ob k=some p->∀b∈bl k,b∉L++M) (hk5:∀k∈(match c with|⟨.slice _,some _⟩=> [dst+1000*j]|⟨.pair _ _,some _⟩=> [dst+1000*j]|_=> []),k<500000):
 ∃hd' bl',SRi w0 S0 (putCells.one σ dst j c x).1 a w Im hd' bl' /\CVs w Im hd' [v] (putCells.one σ dst j c x).2/\(∀d,d≠dst+1000*j->hd' d=hd d)/\
  (∀k p,zd (putCells.one σ dst j c x).1.ob k=some p->∀b∈bl' k,b∉M)/\(∀e∈(putCells.one σ dst j c x).2,∀k∈e.owns,k=dst+1000*j):=by
 have plain:∀(t:Ty) (y:t.den),VR w Im t y [v]->∃hd' bl',SRi w0 S0 (σ,[CV.val t y]).1 a w Im hd' bl' /\CVs w Im hd' [v] (σ,[CV.val t y]).2/\(∀d,d≠dst+1000*j->hd' d=hd d)/\
  (∀k p,zd (σ,[CV.val t y]).1.ob k=some p->∀b∈bl' k,b∉M)/\(∀e∈(σ,[CV.val t y]).2,∀k∈e.owns,k=dst+1000*j):=by
  intro t y hy
  refine⟨hd,bl,h,⟨hy,trivial⟩,fun _ _=>rfl,fun k p hp b hb hM=>hf k p hp b hb (by simp[hM]),fun e he k hk=> ?_⟩
  have he' :e= .val t y:=by simpa using he
  subst he'
  cases hk
 obtain⟨t,o⟩:=c
 cases t with
 |int k=>exact plain (.int k) x hv.1
 |bool=>exact plain .bool x hv.1
 |str=>exact plain .str x hv.1
 |set=>exact plain .set x hv.1
 |err=>exact plain .err x hv.1
 |pair s t=>
  cases o with
  |none=>exact plain (.pair s t) x hv.1
  |some dn=>
   have hB:BoxR w Im v L (.pair s t) x:=hv
   rw[zgM]at hn
   have hnew:=h.new_ (dst+1000*j) (hk5 _ (by simp)) (o:= .box (yX (.pair s t) x)) (v:=v) (L:=L) (fun k p _ hp b hb hb2=>hf k p hp b hb (by simp[hb2])) hn.1 (fun b hb=>hL b (by simp[hb])) hB.obj
   refine⟨_,_,hnew,⟨by show v=_;simp,trivial⟩,fun e he=>by simp[he],fun k p hp b hb=> ?_,fun e he k hk=> ?_⟩
   ·by_cases e:k=dst+1000*j
    ·simp only[e,if_true]at hb
     exact fun hM=>hn.2.2 b hb b hM rfl
    ·simp only[e,if_false]at hb
     have hp' :zd ((dst+1000*j,Ob.box (yX (.pair s t) x))::(σ.kill (dst+1000*j)).ob) k=some p:=hp
     rw[yj,zgH (Ne.symm e)]at hp'
     obtain⟨_,o,ho,_⟩:=uj hp'
     exact fun hM=>hf k o ho b hb (by simp[hM])
   ·have he' :e= .own (dst+1000*j):=by simpa[putCells.one]using he
    subst he'
    simpa[CV.owns]using hk
 |slice t=>
  cases o with
  |none=>exact plain (.slice t) x hv.1
  |some dn=>
   obtain⟨d,n⟩:=dn
   obtain⟨h1,h2⟩:=hv
   rw[zgM]at hn
   have hnew:=h.new_ (dst+1000*j) (hk5 _ (by simp)) (o:= .row t x d n) (v:=v) (L:=L) (fun k p _ hp b hb hb2=>hf k p hp b hb (by simp[hb2])) hn.1 (fun b hb=>hL b (by simp[hb])) ⟨h1,h2⟩
   refine⟨_,_,hnew,⟨by show v=_;simp,trivial⟩,fun e he=>by simp[he],fun k p hp b hb=> ?_,fun e he k hk=> ?_⟩
   ·by_cases e:k=dst+1000*j
    ·simp only[e,if_true]at hb
     exact fun hM=>hn.2.2 b hb b hM rfl
    ·simp only[e,if_false]at hb
     have hp' :zd ((dst+1000*j,Ob.row t x d n)::(σ.kill (dst+1000*j)).ob) k=some p:=hp
     rw[yj,zgH (Ne.symm e)]at hp'
     obtain⟨_,o,ho,_⟩:=uj hp'
     exact fun hM=>hf k o ho b hb (by simp[hM])
   ·have he' :e= .own (dst+1000*j):=by simpa[putCells.one]using he
    subst he'
    simpa[CV.owns]using hk
theorem CVs.rehead {hd2:Nat->Value}:∀ {vs:List Value} {l:List CV},(∀e∈l,∀k∈e.owns,hd2 k=hd k)->CVs w Im hd vs l->CVs w Im hd2 vs l
 | [],[],_,_=>trivial
 |v::vs,c::l,hk,h=>by
  refine⟨?_,CVs.rehead (fun e he=>hk e (by simp[he])) h.2⟩
  cases c with
  |dead=>trivial
  |nil=>exact h.1
  |val t x=>exact h.1
  |unk=>exact h.1
  |own k=>exact(show v=hd k from h.1).trans (hk (.own k) (by simp) k (by simp[CV.owns])).symm
 | [],_::_,_,h=>h.elim
 |_::_,[],_,h=>h.elim
theorem Kv {dst:Nat}:∀ {rs:List RC} {j:Nat} {σ:St} {hd:Nat->Value} {bl:Nat->List Nat} {y:Rden rs} {vs:List Value} {L:List Nat},SRi w0 S0 σ a w Im hd bl->RCs w Im vs L rs y->L.Nodup->
 (∀b∈L,w0.mine b/\b<w.heap.size/\¬Im b)->(∀k p,zd σ.ob k=some p->∀b∈bl k,b∉L)->(∀k∈jA dst j rs,k<500000)->
 ∃hd' bl',SRi w0 S0 (putCells σ dst j rs y).1 a w Im hd' bl' /\CVs w Im hd' vs (putCells σ dst j rs y).2/\(∀d,(∀i,j<=i->d≠dst+1000*i)->hd' d=hd d)
 | [],j,σ,hd,bl,y,vs,L,h,hr,hn,hL,hf,hk=>by
   match vs,hr with
   | [],hr=>exact⟨hd,bl,h,trivial,fun _ _=>rfl⟩
   | [_],hr=>cases hr
   |_::_::_,hr=>cases hr
 | [c],j,σ,hd,bl,y,vs,L,h,hr,hn,hL,hf,hk=>by
   match vs,hr with
   | [],hr=>cases hr
   | [v],hr=>
     obtain⟨hd',bl',h1,h2,h3,_,_⟩:=RE h (dst:=dst) (j:=j) (x:=y) (M:=[]) hr (by simpa using hn) (by simpa using hL) (by simpa using hf) (fun k hm=>hk k (zgz.2 (.inl hm)))
     exact⟨hd',bl',h1,h2,fun d hd=>h3 d (hd j (zgC _))⟩
   |_::_::_,hr=>cases hr
 |c::d::r,j,σ,hd,bl,y,vs,L,h,hr,hn,hL,hf,hk=>by
  match vs,hr with
  | [],hr=>cases hr
  | [v],hr=>cases hr
  |v::u::vs,hr=>
   obtain⟨L1,L2,rfl,hv,hr⟩:=hr
   obtain⟨hd',bl',h1,h2,h3,h4,h5⟩:=RE h (dst:=dst) (j:=j) (x:=y.1) (M:=L2) hv hn hL hf (fun k hm=>hk k (zgz.2 (.inl hm)))
   rw[zgM]at hn
   obtain⟨hd2,bl2,k1,k2,k3⟩:=Kv (j:=j+1) h1 hr hn.2.1 (fun b hb=>hL b (by simp[hb])) h4 (fun k hm=>hk k (zgz.2 (.inr hm)))
   refine⟨hd2,bl2,k1, ?_,fun e he=> ?_⟩
   ·show CVs w Im hd2 ([v]++(u::vs)) (_++_)
    refine CVs.app (CVs.rehead (fun e he k hk=> ?_) h2) k2
    refine k3 k (fun i hi=> ?_)
    have:=h5 e he k hk
    omega
   ·rw[k3 e (fun i hi=>he i (by omega)),h3 e (he j (zgC _))]
theorem V0:∀ {rs:List (Bool×List RC)} {vs:List Value} {l:List CV},CVs w Im hd vs l->PRs w Im hd (vU rs vs) (cutParts rs l)
 | [],_,_,_=>trivial
 |(g,rs)::r,vs,l,h=>by
  refine⟨?_,V0 (h.drop _)⟩
  have:=xx (agg:=g) (h.take rs.length)
  exact PR.of this
theorem Gq:∀ {vs:List Value} {l:List (Bool×List CV)},PRs w Im hd vs l->AVR w Im hd (oneVal vs) (ofParts l)
 | [],[],_=>⟨[],rfl,trivial⟩
 | [v],[(g,l)],h=>PR.avr h.1
 |v::u::vs,p::q::l,h=>⟨v::u::vs,rfl,h⟩
 | [],_::_,h=>h.elim
 |_::_,[],h=>h.elim
 | [_],_::_::_,h=>h.2.elim
 |_::_::_,[_],h=>h.2.elim
theorem Gz {w w' :World}{S S' :Nat->Prop}{v:Value}{L:List Nat}{c:RC}{x:c.t.den}(hl:Vk c=false)(hL:∀b∈L,w'.heap[b]? =w.heap[b]?)(h:RCR w S v L c x):RCR w' S' v L c x:=by
 obtain⟨t,o⟩:=c
 have plain:∀(t:Ty) (y:t.den),t.flat=true->VR w S t y [v]/\L=[]->VR w' S' t y [v]/\L=[]:=fun t y hf h=>⟨VR.flat hf h.1,h.2⟩
 cases t with
 |int k=>exact plain (.int k) x rfl h
 |bool=>exact plain .bool x rfl h
 |str=>exact plain .str x rfl h
 |set=>simp[Vk,Ty.flat]at hl
 |err=>exact plain .err x rfl h
 |pair s t=>
  have hf:(Ty.pair s t).flat=true:=by simpa[Vk]using hl
  cases o with
  |none=>exact plain (.pair s t) x hf h
  |some dn=>
   obtain⟨b,cs,E,h1,h2,h3,h4⟩:=(show BoxR w S v L (.pair s t) x from h)
   exact⟨b,cs,E,h1,(hL b (by rw[h3];simp)).trans h2,h3,VR.flat hf h4⟩
 |slice t=>
  cases o with
  |none=>simp[Vk,Ty.flat]at hl
  |some dn=>
   obtain⟨d,n⟩:=dn
   refine⟨?_,h.2⟩
   have hdf:d=true\/t.flat=true:=by cases d<;>simp[Vk]at hl⊢;exact hl
   rcases h.1 with h1|⟨b,f0,cap,cs,F,Li,e1,e2,e3,e4,rfl,e6⟩
   ·exact .inl h1
   ·refine .inr ⟨b,f0,cap,cs,F,Li,e1,by rw[hL b (by simp)];exact e2,e3,e4,rfl, ?_⟩
    cases d with
    |true=>exact e6.mapP fun y c l hl hp=>OT.same hp (fun b hb=>hL b (by simp[hl b hb]))
    |false=>
     have hf:=hdf.resolve_left (by simp)
     exact e6.mapP fun y c l hl hp=>⟨VR.flat hf hp.1,hp.2⟩
theorem RCs.quiet {w w' :World}{S S' :Nat->Prop}:∀ {rs:List RC} {vs:List Value} {L:List Nat} {y:Rden rs},rs.any Vk=false->(∀b∈L,w'.heap[b]? =w.heap[b]?)->RCs w S vs L rs y->RCs w' S' vs L rs y
 | [],[],L,y,_,_,h=>h
 | [c],[v],L,y,hl,hL,h=>Gz (x:=y) (by simpa using hl) hL h
 |c::d::r,v::u::vs,L,y,hl,hL,h=>by
  obtain⟨L1,L2,rfl,h1,h2⟩:=h
  rw[List.any_cons,Bool.or_eq_false_iff]at hl
  exact⟨L1,L2,rfl,Gz hl.1 (fun b hb=>hL b (by simp[hb])) h1,RCs.quiet (rs:=d::r) (vs:=u::vs) (y:=y.2) hl.2 (fun b hb=>hL b (by simp[hb])) h2⟩
 | [],[_],_,_,_,_,h=>by cases h
 | [],_::_::_,_,_,_,_,h=>by cases h
 | [_],[],_,_,_,_,h=>by cases h
 | [_],_::_::_,_,_,_,_,h=>by cases h
 |_::_::_,[],_,_,_,_,h=>by cases h
 |_::_::_,[_],_,_,_,_,h=>by cases h
theorem SRi.block_lt (h:SRi w0 S0 σ a w Im hd bl){c:Nat}{o:Ob}(hc:zd σ.ob c=some o):∀b∈bl c,b<w.heap.size:=fun b hb=>((h.own c o hc).2 b hb).2.1
theorem yL:∀ {ks:List Nat} {l:List (Nat×Ob)} {d:Nat},zd (dels l ks) d=if d∈ks then none else zd l d
 | [],l,d=>by simp[dels]
 |c::r,l,d=>by
  unfold dels
  rw[yL,vw]
  by_cases e:d=c
  ·simp[e]
  ·simp[e]
theorem La {bl:Nat->List Nat}{ks:List (Option Nat)}{b:Nat}(h:b∈blks bl ks):∃k∈zt ks,b∈bl k:=zgP.1 h
theorem SRi.adrOf (h:SRi w0 S0 σ a w Im hd bl){v:Value}{av:AV}(hv:AVR w Im hd v av):AVR w Im hd v (σ.adrOf av):=by
 unfold St.adrOf
 split
 ·rename_i c
  split
  ·rename_i l hc
   obtain⟨b,cs,E,e1,_⟩:=h.objs c _ hc
   exact⟨b,e1,(show v=hd c from hv).trans e1⟩
  ·exact hv
 ·exact hv
theorem P9 (h:SRi w0 S0 σ a w Im hd bl){C:Base gw}(hC:C.w=w){ks:List (Option Nat)}{G:List Nat}(hGf:∀d p,zd σ.ob d=some p->∀b∈bl d,b∉G)(hGi:∀b∈G,¬Im b)(hCm:∀b,C.mine b->w0.mine b/\(w.heap.size<=b\/b∈blks bl ks++G)){S:Nat->Prop}{ios:List RC}{H:List Value}
 (hks:(zt ks).Nodup) (hrow:∀k∈zt ks,IsOb σ k) (hH:HeadsR hd ks H) (hio:∀c∈ios,IoRC c) {w' :World} (hbel:Kept C w') {rs:List (Bool×List RC)} {y:Oden (zm rs) ios} {v:Value} (hr:ResR C w' S rs ios H y v)
 (hS:(immB rs||ios.any Vk)=true->∀b,S b↔Im b) {dst:Option Nat} {next:St->Option ρ} {r:ρ} (hn:aResult (σ.back ks ios (Oden.io _ _ y)) dst rs (Oden.res _ _ y) next=some r):Goes w0 S0 next r (a.put dst v) w' :=by
 subst hC
 obtain⟨S',vs,L,M,rfl,s1,s2,s3,s4,s5,s6⟩:=hr
 have hsz:=hbel.size
 have hobj:∀b∈blks bl ks,∃k o,zd σ.ob k=some o/\k∈zt ks/\b∈bl k:=fun b hb=>by
  obtain⟨k,hk,hb⟩:=La hb
  obtain⟨o,hg⟩:=(hrow k hk).some
  exact⟨k,_,hg,hk,hb⟩
 have h0:SRi w0 S0 ⟨σ.sl,dels σ.ob (zt ks),σ.cut⟩ a C.w Im hd bl:=h.less rfl (fun d o hd=>by
  have hd' :zd (dels σ.ob (zt ks)) d=some o:=hd
  rw[yL]at hd'
  split at hd'
  ·cases hd'
  ·exact hd')
 have hτ:∀d p,zd (dels σ.ob (zt ks)) d=some p->d∉zt ks/\zd σ.ob d=some p:=fun d p hp=>by
  rw[yL]at hp
  split at hp
  ·cases hp
  ·rename_i hq;exact⟨hq,hp⟩
 have hapart:∀d p,zd (dels σ.ob (zt ks)) d=some p->∀b∈bl d,b∉blks bl ks++G:=fun d p hp b hb hb2=>by
  obtain⟨hd,ho⟩:=hτ d p hp
  rcases zgz.1 hb2 with hb2|hb2
  case inr=>exact hGf d p ho b hb hb2
  obtain⟨k,o,hg,hk,hb2⟩:=hobj b hb2
  exact h.apart d p k o ho hg (fun e=>hd (e▸hk)) b hb hb2
 have hIL:∀b∈blks bl ks++G,¬Im b:=fun b hb=>by
  rcases zgz.1 hb with hb|hb
  case inr=>exact hGi b hb
  obtain⟨k,o,hg,hk,hb⟩:=hobj b hb
  exact((h.own k o hg).2 b hb).2.2
 have h1:SRi w0 S0 ⟨σ.sl,dels σ.ob (zt ks),σ.cut⟩ a w' Im hd bl:=h0.world2 (L:=blks bl ks++G) (fun b hb hL=>hbel.block b hb (fun hc=>(hCm b hc).2.elim (fun h3=>by omega) hL)) hsz
  (KeptW.trans h.below hbel (fun b hb=>(hCm b hb).1)) hIL hapart
 have hLM:∀b∈L++M,w0.mine b/\b<w'.heap.size:=fun b hb=>⟨(hCm b (s4 b hb).1).1,(s4 b hb).2.1⟩
 obtain⟨Im',g1,g2,g2',g3⟩:∃Im',SRi w0 S0 ⟨σ.sl,dels σ.ob (zt ks),σ.cut⟩ a w' Im' hd bl/\RCs w' Im' vs L (zm rs) (Oden.res _ _ y)/\RCs w' Im' H M ios (Oden.io _ _ y)/\(∀b∈L++M,¬Im' b):=by
  cases hi:(immB rs||ios.any Vk)with
  |true=>
   refine⟨S',h1.widen (fun b hb=>s1 b ((hS hi b).2 hb)) (fun b hb=> ?_) (fun b hb=> ?_) (fun c o hc b hb hb2=> ?_),s5,s6,fun b hb=>(s4 b hb).2.2⟩
   ·rcases s2 b hb with h3|h3
    ·exact h.new b ((hS hi b).1 h3)
    ·exact .inr (hCm b h3.1).1
   ·rcases s2 b hb with h3|h3
    ·have:=h.lt b ((hS hi b).1 h3);omega
    ·exact h3.2
   ·obtain⟨hd,ho⟩:=hτ c o hc
    rcases s2 b hb2 with h3|h3
    ·exact((h.own c o ho).2 b hb).2.2 ((hS hi b).1 h3)
    ·rcases(hCm b h3.1).2 with h4|h4
     ·have:=((h.own c o ho).2 b hb).2.1;omega
     ·exact hapart c o hc b hb h4
  |false=>
   rw[Bool.or_eq_false_iff]at hi
   refine⟨Im,h1,s5.quiet hi.1 (fun _ _=>rfl),s6.quiet hi.2 (fun _ _=>rfl),fun b hb hI=> ?_⟩
   rcases(hCm b (s4 b hb).1).2 with h4|h4
   ·have:=h.lt b hI;omega
   ·exact hIL b h4 hI
 rw[zgM]at s3
 have hblt:∀d p,zd (dels σ.ob (zt ks)) d=some p->∀b∈bl d,b∉L++M:=fun d p hp b hb hb2=>by
  rcases(hCm b (s4 b hb2).1).2 with h4|h4
  ·have:=((h.own d p (hτ d p hp).2).2 b hb).2.1;omega
  ·exact hapart d p hp b hb h4
 obtain⟨bl',k1,k2⟩:=zfN ks ios (Oden.io _ _ y) H M σ ⟨σ.sl,dels σ.ob (zt ks),σ.cut⟩ bl g1 rfl (fun d=>yL) g2' hH hks (fun k hk=>by
  rcases hrow k hk with⟨t,xs,d,n,hg⟩|⟨l,hg⟩
  ·have ho:=h.objs k _ hg
   refine .inl ⟨t,xs,d,n,hg,fun hn=> ?_, ?_⟩
   ·rcases ho.1 with⟨e1,_⟩|⟨b,f0,cap,cs,F,Li,e1,_⟩
    ·exact .inl e1
    ·cases hx:xs with
     |nil=>exact .inl (ho.2 hn hx)
     |cons x xs' =>rw[hx]at e1;exact .inr ⟨_,xs'.length,cap,e1⟩
   ·rcases ho.1 with⟨e1,_⟩|⟨b,f0,cap,cs,F,Li,e1,_⟩
    ·exact⟨_,_,_,e1⟩
    ·exact⟨_,_,_,e1⟩
  ·obtain⟨b,cs,E,e1,_⟩:=h.objs k _ hg
   exact .inr ⟨l,b,hg,e1⟩) hio s3.2.1 (fun b hb=>⟨(hLM b (by simp[hb])).1,(hLM b (by simp[hb])).2,g3 b (by simp[hb])⟩)
  (fun d p hp b hb hb2=>hblt d p hp b hb (by simp[hb2]))
 unfold aResult at hn
 cases dst with
 |none=>exact⟨_,hn,Im',hd,bl',k1⟩
 |some d=>
  simp only at hn
  obtain⟨hk5,hn⟩:=zb hn
  obtain⟨hd',bl2,j1,j2,_⟩:=Kv (dst:=d) (j:=0) k1 g2 s3.1 (fun b hb=>⟨(hLM b (by simp[hb])).1,(hLM b (by simp[hb])).2,g3 b (by simp[hb])⟩) (fun k p hp b hb hbL=>by
   rcases k2 k p hp b hb with hb|⟨q,hq,hb⟩
   ·exact s3.2.2 b hbL b hb rfl
   ·exact hblt k q hq b hb (by simp[hbL])) (fun k hk=>TJ (zgS.1 hk5 k hk))
  exact⟨_,hn,Im',hd',bl2,j1.put (some d) (j1.adrOf (Gq (V0 j2)))⟩
theorem VV:∀ {l:List Nat} {σ:St} {d:Nat},IsRow σ d->d∉l->IsRow (σ.freezeAll l) d
 | [],σ,d,h,_=>h
 |c::l,σ,d,⟨t,xs,e,n,h⟩,hn=>VV (l:=l) (σ:=σ.freeze c) ⟨t,xs,e,n,GL h (fun e=>hn (by simp[e]))⟩ (fun h2=>hn (by simp[h2]))
theorem zbo {σ:St}{c d:Nat}{l:List CV}(h:zd σ.ob d=some (.box l))(hne:d≠c):∃l',zd (σ.freeze c).ob d=some (.box l'):=by
 have key:∀r,∃l',zd (σ.sub c r).ob d=some (.box l'):=by
  intro r
  refine⟨l.map (CV.map r), ?_⟩
  show zd (Mq r (fq σ.ob c)) d=_
  rw[jy,vw];simp[hne,h,Ob.map]
 unfold St.freeze
 split
 ·exact key _
 ·exact key _
 ·exact key _
theorem Zt:∀ {l:List Nat} {σ:St} {d:Nat},IsOb σ d->d∉l->IsOb (σ.freezeAll l) d
 |l,σ,d, .inl h,hn=> .inl (VV h hn)
 | [],σ,d, .inr h,_=> .inr h
 |c::l,σ,d, .inr ⟨m,h⟩,hn=>Zt (l:=l) (σ:=σ.freeze c) (.inr (zbo h (fun e=>hn (by simp[e])))) (fun h2=>hn (by simp[h2]))
theorem zaN (h:SRi w0 S0 σ a w Im hd bl):∀ {ps:List PT} {vs:List Value} {avs:List AV} {x:Aden ps},AVs w Im hd vs avs->σ.toArgs ps avs=some x->gv avs=[]->Vf ps=true->ArgsR w Im vs ps x:=by
 have one:∀ {p:PT} {v:Value} {av:AV} {x:p.ty.den},AVR w Im hd v av->σ.toArg p av=some x->av.owns=[]->Vf [p]=true->ArgR w Im v p x:=by
  intro p v av x hv hx ho hp
  cases p with
  |v t agg=>
   obtain⟨H,h1,_,_⟩:=SJ h hv (p:= .v t agg) (x:=x) hx
   refine ArgR.mono (fun b hb=>hb.elim (fun h=>h) (fun⟨k,hk,_⟩=> ?_)) h1.1
   have hr:wE [.v t agg] [av]=av.owns++[]:=rfl
   rw[hr,ho]at hk
   cases hk
  |r t=>cases hp
  |z t=>cases hp
  |fn f ts=>
   obtain⟨H,h1,_,_⟩:=SJ h hv (p:= .fn f ts) (x:=x) hx
   refine ArgR.mono (fun b hb=>hb.elim (fun h=>h) (fun⟨k,hk,_⟩=> ?_)) h1.1
   have hr:wE [.fn f ts] [av]=av.owns++[]:=rfl
   rw[hr,ho]at hk
   cases hk
  |o cs agg=>cases hp
  |p a b=>cases hp
 intro ps
 induction ps with
 |nil=>
  intro vs avs x hv hx _ _
  cases avs with
  |nil=>cases vs with|nil=>trivial|cons v vs=>exact hv.elim
  |cons av avs=>cases hx
 |cons p r ih=>
  intro vs avs x hv hx ho hp
  cases r with
  |nil=>
   match avs,hx with
   | [av],hx=>
     match vs,hv with
     | [v],hv=>exact one hv.1 hx (by simpa[gv]using ho) hp
  |cons q r=>
   match avs,hx with
   |av::au::avs,hx=>
    obtain⟨x1,h1,hx⟩:=zgF.1 (show((σ.toArg p av).bind fun x=>(σ.toArgs (q::r) (au::avs)).bind fun y=>some (x,y))=some x from hx)
    obtain⟨x2,h2,hx⟩:=zgF.1 hx
    cases hx
    have ho1:av.owns=[]/\gv (au::avs)=[]:=by simpa[gv]using ho
    have hp1:Vf [p]=true/\Vf (q::r)=true:=by
     cases p with
     |v t agg=>exact⟨rfl,hp⟩
     |r t=>cases hp
     |z t=>cases hp
     |fn f ts=>exact⟨rfl,hp⟩
     |o cs agg=>cases hp
     |p a b=>cases hp
    match vs,hv with
    |v::u::us,hv=>exact⟨one hv.1 h1 ho1.1 hp1.1,ih hv.2 h2 ho1.2 hp1.2⟩
   | [av],hx=>
     exfalso
     obtain⟨x1,h1,hx⟩:=zgF.1 (show((σ.toArg p av).bind fun x=>(σ.toArgs (q::r) []).bind fun y=>some (x,y))=some x from hx)
     obtain⟨x2,h2,hx⟩:=zgF.1 hx
     cases r<;>cases h2
theorem Pr:∀ {ps:List PT},Vf ps=true->ioOf ps=[]
 | [],_=>rfl
 | .v _ _::r,h=>Pr (ps:=r) h
 | .r _::_,h=>by cases h
 | .z _::_,h=>by cases h
 | .fn _ _::r,h=>Pr (ps:=r) h
 | .o _ _::_,h=>by cases h
 | .p _ _::_,h=>by cases h
theorem zaO (h:SRi w0 S0 σ a w Im hd bl){c:Nat}{t:Ty}{ys:List t.den}{d cn:Bool}(hc:zd σ.ob c=some (.row t ys d cn)){e:Bool}(hd1:(t.flat||(bif e then d else !d))=true):∀ {ps:List PT} {v:Value} {us:List Value} {rest:List AV} {x:Aden ps},
 AVs w Im hd (v::us) (.cv (.own c)::rest)->σ.toArgs ps (.cv (.own c)::rest)=some x->gv rest=[]->giftPs ps=true->ArgsG e w Im v us (bl c) ps x
 | .v (.slice s) false::q::r,v,us,au::rest,x,hv,hx,ho,hp=>by
   obtain⟨x1,h1,hx⟩:=zgF.1 (show((σ.toArg (.v (.slice s) false) (.cv (.own c))).bind fun x=>(σ.toArgs (q::r) (au::rest)).bind fun y=>some (x,y))=some x from hx)
   obtain⟨x2,h2,hx⟩:=zgF.1 hx
   cases hx
   refine⟨?_,zaN h hv.2 h2 ho hp⟩
   have h3:σ.toCell (.o s e) (.own c)=some x1:=by
    have h4:(match zd σ.ob c with|some (.row u xs _ _)=>(Ty.slice u).as (.slice s) xs|some (.mp l)=>Ty.set.as (.slice s) (some l)|_=>none)=some x1:=h1
    show(match zd σ.ob c with|some (.row u xs d' _)=>bif s.flat||(bif e then d' else !d')then(Ty.slice u).as (.slice s) xs else none|_=>none)=some x1
    rw[hc]at h4⊢
    dsimp only at h4⊢
    obtain⟨ee,hh⟩:=yP h4
    have e1:t=s:=by cases ee;rfl
    subst e1
    rw[hd1]
    exact h4
   have:=(Lg h (v:=v) (cv:= .own c) (show CVR w Im hd v (.own c)from hv.1) (c:= .o s e) (x:=x1) h3).1
   have hb:(zt (yY [.o s e] [.own c])).flatMap bl=bl c:=by simp[zt,yY]
   rw[hb]at this
   exact this
 | .v (.slice s) false::q::r,v,us,[],x,hv,hx,ho,hp=>by
   exfalso
   obtain⟨x1,h1,hx⟩:=zgF.1 (show((σ.toArg (.v (.slice s) false) (.cv (.own c))).bind fun x=>(σ.toArgs (q::r) []).bind fun y=>some (x,y))=some x from hx)
   obtain⟨x2,h2,hx⟩:=zgF.1 hx
   cases r<;>cases h2
theorem zc3:∀ {ps:List PT},giftPs ps=true->ioOf ps=[]
 | .v (.slice s) false::q::r,h=>Pr (ps:=q::r) h
theorem zeU {E:Env}{ck:(fi:Fi)->Aden fi.ps->Option (Oden (zm fi.rs) (ioOf fi.ps))}(hG:∀f ids fi,E.fn f ids=some fi->∀x y,ck fi x=some y->Gives P gw f fi x y)(h:SRi w0 S0 σ a w Im hd bl){o:Oper}{f:Nat}{vs:List Value}{avs:List AV}
 (hv:AVs w Im hd vs avs) (hr:(execOp a.eval o).run P w=(callFunc f vs.toArray).run P w) {ids:List Nat} {fi:Fi} (hf:E.fn f ids=some fi) {xs:Aden fi.ps} (hx:σ.toArgs fi.ps avs=some xs) (hgift:fi.gift=true)
 {next:St->Option ρ} {r:ρ} (hn:aGift σ ck fi o.dst avs xs next=some r):o.wp P a w (Goes w0 S0 next r) Q:=by
 unfold aGift at hn
 split at hn
 ·rename_i c rest
  split at hn
  ·rename_i t ys d cn hc
   obtain⟨hk,hn⟩:=zb hn
   obtain⟨y,hy,hn⟩:=zgF.1 hn
   simp only[zgx]at hk
   obtain⟨⟨hd0,hps⟩,hre⟩:=hk
   have hd1:(t.flat||(bif !fi.run1 then d else !d))=true:=by
    cases hr1:fi.run1<;>rw[hr1]at hd0<;>simpa using hd0
   have hGo:GivesG P gw f fi xs y:=by
    have:=hG f _ fi hf xs y hy
    unfold Gives at this
    rw[hgift]at this
    exact this
   have hro:gv rest=[]:=List.isEmpty_iff.1 hre
   have hown:=h.own c _ hc
   let C:Base gw:=⟨w,fun b=>w.heap.size<=b\/b∈bl c,fun _ h=> .inl h,fun w' hw' =>w0.hg w' (KeptW.trans h.below hw' (fun b hb=>hb.elim (fun h2=>Kept.fresh h.below h2) (fun h2=>(hown.2 b h2).1))),[]⟩
   obtain⟨g1,g2⟩:=h.takeOut hc
   match vs,hv with
   |v::us,hv=>
    have hargs:ArgsG (!fi.run1) w Im v us (bl c) fi.ps xs:=zaO h hc hd1 hv hx hro hps
    refine(hGo C Im v us (bl c) h.lt hown.1 (fun b hb=>⟨.inr hb,(hown.2 b hb).2.1,(hown.2 b hb).2.2⟩) rfl hargs).wp hr fun v' w' hh=> ?_
    have hio:ioOf fi.ps=[]:=zc3 hps
    have hCm:∀b,C.mine b->w0.mine b/\(w.heap.size<=b\/b∈blks bl []++bl c):=fun b hb=>⟨hb.elim (fun h2=>Kept.fresh h.below h2) (fun h2=>(hown.2 b h2).1),hb⟩
    exact P9 g1 (C:=C) rfl (ks:=[]) (G:=bl c) (fun k p hp b hb hb2=>g2.free k p hp b hb hb2) (fun b hb=>(hown.2 b hb).2.2) hCm List.nodup_nil (fun k hk=>by cases hk) (H:=[]) trivial (by rw[hio];intro _ hc;cases hc) hh.1 hh.2 (fun _ _=>Iff.rfl) (by rw[show(σ.kill c).back [] (ioOf fi.ps) (Oden.io _ _ y)=σ.kill c from by unfold St.back;rfl];exact hn)
  ·cases hn
 ·cases hn
theorem zd9 (h:SRi w0 S0 σ a w Im hd bl)(E:Env)(f:Nat)(vs:List AV):∃Im',SRi w0 S0 (σ.ready E f vs) a w Im' hd bl/\∀b,Im b->Im' b:=by
 unfold St.ready
 split
 ·rename_i fi _
  cases fi.run1 with
  |true=>
   obtain⟨Im',h1,h2,_⟩:=wH h (gv (vs.drop 1))
   exact⟨Im',h1,h2⟩
  |false=>
   obtain⟨Im',h1,h2,_⟩:=wH h (σ.boxOwns fi.ps vs)
   exact⟨Im',h1,h2⟩
 ·exact⟨Im,h,fun _ h=>h⟩
theorem zeW {E:Env}{ck:(fi:Fi)->Aden fi.ps->Option (Oden (zm fi.rs) (ioOf fi.ps))}(hG:∀f ids fi,E.fn f ids=some fi->∀x y,ck fi x=some y->Gives P gw f fi x y)(h:SRi w0 S0 σ a w Im hd bl){o:Oper}{f:Nat}{vs:List Value}{avs:List AV}
 (hv:AVs w Im hd vs avs) (hr:(execOp a.eval o).run P w=(callFunc f vs.toArray).run P w) {next:St->Option ρ} {r:ρ} (hn:aCall E σ ck f o.dst avs next=some r):o.wp P a w (Goes w0 S0 next r) Q:=by
 unfold aCall at hn
 split at hn
 ·cases hn
 ·rename_i fi hf
  split at hn
  ·cases hn
  ·rename_i xs hx
   cases hgift:fi.gift with
   |true=>
    rw[hgift,zgJ]at hn
    exact zeU hG h hv hr hf hx hgift hn
   |false=>
   rw[hgift,zgK]at hn
   obtain⟨hk,hn⟩:=zb hn
   obtain⟨y,hy,hn⟩:=zgF.1 hn
   have hGo:GivesO P gw f fi xs y:=by
    have:=hG f _ fi hf xs y hy
    unfold Gives at this
    rw[hgift]at this
    exact this
   rw[zgx]at hk
   have hnd:=cC.1 hk.1
   have hdis:∀k∈wE fi.ps avs,k∉zt (ye fi.ps avs):=fun k hk2 hk3=>by
    have:=zgS.1 hk.2 k hk2
    rw[Eg.2 hk3]at this;cases this
   obtain⟨H,hargs,hrows,hheads⟩:=QR h hv hx
   have hmem:∀b∈blks bl (ye fi.ps avs),w0.mine b/\b<w.heap.size/\¬Im b:=fun b hb=>by
    obtain⟨k,hk,hb⟩:=La hb
    obtain⟨o,hg⟩:=(hrows k hk).some
    exact(h.own k _ hg).2 b hb
   have hLn:(blks bl (ye fi.ps avs)).Nodup:=by
    have:∀(l:List Nat),l.Nodup->(∀k∈l,IsOb σ k)->(l.flatMap bl).Nodup:=by
     intro l
     induction l with
     |nil=>intro _ _;simp
     |cons k l ih=>
      intro hl hr
      rw[zgV]at hl
      rw[List.flatMap_cons,zgM]
      obtain⟨o,hg⟩:=(hr k (by simp)).some
      refine⟨(h.own k _ hg).1,ih hl.2 (fun k' hk' =>hr k' (by simp[hk'])),fun b hb b' hb' e=> ?_⟩
      subst e
      obtain⟨k',hk',hb'⟩:=zgP.1 hb'
      obtain⟨o',hg'⟩:=(hr k' (by simp[hk'])).some
      exact h.apart k _ k' _ hg hg' (fun e=>hl.1 (e▸hk')) b hb hb'
    exact this _ hnd hrows
   let C:Base gw:=⟨w,fun b=>w.heap.size<=b\/b∈blks bl (ye fi.ps avs),fun _ h=> .inl h,fun w' hw' =>w0.hg w' (KeptW.trans h.below hw' (fun b hb=>hb.elim (fun h2=>Kept.fresh h.below h2) (fun h2=>(hmem b h2).1))),H⟩
   have hCm:∀b,C.mine b->w0.mine b/\(w.heap.size<=b\/b∈blks bl (ye fi.ps avs)):=fun b hb=>⟨hb.elim (fun h2=>Kept.fresh h.below h2) (fun h2=>(hmem b h2).1),hb⟩
   cases hi:(immB fi.rs||(ioOf fi.ps).any Vk)with
   |true=>
    rw[hi,zgJ]at hn
    obtain⟨Im',h1,i1,i2,i3⟩:=wH h (wE fi.ps avs)
    have hargs' :ArgsO w Im' vs (blks bl (ye fi.ps avs)) H fi.ps xs:=ArgsO.mono (fun b hb=>by
     rcases hb with hb|⟨k,hk,⟨o0,hg,htr⟩,hb⟩
     ·exact i1 b hb
     ·exact i3 k hk o0 hg b hb) hargs
    have hnI:∀b∈blks bl (ye fi.ps avs),¬Im' b:=fun b hb hI=>by
     rcases i2 b hI with h3|⟨k,hk,hb2⟩
     ·exact(hmem b hb).2.2 h3
     ·obtain⟨k',hk',hb'⟩:=La hb
      obtain⟨o,hg⟩:=(Zt (l:=wE fi.ps avs) (hrows k' hk') (fun h4=>hdis k' h4 hk')).some
      exact((h1.own k' _ hg).2 b hb').2.2 hI
    refine(hGo C Im' vs (blks bl (ye fi.ps avs)) H h1.lt hLn (fun b hb=>⟨.inr hb,(hmem b hb).2.1,hnI b hb⟩) rfl hargs').wp hr fun v w' hh=> ?_
    exact P9 h1 (C:=C) rfl (G:=[]) (fun _ _ _ _ _ hb=>by cases hb) (fun _ hb=>by cases hb) (by simpa using hCm) hnd (fun k hk=>Zt (hrows k hk) (fun h4=>hdis k h4 hk)) hheads (Zk _) hh.1 hh.2 (fun _ b=>Iff.rfl) hn
   |false=>
    rw[hi,zgK]at hn
    have hlt:∀b,(Im b\/∃k∈wE fi.ps avs,IsTr σ k/\b∈bl k)->b<w.heap.size:=fun b hb=>by
     rcases hb with hb|⟨k,hk,⟨o0,hg,htr⟩,hb⟩
     ·exact h.lt b hb
     ·exact h.block_lt hg b hb
    refine(hGo C _ vs (blks bl (ye fi.ps avs)) H hlt hLn (fun b hb=>⟨.inr hb,(hmem b hb).2.1,fun hS=> ?_⟩) rfl hargs).wp hr fun v w' hh=> ?_
    ·rcases hS with hS|⟨k,hk,⟨o0,hg,htr⟩,hb2⟩
     ·exact(hmem b hb).2.2 hS
     ·obtain⟨k',hk',hb'⟩:=La hb
      obtain⟨o',hg'⟩:=(hrows k' hk').some
      exact h.apart k _ k' _ hg hg' (fun e=>hdis k hk (e▸hk')) b hb2 hb'
    ·exact P9 h (C:=C) rfl (G:=[]) (fun _ _ _ _ _ hb=>by cases hb) (fun _ hb=>by cases hb) (by simpa using hCm) hnd hrows hheads (Zk _) hh.1 hh.2 (fun e=>by rw[hi]at e;cases e) hn
end
section
variable {P:Program} {ρ:Type} {gw:Gw} {w0:Base gw} {w:World} {S0:Nat->Prop} {σ:St} {a:Act} {Im:Nat->Prop} {hd:Nat->Value} {bl:Nat->List Nat} {Q:Exit->Act->World->Prop}
theorem Ps {d:Option Nat}(h:DP d=true):∃c,d=some c/\c<500000:=by
 cases d with
 |none=>cases h
 |some c=>exact⟨c,rfl,TJ h⟩
theorem M6 {o:Oper}{x:Option ρ}{r:ρ}(h:chk (DP o.dst) x=some r):∃d,o.dst=some d/\o.dst.getD 0=d/\d<500000/\x=some r:=by
 obtain⟨h1,h2⟩:=zb h
 obtain⟨d,hd,hl⟩:=Ps h1
 exact⟨d,hd,by rw[hd];rfl,hl,h2⟩
theorem CK {dst:Nat}:∀(t:Ty) {j:Nat} {x:t.den} {cs:List Value} {L M:List Nat} {σ:St} {hd:Nat->Value} {bl:Nat->List Nat},SRi w0 S0 σ a w Im hd bl->OT w t x cs L->(L++M).Nodup->
 (∀b∈L++M,w0.mine b/\b<w.heap.size/\¬Im b)->(∀k p,zd σ.ob k=some p->∀b∈bl k,b∉L++M)->dst+1000*(j+t.sz)<500000->
 ∃hd' bl',SRi w0 S0 (digT dst t j x σ).1 a w Im hd' bl' /\CVs w Im hd' cs (digT dst t j x σ).2/\(∀d,(∀i,j<=i->i<j+t.sz->d≠dst+1000*i)->hd' d=hd d)/\
  (∀k p,zd (digT dst t j x σ).1.ob k=some p->∀b∈bl' k,b∉M)/\(∀e∈(digT dst t j x σ).2,∀k∈e.owns,∃i,j<=i/\i<j+t.sz/\k=dst+1000*i)
 | .int k,j,x,cs,L,M,σ,hd,bl,h,ht,hn,hL,hf,hk=>by
   obtain⟨rfl,rfl⟩:=ht
   exact⟨hd,bl,h,⟨rfl,trivial⟩,fun _ _=>rfl,fun k p hp b hb hM=>hf k p hp b hb (by simp[hM]),fun e he k hk=>by simp[digT]at he;subst he;cases hk⟩
 | .bool,j,x,cs,L,M,σ,hd,bl,h,ht,hn,hL,hf,hk=>by
   obtain⟨rfl,rfl⟩:=ht
   exact⟨hd,bl,h,⟨rfl,trivial⟩,fun _ _=>rfl,fun k p hp b hb hM=>hf k p hp b hb (by simp[hM]),fun e he k hk=>by simp[digT]at he;subst he;cases hk⟩
 | .str,j,x,cs,L,M,σ,hd,bl,h,ht,hn,hL,hf,hk=>by
   obtain⟨rfl,rfl⟩:=ht
   exact⟨hd,bl,h,⟨rfl,trivial⟩,fun _ _=>rfl,fun k p hp b hb hM=>hf k p hp b hb (by simp[hM]),fun e he k hk=>by simp[digT]at he;subst he;cases hk⟩
 | .err,j,x,cs,L,M,σ,hd,bl,h,ht,hn,hL,hf,hk=>by
   obtain⟨⟨v,rfl,hv⟩,rfl⟩:=ht
   exact⟨hd,bl,h,⟨⟨v,rfl,hv⟩,trivial⟩,fun _ _=>rfl,fun k p hp b hb hM=>hf k p hp b hb (by simp[hM]),fun e he k hk=>by simp[digT]at he;subst he;cases hk⟩
 | .set,j,x,cs,L,M,σ,hd,bl,h,ht,hn,hL,hf,hk=>by
   obtain⟨v,rfl,hv⟩:=ht
   exact⟨hd,bl,h,⟨trivial,trivial⟩,fun _ _=>rfl,fun k p hp b hb hM=>hf k p hp b hb (by simp[hM]),fun e he k hk=>by simp[digT]at he;subst he;cases hk⟩
 | .slice u,j,x,cs,L,M,σ,hd,bl,h,ht,hn,hL,hf,hk=>by
   obtain⟨v,rfl,hr⟩:=ht
   have h0:(Ty.slice u).sz=1:=rfl
   rw[h0]at hk
   obtain⟨hd',bl',g1,g2,g3,g4,g5⟩:=RE h (dst:=dst) (j:=j) (c:=⟨.slice u,some (true,false)⟩) (x:=x) (v:=v) (L:=L) (M:=M) ⟨hr,fun e=>by cases e⟩ hn hL hf (fun k hm=>by
    have hm' :k=dst+1000*j:=by simpa using hm
    omega)
   exact⟨hd',bl',g1,g2,fun d hd=>g3 d (hd j (zgC _) (by rw[h0];omega)),g4,fun e he k hk=>⟨j,zgC _,by rw[h0];omega,g5 e he k hk⟩⟩
 | .pair s t,j,x,cs,L,M,σ,hd,bl,h,ht,hn,hL,hf,hk=>by
   obtain⟨c1,c2,L1,L2,rfl,rfl,h1,h2⟩:=ht
   have h0:(Ty.pair s t).sz=s.sz+t.sz:=rfl
   rw[h0]at hk
   rw[zgU]at hn hL
   obtain⟨hd1,bl1,g1,g2,g3,g4,g5⟩:=CK s (dst:=dst) (j:=j) (x:=x.1) (M:=L2++M) h h1 hn hL (fun k p hp b hb=>by have:=hf k p hp b hb;rwa [zgU]at this) (by omega)
   rw[zgM]at hn
   obtain⟨hd2,bl2,k1,k2,k3,k4,k5⟩:=CK t (dst:=dst) (j:=j+s.sz) (x:=x.2) (M:=M) g1 h2 hn.2.1 (fun b hb=>hL b (zgz.2 (.inr hb))) g4 (by omega)
   refine⟨hd2,bl2,k1, ?_,fun d hd=> ?_,k4,fun e he k hk=> ?_⟩
   ·show CVs w Im hd2 (c1++c2) (_++_)
    refine CVs.app (CVs.rehead (fun e he k hk=> ?_) g2) k2
    obtain⟨i,i1,i2,rfl⟩:=g5 e he k hk
    refine k3 _ (fun i' i1' i2' => ?_)
    omega
   ·rw[k3 d (fun i i1 i2=>hd i (by omega) (by rw[h0];omega)),g3 d (fun i i1 i2=>hd i i1 (by rw[h0];omega))]
   ·have he' :e∈(digT dst s j x.1 σ).2++(digT dst t (j+s.sz) x.2 (digT dst s j x.1 σ).1).2:=he
    rcases zgz.1 he' with he' |he'
    ·obtain⟨i,i1,i2,i3⟩:=g5 e he' k hk
     exact⟨i,i1,by rw[h0];omega,i3⟩
    ·obtain⟨i,i1,i2,i3⟩:=k5 e he' k hk
     exact⟨i,by omega,by rw[h0];omega,i3⟩
theorem OL.getN {α:Type}{n:Nat}{p:α->List Value->List Nat->Prop}:∀ {xs:List α} {cs:List Value} {L:List Nat},OL n p xs cs L->∀i x,xs[i]? =some x->
 ∃L1 l L2,L=L1++(l++L2)/\p x ((cs.drop (i*n)).take n) l
 | [],cs,L,h,i,x,hx=>by simp at hx
 |y::xs,cs,L,h,i,x,hx=>by
  obtain⟨L1,L2,rfl,hn,hp,h⟩:=h
  cases i with
  |zero=>
   simp at hx
   subst hx
   exact⟨[],L1,L2,rfl,by simpa using hp⟩
  |succ i=>
   obtain⟨M1,l,M2,rfl,h1⟩:=OL.getN h i x (by simpa using hx)
   refine⟨L1++M1,l,M2,by simp, ?_⟩
   rw[List.drop_drop]at h1
   rw[Nat.add_mul,Nat.one_mul,Nat.add_comm (i*n) n]
   exact h1
theorem OL.cutN {α:Type}{n:Nat}{p:α->List Value->List Nat->Prop}:∀ {xs:List α} {cs:List Value} {L:List Nat} {i:Nat},OL n p xs cs L->(h:i<xs.length)->
 ∃L1 Lx L2,L=L1++(Lx++L2)/\p xs[i] ((cs.drop (i*n)).take n) Lx/\OL n p (xs.take i) (cs.take (i*n)) L1/\OL n p (xs.drop (i+1)) (cs.drop (i*n+n)) L2
 | [],cs,L,i,h,hi=>by simp at hi
 |x::xs,cs,L,0,h,hi=>by
  obtain⟨L1,L2,rfl,hn,hp,h⟩:=h
  refine⟨[],L1,L2,rfl,by simpa using hp,rfl, ?_⟩
  simpa using h
 |x::xs,cs,L,i+1,h,hi=>by
  obtain⟨L1,L2,rfl,hn,hp,h⟩:=h
  obtain⟨M1,Mx,M2,e1,e2,e3,e4⟩:=OL.cutN (i:=i) h (by simpa using hi)
  refine⟨L1++M1,Mx,M2,by rw[e1];simp, ?_,⟨L1,M1,rfl, ?_, ?_, ?_⟩, ?_⟩
  ·rw[List.drop_drop]at e2
   rw[Nat.add_mul,Nat.one_mul,Nat.add_comm (i*n) n]
   simpa using e2
  ·rw[zgL,Nat.add_mul,Nat.one_mul];omega
  ·rw[List.take_take,Nat.min_eq_left (by rw[Nat.add_mul,Nat.one_mul];omega)];exact hp
  ·rw[List.drop_take]
   have:(i+1)*n-n=i*n:=by rw[Nat.add_mul,Nat.one_mul];omega
   rw[this];exact e3
  ·rw[List.drop_drop]at e4
   have:(i+1)*n+n=n+(i*n+n):=by rw[Nat.add_mul,Nat.one_mul];omega
   rw[this]
   simpa using e4
theorem zac:∀(cs:List Value),CVs w Im hd cs (List.replicate cs.length .dead)
 | []=>trivial
 |v::cs=>⟨trivial,zac cs⟩
theorem Eo {dst c:Nat}(hc:450000<=c):∀(t:Ty) {j:Nat} {x:t.den} {σ:St} {o:Ob},dst+1000*(j+t.sz)<450000->zd σ.ob c=some o->(∃t' xs i,o= .hol t' xs i (List.replicate t'.sz .dead))->zd (digT dst t j x σ).1.ob c=some o
 | .int k,j,x,σ,o,hk,h,_=>h
 | .bool,j,x,σ,o,hk,h,_=>h
 | .str,j,x,σ,o,hk,h,_=>h
 | .set,j,x,σ,o,hk,h,_=>h
 | .err,j,x,σ,o,hk,h,_=>h
 | .slice u,j,x,σ,o,hk,h,ho=>by
   have h0:(Ty.slice u).sz=1:=rfl
   rw[h0]at hk
   have hne:c≠dst+1000*j:=by omega
   show zd ((dst+1000*j,_)::(σ.kill (dst+1000*j)).ob) c=some o
   rw[yj,zgH (Ne.symm hne),RP hne h]
   obtain⟨t',xs,i,rfl⟩:=ho
   show some (Ob.hol t' xs i ((List.replicate t'.sz CV.dead).map _))=_
   rw[List.map_replicate]
   rfl
 | .pair s t,j,x,σ,o,hk,h,ho=>by
   have h0:(Ty.pair s t).sz=s.sz+t.sz:=rfl
   rw[h0]at hk
   exact Eo hc t (by omega) (Eo hc s (by omega) h ho) ho
theorem SRi.digS_ (h:SRi w0 S0 σ a w Im hd bl){c d i:Nat}{t:Ty}{xs:List t.den}{cn:Bool}(hc:zd σ.ob c=some (.row t xs true cn))(hc4:450000<=c)(hd4:d+1000*t.sz<450000)(hi:i<xs.length):
 ∃b f0 cap cur F cs,hd c= .slice (some ⟨b,f0,none⟩) xs.length cap/\w.heap[b]? =some (.cells cur F (0,0))/\cs=(cur.toList.drop (f0+i*t.sz)).take t.sz/\cs.length=t.sz/\∃hd' bl',SRi w0 S0 (σ.digS c d t xs i).1 a w Im hd' bl' /\CVs w Im hd' cs (σ.digS c d t xs i).2:=by
 rcases(h.objs c _ hc).1 with⟨_,e,_⟩|⟨b,f0,cap,cur,F,Li,e1,e2,e3,e4,e5,hol⟩
 ·rw[e]at hi;simp at hi
 obtain⟨L1,Lx,L2,e6,e7,e8,e9⟩:=OL.cutN (p:=OT w t) (show OL t.sz (OT w t) xs (cur.toList.drop f0) Li from hol) hi
 subst e6
 have hown:=h.own c _ hc
 rw[e5]at hown
 have hnd:=zgV.1 hown.1
 have hnd2:=zgM.1 hnd.2
 have hnd3:=zgM.1 hnd2.2.1
 have hy:xs.getD i t.dflt=xs[i]:=by rw[List.getD,zgD hi];rfl
 have hL:(b::(L1++L2)).Nodup:=by
  refine zgV.2 ⟨fun hm=>hnd.1 ?_,zgM.2 ⟨hnd2.1,hnd3.2.1,fun x hx z hz e=>hnd2.2.2 x hx z (by simp[hz]) e⟩⟩
  simp only[zgz]at hm⊢
  exact hm.elim .inl (fun h=> .inr (.inr h))
 have hsub:∀x∈b::(L1++L2),x∈bl c:=by
  intro x hx
  rw[e5]
  simp only[zgO,zgz]at hx⊢
  rcases hx with hx|hx|hx
  ·exact .inl hx
  ·exact .inr (.inl hx)
  ·exact .inr (.inr (.inr hx))
 have hlen:(((cur.toList.drop f0).drop (i*t.sz)).take t.sz).length=t.sz:=e7.sz
 have hdead:CVs w Im hd (((cur.toList.drop f0).drop (i*t.sz)).take t.sz) (List.replicate t.sz .dead):=by
  have:=zac (w:=w) (Im:=Im) (hd:=hd) (((cur.toList.drop f0).drop (i*t.sz)).take t.sz)
  rwa [hlen]at this
 have h1:=h.obj (o' := .hol t xs i (List.replicate t.sz .dead)) (w' :=w) (L:=b::(L1++L2)) hc (fun _ _ _=>rfl) (zgC _) h.below (fun _ x=>x) (fun _ hb=> .inl hb) hL hsub
  ⟨b,f0,cap,cur,F,L1,L2,e1,e2,e3,e4,hi,rfl,e8,e9,hdead⟩
 have hLx:∀x∈Lx,x∈bl c/\x∉b::(L1++L2):=by
  intro x hx
  refine⟨by rw[e5];simp[hx],fun hm=> ?_⟩
  simp only[zgO,zgz]at hm
  rcases hm with hm|hm|hm
  ·exact hnd.1 (by rw[<-hm];simp[hx])
  ·exact hnd2.2.2 x hm x (by simp[hx]) rfl
  ·exact hnd3.2.2 x hx x hm rfl
 have hget1:zd (yt σ.ob c (.hol t xs i (List.replicate t.sz .dead))) c=some (.hol t xs i (List.replicate t.sz .dead)):=by rw[yW,zgG rfl]
 obtain⟨hd',bl',j1,j2,j3,_⟩:=CK t (dst:=d) (j:=0) (x:=xs.getD i t.dflt) (L:=Lx) (M:=[]) h1 (by rw[hy];exact e7) (by simpa using hnd3.1)
  (fun x hx=>(h.own c _ hc).2 x (hLx x (by simpa using hx)).1) (fun k p hp x hx hm=>by
    have hm:x∈Lx:=by simpa using hm
    by_cases q:k=c
    ·subst q
     simp only[if_true]at hx
     exact(hLx x hm).2 hx
    ·simp only[q,if_false]at hx
     have hp' :zd σ.ob k=some p:=by
      have hp2:zd (yt σ.ob c (.hol t xs i (List.replicate t.sz .dead))) k=some p:=hp
      rw[yW,zgH (Ne.symm q)]at hp2
      exact hp2
     exact h.apart k p c _ hp' hc q x hx (hLx x hm).1) (by omega)
 have hget2:=Eo hc4 t (dst:=d) (j:=0) (x:=xs.getD i t.dflt) (σ:= { σ with ob:=yt σ.ob c (.hol t xs i (List.replicate t.sz .dead))}) (by omega) hget1 ⟨t,xs,i,rfl⟩
 have hdc:hd' c=hd c:=j3 c (fun q _ hq e=>by omega)
 obtain⟨b',f',cap',cs',E',M1,M2,g1,g2,g3,g4,g5,g6,g7,g8,g9⟩:=j1.objs c _ hget2
 rw[hdc,e1]at g1
 cases g1
 rw[e2]at g2
 cases g2
 refine⟨b,f0,_,cur,F,_,e1,e2,rfl,by rw[<-List.drop_drop];exact hlen,hd',_,j1.obj (o' := .hol t xs i (digT d t 0 (xs.getD i t.dflt) { σ with ob:=yt σ.ob c (.hol t xs i (List.replicate t.sz .dead))}).2) (w' :=w) (L:=bl' c) hget2 (fun _ _ _=>rfl) (zgC _) j1.below (fun _ x=>x) (fun _ hb=> .inl hb) (j1.own c _ hget2).1 (fun _ hx=>hx)
  ⟨b,f0,_,cur,F,M1,M2,hdc.trans e1,e2,g3,g4,g5,g6,g7,g8,j2⟩, ?_⟩
 rw[<-List.drop_drop]
 exact j2
theorem zfR {E:Env}(hE:∀T ti,E.ty T=some ti->TyOk P T ti)(h:SRi w0 S0 σ a w Im hd bl){T d c m i o:Nat}{v:Value}(hx:AVR w Im hd v (.el c m i o)){next:St->Option ρ}{other:Option ρ}{r:ρ}(hn:aEat E σ T d c m i o next other=some r):
 (∃u τ av hd' bl',(Instr.loadAt T v).run P w= .ok u w/\SRi w0 S0 τ a w Im hd' bl' /\AVR w Im hd' u av/\next (τ.put (some d) av)=some r)\/other=some r:=by
 unfold aEat at hn
 split at hn
 ·rename_i t xs cn n agg hc hT
  obtain⟨h1,hn1⟩:=zb hn
  obtain⟨h2,hn2⟩:=zb hn1
  clear hn hn1
  simp only[zgx]at h1
  obtain⟨⟨⟨q1,q2⟩,q3⟩,q4⟩:=h1
  obtain rfl:=zgE q1
  obtain rfl:=zgE q2
  obtain rfl:=zgE q3
  have hi:=zgw h2
  obtain⟨⟨i0,hi0,hsz⟩,hagg,hag1⟩:=aW hE hT
  obtain⟨b,f0,k0,rfl⟩:=hx
  rcases(h.objs c _ hc).1 with⟨_,e,_⟩|⟨b2,f2,cap,cur,F,Li,e1,e2,e3,e4,e5,hol⟩
  ·rw[e]at hi;simp at hi
  rw[wi e1]at k0
  cases k0
  have hol' :OL t.sz (OT w t) xs (cur.toList.drop f0) Li:=hol
  have hg:xs[i]? =some (xs.getD i t.dflt):=by rw[List.getD,zgD hi];rfl
  obtain⟨L1,l,L2,e6,hot⟩:=OL.getN hol' i _ hg
  subst e6
  rw[List.drop_drop]at hot
  obtain⟨g1,g2⟩:=h.takeOut hc
  have hown:=g2.own
  have hnd:=g2.nodup
  rw[e5]at hnd hown
  have hlb:∀x∈l,x∈bl c:=fun x hx=>by rw[e5];simp[hx]
  have hln:l.Nodup:=(zgM.1 (zgM.1 (zgV.1 hnd).2).2.1).1
  obtain⟨hd',bl',j1,j2,_⟩:=CK t (dst:=d) (j:=0) (x:=xs.getD i t.dflt) (L:=l) (M:=[]) g1 hot (by simpa using hln) (fun b hb=>g2.own b (hlb b (by simpa using hb))) (fun k p hp b hb hm=>g2.free k p hp b hb (hlb b (by simpa using hm))) (by rw[Nat.zero_add];exact TJ q4)
  have hl:=hot.sz
  exact .inl ⟨_,_,_,hd',bl',x7 (ud e2 (f0+i*t.sz) t.sz) hi0 (by rw[hl];exact hsz) hagg (fun e=>by rw[hl];exact hag1 e),j1,xx j2,hn2⟩
 ·rename_i t xs k n agg hc hT
  obtain⟨h1,hn1⟩:=zb hn
  obtain⟨h2,hn2⟩:=zb hn1
  obtain⟨h3,hn3⟩:=zb hn2
  clear hn hn1 hn2
  simp only[zgx]at h1
  obtain⟨⟨⟨q1,q2⟩,q3⟩,q4⟩:=h1
  obtain rfl:=zgE q1
  obtain rfl:=zgE q2
  obtain rfl:=zgE q3
  obtain rfl:=zgE h3
  have hi:=zgw h2
  obtain⟨⟨i0,hi0,hsz⟩,hagg,hag1⟩:=aW hE hT
  obtain⟨b,f0,k0,rfl⟩:=hx
  rcases h.objs c _ hc with⟨_,e,_⟩|⟨b2,f2,cap,cur,F,Li,e1,e2,e3,e4,e5,hol⟩
  ·rw[e]at hi;simp at hi
  rw[wi e1]at k0
  cases k0
  have hg:xs.getD i t.dflt=xs[i]:=by rw[List.getD,zgD hi];rfl
  rw[List.drop_eq_getElem_cons hi]at hol
  obtain⟨L1,L2,e6,hle,hot,hol2⟩:=hol
  subst e6
  rw[<-hg]at hot
  rw[List.drop_drop]at hot hol2
  have hown:=h.own c _ hc
  rw[e5]at hown
  have hnd:=zgV.1 hown.1
  have hnd2:=zgM.1 hnd.2
  have hL:(b::L2).Nodup:=zgV.2 ⟨fun hm=>hnd.1 (by simp[hm]),hnd2.2.1⟩
  have g1:=h.obj (o' := .tl t xs (i+1)) (w' :=w) (L:=b::L2) hc (fun _ _ _=>rfl) (zgC _) h.below (fun _ x=>x) (fun _ hb=> .inl hb) hL (fun x hx=>by
   rw[e5]
   rcases zgO.1 hx with hx|hx
   ·simp[hx]
   ·simp[hx])
   (.inr ⟨b,f0,cap,cur,F,L2,e1,e2,e3,e4,rfl,by rw[Nat.add_mul,Nat.one_mul];rw[List.drop_drop]at hol2⊢;first|exact hol2|(rw[<-Nat.add_assoc];exact hol2)⟩)
  have hlb:∀x∈L1,x∈bl c:=fun x hx=>by rw[e5];simp[hx]
  obtain⟨hd',bl',j1,j2,_⟩:=CK t (dst:=d) (j:=0) (x:=xs.getD i t.dflt) (L:=L1) (M:=[]) g1 hot (by simpa using hnd2.1) (fun x hx=>(h.own c _ hc).2 x (hlb x (by simpa using hx))) (fun k p hp x hx hm=>by
   have hm:x∈L1:=by simpa using hm
   by_cases q:k=c
   ·subst q
    simp only[if_true]at hx
    rcases zgO.1 hx with hx|hx
    ·exact hnd.1 (by rw[<-hx];simp[hm])
    ·exact hnd2.2.2 x hm x hx rfl
   ·simp only[q,if_false]at hx
    have hp' :zd σ.ob k=some p:=by
     have hp2:zd (yt σ.ob c (.tl t xs (i+1))) k=some p:=hp
     rw[yW,zgH (Ne.symm q)]at hp2
     exact hp2
    exact h.apart k p c _ hp' hc q x hx (hlb x hm)) (by rw[Nat.zero_add];exact TJ q4)
  have hl:=hot.sz
  exact .inl ⟨_,_,_,hd',bl',x7 (ud e2 (f0+i*t.sz) t.sz) hi0 (by rw[hl];exact hsz) hagg (fun e=>by rw[hl];exact hag1 e),j1,xx j2,hn3⟩
 ·exact .inr hn
theorem AB:∀ {l:List Value} {i:Nat} {u:Value},l[i]? =some u->l.set i u=l
 | [],i,u,h=>by simp at h
 |x::l,0,u,h=>by simp at h;subst h;rfl
 |x::l,i+1,u,h=>by rw[List.set_cons_succ,AB (by simpa using h)]
theorem zeB {α:Type}(A:List α)(p q:Nat):A.drop (p+q)=(A.drop p).drop q:=by rw[List.drop_drop]
def bn (l:List Nat):Rn:=⟨fun d=>bif hasB d l then .dead else .own d,fun d o=>bif hasB d l then .cv .dead else .adr d o,fun d n i o=>bif hasB d l then .cv .dead else .el d n i o⟩
theorem KW {c:Nat}{t:Ty}{xs:List t.den}{i:Nat}:∀ {ks:List Nat} {σ:St} {l:List CV},zd σ.ob c=some (.hol t xs i l)->c∉ks->zd (σ.killAll ks).ob c=some (.hol t xs i (l.map (CV.map (bn ks))))
 | [],σ,l,h,hn=>by
   have:l.map (CV.map (bn []))=l:=by
    have e:l.map (CV.map (bn []))=l.map id:=List.map_congr_left fun v _=>by cases v<;>rfl
    rw[e,List.map_id]
   rw[this];exact h
 |k::ks,σ,l,h,hn=>by
  have h1:zd (σ.kill k).ob c=some (.hol t xs i (l.map (CV.map (xG k)))):=RP (fun e=>hn (by simp[e])) h
  have h2:=KW (ks:=ks) h1 (fun e=>hn (by simp[e]))
  have e:(l.map (CV.map (xG k))).map (CV.map (bn ks))=l.map (CV.map (bn (k::ks))):=by
   rw[List.map_map]
   apply List.map_congr_left
   intro v _
   cases v with
   |own d=>
    show CV.map (bn ks) (bif Nat.beq d k then .dead else .own d)=bif hasB d (k::ks)then .dead else .own d
    unfold hasB
    rw[show Nat.beq k d=Nat.beq d k by rw[beqN,beqN];exact decide_eq_decide.2 ⟨Eq.symm,Eq.symm⟩]
    cases Nat.beq d k with
    |true=>rfl
    |false=>rfl
   |_=>rfl
  rw[e]at h2
  exact h2
theorem Gc (h:SR w0 S0 σ a w)(c:Nat):SR w0 S0 (σ.settle1 c) a w:=by
 unfold St.settle1
 split
 ·rename_i t xs i k hc
  split
  ·rename_i u ys n hk
   split
   ·rename_i ys' hys
    obtain⟨ee,hee⟩:=yP hys
    cases ee
    cases hee
    cases hb:Nat.beq c k with
    |true=>exact h
    |false=>
     obtain⟨Im,hd,bl,h⟩:=h
     have hck:c≠k:=fun e=>by rw[e,Nat.beq_refl]at hb;cases hb
     obtain⟨b,f0,cap,cur,F,u0,k1,k2,k3,k4,k5,k6,k7,k8⟩:=h.fill hck hc hk
     have hu:u0=hd k:=k7
     subst hu
     obtain⟨bl',hfin⟩:=k8 w (fun _ _=>rfl) (zgC _) h.below (by rw[AB (by rw[List.getElem?_drop]at k6;exact k6)];exact k2)
     exact⟨Im,hd,bl',hfin⟩
   ·exact h
  ·exact h
 ·rename_i t xs i l hc
  cases hb:(σ.treeB l&& !hasB c (zf l))with
  |false=>exact h
  |true=>
   rw[zgJ]
   rw[zgx,Bool.not_eq_true']at hb
   split
   ·rename_i y hy
    obtain⟨Im,hd,bl,h⟩:=h
    obtain⟨b,f0,cap,cur,F,L1,L2,e1,e2,e3,e4,e5,e6,e7,e8,e9⟩:=h.objs c _ hc
    have ht:=hb.1
    rw[Ar,zgx]at ht
    have hnd:=cC.1 ht.1
    have hnc:c∉zf l:=fun hm=>by have:=jL.2 hm;rw[hb.2]at this;cases this
    have hot:=RS h ht.2 hy e9
    have hg:=GB h (zf l)
    have hMn:=QO h hnd ht.2
    have hgc:zd (σ.killAll (zf l)).ob c=some (.hol t xs i (l.map (CV.map (bn (zf l))))):=KW hc hnc
    have hown:=h.own c _ hc
    rw[e6]at hown
    have hnd1:=zgV.1 hown.1
    have hnd2:=zgM.1 hnd1.2
    have hap:∀x∈l.flatMap (blk bl),x∉b::(L1++L2):=fun x hx hm=>by
     obtain⟨k,hk,hb2⟩:=V9 hx
     obtain⟨o',hgk,_⟩:=SI ht.2 k hk
     exact h.apart k _ c _ hgk hc (fun e=>hnc (e▸hk)) x hb2 (by rw[e6];exact hm)
    have hlen:(((cur.toList.drop f0).drop (i*t.sz)).take t.sz).length=t.sz:=hot.sz
    have hol:OL t.sz (OT w t) (xs.set i y) (cur.toList.drop f0) (L1++(l.flatMap (blk bl)++L2)):=by
     have e:cur.toList.drop f0=(cur.toList.drop f0).take (i*t.sz)++(((cur.toList.drop f0).drop (i*t.sz)).take t.sz++(cur.toList.drop f0).drop (i*t.sz+t.sz)):=by
      have h2:=zeB (cur.toList.drop f0) (i*t.sz) t.sz
      rw[h2,List.take_append_drop,List.take_append_drop]
     have hA:i*t.sz<=(cur.toList.drop f0).length:=by
      have hsp:=t.sz_pos
      rw[zgL,zgR]at hlen
      omega
     rw[e,List.set_eq_take_append_cons_drop,zgG e5]
     refine OL.append e7 (by rw[zgL,zgL,Nat.min_eq_left hA,Nat.min_eq_left (by omega)]) ⟨_,_,rfl,by rw[zgA];omega, ?_, ?_⟩
     ·rw[List.take_append_of_le_length (by omega),zgT (by omega)];exact hot
     ·have hd0:(((cur.toList.drop f0).drop (i*t.sz)).take t.sz).drop t.sz=[]:=List.drop_of_length_le (by omega)
      rw[List.drop_append_of_le_length (by omega),hd0,List.nil_append];exact e8
    refine⟨Im,hd,_,hg.obj2 (L:=b::(L1++(l.flatMap (blk bl)++L2))) (M:=l.flatMap (blk bl)) (o' := .row t (xs.set i y) true false) hgc (fun _ _ _=>rfl) (zgC _) hg.below ?_ ?_ ?_ ?_ ?_⟩
    ·refine zgV.2 ⟨fun hm=> ?_,zgM.2 ⟨hnd2.1,zgM.2 ⟨hMn,hnd2.2.1,fun x hx z hz e=>hap x hx (by rw[e];simp[hz])⟩,fun x hx z hz e=> ?_⟩⟩
     ·simp only[zgz]at hm
      rcases hm with hm|hm|hm
      ·exact hnd1.1 (by simp[hm])
      ·exact hap b hm (by simp)
      ·exact hnd1.1 (by simp[hm])
     ·rcases zgz.1 hz with hz|hz
      ·exact hap z hz (by rw[<-e];simp[hx])
      ·exact hnd2.2.2 x hx z hz e
    ·intro x hx
     rw[e6]
     simp only[zgO,zgz]at hx⊢
     rcases hx with hx|hx|hx|hx
     ·exact .inl (.inl hx)
     ·exact .inl (.inr (.inl hx))
     ·exact .inr hx
     ·exact .inl (.inr (.inr hx))
    ·intro x hx
     obtain⟨k,hk,hb2⟩:=V9 hx
     obtain⟨o',hgk,_⟩:=SI ht.2 k hk
     exact(h.own k _ hgk).2 x hb2
    ·intro k p hp x hx hm
     obtain⟨hnot,o,ho⟩:=Sh hp
     obtain⟨k',hk',hb2⟩:=V9 hm
     obtain⟨o',hgk,_⟩:=SI ht.2 k' hk'
     exact h.apart k o k' _ ho hgk (fun e=>hnot (e▸hk')) x hx hb2
    ·exact⟨.inr ⟨b,f0,cap,cur,F,_,by rw[List.length_set];exact e1,e2,e3,by rw[List.length_set];exact e4,rfl,hol⟩,fun e=>by cases e⟩
   ·exact h
 ·exact h
theorem zbm (h:SR w0 S0 σ a w)(x:AV):SR w0 S0 (σ.homeFor x) a w:=by
 unfold St.homeFor
 split
 ·rename_i c
  cases(Nat.ble 420000 c&&Nat.blt c 430000)with
  |true=>exact Gc h c
  |false=>exact h
 ·exact h
theorem beqBA {a b:ByteArray}(h:(a==b)=true):a=b:=by
 cases a with
 |mk x=>cases b with
  |mk y=>
   have h' :(x==y)=true:=h
   rw[eq_of_beq h']
theorem GZ (a:ByteArray):(a==a)=true:=by
 cases a with
 |mk x=>exact(beq_self_eq_true x:(x==x)=true)
theorem fj {kt:Nat}{s:ByteArray}(hk:P.underlying kt=some .string)(e:Bool)(w:World):(Instr.checkKey e 10000 kt (.string s)).run P w= .ok () w:=by
 show(Instr.checkKey e (9999+1) kt (.string s)).run P w=_
 unfold Instr.checkKey
 simp[run_underlying hk]
theorem Sy (s:ByteArray):∀(es:List MapEntry) (l:List ByteArray) (i:Nat),es.map (fun e=>(e.key,e.val))=l.map (fun x=>(Value.string x,Value.bool true))->
 (YR l s=true->∃j e,Instr.findNow .string (.string s) es i=some (some (i+j, .bool true))/\es[j]? =some e/\e.key= .string s/\e.val= .bool true)/\(YR l s=false->Instr.findNow .string (.string s) es i=some none)
 | [],[],i,_=>⟨fun h=>by simp[YR]at h,fun _=>rfl⟩
 | [],_::_,i,h=>by cases h
 |_::_,[],i,h=>by cases h
 |e::es,x::l,i,h=>by
  rw[List.map_cons,List.map_cons,List.cons.injEq,Prod.mk.injEq]at h
  obtain⟨⟨h1,h2⟩,h3⟩:=h
  obtain⟨ih1,ih2⟩:=Sy s es l (i+1) h3
  have hs:Instr.sameNow .string (.string s) e.key=some (s==x):=by rw[h1];rfl
  unfold YR at ih1 ih2⊢
  rw[List.any_cons]
  unfold Instr.findNow
  rw[hs]
  cases hb:s==x with
  |true=>
   have hsx:s=x:=beqBA hb
   exact⟨fun _=>⟨0,e,by simp[h2],rfl,by rw[h1,hsx],h2⟩,fun h=>by simp at h⟩
  |false=>
   refine⟨fun h=> ?_,fun h=>ih2 (by simpa using h)⟩
   obtain⟨j,e',g1,g2,g3,g4⟩:=ih1 (by simpa using h)
   exact⟨j+1,e',by show Instr.findNow .string (.string s) es (i+1)=_;rw[g1,Nat.add_assoc,Nat.add_comm 1 j],by simpa using g2,g3,g4⟩
def LA (w:World)(b:Nat)(o:Obj):World:= { w with heap:=w.heap.setIfInBounds b o}
theorem uS {b:Nat}{es:Array MapEntry}{ck:Nat}(hb:w.heap[b]? =some (.map es ck)):(getObj b).run P w= .ok (.map es ck) w:=by simp[getObj,Sem.run,hb]
theorem Ul {b:Nat}{es:Array MapEntry}{ck:Nat}(o:Obj)(hb:w.heap[b]? =some (.map es ck)):(setObj b o).run P w= .ok () (LA w b o):=by simp[setObj,Sem.run,hb,LA]
theorem fm {b k:Nat}{o:Obj}(hk:k≠b):(LA w b o).heap[k]? =w.heap[k]? :=by
 unfold LA
 simp[Array.getElem?_setIfInBounds,Ne.symm hk]
theorem YL {b:Nat}{o:Obj}:(LA w b o).heap.size=w.heap.size:=by simp[LA]
theorem Gm {b:Nat}{o p:Obj}(hb:w.heap[b]? =some p):(LA w b o).heap[b]? =some o:=by
 have hl:b<w.heap.size:=by
  rcases Nat.lt_or_ge b w.heap.size with h|h
  ·exact h
  ·rw[Array.getElem?_eq_none h]at hb;cases hb
 unfold LA
 simp[Array.getElem?_setIfInBounds,hl]
theorem zbL {E:Env}(hE:∀T ti,E.ty T=some ti->TyOk P T ti)(h:SRi w0 S0 σ a w Im hd bl){T:Nat}{x k:AV}{vx vk:Value}(hx:AVR w Im hd vx x)(hk:AVR w Im hd vk k)
 {next:AV->Option ρ} {r:ρ} (hn:aLookup E σ T x k next=some r):∃u av,(Instr.lookup T vx vk false).run P w= .ok u w/\AVR w Im hd u av/\next av=some r:=by
 unfold aLookup at hn
 have look:∀(b:Nat) (es:Array MapEntry) (ck:Nat) (l:List ByteArray) (s:ByteArray) (kt et:Nat) (i:TypeInfo),P.underlying T=some (.map kt et)->P.underlying kt=some .string->P.info? et=some i->i.zero=some (.bool false)->
  w.heap[b]? =some (.map es ck)->es.toList.map (fun e=>(e.key,e.val))=(l.map fun s=>(Value.string s,Value.bool true))->(Instr.lookup T (.map (some b)) (.string s) false).run P w= .ok (.bool (YR l s)) w:=by
  intro b es ck l s kt et i h1 h2 h3 h4 e2 e4
  obtain⟨f1,f2⟩:=Sy s es.toList l 0 e4
  cases hm:YR l s with
  |true=>
   obtain⟨j,e,g1,_,_,_⟩:=f1 hm
   unfold Instr.lookup
   simp only[Sem.run_bind,run_underlying h1,Result.andThen_ok,uS e2,Sem.run_pure,fj h2,Instr.findKey,run_underlying h2,g1]
   rfl
  |false=>
   unfold Instr.lookup
   simp only[Sem.run_bind,run_underlying h1,Result.andThen_ok,uS e2,Sem.run_pure,fj h2,Instr.findKey,run_underlying h2,f2 hm,MS h3 h4]
   rfl
 split at hn
 ·rename_i c s hT
  split at hn
  ·rename_i l hc
   obtain⟨d0,hu,⟨kt,et,i,rfl,h2,h3,h4⟩,_⟩:=hE T _ hT
   obtain⟨b,e1,e3,es,ck,e2,e4⟩:=h.objs c _ hc
   have ev:vx= .map (some b):=(show vx=hd c from hx).trans e1
   have ek:vk= .string s:=Wg hk
   subst ev;subst ek
   exact⟨_,_,look b es ck l s kt et i hu h2 h3 h4 e2 e4,bvr,hn⟩
  ·cases hn
 ·rename_i x s hT
  obtain⟨d0,hu,⟨kt,et,i,rfl,h2,h3,h4⟩,_⟩:=hE T _ hT
  have ek:vk= .string s:=Wg hk
  subst ek
  obtain⟨v,L,e,hL,hr⟩:=(show VR w Im .set x [vx]from hx)
  obtain rfl:vx=v:=by simpa using e
  cases x with
  |none=>
   obtain⟨rfl,_⟩:=hr
   refine⟨.bool false,_, ?_,bvr,hn⟩
   unfold Instr.lookup
   simp only[Sem.run_bind,run_underlying hu,Result.andThen_ok,Sem.run_pure,fj h2,Instr.findKey,run_underlying h2,Instr.findNow,MS h3 h4]
   rfl
  |some l=>
   obtain⟨b,rfl,_,es,ck,e2,e4⟩:=hr
   exact⟨_,_,look b es ck l s kt et i hu h2 h3 h4 e2 e4,bvr,hn⟩
 ·cases hn
theorem KN {f:MapEntry->MapEntry}:∀ {es:List MapEntry} {j:Nat} {e:MapEntry},es[j]? =some e->(fun e:MapEntry=>(e.key,e.val)) (f e)=(e.key,e.val)->(es.modify j f).map (fun e=>(e.key,e.val))=es.map fun e=>(e.key,e.val)
 | [],j,e,h,_=>by simp at h
 |x::es,0,e,h,hf=>by
  simp at h;subst h
  simp[List.modify_cons]at hf⊢
  exact hf
 |x::es,j+1,e,h,hf=>by
  rw[List.modify_succ_cons,List.map_cons,List.map_cons,KN (by simpa using h) hf]
theorem G2 {E:Env}(hE:∀T ti,E.ty T=some ti->TyOk P T ti)(h:SRi w0 S0 σ a w Im hd bl){T:Nat}{x k v:AV}{vx vk vv:Value}(hx:AVR w Im hd vx x)(hk:AVR w Im hd vk k)(hv:AVR w Im hd vv v)
 {next:St->Option ρ} {r:ρ} (hn:aMapSet E σ T x k v next=some r):∃w' τ bl',(Instr.mapUpdate T vx vk vv).run P w= .ok () w' /\SRi w0 S0 τ a w' Im hd bl' /\next τ=some r:=by
 unfold aMapSet at hn
 split at hn
 ·rename_i c s bb hT
  obtain⟨hbb,hn⟩:=zb hn
  subst hbb
  split at hn
  ·rename_i l hc
   obtain⟨d0,h1,⟨kt,et,i,rfl,h2,h3,h4⟩,_⟩:=hE T _ hT
   obtain⟨b,e1,e3,es,ck,e2,e4⟩:=h.objs c _ hc
   have ev:vx= .map (some b):=(show vx=hd c from hx).trans e1
   have ek:vk= .string s:=Wg hk
   have evv:vv= .bool true:=gu hv
   subst ev;subst ek;subst evv
   obtain⟨f1,f2⟩:=Sy s es.toList l 0 e4
   have hmine:=((h.own c _ hc).2 b (by rw[e3];simp)).1
   have done:∀(es' :Array MapEntry) (ck' :Nat) (l' :List ByteArray),es'.toList.map (fun e=>(e.key,e.val))=l'.map (fun s=>(Value.string s,Value.bool true))->
    ∃bl',SRi w0 S0 { σ with ob:=yt σ.ob c (.mp l')} a (LA w b (.map es' ck')) Im hd bl' :=by
    intro es' ck' l' he
    refine⟨_,h.obj (L:=[b]) hc (fun y _ hy=>fm (fun e=>hy (by rw[e3,e];simp))) (by rw[YL];exact zgC _)
     ⟨h.below.os,h.below.tape,h.below.output,by rw[YL];exact h.below.size,fun y hy hn=>by rw[fm (fun e=>hn (by subst e;exact hmine))];exact h.below.block y hy hn,h.below.drawn⟩
     (fun _ x=>x) (fun b hb=> .inl hb) (by simp) (fun y hy=>by rw[e3];exact hy) ⟨b,e1,rfl,es',ck',Gm e2,he⟩⟩
   cases hm:YR l s with
   |true=>
    rw[hm,zgJ]at hn
    obtain⟨j,e,g1,g2,g3,g4⟩:=f1 hm
    rw[Nat.zero_add]at g1
    have hge:(es[j]?).map (·.key)=some (.string s):=by rw[<-zgX,g2];simp[g3]
    have hkt:(Instr.keyThatStays (((es[j]?).map (·.key)).getD (.string s)) (.string s)).run P w= .ok (.string s) w:=by
     rw[hge]
     simp[Instr.keyThatStays,Instr.sameBits,GZ]
    obtain⟨bl',d1⟩:=done (es.modify j fun e=> { e with key:= .string s,val:= .bool true}) ck l (by rw[Array.toList_modify,KN g2 (by rw[g3,g4])];exact e4)
    refine⟨_,_,bl', ?_,d1,hn⟩
    unfold Instr.mapUpdate
    simp only[run_underlying h1,Sem.run_bind,Result.andThen_ok,uS e2,fj h2,run_underlying h2,Instr.findKey,g1,Sem.run_pure,hkt,Ul _ e2]
   |false=>
    rw[hm,zgK]at hn
    obtain⟨bl',d1⟩:=done (es.push { key:= .string s,val:= .bool true,born:=ck}) (ck+1) (l++[s]) (by rw[Array.toList_push,List.map_append,e4,List.map_append];rfl)
    refine⟨_,_,bl', ?_,d1,hn⟩
    unfold Instr.mapUpdate
    simp only[run_underlying h1,Sem.run_bind,Result.andThen_ok,uS e2,fj h2,run_underlying h2,Instr.findKey,f2 hm,Sem.run_pure,Ul _ e2]
  ·cases hn
 ·cases hn
theorem BN {E:Env}{T:Nat}(h:E.isIm T=true):E.ty T=some .imap:=by
 unfold Env.isIm at h
 split at h
 ·assumption
 ·cases h
theorem eZ {kt:Nat}{n:Int}(hk:P.underlying kt=some (.int .i64))(e:Bool)(w:World):(Instr.checkKey e 10000 kt (.int .i64 n)).run P w= .ok () w:=by
 show(Instr.checkKey e (9999+1) kt (.int .i64 n)).run P w=_
 unfold Instr.checkKey
 simp[run_underlying hk]
theorem PZ {S:Nat->Prop}(n:Int):∀(es:List MapEntry) (l:List (Int×List Int)) (i:Nat),IEnt w S es l->
 (∀xs,ua l n=some xs->∃j e,Instr.findNow (.int .i64) (.int .i64 n) es i=some (some (i+j,e.val))/\es[j]? =some e/\e.key= .int .i64 n/\VR w S (.slice (.int .i64)) xs [e.val])/\(ua l n=none->Instr.findNow (.int .i64) (.int .i64 n) es i=some none)
 | [],[],i,_=>⟨fun _ h=>(by cases h),fun _=>rfl⟩
 | [],_::_,i,h=>h.elim
 |_::_,[],i,h=>h.elim
 |e::es,(m,ys)::l,i,h=>by
  obtain⟨h1,h2,h3⟩:=h
  obtain⟨ih1,ih2⟩:=PZ n es l (i+1) h3
  have hs:Instr.sameNow (.int .i64) (.int .i64 n) e.key=some (n==m):=by rw[h1];rfl
  unfold ua Instr.findNow
  rw[hs]
  cases hb:n==m with
  |true=>
   have hnm:n=m:=eq_of_beq hb
   refine⟨fun xs hx=> ?_,fun h=>(by cases h)⟩
   rw[zgJ]at hx
   cases hx
   exact⟨0,e,rfl,rfl,by rw[h1,hnm],h2⟩
  |false=>
   refine⟨fun xs hx=> ?_,fun hx=>ih2 hx⟩
   obtain⟨j,e',g1,g2,g3,g4⟩:=ih1 xs hx
   exact⟨j+1,e',by show Instr.findNow (.int .i64) (.int .i64 n) es (i+1)=_;rw[g1,Nat.add_assoc,Nat.add_comm 1 j],by simpa using g2,g3,g4⟩
theorem IEnt.push {S:Nat->Prop}{n:Int}{xs:List Int}{u:MapEntry}(h1:u.key= .int .i64 n)(h2:VR w S (.slice (.int .i64)) xs [u.val]):∀ {es:List MapEntry} {l:List (Int×List Int)},IEnt w S es l->ua l n=none->IEnt w S (es++[u]) (X8 l n xs)
 | [],[],_,_=>⟨h1,h2,trivial⟩
 | [],_::_,h,_=>h.elim
 |_::_,[],h,_=>h.elim
 |e::es,(m,ys)::l,h,hg=>by
  obtain⟨k1,k2,k3⟩:=h
  unfold ua at hg
  unfold X8
  cases hb:n==m with
  |true=>rw[hb]at hg;cases hg
  |false=>
   rw[hb,zgK]at hg
   exact⟨k1,k2,IEnt.push h1 h2 k3 hg⟩
theorem IEnt.put {S:Nat->Prop}{n:Int}{xs:List Int}{f:MapEntry->MapEntry}(hk:∀e,e.key= .int .i64 n->(f e).key= .int .i64 n)(hv:∀e,VR w S (.slice (.int .i64)) xs [(f e).val]):∀ {es:List MapEntry} {l:List (Int×List Int)} {i j:Nat} {v:Value},IEnt w S es l->Instr.findNow (.int .i64) (.int .i64 n) es i=some (some (i+j,v))->IEnt w S (es.modify j f) (X8 l n xs)
 | [],_,i,j,v,_,hg=>by cases hg
 |_::_,[],_,_,_,h,_=>h.elim
 |e::es,(m,ys)::l,i,j,v,h,hg=>by
  obtain⟨k1,k2,k3⟩:=h
  have hs:Instr.sameNow (.int .i64) (.int .i64 n) e.key=some (n==m):=by rw[k1];rfl
  unfold Instr.findNow at hg
  rw[hs]at hg
  unfold X8
  cases hb:n==m with
  |true=>
   rw[hb]at hg
   have hj:j=0:=by simp at hg;omega
   subst hj
   have hnm:n=m:=eq_of_beq hb
   exact⟨by rw[<-hnm];exact hk e (by rw[k1,hnm]),hv e,k3⟩
  |false=>
   rw[hb]at hg
   have hgt:∀(es:List MapEntry) (i k:Nat) (v:Value),Instr.findNow (.int .i64) (.int .i64 n) es i=some (some (k,v))->i<=k:=by
    intro es
    induction es with
    |nil=>intro i k v h;cases h
    |cons e es ih=>
     intro i k v h
     unfold Instr.findNow at h
     split at h
     ·cases h;exact zgC _
     ·have:=ih _ _ _ h;omega
     ·cases h
   have hi:=hgt es (i+1) (i+j) v hg
   obtain⟨j',rfl⟩:∃j',j=j' +1:=⟨j-1,by omega⟩
   rw[List.modify_succ_cons]
   exact⟨k1,k2,IEnt.put hk hv k3 (i:=i+1) (j:=j') (v:=v) (by rw[show i+1+j' =i+(j' +1) by omega];exact hg)⟩
theorem zdH {E:Env}(hE:∀T ti,E.ty T=some ti->TyOk P T ti)(h:SRi w0 S0 σ a w Im hd bl){T:Nat}(hT:E.ty T=some .imap){x k:AV}{vx vk:Value}{ok:Bool}(hx:AVR w Im hd vx x)(hk:AVR w Im hd vk k)
 {next:AV->Option ρ} {r:ρ} (hn:aILook σ x k ok next=some r):∃u av,(Instr.lookup T vx vk ok).run P w= .ok u w/\AVR w Im hd u av/\next av=some r:=by
 unfold aILook at hn
 obtain⟨kt,et,i,hu,h2,h3,h4⟩:=hE T _ hT
 split at hn
 ·rename_i c n
  split at hn
  ·rename_i l hc
   obtain⟨b,es,ck,e1,e3,e2,e4⟩:=h.objs c _ hc
   have ev:vx= .map (some b):=(show vx=hd c from hx).trans e1
   have ek:vk= .int .i64 n:=(List.cons.inj (show [vk]=[.int .i64 n]from hk)).1
   subst ev;subst ek
   obtain⟨f1,f2⟩:=PZ n es.toList l 0 e4
   have fin:∀(v:Value) (xs:List Int) (q:Bool),VR w Im (.slice (.int .i64)) xs [v]->(Instr.lookup T (.map (some b)) (.int .i64 n) ok).run P w= .ok (if ok then .tuple #[v, .bool q]else v) w->
    next (bif ok then .tup [(false,[.val (.slice (.int .i64)) xs]),(false,[.val .bool q])]else .cv (.val (.slice (.int .i64)) xs))=some r->∃u av,(Instr.lookup T (.map (some b)) (.int .i64 n) ok).run P w= .ok u w/\AVR w Im hd u av/\next av=some r:=by
    intro v xs q hv hr hnx
    cases ok with
    |true=>
     refine⟨.tuple #[v, .bool q],_,hr, ?_,hnx⟩
     exact⟨[v, .bool q],rfl,hv,(show VR w Im .bool q [.bool q]from rfl),trivial⟩
    |false=>exact⟨v, .cv (.val (.slice (.int .i64)) xs),hr,hv,hnx⟩
   cases hg:ua l n with
   |some xs=>
    rw[hg]at hn
    obtain⟨j,e,g1,_,_,g4⟩:=f1 xs hg
    refine fin e.val xs true g4 ?_ hn
    unfold Instr.lookup
    simp only[Sem.run_bind,run_underlying hu,Result.andThen_ok,uS e2,Sem.run_pure,eZ h2,Instr.findKey,run_underlying h2,g1]
   |none=>
    rw[hg]at hn
    refine fin (.slice none 0 0) [] false ⟨none,0,rfl,zgC _, .inl rfl⟩ ?_ hn
    unfold Instr.lookup
    simp only[Sem.run_bind,run_underlying hu,Result.andThen_ok,uS e2,Sem.run_pure,eZ h2,Instr.findKey,run_underlying h2,f2 hg,MS h3 h4]
  ·cases hn
 ·cases hn
theorem zao {E:Env}(hE:∀T ti,E.ty T=some ti->TyOk P T ti)(h:SRi w0 S0 σ a w Im hd bl){T:Nat}(hT:E.ty T=some .imap){x k v:AV}{vx vk vv:Value}(hx:AVR w Im hd vx x)(hk:AVR w Im hd vk k)(hv:AVR w Im hd vv v)
 {next:St->Option ρ} {r:ρ} (hn:aISet σ x k v next=some r):∃w' τ bl',(Instr.mapUpdate T vx vk vv).run P w= .ok () w' /\SRi w0 S0 τ a w' Im hd bl' /\next τ=some r:=by
 unfold aISet at hn
 obtain⟨kt,et,i,hu,h2,h3,h4⟩:=hE T _ hT
 split at hn
 ·rename_i c n
  split at hn
  ·rename_i l hc
   obtain⟨b,es,ck,e1,e3,e2,e4⟩:=h.objs c _ hc
   have ev:vx= .map (some b):=(show vx=hd c from hx).trans e1
   have ek:vk= .int .i64 n:=(List.cons.inj (show [vk]=[.int .i64 n]from hk)).1
   subst ev;subst ek
   have hmine:=((h.own c _ hc).2 b (by rw[e3];simp)).1
   have hnb:∀y,Im y->y≠b:=fun y hy e=>((h.own c _ hc).2 b (by rw[e3];simp)).2.2 (e▸hy)
   have main:∀xs,VR w Im (.slice (.int .i64)) xs [vv]->next { σ with ob:=yt σ.ob c (.im (X8 l n xs))}=some r->
    ∃w' τ bl',(Instr.mapUpdate T (.map (some b)) (.int .i64 n) vv).run P w= .ok () w' /\SRi w0 S0 τ a w' Im hd bl' /\next τ=some r:=by
    intro xs hxs hnx
    have done:∀(es' :Array MapEntry) (ck' :Nat),IEnt w Im es'.toList (X8 l n xs)->∃bl',SRi w0 S0 { σ with ob:=yt σ.ob c (.im (X8 l n xs))} a (LA w b (.map es' ck')) Im hd bl' :=by
     intro es' ck' he
     have hsame:Same Im w (LA w b (.map es' ck')):=fun y hy=>fm (hnb y hy)
     refine⟨_,h.obj (L:=[b]) hc (fun y _ hy=>fm (fun e=>hy (by rw[e3,e];simp))) (by rw[YL];exact zgC _)
      ⟨h.below.os,h.below.tape,h.below.output,by rw[YL];exact h.below.size,fun y hy hn=>by rw[fm (fun e=>hn (by subst e;exact hmine))];exact h.below.block y hy hn,h.below.drawn⟩
      (fun _ x=>x) (fun b hb=> .inl hb) (by simp) (fun y hy=>by rw[e3];exact hy) ⟨b,es',ck',e1,rfl,Gm e2,he.mono hsame (fun _ x=>x)⟩⟩
    obtain⟨f1,f2⟩:=PZ n es.toList l 0 e4
    cases hg:ua l n with
    |some ys=>
     obtain⟨j,e,g1,g2,g3,g4⟩:=f1 ys hg
     have g1' :=g1
     rw[Nat.zero_add]at g1
     have hge:(es[j]?).map (·.key)=some (.int .i64 n):=by rw[<-zgX,g2];simp[g3]
     have hkt:(Instr.keyThatStays (((es[j]?).map (·.key)).getD (.int .i64 n)) (.int .i64 n)).run P w= .ok (.int .i64 n) w:=by
      rw[hge]
      simp[Instr.keyThatStays,Instr.sameBits]
     obtain⟨bl',d1⟩:=done (es.modify j fun e=> { e with key:= .int .i64 n,val:=vv}) ck (by rw[Array.toList_modify];exact IEnt.put (fun _ _=>rfl) (fun _=>hxs) e4 g1')
     refine⟨_,_,bl', ?_,d1,hnx⟩
     unfold Instr.mapUpdate
     simp only[run_underlying hu,Sem.run_bind,Result.andThen_ok,uS e2,eZ h2,run_underlying h2,Instr.findKey,g1,Sem.run_pure,hkt,Ul _ e2]
    |none=>
     obtain⟨bl',d1⟩:=done (es.push { key:= .int .i64 n,val:=vv,born:=ck}) (ck+1) (by rw[Array.toList_push];exact IEnt.push rfl hxs e4 hg)
     refine⟨_,_,bl', ?_,d1,hnx⟩
     unfold Instr.mapUpdate
     simp only[run_underlying hu,Sem.run_bind,Result.andThen_ok,uS e2,eZ h2,run_underlying h2,Instr.findKey,f2 hg,Sem.run_pure,Ul _ e2]
   split at hn
   ·have hv' :vv= .slice none 0 0:=hv
    exact main [] (by rw[hv'];exact⟨none,0,rfl,zgC _, .inl rfl⟩) hn
   ·rename_i xs
    exact main xs hv hn
   ·cases hn
  ·cases hn
 ·cases hn
theorem zfs {y:Operand}(h:nilC y=true):y= .const .nilIface:=by
 unfold nilC at h
 split at h
 ·rfl
 ·cases h
theorem B0 {T:Nat}{ms:Array (String×TypeId)}(hu:P.underlying T=some (.interface ms))(v:Value)(b:Bool)(hv:ErrV v b)(w:World)(d:Nat):(Op.equalIn (d+1) T v .nilIface).run P w= .ok b w:=by
 cases v<;>simp[ErrV]at hv
 ·subst hv;simp[Op.equalIn,run_underlying hu]
 ·subst hv;simp[Op.equalIn,run_underlying hu]
theorem Uz {T:Nat}{ms:Array (String×TypeId)}(hu:P.underlying T=some (.interface ms))(v:Value)(b:Bool)(hv:ErrV v b)(w:World):(Op.equal T v .nilIface).run P w= .ok b w:=B0 hu v b hv w 9999
theorem errGuard (op:BinOp)(T:Nat)(X:Operand)(v:Value)(b:Bool)(hv:ErrV v b):eqGuard op T X (.const .nilIface) v .nilIface=pure ():=by
 cases v<;>simp[ErrV]at hv<;>cases op<;>simp[eqGuard]
theorem zbN {E:Env}(hE:∀T ti,E.ty T=some ti->TyOk P T ti){op:BinOp}{T:Nat}{X Y:Operand}(hY:nilC Y=true){x:AV}{vx:Value}(hx:AVR w Im hd vx x){next:AV->Option ρ}{r:ρ}(hn:aErrNil E op T x next=some r):
 ∃u av,(do eqGuard op T X Y vx (a.eval Y);Go.binOp op T vx (a.eval Y):Sem Value).run P w= .ok u w/\AVR w Im hd u av/\next av=some r:=by
 obtain rfl:=zfs hY
 unfold aErrNil at hn
 split at hn
 ·rename_i b hT
  obtain⟨d,hu,⟨ms,rfl⟩,_⟩:=hE T _ hT
  obtain⟨v,e,hv⟩:=(show VR w Im .err b [vx]from hx)
  obtain rfl:vx=v:=by simpa using e
  refine⟨.bool b,_, ?_,bvr,hn⟩
  show(do eqGuard .eql T X (.const .nilIface) vx .nilIface;Go.binOp .eql T vx .nilIface:Sem Value).run P w=_
  rw[errGuard _ _ _ _ _ hv]
  cases vx<;>simp[ErrV]at hv
  ·subst hv;simp[Go.binOp,Uz hu (.iface _ _) false rfl]
  ·subst hv;simp[Go.binOp,Uz hu .nilIface true rfl]
 ·rename_i b hT
  obtain⟨d,hu,⟨ms,rfl⟩,_⟩:=hE T _ hT
  obtain⟨v,e,hv⟩:=(show VR w Im .err b [vx]from hx)
  obtain rfl:vx=v:=by simpa using e
  refine⟨.bool (!b),_, ?_,bvr,hn⟩
  show(do eqGuard .neq T X (.const .nilIface) vx .nilIface;Go.binOp .neq T vx .nilIface:Sem Value).run P w=_
  rw[errGuard _ _ _ _ _ hv]
  cases vx<;>simp[ErrV]at hv
  ·subst hv;simp[Go.binOp,Uz hu (.iface _ _) false rfl]
  ·subst hv;simp[Go.binOp,Uz hu .nilIface true rfl]
 ·cases hn
theorem zdD {E:Env}(hE:∀T ti,E.ty T=some ti->TyOk P T ti){ck:(fi:Fi)->Aden fi.ps->Option (Oden (zm fi.rs) (ioOf fi.ps))}(hG:∀f ids fi,E.fn f ids=some fi->∀x y,ck fi x=some y->Gives P gw f fi x y)
 (h:SRi w0 S0 σ a w Im hd bl) {o:Oper} {next:St->Option ρ} {r:ρ} (hn:aOp E σ ck o next=some r):o.wp P a w (Goes w0 S0 next r) Q:=by
 unfold aOp at hn
 cases ho:o.op with
 |move x=>
  rw[ho]at hn
  exact yH h (h.ev x) (by simp[execOp,ho]) hn
 |assign x=>
  rw[ho]at hn
  exact yH h (h.ev x) (by simp[execOp,ho]) hn
 |pick c x y=>
  rw[ho]at hn
  dsimp only at hn
  split at hn
  ·rename_i b hb
   have hc:=h.ev c
   rw[hb]at hc
   have ec:=gu hc
   cases b with
   |true=>exact yH h (h.ev x) (by simp[execOp,ho,ec,asBool]) hn
   |false=>exact yH h (h.ev y) (by simp[execOp,ho,ec,asBool]) hn
  ·cases hn
 |alloc T=>
  rw[ho]at hn
  obtain⟨d,hd1,hd2,hd5,hn⟩:=M6 hn
  rw[hd2]at hn
  exact QI hE h ho hd1 hd5 hn
 |box T x=>
  rw[ho]at hn
  obtain⟨d,hd1,hd2,hd5,hn⟩:=M6 hn
  rw[hd2]at hn
  exact zdJ (E:=E) h ho hd1 hd5 hn
 |build T ps=>
  rw[ho]at hn
  dsimp only at hn
  split at hn
  ·rename_i fs ks eq hT
   split at hn
   ·rename_i av hb
    obtain⟨v,h1,h2⟩:=Bb hE h hT hb
    exact yH h h2 (by simp[execOp,ho,h1]) hn
   ·cases hn
  ·cases hn
 |buildSlice T n ps=>
  rw[ho]at hn
  obtain⟨d,hd1,hd2,hd5,hn⟩:=M6 hn
  rw[hd2]at hn
  exact TM hE h ho hd1 hd5 hn
 |load T x=>
  rw[ho]at hn
  dsimp only at hn
  have old:(aLoad E σ T (σ.ev x) fun τ v=>next (τ.put o.dst v))=some r->o.wp P a w (Goes w0 S0 next r) Q:=fun hn=>by
   obtain⟨u,τ,av,Im',bl',h1,h2,h3,h4⟩:=zan hE h (h.ev x) hn
   exact yO (by simp[execOp,ho,h1]) ⟨_,h4,Im',hd,bl',h2.put o.dst h3⟩
  unfold aTake at hn
  split at hn
  ·rename_i d c m i o' hd1 he
   cases hfl:Env.flag E (X0 T d)with
   |true=>
    rw[hfl,zgJ]at hn
    have hx:=h.ev x
    rw[he]at hx
    rcases zfR hE h hx hn with⟨u,τ,av,hd',bl',h1,h2,h3,h4⟩|hn
    ·refine yO (v:=u) (w' :=w) (by simp[execOp,ho,h1]) ⟨_,h4,Im,hd',bl', ?_⟩
     rw[hd1]
     exact h2.put (some d) h3
    ·exact old hn
   |false=>
   rw[hfl,zgK]at hn
   split at hn
   ·rename_i t xs cn n agg hc hT
    cases hb:takesB c with
    |false=>rw[hb,zgK]at hn;exact old hn
    |true=>
     rw[hb,zgJ]at hn
     obtain⟨h1,hn1⟩:=zb hn
     obtain⟨h2,hn2⟩:=zb hn1
     clear hn hn1
     simp only[zgx,Bool.not_eq_true']at h1
     obtain⟨⟨⟨⟨⟨q1,q2⟩,q3⟩,q4⟩,q5⟩,q6⟩:=h1
     obtain rfl:=zgE q1
     obtain rfl:=zgE q2
     obtain rfl:=zgE q3
     subst q4
     have hcd:c≠d:=fun e=>by rw[e,Nat.beq_refl]at q5;cases q5
     have hi:=zgw h2
     obtain⟨⟨i0,hi0,hsz⟩,hagg,_⟩:=aW hE hT
     have hx:=h.ev x
     rw[he]at hx
     obtain⟨b2,f2,k0,hv⟩:=hx
     obtain⟨b,f0,cap,cur,F,u,k1,k2,k3,k4,hd',bl',k5,k6⟩:=h.dig_ hc hcd (TJ q6) hi
     rw[wi k1]at k0;cases k0
     have hat:At w b2 (f2+i*1+0) [u]:=by
      have h3:=ud k2 (f2+i*1+0) 1
      rw[Nat.mul_one,Nat.add_zero]at h3⊢
      rw[<-List.drop_drop,TO k3]at h3
      exact h3
     have hrun:(Instr.loadAt T (a.eval x)).run P w= .ok u w:=by rw[hv];exact x7 (P:=P) hat hi0 hsz hagg (fun _=>rfl)
     refine yO (v:=u) (w' :=w) (by simp[execOp,ho,hrun]) ⟨_,hn2,Im,hd',bl', ?_⟩
     rw[hd1]
     exact k5.put (some d) (av:= .cv (.own d)) (show u=hd' d from k6.symm)
   ·rename_i p q xs cn n agg hc hT
    cases hb:takesB c with
    |false=>rw[hb,zgK]at hn;exact old hn
    |true=>
     rw[hb,zgJ]at hn
     obtain⟨h1,hn1⟩:=zb hn
     obtain⟨h2,hn2⟩:=zb hn1
     clear hn hn1
     simp only[zgx]at h1
     obtain⟨⟨q1,q2⟩,q3⟩:=h1
     obtain rfl:=zgE q1
     have q2:=zgZ q2
     have hi:=zgw h2
     obtain⟨⟨i0,hi0,hsz⟩,hagg,hag1⟩:=aW hE hT
     have hx:=h.ev x
     rw[he]at hx
     obtain⟨b2,f2,k0,hv⟩:=hx
     obtain⟨b,f0,cap,cur,F,cs,k1,k2,k3,k4,hd',bl',k5,k6⟩:=h.digS_ hc (zgZ hb) (by simpa[Nat.blt_eq]using q3) hi
     rw[wi k1]at k0;cases k0
     have hl:((cs.drop o').take n).length=n:=by rw[zgL,zgR,k4];omega
     have hat:At w b2 (f2+i*(Ty.pair p q).sz+o') ((cs.drop o').take n):=fun j u hj=>by
      rw[List.getElem?_take]at hj
      split at hj
      ·rw[List.getElem?_drop,k3]at hj
       have:=ud k2 (f2+i*(Ty.pair p q).sz) (Ty.pair p q).sz (o' +j) u hj
       rwa [<-Nat.add_assoc]at this
      ·cases hj
     have hrun:=x7 (P:=P) hat hi0 (by rw[hl];exact hsz) hagg (fun e=>by rw[hl];exact hag1 e)
     rw[<-hv]at hrun
     refine yO (v:=xw agg ((cs.drop o').take n)) (w' :=w) (by simp[execOp,ho,hrun]) ⟨_,hn2,Im,hd',bl', ?_⟩
     rw[hd1]
     exact k5.put (some d) (xx ((k6.drop o').take n))
   ·exact old hn
  ·exact old hn
 |store T x v=>
  rw[ho]at hn
  obtain⟨w',h1,τ,h2,Im',hd',bl',h3⟩:=C8 hE h (h.ev x) (h.ev v) hn
  exact V8 (w' :=w') (by simp[execOp,ho,h1]) ⟨_,h2,Im',hd',bl',h3.put o.dst (av:= .cv .dead) trivial⟩
 |nilCheck x=>
  rw[ho]at hn
  dsimp only at hn
  have hx:=h.ev x
  split at hn
  ·rename_i c o' he
   rw[he]at hx
   obtain⟨b,e1,e2⟩:=hx
   exact yH h (av:= .adr c o') ⟨b,e1,rfl⟩ (by simp[execOp,ho,e2]) hn
  ·rename_i c n i o' he
   rw[he]at hx
   obtain⟨b,f1,e1,e2⟩:=hx
   exact yH h (av:= .el c n i o') ⟨b,f1,e1,rfl⟩ (by simp[execOp,ho,e2]) hn
  ·rename_i l he
   rw[he]at hx
   have hx' :=hx
   obtain⟨pl,b,o',vs,hb,e2,_⟩:=hx
   exact yH h hx' (by simp[execOp,ho,e2]) hn
  ·rename_i f l he
   rw[he]at hx
   have hx' :=hx
   obtain⟨ps,e1,_⟩:=hx
   exact yH h hx' (by simp[execOp,ho,e1]) hn
  ·cases hn
 |binOp op T x y U=>
  rw[ho]at hn
  obtain⟨v,av,h1,h2,h3⟩:∃u av,(do eqGuard op T x y (a.eval x) (a.eval y);Go.binOp op T (a.eval x) (a.eval y):Sem Value).run P w= .ok u w/\AVR w Im hd u av/\next (σ.put o.dst av)=some r:=by
   dsimp only at hn
   cases hc:nilC y with
   |true=>
    rw[hc,zgJ]at hn
    obtain⟨u,av,h1,h2,h3⟩:=zbN hE hc (h.ev x) hn
    exact⟨u,av,h1,h2,h3⟩
   |false=>
    rw[hc,zgK]at hn
    exact zdK hE h (X:=x) (Y:=y) (h.ev x) (h.ev y) hn
  refine yH h h2 ?_ h3
  have e:execOp a.eval o=(do let u<-(do eqGuard op T x y (a.eval x) (a.eval y);Go.binOp op T (a.eval x) (a.eval y):Sem Value);pure (Next.value u)):=by unfold execOp;rw[ho]
  rw[e,Sem.run_bind,h1]
  rfl
 |unOp op T x=>
  rw[ho]at hn
  dsimp only at hn
  split at hn
  ·rename_i av hav
   obtain⟨u,h1,h2⟩:=zfb (P:=P) (h.ev x) hav
   exact yH h h2 (by simp[execOp,ho,h1]) hn
  ·cases hn
 |convert S D x=>
  rw[ho]at hn
  obtain⟨u,av,h1,h2,h3⟩:=zap hE h (h.ev x) hn
  exact yH h h2 (by simp[execOp,ho,h1]) h3
 |makeFunc fn first caps=>
  rw[ho]at hn
  cases fn with
  |func f=>
   obtain⟨h1,hnn⟩:=zb hn
   clear hn
   have hn:=hnn
   clear hnn
   have hfirst:first= #[]:=by simpa using h1
   subst hfirst
   cases hfl:Env.flag E (X0 f (o.dst.getD 0))with
   |true=>
    rw[hfl,zgJ]at hn
    split at hn
    ·rename_i l hc
     have g3:=UE h hc
     refine yO (v:= .func (.func f) #[] (caps.map a.eval)) (w' :=w) (by simp[execOp,ho,Instr.makeFunc]) ⟨_,hn,Im,hd,bl,h.put o.dst ?_⟩
     exact⟨caps.toList.map a.eval,by congr 1;apply Array.ext';simp,g3⟩
    ·cases hn
   |false=>
   rw[hfl,zgK]at hn
   split at hn
   ·rename_i τ l hc
    obtain⟨Im',g1,g2,g3⟩:=P6 h hc
    refine yO (v:= .func (.func f) #[] (caps.map a.eval)) (w' :=w) (by simp[execOp,ho,Instr.makeFunc]) ⟨_,hn,Im',hd,bl,g1.put o.dst ?_⟩
    exact⟨caps.toList.map a.eval,by congr 1;apply Array.ext';simp,RefRs.capAs g3⟩
   ·cases hn
  |_=>cases hn
 |makeSlice T n c=>
  rw[ho]at hn
  obtain⟨d,hd1,hd2,hd5,hn⟩:=M6 hn
  rw[hd2]at hn
  exact QH hE h ho hd1 hd5 hn
 |slice T x lo hi mx=>
  rw[ho]at hn
  obtain⟨h1,hn⟩:=zb hn
  rw[zgx]at h1
  obtain⟨d,hd1⟩:=Option.isSome_iff_exists.1 h1.1
  rw[hd1]at hn
  exact zdC hE h ho hd1 (by simpa using h1.2) hn
 |fieldAddr T x f=>
  rw[ho]at hn
  dsimp only at hn
  split at hn
  ·rename_i off n agg hf
   obtain⟨h1,hn⟩:=zb hn
   have h1' :=zgZ h1
   have hr:=fun b o' =>Sd (P:=P) hE hf h1' b o' w
   have hx:=h.ev x
   split at hn
   ·rename_i c o' he
    rw[he]at hx
    obtain⟨b,e1,e2⟩:=hx
    exact yH h (av:= .adr c (o' +off)) ⟨b,e1,rfl⟩ (by simp[execOp,ho,e2,hr]) hn
   ·rename_i c m i o' he
    rw[he]at hx
    obtain⟨b,f1,e1,e2⟩:=hx
    exact yH h (av:= .el c m i (o' +off)) ⟨b,f1,e1,rfl⟩ (by simp[execOp,ho,e2,hr,Nat.add_assoc]) hn
   ·rename_i l he
    rw[he]at hx
    obtain⟨pl,b,o',vs,hb,e2,hat,hcs⟩:=hx
    refine yH h (av:= .ref (l.drop off)) (v:= .pointer (some ⟨b,o' +off,none⟩)) ⟨Pq pl off,b,o' +off,vs.drop off,hb,rfl, ?_,hcs.drop off⟩ (by simp[execOp,ho,e2,hr]) hn
    intro j v hj
    rw[List.getElem?_drop]at hj
    have:=hat (off+j) v hj
    rwa [<-Nat.add_assoc]at this
   ·cases hn
  ·cases hn
 |field T x f=>
  rw[ho]at hn
  dsimp only at hn
  split at hn
  ·rename_i off n agg l hf he
   obtain⟨h1,hn⟩:=zb hn
   have hx:=h.ev x
   rw[he]at hx
   obtain⟨vs,e1,hvs⟩:=hx
   obtain⟨u,h2,h3⟩:=DE (P:=P) hE hf hvs (zgZ h1)
   exact yH h h3 (by simp[execOp,ho,e1,h2]) hn
  ·cases hn
 |indexAddr T x i=>
  rw[ho]at hn
  dsimp only at hn
  split at hn
  ·rename_i z hz
   obtain⟨k,ek⟩:=V3 (h.ev i) hz
   obtain⟨u,av,h1,h2,h3⟩:=Xo (k:=k) hE h (h.ev x) hn
   exact yH h h2 (by simp[execOp,ho,ek,h1]) h3
  ·cases hn
 |index T x i=>
  rw[ho]at hn
  dsimp only at hn
  split at hn
  ·rename_i z hz
   obtain⟨k,ek⟩:=V3 (h.ev i) hz
   obtain⟨u,av,h1,h2,h3⟩:=N4 (k:=k) hE (h.ev x) hn
   exact yH h h2 (by simp[execOp,ho,ek,h1]) h3
  ·cases hn
 |extract x i=>
  rw[ho]at hn
  dsimp only at hn
  split at hn
  ·rename_i l he
   have hx:=h.ev x
   rw[he]at hx
   obtain⟨vs,e1,hvs⟩:=hx
   split at hn
   ·rename_i p hp
    obtain⟨v,h1,h2⟩:=hvs.get i p hp
    exact yH h h2.avr (by simp[execOp,ho,e1,Kl h1]) hn
   ·cases hn
  ·cases hn
 |call c=>
  rw[ho]at hn
  dsimp only at hn
  split at hn
  ·
   rename_i b hb
   have hop:execOp a.eval o=(do let d<-(pure { target:= .builtin b c.argTypes o.type (c.args.map fun| .const _=>true|_=>false),args:=c.args.map a.eval}:Sem Deferred);invoke d.target d.args):=by
    unfold execOp;rw[ho];simp only[resolve,hb];rfl
   split at hn
   ·rename_i x hx
    split at hn
    ·rename_i T ts hT
     obtain⟨u,av,h1,h2,h3⟩:=zdF (ts:=ts) (ty:=o.type) hE h (h.ev x) hn
     refine yH h h2 ?_ h3
     rw[<-hT]at h1
     have hm:c.args.map a.eval= #[a.eval x]:=by apply Array.ext';simp[hx]
     rw[hop]
     simp only[Sem.run_bind,Sem.run_pure,Result.andThen_ok,invoke,builtin,hm]
     rw[Array.toArray_toList]at h1
     rw[h1];rfl
    ·cases hn
   ·rename_i x hx
    split at hn
    ·rename_i hnil
     split at hn
     ·rename_i T ts hT
      split at hn
      ·rename_i t hTy
       have hv:=h.ev x
       rw[hnil]at hv
       have ex:a.eval x= .slice none 0 0:=hv
       obtain⟨e,hu,_⟩:=yB hE hTy
       refine yH h (av:= .cv (.val (.int .i64) (0:Int))) (v:= .int .i64 0) ivr ?_ hn
       have hm:c.args.map a.eval= #[a.eval x]:=by apply Array.ext';simp[hx]
       have ha:c.argTypes=(T::ts).toArray:=by apply Array.ext';simpa using hT
       rw[hop]
       simp only[Sem.run_bind,Sem.run_pure,Result.andThen_ok,invoke,builtin,hm,ha,ex]
       simp[Builtin.cap_,run_underlying hu,goInt]
      ·cases hn
     ·cases hn
    ·cases hn
   ·rename_i x y hx
    split at hn
    ·rename_i T U hT
     obtain⟨h0,hnn⟩:=zb hn
     clear hn
     have hn:=hnn
     clear hnn
     rw[zgx]at h0
     obtain rfl:=zgE h0.2
     obtain⟨d,hd1,hd5⟩:=Ps h0.1
     rw[hd1]at hn
     obtain⟨Im0,hd0,bl0,h⟩:=zbm (⟨Im,hd,bl,h⟩:SR w0 S0 σ a w) (σ.ev x)
     obtain⟨v',w',h1,key,τ,h2,Im',hd',bl',h3,h4⟩:=zbQ hE h (h.ev x) (h.ev y) hd5 hn o.type
     have hm:c.args.map a.eval= #[a.eval x,a.eval y]:=by apply Array.ext';simp[hx]
     have ha:c.argTypes= #[T,T]:=by apply Array.ext';simpa using hT
     refine yO (v:=v') (w' :=w') ?_ ⟨_,h2,Im',hd',bl', ?_⟩
     ·rw[hop]
      simp only[Sem.run_bind,Sem.run_pure,Result.andThen_ok,invoke,builtin,hm,ha,h1]
     ·rw[hd1];exact h3.put (some d) (av:= .cv (.own key)) h4.symm
    ·cases hn
   ·rename_i l
    split at hn
    ·rename_i av hav
     obtain⟨x',y',k,m,n,hl,e1,e2,rfl⟩:=UF hav
     match hcl:c.args.toList,hl with
     | [x,y],hl=>
       simp only[List.map_cons,List.map_nil,List.cons.injEq,and_true]at hl
       obtain⟨rfl,rfl⟩:=hl
       have hx:=h.ev x
       have hy:=h.ev y
       rw[e1]at hx
       rw[e2]at hy
       have ex:=jB hx
       have ey:=jB hy
       have hm:c.args.map a.eval= #[a.eval x,a.eval y]:=by apply Array.ext';simp[hcl]
       refine yH h (av:= .cv (.val (.int k) (if n>m then n else m))) (v:= .int k (if n>m then n else m)) ivr ?_ (by simpa[cond_eq_ite]using hn)
       rw[hop]
       simp only[Sem.run_bind,Sem.run_pure,Result.andThen_ok,invoke,builtin,hm,ex,ey,run_max_int2]
    ·cases hn
   ·rename_i l
    split at hn
    ·rename_i av hav
     obtain⟨x',y',k,m,n,hl,e1,e2,rfl⟩:=UF hav
     match hcl:c.args.toList,hl with
     | [x,y],hl=>
       simp only[List.map_cons,List.map_nil,List.cons.injEq,and_true]at hl
       obtain⟨rfl,rfl⟩:=hl
       have hx:=h.ev x
       have hy:=h.ev y
       rw[e1]at hx
       rw[e2]at hy
       have ex:=jB hx
       have ey:=jB hy
       have hm:c.args.map a.eval= #[a.eval x,a.eval y]:=by apply Array.ext';simp[hcl]
       refine yH h (av:= .cv (.val (.int k) (if n<m then n else m))) (v:= .int k (if n<m then n else m)) ivr ?_ (by simpa[cond_eq_ite]using hn)
       rw[hop]
       simp only[Sem.run_bind,Sem.run_pure,Result.andThen_ok,invoke,builtin,hm,ex,ey,run_min_int2]
    ·cases hn
   ·cases hn
  ·
   rename_i f hf
   split at hn
   ·rename_i g caps he
    have hx:=h.ev f
    rw[he]at hx
    obtain⟨ps,e1,hps⟩:=hx
    obtain⟨Im',h',hsub⟩:=zd9 h E g (c.args.toList.map σ.ev)
    have hps' :CapAs w Im' hd ps caps:=by
     have:=CapAs.tell (Tell.keep hd (Same.refl Im w) hsub) hps
     rwa [GX,List.map_id]at this
    refine zeW hG h' (vs:=c.args.toList.map a.eval++ps) (AVs.app (AVs.evs h' _) (AVs.caps hps')) ?_ hn
    have hop:execOp a.eval o=(do let d<-Deferred.ofValue (a.eval f) (c.args.map a.eval);invoke d.target d.args):=by
     unfold execOp;rw[ho];simp only[resolve,hf]
    rw[hop,e1]
    have hargs:c.args.map a.eval++ps.toArray=(c.args.toList.map a.eval++ps).toArray:=by apply Array.ext';simp
    simp[Deferred.ofValue,invoke,hargs]
   ·cases hn
  ·cases hn
 |makeMap T r=>
  rw[ho]at hn
  dsimp only at hn
  obtain⟨h1,hn1⟩:=zb hn
  clear hn
  rw[zgx]at h1
  obtain⟨d,hd1,hd5⟩:=Ps h1.1
  obtain rfl:r=none:=by cases r with|none=>rfl|some _=>exact absurd h1.2 (by simp)
  split at hn1
  ·refine yO (v:= .map (some w.heap.size)) (w' :=w.alloc (.map #[] 0)) (by simp[execOp,ho,Instr.makeMap]) ?_
   have h2:=h.made (w' :=w.alloc (.map #[] 0)) d hd5 (o:= .mp []) (v:= .map (some w.heap.size)) (fun b hb=>vH _ _ _ hb) (vc _ _) (h.below.alloc _)
    ⟨w.heap.size,by simp,rfl, #[],0,jP _ _,rfl⟩
   rw[hd1]at hn1⊢
   refine⟨_,hn1,_,_,_,h2.put (some d) (av:= .cv (.own d)) (show _=_ by simp)⟩
  ·refine yO (v:= .map (some w.heap.size)) (w' :=w.alloc (.map #[] 0)) (by simp[execOp,ho,Instr.makeMap]) ?_
   have h2:=h.made (w' :=w.alloc (.map #[] 0)) d hd5 (o:= .im []) (v:= .map (some w.heap.size)) (fun b hb=>vH _ _ _ hb) (vc _ _) (h.below.alloc _)
    ⟨w.heap.size, #[],0,by simp,rfl,jP _ _,trivial⟩
   rw[hd1]at hn1⊢
   refine⟨_,hn1,_,_,_,h2.put (some d) (av:= .cv (.own d)) (show _=_ by simp)⟩
  ·cases hn1
 |lookup T x k ok=>
  rw[ho]at hn
  dsimp only at hn
  cases hi:E.isIm T with
  |true=>
   rw[hi,zgJ]at hn
   obtain⟨u,av,g1,g2,g3⟩:=zdH hE h (BN hi) (h.ev x) (h.ev k) hn
   exact yH h g2 (by simp[execOp,ho,g1]) g3
  |false=>
  rw[hi,zgK]at hn
  obtain⟨h1,hn1⟩:=zb hn
  obtain rfl:ok=false:=by simpa using h1
  obtain⟨u,av,g1,g2,g3⟩:=zbL hE h (h.ev x) (h.ev k) hn1
  exact yH h g2 (by simp[execOp,ho,g1]) g3
 |mapUpdate T m k x=>
  rw[ho]at hn
  dsimp only at hn
  cases hi:E.isIm T with
  |true=>
   rw[hi,zgJ]at hn
   obtain⟨Im',h',_,_⟩:=wH h (σ.ev x).owns
   obtain⟨w',τ,bl',g1,g2,g3⟩:=zao hE h' (BN hi) (h'.ev m) (h'.ev k) (h'.ev x) hn
   exact V8 (w' :=w') (by simp[execOp,ho,g1]) ⟨_,g3,Im',hd,bl',g2.put o.dst (av:= .cv .dead) trivial⟩
  |false=>
  rw[hi,zgK]at hn
  obtain⟨w',τ,bl',g1,g2,g3⟩:=G2 hE h (h.ev m) (h.ev k) (h.ev x) hn
  exact V8 (w' :=w') (by simp[execOp,ho,g1]) ⟨_,g3,Im,hd,bl',g2.put o.dst (av:= .cv .dead) trivial⟩
 |insert T m k x=>
  rw[ho]at hn
  dsimp only at hn
  cases hi:E.isIm T with
  |true=>
   rw[hi,zgJ]at hn
   obtain⟨Im',h',_,_⟩:=wH h (σ.ev x).owns
   obtain⟨w',τ,bl',g1,g2,g3⟩:=zao hE h' (BN hi) (h'.ev m) (h'.ev k) (h'.ev x) hn
   exact V8 (w' :=w') (by simp[execOp,ho,g1]) ⟨_,g3,Im',hd,bl',g2.put o.dst (av:= .cv .dead) trivial⟩
  |false=>
  rw[hi,zgK]at hn
  obtain⟨w',τ,bl',g1,g2,g3⟩:=G2 hE h (h.ev m) (h.ev k) (h.ev x) hn
  exact V8 (w' :=w') (by simp[execOp,ho,g1]) ⟨_,g3,Im,hd,bl',g2.put o.dst (av:= .cv .dead) trivial⟩
 |_=>rw[ho]at hn;cases hn
end
section
variable {P:Program} {ρ:Type} {gw:Gw} {w0:Base gw} {w:World} {S0:Nat->Prop} {σ:St} {a:Act} {Im:Nat->Prop} {hd:Nat->Value} {bl:Nat->List Nat} {Q:Exit->Act->World->Prop}
theorem SRi.retell (h:SRi w0 S0 σ a w Im hd bl){g:Nat}{av:AV}(hv:AVR w Im hd (a.tmps.getD g undef) av):SRi w0 S0 (σ.put (some g) av) a w Im hd bl:=by
 refine⟨h.below,h.sub,h.new,h.lt,h.nodef, ?_,fun i u hi=> ?_,h.objs,h.own,h.apart,h.io⟩
 ·show a.tmps.size=(gV σ.sl g av).length
  rw[vj,List.length_set];exact h.size
 ·have hi' :(gV σ.sl g av)[i]? =some u:=hi
  rw[vj,List.getElem?_set]at hi'
  by_cases e:g=i
  ·subst e
   simp only[if_true]at hi'
   split at hi'
   ·cases hi';exact hv
   ·cases hi'
  ·simp only[e,if_false]at hi'
   exact h.slots i u hi'
theorem E3 (h:SRi w0 S0 σ a w Im hd bl){g:Nat}{b:Bool}(hg:vg σ.sl g= .cv (.val .bool b)):a.tmps[g]? =some (.bool b):=by
 have hlt:g<a.tmps.size:=by
  rw[h.size]
  rcases Nat.lt_or_ge g σ.sl.length with h1|h1
  ·exact h1
  ·rw[gz,List.getElem?_eq_none h1]at hg;cases hg
 have hx:=h.ev (.tmp g)
 have e:σ.ev (.tmp g)= .cv (.val .bool b):=hg
 rw[e]at hx
 have e2:a.tmps.getD g undef= .bool b:=gu (w:=w) (Im:=Im) (hd:=hd) hx
 rw[Array.getD_eq_getD_getElem?,Array.getElem?_eq_getElem hlt]at e2
 rw[Array.getElem?_eq_getElem hlt]
 simpa using e2
theorem SH:AVR w Im hd undef (.tup []):=⟨[],rfl,trivial⟩
theorem H9 (h:SRi w0 S0 σ a w Im hd bl){g:Nat}(hg:vg σ.sl g= .tup []):a.tmps[g]? =some undef:=by
 have hlt:g<a.tmps.size:=by
  rw[h.size]
  rcases Nat.lt_or_ge g σ.sl.length with h1|h1
  ·exact h1
  ·rw[gz,List.getElem?_eq_none h1]at hg;cases hg
 have hx:=h.ev (.tmp g)
 have e:σ.ev (.tmp g)= .tup []:=hg
 rw[e]at hx
 obtain⟨vs,e2,hvs⟩:=hx
 have:vs=[]:=by
  match vs,hvs with
  | [],_=>rfl
 subst this
 have e3:a.tmps.getD g undef=undef:=e2
 rw[Array.getD_eq_getD_getElem?,Array.getElem?_eq_getElem hlt]at e3
 rw[Array.getElem?_eq_getElem hlt]
 simpa using e3
theorem M5 {E:Env}(hE:∀T ti,E.ty T=some ti->TyOk P T ti){ck:(fi:Fi)->Aden fi.ps->Option (Oden (zm fi.rs) (ioOf fi.ps))}(hG:∀f ids fi,E.fn f ids=some fi->∀x y,ck fi x=some y->Gives P gw f fi x y)
 (h:SRi w0 S0 σ a w Im hd bl) {ops:Array Oper} {o:Oper} {l:List Oper} {next:St->Option ρ} {r:ρ} (hn:aOps E ck ops.toList (o::l) σ next=some r):
 if Region.wanted o (yielded ops a.tmps)then o.wp P a w (Goes w0 S0 (fun τ=>aOps E ck ops.toList l τ next) r) Q else Goes w0 S0 (fun τ=>aOps E ck ops.toList l τ next) r (a.put o.dst undef) w:=by
 unfold aOps at hn
 split at hn
 ·rename_i hg
  have hw:Region.wanted o (yielded ops a.tmps)=true:=by simp[Region.wanted,hg]
  rw[zgG hw]
  exact zdD hE hG h hn
 ·rename_i j want hg
  split at hn
  ·rename_i g hj
   split at hn
   ·rename_i b hb
    have ht:=E3 h hb
    have hj' :(ops[j]?).bind (·.dst)=some g:=by rw[<-zgX];exact hj
    have hy:yielded ops a.tmps j=some b:=by simp[yielded,hj',ht]
    have hput:∀b',b' =b->SRi w0 S0 (σ.put (some g) (.cv (.val .bool b'))) a w Im hd bl:=fun b' e=>by
     subst e
     refine h.retell ?_
     rw[Array.getD_eq_getD_getElem?,ht]
     exact bvr
    have hwant:Region.wanted o (yielded ops a.tmps)=(b==want):=by simp[Region.wanted,hg,hy]
    rw[hwant]
    cases b<;>cases want
    ·exact zdD hE hG (hput false rfl) hn
    ·exact⟨_,hn,Im,hd,bl,(hput false rfl).put o.dst (av:= .tup []) SH⟩
    ·exact⟨_,hn,Im,hd,bl,(hput true rfl).put o.dst (av:= .tup []) SH⟩
    ·exact zdD hE hG (hput true rfl) hn
   ·rename_i hb
    have hj' :(ops[j]?).bind (·.dst)=some g:=by rw[<-zgX];exact hj
    have hy:yielded ops a.tmps j=none:=by simp[yielded,hj',H9 h hb,undef]
    have hwant:Region.wanted o (yielded ops a.tmps)=false:=by simp[Region.wanted,hg,hy]
    rw[hwant]
    exact⟨_,hn,Im,hd,bl,h.put o.dst (av:= .tup []) SH⟩
   ·cases hn
  ·cases hn
theorem Ai {E:Env}(hE:∀T ti,E.ty T=some ti->TyOk P T ti){ck:(fi:Fi)->Aden fi.ps->Option (Oden (zm fi.rs) (ioOf fi.ps))}(hG:∀f ids fi,E.fn f ids=some fi->∀x y,ck fi x=some y->Gives P gw f fi x y)
 {ops:Array Oper} {next:St->Option ρ} {r:ρ} (hQ:∀a w,Goes w0 S0 next r a w->Q .normal a w):∀ {l:List Oper} {σ:St} {a:Act} {w:World},SR w0 S0 σ a w->aOps E ck ops.toList l σ next=some r->wpList P ops Q l a w
 | [],σ,a,w,h,hn=>hQ a w ⟨σ,hn,h⟩
 |o::l,σ,a,w,⟨Im,hd,bl,h⟩,hn=>by
  have hg:=M5 (Q:=Q) hE hG h hn
  unfold wpList
  split at hg
  ·rename_i hw
   rw[zgG hw]
   exact .inl (Oper.wp_mono (fun a' w' ⟨τ,ht,hs⟩=>Ai hE hG hQ hs ht) hg)
  ·rename_i hw
   rw[zgH hw]
   obtain⟨τ,ht,hs⟩:=hg
   exact Ai hE hG hQ hs ht
end
end Go.Vt
