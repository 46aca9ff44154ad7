/-
  The plain machine: its parts and their laws, 3 of 4.
  Conditions: those of each statement.
-/
import Derived.Test.YtdcnefakiajgdaaGreatDoorVb
set_option linter.unusedSimpArgs false
set_option linter.unusedVariables false
namespace Go.Vt
open Go.RowKit
section
variable {P:Program} {ρ:Type} {gw:Gw} {w0:Base gw} {w:World} {S0:Nat->Prop} {σ:St} {a:Act} {Im:Nat->Prop} {hd:Nat->Value} {bl:Nat->List Nat} {Q:Exit->Act->World->Prop}
theorem Tell.name {c e:Nat}(hne:c≠e):Tell w w Im Im hd (fun d=>if d=e then hd c else hd d) (Rz c e):=by
 refine⟨Same.refl _ _,fun _ x=>x,fun d=> ?_,fun d o v k=> ?_,fun d n i o v k=> ?_⟩
 ·show CVR w Im _ (hd d) (bif Nat.beq d c then .own e else bif Nat.beq d e then .dead else .own d)
  rw[beqN,beqN]
  by_cases q:d=c
  ·subst q;simp only[decide_true,zgJ];show hd d=if e=e then hd d else hd e;simp
  ·by_cases q2:d=e
   ·simp only[q,q2,decide_false,decide_true,zgK,zgJ]
    rw[show decide (e=c)=false by simp[Ne.symm hne]]
    exact trivial
   ·simp only[q,q2,decide_false,zgK];show hd d=if d=e then hd c else hd d;simp[q2]
 ·show AVR w Im _ v (bif Nat.beq d c then .adr e o else bif Nat.beq d e then .cv .dead else .adr d o)
  rw[beqN,beqN]
  obtain⟨b,e1,e2⟩:=k
  by_cases q:d=c
  ·subst q;simp only[decide_true,zgJ];exact⟨b,by simpa using e1,e2⟩
  ·by_cases q2:d=e
   ·simp only[q,q2,decide_false,decide_true,zgK,zgJ]
    rw[show decide (e=c)=false by simp[Ne.symm hne]]
    exact trivial
   ·simp only[q,q2,decide_false,zgK];exact⟨b,by simpa[q2]using e1,e2⟩
 ·show AVR w Im _ v (bif Nat.beq d c then .el e n i o else bif Nat.beq d e then .cv .dead else .el d n i o)
  rw[beqN,beqN]
  obtain⟨b,f1,e1,e2⟩:=k
  by_cases q:d=c
  ·subst q;simp only[decide_true,zgJ];exact⟨b,f1,by simpa using e1,e2⟩
  ·by_cases q2:d=e
   ·simp only[q,q2,decide_false,decide_true,zgK,zgJ]
    rw[show decide (e=c)=false by simp[Ne.symm hne]]
    exact trivial
   ·simp only[q,q2,decide_false,zgK];exact⟨b,f1,by simpa[q2]using e1,e2⟩
theorem ZJ (h:SRi w0 S0 σ a w Im hd bl){c e:Nat}{τ:St}(hr:σ.rename c e=some τ):
 ∃hd' bl',SRi w0 S0 τ a w Im hd' bl' /\hd' e=hd c/\(∀d,d≠e->hd' d=hd d):=by
 unfold St.rename at hr
 rw[beqN]at hr
 by_cases q:c=e
 ·subst q
  simp at hr
  subst hr
  exact⟨hd,bl,h,rfl,fun _ _=>rfl⟩
 ·simp only[q,decide_false,zgK]at hr
  have h:=h.kill e
  have he:zd (σ.kill e).ob e=none:=by
   cases he:zd (σ.kill e).ob e with
   |none=>rfl
   |some o=>exact((uj he).1 rfl).elim
  split at hr
  ·rename_i o hc
   have he5:e<500000:=by
    cases hb:Nat.blt e 500000 with
    |true=>exact TJ hb
    |false=>simp[hb]at hr
   have hbt:Nat.blt e 500000=true:=by rw[Nat.blt_eq];exact he5
   simp only[hbt,zgJ]at hr
   cases hr
   have T:=Tell.name (w:=w) (Im:=Im) (hd:=hd) q
   have hob:∀d p,zd ((e,o.map (Rz c e))::((σ.kill e).sub c (Rz c e)).ob) d=some p->(d=e/\p=o.map (Rz c e))\/(d≠e/\d≠c/\∃p',zd (σ.kill e).ob d=some p' /\p=p'.map (Rz c e)):=by
    intro d p hp
    rw[yj]at hp
    by_cases q2:e=d
    ·simp[q2]at hp;exact .inl ⟨q2.symm,by rw[q2];exact hp.symm⟩
    ·simp[q2]at hp
     obtain⟨h1,p',h2,h3⟩:=uj hp
     exact .inr ⟨Ne.symm q2,h1,p',h2,h3⟩
   refine⟨fun d=>if d=e then hd c else hd d,fun d=>if d=e then bl c else bl d,⟨h.below,h.sub,h.new,h.lt,h.nodef, ?_,fun i av hi=> ?_,fun d p hp=> ?_,fun d p hp=> ?_,fun d p d' p' hp hp' hne=> ?_,fun j v hj=>by rw[zgH (by omega)];exact h.io j v hj⟩,by simp,fun d hd=>by simp[hd]⟩
   ·show a.tmps.size=((σ.kill e).sl.map (AV.map (Rz c e))).length;rw[zgN];exact h.size
   ·have hi' :((σ.kill e).sl.map (AV.map (Rz c e)))[i]? =some av:=hi
    rw[List.getElem?_map]at hi'
    obtain⟨u,hu,rfl⟩:=zgQ.1 hi'
    exact(h.slots i u hu).tell T
   ·rcases hob d p hp with⟨rfl,rfl⟩|⟨h1,h2,p',hp',rfl⟩
    ·simp only[if_true];exact(h.objs c o hc).tell T (fun _ _=>rfl)
    ·simp only[h1,if_false];exact(h.objs d p' hp').tell T (fun _ _=>rfl)
   ·rcases hob d p hp with⟨rfl,rfl⟩|⟨h1,h2,p',hp',rfl⟩
    ·simp only[if_true];exact h.own c o hc
    ·simp only[h1,if_false];exact h.own d p' hp'
   ·rcases hob d p hp with⟨rfl,rfl⟩|⟨h1,h2,p1,hp1,rfl⟩<;>rcases hob d' p' hp' with⟨rfl,rfl⟩|⟨h3,h4,p2,hp2,rfl⟩
    ·exact(hne rfl).elim
    ·simp only[if_true,h3,if_false];exact h.apart c o d' p2 hc hp2 (Ne.symm h4)
    ·simp only[if_true,h1,if_false];exact h.apart d p1 c o hp1 hc h2
    ·simp only[h1,h3,if_false];exact h.apart d p1 d' p2 hp1 hp2 hne
  ·cases hr
theorem zbX (h:SRi w0 S0 σ a w Im hd bl){e:Nat}{t:Ty}{deep cn:Bool}{τ:St}(hr:σ.weaken e t deep cn=some τ):(∃Im' bl',SRi w0 S0 τ a w Im' hd bl' /\(∀b,Im b->Im' b))/\∃xs,zd τ.ob e=some (.row t xs deep cn):=by
 unfold St.weaken at hr
 split at hr
 ·rename_i u xs d n hc
  split at hr
  ·rename_i xs' hx
   obtain⟨ee,rfl⟩:=yP hx
   cases ee
   cases hk:((!deep||d)&&(!cn||n))with
   |false=>rw[hk]at hr;cases hr
   |true=>
    rw[hk,zgJ]at hr
    cases hr
    have hcn:cn=true->n=true:=by intro e;subst e;simp at hk;exact hk.2
    have hdd:deep=true->d=true:=by intro e;subst e;simp at hk;exact hk.1
    obtain⟨σ2,Im2,bl2,h2,hc2,hob,hi⟩:∃(σ2:St) (Im2:Nat->Prop) (bl2:Nat->List Nat),SRi w0 S0 σ2 a w Im2 hd bl2/\zd σ2.ob e=some (.row t xs deep n)/\(∀o',({ σ2 with ob:=yt σ2.ob e o'}:St)= { σ with ob:=yt σ.ob e o'})/\(∀b,Im b->Im2 b):=by
     cases hdp:deep with
     |true=>rw[hdd hdp]at hc;exact⟨σ,Im,bl,h,hc,fun _=>rfl,fun _ x=>x⟩
     |false=>
      cases d with
      |false=>exact⟨σ,Im,bl,h,hc,fun _=>rfl,fun _ x=>x⟩
      |true=>
       obtain⟨Im2,bl2,s1,s2⟩:=h.soften hc
       exact⟨_,Im2,bl2,s1,by rw[yW];simp,fun o' =>by simp only[KB],s2⟩
    have hrow:=h2.objs e _ hc2
    have key:=h2.obj (L:=bl2 e) (o' := .row t xs deep cn) hc2 (fun _ _ _=>rfl) (zgC _) h2.below (fun _ x=>x) (fun b hb=> .inl hb) (h2.own e _ hc2).1 (fun b hb=>hb) ⟨hrow.1,fun q1 q2=>hrow.2 (hcn q1) q2⟩
    rw[hob]at key
    exact⟨⟨Im2,_,key,hi⟩,xs,by rw[yW];simp⟩
  ·cases hr
 ·cases hr
theorem zfh (h:SRi w0 S0 σ a w Im hd bl){e:Nat}{t:Ty}{τ:St}(hr:σ.toTl e t=some τ):∃bl',SRi w0 S0 τ a w Im hd bl' /\∃xs n,zd τ.ob e=some (.tl t xs n):=by
 unfold St.toTl at hr
 split at hr
 ·rename_i u xs cn hc
  split at hr
  ·rename_i xs' hx
   obtain⟨ee,rfl⟩:=yP hx
   cases ee
   cases hr
   have ho:=(h.objs e _ hc).1
   refine⟨_,h.obj (L:=bl e) (o' := .tl t xs 0) hc (fun _ _ _=>rfl) (zgC _) h.below (fun _ x=>x) (fun b hb=> .inl hb) (h.own e _ hc).1 (fun b hb=>hb) ?_,xs,0,by rw[yW];simp⟩
   rcases ho with ho|⟨b,f,cap,cs,E,Li,e1,e2,e3,e4,e5,e6⟩
   ·exact .inl ho
   ·exact .inr ⟨b,f,cap,cs,E,Li,e1,e2,e3,e4,e5,by rw[Nat.zero_mul];exact e6⟩
  ·cases hr
 ·rename_i u xs n hc
  split at hr
  ·rename_i xs' hx
   obtain⟨ee,rfl⟩:=yP hx
   cases ee
   cases hr
   exact⟨_,h.obj (L:=bl e) (o' := .tl t xs n) hc (fun _ _ _=>rfl) (zgC _) h.below (fun _ x=>x) (fun b hb=> .inl hb) (h.own e _ hc).1 (fun b hb=>hb) (h.objs e _ hc),xs,n,by rw[yW];simp⟩
  ·cases hr
 ·cases hr
theorem zc5 (h:SRi w0 S0 σ a w Im hd bl){f:CH}{v:Value}{c:CV}(hv:CVR w Im hd v c){τ:St}{c' :CV}(hr:σ.form f c=some (τ,c')):
 ∃Im' hd' bl',SRi w0 S0 τ a w Im' hd' bl' /\CVR w Im' hd' v c' /\(∀d,(∀e t dp cn,f= .row e t dp cn->d≠e)->hd' d=hd d)/\(∀b,Im b->Im' b)/\
  (∀e t dp cn,f= .row e t dp cn->∃o,zd τ.ob e=some o/\∀l,o≠ .box l):=by
 unfold St.form at hr
 cases f with
 |keep=>
  cases c with
  |own k=>cases hr
  |dead=>cases hr;exact⟨Im,hd,bl,h,hv,fun _ _=>rfl,fun _ x=>x,fun _ _ _ _ e=>by cases e⟩
  |nil=>cases hr;exact⟨Im,hd,bl,h,hv,fun _ _=>rfl,fun _ x=>x,fun _ _ _ _ e=>by cases e⟩
  |val t x=>cases hr;exact⟨Im,hd,bl,h,hv,fun _ _=>rfl,fun _ x=>x,fun _ _ _ _ e=>by cases e⟩
  |unk=>cases hr;exact⟨Im,hd,bl,h,hv,fun _ _=>rfl,fun _ x=>x,fun _ _ _ _ e=>by cases e⟩
 |val t=>
  cases c with
  |nil=>
   obtain⟨x,hx,e⟩:=zgQ.1 hr
   cases e
   exact⟨Im,hd,bl,h,CV.as_read hx hv,fun _ _=>rfl,fun _ x=>x,fun _ _ _ _ e=>by cases e⟩
  |own k=>
   obtain⟨x,hx,e⟩:=zgQ.1 hr
   cases e
   have hrd:=w6 h hx hv
   obtain⟨Im',g1,g2,g3,g4⟩:=h.freeze k
   refine⟨Im',hd,bl,g1, ?_,fun _ _=>rfl,g2,fun _ _ _ _ e=>by cases e⟩
   refine VR.mono (Same.refl _ _) (fun b hb=> ?_) hrd
   rcases hb with hb|⟨k',hk',⟨o0,hg,htr⟩,hb⟩
   ·exact g2 b hb
   ·obtain rfl:k' =k:=by simpa[CV.owns]using hk'
    exact g4 o0 hg b hb
  |dead=>
   obtain⟨x,hx,e⟩:=zgQ.1 hr
   cases hx
  |unk=>
   obtain⟨x,hx,e⟩:=zgQ.1 hr
   cases hx
  |val u y=>
   obtain⟨x,hx,e⟩:=zgQ.1 hr
   cases e
   exact⟨Im,hd,bl,h,CV.as_read hx hv,fun _ _=>rfl,fun _ x=>x,fun _ _ _ _ e=>by cases e⟩
 |row e t deep cn=>
  dsimp only at hr
  cases htl:tlB e with
  |true=>
   rw[htl,zgJ]at hr
   cases c with
   |dead=>cases hr
   |val u y=>cases hr
   |unk=>cases hr
   |nil=>cases hr
   |own k=>
    obtain⟨σ1,h1,hr⟩:=zgF.1 hr
    obtain⟨σ2,h2,e2⟩:=zgQ.1 hr
    cases e2
    obtain⟨hd',bl',g1,g3,g4⟩:=ZJ h h1
    obtain⟨bl2,k1,xs,n,k3⟩:=zfh g1 h2
    refine⟨Im,hd',bl2,k1,by show v=hd' e;rw[g3];exact hv,fun d hd2=>g4 d (hd2 e t deep cn rfl),fun _ x=>x,fun e' t' dp cn' q=> ?_⟩
    cases q
    exact⟨_,k3,fun l q=>by cases q⟩
  |false=>
  rw[htl,zgK]at hr
  cases hhb:holeB e with
  |true=>
   rw[hhb,zgJ]at hr
   cases c with
   |dead=>cases hr
   |val u y=>cases hr
   |unk=>cases hr
   |nil=>cases hr
   |own k=>
    obtain⟨σ1,h1,hr⟩:=zgF.1 hr
    obtain⟨hd',bl',g1,g3,g4⟩:=ZJ h h1
    split at hr
    ·rename_i t0 xs0 i0 k0 hl
     cases hr
     refine⟨Im,hd',bl',g1,by show v=hd' e;rw[g3];exact hv,fun d hd2=>g4 d (hd2 e t deep cn rfl),fun _ x=>x,fun e' t' dp cn' q=> ?_⟩
     cases q
     exact⟨_,hl,fun l q=>by cases q⟩
    ·cases hr
  |false=>
  rw[hhb,zgK]at hr
  cases hmb:mpB e with
  |true=>
   rw[hmb,zgJ]at hr
   cases c with
   |dead=>cases hr
   |val u y=>cases hr
   |unk=>cases hr
   |nil=>cases hr
   |own k=>
    obtain⟨σ1,h1,hr⟩:=zgF.1 hr
    obtain⟨hd',bl',g1,g3,g4⟩:=ZJ h h1
    split at hr
    ·rename_i l hl
     cases hr
     refine⟨Im,hd',bl',g1,by show v=hd' e;rw[g3];exact hv,fun d hd2=>g4 d (hd2 e t deep cn rfl),fun _ x=>x,fun e' t' dp cn' q=> ?_⟩
     cases q
     exact⟨_,hl,fun l q=>by cases q⟩
    ·rename_i l hl
     cases hr
     refine⟨Im,hd',bl',g1,by show v=hd' e;rw[g3];exact hv,fun d hd2=>g4 d (hd2 e t deep cn rfl),fun _ x=>x,fun e' t' dp cn' q=> ?_⟩
     cases q
     exact⟨_,hl,fun l q=>by cases q⟩
    ·cases hr
  |false=>
  rw[hmb,zgK]at hr
  cases c with
  |dead=>cases hr
  |val u y=>cases hr
  |unk=>cases hr
  |nil=>
   have he5:e<500000:=by
    cases hb:Nat.blt e 500000 with
    |true=>exact TJ hb
    |false=>simp[hb]at hr
   have hbt:Nat.blt e 500000=true:=by rw[Nat.blt_eq];exact he5
   simp only[hbt,zgJ,Option.some.injEq,Prod.mk.injEq]at hr
   obtain⟨rfl,rfl⟩:=hr
   refine⟨Im,_,_,h.new_ e he5 (o:= .row t [] deep cn) (v:=v) (L:=[]) (fun k p _ hp b _ hb=>by cases hb) List.nodup_nil (fun b hb=>by cases hb) ⟨.inl ⟨hv,rfl,rfl⟩,fun _ _=>hv⟩,by show v=_;simp,fun d hd' => ?_,fun _ x=>x,fun e' t' dp cn' q=> ?_⟩
   ·have:d≠e:=hd' e t deep cn rfl
    simp[this]
   ·cases q
    exact⟨.row t [] deep cn,by show zd ((e,Ob.row t [] deep cn)::_) e=_;rw[yj];simp,fun l q=>by cases q⟩
  |own k=>
   obtain⟨σ1,h1,hr⟩:=zgF.1 hr
   obtain⟨σ2,h2,e2⟩:=zgQ.1 hr
   cases e2
   obtain⟨hd',bl',g1,g3,g4⟩:=ZJ h h1
   obtain⟨⟨Im',bl2,k1,k2⟩,xs,k3⟩:=zbX g1 h2
   refine⟨Im',hd',bl2,k1,by show v=hd' e;rw[g3];exact hv,fun d hd2=>g4 d (hd2 e t deep cn rfl),k2,fun e' t' dp cn' q=> ?_⟩
   cases q
   exact⟨_,k3,fun l q=>by cases q⟩
theorem CVs.set {vs:List Value}{l:List CV}(h:CVs w Im hd vs l){j:Nat}{v:Value}{c:CV}(hv:vs[j]? =some v)(hc:CVR w Im hd v c):CVs w Im hd vs (l.set j c):=by
 induction vs generalizing l j with
 |nil=>simp at hv
 |cons u vs ih=>
  match l,h with
  |d::l,h=>
   cases j with
   |zero=>simp at hv;subst hv;exact⟨hc,h.2⟩
   |succ j=>exact⟨h.1,ih h.2 (by simpa using hv)⟩
theorem NW {c:Nat}:∀ {l:List CH} {j:Nat} {σ:St} {Im:Nat->Prop} {hd:Nat->Value} {bl:Nat->List Nat},SRi w0 S0 σ a w Im hd bl->∀ {τ:St},σ.formCells c j l=some τ->
 ∃Im' hd' bl',SRi w0 S0 τ a w Im' hd' bl' /\(∀b,Im b->Im' b)
 | [],j,σ,Im,hd,bl,h,τ,hr=>by
   unfold St.formCells at hr
   cases hr
   exact⟨Im,hd,bl,h,fun _ x=>x⟩
 |f::r,j,σ,Im,hd,bl,h,τ,hr=>by
  unfold St.formCells at hr
  split at hr
  ·rename_i l hc
   split at hr
   ·rename_i v hv
    obtain⟨⟨σ1,v'⟩,h1,hr⟩:=zgF.1 hr
    obtain⟨b,cs,F,e1,hb,hbl,hcs⟩:=h.objs c _ hc
    obtain⟨u,hu,huv⟩:=hcs.get j v hv
    obtain⟨Im',hd',bl',g1,g2,g30,g4,g5⟩:=zc5 h huv h1
    dsimp only at hr
    split at hr
    ·rename_i l' hc'
     have g3:hd' c=hd c:=g30 c fun e t dp cn q hce=>by
      obtain⟨ob,hx,hnb⟩:=g5 e t dp cn q
      rw[<-hce,hc']at hx
      cases hx
      exact(hnb _ rfl).elim
     obtain⟨b',cs',F',e1',hb',hbl',hcs'⟩:=g1.objs c _ hc'
     rw[g3,e1]at e1'
     cases e1'
     rw[hb]at hb'
     cases hb'
     have key:=g1.obj (L:=bl' c) (o' := .box (l'.set j v')) hc' (fun _ _ _=>rfl) (zgC _) g1.below (fun _ x=>x) (fun b hb=> .inl hb) (g1.own c _ hc').1 (fun b hb=>hb)
      ⟨b,cs,F,by rw[g3];exact e1,hb,hbl',hcs'.set hu g2⟩
     obtain⟨Im2,hd2,bl2,k1,k2⟩:=NW key hr
     exact⟨Im2,hd2,bl2,k1,fun b hb=>k2 b (g4 b hb)⟩
    ·cases hr
   ·cases hr
  ·cases hr
theorem zeg (h:SRi w0 S0 σ a w Im hd bl){hint:Hint}{τ:St}(hr:σ.meet1 hint=some τ):SR w0 S0 τ a w:=by
 unfold St.meet1 at hr
 cases hint with
 |keep s=>
  dsimp only at hr
  cases hf:freeAV (vg σ.sl s)with
  |false=>rw[hf]at hr;cases hr
  |true=>rw[hf]at hr;cases hr;exact⟨Im,hd,bl,h⟩
 |cell s f=>
  dsimp only at hr
  split at hr
  ·rename_i v hs
   obtain⟨⟨σ1,v'⟩,h1,e⟩:=zgQ.1 hr
   cases e
   have hx:=h.ev (.tmp s)
   have e2:σ.ev (.tmp s)= .cv v:=hs
   rw[e2]at hx
   obtain⟨Im',hd',bl',g1,g2,_⟩:=zc5 h (v:=a.tmps.getD s undef) hx h1
   exact⟨Im',hd',bl',g1.retell (g:=s) (av:= .cv v') g2⟩
  ·cases hr
 |box s e l=>
  dsimp only at hr
  split at hr
  ·rename_i c hs
   obtain⟨σ1,h1,hr⟩:=zgF.1 hr
   obtain⟨hd',bl',g1,_⟩:=ZJ h h1
   obtain⟨Im2,hd2,bl2,k1,_⟩:=NW g1 hr
   exact⟨Im2,hd2,bl2,k1⟩
  ·cases hr
 |arr s e=>
  dsimp only at hr
  split at hr
  ·obtain⟨hd',bl',g1,_⟩:=ZJ h hr
   exact⟨Im,hd',bl',g1⟩
  ·cases hr
theorem Gs:∀ {hs:List Hint} {σ:St},SR w0 S0 σ a w->∀ {τ:St},σ.meetAll hs=some τ->SR w0 S0 τ a w
 | [],σ,h,τ,hr=>by unfold St.meetAll at hr;cases hr;exact h
 |f::hs,σ,⟨Im,hd,bl,h⟩,τ,hr=>by
  unfold St.meetAll at hr
  obtain⟨σ1,h1,hr⟩:=zgF.1 hr
  exact Gs (zeg h h1) hr
theorem Tb:∀ {l:List AV} {i:Nat} {ks:List Nat} {j:Nat} {av:AV},(vV i ks l)[j]? =some av->av= .cv .dead\/l[j]? =some av
 | [],i,ks,j,av,h=>by simp[vV]at h
 |b::l,i,ks,0,av,h=>by
  unfold vV at h
  cases hB:hasB i ks with
  |true=>rw[hB]at h;exact .inr (by simpa using h)
  |false=>rw[hB]at h;simp at h;exact .inl h.symm
 |b::l,i,ks,j+1,av,h=>by
  unfold vV at h
  have:=Tb (l:=l) (i:=i+1) (ks:=ks) (j:=j) (av:=av) (by simpa using h)
  simpa using this
theorem Ta:∀ {l:List AV} {i:Nat} {ks:List Nat},(vV i ks l).length=l.length
 | [],_,_=>rfl
 |_::l,i,ks=>by unfold vV;rw[zgB,zgB,Ta]
theorem DQ {ob:List (Nat×Ob)}:∀ {ks:List Nat} {l:List (Nat×Ob)},obsOf ob ks=some l->∀d o,zd l d=some o->zd ob d=some o
 | [],l,h,d,o,hd=>by unfold obsOf at h;cases h;cases hd
 |c::ks,l,h,d,o,hd=>by
  unfold obsOf at h
  split at h
  ·rename_i o' l' h1 h2
   cases h
   rw[yj]at hd
   by_cases q:c=d
   ·subst q;simp at hd;subst hd;exact h1
   ·simp[q]at hd;exact DQ h2 d o hd
  ·cases h
theorem Uc:∀ {l:List Nat} {σ:St},SR w0 S0 σ a w->SR w0 S0 (σ.settleL l) a w
 | [],_,h=>h
 |c::r,σ,h=>Uc (l:=r) (Gc h c)
theorem zfA (h:SR w0 S0 σ a w)(ops:Array Oper):SR w0 S0 (σ.home ops) a w:=by
 unfold St.home
 cases appendsB ops.toList with
 |true=>exact Uc h
 |false=>exact h
theorem zfu {hs:List Hint}{io:Nat}(h:SR w0 S0 σ a w){τ:St}(hr:σ.meet io hs=some τ):SR w0 S0 τ a w:=by
 unfold St.meet at hr
 obtain⟨σ1,h1,hr⟩:=zgF.1 hr
 obtain⟨ob,h2,e⟩:=zgQ.1 hr
 cases e
 have hh:SR w0 S0 (σ.settleH hs) a w:=by
  unfold St.settleH
  cases(hs.flatMap Hint.keys).any holeB with
  |true=>exact Uc h
  |false=>exact Uc h
 obtain⟨Im,hd,bl,g⟩:=Gs hh h1
 have hob:=DQ h2
 refine⟨Im,hd,bl,g.below,g.sub,g.new,g.lt,g.nodef, ?_,fun i av hi=> ?_,fun c o hc=>g.objs c o (hob c o hc),fun c o hc=>g.own c o (hob c o hc),fun c o d p hc hd=>g.apart c o d p (hob c o hc) (hob d p hd),g.io⟩
 ·show a.tmps.size=(vV _ _ _).length
  rw[Ta];exact g.size
 ·rcases Tb hi with rfl|hi
  ·exact trivial
  ·exact g.slots i av hi
end
section
variable {P:Program} {ρ:Type} {gw:Gw} {w0:Base gw} {w:World} {S0:Nat->Prop} {σ:St} {a:Act} {Im:Nat->Prop} {hd:Nat->Value} {bl:Nat->List Nat} {Q:Exit->Act->World->Prop}
def ownL (bl:Nat->List Nat):RC->CV->List Nat
 |⟨_,some (d,_)⟩, .own c=>bif d then bl c else(bl c).take 1
 |_,_=> []
def ownS (bl:Nat->List Nat):RC->CV->List Nat
 |⟨_,some (d,_)⟩, .own c=>bif d then []else(bl c).drop 1
 |_,_=> []
def bt (bl:Nat->List Nat):List RC->List CV->List Nat
 |r::rs,v::vs=>ownL bl r v++bt bl rs vs
 |_,_=> []
def YP (bl:Nat->List Nat):List RC->List CV->List Nat
 |r::rs,v::vs=>ownS bl r v++YP bl rs vs
 |_,_=> []
def ReadOk (σ:St)(bl:Nat->List Nat)(S:Nat->Prop):List RC->List CV->Prop
 |r::rs,v::vs=>(r.own=none->r.t.flat=true\/∀k∈v.owns,IsTr σ k->∀b∈bl k,S b)/\ReadOk σ bl S rs vs
 |_,_=>True
theorem RG (h:SRi w0 S0 σ a w Im hd bl){S:Nat->Prop}(hI:∀b,Im b->S b){t:Ty}{v:CV}{x:t.den}{u:Value}(hu:CVR w Im hd u v)(hx:σ.cvAs t v=some x)(hr:t.flat=true\/∀k∈v.owns,IsTr σ k->∀b∈bl k,S b):VR w S t x [u]:=by
 have hrd:=w6 h hx hu
 rcases hr with hf|hr
 ·exact VR.flat hf hrd
 ·refine VR.mono (Same.refl _ _) (fun b hb=> ?_) hrd
  rcases hb with hb|⟨k,hk,hrow,hb⟩
  ·exact hI b hb
  ·exact hr k hk hrow b hb
theorem Gl (h:SRi w0 S0 σ a w Im hd bl){S:Nat->Prop}(hI:∀b,Im b->S b){r:RC}{v:CV}{x:r.t.den}{u:Value}(hu:CVR w Im hd u v)(hx:retCell σ r v=some x)
 (hS:∀b∈ownS bl r v,S b) (hr:r.own=none->r.t.flat=true\/∀k∈v.owns,IsTr σ k->∀b∈bl k,S b):RCR w S u (ownL bl r v) r x:=by
 obtain⟨t,o⟩:=r
 cases o with
 |none=>
  have hv:=RG h hI (t:=t) (x:=x) hu (by cases t<;>exact hx) (hr rfl)
  cases t<;>exact⟨hv,rfl⟩
 |some dn=>
  obtain⟨d,n⟩:=dn
  cases t with
  |slice t=>
   unfold retCell at hx
   dsimp only at hx
   cases v with
   |dead=>cases hx
   |val t' y=>cases hx
   |unk=>cases hx
   |nil=>cases hx;exact⟨.inl ⟨hu,rfl,rfl⟩,fun _ _=>hu⟩
   |own c=>
    dsimp only at hx
    split at hx
    ·rename_i u' xs e m hc
     cases hk:((!d||e)&&(!n||m|| !xs.isEmpty))with
     |false=>rw[hk]at hx;cases hx
     |true=>
      rw[hk,zgJ]at hx
      obtain⟨ee,rfl⟩:=yP hx
      cases ee
      rw[zgx]at hk
      have hrow:=h.objs c _ hc
      have hu' :u=hd c:=hu
      rw[hu']
      refine⟨?_,fun hn hxs=> ?_⟩
      ·rcases hrow.1 with⟨e1,e2,e3⟩|⟨b,f0,cap,cs,F,Li,e1,e2,e3,e4,e5,e6⟩
       ·refine .inl ⟨e1,e2, ?_⟩
        show(bif d then bl c else(bl c).take 1)=[]
        rw[e3];cases d<;>rfl
       ·cases d with
        |true=>
         have:e=true:=by simpa using hk.1
         subst this
         exact .inr ⟨b,f0,cap,cs,F,Li,e1,e2,e3,e4,e5,e6⟩
        |false=>
         refine .inr ⟨b,f0,cap,cs,F,[],e1,e2,e3,e4, ?_, ?_⟩
         ·show(bl c).take 1=[b];rw[e5];rfl
         ·have hLi:∀x∈Li,S x:=fun x hx=>hS x (by show x∈(bl c).drop 1;rw[e5];exact hx)
          cases e with
          |true=>exact OL.nodeep e6 hLi
          |false=>
           have:OL t.sz (rowP w S t false) xs (cs.toList.drop f0) Li:=e6.mapP fun y c l _ hp=>⟨VR.mono (Same.refl _ _) hI hp.1,hp.2⟩
           have hnil:∀ {ys:List t.den} {c:List Value} {L:List Nat},OL t.sz (rowP w S t false) ys c L->L=[]:=by
            intro ys
            induction ys with
            |nil=>intro c L h;exact h
            |cons y ys ih=>intro c L h;obtain⟨L1,L2,rfl,_,hp,h⟩:=h;rw[hp.2,ih h];rfl
           have e7:=hnil this
           rw[e7]at this
           exact this
      ·have hk2:=hk.2
       subst hn
       simp only[Bool.not_true,Bool.false_or,Bool.or_eq_true]at hk2
       rcases hk2 with hm|hm
       ·exact hrow.2 hm hxs
       ·have hxs' :xs=[]:=hxs
        rw[hxs']at hm;cases hm
    ·cases hx
  |int k=>
   have hv:=RG h hI (t:= .int k) (x:=x) hu hx (.inl rfl)
   cases v with
   |own c=>
    exfalso
    have hx' :σ.cvAs (.int k) (.own c)=some x:=hx
    unfold St.cvAs at hx'
    dsimp only at hx'
    split at hx'
    ·obtain⟨e,_⟩:=yP hx';cases e
    ·obtain⟨e,_⟩:=yP hx';cases e
    ·cases hx'
   |dead=>exact⟨hv,rfl⟩
   |nil=>exact⟨hv,rfl⟩
   |val _ _=>exact⟨hv,rfl⟩
   |unk=>exact⟨hv,rfl⟩
  |bool=>
   have hv:=RG h hI (t:= .bool) (x:=x) hu hx (.inl rfl)
   cases v with
   |own c=>
    exfalso
    have hx' :σ.cvAs .bool (.own c)=some x:=hx
    unfold St.cvAs at hx'
    dsimp only at hx'
    split at hx'
    ·obtain⟨e,_⟩:=yP hx';cases e
    ·obtain⟨e,_⟩:=yP hx';cases e
    ·cases hx'
   |dead=>exact⟨hv,rfl⟩
   |nil=>exact⟨hv,rfl⟩
   |val _ _=>exact⟨hv,rfl⟩
   |unk=>exact⟨hv,rfl⟩
  |str=>
   have hv:=RG h hI (t:= .str) (x:=x) hu hx (.inl rfl)
   cases v with
   |own c=>
    exfalso
    have hx' :σ.cvAs .str (.own c)=some x:=hx
    unfold St.cvAs at hx'
    dsimp only at hx'
    split at hx'
    ·obtain⟨e,_⟩:=yP hx';cases e
    ·obtain⟨e,_⟩:=yP hx';cases e
    ·cases hx'
   |dead=>exact⟨hv,rfl⟩
   |nil=>exact⟨hv,rfl⟩
   |val _ _=>exact⟨hv,rfl⟩
   |unk=>exact⟨hv,rfl⟩
  |err=>
   have hv:=RG h hI (t:= .err) (x:=x) hu hx (.inl rfl)
   cases v with
   |own c=>
    exfalso
    have hx' :σ.cvAs .err (.own c)=some x:=hx
    unfold St.cvAs at hx'
    dsimp only at hx'
    split at hx'
    ·obtain⟨e,_⟩:=yP hx';cases e
    ·obtain⟨e,_⟩:=yP hx';cases e
    ·cases hx'
   |dead=>exact⟨hv,rfl⟩
   |nil=>exact⟨hv,rfl⟩
   |val _ _=>exact⟨hv,rfl⟩
   |unk=>exact⟨hv,rfl⟩
  |set=>cases hx
  |pair s t=>
   cases v with
   |own c=>
    have hx' :(match zd σ.ob c with|some (.box l)=>yE (.pair s t) l|_=>none)=some x:=hx
    cases hc:zd σ.ob c with
    |none=>rw[hc]at hx';cases hx'
    |some o=>
     rw[hc]at hx'
     cases o with
     |box l=>
      obtain⟨b,cs,E,e1,e2,e3,e4⟩:=BoxR.of (h.objs c _ hc) (show yE (.pair s t) l=some x from hx')
      have hu' :u=hd c:=hu
      refine⟨b,cs,E,hu'.trans e1,e2, ?_,VR.mono (Same.refl _ _) hI e4⟩
      show(bif d then bl c else(bl c).take 1)=[b]
      rw[e3];cases d<;>rfl
     |_=>cases hx'
   |_=>cases hx
theorem Ks (h:SRi w0 S0 σ a w Im hd bl){S:Nat->Prop}(hI:∀b,Im b->S b):∀ {rs:List RC} {l:List CV} {y:Rden rs} {vs:List Value},CVs w Im hd vs l->vn σ rs l=some y->
 (∀b∈YP bl rs l,S b)->ReadOk σ bl S rs l->RCs w S vs (bt bl rs l) rs y
 | [],[],y,vs,hv,hx,hS,hr=>by match vs,hv with| [],_=>rfl
 | [r],[v],y,vs,hv,hx,hS,hr=>by
   match vs,hv with
   | [u],hv=>
     have:=Gl h hI (r:=r) (v:=v) (x:=y) hv.1 hx (fun b hb=>hS b (by simp[YP,hb])) hr.1
     show RCR w S u (ownL bl r v++[]) r y
     rw[List.append_nil];exact this
 |r::s::q,v::l,y,vs,hv,hx,hS,hr=>by
  unfold vn at hx
  obtain⟨x1,h1,hx⟩:=zgF.1 hx
  obtain⟨x2,h2,hx⟩:=zgF.1 hx
  cases hx
  match l,vs,hv with
  |v2::l,u::u2::us,hv=>
   refine⟨ownL bl r v,bt bl (s::q) (v2::l),rfl,Gl h hI hv.1 h1 (fun b hb=>hS b (by simp[YP,hb])) hr.1,Ks h hI hv.2 h2 (fun b hb=>hS b ?_) hr.2⟩
   show b∈ownS bl r v++YP bl (s::q) (v2::l)
   exact zgz.2 (.inr hb)
  | [],_,_=>simp[vn]at h2
 | [],_::_,_,_,_,hx,_,_=>by simp[vn]at hx
 | [_],[],_,_,_,hx,_,_=>by simp[vn]at hx
 | [_],_::_::_,_,_,_,hx,_,_=>by simp[vn]at hx
 |_::_::_,[],_,_,_,hx,_,_=>by simp[vn]at hx
theorem bp {E:Env}(hE:∀T ti,E.ty T=some ti->TyOk P T ti)(h:SRi w0 S0 σ a w Im hd bl):∀ {res:List ResultVar} {rs:List (Bool×List RC)} {l:List CV},vT E σ res rs=some l->
 ∃vs,CVs w Im hd vs l/\(res.mapM (m:=Sem) fun
  | .tmp t=>pure (a.tmps.getD t undef)
  | .cell b t=>do loadVar t (<-asAddr (a.tmps.getD b undef))).run P w= .ok (vU rs vs) w
 | [],[],l,hr=>by
   unfold vT at hr
   cases hr
   exact⟨[],trivial,by simp[vU]⟩
 | .tmp t::res,(g,rl)::rs,l,hr=>by
   unfold vT at hr
   split at hr
   ·rename_i v w' hs hw
    cases hk:(!g&&Nat.beq rl.length 1)with
    |false=>rw[hk]at hr;cases hr
    |true=>
     rw[hk,zgJ]at hr
     cases hr
     rw[zgx]at hk
     have hg:g=false:=by simpa using hk.1
     have hl:=zgE hk.2
     subst hg
     obtain⟨vs,h1,h2⟩:=bp hE h hw
     have hx:=h.ev (.tmp t)
     have e2:σ.ev (.tmp t)= .cv v:=hs
     rw[e2]at hx
     refine⟨a.tmps.getD t undef::vs,⟨hx,h1⟩, ?_⟩
     rw[List.mapM_cons]
     simp only[Sem.run_bind,Sem.run_pure,Result.andThen_ok,h2,vU,hl]
     rfl
   ·rename_i vs' w' hs hw
    cases hk:(g&&Nat.beq rl.length vs'.length)with
    |false=>rw[hk]at hr;cases hr
    |true=>
     rw[hk,zgJ]at hr
     cases hr
     rw[zgx]at hk
     have hg:g=true:=hk.1
     have hl:=zgE hk.2
     subst hg
     obtain⟨vs,h1,h2⟩:=bp hE h hw
     have hx:=h.ev (.tmp t)
     have e2:σ.ev (.tmp t)= .ag vs' :=hs
     rw[e2]at hx
     obtain⟨us,e3,hus⟩:=hx
     have hul:=hus.len
     refine⟨us++vs,hus.app h1, ?_⟩
     rw[List.mapM_cons]
     have e4:a.tmps.getD t undef= .agg us.toArray:=e3
     simp only[Sem.run_bind,Sem.run_pure,Result.andThen_ok,h2,vU,hl,e4]
     rw[<-hul,List.take_left,List.drop_left]
     rfl
   ·rename_i c w' hs hw
    cases hk:(!g&&Nat.beq rl.length 1)with
    |false=>rw[hk]at hr;cases hr
    |true=>
     rw[hk,zgJ]at hr
     cases hr
     rw[zgx]at hk
     have hg:g=false:=by simpa using hk.1
     have hl:=zgE hk.2
     subst hg
     obtain⟨vs,h1,h2⟩:=bp hE h hw
     have hx:=h.ev (.tmp t)
     have e2:σ.ev (.tmp t)= .adr c 0:=hs
     rw[e2]at hx
     obtain⟨b,hx1,hx2⟩:=hx
     refine⟨a.tmps.getD t undef::vs,⟨hx2.trans hx1.symm,h1⟩, ?_⟩
     rw[List.mapM_cons]
     simp only[Sem.run_bind,Sem.run_pure,Result.andThen_ok,h2,vU,hl]
     rfl
   ·cases hr
 | .cell b T::res,(g,rl)::rs,l,hr=>by
   unfold vT at hr
   split at hr
   ·rename_i c o n agg w' hs hT hw
    split at hr
    ·rename_i vs' hc
     cases hk:(Nat.beq o 0&&Nat.beq n vs'.length&&Nat.beq rl.length n&&(agg==g))with
     |false=>rw[hk]at hr;cases hr
     |true=>
      rw[hk,zgJ]at hr
      cases hr
      simp only[zgx]at hk
      obtain⟨⟨⟨k1,k2⟩,k3⟩,k4⟩:=hk
      obtain rfl:=zgE k1
      have k2' :=zgE k2
      have k3' :=zgE k3
      obtain rfl:agg=g:=by simpa using k4
      obtain⟨vs,h1,h2⟩:=bp hE h hw
      have hx:=h.ev (.tmp b)
      have e2:σ.ev (.tmp b)= .adr c 0:=hs
      rw[e2]at hx
      obtain⟨bb,e3,e4⟩:=hx
      obtain⟨bb',cs,F,e5,hb,_,hcs⟩:=h.objs c _ hc
      rw[e3]at e5;cases e5
      have hlen:=hcs.len
      obtain⟨⟨i,hi,hsz⟩,hagg,hone⟩:=aW hE hT
      have hat:At w bb 0 cs.toList:=by
       have:=ud hb 0 cs.size
       rwa [List.drop_zero,zgT (by simp)]at this
      have hload:=x7 (P:=P) (T:=T) hat hi (by rw[hsz,k2',hlen]) hagg (fun e=>by rw[hlen,<-k2'];exact hone e)
      have hload' :(loadVar T ⟨bb,0,none⟩).run P w= .ok (xw agg cs.toList) w:=by
       simpa[Instr.loadAt,Instr.sureAddr]using hload
      refine⟨cs.toList++vs,hcs.app h1, ?_⟩
      rw[List.mapM_cons]
      have e6:a.tmps.getD b undef= .pointer (some ⟨bb,0,none⟩):=e4
      have hasA:(asAddr (.pointer (some ⟨bb,0,none⟩))).run P w= .ok ⟨bb,0,none⟩ w:=by simp[asAddr]
      simp only[Sem.run_bind,Sem.run_pure,Result.andThen_ok,e6,hasA,hload',h2,vU]
      rw[show rl.length=cs.toList.length by omega,List.take_left,List.drop_left]
    ·cases hr
   ·cases hr
 | [],_::_,l,hr=>by simp[vT]at hr
 | .tmp _::_,[],l,hr=>by simp[vT]at hr
 | .cell _ _::_,[],l,hr=>by simp[vT]at hr
theorem ZM {bl:Nat->List Nat}:∀ {rs:List RC} {l:List CV} {b:Nat},b∈bt bl rs l->∃k∈cd rs l,b∈bl k
 | [],l,b,h=>by cases l<;>cases h
 |r::rs,[],b,h=>by cases h
 |⟨t,none⟩::rs,v::l,b,h=>by
  have h' :b∈bt bl rs l:=by
   have:ownL bl ⟨t,none⟩ v=[]:=by cases v<;>rfl
   simpa[bt,this]using h
  obtain⟨k,h1,h2⟩:=ZM h'
  exact⟨k,h1,h2⟩
 |⟨t,some (d,n)⟩::rs,v::l,b,h=>by
  rcases zgz.1 (show b∈ownL bl ⟨t,some (d,n)⟩ v++bt bl rs l from h)with h|h
  ·cases v with
   |own c=>
    refine⟨c,by simp[cd,CV.owns], ?_⟩
    cases d with
    |true=>exact h
    |false=>exact List.mem_of_mem_take h
   |dead=>cases h
   |nil=>cases h
   |val _ _=>cases h
   |unk=>cases h
  ·obtain⟨k,h1,h2⟩:=ZM h
   exact⟨k,by simp[cd,h1],h2⟩
theorem RJ {bl:Nat->List Nat}:∀ {rs:List RC} {l:List CV} {b:Nat},b∈YP bl rs l->∃k∈cd rs l,b∈bl k
 | [],l,b,h=>by cases l<;>cases h
 |r::rs,[],b,h=>by cases h
 |⟨t,none⟩::rs,v::l,b,h=>by
  have h' :b∈YP bl rs l:=by
   have:ownS bl ⟨t,none⟩ v=[]:=by cases v<;>rfl
   simpa[YP,this]using h
  obtain⟨k,h1,h2⟩:=RJ h'
  exact⟨k,h1,h2⟩
 |⟨t,some (d,n)⟩::rs,v::l,b,h=>by
  rcases zgz.1 (show b∈ownS bl ⟨t,some (d,n)⟩ v++YP bl rs l from h)with h|h
  ·cases v with
   |own c=>
    refine⟨c,by simp[cd,CV.owns], ?_⟩
    cases d with
    |true=>cases h
    |false=>exact List.mem_of_mem_drop h
   |dead=>cases h
   |nil=>cases h
   |val _ _=>cases h
   |unk=>cases h
  ·obtain⟨k,h1,h2⟩:=RJ h
   exact⟨k,by simp[cd,h1],h2⟩
end
section
variable {P:Program} {ρ:Type} {gw:Gw} {w0:Base gw} {w:World} {S0:Nat->Prop} {σ:St} {a:Act} {Im:Nat->Prop} {hd:Nat->Value} {bl:Nat->List Nat} {Q:Exit->Act->World->Prop}
def IsEx (σ:St)(k:Nat):Prop:=∃o,zd σ.ob k=some o
theorem Kt {r:RC}{v:CV}{x:r.t.den}(hx:retCell σ r v=some x)(ho:r.own≠none):∀k∈v.owns,IsOb σ k:=by
 obtain⟨t,o⟩:=r
 cases o with
 |none=>exact(ho rfl).elim
 |some dn=>
  obtain⟨d,n⟩:=dn
  intro k hk
  cases v with
  |dead=>cases hk
  |nil=>cases hk
  |val _ _=>cases hk
  |unk=>cases hk
  |own c=>
   obtain rfl:k=c:=by simpa[CV.owns]using hk
   cases t with
   |slice t=>
    unfold retCell at hx
    dsimp only at hx
    split at hx
    ·rename_i u xs e m hc;exact .inl ⟨u,xs,e,m,hc⟩
    ·cases hx
   |int k' =>
    have hx' :σ.cvAs (.int k') (.own k)=some x:=hx
    unfold St.cvAs at hx';dsimp only at hx'
    split at hx'
    ·rename_i u xs e m hc;exact .inl ⟨u,xs,e,m,hc⟩
    ·obtain⟨e,_⟩:=yP hx';cases e
    ·cases hx'
   |bool=>
    have hx' :σ.cvAs .bool (.own k)=some x:=hx
    unfold St.cvAs at hx';dsimp only at hx'
    split at hx'
    ·rename_i u xs e m hc;exact .inl ⟨u,xs,e,m,hc⟩
    ·obtain⟨e,_⟩:=yP hx';cases e
    ·cases hx'
   |str=>
    have hx' :σ.cvAs .str (.own k)=some x:=hx
    unfold St.cvAs at hx';dsimp only at hx'
    split at hx'
    ·rename_i u xs e m hc;exact .inl ⟨u,xs,e,m,hc⟩
    ·obtain⟨e,_⟩:=yP hx';cases e
    ·cases hx'
   |err=>
    have hx' :σ.cvAs .err (.own k)=some x:=hx
    unfold St.cvAs at hx';dsimp only at hx'
    split at hx'
    ·rename_i u xs e m hc;exact .inl ⟨u,xs,e,m,hc⟩
    ·obtain⟨e,_⟩:=yP hx';cases e
    ·cases hx'
   |set=>cases hx
   |pair s t=>
    have hx' :(match zd σ.ob k with|some (.box l)=>yE (.pair s t) l|_=>none)=some x:=hx
    cases hc:zd σ.ob k with
    |none=>rw[hc]at hx';cases hx'
    |some o=>
     rw[hc]at hx'
     cases o with
     |box l=>exact .inr ⟨l,hc⟩
     |_=>cases hx'
theorem Gp (r:RC)(v:CV)(rs:List RC)(l:List CV):∀k∈cd (r::rs) (v::l),(r.own≠none/\k∈v.owns)\/k∈cd rs l:=by
 intro k hk
 obtain⟨t,o⟩:=r
 cases o with
 |none=>exact .inr hk
 |some dn=>
  rcases zgz.1 (show k∈v.owns++cd rs l from hk)with h|h
  ·exact .inl ⟨by simp,h⟩
  ·exact .inr h
theorem RB:∀ {rs:List RC} {l:List CV} {y:Rden rs},vn σ rs l=some y->∀k∈cd rs l,IsOb σ k
 | [],l,y,hx,k,hk=>by cases l<;>cases hk
 | [r],[v],y,hx,k,hk=>by
   rcases Gp r v [] [] k hk with⟨h1,h2⟩|h
   ·exact Kt (x:=y) hx h1 k h2
   ·cases h
 |r::s::q,v::l,y,hx,k,hk=>by
  unfold vn at hx
  obtain⟨x1,h1,hx⟩:=zgF.1 hx
  obtain⟨x2,h2,hx⟩:=zgF.1 hx
  rcases Gp r v _ _ k hk with⟨g1,g2⟩|h
  ·exact Kt h1 g1 k g2
  ·exact RB h2 k h
 | [_],[],_,hx,_,_=>by simp[vn]at hx
 | [_],_::_::_,_,hx,_,_=>by simp[vn]at hx
 |_::_::_,[],_,hx,_,_=>by simp[vn]at hx
theorem Kz (h:SRi w0 S0 σ a w Im hd bl):∀ {rs:List RC} {l:List CV},(cd rs l).Nodup->(∀k∈cd rs l,IsOb σ k)->(bt bl rs l).Nodup/\∀b∈bt bl rs l,b∉YP bl rs l
 | [],l,_,_=>by cases l<;>exact⟨List.nodup_nil,fun b hb=>by cases hb⟩
 |_::_,[],_,_=>⟨List.nodup_nil,fun b hb=>by cases hb⟩
 |⟨t,none⟩::rs,v::l,hn,hr=>by
  have ih:=Kz h (rs:=rs) (l:=l) hn hr
  have e1:bt bl (⟨t,none⟩::rs) (v::l)=bt bl rs l:=by
   have:ownL bl ⟨t,none⟩ v=[]:=by cases v<;>rfl
   simp[bt,this]
  have e2:YP bl (⟨t,none⟩::rs) (v::l)=YP bl rs l:=by
   have:ownS bl ⟨t,none⟩ v=[]:=by cases v<;>rfl
   simp[YP,this]
  rw[e1,e2];exact ih
 |⟨t,some (d,n)⟩::rs,v::l,hn,hr=>by
  have hn' :(v.owns++cd rs l).Nodup:=hn
  rw[zgM]at hn'
  have ih:=Kz h (rs:=rs) (l:=l) hn'.2.1 (fun k hk=>hr k (zgz.2 (.inr hk)))
  cases v with
  |own c=>
   obtain⟨o',hg⟩:=(hr c (zgz.2 (.inl (by simp[CV.owns])))).some
   have hbl:=(h.own c _ hg).1
   have hapart:∀b∈bl c,∀k∈cd rs l,b∉bl k:=by
    intro b hb k hk
    obtain⟨o2,hg2⟩:=(hr k (zgz.2 (.inr hk))).some
    have hne:c≠k:=fun e=>hn'.2.2 c (by simp[CV.owns]) k hk e
    exact h.apart c _ k _ hg hg2 hne b hb
   have hL:∀b∈ownL bl ⟨t,some (d,n)⟩ (.own c),b∈bl c:=by
    intro b hb
    cases d with
    |true=>exact hb
    |false=>exact List.mem_of_mem_take hb
   have hS:∀b∈ownS bl ⟨t,some (d,n)⟩ (.own c),b∈bl c:=by
    intro b hb
    cases d with
    |true=>cases hb
    |false=>exact List.mem_of_mem_drop hb
   have hLn:(ownL bl ⟨t,some (d,n)⟩ (.own c)).Nodup:=by
    cases d with
    |true=>exact hbl
    |false=>exact hbl.sublist (List.take_sublist _ _)
   have hLS:∀b∈ownL bl ⟨t,some (d,n)⟩ (.own c),b∉ownS bl ⟨t,some (d,n)⟩ (.own c):=by
    intro b hb hb2
    cases d with
    |true=>cases hb2
    |false=>
     have h1:b∈(bl c).take 1:=hb
     have h2:b∈(bl c).drop 1:=hb2
     have h3:=hbl
     rw[<-List.take_append_drop 1 (bl c),zgM]at h3
     exact h3.2.2 b h1 b h2 rfl
   refine⟨?_,fun b hb hb2=> ?_⟩
   ·show(ownL bl _ _++bt bl rs l).Nodup
    rw[zgM]
    refine⟨hLn,ih.1,fun b hb b' hb' e=> ?_⟩
    subst e
    obtain⟨k,hk,hbk⟩:=ZM hb'
    exact hapart b (hL b hb) k hk hbk
   ·rcases zgz.1 (show b∈ownL bl _ _++bt bl rs l from hb)with h1|h1<;>rcases zgz.1 (show b∈ownS bl _ _++YP bl rs l from hb2)with h2|h2
    ·exact hLS b h1 h2
    ·obtain⟨k,hk,hbk⟩:=RJ h2;exact hapart b (hL b h1) k hk hbk
    ·obtain⟨k,hk,hbk⟩:=ZM h1;exact hapart b (hS b h2) k hk hbk
    ·exact ih.2 b h1 h2
  |dead=>exact⟨by simpa[bt,ownL]using ih.1,fun b hb hb2=>ih.2 b (by simpa[bt,ownL]using hb) (by simpa[YP,ownS]using hb2)⟩
  |nil=>exact⟨by simpa[bt,ownL]using ih.1,fun b hb hb2=>ih.2 b (by simpa[bt,ownL]using hb) (by simpa[YP,ownS]using hb2)⟩
  |val _ _=>exact⟨by simpa[bt,ownL]using ih.1,fun b hb hb2=>ih.2 b (by simpa[bt,ownL]using hb) (by simpa[YP,ownS]using hb2)⟩
  |unk=>exact⟨by simpa[bt,ownL]using ih.1,fun b hb hb2=>ih.2 b (by simpa[bt,ownL]using hb) (by simpa[YP,ownS]using hb2)⟩
theorem ReadOk.of {S:Nat->Prop}{K:Nat->Prop}:∀ {rs:List RC} {l:List CV},(∀v∈l,∀k∈v.owns,K k)->(SE rs=true\/∀k,K k->IsTr σ k->∀b∈bl k,S b)->ReadOk σ bl S rs l
 | [],l,_,_=>by cases l<;>trivial
 |_::_,[],_,_=>trivial
 |r::rs,v::l,hK,h=>by
  refine⟨fun hn=> ?_,ReadOk.of (fun v hv=>hK v (by simp[hv])) (h.imp_left fun h=> ?_)⟩
  ·rcases h with h|h
   ·unfold SE at h
    rw[List.all_cons,zgx]at h
    exact .inl (by simpa[hn]using h.1)
   ·exact .inr fun k hm hk=>h k (hK v (by simp) k hm) hk
  ·unfold SE at h⊢
   rw[List.all_cons,zgx]at h
   exact h.2
theorem zcv (vs:List Value):(if h:vs.toArray.size=1 then vs.toArray[0]else .tuple vs.toArray)=oneVal vs:=by
 match vs with
 | []=>rfl
 | [v]=>rfl
 |_::_::_=>rfl
theorem C9 {E:Env}(hE:∀T ti,E.ty T=some ti->TyOk P T ti)(h:SRi w0 S0 σ a w Im hd bl){fn:Func}{res:List ResultVar}(hres:fn.results.toList=res){rs:List (Bool×List RC)}{y:Rden (zm rs)}(hr:aRet E res rs σ=some y)(K:Nat->Prop)
 (hK:∀l,vT E σ res rs=some l->∀v∈l,∀k∈v.owns,K k):
 ∃(S' :Nat->Prop) (vs:List Value) (L:List Nat),(results fn a.tmps).run P w= .ok (oneVal (vU rs vs)) w/\(∀b,S0 b->S' b)/\(∀b,Im b->S' b)/\(∀b,S' b->Im b\/∃k,K k/\IsEx σ k/\b∈bl k)/\L.Nodup/\
  (∀b∈L,(∃k,K k/\IsOb σ k/\b∈bl k)/\¬S' b)/\RCs w S' vs L (zm rs) y:=by
 unfold aRet at hr
 split at hr
 ·rename_i l hp
  cases hk:(U9 (cd (zm rs) l)&&(SE (zm rs)||(cd (zm rs) l).isEmpty))with
  |false=>rw[hk]at hr;cases hr
  |true=>
   rw[hk,zgJ]at hr
   rw[zgx,Bool.or_eq_true]at hk
   have hnd:=cC.1 hk.1
   obtain⟨vs,h1,h2⟩:=bp hE h hp
   have hrows:=RB hr
   have hsp:=Kz h hnd hrows
   have hKl:=hK l hp
   have hKo:∀(rs:List RC) (l:List CV),(∀v∈l,∀k∈v.owns,K k)->∀k∈cd rs l,K k:=by
    intro rs
    induction rs with
    |nil=>intro l _ k hk;cases l<;>cases hk
    |cons r rs ih=>
     intro l hl k hk
     cases l with
     |nil=>
      have:cd (r::rs) []=[]:=by obtain⟨t,o⟩:=r;cases o<;>rfl
      rw[this]at hk;cases hk
     |cons v l=>
      obtain⟨t,o⟩:=r
      cases o with
      |none=>exact ih l (fun v hv=>hl v (by simp[hv])) k hk
      |some dn=>
       rcases zgz.1 (show k∈v.owns++cd rs l from hk)with hk|hk
       ·exact hl v (by simp) k hk
       ·exact ih l (fun v hv=>hl v (by simp[hv])) k hk
   have hKr:=hKo (zm rs) l hKl
   refine⟨fun b=>Im b\/b∈YP bl (zm rs) l\/(SE (zm rs)=false/\∃k,K k/\IsEx σ k/\b∈bl k),vs,bt bl (zm rs) l, ?_,fun b hb=> .inl (h.sub b hb),fun b hb=> .inl hb,fun b hb=> ?_,hsp.1,fun b hb' =>⟨?_,fun hS=> ?_⟩,
    Ks h (fun b hb=> .inl hb) h1 hr (fun b hb=> .inr (.inl hb)) (ReadOk.of hKl ?_)⟩
   ·unfold results
    rw[Array.mapM_eq_mapM_toList,hres]
    have h2' :(List.mapM (m:=Sem) (fun
     | .tmp t=>pure (a.tmps.getD t undef)
     | .cell b t=>do loadVar t (<-asAddr (a.tmps.getD b undef))) res).run P w= .ok (vU rs vs) w:=h2
    simp only[Sem.run_bind,Sem.run_map,Sem.run_pure]
    rw[<-zcv]
    exact congrArg (fun r:Result (List Value)=>Result.andThen (Result.andThen r (fun a w' =>Result.ok a.toArray w')) (fun a w' =>Result.ok (if h:a.size=1 then a[0]else Value.tuple a) w')) h2'
   ·rcases hb with hb|hb|⟨_,hb⟩
    ·exact .inl hb
    ·obtain⟨k,hk,hbk⟩:=RJ hb
     exact .inr ⟨k,hKr k hk,(hrows k hk).some,hbk⟩
    ·exact .inr hb
   ·obtain⟨k,hk,hbk⟩:=ZM hb'
    exact⟨k,hKr k hk,hrows k hk,hbk⟩
   ·obtain⟨k,hk0,hbk⟩:=ZM hb'
    obtain⟨o0,hg⟩:=(hrows k hk0).some
    rcases hS with hS|hS|⟨hS,_⟩
    ·exact((h.own k _ hg).2 b hbk).2.2 hS
    ·exact hsp.2 b hb' hS
    ·rcases hk.2 with h3|h3
     ·rw[h3]at hS;cases hS
     ·have h3' :cd (zm rs) l=[]:=by simpa using h3
      rw[h3']at hk0;cases hk0
   ·cases hall:SE (zm rs)with
    |true=>exact .inl rfl
    |false=>exact .inr fun k hk ⟨o,hg,_⟩ b hb=> .inr (.inr ⟨rfl,k,hk,⟨o,hg⟩,hb⟩)
 ·cases hr
def RR:Nat->Nat->List Nat
 |_,0=> []|n,m+1=>(500000+n)::RR (n+1) m
theorem FS:∀ {m n k:Nat},k∈RR n m->500000+n<=k
 |0,n,k,h=>by cases h
 |m+1,n,k,h=>by
  rcases zgO.1 h with rfl|h
  ·exact zgC _
  ·have:=FS h;omega
theorem KY:∀(m n:Nat),(RR n m).Nodup
 |0,n=>List.nodup_nil
 |m+1,n=>zgV.2 ⟨fun h=>by have:=FS h;omega,KY m (n+1)⟩
theorem D4 (h:SRi w0 S0 σ a w Im hd bl){S' :Nat->Prop}(hS:∀b,Im b->S' b){n:Nat}{c:RC}{x:c.t.den}(hx:ioOut1 σ n c=some x):IsOb σ (500000+n)/\∀v,v=hd (500000+n)->IoRC c->RCR w S' v (bl (500000+n)) c x:=by
 obtain⟨ct,co⟩:=c
 cases ct with
 |int _=>cases hx
 |bool=>cases hx
 |str=>cases hx
 |set=>cases hx
 |err=>cases hx
 |pair s t=>
  cases co with
  |none=>cases hx
  |some dn=>
   have hx' :(match zd σ.ob (500000+n)with|some (.box l)=>yE (.pair s t) l|_=>none)=some x:=hx
   cases hc:zd σ.ob (500000+n)with
   |none=>rw[hc]at hx';cases hx'
   |some o=>
    rw[hc]at hx'
    cases o with
    |box l=>
     refine⟨.inr ⟨l,hc⟩,fun v hv _=> ?_⟩
     rw[hv]
     exact BoxR.mono hS (BoxR.of (h.objs _ _ hc) (show yE (.pair s t) l=some x from hx'))
    |_=>cases hx'
 |slice t=>
  cases co with
  |none=>cases hx
  |some dn=>
   obtain⟨d,n0⟩:=dn
   unfold ioOut1 at hx
   dsimp only at hx
   split at hx
   ·rename_i u xs e m hc
    cases hk:(t.flat||(bif d then e else !e))with
    |false=>rw[hk]at hx;cases hx
    |true=>
     rw[hk]at hx
     obtain⟨ee,rfl⟩:=yP (show(Ty.slice u).as (.slice t) xs=some x from hx)
     cases ee
     refine⟨.inl ⟨_,_,_,_,hc⟩,fun v hv hn0=> ?_⟩
     have e1:n0=false:=by cases n0<;>first|rfl|exact hn0.elim
     subst e1
     rw[hv]
     have ho:=(h.objs _ _ hc).1
     refine⟨?_,fun e=>by cases e⟩
     rcases ho with h1|⟨b,f0,cap,cs,F,Li,e1,e2,e3,e4,e5,e6⟩
     ·exact .inl h1
     ·refine .inr ⟨b,f0,cap,cs,F,Li,e1,e2,e3,e4,e5, ?_⟩
      cases hf:t.flat with
      |true=>exact e6.mapP fun y c l _ hp=>Qn hf hp
      |false=>
       rw[hf,Bool.false_or]at hk
       have e6' :OL t.sz (rowP w S' t e) xs (cs.toList.drop f0) Li:=e6.mapP fun y c l hl hp=>rowP.tell (Same.refl _ _) hS (fun _ _=>rfl) hp
       cases d<;>cases e<;>first|exact e6' |cases hk
   ·cases hx
theorem A1 (h:SRi w0 S0 σ a w Im hd bl){S' :Nat->Prop}(hS:∀b,Im b->S' b):∀ {ios:List RC} {n:Nat} {z:Rden ios} {H:List Value},ioOut σ n ios=some z->(∀c∈ios,IoRC c)->H.length=ios.length->(∀j v,H[j]? =some v->hd (500000+n+j)=v)->
 (∀k∈RR n ios.length,IsOb σ k)/\RCs w S' H ((RR n ios.length).flatMap bl) ios z
 | [],n,z,H,_,_,hl,_=>by
   have:H=[]:=by simpa using hl
   subst this
   exact⟨(fun k hk=>by cases hk),rfl⟩
 | [c],n,z,H,hz,hio,hl,hH=>by
   match H,hl with
   | [v],_=>
     obtain⟨k1,k2⟩:=D4 h hS (show ioOut1 σ n c=some z from hz)
     refine⟨fun k hk=>by have:k=500000+n:=by simpa[RR]using hk
                         subst this;exact k1, ?_⟩
     have hc:=hio c (by simp)
     have hv:v=hd (500000+n):=by have:=hH 0 v rfl;simpa using this.symm
     have:=k2 v hv hc
     show RCR w S' v ((RR n 1).flatMap bl) c z
     have e3:(RR n 1).flatMap bl=bl (500000+n):=by simp[RR]
     rw[e3];exact this
 |c::d::r,n,z,H,hz,hio,hl,hH=>by
  match H,hl with
  |v::u::us,hl=>
   obtain⟨x1,h1,hz⟩:=zgF.1 (show((ioOut1 σ n c).bind fun x=>(ioOut σ (n+1) (d::r)).bind fun y=>some (x,y))=some z from hz)
   obtain⟨x2,h2,hz⟩:=zgF.1 hz
   cases hz
   obtain⟨k1,k2⟩:=D4 h hS h1
   obtain⟨j1,j2⟩:=A1 h hS (ios:=d::r) (n:=n+1) (H:=u::us) h2 (fun c hc=>hio c (by simp[hc])) (by simpa using hl) (fun j v hj=>by have:=hH (j+1) v (by simpa using hj);rw[<-this];congr 1;omega)
   have hc:=hio c (by simp)
   have hv:v=hd (500000+n):=by have:=hH 0 v rfl;simpa using this.symm
   refine⟨fun k hk=> ?_,bl (500000+n),(RR (n+1) (d::r).length).flatMap bl,by simp[RR],k2 v hv hc,j2⟩
   rcases zgO.1 (show k∈(500000+n)::RR (n+1) (d::r).length from hk)with rfl|hk
   ·exact k1
   ·exact j1 k hk
theorem za1 (h:SRi w0 S0 σ a w Im hd bl):∀(l:List Nat),l.Nodup->(∀k∈l,IsOb σ k)->(l.flatMap bl).Nodup:=by
 intro l
 induction l with
 |nil=>intro _ _;simp
 |cons k l ih=>
  intro hl hr
  rw[zgV]at hl
  rw[List.flatMap_cons,zgM]
  obtain⟨o0,hg⟩:=(hr k (by simp)).some
  refine⟨(h.own k _ hg).1,ih hl.2 (fun k' hk' =>hr k' (by simp[hk'])),fun b hb b' hb' e=> ?_⟩
  subst e
  obtain⟨k',hk',hb'⟩:=zgP.1 hb'
  obtain⟨o',hg'⟩:=(hr k' (by simp[hk'])).some
  exact h.apart k _ k' _ hg hg' (fun e=>hl.1 (e▸hk')) b hb hb'
theorem zeS {E:Env}(hE:∀T ti,E.ty T=some ti->TyOk P T ti)(h:SRi w0 S0 σ a w Im hd bl){fn:Func}{res:List ResultVar}(hres:fn.results.toList=res){rs:List (Bool×List RC)}{ios:List RC}(hio:∀c∈ios,IoRC c)(hl:w0.hs.length=ios.length){y:Oden (zm rs) ios}(hr:aRetI E res rs σ ios=some y):
 ∃v,(results fn a.tmps).run P w= .ok v w/\ResR w0 w S0 rs ios w0.hs y v:=by
 cases ios with
 |nil=>
  obtain⟨S',vs,L,h1,h2,h3,h4,h5,h6,h7⟩:=C9 hE h hres hr (fun _=>True) (fun _ _ _ _ _ _=>trivial)
  have hh:w0.hs=[]:=by simpa using hl
  refine⟨_,h1,S',vs,L,[],rfl,h2,fun b hb=> ?_,by simpa using h5,fun b hb=> ?_,h7,by rw[hh];rfl⟩
  ·rcases h4 b hb with h8|⟨k,_,⟨o,hg⟩,hb⟩
   ·exact(h.new b h8).imp_right fun h9=>⟨h9,h.lt b h8⟩
   ·have:=(h.own k _ hg).2 b hb;exact .inr ⟨this.1,this.2.1⟩
  ·have hb' :b∈L:=by simpa using hb
   obtain⟨⟨k,_,hob,hbk⟩,hn⟩:=h6 b hb'
   obtain⟨o,hg⟩:=hob.some
   have:=(h.own k _ hg).2 b hbk
   exact⟨this.1,this.2.1,hn⟩
 |cons i r=>
  have hr2:(match vT E σ res rs with
   |some w=>chk (lowB w) ((aRet E res rs σ).bind fun y=>(ioOut σ 0 (i::r)).bind fun z=>some (y,z))
   |none=>none)=some y:=hr
  clear hr
  have hr:=hr2
  clear hr2
  split at hr
  ·rename_i l hp
   obtain⟨hlow,hr⟩:=zb hr
   obtain⟨y1,hy1,hr⟩:=zgF.1 hr
   obtain⟨z,hz,hr⟩:=zgF.1 hr
   cases hr
   obtain⟨S',vs,L,h1,h2,h3,h4,h5,h6,h7⟩:=C9 hE h hres hy1 (fun k=>k<500000) (fun l' hl' v hv k hk=>by
    rw[hp]at hl';cases hl'
    have:=zgS.1 (zgS.1 hlow v hv) k hk
    exact TJ this)
   obtain⟨j1,j2⟩:=A1 h h3 (n:=0) (H:=w0.hs) hz hio hl (fun j v hj=>by simpa using h.io j v hj)
   have hfar:∀b k,k<500000->IsEx σ k->b∈bl k->b∉(RR 0 (i::r).length).flatMap bl:=fun b k hk ⟨o,hg⟩ hb hb2=>by
    obtain⟨k',hk',hb2⟩:=zgP.1 hb2
    obtain⟨o',hg'⟩:=(j1 k' hk').some
    have:=FS hk'
    exact h.apart k _ k' _ hg hg' (fun e=>by omega) b hb hb2
   refine⟨_,h1,S',vs,L,(RR 0 (i::r).length).flatMap bl,rfl,h2,fun b hb=> ?_, ?_,fun b hb=> ?_,h7,j2⟩
   ·rcases h4 b hb with h8|⟨k,_,⟨o,hg⟩,hb⟩
    ·exact(h.new b h8).imp_right fun h9=>⟨h9,h.lt b h8⟩
    ·have:=(h.own k _ hg).2 b hb;exact .inr ⟨this.1,this.2.1⟩
   ·rw[zgM]
    refine⟨h5,za1 h _ (KY _ _) j1,fun b hb b' hb' e=> ?_⟩
    subst e
    obtain⟨⟨k,hk,hrow,hbk⟩,_⟩:=h6 b hb
    exact hfar b k hk hrow.some hbk hb'
   ·rcases zgz.1 hb with hb|hb
    ·obtain⟨⟨k,_,hob,hbk⟩,hn⟩:=h6 b hb
     obtain⟨o,hg⟩:=hob.some
     have:=(h.own k _ hg).2 b hbk
     exact⟨this.1,this.2.1,hn⟩
    ·obtain⟨k',hk',hb2⟩:=zgP.1 hb
     obtain⟨o',hg'⟩:=(j1 k' hk').some
     have:=(h.own k' _ hg').2 b hb2
     refine⟨this.1,this.2.1,fun hS=> ?_⟩
     rcases h4 b hS with h8|⟨k,hk,hrow,hbk⟩
     ·exact this.2.2 h8
     ·exact hfar b k hk hrow hbk hb
  ·cases hr
end
section
variable {P:Program} {ρ:Type} {gw:Gw} {w0:Base gw} {w:World} {S0:Nat->Prop} {σ σ' :St} {a:Act} {Im:Nat->Prop} {hd:Nat->Value} {bl:Nat->List Nat} {Q:Exit->Act->World->Prop}
def u6 (σ σ' :St)(l:List Nat):Prop:=∀c∈l,zd σ'.ob c=zd σ.ob c
theorem zbK {c:CV}(h:u6 σ σ' c.owns):aNil σ' c=aNil σ c:=by
 cases c with
 |own k=>unfold aNil;dsimp only;rw[h k (by simp[CV.owns])]
 |val t x=>cases t<;>rfl
 |_=>rfl
theorem zbP {E:Env}{op:BinOp}{T:Nat}{x y:AV}{next:AV->Option ρ}(h:u6 σ σ' (mkeys x)):aBin E σ' op T x y next=aBin E σ op T x y next:=by
 cases x with
 |cv c=>
  have hn:aNil σ' c=aNil σ c:=zbK h
  unfold aBin
  split<;>first|rfl|(simp only[hn])|skip
  all_goals first|rfl|(simp_all)
 |_=>unfold aBin;split<;>first|rfl|contradiction
theorem B4 {E:Env}{T:Nat}{x:AV}{next:AV->Option ρ}(h:u6 σ σ' (mkeys x)):UN E σ' T x next=UN E σ T x next:=by
 unfold UN
 cases P8 E T with
 |none=>rfl
 |some p=>
  cases x with
  |adr c o=>dsimp only;rw[h c (by simp[mkeys])]
  |el c m i o=>dsimp only;rw[h c (by simp[mkeys])]
  |_=>rfl
theorem MO {E:Env}{T:Nat}{x:AV}{i:Int}{next:AV->Option ρ}(h:u6 σ σ' (mkeys x)):yN E σ' T x i next=yN E σ T x i next:=by
 unfold yN
 split
 ·rfl
 ·rename_i c _;rw[h c (by simp[mkeys,CV.owns])]
 ·rename_i c _;rw[h c (by simp[mkeys])]
 ·rfl
theorem zbM {E:Env}{T:Nat}{x:AV}{next:AV->Option ρ}(h:u6 σ σ' (mkeys x)):aLen E σ' T x next=aLen E σ T x next:=by
 unfold aLen
 split
 ·rfl
 ·split
  ·rfl
  ·rfl
  ·rename_i c;rw[h c (by simp[mkeys,CV.owns])]
  ·rfl
 ·rfl
theorem u3 {t:Ty}{c:CV}(h:u6 σ σ' c.owns):σ'.cvAs t c=σ.cvAs t c:=by
 cases c with
 |own k=>unfold St.cvAs;dsimp only;rw[h k (by simp[CV.owns])]
 |_=>rfl
theorem Aj {E:Env}{S D:Nat}{x:AV}{next:AV->Option ρ}(h:u6 σ σ' (mkeys x)):Na E σ' S D x next=Na E σ S D x next:=by
 unfold Na
 split
 ·rfl
 ·rfl
 ·rw[u3 h]
 ·rfl
theorem Us:∀ {t:Ty} {l:List CV},u6 σ σ' (zf l)->σ'.impl t l=σ.impl t l
 | .int k,l,h=>by
   unfold St.impl
   match l,h with| [],_=>rfl| [c],h=>exact u3 (fun k hk=>h k (by simp[zf,hk]))|_::_::_,_=>rfl
 | .bool,l,h=>by
   unfold St.impl
   match l,h with| [],_=>rfl| [c],h=>exact u3 (fun k hk=>h k (by simp[zf,hk]))|_::_::_,_=>rfl
 | .str,l,h=>by
   unfold St.impl
   match l,h with| [],_=>rfl| [c],h=>exact u3 (fun k hk=>h k (by simp[zf,hk]))|_::_::_,_=>rfl
 | .set,l,h=>by
   unfold St.impl
   match l,h with| [],_=>rfl| [c],h=>exact u3 (fun k hk=>h k (by simp[zf,hk]))|_::_::_,_=>rfl
 | .err,l,h=>by
   unfold St.impl
   match l,h with| [],_=>rfl| [c],h=>exact u3 (fun k hk=>h k (by simp[zf,hk]))|_::_::_,_=>rfl
 | .slice t,l,h=>by
   unfold St.impl
   match l,h with| [],_=>rfl| [c],h=>exact u3 (fun k hk=>h k (by simp[zf,hk]))|_::_::_,_=>rfl
 | .pair s t,l,h=>by
   unfold St.impl
   have h1:u6 σ σ' (zf (l.take s.sz)):=fun k hk=>h k (by
    obtain⟨c,hc,hk⟩:=zgP.1 hk
    exact zgP.2 ⟨c,List.mem_of_mem_take hc,hk⟩)
   have h2:u6 σ σ' (zf (l.drop s.sz)):=fun k hk=>h k (by
    obtain⟨c,hc,hk⟩:=zgP.1 hk
    exact zgP.2 ⟨c,List.mem_of_mem_drop hc,hk⟩)
   rw[Us h1,Us h2]
theorem Nf {c:PC}{v:CV}(h:u6 σ σ' v.owns):σ'.toCell c v=σ.toCell c v:=by
 cases c with
 |v t=>cases v<;>rfl
 |o t d=>
  cases v with
  |own k=>unfold St.toCell;dsimp only;rw[h k (by simp[CV.owns])]
  |_=>rfl
theorem Yh:∀ {cs:List PC} {l:List CV},u6 σ σ' (zf l)->σ'.toCells cs l=σ.toCells cs l
 | [],[],_=>rfl
 | [],_::_,_=>rfl
 | [_],[],_=>rfl
 | [c],[v],h=>Nf (c:=c) (fun k hk=>h k (by simp[zf,hk]))
 | [_],_::_::_,_=>rfl
 |_::_::_,[],_=>rfl
 |c::d::r,v::l,h=>by
  show((σ'.toCell c v).bind fun x=>(σ'.toCells (d::r) l).bind fun y=>some (x,y))=((σ.toCell c v).bind fun x=>(σ.toCells (d::r) l).bind fun y=>some (x,y))
  rw[Nf (fun k hk=>h k (by simp[zf,hk])),Yh (cs:=d::r) (fun k hk=>h k (by
   obtain⟨c,hc,hk⟩:=zgP.1 hk
   exact zgP.2 ⟨c,by simp[hc],hk⟩))]
theorem TH {t:Ty}{l:List CV}(h:u6 σ σ' (zf l)):σ'.capCells t l=σ.capCells t l:=by
 match l,h with
 | [],_=>rfl
 | .nil::_,_=>rfl
 | .val _ _::_,_=>rfl
 | .unk::_,_=>rfl
 | .dead::_,_=>rfl
 | .own c::ks,h=>
   have e:=h c (by simp[zf,CV.owns])
   show(match zd σ'.ob c with|some (.box m)=>bif(zf m).all fun k=>hasB k (zf ks)then σ'.impl t m else none|_=>none)=(match zd σ.ob c with|some (.box m)=>bif(zf m).all fun k=>hasB k (zf ks)then σ.impl t m else none|_=>none)
   rw[e]
   cases hc:zd σ.ob c with
   |none=>rfl
   |some o=>
    cases o with
    |box m=>
     dsimp only
     cases hk:((zf m).all fun k=>hasB k (zf ks))with
     |false=>rfl
     |true=>
      simp only[zgJ]
      refine Us (fun k hk1=>h k ?_)
      have:=Eg.1 (zgS.1 hk k hk1)
      unfold zf at this⊢
      rw[List.flatMap_cons]
      exact zgz.2 (.inr this)
    |_=>rfl
theorem N2:∀ {ts:List Ty} {caps:List (List CV)},u6 σ σ' (caps.flatMap zf)->σ'.capsTo ts caps=σ.capsTo ts caps
 | [],[],_=>rfl
 | [],_::_,_=>rfl
 | [_],[],_=>rfl
 | [t],[l],h=>TH (fun k hk=>h k (by simpa using hk))
 | [_],_::_::_,_=>rfl
 |_::_::_,[],_=>rfl
 |t::u::r,l::ls,h=>by
  show((σ'.capCells t l).bind fun x=>(σ'.capsTo (u::r) ls).bind fun y=>some (x,y))=((σ.capCells t l).bind fun x=>(σ.capsTo (u::r) ls).bind fun y=>some (x,y))
  rw[TH (fun k hk=>h k (by rw[List.flatMap_cons];exact zgz.2 (.inl hk))),N2 (ts:=u::r) (fun k hk=>h k (by rw[List.flatMap_cons];exact zgz.2 (.inr hk)))]
theorem Lj {p:PT}{av:AV}(h:u6 σ σ' (mkeys av)):σ'.toArg p av=σ.toArg p av:=by
 cases p with
 |v t agg=>
  cases av with
  |cv c=>unfold St.toArg;dsimp only;rw[u3 h]
  |ag l=>unfold St.toArg;dsimp only;rw[Us h]
  |_=>rfl
 |r t=>cases av<;>rfl
 |z t=>cases av<;>first|rfl|(rename_i c;cases c<;>rfl)
 |fn f ts=>
  cases av with
  |fn g caps=>
   show(bif Nat.beq f g then σ'.capsTo ts caps else none)=(bif Nat.beq f g then σ.capsTo ts caps else none)
   rw[N2 h]
  |_=>rfl
 |o cs agg=>
  cases av with
  |cv c=>
   show(bif agg then none else σ'.toCells cs [c])=(bif agg then none else σ.toCells cs [c])
   rw[Yh (fun k hk=>h k (by simpa[zf,mkeys]using hk))]
  |ag l=>
   show(bif agg then σ'.toCells cs l else none)=(bif agg then σ.toCells cs l else none)
   rw[Yh (fun k hk=>h k hk)]
  |_=>rfl
 |p s t=>
  cases av with
  |adr c o=>
   cases o with
   |zero=>
    show(match zd σ'.ob c with|some (.box l)=>yE (.pair s t) l|_=>none)=(match zd σ.ob c with|some (.box l)=>yE (.pair s t) l|_=>none)
    rw[h c (by simp[mkeys])]
   |succ o=>rfl
  |_=>rfl
theorem Ng:∀ {ps:List PT} {avs:List AV},(∀av∈avs,u6 σ σ' (mkeys av))->σ'.toArgs ps avs=σ.toArgs ps avs
 | [],[],_=>rfl
 | [],_::_,_=>rfl
 | [_],[],_=>rfl
 | [p],[v],h=>Lj (h v (by simp))
 | [_],_::_::_,_=>rfl
 |_::_::_,[],_=>rfl
 |p::q::r,v::vs,h=>by
  unfold St.toArgs
  rw[Lj (h v (by simp)),Ng (ps:=q::r) (fun av hav=>h av (by simp[hav]))]
structure Agree (ops:Array Oper)(o:Oper)(σ σ' :St):Prop where
 slot:∀t∈o.looksAt ops,vg σ'.sl t=vg σ.sl t
 key:∀t∈o.looksAt ops,∀c∈mkeys (vg σ.sl t),zd σ'.ob c=zd σ.ob c
theorem zbb (v:Value):mkeys (cval v)=[]:=by unfold cval;split<;>rfl
theorem Agree.ev {ops:Array Oper}{o:Oper}(h:Agree ops o σ σ'){x:Operand}(hx:x∈o.op.operands):σ'.ev x=σ.ev x/\u6 σ σ' (mkeys (σ.ev x)):=by
 cases x with
 |tmp t=>
  have ht:t∈o.looksAt ops:=List.mem_append_left _ (List.mem_filterMap.2 ⟨.tmp t,by simpa using hx,rfl⟩)
  exact⟨h.slot t ht,fun c hc=>h.key t ht c hc⟩
 |const v=>exact⟨rfl,fun c hc=>by have e:mkeys (σ.ev (.const v))=[]:=zbb v;rw[e]at hc;cases hc⟩
 |global g=>exact⟨rfl,fun c hc=>by cases hc⟩
 |func f=>exact⟨rfl,fun c hc=>by cases hc⟩
theorem zaM {u:Ty}{x:u.den}{l:List CV}(h0:zf l=[])(hf:u.flat=true)(h:σ.treeB l=true):σ.treeB (CV.val u x::l)=true:=by
 unfold St.treeB at h⊢
 rw[zgx]at h⊢
 exact⟨h.1,by rw[List.all_cons,h.2];simp[hf]⟩
theorem Qw {t:Ty}{n:Nat}(ht:oneB t=true):∀ {parts:List (Nat×AV)} {i:Nat} {xs:List t.den},dParts t n i parts=some xs->
 ∃l,TK σ t n i parts=some (l,xs)/\zf l=[]/\σ.treeB l=true
 | [],i,xs,h=>by
   unfold dParts at h
   cases hb:Nat.beq i n with
   |false=>rw[hb]at h;cases h
   |true=>
    rw[hb]at h
    cases h
    exact⟨[],by unfold TK;rw[hb];rfl,rfl,rfl⟩
 |(j,v)::r,i,xs,h=>by
  unfold dParts at h
  split at h
  ·rename_i u x
   cases hb:Nat.beq i j with
   |false=>rw[hb]at h;cases h
   |true=>
    rw[hb,zgJ]at h
    split at h
    ·rename_i y ys hy hr
     cases h
     obtain⟨l,h1,h2,h3⟩:=Qw ht hr
     have hi:σ.impl t [CV.val u x]=some y:=by
      cases t with
      |int k=>exact hy
      |bool=>exact hy
      |str=>exact hy
      |slice t=>cases ht
      |pair a b=>cases ht
      |set=>cases ht
      |err=>exact hy
     have hf:u.flat=true:=by
      obtain⟨e,_⟩:=yP hy
      subst e
      cases u with
      |int k=>rfl
      |bool=>rfl
      |str=>rfl
      |slice t=>cases ht
      |pair a b=>cases ht
      |set=>cases ht
      |err=>rfl
     refine⟨CV.val u x::l, ?_,h2, ?_⟩
     ·unfold TK
      rw[hb,zgJ]
      have hc:σ.cells (.cv (.val u x))=some [CV.val u x]:=rfl
      rw[hc]
      dsimp only
      rw[hi,h1]
      rfl
     ·exact zaM h2 hf h3
    ·cases h
  ·cases h
theorem Gv {c:CV}(h:u6 σ σ' c.owns):σ'.live c=σ.live c:=by
 cases c with
 |own c=>unfold St.live;dsimp only;rw[h c (by simp[CV.owns])]
 |_=>rfl
theorem KQ:∀ {l:List CV},u6 σ σ' (zf l)->l.all σ'.live=l.all σ.live
 | [],_=>rfl
 |c::l,h=>by
  rw[List.all_cons,List.all_cons,Gv (fun k hk=>h k (by simp[zf,hk])),KQ (l:=l) (fun k hk=>h k (by
   obtain⟨c',hc,hk⟩:=zgP.1 hk
   exact zgP.2 ⟨c',by simp[hc],hk⟩))]
theorem SC {v:AV}(h:u6 σ σ' (mkeys v)):σ'.cells v=σ.cells v:=by
 cases v with
 |cv c=>unfold St.cells;dsimp only;rw[Gv h]
 |ag l=>unfold St.cells;dsimp only;rw[KQ h]
 |_=>rfl
theorem N5 {E:Env}{T:Nat}:∀ {ps:List (Nat×AV)} {z:List CV},(∀p∈ps,u6 σ σ' (mkeys p.2))->X1 E σ' T ps z=X1 E σ T ps z
 | [],z,_=>rfl
 |(f,v)::r,z,h=>by
  unfold X1
  rw[SC (h (f,v) (by simp))]
  have ih:∀z,X1 E σ' T r z=X1 E σ T r z:=fun z=>N5 fun p hp=>h p (by simp[hp])
  simp only[ih]
theorem CL {E:Env}{K:List Nat}{T:Nat}{x v:AV}{next:AV->List (Nat×Ob)->Option ρ}(hx:u6 σ σ' (mkeys x))(hv:u6 σ σ' (mkeys v)):JM E σ' K T x v next=JM E σ K T x v next:=by
 unfold JM
 rw[SC hv]
 split
 ·rename_i c o _ _
  rw[hx c (by simp[mkeys])]
 ·rfl
theorem JO {t:Ty}{d:Nat}{y:AV}{xs:List t.den}{dp cn:Bool}{next:AV->List (Nat×Ob)->Option ρ}(h:u6 σ σ' (mkeys y)):P2 σ' t d y xs dp cn next=P2 σ t d y xs dp cn next:=by
 unfold P2
 split
 ·rfl
 ·rfl
 ·rename_i c
  rw[h c (by simp[mkeys,CV.owns])]
 ·rfl
theorem Ep {E:Env}{K:List Nat}{T d:Nat}{x y:AV}{next:AV->List (Nat×Ob)->Option ρ}(hx:u6 σ σ' (mkeys x))(hy:u6 σ σ' (mkeys y)):bW E σ' K T d x y next=bW E σ K T d x y next:=by
 unfold bW
 split
 ·congr 1
  split
  ·exact JO hy
  ·rename_i c
   rw[hx c (by simp[mkeys,CV.owns])]
   congr 1
   split
   ·split
    ·exact JO hy
    ·rfl
   ·rfl
  ·rfl
 ·rfl
theorem QD:∀ {xs:List Operand},(∀x∈xs,σ'.ev x=σ.ev x/\u6 σ σ' (mkeys (σ.ev x)))->σ'.capLive xs=σ.capLive xs
 | [],_=>rfl
 |x::xs,h=>by
  obtain⟨h1,h2⟩:=h x (by simp)
  have ih:=QD (xs:=xs) fun y hy=>h y (by simp[hy])
  unfold St.capLive
  rw[h1,ih]
  split
  ·rfl
  ·rename_i c he
   rw[he]at h2
   rw[h2 c (by simp[mkeys])]
  ·rfl
theorem zdb {E:Env}{ck:(fi:Fi)->Aden fi.ps->Option (Oden (zm fi.rs) (ioOf fi.ps))}{ops:Array Oper}{o:Oper}(h:Agree ops o σ σ'){K:List Nat}{next:AV->List (Nat×Ob)->Option ρ}:dOp E σ' ck K o next=dOp E σ ck K o next:=by
 have hx:∀x∈o.op.operands,σ'.ev x=σ.ev x/\u6 σ σ' (mkeys (σ.ev x)):=fun x hx=>h.ev hx
 clear h
 unfold dOp
 cases ho:o.op with
 |move x=>rw[ho]at hx;dsimp only;rw[(hx x (by simp[Op.operands])).1]
 |assign x=>rw[ho]at hx;dsimp only;rw[(hx x (by simp[Op.operands])).1]
 |pick c x y=>rw[ho]at hx;dsimp only;rw[(hx c (by simp[Op.operands])).1,(hx x (by simp[Op.operands])).1,(hx y (by simp[Op.operands])).1]
 |load T x=>rw[ho]at hx;have k:=hx x (by simp[Op.operands]);dsimp only;rw[k.1,B4 k.2]
 |nilCheck x=>rw[ho]at hx;dsimp only;rw[(hx x (by simp[Op.operands])).1]
 |binOp op T x y U=>rw[ho]at hx;have k:=hx x (by simp[Op.operands]);dsimp only;rw[k.1,(hx y (by simp[Op.operands])).1,zbP k.2]
 |unOp op T x=>rw[ho]at hx;dsimp only;rw[(hx x (by simp[Op.operands])).1]
 |convert S D x=>rw[ho]at hx;have k:=hx x (by simp[Op.operands]);dsimp only;rw[k.1,Aj k.2]
 |makeSlice T n c=>rw[ho]at hx;dsimp only;rw[(hx n (by simp[Op.operands])).1,(hx c (by simp[Op.operands])).1]
 |buildSlice T n ps=>
  rw[ho]at hx
  have hmap:ps.toList.map (fun p=>(p.1,σ'.ev p.2))=ps.toList.map fun p=>(p.1,σ.ev p.2):=List.map_congr_left fun p hp=>by
   rw[(hx p.2 (by simp only[Op.operands];exact List.mem_toArray.2 (zgY.2 ⟨p,hp,rfl⟩))).1]
  dsimp only
  rw[hmap]
 |store T x v=>rw[ho]at hx;have k:=hx x (by simp[Op.operands]);have k2:=hx v (by simp[Op.operands]);dsimp only;rw[k.1,k2.1,CL k.2 k2.2]
 |alloc T=>rfl
 |box T x=>
  rw[ho]at hx
  have k:=hx x (by simp[Op.operands])
  dsimp only
  split
  ·unfold dBox;rw[k.1,SC k.2]
  ·rfl
 |build T ps=>
  rw[ho]at hx
  have hev:∀p∈ps.toList,σ'.ev p.2=σ.ev p.2/\u6 σ σ' (mkeys (σ.ev p.2)):=fun p hp=>hx p.2 (by simp only[Op.operands];exact List.mem_toArray.2 (zgY.2 ⟨p,hp,rfl⟩))
  have hmap:ps.toList.map (fun p=>(p.1,σ'.ev p.2))=ps.toList.map fun p=>(p.1,σ.ev p.2):=List.map_congr_left fun p hp=>by rw[(hev p hp).1]
  dsimp only
  split
  ·rw[hmap,N5 fun q hq=>by
    obtain⟨p,hp,rfl⟩:=zgY.1 hq
    exact(hev p hp).2]
  ·rfl
 |slice T x lo hi mx=>
  rw[ho]at hx
  have k:=hx x (by simp[Op.operands])
  have kl:lo.map σ'.ev=lo.map σ.ev:=by cases lo with|none=>rfl|some u=>exact congrArg some (hx u (by simp[Op.operands])).1
  have kh:hi.map σ'.ev=hi.map σ.ev:=by cases hi with|none=>rfl|some u=>exact congrArg some (hx u (by simp[Op.operands])).1
  dsimp only
  rw[k.1,kl,kh]
 |fieldAddr T x f=>rw[ho]at hx;dsimp only;rw[(hx x (by simp[Op.operands])).1]
 |field T x f=>rw[ho]at hx;dsimp only;rw[(hx x (by simp[Op.operands])).1]
 |indexAddr T x i=>rw[ho]at hx;have k:=hx x (by simp[Op.operands]);dsimp only;rw[k.1,(hx i (by simp[Op.operands])).1];split<;>first|rfl|exact MO k.2
 |index T x i=>rw[ho]at hx;dsimp only;rw[(hx x (by simp[Op.operands])).1,(hx i (by simp[Op.operands])).1]
 |extract x i=>rw[ho]at hx;dsimp only;rw[(hx x (by simp[Op.operands])).1]
 |call c=>
  rw[ho]at hx
  have hargs:∀x∈c.args.toList,σ'.ev x=σ.ev x/\u6 σ σ' (mkeys (σ.ev x)):=fun x hm=>hx x (by
   simp only[Op.operands,Call.operands]
   exact Array.mem_append.2 (.inr (by simpa using hm)))
  have hmap:c.args.toList.map σ'.ev=c.args.toList.map σ.ev:=List.map_congr_left fun x hm=>(hargs x hm).1
  dsimp only
  split
  ·split
   ·rename_i x hl _
    have k:=hargs x (by rw[hl];simp)
    split
    ·rw[k.1,zbM k.2]
    ·rfl
   ·rename_i x y hl _
    have k:=hargs x (by rw[hl];simp)
    have k2:=hargs y (by rw[hl];simp)
    split
    ·split
     ·rw[k.1,k2.1,Ep k.2 k2.2]
     ·rfl
    ·rfl
   ·rw[hmap]
   ·rw[hmap]
   ·rfl
  ·rename_i f hf
   rw[hmap]
   unfold B6
   split
   ·rfl
   ·rename_i fi hfi
    rw[Ng (σ:=σ) (σ' :=σ') (fun av hav=>by
     obtain⟨x,hm,rfl⟩:=zgY.1 hav
     exact(hargs x hm).2)]
  ·rfl
 |makeFunc fn first caps=>
  rw[ho]at hx
  cases fn with
  |func f=>
   dsimp only
   rw[QD (σ:=σ) (σ' :=σ') (fun x hm=>hx x (by simp only[Op.operands];simp at hm⊢;simp[hm]))]
  |_=>rfl
 |_=>rfl
theorem yr {b:Bool}{x y:Option ρ}(hb:b=true)(h:x=y):chk b x=y:=by subst hb;exact h
theorem xv {β:Type}(b:Bool)(x:Option ρ)(f:ρ->Option β):(chk b x).bind f=chk b (x.bind f):=by cases b<;>rfl
theorem Uo {A:Option AV}{f:(ρ' :Type)->(AV->Option ρ')->Option ρ'}(hb:∀ρ' (n:AV->Option ρ'),f ρ' n=A.bind n){next:AV->Option ρ}{r:ρ}(h:f ρ next=some r):∃v,next v=some r/\∀(ρ' :Type) (next' :AV->Option ρ'),f ρ' next' =next' v:=by
 rw[hb]at h
 obtain⟨v,hv,h⟩:=zgF.1 h
 exact⟨v,h,fun ρ' n=>by rw[hb,hv];rfl⟩
theorem zdL {E:Env}{op:BinOp}{T:Nat}{x y:AV}{next:AV->Option ρ}:aBin E σ op T x y next=(aBin E σ op T x y some).bind next:=by
 unfold aBin
 split
 ·rw[xv];rfl
 ·rw[xv];rfl
 ·rw[xv];congr 1;split<;>first|rfl|(rw[xv];rfl)
 ·split<;>first|rfl|(rw[xv];rfl)
 ·split<;>rfl
 ·split<;>rfl
 ·split
  ·rename_i ok r _ _;cases ok<;>rfl
  ·rfl
 ·split
  ·rename_i ok r _ _;cases ok<;>rfl
  ·rfl
 ·split
  ·split<;>rfl
  ·rfl
 ·split
  ·split<;>rfl
  ·rfl
 ·rfl
theorem zeX {E:Env}{op:BinOp}{T:Nat}{x y:AV}{next:AV->Option ρ}{r:ρ}(h:aBin E σ op T x y next=some r):∃v,next v=some r/\∀(ρ' :Type) (next' :AV->Option ρ'),aBin E σ op T x y next' =next' v:=
 Uo (f:=fun ρ' n=>aBin E σ op T x y n) (fun _ _=>zdL) h
theorem zbx {E:Env}{T:Nat}{x:AV}{next:AV->Option ρ}:UN E σ T x next=(UN E σ T x some).bind next:=by
 unfold UN
 split
 ·rfl
 ·split
  ·split<;>first|rfl|(rw[xv];rfl)
  ·rw[xv];rfl
  ·split<;>first|rfl|(rw[xv,xv];rfl)
  ·rfl
theorem zdd {E:Env}{T:Nat}{x:AV}{next:AV->Option ρ}{r:ρ}(h:UN E σ T x next=some r):∃v,next v=some r/\∀(ρ' :Type) (next' :AV->Option ρ'),UN E σ T x next' =next' v:=
 Uo (f:=fun ρ' n=>UN E σ T x n) (fun _ _=>zbx) h
theorem J4 {E:Env}{T:Nat}{x:AV}{i:Int}{next:AV->Option ρ}:yN E σ T x i next=(yN E σ T x i some).bind next:=by
 unfold yN
 split
 ·rw[xv,xv,xv];rfl
 ·split<;>first|rfl|(rw[xv,xv,xv];rfl)
 ·split<;>first|rfl|(rw[xv,xv,xv];rfl)
 ·rfl
theorem HW {E:Env}{T:Nat}{x:AV}{i:Int}{next:AV->Option ρ}{r:ρ}(h:yN E σ T x i next=some r):∃v,next v=some r/\∀(ρ' :Type) (next' :AV->Option ρ'),yN E σ T x i next' =next' v:=
 Uo (f:=fun ρ' n=>yN E σ T x i n) (fun _ _=>J4) h
theorem HV {E:Env}{T:Nat}{x:AV}{i:Int}{next:AV->Option ρ}:uo E T x i next=(uo E T x i some).bind next:=by
 unfold uo
 split
 ·rw[xv,xv];rfl
 ·rfl
theorem EK {E:Env}{T:Nat}{x:AV}{i:Int}{next:AV->Option ρ}{r:ρ}(h:uo E T x i next=some r):∃v,next v=some r/\∀(ρ' :Type) (next' :AV->Option ρ'),uo E T x i next' =next' v:=
 Uo (f:=fun ρ' n=>uo E T x i n) (fun _ _=>HV) h
theorem zbO {E:Env}{S D:Nat}{x:AV}{next:AV->Option ρ}:Na E σ S D x next=(Na E σ S D x some).bind next:=by
 unfold Na
 split<;>first|rfl|(split<;>rfl)
theorem zdI {E:Env}{S D:Nat}{x:AV}{next:AV->Option ρ}{r:ρ}(h:Na E σ S D x next=some r):∃v,next v=some r/\∀(ρ' :Type) (next' :AV->Option ρ'),Na E σ S D x next' =next' v:=
 Uo (f:=fun ρ' n=>Na E σ S D x n) (fun _ _=>zbO) h
theorem zdG {E:Env}{T:Nat}{x:AV}{next:AV->Option ρ}:aLen E σ T x next=(aLen E σ T x some).bind next:=by
 unfold aLen
 split
 ·split<;>rfl
 ·split
  ·rfl
  ·rfl
  ·split<;>rfl
  ·rfl
 ·rfl
theorem zeT {E:Env}{T:Nat}{x:AV}{next:AV->Option ρ}{r:ρ}(h:aLen E σ T x next=some r):∃v,next v=some r/\∀(ρ' :Type) (next' :AV->Option ρ'),aLen E σ T x next' =next' v:=
 Uo (f:=fun ρ' n=>aLen E σ T x n) (fun _ _=>zdG) h
def NewOk (ks:List Nat)(N:List (Nat×Ob)):Prop:=(N.map (·.1)).Nodup/\(∀p∈N,p.1∈ks)/\∀p∈N,XK p.2=[]
theorem NewOk.none (ks:List Nat):NewOk ks []:=⟨List.nodup_nil,(fun p hp=>by cases hp),(fun p hp=>by cases hp)⟩
theorem UC {d j:Nat}{c:RC}{x:c.t.den}:∀p∈(dOne d j c x).2,p.1=d+1000*j/\p.1∈(match c with|⟨.slice _,some _⟩=> [d+1000*j]|⟨.pair _ _,some _⟩=> [d+1000*j]|_=> [])/\XK p.2=[]:=by
 obtain⟨t,o⟩:=c
 intro p hp
 cases t with
 |slice t=>
  cases o with
  |none=>cases hp
  |some dn=>
   obtain⟨dd,n⟩:=dn
   have:p=(d+1000*j,Ob.row t x dd n):=by simpa[dOne]using hp
   subst this
   exact⟨rfl,by simp,rfl⟩
 |int k=>cases hp
 |bool=>cases hp
 |str=>cases hp
 |pair s t=>cases o<;>cases hp
 |set=>cases hp
 |err=>cases hp
theorem GS {d j:Nat}{c:RC}{x:c.t.den}:((dOne d j c x).2.map (·.1)).Nodup:=by
 obtain⟨t,o⟩:=c
 cases t with
 |slice t=>cases o with|none=>exact List.nodup_nil|some dn=>simp[dOne]
 |int k=>exact List.nodup_nil
 |bool=>exact List.nodup_nil
 |str=>exact List.nodup_nil
 |pair s t=>cases o<;>exact List.nodup_nil
 |set=>exact List.nodup_nil
 |err=>exact List.nodup_nil
theorem Si {d:Nat}:∀ {rs:List RC} {j k:Nat},k∈jA d j rs->∃i,j<=i/\k=d+1000*i
 | [],j,k,h=>by cases h
 |c::r,j,k,h=>by
  unfold jA at h
  rcases zgz.1 h with h|h
  ·refine⟨j,zgC _, ?_⟩
   split at h
   ·simpa using h
   ·simpa using h
   ·cases h
  ·obtain⟨i,h1,h2⟩:=Si h
   exact⟨i,by omega,h2⟩
theorem GT {d:Nat}:∀ {rs:List RC} {j:Nat} {y:Rden rs},NewOk (jA d j rs) (VY d j rs y).2
 | [],j,y=>NewOk.none _
 | [c],j,y=>⟨GS,fun p hp=>zgz.2 (.inl (UC p hp).2.1),fun p hp=>(UC p hp).2.2⟩
 |c::e::r,j,y=>by
  have ih:=GT (d:=d) (rs:=e::r) (j:=j+1) (y:=y.2)
  refine⟨?_,fun p hp=> ?_,fun p hp=> ?_⟩
  ·show(((VY d (j+1) (e::r) y.2).2++(dOne d j c y.1).2).map (·.1)).Nodup
   rw[List.map_append,zgM]
   refine⟨ih.1,GS,fun k hk k' hk' e' => ?_⟩
   obtain⟨p,hp,rfl⟩:=zgY.1 hk
   obtain⟨p',hp',rfl⟩:=zgY.1 hk'
   obtain⟨i,hi,e1⟩:=Si (ih.2.1 p hp)
   have e2:=(UC p' hp').1
   omega
  ·rcases zgz.1 (show p∈(VY d (j+1) (e::r) y.2).2++(dOne d j c y.1).2 from hp)with hp|hp
   ·exact zgz.2 (.inr (ih.2.1 p hp))
   ·exact zgz.2 (.inl (UC p hp).2.1)
  ·rcases zgz.1 (show p∈(VY d (j+1) (e::r) y.2).2++(dOne d j c y.1).2 from hp)with hp|hp
   ·exact ih.2.2 p hp
   ·exact(UC p hp).2.2
theorem xj {E:Env}{ck:(fi:Fi)->Aden fi.ps->Option (Oden (zm fi.rs) (ioOf fi.ps))}{K:List Nat}{o:Oper}{next:AV->List (Nat×Ob)->Option ρ}{r:ρ}{v:AV}(hn:next v []=some r)(h:∀(ρ' :Type) (next' :AV->List (Nat×Ob)->Option ρ'),dOp E σ ck K o next' =next' v []):
 ∃v N,next v N=some r/\NewOk (zI E o++K) N/\∀(ρ' :Type) (next' :AV->List (Nat×Ob)->Option ρ'),dOp E σ ck K o next' =next' v N:=⟨v,[],hn,NewOk.none _,h⟩
def bnd {ρ:Type}(n u:Int)(lo:Option AV)(next:Nat->Nat->Option ρ):Option ρ:=
 match lo with
 |none=>chk (decide (0<=u)) (chk (decide (u<=n)) (next 0 u.toNat))
 |some l=>match aIx l with
  |some l=>chk (decide (0<=l)) (chk (decide (l<=u)) (chk (decide (u<=n)) (next l.toNat u.toNat)))
  |none=>none
theorem JX {n u:Int}{lo:Option AV}{next:Nat->Nat->Option ρ}{r:ρ}(h:bnd n u lo next=some r):∃l m,next l m=some r/\∀(ρ' :Type) (next' :Nat->Nat->Option ρ'),bnd n u lo next' =next' l m:=by
 unfold bnd at h
 cases lo with
 |none=>
  dsimp only at h
  obtain⟨h1,hu⟩:=zb h
  obtain⟨h2,hu⟩:=zb hu
  exact⟨_,_,hu,fun _ _=>yr h1 (yr h2 rfl)⟩
 |some l=>
  dsimp only at h
  cases hl:aIx l with
  |none=>rw[hl]at h;cases h
  |some k=>
   rw[hl]at h
   dsimp only at h
   obtain⟨h1,hu⟩:=zb h
   obtain⟨h2,hu⟩:=zb hu
   obtain⟨h3,hu⟩:=zb hu
   exact⟨_,_,hu,fun _ _=>by unfold bnd;dsimp only;rw[hl];exact yr h1 (yr h2 (yr h3 rfl))⟩
theorem J6 {n:Int}{lo hi:Option AV}{next:Nat->Nat->Option ρ}{r:ρ}(h:jQ n lo hi next=some r):∃l m,next l m=some r/\∀(ρ' :Type) (next' :Nat->Nat->Option ρ'),jQ n lo hi next' =next' l m:=by
 cases hi with
 |none=>
  obtain⟨l,m,h1,h2⟩:=JX (show bnd n n lo next=some r from h)
  exact⟨l,m,h1,h2⟩
 |some m=>
  have e:∀ {ρ' :Type} (nx:Nat->Nat->Option ρ'),jQ n lo (some m) nx=(match aIx m with|some u=>bnd n u lo nx|none=>none):=fun _=>rfl
  rw[e]at h
  cases hm:aIx m with
  |none=>rw[hm]at h;cases h
  |some k=>
   rw[hm]at h
   obtain⟨l,m',h1,h2⟩:=JX (show bnd n k lo next=some r from h)
   exact⟨l,m',h1,fun ρ' next' =>by rw[e,hm];exact h2 ρ' next'⟩
theorem zbv {E:Env}{T:Nat}{x:AV}{lo hi:Option AV}{next:AV->Option ρ}{r:ρ}(h:Qv E T x lo hi next=some r):∃v,next v=some r/\∀(ρ' :Type) (next' :AV->Option ρ'),Qv E T x lo hi next' =next' v:=by
 unfold Qv at h
 split at h
 ·split at h
  ·rename_i hT
   obtain⟨l,m,h1,h2⟩:=J6 h
   exact⟨_,h1,fun _ _=>by unfold Qv;simp only[hT];rw[h2]⟩
  ·cases h
 ·split at h
  ·rename_i hT
   obtain⟨h0,h⟩:=zb h
   obtain⟨l,m,h1,h2⟩:=J6 h
   exact⟨_,h1,fun _ _=>by unfold Qv;simp only[hT];refine yr h0 ?_;rw[h2]⟩
  ·cases h
 ·cases h
theorem CN {t:Ty}{d:Nat}{y:AV}{xs:List t.den}{dp cn:Bool}{next:AV->List (Nat×Ob)->Option ρ}{r:ρ}(h:P2 σ t d y xs dp cn next=some r):
 ∃zs,next (.cv (.own d)) [(d, .row t zs dp cn)]=some r/\∀(ρ' :Type) (next' :AV->List (Nat×Ob)->Option ρ'),P2 σ t d y xs dp cn next' =next' (.cv (.own d)) [(d, .row t zs dp cn)]:=by
 unfold P2 at h
 split at h
 ·exact⟨_,h,fun _ _=>by unfold P2;rfl⟩
 ·split at h
  ·rename_i hys
   obtain⟨h0,h⟩:=zb h
   exact⟨_,h,fun _ _=>by unfold P2;simp only[hys];exact yr h0 rfl⟩
  ·cases h
 ·split at h
  ·rename_i hc
   split at h
   ·rename_i hys
    obtain⟨h0,h⟩:=zb h
    exact⟨_,h,fun _ _=>by unfold P2;simp only[hc,hys];exact yr h0 rfl⟩
   ·cases h
  ·cases h
 ·cases h
theorem B7 {E:Env}{K:List Nat}{T d:Nat}{x y:AV}{next:AV->List (Nat×Ob)->Option ρ}{r:ρ}(h:bW E σ K T d x y next=some r):
 ∃t zs dp cn,next (.cv (.own d)) [(d, .row t zs dp cn)]=some r/\∀(ρ' :Type) (next' :AV->List (Nat×Ob)->Option ρ'),bW E σ K T d x y next' =next' (.cv (.own d)) [(d, .row t zs dp cn)]:=by
 unfold bW at h
 split at h
 ·rename_i hT
  obtain⟨h0,h⟩:=zb h
  split at h
  ·obtain⟨zs,h1,h2⟩:=CN h
   exact⟨_,_,_,_,h1,fun _ _=>by unfold bW;simp only[hT];refine yr h0 ?_;rw[h2]⟩
  ·obtain⟨h3,h⟩:=zb h
   split at h
   ·rename_i hc
    split at h
    ·rename_i hxs
     obtain⟨zs,h1,h2⟩:=CN h
     exact⟨_,_,_,_,h1,fun _ _=>by unfold bW;simp only[hT,hc,hxs];refine yr h0 (yr h3 ?_);rw[h2]⟩
    ·cases h
   ·cases h
  ·cases h
 ·cases h
theorem NewOk.mono {ks ls:List Nat}{N:List (Nat×Ob)}(h:NewOk ks N)(hs:∀k∈ks,k∈ls):NewOk ls N:=⟨h.1,fun p hp=>hs _ (h.2.1 p hp),h.2.2⟩
theorem NewOk.one {ks:List Nat}{d:Nat}{o:Ob}(hd:d∈ks)(ho:XK o=[]):NewOk ks [(d,o)]:=
 ⟨by simp,fun p hp=>by have:p=(d,o):=by simpa using hp
                       subst this;exact hd,fun p hp=>by have:p=(d,o):=by simpa using hp
                                                        subst this;exact ho⟩
theorem DO:∀(ks:List Ty),zf (ks.map vi)=[]
 | []=>rfl
 |k::ks=>by
  have h:=DO ks
  show(vi k).owns++zf (ks.map vi)=[]
  rw[h];cases k<;>rfl
theorem zfH {E:Env}{ck:(fi:Fi)->Aden fi.ps->Option (Oden (zm fi.rs) (ioOf fi.ps))}{K:List Nat}{o:Oper}{next:AV->List (Nat×Ob)->Option ρ}{r:ρ}(h:dOp E σ ck K o next=some r):
 ∃v N,next v N=some r/\NewOk (zI E o++K) N/\∀(ρ' :Type) (next' :AV->List (Nat×Ob)->Option ρ'),dOp E σ ck K o next' =next' v N:=by
 have h' :=h
 unfold dOp at h
 cases ho:o.op with
 |move x=>rw[ho]at h;exact xj h fun _ _=>by unfold dOp;rw[ho]
 |assign x=>rw[ho]at h;exact xj h fun _ _=>by unfold dOp;rw[ho]
 |pick c x y=>
  rw[ho]at h
  dsimp only at h
  split at h
  ·rename_i b hb
   cases b with
   |true=>exact xj h fun _ _=>by unfold dOp;rw[ho];simp only[hb];rfl
   |false=>exact xj h fun _ _=>by unfold dOp;rw[ho];simp only[hb];rfl
  ·cases h
 |load T x=>
  rw[ho]at h
  obtain⟨v,h1,h2⟩:=zdd h
  exact xj h1 fun _ _=>by unfold dOp;rw[ho];exact h2 _ _
 |nilCheck x=>
  rw[ho]at h
  dsimp only at h
  split at h
  ·rename_i hb;exact xj h fun _ _=>by unfold dOp;rw[ho];simp only[hb]
  ·rename_i hb;exact xj h fun _ _=>by unfold dOp;rw[ho];simp only[hb]
  ·rename_i hb;exact xj h fun _ _=>by unfold dOp;rw[ho];simp only[hb]
  ·rename_i hb;exact xj h fun _ _=>by unfold dOp;rw[ho];simp only[hb]
  ·cases h
 |binOp op T x y U=>
  rw[ho]at h
  obtain⟨v,h1,h2⟩:=zeX h
  exact xj h1 fun _ _=>by unfold dOp;rw[ho];exact h2 _ _
 |unOp op T x=>
  rw[ho]at h
  dsimp only at h
  split at h
  ·rename_i hb;exact xj h fun _ _=>by unfold dOp;rw[ho];simp only[hb]
  ·cases h
 |convert S D x=>
  rw[ho]at h
  obtain⟨v,h1,h2⟩:=zdI h
  exact xj h1 fun _ _=>by unfold dOp;rw[ho];exact h2 _ _
 |makeSlice T n c=>
  rw[ho]at h
  dsimp only at h
  split at h
  ·rename_i d hd
   unfold dMake at h
   split at h
   ·rename_i t n' c' hT hn hc
    obtain⟨h1,h⟩:=zb h
    obtain⟨h2,h⟩:=zb h
    obtain⟨h3,h⟩:=zb h
    refine⟨_,_,h,⟨(by simp),fun p hp=> ?_,fun p hp=> ?_⟩,fun _ _=> ?_⟩
    ·have:p=(d,Ob.row t (List.replicate n'.toNat t.dflt) true false):=by simpa using hp
     subst this
     simp[zI,ho,hd]
    ·have:p=(d,Ob.row t (List.replicate n'.toNat t.dflt) true false):=by simpa using hp
     subst this
     rfl
    ·unfold dOp;rw[ho];simp only[hd]
     unfold dMake;simp only[hT,hn,hc]
     exact yr h1 (yr h2 (yr h3 rfl))
   ·cases h
  ·cases h
 |buildSlice T n ps=>
  rw[ho]at h
  dsimp only at h
  split at h
  ·rename_i d hd
   unfold Xj at h
   split at h
   ·rename_i t hT
    split at h
    ·rename_i xs hp
     obtain⟨h1,h⟩:=zb h
     obtain⟨h2,h⟩:=zb h
     refine⟨_,_,h,⟨(by simp),fun p hp=> ?_,fun p hp=> ?_⟩,fun _ _=> ?_⟩
     ·have:p=(d,Ob.row t xs true false):=by simpa using hp
      subst this
      simp[zI,ho,hd]
     ·have:p=(d,Ob.row t xs true false):=by simpa using hp
      subst this
      rfl
     ·unfold dOp;rw[ho];simp only[hd]
      unfold Xj;simp only[hT,hp]
      exact yr h1 (yr h2 rfl)
    ·cases h
   ·cases h
  ·cases h
 |store T x v=>
  rw[ho]at h
  dsimp only at h
  unfold JM at h
  split at h
  ·rename_i n g cs c o' hT hc hx
   obtain⟨h1,h⟩:=zb h
   split at h
   ·rename_i l hl
    obtain⟨h2,h⟩:=zb h
    rw[zgx]at h1 h2
    exact⟨_,_,h,NewOk.one (List.mem_append_right _ (jL.1 h1.2)) (List.isEmpty_iff.1 h2.2),fun _ _=>by
     unfold dOp;rw[ho];dsimp only;unfold JM;simp only[hT,hc,hx,hl]
     exact yr (by rw[zgx];exact h1) (yr (by rw[zgx];exact h2) rfl)⟩
   ·cases h
  ·cases h
 |alloc T=>
  rw[ho]at h
  dsimp only at h
  split at h
  ·rename_i d hd
   unfold dAlloc at h
   split at h
   ·rename_i t hT
    exact⟨_,_,h,NewOk.one (by simp[zI,ho,hd]) (by cases t<;>rfl),fun _ _=>by unfold dOp;rw[ho];simp only[hd];unfold dAlloc;simp only[hT]⟩
   ·rename_i ks _ hT
    exact⟨_,_,h,NewOk.one (by simp[zI,ho,hd]) (DO _),fun _ _=>by unfold dOp;rw[ho];simp only[hd];unfold dAlloc;simp only[hT]⟩
   ·rename_i hT
    obtain⟨h1,h⟩:=zb h
    exact⟨_,_,h,NewOk.one (by simp[zI,ho,hd]) rfl,fun _ _=>by unfold dOp;rw[ho];simp only[hd];unfold dAlloc;simp only[hT];exact yr h1 rfl⟩
   ·cases h
  ·cases h
 |box T x=>
  rw[ho]at h
  dsimp only at h
  split at h
  ·rename_i d hd
   unfold dBox at h
   split at h
   ·rename_i l hl
    obtain⟨h1,h⟩:=zb h
    exact⟨_,_,h,NewOk.one (by simp[zI,ho,hd]) (List.isEmpty_iff.1 h1),fun _ _=>by unfold dOp;rw[ho];simp only[hd];unfold dBox;simp only[hl];exact yr h1 rfl⟩
   ·cases h
  ·cases h
 |build T ps=>
  rw[ho]at h
  dsimp only at h
  split at h
  ·rename_i hT
   split at h
   ·rename_i av hb
    exact xj h fun _ _=>by unfold dOp;rw[ho];simp only[hT,hb]
   ·cases h
  ·cases h
 |slice T x lo hi mx=>
  rw[ho]at h
  obtain⟨h0,h⟩:=zb h
  obtain⟨v,h1,h2⟩:=zbv h
  exact xj h1 fun _ _=>by unfold dOp;rw[ho];refine yr h0 ?_;rw[h2]
 |fieldAddr T x f=>
  rw[ho]at h
  dsimp only at h
  split at h
  ·rename_i hf
   obtain⟨h1,h⟩:=zb h
   split at h
   ·rename_i hb;exact xj h fun _ _=>by unfold dOp;rw[ho];simp only[hf,hb];exact yr h1 rfl
   ·rename_i hb;exact xj h fun _ _=>by unfold dOp;rw[ho];simp only[hf,hb];exact yr h1 rfl
   ·rename_i hb;exact xj h fun _ _=>by unfold dOp;rw[ho];simp only[hf,hb];exact yr h1 rfl
   ·cases h
  ·cases h
 |field T x f=>
  rw[ho]at h
  dsimp only at h
  split at h
  ·rename_i hf hb
   obtain⟨h1,h⟩:=zb h
   exact xj h fun _ _=>by unfold dOp;rw[ho];simp only[hf,hb];exact yr h1 rfl
  ·cases h
 |indexAddr T x i=>
  rw[ho]at h
  dsimp only at h
  split at h
  ·rename_i hi
   obtain⟨v,h1,h2⟩:=HW h
   exact xj h1 fun _ _=>by unfold dOp;rw[ho];simp only[hi];exact h2 _ _
  ·cases h
 |index T x i=>
  rw[ho]at h
  dsimp only at h
  split at h
  ·rename_i hi
   obtain⟨v,h1,h2⟩:=EK h
   exact xj h1 fun _ _=>by unfold dOp;rw[ho];simp only[hi];exact h2 _ _
  ·cases h
 |extract x i=>
  rw[ho]at h
  dsimp only at h
  split at h
  ·rename_i hb
   split at h
   ·rename_i hp;exact xj h fun _ _=>by unfold dOp;rw[ho];simp only[hb,hp]
   ·cases h
  ·cases h
 |call c=>
  rw[ho]at h
  dsimp only at h
  split at h
  ·rename_i b hb
   split at h
   ·rename_i x hx
    split at h
    ·rename_i T ts hT
     obtain⟨v,h1,h2⟩:=zeT h
     exact xj h1 fun _ _=>by unfold dOp;rw[ho];simp only[hb,hx,hT];exact h2 _ _
    ·cases h
   ·rename_i x y hx
    split at h
    ·rename_i T U hT
     split at h
     ·rename_i d hd
      obtain⟨h0,h⟩:=zb h
      obtain⟨t,zs,dp,cn,h1,h2⟩:=B7 h
      refine⟨_,_,h1,⟨(by simp),fun p hp=> ?_,fun p hp=> ?_⟩,fun _ _=> ?_⟩
      ·have:p=(d,Ob.row t zs dp cn):=by simpa using hp
       subst this
       simp[zI,ho,hd,hb]
      ·have:p=(d,Ob.row t zs dp cn):=by simpa using hp
       subst this
       rfl
      ·unfold dOp;rw[ho];simp only[hb,hx,hT,hd];refine yr h0 ?_;rw[h2]
     ·cases h
    ·cases h
   ·split at h
    ·rename_i hm;exact xj h fun _ _=>by unfold dOp;rw[ho];simp only[hb,hm]
    ·cases h
   ·split at h
    ·rename_i hm;exact xj h fun _ _=>by unfold dOp;rw[ho];simp only[hb,hm]
    ·cases h
   ·cases h
  ·rename_i f hf
   unfold B6 at h
   split at h
   ·cases h
   ·rename_i fi hfi
    split at h
    ·cases h
    ·rename_i xs hxs
     obtain⟨h1,h⟩:=zb h
     obtain⟨y,hy,h⟩:=zgF.1 h
     cases hd:o.dst with
     |none=>
      rw[hd]at h
      exact xj h fun _ _=>by unfold dOp;rw[ho];simp only[hf];unfold B6;simp only[hfi,hxs];refine yr h1 ?_;simp only[hy,Option.bind_some,hd]
     |some d=>
      rw[hd]at h
      refine⟨_,_,h, ?_,fun _ _=> ?_⟩
      ·have:=GT (d:=d) (rs:=zm fi.rs) (j:=0) (y:=Oden.res _ _ y)
       have e:zI E o=jA d 0 (zm fi.rs):=by simp[zI,ho,hd,hf,hfi]
       rw[e];exact this.mono fun k hk=>List.mem_append_left _ hk
      ·unfold dOp;rw[ho];simp only[hf];unfold B6;simp only[hfi,hxs];refine yr h1 ?_;simp only[hy,Option.bind_some,hd]
  ·cases h
 |makeFunc fn first caps=>
  rw[ho]at h
  cases fn with
  |func f=>
   obtain⟨h1,h2⟩:=zb h
   clear h
   cases hfl:Env.flag E (X0 f (o.dst.getD 0))with
   |false=>rw[hfl]at h2;cases h2
   |true=>
    rw[hfl,zgJ]at h2
    split at h2
    ·rename_i l hc
     exact xj h2 fun _ _=>by unfold dOp;rw[ho];refine yr h1 ?_;simp only[hfl,zgJ,hc]
    ·cases h2
  |_=>cases h
 |_=>rw[ho]at h;cases h
structure Alike (σ τ:St):Prop where
 sl:τ.sl=σ.sl
 ob:∀c,zd τ.ob c=zd σ.ob c
theorem Alike.refl (σ:St):Alike σ σ:=⟨rfl,fun _=>rfl⟩
theorem Alike.SRi {τ:St}(hA:Alike σ τ)(h:SRi w0 S0 σ a w Im hd bl):SRi w0 S0 τ a w Im hd bl:=by
 refine⟨h.below,h.sub,h.new,h.lt,h.nodef,by rw[hA.sl];exact h.size,fun i av hi=>h.slots i av (by rw[<-hA.sl];exact hi),fun c o hc=>h.objs c o (by rw[<-hA.ob];exact hc),fun c o hc=>h.own c o (by rw[<-hA.ob];exact hc),fun c o d p hc hd=>h.apart c o d p (by rw[<-hA.ob];exact hc) (by rw[<-hA.ob];exact hd),h.io⟩
theorem Alike.SR {τ:St}(hA:Alike σ τ)(h:SR w0 S0 σ a w):SR w0 S0 τ a w:=by
 obtain⟨Im,hd,bl,h⟩:=h
 exact⟨Im,hd,bl,hA.SRi h⟩
structure Free (σ:St)(c:Nat):Prop where
 sl:∀av∈σ.sl,c∉mkeys av
 ob:∀d o,zd σ.ob d=some o->d≠c/\c∉XK o
 lt:c<500000
theorem ZN:∀ {l:List (Nat×Ob)} {c:Nat} {o:Ob},zd l c=some o->(c,o)∈l
 | [],c,o,h=>by cases h
 |(d,p)::l,c,o,h=>by
  rw[yj]at h
  by_cases e:d=c
  ·simp[e]at h;subst e;subst h;simp
  ·simp[e]at h;exact zg3 _ (ZN h)
theorem zeu {c:Nat}(h:freeB σ c=true):Free σ c:=by
 unfold freeB at h
 rw[zgx,zgx,zgS,zgS]at h
 obtain⟨⟨h0,h1⟩,h2⟩:=h
 have h:=And.intro h1 h2
 have nh:∀ {l:List Nat},(!hasB c l)=true->c∉l:=fun h hm=>by rw[jL.2 hm]at h;cases h
 refine⟨fun av hav=>nh (h.1 av hav),fun d o hd=> ?_,TJ h0⟩
 have:=h.2 (d,o) (ZN hd)
 simp only[zgx]at this
 refine⟨fun e=> ?_,nh this.2⟩
 rw[e]at this
 simp at this
theorem P4 {c:Nat}{v:CV}(h:c∉v.owns):v.map (xG c)=v:=by
 cases v with
 |own d=>
  have:d≠c:=fun e=>h (by simp[CV.owns,e])
  show(bif Nat.beq d c then CV.dead else .own d)= .own d
  rw[beqN];simp[this]
 |_=>rfl
theorem bX {c:Nat}{l:List CV}(h:c∉zf l):l.map (CV.map (xG c))=l:=by
 have e:l.map (CV.map (xG c))=l.map id:=List.map_congr_left fun v hv=>P4 fun hc=>h (zgP.2 ⟨v,hv,hc⟩)
 rw[e,List.map_id]
theorem Ae {c:Nat}{l:List CV}(h:c∉zf l):N3 (xG c) l=l:=by
 match l,h with
 | [],_=>rfl
 | .nil::_,_=>rfl
 | .val _ _::_,_=>rfl
 | .unk::_,_=>rfl
 | .dead::_,_=>rfl
 | .own d::r,h=>
   have hd:d≠c:=fun e=>h (by simp[zf,CV.owns,e])
   have hr:c∉zf r:=fun e=>h (by unfold zf at e⊢;rw[List.flatMap_cons];exact zgz.2 (.inr e))
   have e:(xG c).adr d 0= .adr d 0:=by
    show(bif Nat.beq d c then AV.cv .dead else .adr d 0)=_
    rw[beqN];simp[hd]
   show(match(xG c).adr d 0 with| .adr d 0=>CV.own d::r.map (CV.map (xG c))| .ref m=>m|_=> [CV.dead])=_
   rw[e]
   show CV.own d::r.map (CV.map (xG c))=_
   rw[bX hr]
theorem zbI {c:Nat}{av:AV}(h:c∉mkeys av):av.map (xG c)=av:=by
 cases av with
 |cv v=>show AV.cv (v.map _)=_;rw[P4 h]
 |ag l=>show AV.ag (l.map _)=_;rw[bX h]
 |adr d o=>
  have:d≠c:=fun e=>h (by simp[mkeys,e])
  show(bif Nat.beq d c then AV.cv .dead else .adr d o)=_
  rw[beqN];simp[this]
 |el d n i o=>
  have:d≠c:=fun e=>h (by simp[mkeys,e])
  show(bif Nat.beq d c then AV.cv .dead else .el d n i o)=_
  rw[beqN];simp[this]
 |ref l=>rfl
 |fn f l=>
  show AV.fn f (l.map (N3 (xG c)))=_
  have e:l.map (N3 (xG c))=l.map id:=List.map_congr_left fun p hp=>Ae fun hc=>h (zgP.2 ⟨p,hp,hc⟩)
  rw[e,List.map_id]
 |tup l=>
  show AV.tup (l.map fun p=>(p.1,p.2.map (CV.map (xG c))))=_
  congr 1
  have e:(l.map fun p=>(p.1,p.2.map (CV.map (xG c))))=l.map id:=List.map_congr_left fun p hp=>by
   have:c∉zf p.2:=fun hc=>h (zgP.2 ⟨p,hp,hc⟩)
   rw[bX this];rfl
  rw[e,List.map_id]
theorem za9 {c:Nat}{o:Ob}(h:c∉XK o):o.map (xG c)=o:=by
 cases o with
 |box l=>show Ob.box (l.map _)=_;rw[bX h]
 |hole t xs i v=>show Ob.hole t xs i (v.map _)=_;rw[P4 h]
 |hol t xs i l=>show Ob.hol t xs i (l.map _)=_;rw[bX h]
 |_=>rfl
theorem Free.new {c:Nat}(h:Free σ c)(o:Ob):Alike (σ.new c o) { σ with ob:=(c,o)::σ.ob}:=by
 refine⟨?_,fun d=> ?_⟩
 ·show σ.sl=σ.sl.map (AV.map (xG c))
  have e:σ.sl.map (AV.map (xG c))=σ.sl.map id:=List.map_congr_left fun av hav=>zbI (h.sl av hav)
  rw[e,List.map_id]
 ·show zd ((c,o)::σ.ob) d=zd ((c,o)::Mq (xG c) (fq σ.ob c)) d
  rw[yj,yj,jy,vw]
  by_cases e:c=d
  ·simp[e]
  ·simp only[e,if_false,Ne.symm e]
   cases hd:zd σ.ob d with
   |none=>rfl
   |some p=>simp only[Option.map_some];rw[za9 (h.ob d p hd).2]
theorem Free.more {c:Nat}(h:Free σ c){N:List (Nat×Ob)}(hN:∀p∈N,p.1≠c/\c∉XK p.2):Free { σ with ob:=N++σ.ob} c:=by
 refine⟨h.sl,fun d o hd=> ?_,h.lt⟩
 induction N with
 |nil=>exact h.ob d o hd
 |cons p N ih=>
  obtain⟨e,q⟩:=p
  have hd' :zd ((e,q)::(N++σ.ob)) d=some o:=hd
  rw[yj]at hd'
  by_cases k:e=d
  ·simp[k]at hd';subst hd';subst k;exact hN (e,q) (by simp)
  ·simp[k]at hd';exact ih (fun p hp=>hN p (by simp[hp])) hd'
def DoesTo {gw:Gw}(w0:Base gw)(S0:Nat->Prop)(σ:St)(next:AV->List (Nat×Ob)->Option ρ)(r:ρ)(dst:Option Nat)(a:Act)(w:World):Prop:=∃v N,next v N=some r/\SR w0 S0 (σ.add dst v N) a w
theorem yy {o:Oper}{next:AV->List (Nat×Ob)->Option ρ}{r:ρ}(h:SRi w0 S0 σ a w Im hd bl){v:Value}{av:AV}(hv:AVR w Im hd v av)
 (hr:(execOp a.eval o).run P w= .ok (.value v) w) (hn:next av []=some r):o.wp P a w (DoesTo w0 S0 σ next r o.dst) Q:=
 yO hr ⟨_,_,hn,Im,hd,bl,h.put o.dst hv⟩
theorem B5 {E:Env}{T:Nat}{x:AV}{next:AV->Option ρ}{r:ρ}(hn:UN E σ T x next=some r):aLoad E σ T x (fun τ av=>(next av).map fun r=>(r,τ))=some (r,σ):=by
 unfold UN at hn
 unfold aLoad
 split at hn
 ·cases hn
 ·split at hn
  ·split at hn
   ·obtain⟨h1,h2⟩:=zb hn;refine yr h1 ?_;simp only[h2];rfl
   ·cases hn
  ·obtain⟨h1,h2⟩:=zb hn;refine yr h1 ?_;simp only[h2];rfl
  ·split at hn
   ·obtain⟨h1,h2⟩:=zb hn
    obtain⟨h3,h4⟩:=zb h2
    rw[zgx]at h1
    refine yr h1.1 (yr h3 ?_)
    simp only[h1.2,zgJ,h4];rfl
   ·obtain⟨h1,h2⟩:=zb hn
    obtain⟨h3,h4⟩:=zb h2
    refine yr h1 (yr h3 ?_)
    simp only[h4];rfl
   ·obtain⟨h1,h2⟩:=zb hn
    obtain⟨h3,h4⟩:=zb h2
    refine yr h1 (yr h3 ?_)
    simp only[h4];rfl
   ·cases hn
  ·cases hn
theorem zeG {E:Env}(hE:∀T ti,E.ty T=some ti->TyOk P T ti)(h:SRi w0 S0 σ a w Im hd bl){T:Nat}{x:AV}{v:Value}(hx:AVR w Im hd v x)
 {next:AV->Option ρ} {r:ρ} (hn:UN E σ T x next=some r):∃u av Im' bl',(Instr.loadAt T v).run P w= .ok u w/\SRi w0 S0 σ a w Im' hd bl' /\AVR w Im' hd u av/\next av=some r:=by
 obtain⟨u,τ,av,Im',bl',h1,h2,h3,h4⟩:=zan hE h hx (B5 hn)
 obtain⟨r',h5,h6⟩:=zgQ.1 h4
 cases h6
 exact⟨u,av,Im',bl',h1,h2,h3,h5⟩
theorem zdc (h:SRi w0 S0 σ a w Im hd bl){dst j:Nat}{c:RC}{x:c.t.den}{v:Value}{L M:List Nat}(hv:RCR w Im v L c x)(hn:(L++M).Nodup)(hL:∀b∈L++M,w0.mine b/\b<w.heap.size/\¬Im b)
 (hf:∀k p,zd σ.ob k=some p->∀b∈bl k,b∉L++M) (hfree:∀k∈(match c with|⟨.slice _,some _⟩=> [dst+1000*j]|⟨.pair _ _,some _⟩=> [dst+1000*j]|_=> []),Free σ k):
 ∃hd' bl',SRi w0 S0 { σ with ob:=(dOne dst j c x).2++σ.ob} a w Im hd' bl' /\CVs w Im hd' [v] (dOne dst j c x).1/\(∀d,d≠dst+1000*j->hd' d=hd d)/\
  (∀k p,zd ((dOne dst j c x).2++σ.ob) k=some p->∀b∈bl' k,b∉M)/\(∀e∈(dOne dst j c x).1,∀k∈e.owns,k=dst+1000*j):=by
 obtain⟨hd',bl',h1,h2,h3,h4,h5⟩:=RE h (dst:=dst) (j:=j) (x:=x) hv hn hL hf (fun k hk=>(hfree k hk).lt)
 obtain⟨t,o⟩:=c
 have plain:∀(t:Ty) (y:t.den),SRi w0 S0 (σ,[CV.val t y]).1 a w Im hd' bl' ->SRi w0 S0 { σ with ob:=[]++σ.ob} a w Im hd' bl' :=fun t y h=>h
 cases t with
 |int k=>exact⟨hd',bl',h1,h2,h3,h4,h5⟩
 |bool=>exact⟨hd',bl',h1,h2,h3,h4,h5⟩
 |str=>exact⟨hd',bl',h1,h2,h3,h4,h5⟩
 |pair s t=>
  cases o with
  |none=>exact⟨hd',bl',h1,h2,h3,h4,h5⟩
  |some dn=>
   refine⟨hd,bl,h,⟨trivial,trivial⟩,fun _ _=>rfl,fun k p hk b hb hM=>hf k p hk b hb (by simp[hM]),fun e he k hk=> ?_⟩
   have he' :e= .dead:=by simpa[dOne]using he
   subst he'
   cases hk
 |set=>exact⟨hd',bl',h1,h2,h3,h4,h5⟩
 |err=>exact⟨hd',bl',h1,h2,h3,h4,h5⟩
 |slice t=>
  cases o with
  |none=>exact⟨hd',bl',h1,h2,h3,h4,h5⟩
  |some dn=>
   obtain⟨d,n⟩:=dn
   have hF:=hfree (dst+1000*j) (by simp)
   have hA:=hF.new (.row t x d n)
   refine⟨hd',bl',hA.SRi h1,h2,h3,fun k p hk=> ?_,h5⟩
   have hk' :zd ({ σ with ob:=(dst+1000*j,Ob.row t x d n)::σ.ob}:St).ob k=some p:=hk
   rw[hA.ob]at hk'
   exact h4 k p hk'
theorem CM {dst:Nat}:∀ {rs:List RC} {j:Nat} {σ:St} {hd:Nat->Value} {bl:Nat->List Nat} {y:Rden rs} {vs:List Value} {L:List Nat},SRi w0 S0 σ a w Im hd bl->RCs w Im vs L rs y->L.Nodup->
 (∀b∈L,w0.mine b/\b<w.heap.size/\¬Im b)->(∀k p,zd σ.ob k=some p->∀b∈bl k,b∉L)->(∀c∈jA dst j rs,Free σ c)->
 ∃hd' bl',SRi w0 S0 { σ with ob:=(VY dst j rs y).2++σ.ob} a w Im hd' bl' /\CVs w Im hd' vs (VY dst j rs y).1/\(∀d,(∀i,j<=i->d≠dst+1000*i)->hd' d=hd d)
 | [],j,σ,hd,bl,y,vs,L,h,hr,hn,hL,hf,hk=>by
   match vs,hr with
   | [],hr=>exact⟨hd,bl,h,trivial,fun _ _=>rfl⟩
   | [_],hr=>cases hr
   |_::_::_,hr=>cases hr
 | [c],j,σ,hd,bl,y,vs,L,h,hr,hn,hL,hf,hk=>by
   match vs,hr with
   | [],hr=>cases hr
   | [v],hr=>
     obtain⟨hd',bl',h1,h2,h3,_,_⟩:=zdc h (dst:=dst) (j:=j) (x:=y) (M:=[]) hr (by simpa using hn) (by simpa using hL) (by simpa using hf) (fun k hm=>hk k (zgz.2 (.inl hm)))
     exact⟨hd',bl',h1,h2,fun d hd=>h3 d (hd j (zgC _))⟩
   |_::_::_,hr=>cases hr
 |c::d::r,j,σ,hd,bl,y,vs,L,h,hr,hn,hL,hf,hk=>by
  match vs,hr with
  | [],hr=>cases hr
  | [v],hr=>cases hr
  |v::u::vs,hr=>
   obtain⟨L1,L2,rfl,hv,hr⟩:=hr
   obtain⟨hd',bl',h1,h2,h3,h4,h5⟩:=zdc h (dst:=dst) (j:=j) (x:=y.1) (M:=L2) hv hn hL hf (fun k hm=>hk k (zgz.2 (.inl hm)))
   rw[zgM]at hn
   obtain⟨hd2,bl2,k1,k2,k3⟩:=CM (j:=j+1) h1 hr hn.2.1 (fun b hb=>hL b (by simp[hb])) h4 (fun k hm=>by
    have hF:=hk k (zgz.2 (.inr hm))
    refine hF.more fun p hp=> ?_
    obtain⟨i,hi,e⟩:=Si hm
    have:=UC p hp
    refine⟨by omega,by rw[this.2.2];simp⟩)
   refine⟨hd2,bl2, ?_, ?_,fun e he=> ?_⟩
   ·have e:(VY dst j (c::d::r) y).2++σ.ob=(VY dst (j+1) (d::r) y.2).2++((dOne dst j c y.1).2++σ.ob):=zgU _ _ _
    rw[e];exact k1
   ·show CVs w Im hd2 ([v]++(u::vs)) (_++_)
    refine CVs.app (CVs.rehead (fun e he k hk=> ?_) h2) k2
    refine k3 k (fun i hi=> ?_)
    have:=h5 e he k hk
    omega
   ·rw[k3 e (fun i hi=>he i (by omega)),h3 e (he j (zgC _))]
theorem AM:∀ {cs:List PC} {l:List CV},pcRC cs=[]->yY cs l=[]
 | [],l,_=>by cases l<;>rfl
 | .v t::r,[],_=>rfl
 | .v t::r,c::l,h=>by
   have:yY (.v t::r) (c::l)=yY r l:=by cases c<;>rfl
   rw[this];exact AM (cs:=r) h
 | .o t d::r,l,h=>by cases h
theorem Ur:∀ {ps:List PT} {avs:List AV},ioOf ps=[]->ye ps avs=[]
 | [],avs,_=>by cases avs<;>rfl
 | .v _ _::r,[],_=>rfl
 | .r _::r,[],_=>rfl
 | .z _::r,[],_=>rfl
 | .fn _ _::r,[],_=>rfl
 | .o _ _::r,[],_=>rfl
 | .p _ _::r,_,h=>by cases h
 | .v _ _::r,a::l,h=>Ur (ps:=r) h
 | .r _::r,a::l,h=>Ur (ps:=r) h
 | .z _::r,a::l,h=>Ur (ps:=r) h
 | .fn _ _::r,a::l,h=>Ur (ps:=r) h
 | .o cs agg::r,a::l,h=>by
   have h' :pcRC cs++ioOf r=[]:=h
   rw[List.append_eq_nil_iff]at h'
   show yY cs (avCells a)++ye r l=[]
   rw[AM h'.1,Ur (ps:=r) h'.2];rfl
theorem zeY {w:World}{S:Nat->Prop}{M:List Nat}:∀ {ios:List RC} {z:Rden ios},RCs w S [] M ios z->M=[]
 | [],_,h=>h
 | [_],_,h=>h.elim
 |_::_::_,_,h=>h.elim
theorem zeH {E:Env}{ck:(fi:Fi)->Aden fi.ps->Option (Oden (zm fi.rs) (ioOf fi.ps))}(hG:∀f ids fi,E.fn f ids=some fi->∀x y,ck fi x=some y->Gives P gw f fi x y)(h:SRi w0 S0 σ a w Im hd bl){o:Oper}{f:Nat}{vs:List Value}{avs:List AV}
 (hv:AVs w Im hd vs avs) (hr:(execOp a.eval o).run P w=(callFunc f vs.toArray).run P w) (hfree:∀fi d,E.fn f []=some fi->o.dst=some d->∀c∈jA d 0 (zm fi.rs),Free σ c)
 {next:AV->List (Nat×Ob)->Option ρ} {r:ρ} (hn:B6 E σ ck f o.dst avs next=some r):o.wp P a w (DoesTo w0 S0 σ next r o.dst) Q:=by
 unfold B6 at hn
 split at hn
 ·cases hn
 ·rename_i fi hf
  split at hn
  ·cases hn
  ·rename_i xs hx
   obtain⟨him0,hn⟩:=zb hn
   obtain⟨y,hy,hn⟩:=zgF.1 hn
   rw[zgx,zgx,Bool.not_eq_true']at him0
   have hio:ioOf fi.ps=[]:=by simpa using him0.1.2
   have hgift:fi.gift=false:=him0.1.1
   have him:=him0.2
   obtain⟨H,hargs,_,hheads⟩:=QR h hv hx
   rw[Ur hio]at hargs hheads
   have hH:H=[]:=by cases H with|nil=>rfl|cons v H=>exact hheads.elim
   subst hH
   obtain⟨S,hS,hlt,hargs'⟩:∃S:Nat->Prop,(immB fi.rs=true->∀b,S b↔Im b)/\(∀b,S b->b<w.heap.size)/\ArgsO w S vs (blks bl []) [] fi.ps xs:=by
    have hrd:∀k∈wE fi.ps avs,k∈gv avs:=by
     have:∀(ps:List PT) (avs:List AV),∀k∈wE ps avs,k∈gv avs:=by
      intro ps
      induction ps with
      |nil=>intro avs k hk;cases avs<;>cases hk
      |cons p ps ih=>
       intro avs k hk
       cases avs with
       |nil=>cases p<;>cases hk
       |cons v avs=>
        rw[Ku]at hk
        rcases zgz.1 hk with hk|hk
        ·refine zgP.2 ⟨v,by simp, ?_⟩
         cases p<;>simp[wE]at hk<;>exact hk
        ·obtain⟨u,hu,hk⟩:=zgP.1 (ih avs k hk)
         exact zgP.2 ⟨u,by simp[hu],hk⟩
     exact this _ _
    cases hi:immB fi.rs with
    |true=>
     rw[hi]at him
     have hemp:gv avs=[]:=by simpa using him
     refine⟨Im,fun _ b=>Iff.rfl,h.lt,ArgsO.mono (fun b hb=> ?_) hargs⟩
     rcases hb with hb|⟨k,hk,_⟩
     ·exact hb
     ·have:=hrd k hk;rw[hemp]at this;cases this
    |false=>
     refine⟨_,(fun e=>by cases e),(fun b hb=> ?_),hargs⟩
     rcases hb with hb|⟨k,hk,⟨t,hg,_⟩,hb⟩
     ·exact h.lt b hb
     ·exact h.block_lt hg b hb
   let C:Base gw:=⟨w,fun b=>w.heap.size<=b,fun _ h=>h,fun w' hw' =>w0.hg w' (KeptW.trans h.below hw' (fun b hb=>Kept.fresh h.below hb)),[]⟩
   refine((hG f _ fi hf xs y hy).o hgift C S vs [] [] hlt List.nodup_nil (fun b hb=>by cases hb) rfl hargs').wp hr fun v w' hh=> ?_
   obtain⟨hbel,hres⟩:=hh
   obtain⟨S',us,L,M,rfl,s1,s2,s3,s4,s5,s6⟩:=hres
   have hM:=zeY s6
   subst hM
   rw[List.append_nil]at s3 s4
   have hsz:=hbel.size
   have h' :SRi w0 S0 σ a w' Im hd bl:=h.world (fun b hb=>hbel.block b hb (fun hc=>Nat.lt_irrefl _ (Nat.lt_of_lt_of_le hb hc))) hsz (KeptW.trans h.below hbel (fun b hb=>Kept.fresh h.below hb))
   cases hd1:o.dst with
   |none=>
    rw[hd1]at hn
    exact⟨_,_,hn,Im,hd,bl,h'⟩
   |some d=>
    rw[hd1]at hn
    obtain⟨Im',g1,g2,g3⟩:∃Im',SRi w0 S0 σ a w' Im' hd bl/\RCs w' Im' us L (zm fi.rs) (Oden.res _ _ y)/\(∀b∈L,¬Im' b):=by
     cases hi:immB fi.rs with
     |true=>
      refine⟨S',h'.widen (fun b hb=>s1 b ((hS hi b).2 hb)) (fun b hb=> ?_) (fun b hb=> ?_) (fun c o hc b hb hb2=> ?_),s5,fun b hb=>(s4 b hb).2.2⟩
      ·rcases s2 b hb with h3|h3
       ·exact h.new b ((hS hi b).1 h3)
       ·exact .inr (Kept.fresh h.below h3.1)
      ·rcases s2 b hb with h3|h3
       ·have:=h.lt b ((hS hi b).1 h3);have:w.heap.size<=w'.heap.size:=hsz;omega
       ·exact h3.2
      ·rcases s2 b hb2 with h3|h3
       ·exact((h.own c o hc).2 b hb).2.2 ((hS hi b).1 h3)
       ·have h5:w.heap.size<=b:=h3.1
        have:=((h.own c o hc).2 b hb).2.1;omega
     |false=>
      exact⟨Im,h',s5.quiet hi (fun _ _=>rfl),fun b hb hI=>by have:=h.lt b hI;have h5:w.heap.size<=b:=(s4 b hb).1;omega⟩
    obtain⟨hd',bl',k1,k2,_⟩:=CM (dst:=d) (j:=0) g1 g2 s3 (fun b hb=>⟨Kept.fresh h.below (s4 b hb).1,(s4 b hb).2.1,g3 b hb⟩) (fun k p hp b hb hbL=>by
     have:=h.block_lt hp b hb
     have h5:w.heap.size<=b:=(s4 b hbL).1
     omega) (hfree fi d hf hd1)
    exact⟨_,_,hn,Im',hd',bl',k1.put (some d) (Gq (V0 k2))⟩
theorem Uy {d:Nat}(hF:Free σ d){o:Oper}(hd1:o.dst=some d){ob:Ob}{av:AV}{next:AV->List (Nat×Ob)->Option ρ}{r:ρ}(hn:next av [(d,ob)]=some r)
 (hw:o.wp P a w (Goes w0 S0 (fun τ=>some τ) ((σ.new d ob).put (some d) av)) Q):o.wp P a w (DoesTo w0 S0 σ next r o.dst) Q:=by
 refine Oper.wp_mono (fun a' w' hg=> ?_) hw
 obtain⟨τ,e1,hs⟩:=hg
 cases e1
 refine⟨_,_,hn, ?_⟩
 rw[hd1]
 have hA:=hF.new ob
 refine Alike.SR (σ:=(σ.new d ob).put (some d) av) ⟨?_,fun k=>hA.ob k⟩ hs
 show gV σ.sl d _=gV (σ.new d _).sl d _
 rw[<-hA.sl]
theorem zfI {E:Env}(hE:∀T ti,E.ty T=some ti->TyOk P T ti){ck:(fi:Fi)->Aden fi.ps->Option (Oden (zm fi.rs) (ioOf fi.ps))}(hG:∀f ids fi,E.fn f ids=some fi->∀x y,ck fi x=some y->Gives P gw f fi x y)
 (h:SRi w0 S0 σ a w Im hd bl) {o:Oper} (hna:(∀c,o.op= .call c->c.callee≠ .builtin .append)/\∀T x v,o.op≠ .store T x v) (hfree:∀c∈zI E o,Free σ c) {K:List Nat} {next:AV->List (Nat×Ob)->Option ρ} {r:ρ} (hn:dOp E σ ck K o next=some r):o.wp P a w (DoesTo w0 S0 σ next r o.dst) Q:=by
 unfold dOp at hn
 cases ho:o.op with
 |move x=>
  rw[ho]at hn
  exact yy h (h.ev x) (by simp[execOp,ho]) hn
 |assign x=>
  rw[ho]at hn
  exact yy h (h.ev x) (by simp[execOp,ho]) hn
 |pick c x y=>
  rw[ho]at hn
  dsimp only at hn
  split at hn
  ·rename_i b hb
   have hc:=h.ev c
   rw[hb]at hc
   have ec:=gu hc
   cases b with
   |true=>exact yy h (h.ev x) (by simp[execOp,ho,ec,asBool]) hn
   |false=>exact yy h (h.ev y) (by simp[execOp,ho,ec,asBool]) hn
  ·cases hn
 |load T x=>
  rw[ho]at hn
  obtain⟨u,av,Im',bl',h1,h2,h3,h4⟩:=zeG hE h (h.ev x) hn
  exact yy h2 h3 (by simp[execOp,ho,h1]) h4
 |nilCheck x=>
  rw[ho]at hn
  dsimp only at hn
  have hx:=h.ev x
  split at hn
  ·rename_i c o' he
   rw[he]at hx
   obtain⟨b,e1,e2⟩:=hx
   exact yy h (av:= .adr c o') ⟨b,e1,rfl⟩ (by simp[execOp,ho,e2]) hn
  ·rename_i c n i o' he
   rw[he]at hx
   obtain⟨b,f1,e1,e2⟩:=hx
   exact yy h (av:= .el c n i o') ⟨b,f1,e1,rfl⟩ (by simp[execOp,ho,e2]) hn
  ·rename_i l he
   rw[he]at hx
   have hx' :=hx
   obtain⟨pl,b,o',vs,hb,e2,_⟩:=hx
   exact yy h hx' (by simp[execOp,ho,e2]) hn
  ·rename_i f l he
   rw[he]at hx
   have hx' :=hx
   obtain⟨ps,e1,_⟩:=hx
   exact yy h hx' (by simp[execOp,ho,e1]) hn
  ·cases hn
 |binOp op T x y U=>
  rw[ho]at hn
  obtain⟨v,av,h1,h2,h3⟩:=zdK hE h (X:=x) (Y:=y) (h.ev x) (h.ev y) hn
  refine yy h h2 ?_ h3
  have e:execOp a.eval o=(do let u<-(do eqGuard op T x y (a.eval x) (a.eval y);Go.binOp op T (a.eval x) (a.eval y):Sem Value);pure (Next.value u)):=by unfold execOp;rw[ho]
  rw[e,Sem.run_bind,h1]
  rfl
 |unOp op T x=>
  rw[ho]at hn
  dsimp only at hn
  split at hn
  ·rename_i av hav
   obtain⟨u,h1,h2⟩:=zfb (P:=P) (h.ev x) hav
   exact yy h h2 (by simp[execOp,ho,h1]) hn
  ·cases hn
 |convert S D x=>
  rw[ho]at hn
  obtain⟨u,av,h1,h2,h3⟩:=zap hE h (h.ev x) hn
  exact yy h h2 (by simp[execOp,ho,h1]) h3
 |makeSlice T n c=>
  rw[ho]at hn
  dsimp only at hn
  split at hn
  ·rename_i d hd1
   have hF:=hfree d (by simp[zI,ho,hd1])
   unfold dMake at hn
   split at hn
   ·rename_i t n' c' hT hn' hc'
    obtain⟨h1,hn⟩:=zb hn
    obtain⟨h2,hn⟩:=zb hn
    obtain⟨h3,hn⟩:=zb hn
    have hmk:Yg E σ T d (σ.ev n) (σ.ev c) (fun τ=>some τ)=some ((σ.new d (.row t (List.replicate n'.toNat t.dflt) true false)).put (some d) (.cv (.own d))):=by
     unfold Yg
     simp only[hT,hn',hc']
     exact yr h1 (yr h2 (yr h3 rfl))
    refine Oper.wp_mono (fun a' w' hg=> ?_) (QH (Q:=Q) hE h ho hd1 hF.lt hmk)
    obtain⟨τ,e1,hs⟩:=hg
    cases e1
    refine⟨_,_,hn, ?_⟩
    rw[hd1]
    have hA:=hF.new (.row t (List.replicate n'.toNat t.dflt) true false)
    refine Alike.SR (σ:=(σ.new d (.row t (List.replicate n'.toNat t.dflt) true false)).put (some d) (.cv (.own d))) ⟨?_,fun k=>hA.ob k⟩ hs
    show gV σ.sl d _=gV (σ.new d _).sl d _
    rw[<-hA.sl]
   ·cases hn
  ·cases hn
 |buildSlice T n ps=>
  rw[ho]at hn
  dsimp only at hn
  split at hn
  ·rename_i d hd1
   have hF:=hfree d (by simp[zI,ho,hd1])
   unfold Xj at hn
   split at hn
   ·rename_i t hT
    split at hn
    ·rename_i xs hp
     obtain⟨h1,hn⟩:=zb hn
     obtain⟨h2,hn⟩:=zb hn
     obtain⟨l,hl1,hl2,hl3⟩:∃l,TK σ t n 0 (ps.toList.map fun p=>(p.1,σ.ev p.2))=some (l,xs)/\zf l=[]/\σ.treeB l=true:=by
      rw[Bool.or_eq_true]at h1
      rcases h1 with h1|h1
      ·exact Qw (σ:=σ) h1 hp
      ·rw[List.isEmpty_iff.1 h1]at hp⊢
       unfold dParts at hp
       cases hb:Nat.beq 0 n with
       |false=>rw[hb]at hp;cases hp
       |true=>rw[hb]at hp;cases hp;exact⟨[],by unfold TK;rw[hb];rfl,rfl,rfl⟩
     have htree:σ.treeB l=true:=hl3
     have hmk:b5 E σ T d n (ps.toList.map fun p=>(p.1,σ.ev p.2)) (fun τ=>some τ)=some ((σ.new d (.row t xs true false)).put (some d) (.cv (.own d))):=by
      unfold b5
      simp only[hT,hl1,htree,hl2]
      exact yr h2 rfl
     refine Oper.wp_mono (fun a' w' hg=> ?_) (TM (Q:=Q) hE h ho hd1 hF.lt hmk)
     obtain⟨τ,e1,hs⟩:=hg
     cases e1
     refine⟨_,_,hn, ?_⟩
     rw[hd1]
     have hA:=hF.new (.row t xs true false)
     refine Alike.SR (σ:=(σ.new d (.row t xs true false)).put (some d) (.cv (.own d))) ⟨?_,fun k=>hA.ob k⟩ hs
     show gV σ.sl d _=gV (σ.new d _).sl d _
     rw[<-hA.sl]
    ·cases hn
   ·cases hn
  ·cases hn
 |store T x v=>exact absurd ho (hna.2 T x v)
 |alloc T=>
  rw[ho]at hn
  dsimp only at hn
  split at hn
  ·rename_i d hd1
   have hF:=hfree d (by simp[zI,ho,hd1])
   unfold dAlloc at hn
   split at hn
   ·rename_i t hT
    exact Uy hF hd1 hn (QI (Q:=Q) (next:=fun τ=>some τ) hE h ho hd1 hF.lt (by unfold aAlloc;simp only[hT]))
   ·rename_i hT
    exact Uy hF hd1 hn (QI (Q:=Q) (next:=fun τ=>some τ) hE h ho hd1 hF.lt (by unfold aAlloc;simp only[hT]))
   ·rename_i hT
    obtain⟨h1,hn⟩:=zb hn
    exact Uy hF hd1 hn (QI (Q:=Q) (next:=fun τ=>some τ) hE h ho hd1 hF.lt (by unfold aAlloc;simp only[hT];exact yr h1 rfl))
   ·cases hn
  ·cases hn
 |box T x=>
  rw[ho]at hn
  dsimp only at hn
  split at hn
  ·rename_i d hd1
   have hF:=hfree d (by simp[zI,ho,hd1])
   unfold dBox at hn
   split at hn
   ·rename_i l hl
    obtain⟨h1,hn⟩:=zb hn
    have he:zf l=[]:=List.isEmpty_iff.1 h1
    exact Uy hF hd1 hn (zdJ (Q:=Q) (E:=E) (next:=fun τ=>some τ) h ho hd1 hF.lt (by unfold aBox;simp only[hl];exact yr (by rw[he];rfl) rfl))
   ·cases hn
  ·cases hn
 |build T ps=>
  rw[ho]at hn
  dsimp only at hn
  split at hn
  ·rename_i fs ks eq hT
   split at hn
   ·rename_i av hb
    obtain⟨v,h1,h2⟩:=Bb hE h hT hb
    exact yy h h2 (by simp[execOp,ho,h1]) hn
   ·cases hn
  ·cases hn
 |slice T x lo hi mx=>
  rw[ho]at hn
  obtain⟨hmx,hnn⟩:=zb hn
  clear hn
  have hn:=hnn
  clear hnn
  have hmx' :mx=none:=by simpa using hmx
  subst hmx'
  have hx:=h.ev x
  have hop:∀ {v:Value},(Instr.sliceAt T (a.eval x) (lo.map a.eval) (hi.map a.eval) none).run P w= .ok v w->(execOp a.eval o).run P w= .ok (.value v) w:=by
   intro v hv
   simp[execOp,ho,hv]
  unfold Qv at hn
  split at hn
  ·rename_i s hs
   rw[hs]at hx
   have ex:=Wg hx
   split at hn
   ·rename_i hT
    obtain⟨dd,hd2,hk,_⟩:=hE T _ hT
    cases(show dd=_ from hk)
    obtain⟨l,h',h1,h2,h3,_,h5⟩:=gx (P:=P) h hn
    refine yy h (av:= .cv (.val .str (s.extract l h'))) (v:= .string (s.extract l h')) svr (hop ?_) h3
    rw[ex]
    have:=h5 false s.size (zgC _)
    simp[Instr.sliceAt,Instr.slice,run_underlying hd2,this]
   ·cases hn
  ·rename_i t xs hs
   rw[hs]at hx
   split at hn
   ·rename_i u hT
    obtain⟨h0,hnn⟩:=zb hn
    obtain rfl:=Ty.same_eq h0
    obtain⟨e,hu,i,z,hi',hsz,_⟩:=yB hE hT
    obtain⟨l,h',h1,h2,h3,_,h5⟩:=gx (P:=P) h hnn
    have hx' :VR w Im (.slice u) xs [a.eval x]:=hx
    obtain⟨A,cap,ev,hc,_⟩:=hx'
    simp only[List.cons.injEq,and_true]at ev
    have hr:=Km (P:=P) hu hi' (A:=A) (h5 true cap hc)
    rw[<-ev]at hr
    refine yy h ?_ (hop hr) h3
    rw[hsz]
    have hx2:VR w Im (.slice u) xs [a.eval x]:=hx
    rw[ev]at hx2
    exact VR.cut hx2 h1 h2 hc
   ·cases hn
  ·cases hn
 |fieldAddr T x f=>
  rw[ho]at hn
  dsimp only at hn
  split at hn
  ·rename_i off n agg hf
   obtain⟨h1,hn⟩:=zb hn
   have h1' :=zgZ h1
   have hr:=fun b o' =>Sd (P:=P) hE hf h1' b o' w
   have hx:=h.ev x
   split at hn
   ·rename_i c o' he
    rw[he]at hx
    obtain⟨b,e1,e2⟩:=hx
    exact yy h (av:= .adr c (o' +off)) ⟨b,e1,rfl⟩ (by simp[execOp,ho,e2,hr]) hn
   ·rename_i c m i o' he
    rw[he]at hx
    obtain⟨b,f1,e1,e2⟩:=hx
    exact yy h (av:= .el c m i (o' +off)) ⟨b,f1,e1,rfl⟩ (by simp[execOp,ho,e2,hr,Nat.add_assoc]) hn
   ·rename_i l he
    rw[he]at hx
    obtain⟨pl,b,o',vs,hb,e2,hat,hcs⟩:=hx
    refine yy h (av:= .ref (l.drop off)) (v:= .pointer (some ⟨b,o' +off,none⟩)) ⟨Pq pl off,b,o' +off,vs.drop off,hb,rfl, ?_,hcs.drop off⟩ (by simp[execOp,ho,e2,hr]) hn
    intro j v hj
    rw[List.getElem?_drop]at hj
    have:=hat (off+j) v hj
    rwa [<-Nat.add_assoc]at this
   ·cases hn
  ·cases hn
 |field T x f=>
  rw[ho]at hn
  dsimp only at hn
  split at hn
  ·rename_i off n agg l hf he
   obtain⟨h1,hn⟩:=zb hn
   have hx:=h.ev x
   rw[he]at hx
   obtain⟨vs,e1,hvs⟩:=hx
   obtain⟨u,h2,h3⟩:=DE (P:=P) hE hf hvs (zgZ h1)
   exact yy h h3 (by simp[execOp,ho,e1,h2]) hn
  ·cases hn
 |indexAddr T x i=>
  rw[ho]at hn
  dsimp only at hn
  split at hn
  ·rename_i z hz
   obtain⟨k,ek⟩:=V3 (h.ev i) hz
   obtain⟨u,av,h1,h2,h3⟩:=Xo (k:=k) hE h (h.ev x) hn
   exact yy h h2 (by simp[execOp,ho,ek,h1]) h3
  ·cases hn
 |index T x i=>
  rw[ho]at hn
  dsimp only at hn
  split at hn
  ·rename_i z hz
   obtain⟨k,ek⟩:=V3 (h.ev i) hz
   obtain⟨u,av,h1,h2,h3⟩:=N4 (k:=k) hE (h.ev x) hn
   exact yy h h2 (by simp[execOp,ho,ek,h1]) h3
  ·cases hn
 |extract x i=>
  rw[ho]at hn
  dsimp only at hn
  split at hn
  ·rename_i l he
   have hx:=h.ev x
   rw[he]at hx
   obtain⟨vs,e1,hvs⟩:=hx
   split at hn
   ·rename_i p hp
    obtain⟨v,h1,h2⟩:=hvs.get i p hp
    exact yy h h2.avr (by simp[execOp,ho,e1,Kl h1]) hn
   ·cases hn
  ·cases hn
 |call c=>
  rw[ho]at hn
  dsimp only at hn
  split at hn
  ·rename_i b hb
   have hop:execOp a.eval o=(do let d<-(pure { target:= .builtin b c.argTypes o.type (c.args.map fun| .const _=>true|_=>false),args:=c.args.map a.eval}:Sem Deferred);invoke d.target d.args):=by
    unfold execOp;rw[ho];simp only[resolve,hb];rfl
   split at hn
   ·rename_i x hx
    split at hn
    ·rename_i T ts hT
     obtain⟨u,av,h1,h2,h3⟩:=zdF (ts:=ts) (ty:=o.type) hE h (h.ev x) hn
     refine yy h h2 ?_ h3
     rw[<-hT]at h1
     have hm:c.args.map a.eval= #[a.eval x]:=by apply Array.ext';simp[hx]
     rw[hop]
     simp only[Sem.run_bind,Sem.run_pure,Result.andThen_ok,invoke,builtin,hm]
     rw[Array.toArray_toList]at h1
     rw[h1];rfl
    ·cases hn
   ·exact absurd hb (hna.1 c ho)
   ·rename_i l
    split at hn
    ·rename_i av hav
     obtain⟨x',y',k,m,n,hl,e1,e2,rfl⟩:=UF hav
     match hcl:c.args.toList,hl with
     | [x,y],hl=>
       simp only[List.map_cons,List.map_nil,List.cons.injEq,and_true]at hl
       obtain⟨rfl,rfl⟩:=hl
       have hx:=h.ev x
       have hy:=h.ev y
       rw[e1]at hx
       rw[e2]at hy
       have ex:=jB hx
       have ey:=jB hy
       have hm:c.args.map a.eval= #[a.eval x,a.eval y]:=by apply Array.ext';simp[hcl]
       refine yy h (av:= .cv (.val (.int k) (if n>m then n else m))) (v:= .int k (if n>m then n else m)) ivr ?_ (by simpa[cond_eq_ite]using hn)
       rw[hop]
       simp only[Sem.run_bind,Sem.run_pure,Result.andThen_ok,invoke,builtin,hm,ex,ey,run_max_int2]
    ·cases hn
   ·rename_i l
    split at hn
    ·rename_i av hav
     obtain⟨x',y',k,m,n,hl,e1,e2,rfl⟩:=UF hav
     match hcl:c.args.toList,hl with
     | [x,y],hl=>
       simp only[List.map_cons,List.map_nil,List.cons.injEq,and_true]at hl
       obtain⟨rfl,rfl⟩:=hl
       have hx:=h.ev x
       have hy:=h.ev y
       rw[e1]at hx
       rw[e2]at hy
       have ex:=jB hx
       have ey:=jB hy
       have hm:c.args.map a.eval= #[a.eval x,a.eval y]:=by apply Array.ext';simp[hcl]
       refine yy h (av:= .cv (.val (.int k) (if n<m then n else m))) (v:= .int k (if n<m then n else m)) ivr ?_ (by simpa[cond_eq_ite]using hn)
       rw[hop]
       simp only[Sem.run_bind,Sem.run_pure,Result.andThen_ok,invoke,builtin,hm,ex,ey,run_min_int2]
    ·cases hn
   ·cases hn
  ·rename_i f hf
   refine zeH hG h (vs:=c.args.toList.map a.eval) (AVs.evs h _) ?_ (fun fi d hfi hd=> ?_) hn
   ·have hop:execOp a.eval o=(do let d<-Deferred.ofValue (a.eval (.func f)) (c.args.map a.eval);invoke d.target d.args):=by
     unfold execOp;rw[ho];simp only[resolve,hf]
    rw[hop]
    have hargs:c.args.map a.eval=(c.args.toList.map a.eval).toArray:=by apply Array.ext';simp
    simp[Act.eval,Deferred.ofValue,invoke,hargs]
   ·have e:zI E o=jA d 0 (zm fi.rs):=by simp[zI,ho,hd,hf,hfi]
    rw[e]at hfree
    exact hfree
  ·cases hn
 |makeFunc fn first caps=>
  rw[ho]at hn
  cases fn with
  |func f=>
   obtain⟨h1,hnn⟩:=zb hn
   clear hn
   have hn:=hnn
   clear hnn
   have hfirst:first= #[]:=by simpa using h1
   subst hfirst
   cases hfl:Env.flag E (X0 f (o.dst.getD 0))with
   |false=>rw[hfl]at hn;cases hn
   |true=>
    rw[hfl,zgJ]at hn
    split at hn
    ·rename_i l hc
     have g3:=UE h hc
     exact yy h (v:= .func (.func f) #[] (caps.map a.eval)) (av:= .fn f l) ⟨caps.toList.map a.eval,by congr 1;apply Array.ext';simp,g3⟩ (by simp[execOp,ho,Instr.makeFunc]) hn
    ·cases hn
  |_=>cases hn
 |_=>rw[ho]at hn;cases hn
theorem SRi.lessK (h:SRi w0 S0 σ a w Im hd bl)(K:List Nat):SRi w0 S0 { σ with ob:=dels σ.ob K} a w Im hd bl:=
 h.less rfl fun d o hd=>by
  have hd' :zd (dels σ.ob K) d=some o:=hd
  rw[yL]at hd'
  split at hd'
  ·cases hd'
  ·exact hd'
theorem Xn {K:List Nat}{dst:Option Nat}{v:AV}{N:List (Nat×Ob)}:(σ.addK K dst v N).ob=N++dels σ.ob K:=by cases dst<;>rfl
theorem jz:∀ {N l:List (Nat×Ob)} {c:Nat},zd (N++l) c=match zd N c with|some o=>some o|none=>zd l c
 | [],l,c=>rfl
 |(d,o)::N,l,c=>by
  rw[List.cons_append,yj,yj]
  by_cases e:d=c
  ·simp[e]
  ·simp only[e,if_false];exact jz
theorem zeR {K:List Nat}{dst:Option Nat}{v:AV}{N:List (Nat×Ob)}(h:SR w0 S0 (σ.add dst v N) a w):SR w0 S0 (σ.addK K dst v N) a w:=by
 obtain⟨Im,hd,bl,h⟩:=h
 refine⟨Im,hd,bl,h.less (by cases dst<;>rfl) fun d o hd=> ?_⟩
 rw[Xn,jz]at hd
 have e:(σ.add dst v N).ob=N++σ.ob:=by cases dst<;>rfl
 rw[e,jz]
 cases hN:zd N d with
 |some p=>rw[hN]at hd;exact hd
 |none=>
  rw[hN]at hd
  dsimp only at hd⊢
  rw[yL]at hd
  split at hd
  ·cases hd
  ·exact hd
def DoesK {gw:Gw}(w0:Base gw)(S0:Nat->Prop)(K:List Nat)(σ:St)(next:AV->List (Nat×Ob)->Option ρ)(r:ρ)(dst:Option Nat)(a:Act)(w:World):Prop:=∃v N,next v N=some r/\SR w0 S0 (σ.addK K dst v N) a w
theorem zad {E:Env}{T e:TypeId}{t:Ty}(hf:t.flat=true)(hu:P.underlying T=some (.slice e))(he:V5 P e t){K:List Nat}(h:SRi w0 S0 σ a w Im hd bl){xs:List t.den}{d cn:Bool}{vx:Value}{L:List Nat}
 (lo:Loose w0 { σ with ob:=dels σ.ob K} w Im hd bl t xs d cn vx L) {dst:Nat} (hfree:Free σ dst) {y:AV} {vy:Value} (hy:AVR w Im hd vy y) {next:AV->List (Nat×Ob)->Option ρ} {r:ρ} (hn:P2 σ t dst y xs d cn next=some r) (ty:TypeId):
 ∃v' w',(Builtin.append_ #[T,T] ty #[vx,vy]).run P w= .ok v' w' /\∃N,next (.cv (.own dst)) N=some r/\∃Im' hd' bl',SRi w0 S0 { σ with ob:=N++dels σ.ob K} a w' Im' hd' bl' /\hd' dst=v' :=by
 have hk:=h.lessK K
 have hfr:Free { σ with ob:=dels σ.ob K} dst:=⟨hfree.sl,fun c o hc=>hfree.ob c o (by
  have hc' :zd (dels σ.ob K) c=some o:=hc
  rw[yL]at hc'
  split at hc'
  ·cases hc'
  ·exact hc'),hfree.lt⟩
 have fin:∀ {zs:List t.den} {w' :World} {v' :Value},(∃Im' hd' bl',SRi w0 S0 (St.new { σ with ob:=dels σ.ob K} dst (.row t zs d cn)) a w' Im' hd' bl' /\hd' dst=v')->
  ∃Im' hd' bl',SRi w0 S0 { σ with ob:=[(dst,Ob.row t zs d cn)]++dels σ.ob K} a w' Im' hd' bl' /\hd' dst=v' :=fun⟨I,h1,b1,h2,h3⟩=>⟨I,h1,b1,(hfr.new _).SRi h2,h3⟩
 unfold P2 at hn
 split at hn
 ·have e1:vy= .slice none 0 0:=hy
  obtain⟨v',w',h1,h2⟩:=u4 (ys:=[]) hu he hk lo (vy:=vy) (M:=[]) ⟨⟨none,0,e1,[],by simp,rfl,by simp,fun e=>(e rfl).elim⟩,List.nodup_nil,(fun b hb=>by cases hb),(fun k p _ b _ hb=>by cases hb),(fun b hb=>by cases hb)⟩
   (fun e=>(e rfl).elim) ty dst hfree.lt
  rw[List.append_nil]at h2
  exact⟨v',w',h1,_,hn,fin h2⟩
 ·rename_i u ys
  split at hn
  ·rename_i ys' hys
   obtain⟨hm,hn⟩:=zb hn
   have hy' :VR w Im (.slice t) ys' [vy]:=zbJ hys hy
   obtain⟨A,cap,ev,_,hr⟩:=hy'
   simp only[List.cons.injEq,and_true]at ev
   have hnews:∃news,news.length=ys'.length*t.sz/\OL t.sz (rowP w Im t d) ys' news []/\(∀u∈news,u.oneCell' =true)/\(ys' ≠[]->∃b o,A=some ⟨b,o,none⟩/\At w b o news):=by
    rcases hr with rfl|⟨b,o,rfl,_,hr⟩
    ·exact⟨[],by simp,rfl,by simp,fun e=>(e rfl).elim⟩
    ·obtain⟨news,n1,n2,n3,n4⟩:=Um hr
     exact⟨news,n1,OL.flatly hf (OL.unread n3),n4,fun _=>⟨b,o,rfl,n2⟩⟩
   obtain⟨news,n1,n2,n3,n4⟩:=hnews
   obtain⟨v',w',h1,h2⟩:=u4 hu he hk lo (ys:=ys') (vy:=vy) (M:=[]) ⟨⟨A,cap,ev,news,n1,n2,n3,n4⟩,List.nodup_nil,(fun b hb=>by cases hb),(fun k p _ b _ hb=>by cases hb),(fun b hb=>by cases hb)⟩
    (fun _=>zgw hm) ty dst hfree.lt
   exact⟨v',w',h1,_,hn,fin h2⟩
  ·cases hn
 ·rename_i c
  split at hn
  ·rename_i u ys e' n' hc
   split at hn
   ·rename_i ys' hys
    obtain⟨ee,rfl⟩:=yP hys
    cases ee
    obtain⟨hm,hn⟩:=zb hn
    have hvy:vy=hd c:=hy
    obtain⟨A,k,ev,news,Li,n1,n2,n3,n4,_,_⟩:=(h.objs c _ hc).1.news
    obtain⟨v',w',h1,h2⟩:=u4 hu he hk lo (ys:=ys) (vy:=vy) (M:=[]) ⟨⟨A,k,hvy.trans ev,news,n1,OL.flatly hf n2,n3,n4⟩,List.nodup_nil,(fun b hb=>by cases hb),(fun k p _ b _ hb=>by cases hb),(fun b hb=>by cases hb)⟩
     (fun _=>zgw hm) ty dst hfree.lt
    exact⟨v',w',h1,_,hn,fin h2⟩
   ·cases hn
  ·cases hn
 ·cases hn
theorem zby {E:Env}(hE:∀T ti,E.ty T=some ti->TyOk P T ti)(h:SRi w0 S0 σ a w Im hd bl){K:List Nat}{T dst:Nat}(hfree:Free σ dst){x y:AV}{vx vy:Value}(hx:AVR w Im hd vx x)(hy:AVR w Im hd vy y)
 {next:AV->List (Nat×Ob)->Option ρ} {r:ρ} (hn:bW E σ K T dst x y next=some r) (ty:TypeId):
 ∃v' w',(Builtin.append_ #[T,T] ty #[vx,vy]).run P w= .ok v' w' /\∃N,next (.cv (.own dst)) N=some r/\∃Im' hd' bl',SRi w0 S0 { σ with ob:=N++dels σ.ob K} a w' Im' hd' bl' /\hd' dst=v' :=by
 unfold bW at hn
 split at hn
 ·rename_i t hT
  obtain⟨e,hu,he⟩:=yB hE hT
  obtain⟨hf,hnn⟩:=zb hn
  clear hn
  have hn:=hnn
  clear hnn
  split at hn
  ·have e1:vx= .slice none 0 0:=hx
   exact zad (E:=E) hf hu he h (L:=[]) ⟨.inl ⟨e1,rfl,rfl⟩,fun _ _=>e1,List.nodup_nil,(fun b hb=>by cases hb),(fun k p _ b _ hb=>by cases hb)⟩ hfree hy hn ty
  ·rename_i c
   have e1:vx=hd c:=hx
   obtain⟨hK,hnn⟩:=zb hn
   clear hn
   have hn:=hnn
   clear hnn
   split at hn
   ·rename_i u xs d cn hc
    split at hn
    ·rename_i xs' hxs
     obtain⟨ee,rfl⟩:=yP hxs
     cases ee
     have hcK:c∈K:=jL.1 hK
     refine zad (E:=E) hf hu he h (L:=bl c) ⟨by rw[e1];exact(h.objs c _ hc).1,by rw[e1];exact(h.objs c _ hc).2,(h.own c _ hc).1,(h.own c _ hc).2,fun k p hp b hb=> ?_⟩ hfree hy hn ty
     have hp' :zd (dels σ.ob K) k=some p:=hp
     rw[yL]at hp'
     split at hp'
     ·cases hp'
     ·rename_i hk
      exact h.apart k p c _ hp' hc (fun e=>hk (e▸hcK)) b hb
    ·cases hn
   ·cases hn
  ·cases hn
 ·cases hn
theorem zgi {E:Env}(hE:∀T ti,E.ty T=some ti->TyOk P T ti){ck:(fi:Fi)->Aden fi.ps->Option (Oden (zm fi.rs) (ioOf fi.ps))}(hG:∀f ids fi,E.fn f ids=some fi->∀x y,ck fi x=some y->Gives P gw f fi x y)
 (h:SRi w0 S0 σ a w Im hd bl) {o:Oper} (hfree:∀c∈zI E o,Free σ c) {K:List Nat} {next:AV->List (Nat×Ob)->Option ρ} {r:ρ} (hn:dOp E σ ck K o next=some r):o.wp P a w (DoesK w0 S0 K σ next r o.dst) Q:=by
 by_cases hst:∃T x v,o.op= .store T x v
 ·obtain⟨T,x,v,ho⟩:=hst
  unfold dOp at hn
  rw[ho]at hn
  dsimp only at hn
  unfold JM at hn
  split at hn
  ·rename_i n g cs c o' hT hc hx
   obtain⟨h1,hn⟩:=zb hn
   split at hn
   ·rename_i l hl
    obtain⟨h2,hn⟩:=zb hn
    rw[zgx]at h1 h2
    obtain⟨w',k1,τ,k2,Im',hd',bl',k3⟩:=C8 (next:=fun τ=>some τ) (r:= { σ with ob:=yt σ.ob c (.box (splice l o' cs))}) (T:=T) hE h (h.ev x) (h.ev v) (by
     rw[hx];unfold aStore;simp only[hT,hc,hl];exact yr h1.1 (yr h2.1 rfl))
    cases k2
    refine V8 (w' :=w') (by simp[execOp,ho,k1]) ⟨_,_,hn,Im',hd',bl', ?_⟩
    refine(k3.less (τ:= { σ with ob:=[(c,Ob.box (splice l o' cs))]++dels σ.ob K}) rfl fun d p hd=> ?_).put o.dst (av:= .cv .dead) trivial
    have hd' :zd ((c,Ob.box (splice l o' cs))::dels σ.ob K) d=some p:=hd
    show zd (yt σ.ob c _) d=some p
    rw[yj]at hd'
    rw[yW]
    by_cases e:c=d
    ·simp only[e,if_true]at hd' ⊢;exact hd'
    ·simp only[e,if_false]at hd' ⊢
     rw[yL]at hd'
     split at hd'
     ·cases hd'
     ·exact hd'
   ·cases hn
  ·cases hn
 by_cases hna:∀c,o.op= .call c->c.callee≠ .builtin .append
 ·exact Oper.wp_mono (fun a' w' ⟨v,N,h1,h2⟩=>⟨v,N,h1,zeR h2⟩) (zfI hE hG h ⟨hna,fun T x v e=>hst ⟨T,x,v,e⟩⟩ hfree hn)
 ·have⟨c,hc⟩:∃c,¬(o.op= .call c->c.callee≠ .builtin .append):=Classical.not_forall.1 hna
  have ho:o.op= .call c:=Classical.byContradiction fun e=>hc fun e2=>absurd e2 e
  have hb:c.callee= .builtin .append:=Classical.byContradiction fun e=>hc fun _=>e
  have hop:execOp a.eval o=(do let d<-(pure { target:= .builtin .append c.argTypes o.type (c.args.map fun| .const _=>true|_=>false),args:=c.args.map a.eval}:Sem Deferred);invoke d.target d.args):=by
   unfold execOp;rw[ho];simp only[resolve,hb];rfl
  unfold dOp at hn
  rw[ho]at hn
  dsimp only at hn
  rw[hb]at hn
  dsimp only at hn
  match hargs:c.args.toList with
  | [x,y]=>
    rw[hargs]at hn
    dsimp only at hn
    split at hn
    ·rename_i T U hT
     split at hn
     ·rename_i d hd1
      obtain⟨h0,hnn⟩:=zb hn
      clear hn
      have hn:=hnn
      clear hnn
      rw[zgx]at h0
      obtain rfl:=zgE h0.1
      have hfr:Free σ d:=hfree d (by simp[zI,ho,hd1,hb])
      obtain⟨v',w',h1,N,h2,Im',hd',bl',h3,h4⟩:=zby hE h hfr (h.ev x) (h.ev y) hn o.type
      have hm:c.args.map a.eval= #[a.eval x,a.eval y]:=by apply Array.ext';simp[hargs]
      have ha:c.argTypes= #[T,T]:=by apply Array.ext';simpa using hT
      refine yO (v:=v') (w' :=w') ?_ ⟨_,_,h2,Im',hd',bl', ?_⟩
      ·rw[hop]
       simp only[Sem.run_bind,Sem.run_pure,Result.andThen_ok,invoke,builtin,hm,ha,h1]
      ·rw[hd1];exact h3.put (some d) (av:= .cv (.own d)) h4.symm
     ·cases hn
    ·cases hn
  | []=>rw[hargs]at hn;cases hn
  | [_]=>rw[hargs]at hn;cases hn
  |_::_::_::_=>rw[hargs]at hn;cases hn
end
theorem maskFold {acc:List Nat}{i:Nat}:∀ {l:List Edge} {s:Nat},Nat.testBit (l.foldl (fun s e=>bif Region.binds .any e then Nat.lor (Nat.lor s (2 ^ e.on)) (acc.getD e.on 0)else s) s) i=true->
 Nat.testBit s i=true\/∃e∈l,Region.binds .any e=true/\(e.on=i\/Nat.testBit (acc.getD e.on 0) i=true)
 | [],s,h=> .inl h
 |e::l,s,h=>by
  rw[List.foldl_cons]at h
  rcases maskFold h with h|⟨e',he,hb,h⟩
  ·cases hb:Region.binds .any e with
   |false=>rw[hb,zgK]at h;exact .inl h
   |true=>
    rw[hb,zgJ]at h
    have h' :((s|||2 ^ e.on)|||acc.getD e.on 0).testBit i=true:=h
    rw[Nat.testBit_or,Nat.testBit_or,Bool.or_eq_true,Bool.or_eq_true]at h'
    rcases h' with(h|h)|h
    ·exact .inl h
    ·rw[Nat.testBit_two_pow]at h
     exact .inr ⟨e,by simp,hb, .inl (by simpa using h)⟩
    ·exact .inr ⟨e,by simp,hb, .inr h⟩
  ·exact .inr ⟨e',by simp[he],hb,h⟩
theorem KO:∀ {l:List Oper} {acc:List Nat} {j:Nat},j<acc.length->(wY l acc).getD j 0=acc.getD j 0
 | [],_,_,_=>rfl
 |o::l,acc,j,h=>by
  unfold wY
  rw[KO (by simp;omega),List.getD_eq_getElem?_getD,List.getD_eq_getElem?_getD,List.getElem?_append_left h]
theorem RM:∀ {l:List Oper} {acc:List Nat},(wY l acc).length=acc.length+l.length
 | [],_=>rfl
 |o::l,acc=>by unfold wY;rw[RM];simp;omega
theorem Gt:∀ {l:List Oper} {acc:List Nat} {t:Nat} {o:Oper} {i:Nat},l[t]? =some o->Nat.testBit ((wY l acc).getD (acc.length+t) 0) i=true->
 ∃e∈o.after.toList,Region.binds .any e=true/\(e.on=i\/(e.on<acc.length+t/\Nat.testBit ((wY l acc).getD e.on 0) i=true))
 | [],_,_,_,_,h,_=>by simp at h
 |o::l,acc,0,o',i,h,hb=>by
  cases(show some o=some o' from h)
  have e1:(wY (o::l) acc).getD (acc.length+0) 0=maskOf acc o:=by
   unfold wY
   rw[KO (by simp),List.getD_eq_getElem?_getD,List.getElem?_append_right (by simp)]
   simp
  rw[e1]at hb
  rcases maskFold hb with hb|⟨e,he,hbd,hb⟩
  ·simp at hb
  ·refine⟨e,he,hbd,hb.imp_right fun hb=> ?_⟩
   have hlt:e.on<acc.length:=by
    rcases Nat.lt_or_ge e.on acc.length with h1|h1
    ·exact h1
    ·rw[List.getD_eq_getElem?_getD,List.getElem?_eq_none h1]at hb;simp at hb
   refine⟨by omega, ?_⟩
   unfold wY
   rw[KO (by simp;omega),List.getD_eq_getElem?_getD,List.getElem?_append_left hlt,<-List.getD_eq_getElem?_getD]
   exact hb
 |o::l,acc,t+1,o',i,h,hb=>by
  unfold wY at hb⊢
  have e2:acc.length+(t+1)=(acc++[maskOf acc o]).length+t:=by simp;omega
  rw[e2]at hb⊢
  exact Gt (l:=l) (by simpa using h) hb
theorem G0 {m j:Nat}:∀ {ks:List (List Nat)} {i t:Nat} {k:List Nat} {c:Nat},ks[t]? =some k->c∈k->i+t≠j->Nat.testBit m (i+t)=false->c∈aliens m j i ks
 | [],i,t,k,c,h,_,_,_=>by simp at h
 |k0::ks,i,0,k,c,h,hc,hne,hb=>by
  cases(show some k0=some k from h)
  unfold aliens
  rw[beqN]
  simp only[Nat.add_zero]at hne hb
  simp only[hne,decide_false,hb,Bool.or_self,zgK]
  exact zgz.2 (.inl hc)
 |k0::ks,i,t+1,k,c,h,hc,hne,hb=>by
  unfold aliens
  exact zgz.2 (.inr (G0 (t:=t) (by simpa using h) hc (by omega) (by rw[show i+1+t=i+(t+1) by omega];exact hb)))
theorem AR {l m:List Nat}{v:AV}{N:List (Nat×Ob)}(h:noneB l m v N=true):(∀c∈l,c∉mkeys v)/\∀c∈m,∀p∈N,p.1≠c/\c∉XK p.2:=by
 unfold noneB at h
 rw[zgx,zgS,zgS]at h
 have nh:∀ {c:Nat} {l:List Nat},(!hasB c l)=true->c∉l:=fun h hm=>by rw[jL.2 hm]at h;cases h
 refine⟨fun c hc=>nh (h.1 c hc),fun c hc p hp=> ?_⟩
 have this:=h.2 c hc
 rw[zgS]at this
 have hp' :=this p hp
 rw[zgx]at hp'
 refine⟨fun e=> ?_,nh hp'.2⟩
 rw[e]at hp'
 simp at hp'
section
variable {P:Program} {ρ:Type} {gw:Gw} {w0:Base gw} {w:World} {S0:Nat->Prop} {σ σ' :St} {a:Act} {Im:Nat->Prop} {hd:Nat->Value} {bl:Nat->List Nat} {Q:Exit->Act->World->Prop}
variable {E:Env} {ops:Array Oper}
theorem Nj {l:List AV}{d t:Nat}{v:AV}(h:d≠t):vg (gV l d v) t=vg l t:=by
 rw[gz,gz,vj,List.getElem?_set];simp[h]
theorem zaQ {l:List AV}{t:Nat}{v:AV}(h:vg l t=v):gV l t v=l:=by
 rw[vj]
 apply List.ext_getElem?
 intro i
 rw[List.getElem?_set]
 by_cases e:t=i
 ·subst e
  simp only[if_true]
  split
  ·rename_i hlt
   rw[gz,zgD hlt]at h
   rw[zgD hlt,<-h];rfl
  ·rename_i hlt;rw[List.getElem?_eq_none (by omega)]
 ·simp[e]
theorem Lb {dst:Option Nat}{v:AV}{N:List (Nat×Ob)}{t:Nat}(h:∀d,dst=some d->d≠t):vg (σ.add dst v N).sl t=vg σ.sl t:=by
 cases dst with
 |none=>rfl
 |some d=>exact Nj (h d rfl)
theorem zgj {dst:Option Nat}{v:AV}{N:List (Nat×Ob)}:(σ.add dst v N).ob=N++σ.ob:=by cases dst<;>rfl
theorem NB:∀ {N l:List (Nat×Ob)} {c:Nat},(∀p∈N,p.1≠c)->zd (N++l) c=zd l c
 | [],_,_,_=>rfl
 |(d,o)::N,l,c,h=>by
  rw[List.cons_append,yj,zgH (h (d,o) (by simp))]
  exact NB fun p hp=>h p (by simp[hp])
theorem Free.slot {c:Nat}(h:Free σ c)(t:Nat):c∉mkeys (vg σ.sl t):=by
 rw[gz]
 cases ht:σ.sl[t]? with
 |none=>simp[mkeys,CV.owns]
 |some av=>exact h.sl av (List.mem_of_getElem? ht)
theorem Free.add {c:Nat}(h:Free σ c){dst:Option Nat}{v:AV}{N:List (Nat×Ob)}(hv:c∉mkeys v)(hN:∀p∈N,p.1≠c/\c∉XK p.2):Free (σ.add dst v N) c:=by
 have h' :=h.more hN
 refine⟨fun av hav=> ?_,fun d o hd=>h'.ob d o (by rw[zgj]at hd;exact hd),h.lt⟩
 cases dst with
 |none=>exact h.sl av hav
 |some d=>
  have hav' :av∈gV σ.sl d v:=hav
  rw[vj]at hav'
  rcases List.mem_or_eq_of_mem_set hav' with h1|h1
  ·exact h.sl av h1
  ·rw[h1];exact hv
abbrev eks (E:Env)(ops:Array Oper):List (List Nat):=ops.toList.map (JN E ops.toList)
structure Fact (P:Program){gw:Gw}(w0:Base gw)(S0:Nat->Prop)(Q:Exit->Act->World->Prop)(E:Env)(ops:Array Oper)(j:Nat)(o:Oper)(σ:St)(v:AV)(N:List (Nat×Ob))(K:List Nat):Prop where
 new:NewOk (zI E o++K) N
 alien:∀c∈aliens ((wY ops.toList []).getD j 0) j 0 (ops.toList.map (zI E))++eaten (zI E o) (eks E ops),c∉mkeys v
 alien2:∀c∈aliens ((wY ops.toList []).getD j 0) j 0 (ops.toList.map (zI E)),∀p∈N,p.1≠c/\c∉XK p.2
 keys:∀c∈K,c∈JN E ops.toList o
 does:∀σ' a w,Agree ops o σ σ' ->(∀c∈zI E o,Free σ' c)->SR w0 S0 σ' a w->wpOp P ops Q j (fun a' w' =>SR w0 S0 (σ'.addK K o.dst v N) a' w') a w
theorem Wd {j:Nat}{o:Oper}{K:Act->World->Prop}(ho:ops[j]? =some o)(h:if Region.wanted o (yielded ops a.tmps)then o.wp P a w K Q else K (a.put o.dst undef) w):wpOp P ops Q j K a w:=by
 unfold wpOp
 simp only[ho]
 split at h
 ·rename_i hw;rw[zgG hw];exact .inl h
 ·rename_i hw;rw[zgH hw];exact h
theorem A6 {α β:Type}{f:α->β}{l:List α}{j:Nat}{x:α}{d:β}(h:l[j]? =some x):(l.map f).getD j d=f x:=by
 rw[List.getD,List.getElem?_map,h];rfl
theorem zfD (hE:∀T ti,E.ty T=some ti->TyOk P T ti){ck:(fi:Fi)->Aden fi.ps->Option (Oden (zm fi.rs) (ioOf fi.ps))}(hG:∀f ids fi,E.fn f ids=some fi->∀x y,ck fi x=some y->Gives P gw f fi x y)
 {j:Nat} {o:Oper} {l:List Oper} (ho:ops[j]? =some o) {next:St->Option ρ} {r:ρ} (hn:dOps E ck ops.toList (wY ops.toList []) (ops.toList.map (zI E)) (eks E ops) j (o::l) σ next=some r):
 ∃v N K,Fact P w0 S0 Q E ops j o σ v N K/\dOps E ck ops.toList (wY ops.toList []) (ops.toList.map (zI E)) (eks E ops) (j+1) l (σ.addK K o.dst v N) next=some r:=by
 have hoL:ops.toList[j]? =some o:=by rw[zgX];exact ho
 have hkj:(ops.toList.map (zI E)).getD j []=zI E o:=A6 hoL
 have hej:(eks E ops).getD j []=JN E ops.toList o:=A6 hoL
 have go:∀(hw:∀σ' a w,Agree ops o σ σ' ->SR w0 S0 σ' a w->Region.wanted o (yielded ops a.tmps)=true),
  (dOp E σ ck ((eks E ops).getD j []) o fun v N=>chk (noneB (aliens ((wY ops.toList []).getD j 0) j 0 (ops.toList.map (zI E))++eaten ((ops.toList.map (zI E)).getD j []) (eks E ops)) (aliens ((wY ops.toList []).getD j 0) j 0 (ops.toList.map (zI E))++eaten ((ops.toList.map (zI E)).getD j []++(eks E ops).getD j []) (eks E ops)) v N) (dOps E ck ops.toList (wY ops.toList []) (ops.toList.map (zI E)) (eks E ops) (j+1) l (σ.addK ((eks E ops).getD j []) o.dst v N) next))=some r->
  ∃v N K,Fact P w0 S0 Q E ops j o σ v N K/\dOps E ck ops.toList (wY ops.toList []) (ops.toList.map (zI E)) (eks E ops) (j+1) l (σ.addK K o.dst v N) next=some r:=by
  intro hw hg
  rw[hkj,hej]at hg
  obtain⟨v,N,h1,h2,h3⟩:=zfH hg
  obtain⟨h4,h5⟩:=zb h1
  refine⟨v,N,_,⟨h2,(AR h4).1,fun c hc=>(AR h4).2 c (List.mem_append_left _ hc),fun c hc=>hc,fun σ' a w hA hF hS=> ?_⟩,h5⟩
  refine Wd ho ?_
  rw[zgG (hw σ' a w hA hS)]
  obtain⟨Im,hd,bl,hS⟩:=hS
  have e:dOp E σ' ck (JN E ops.toList o) o (fun v N=>some (v,N))=some (v,N):=by rw[zdb hA];exact h3 _ _
  refine Oper.wp_mono (fun a' w' hd' => ?_) (zgi (Q:=Q) hE hG hS hF e)
  obtain⟨v',N',e',hs⟩:=hd'
  cases e'
  exact hs
 have skip:∀(hw:∀σ' a w,Agree ops o σ σ' ->SR w0 S0 σ' a w->Region.wanted o (yielded ops a.tmps)=false),
  dOps E ck ops.toList (wY ops.toList []) (ops.toList.map (zI E)) (eks E ops) (j+1) l (σ.addK [] o.dst (.tup []) []) next=some r->
  ∃v N K,Fact P w0 S0 Q E ops j o σ v N K/\dOps E ck ops.toList (wY ops.toList []) (ops.toList.map (zI E)) (eks E ops) (j+1) l (σ.addK K o.dst v N) next=some r:=by
  intro hw hg
  refine⟨.tup [],[],[],⟨NewOk.none _,(fun c _=>by simp[mkeys]),(fun c _ p hp=>by cases hp),(fun c hc=>by cases hc),fun σ' a w hA hF hS=> ?_⟩,hg⟩
  refine Wd ho ?_
  rw[zgH (by rw[hw σ' a w hA hS];simp)]
  obtain⟨Im,hd,bl,hS⟩:=hS
  exact⟨Im,hd,bl,hS.put o.dst (av:= .tup []) SH⟩
 unfold dOps at hn
 dsimp only at hn
 split at hn
 ·rename_i hg
  exact go (fun _ _ _ _ _=>by simp[Region.wanted,hg]) hn
 ·rename_i g want hg
  split at hn
  ·rename_i t ht
   have ht' :(ops[g]?).bind (·.dst)=some t:=by rw[<-zgX];exact ht
   split at hn
   ·rename_i b hb
    have hlook:t∈o.looksAt ops:=by
     unfold Oper.looksAt
     refine List.mem_append_right _ ?_
     rw[hg]
     simp[ht']
    have hwant:∀σ' a w,Agree ops o σ σ' ->SR w0 S0 σ' a w->Region.wanted o (yielded ops a.tmps)=(b==want):=by
     intro σ' a w hA ⟨Im,hd,bl,hS⟩
     have:=E3 hS (show vg σ'.sl t= .cv (.val .bool b) by rw[hA.slot t hlook];exact hb)
     have hy:yielded ops a.tmps g=some b:=by simp[yielded,ht',this]
     simp[Region.wanted,hg,hy]
    have hput:∀b',b' =b->σ.put (some t) (.cv (.val .bool b'))=σ:=fun b' e=>by
     subst e
     show { σ with sl:=gV σ.sl t _}=σ
     rw[zaQ hb]
    cases b with
    |true=>
     rw[hput true rfl]at hn
     cases want with
     |true=>exact go (fun σ' a w hA hS=>by rw[hwant σ' a w hA hS];rfl) hn
     |false=>exact skip (fun σ' a w hA hS=>by rw[hwant σ' a w hA hS];rfl) hn
    |false=>
     rw[hput false rfl]at hn
     cases want with
     |true=>exact skip (fun σ' a w hA hS=>by rw[hwant σ' a w hA hS];rfl) hn
     |false=>exact go (fun σ' a w hA hS=>by rw[hwant σ' a w hA hS];rfl) hn
   ·rename_i hb
    have hlook:t∈o.looksAt ops:=by
     unfold Oper.looksAt
     refine List.mem_append_right _ ?_
     rw[hg]
     simp[ht']
    refine skip (fun σ' a w hA ⟨Im,hd,bl,hS⟩=> ?_) hn
    have:=H9 hS (show vg σ'.sl t= .tup [] by rw[hA.slot t hlook];exact hb)
    have hy:yielded ops a.tmps g=none:=by simp[yielded,ht',this,undef]
    simp[Region.wanted,hg,hy]
   ·cases hn
  ·cases hn
def AAny (P:Program){gw:Gw}(w0:Base gw)(S0:Nat->Prop)(Q:Exit->Act->World->Prop)(E:Env)(ops:Array Oper)(fin:Array Bool->St->Prop):Nat->Array Bool->St->Prop
 |0,listed,σ=>fin listed σ
 |f+1,listed,σ=>Region.ready .any ops listed≠[]/\∀i∈Region.ready .any ops listed,∃o v N K,ops[i]? =some o/\Fact P w0 S0 Q E ops i o σ v N K/\AAny P w0 S0 Q E ops fin f (listed.setIfInBounds i true) (σ.addK K o.dst v N)
theorem Alike.agree {τ:St}{o:Oper}(hA:Alike σ τ)(h:Agree ops o τ σ'):Agree ops o σ σ' :=
 ⟨fun t ht=>by rw[h.slot t ht,hA.sl],fun t ht c hc=>by rw[h.key t ht c (by rw[hA.sl];exact hc),hA.ob]⟩
theorem Alike.fact {τ:St}{j:Nat}{o:Oper}{v:AV}{N:List (Nat×Ob)}{K:List Nat}(hA:Alike σ τ)(h:Fact P w0 S0 Q E ops j o σ v N K):Fact P w0 S0 Q E ops j o τ v N K:=
 ⟨h.new,h.alien,h.alien2,h.keys,fun σ' a w hg=>h.does σ' a w (hA.agree hg)⟩
theorem Alike.addK {τ:St}(hA:Alike σ τ)(K:List Nat)(dst:Option Nat)(v:AV)(N:List (Nat×Ob)):Alike (σ.addK K dst v N) (τ.addK K dst v N):=by
 refine⟨?_,fun c=> ?_⟩
 ·cases dst with
  |none=>exact hA.sl
  |some d=>show gV τ.sl d v=gV σ.sl d v;rw[hA.sl]
 ·rw[Xn,Xn,jz,jz,yL,yL,hA.ob]
theorem AAny.alike {fin:Array Bool->St->Prop}(hfin:∀L σ τ,Alike σ τ->fin L σ->fin L τ):∀ {f:Nat} {listed:Array Bool} {σ τ:St},Alike σ τ->AAny P w0 S0 Q E ops fin f listed σ->AAny P w0 S0 Q E ops fin f listed τ
 |0,listed,σ,τ,hA,h=>hfin listed σ τ hA h
 |f+1,listed,σ,τ,hA,h=>⟨h.1,fun i hi=>by
  obtain⟨o,v,N,K,h1,h2,h3⟩:=h.2 i hi
  exact⟨o,v,N,K,h1,hA.fact h2,AAny.alike hfin (hA.addK _ _ _ _) h3⟩⟩
def Eats (E:Env)(ops:Array Oper):Prop:=∀(i:Nat) (oi:Oper) (t ip:Nat) (p:Oper),ops[i]? =some oi->NX oi=some t->bU t 0 ops.toList=some (ip,p)->∀c∈zI E p,
 Nat.testBit ((wY ops.toList []).getD i 0) ip=true/\∀(j:Nat) (oj:Oper),ops[j]? =some oj->j≠i->t∉oj.looksAt ops
theorem gp {t:Nat}:∀ {l:List Oper} {k i:Nat} {p:Oper},bU t k l=some (i,p)->k<=i/\l[i-k]? =some p/\p.dst=some t
 | [],_,_,_,h=>by cases h
 |o::r,k,i,p,h=>by
  unfold bU at h
  cases hd:dstB o.dst t with
  |true=>
   rw[hd,zgJ]at h
   cases h
   refine⟨zgC _,by simp, ?_⟩
   cases ho:o.dst with
   |none=>rw[ho]at hd;cases hd
   |some d=>rw[ho]at hd;rw[zgE (show Nat.beq d t=true from hd)]
  |false=>
   rw[hd,zgK]at h
   obtain⟨h1,h2,h3⟩:=gp h
   refine⟨by omega, ?_,h3⟩
   rw[show i-k=(i-(k+1))+1 by omega,List.getElem?_cons_succ]
   exact h2
theorem DU {t j:Nat}:∀ {l:List Oper} {i0:Nat},noLook ops t j i0 l=true->∀(i:Nat) (o:Oper),l[i]? =some o->i0+i≠j->t∉o.looksAt ops
 | [],_,_,i,o,h,_=>by simp at h
 |x::l,i0,hl,0,o,h,hne=>by
  cases h
  unfold noLook at hl
  rw[zgx,Bool.or_eq_true]at hl
  intro hm
  rcases hl.1 with h1|h1
  ·exact hne (zgE h1)
  ·rw[jL.2 hm]at h1;cases h1
 |x::l,i0,hl,i+1,o,h,hne=>by
  unfold noLook at hl
  rw[zgx]at hl
  exact DU hl.2 i o (by simpa using h) (by omega)
theorem CF:∀ {l:List Oper} {j0:Nat},eatsOk E ops (wY ops.toList []) j0 l=true->∀(i:Nat) (oi:Oper) (t ip:Nat) (p:Oper),l[i]? =some oi->NX oi=some t->bU t 0 ops.toList=some (ip,p)->∀c∈zI E p,
 Nat.testBit ((wY ops.toList []).getD (j0+i) 0) ip=true/\∀(j:Nat) (oj:Oper),ops[j]? =some oj->j≠j0+i->t∉oj.looksAt ops
 | [],_,_,i,oi,t,ip,p,h,_,_,_,_=>by simp at h
 |x::l,j0,hl,0,oi,t,ip,p,h,ht,hf,c,hc=>by
  cases h
  unfold eatsOk at hl
  rw[zgx]at hl
  have h1:=hl.1
  rw[ht]at h1
  dsimp only at h1
  rw[hf]at h1
  dsimp only at h1
  rw[Bool.or_eq_true]at h1
  rcases h1 with h1|h1
  ·rw[List.isEmpty_iff.1 h1]at hc;cases hc
  ·rw[zgx]at h1
   exact⟨h1.1,fun j oj hj hne=>DU h1.2 j oj (by rw[zgX];exact hj) (by omega)⟩
 |x::l,j0,hl,i+1,oi,t,ip,p,h,ht,hf,c,hc=>by
  unfold eatsOk at hl
  rw[zgx]at hl
  have:=CF hl.2 i oi t ip p (by simpa using h) ht hf c hc
  rw[show j0+(i+1)=j0+1+i by omega]
  exact this
theorem M7 {o:Oper}{c:Nat}(h:c∈JN E ops.toList o):∃t ip p,NX o=some t/\bU t 0 ops.toList=some (ip,p)/\c∈zI E p:=by
 unfold JN at h
 split at h
 ·rename_i t ht
  split at h
  ·rename_i i p hp
   exact⟨t,i,p,ht,hp,h⟩
  ·cases h
 ·cases h
structure Inv (E:Env)(ops:Array Oper)(listed:Array Bool)(σ:St):Prop where
 closed:∀j oj,ops[j]? =some oj->listed.getD j false=true->∀e∈oj.after,Region.binds .any e=true->listed.getD e.on false=true
 free:∀j oj,ops[j]? =some oj->listed.getD j true=false->∀c∈zI E oj,Free σ c
 eat:∀(i:Nat) (oi:Oper) (t ip:Nat) (p:Oper),ops[i]? =some oi->NX oi=some t->bU t 0 ops.toList=some (ip,p)->∀c∈zI E p,∀t',t' ≠t->c∉mkeys (vg σ.sl t')
theorem Uw {listed:Array Bool}{i:Nat}(h:listed.getD i true=false):listed.getD i false=false:=by
 rcases Nat.lt_or_ge i listed.size with h' |h'
 ·simp[h']at h⊢;exact h
 ·simp[Array.getElem?_eq_none h']at h
theorem jO {listed:Array Bool}(hc:∀j oj,ops[j]? =some oj->listed.getD j false=true->∀e∈oj.after,Region.binds .any e=true->listed.getD e.on false=true):
 ∀(j:Nat) (oj:Oper),ops[j]? =some oj->(∀e∈oj.after,Region.binds .any e=true->listed.getD e.on false=true)->∀i,Nat.testBit ((wY ops.toList []).getD j 0) i=true->listed.getD i false=true:=by
 intro j
 induction j using Nat.strongRecOn with
 |_ j ih=>
  intro oj hj hdeps i hb
  have hs:=Gt (l:=ops.toList) (acc:=[]) (t:=j) (o:=oj) (i:=i) (by rw[zgX];exact hj) (by simpa using hb)
  obtain⟨e,he,hbd,h⟩:=hs
  have hon:=hdeps e (by simpa using he) hbd
  rcases h with h|⟨hlt,h⟩
  ·rw[<-h];exact hon
  ·simp only[List.length_nil,Nat.zero_add]at hlt
   cases ho:ops[e.on]? with
   |none=>
    have:ops.toList.length<=e.on:=by rw[zgW];exact Array.getElem?_eq_none_iff.1 ho
    rw[List.getD_eq_getElem?_getD,List.getElem?_eq_none (by rw[RM];simpa using this)]at h
    simp at h
   |some o' =>exact ih e.on hlt o' ho (fun e' he' hb' =>hc e.on o' ho hon e' he' hb') i h
theorem GW {listed:Array Bool}(hc:∀j oj,ops[j]? =some oj->listed.getD j false=true->∀e∈oj.after,Region.binds .any e=true->listed.getD e.on false=true){i:Nat}(hi:i∈Region.ready .any ops listed):
 ∀j oj,ops[j]? =some oj->(listed.setIfInBounds i true).getD j false=true->∀e∈oj.after,Region.binds .any e=true->(listed.setIfInBounds i true).getD e.on false=true:=by
 obtain⟨hun,oi,hoi,hall⟩:=mem_ready.1 hi
 intro j oj hj hl e he hb
 by_cases hij:i=j
 ·subst hij
  have:oj=oi:=Option.some.inj (hj.symm.trans hoi)
  subst this
  exact getD_set_true (hall e he hb)
 ·rw[getD_set_ne false hij]at hl
  exact getD_set_true (hc j oj hj hl e he hb)
theorem Free.less {c:Nat}{K:List Nat}(h:Free σ c):Free { σ with ob:=dels σ.ob K} c:=⟨h.sl,fun d o hd=>h.ob d o (by
 have hd' :zd (dels σ.ob K) d=some o:=hd
 rw[yL]at hd'
 split at hd'
 ·cases hd'
 ·exact hd'),h.lt⟩
theorem Free.addK {c:Nat}(h:Free σ c){K:List Nat}{dst:Option Nat}{v:AV}{N:List (Nat×Ob)}(hv:c∉mkeys v)(hN:∀p∈N,p.1≠c/\c∉XK p.2):Free (σ.addK K dst v N) c:=
 Free.add (σ:= { σ with ob:=dels σ.ob K}) (h.less (K:=K)) hv hN
theorem Inv.add {listed:Array Bool}(hdis:∀(i j:Nat) (oi oj:Oper),ops[i]? =some oi->ops[j]? =some oj->i≠j->∀c∈zI E oi,c∉zI E oj)(inv:Inv E ops listed σ){i:Nat}{o:Oper}{v:AV}{N:List (Nat×Ob)}{K:List Nat}(hi:i∈Region.ready .any ops listed)(ho:ops[i]? =some o)(hF:Fact P w0 S0 Q E ops i o σ v N K):Inv E ops (listed.setIfInBounds i true) (σ.addK K o.dst v N):=by
 obtain⟨hun,oi,hoi,hall⟩:=mem_ready.1 hi
 have:oi=o:=Option.some.inj (hoi.symm.trans ho)
 subst this
 refine⟨GW inv.closed hi,fun j oj hj hl c hc=> ?_,fun j oj t ip p hj ht hf c hc t' hne=> ?_⟩
 ·have hij:i≠j:=by
   intro e;subst e
   have hsz:i<listed.size\/listed.size<=i:=Nat.lt_or_ge _ _
   rcases hsz with h|h
   ·simp[h]at hl
   ·simp[Array.getElem?_eq_none h]at hun
  rw[getD_set_ne true hij]at hl
  have hfree:=inv.free j oj hj hl c hc
  have hnb:Nat.testBit ((wY ops.toList []).getD i 0) j=false:=by
   cases hb:Nat.testBit ((wY ops.toList []).getD i 0) j with
   |false=>rfl
   |true=>
    have:=jO inv.closed i oi hoi hall j hb
    rw[Uw hl]at this;cases this
  have hmem:c∈aliens ((wY ops.toList []).getD i 0) i 0 (ops.toList.map (zI E)):=(G0 (t:=j) (k:=zI E oj) (by rw[List.getElem?_map,zgX,hj];rfl) hc (by omega) (by rw[Nat.zero_add];exact hnb))
  exact hfree.addK (hF.alien c (List.mem_append_left _ hmem)) (hF.alien2 c hmem)
 ·obtain⟨_,hp,hpd⟩:=gp hf
  rw[Nat.sub_zero,zgX]at hp
  cases hd:oi.dst with
  |none=>exact inv.eat j oj t ip p hj ht hf c hc t' hne
  |some d=>
   show c∉mkeys (vg (gV σ.sl d v) t')
   by_cases hdt:d=t'
   ·subst hdt
    by_cases hip:i=ip
    ·subst hip
     have:oi=p:=Option.some.inj (hoi.symm.trans hp)
     subst this
     rw[hd]at hpd
     exact(hne (Option.some.inj hpd)).elim
    ·have hno:c∉zI E oi:=fun hc2=>hdis i ip oi p hoi hp hip c hc2 hc
     have hal:=hF.alien c (List.mem_append_right _ (List.mem_filter.2 ⟨zgP.2 ⟨JN E ops.toList oj,zgY.2 ⟨oj,Array.mem_toList_iff.2 (Array.mem_of_getElem? hj),rfl⟩,by
      show c∈JN E ops.toList oj
      unfold JN;rw[ht];dsimp only;rw[hf];exact hc⟩,by
      cases hh:hasB c (zI E oi)with
      |false=>rfl
      |true=>exact(hno (jL.1 hh)).elim⟩))
     by_cases hlt:d<σ.sl.length
     ·rw[gz,vj,List.getElem?_set,zgG rfl,zgG hlt]
      exact hal
     ·rw[gz,vj,List.getElem?_set,zgG rfl,zgH hlt]
      simp[mkeys,CV.owns]
   ·rw[Nj hdt]
    exact inv.eat j oj t ip p hj ht hf c hc t' hne
theorem Al {fin:Array Bool->St->Prop}{s:Nat}(hdis:∀(i j:Nat) (oi oj:Oper),ops[i]? =some oi->ops[j]? =some oj->i≠j->∀c∈zI E oi,c∉zI E oj)(hQ:∀L σ a w,fin L σ->Inv E ops L σ->SR w0 S0 σ a w->wpAny P .any ops Q s L a w):∀(f:Nat) (listed:Array Bool) (σ:St) (a:Act) (w:World),Inv E ops listed σ->SR w0 S0 σ a w->AAny P w0 S0 Q E ops fin f listed σ->wpAny P .any ops Q (f+s) listed a w
 |0,listed,σ,a,w,inv,hS,h=>by rw[Nat.zero_add];exact hQ listed σ a w h inv hS
 |f+1,listed,σ,a,w,inv,hS,h=>by
  rw[show f+1+s=(f+s)+1 by omega]
  refine⟨fun h0=>(h.1 h0).elim,fun i hi=> ?_⟩
  obtain⟨o,v,N,K,ho,hF,hr⟩:=h.2 i hi
  obtain⟨hun,oi,hoi,hall⟩:=mem_ready.1 hi
  have:oi=o:=Option.some.inj (hoi.symm.trans ho)
  subst this
  exact wpOp_mono (fun a' w' hs=>Al hdis hQ f _ _ a' w' (inv.add hdis hi ho hF) hs hr) (hF.does σ a w ⟨fun _ _=>rfl,fun _ _ _ _=>rfl⟩ (inv.free i oi ho hun) hS)
theorem zbW {fin:Array Bool->St->Prop}{m:Nat}(hfin:∀L σ τ,Alike σ τ->fin L σ->fin L τ)(hfinL:∀L σ,fin L σ->∀j,j<m->L.getD j false=true)(hcut:∀j oj,ops[j]? =some oj->m<=j->∀i,i<m->Nat.testBit ((wY ops.toList []).getD j 0) i=true)
 (heats:Eats E ops) (hdis:∀(i j:Nat) (oi oj:Oper),ops[i]? =some oi->ops[j]? =some oj->i≠j->∀c∈zI E oi,c∉zI E oj) {i:Nat} (him:i<m) {oi:Oper} {v:AV} {N:List (Nat×Ob)} {K:List Nat} (hi:ops[i]? =some oi):
 ∀(f:Nat) (listed:Array Bool) (σ:St),Inv E ops listed σ->
  (∀j oj,ops[j]? =some oj->j≠i->listed.getD j true=false->(∀e∈oj.after,Region.binds .any e=true->e.on≠i)->oi.apart ops oj=true)->
  i∈Region.ready .any ops listed->Fact P w0 S0 Q E ops i oi σ v N K->AAny P w0 S0 Q E ops fin f (listed.setIfInBounds i true) (σ.addK K oi.dst v N)->AAny P w0 S0 Q E ops fin (f+1) listed σ:=by
 intro f
 induction f with
 |zero=>
  intro listed σ inv _ hr hF H
  refine⟨fun h=>(by rw[h]at hr;cases hr),fun j hj=> ?_⟩
  by_cases hji:j=i
  ·subst hji;exact⟨oi,v,N,K,hi,hF,H⟩
  ·exfalso
   obtain⟨hjun,oj,hoj,hall⟩:=mem_ready.1 hj
   obtain⟨hiun,_⟩:=mem_ready.1 hr
   have hall' :=hfinL _ _ H
   have hjm:m<=j:=by
    rcases Nat.lt_or_ge j m with h|h
    ·have:=hall' j h
     rw[getD_set_ne false (Ne.symm hji),Uw hjun]at this
     cases this
    ·exact h
   have:=jO inv.closed j oj hoj hall i (hcut j oj hoj hjm i him)
   rw[Uw hiun]at this;cases this
 |succ f ih=>
  intro listed σ inv hfree hr hF H
  refine⟨fun h=>(by rw[h]at hr;cases hr),fun j hj=> ?_⟩
  by_cases hji:j=i
  ·subst hji;exact⟨oi,v,N,K,hi,hF,H⟩
  ·obtain⟨oj,u,M,J,hoj,hFj,hrest⟩:=H.2 j (ready_mono hj hji)
   obtain⟨hjun,oj',hoj',hall⟩:=mem_ready.1 hj
   have:oj' =oj:=Option.some.inj (hoj'.symm.trans hoj)
   subst this
   obtain⟨hiun,oi',hoi',hiall⟩:=mem_ready.1 hr
   have:oi' =oi:=Option.some.inj (hoi'.symm.trans hi)
   subst this
   have hnot:∀e∈oj'.after,Region.binds .any e=true->e.on≠i:=fun e he hb heq=>by
    have h1:=hall e he hb
    rw[heq,Uw hiun]at h1
    cases h1
   have hap:=Oper.apart_spec (hfree j oj' hoj hji hjun hnot)
   obtain⟨h1,h2,h3⟩:=hap
   have hFi:=inv.free i oi' hi hiun
   have hFj' :=inv.free j oj' hoj hjun
   have hNk:∀c,(∀k∈zI E oi',k≠c)->c∉K->∀p∈N,p.1≠c:=fun c hc hk p hp e=>(zgz.1 (hF.new.2.1 p hp)).elim (fun h=>hc _ h e) (fun h=>hk (e▸h))
   have hMk:∀c,(∀k∈zI E oj',k≠c)->c∉J->∀p∈M,p.1≠c:=fun c hc hk p hp e=>(zgz.1 (hFj.new.2.1 p hp)).elim (fun h=>hc _ h e) (fun h=>hk (e▸h))
   have hKj:∀c∈K,(∀t∈oj'.looksAt ops,c∉mkeys (vg σ.sl t))/\c∉zI E oj' :=fun c hc=>by
    obtain⟨t,ip,p,e1,e2,e3⟩:=M7 (hF.keys c hc)
    obtain⟨g1,g2⟩:=heats i oi' t ip p hi e1 e2 c e3
    obtain⟨_,hp,_⟩:=gp e2
    rw[Nat.sub_zero,zgX]at hp
    refine⟨fun t' ht' =>inv.eat i oi' t ip p hi e1 e2 c e3 t' (fun e=>g2 j oj' hoj hji (e▸ht')),fun hcj=> ?_⟩
    have hipl:=jO inv.closed i oi' hi hiall ip g1
    have hne:ip≠j:=fun e=>by rw[e,Uw hjun]at hipl;cases hipl
    exact hdis ip j p oj' hp hoj hne c e3 hcj
   have hJi:∀c∈J,(∀t∈oi'.looksAt ops,c∉mkeys (vg σ.sl t))/\c∉zI E oi' :=fun c hc=>by
    obtain⟨t,ip,p,e1,e2,e3⟩:=M7 (hFj.keys c hc)
    obtain⟨g1,g2⟩:=heats j oj' t ip p hoj e1 e2 c e3
    obtain⟨_,hp,_⟩:=gp e2
    rw[Nat.sub_zero,zgX]at hp
    refine⟨fun t' ht' =>inv.eat j oj' t ip p hoj e1 e2 c e3 t' (fun e=>g2 i oi' hi (Ne.symm hji) (e▸ht')),fun hci=> ?_⟩
    have hipl:=jO inv.closed j oj' hoj hall ip g1
    have hne:ip≠i:=fun e=>by rw[e,Uw hiun]at hipl;cases hipl
    exact hdis ip i p oi' hp hi hne c e3 hci
   have hKJ:∀c∈K,c∉J:=fun c hc hcJ=>by
    obtain⟨t,ip,p,e1,e2,e3⟩:=M7 (hF.keys c hc)
    obtain⟨t2,jp,q,f1,f2,f3⟩:=M7 (hFj.keys c hcJ)
    obtain⟨_,hp,hpd⟩:=gp e2
    obtain⟨_,hq,hqd⟩:=gp f2
    rw[Nat.sub_zero,zgX]at hp hq
    have hpq:ip=jp:=Classical.byContradiction fun hne=>hdis ip jp p q hp hq hne c e3 f3
    subst hpq
    have:p=q:=Option.some.inj (hp.symm.trans hq)
    subst this
    rw[hpd]at hqd
    cases hqd
    have hlook:t∈oj'.looksAt ops:=by
     refine List.mem_append_left _ (List.mem_filterMap.2 ⟨.tmp t, ?_,rfl⟩)
     unfold NX at f1
     split at f1
     ·rename_i cc hcc
      split at f1
      ·rename_i hcal hargs
       cases f1
       rw[hcc]
       simp only[Op.operands,Call.operands]
       rw[Array.toList_append,zgz]
       right
       rw[hargs];simp
      ·cases f1
     ·rename_i hst
      cases f1
      rw[hst]
      simp[Op.operands]
     ·cases f1
    exact(heats i oi' t ip p hi e1 e2 c e3).2 j oj' hoj hji hlook
   have gd:∀ {K' :List Nat} {N' :List (Nat×Ob)} {c:Nat},c∉K' ->(∀p∈N',p.1≠c)->zd (N' ++dels σ.ob K') c=zd σ.ob c:=fun h1 h2=>by
    rw[NB h2,yL,zgH h1]
   have hFj0:Fact P w0 S0 Q E ops j oj' σ u M J:=by
    refine⟨hFj.new,hFj.alien,hFj.alien2,hFj.keys,fun σ' a w hA hf hS=>hFj.does σ' a w ⟨fun t ht=> ?_,fun t ht c hc=> ?_⟩ hf hS⟩
    ·rw[hA.slot t ht];exact(Lb (σ:= { σ with ob:=dels σ.ob K}) (N:=N) (v:=v) (dst:=oi'.dst) (fun d hd e=>h1 d hd (e▸ht))).symm
    ·have hc' :c∈mkeys (vg σ.sl t):=by
      have e:=Lb (σ:= { σ with ob:=dels σ.ob K}) (N:=N) (v:=v) (dst:=oi'.dst) (t:=t) (fun d hd e=>h1 d hd (e▸ht))
      have hc2:c∈mkeys (vg (St.add { σ with ob:=dels σ.ob K} oi'.dst v N).sl t):=hc
      rw[e]at hc2;exact hc2
     rw[hA.key t ht c hc',Xn,gd (fun hk=>(hKj c hk).1 t ht hc') (hNk c (fun k hk e=>(hFi k hk).slot t (e▸hc')) (fun hk=>(hKj c hk).1 t ht hc'))]
   have hinv:=inv.add hdis hj hoj hFj0
   have hFi2:Fact P w0 S0 Q E ops i oi' (σ.addK J oj'.dst u M) v N K:=by
    refine⟨hF.new,hF.alien,hF.alien2,hF.keys,fun σ' a w hA hf hS=>hF.does σ' a w ⟨fun t ht=> ?_,fun t ht c hc=> ?_⟩ hf hS⟩
    ·rw[hA.slot t ht];exact Lb (σ:= { σ with ob:=dels σ.ob J}) (N:=M) (v:=u) (dst:=oj'.dst) (fun d hd e=>h3 d hd (e▸ht))
    ·have e:=Lb (σ:= { σ with ob:=dels σ.ob J}) (N:=M) (v:=u) (dst:=oj'.dst) (t:=t) (fun d hd e=>h3 d hd (e▸ht))
     rw[hA.key t ht c (by show c∈mkeys (vg (St.add { σ with ob:=dels σ.ob J} oj'.dst u M).sl t);rw[e];exact hc),Xn,gd (fun hk=>(hJi c hk).1 t ht hc) (hMk c (fun k hk e=>(hFj' k hk).slot t (e▸hc)) (fun hk=>(hJi c hk).1 t ht hc))]
   refine⟨oj',u,M,J,hoj,hFj0,ih (listed.setIfInBounds j true) (σ.addK J oj'.dst u M) hinv (fun k ok hk hki hun hno=> ?_) (ready_mono hr (Ne.symm hji)) hFi2 ?_⟩
   ·refine hfree k ok hk hki ?_ hno
    by_cases hjk:j=k
    ·subst hjk;exact hjun
    ·rw[getD_set_ne true hjk]at hun;exact hun
   ·rw[Array.setIfInBounds_comm _ _ hji]
    refine AAny.alike hfin ⟨?_,fun c=> ?_⟩ hrest
    ·show((σ.addK J oj'.dst u M).addK K oi'.dst v N).sl=((σ.addK K oi'.dst v N).addK J oj'.dst u M).sl
     cases hdi:oi'.dst with
     |none=>cases oj'.dst<;>rfl
     |some d=>
      cases hdj:oj'.dst with
      |none=>rfl
      |some e=>
       have hne:d≠e:=fun k=>h2 d hdi (by rw[hdj,k])
       show gV (gV σ.sl e u) d v=gV (gV σ.sl d v) e u
       rw[vj,vj,vj,vj,List.set_comm _ _ hne]
    ·rw[Xn,Xn,Xn,Xn,jz,jz (N:=M),yL,yL (ks:=J),jz (N:=M),jz (N:=N),yL,yL (ks:=K)]
     have hNM:∀o,zd N c=some o->zd M c=none:=fun o ho=>by
      cases hM:zd M c with
      |none=>rfl
      |some o' =>
       exfalso
       rcases zgz.1 (hF.new.2.1 _ (ZN ho))with a1|a1<;>rcases zgz.1 (hFj.new.2.1 _ (ZN hM))with a2|a2
       ·exact hdis i j oi' oj' hi hoj (Ne.symm hji) c a1 a2
       ·exact(hJi c a2).2 a1
       ·exact(hKj c a1).2 a2
       ·exact hKJ c a1 a2
     have hNJ:∀o,zd N c=some o->c∉J:=fun o ho hc=>(zgz.1 (hF.new.2.1 _ (ZN ho))).elim (hJi c hc).2 (fun h=>hKJ c h hc)
     have hMK:∀o,zd M c=some o->c∉K:=fun o ho hc=>(zgz.1 (hFj.new.2.1 _ (ZN ho))).elim (hKj c hc).2 (fun h=>hKJ c hc h)
     cases hN:zd N c with
     |some o=>simp[hNM o hN,hNJ o hN]
     |none=>
      cases hM:zd M c with
      |some o=>simp[hMK o hM]
      |none=>
       by_cases hk:c∈K<;>by_cases hJ:c∈J<;>simp[hk,hJ]
def lstd (n:Nat):Nat->Array Bool
 |0=>Array.replicate n false|k+1=>(lstd n k).setIfInBounds k true
theorem DX {n:Nat}:∀ {k:Nat},(lstd n k).size=n
 |0=>by simp[lstd]
 |k+1=>by simp[lstd,DX (k:=k)]
theorem RN {n:Nat}{d:Bool}:∀ {k j:Nat},j<n->(lstd n k).getD j d=decide (j<k)
 |0,j,h=>by simp[lstd,h]
 |k+1,j,h=>by
  by_cases e:k=j
  ·subst e
   have:k<(lstd n k).size:=by rw[DX];exact h
   simp[lstd,this]
  ·rw[show lstd n (k+1)=(lstd n k).setIfInBounds k true from rfl,getD_set_ne d e,RN h]
   congr 1
   exact propext ⟨fun h=>by omega,fun h=>by omega⟩
theorem ze5:∀(f k:Nat),k+f=ops.size->Region.lexFrom .any ops f k (lstd ops.size k)=true->∀j,k<=j->j<ops.size->j∈Region.ready .any ops (lstd ops.size j)/\Region.free .any ops (lstd ops.size j) j=true
 |0,k,hk,h,j,h1,h2=>by omega
 |f+1,k,hk,h,j,h1,h2=>by
  simp only[Region.lexFrom,zgx]at h
  by_cases e:j=k
  ·subst e;exact⟨by simpa using h.1.1,h.1.2⟩
  ·exact ze5 f (k+1) (by omega) h.2 j (by omega) h2
theorem zcB:∀(f k:Nat),k+f=ops.size->Region.lexFrom .any ops f k (lstd ops.size k)=true->Region.ready .any ops (lstd ops.size ops.size)=[]
 |0,k,hk,h=>by
  rw[Nat.add_zero]at hk;subst hk
  simpa[Region.lexFrom]using h
 |f+1,k,hk,h=>by
  simp only[Region.lexFrom,zgx]at h
  exact zcB f (k+1) (by omega) h.2
theorem zar (hE:∀T ti,E.ty T=some ti->TyOk P T ti){ck:(fi:Fi)->Aden fi.ps->Option (Oden (zm fi.rs) (ioOf fi.ps))}(hG:∀f ids fi,E.fn f ids=some fi->∀x y,ck fi x=some y->Gives P gw f fi x y)
 {fin:Array Bool->St->Prop} {m:Nat} (hm:m<=ops.size) (hfin:∀L σ τ,Alike σ τ->fin L σ->fin L τ) (hfinL:∀L σ,fin L σ->∀j,j<m->L.getD j false=true) (hcut:∀j oj,ops[j]? =some oj->m<=j->∀i,i<m->Nat.testBit ((wY ops.toList []).getD j 0) i=true)
 (heats:Eats E ops) (hdis:∀(i j:Nat) (oi oj:Oper),ops[i]? =some oi->ops[j]? =some oj->i≠j->∀c∈zI E oi,c∉zI E oj) {next:St->Option ρ} {r:ρ} (hnext:∀σ,next σ=some r->fin (lstd ops.size m) σ)
 (hlex:∀j,j<ops.size->j∈Region.ready .any ops (lstd ops.size j)/\Region.free .any ops (lstd ops.size j) j=true):
 ∀(l:List Oper) (k:Nat) (σ:St),k+l.length=m->(∀j,j<l.length->l[j]? =ops[k+j]?)->Inv E ops (lstd ops.size k) σ->
  dOps E ck ops.toList (wY ops.toList []) (ops.toList.map (zI E)) (eks E ops) k l σ next=some r->AAny P w0 S0 Q E ops fin l.length (lstd ops.size k) σ
 | [],k,σ,hk,hl,inv,hn=>by
   have:k=m:=by simpa using hk
   subst this
   exact hnext σ hn
 |o::l,k,σ,hk,hl,inv,hn=>by
  have h0:ops[k]? =some o:=by simpa using(hl 0 (by simp)).symm
  rw[zgB]at hk
  obtain⟨hr,hf⟩:=hlex k (by omega)
  obtain⟨v,N,K,hF,hrest⟩:=zfD (Q:=Q) (w0:=w0) (S0:=S0) hE hG h0 hn
  exact zbW hfin hfinL hcut heats hdis (by omega) h0 l.length (lstd ops.size k) σ inv (Region.free_spec h0 hf) hr hF
   (zar hE hG hm hfin hfinL hcut heats hdis hnext hlex l (k+1) _ (by omega) (fun j hj=>by have:=hl (j+1) (by rw[zgB];omega);simpa[Nat.add_assoc,Nat.add_comm 1 j]using this) (inv.add hdis hr h0 hF) hrest)
theorem seqAny (hE:∀T ti,E.ty T=some ti->TyOk P T ti){ck:(fi:Fi)->Aden fi.ps->Option (Oden (zm fi.rs) (ioOf fi.ps))}(hG:∀f ids fi,E.fn f ids=some fi->∀x y,ck fi x=some y->Gives P gw f fi x y){next:St->Option ρ}{r:ρ}(hQ:∀a w,Goes w0 S0 next r a w->Q .normal a w)
 (hlex:∀j,j<ops.size->j∈Region.ready .any ops (lstd ops.size j)) (hend:Region.ready .any ops (lstd ops.size ops.size)=[]):
 ∀(l:List Oper) (k:Nat) (σ:St) (a:Act) (w:World),k+l.length=ops.size->(∀j,j<l.length->l[j]? =ops[k+j]?)->(∀j oj,ops[j]? =some oj->k<=j->∀i,i<j->Nat.testBit ((wY ops.toList []).getD j 0) i=true)->
  (∀j oj,ops[j]? =some oj->(lstd ops.size k).getD j false=true->∀e∈oj.after,Region.binds .any e=true->(lstd ops.size k).getD e.on false=true)->SR w0 S0 σ a w->aOps E ck ops.toList l σ next=some r->wpAny P .any ops Q l.length (lstd ops.size k) a w
 | [],k,σ,a,w,hk,hl,hfull,hc,hS,hn=>by
   have:k=ops.size:=by simpa using hk
   subst this
   exact⟨hend,hQ a w ⟨σ,hn,hS⟩⟩
 |o::l,k,σ,a,w,hk,hl,hfull,hc,hS,hn=>by
  have h0:ops[k]? =some o:=by simpa using(hl 0 (by simp)).symm
  rw[zgB]at hk
  have hr:=hlex k (by omega)
  refine⟨fun h=>(by rw[h]at hr;cases hr),fun i hi=> ?_⟩
  obtain⟨hun,oi,hoi,hall⟩:=mem_ready.1 hi
  have hilt:i<ops.size:=by
   rcases Nat.lt_or_ge i ops.size with h|h
   ·exact h
   ·rw[Array.getElem?_eq_none h]at hoi;cases hoi
  have hik:i=k:=by
   rw[RN hilt]at hun
   have h1:¬i<k:=by simpa using hun
   rcases Nat.lt_or_ge k i with h2|h2
   ·have:=jO hc i oi hoi hall k (hfull i oi hoi (by omega) k h2)
    rw[RN (by omega)]at this
    simp at this
   ·omega
  subst hik
  obtain⟨Im,hd,bl,hS⟩:=hS
  refine Wd h0 ?_
  have hg:=M5 (Q:=Q) hE hG hS hn
  have hc' :=GW hc hr
  split at hg
  ·rename_i hw
   rw[zgG hw]
   exact Oper.wp_mono (fun a' w' ⟨τ,ht,hs⟩=>seqAny hE hG hQ hlex hend l (i+1) τ a' w' (by omega) (fun j hj=>by have:=hl (j+1) (by rw[zgB];omega);simpa[Nat.add_assoc,Nat.add_comm 1 j]using this) (fun j oj hj hle=>hfull j oj hj (by omega)) hc' hs ht) hg
  ·rename_i hw
   rw[zgH hw]
   obtain⟨τ,ht,hs⟩:=hg
   exact seqAny hE hG hQ hlex hend l (i+1) τ _ w (by omega) (fun j hj=>by have:=hl (j+1) (by rw[zgB];omega);simpa[Nat.add_assoc,Nat.add_comm 1 j]using this) (fun j oj hj hle=>hfull j oj hj (by omega)) hc' hs ht
theorem GV:∀ {l:List Nat} {j:Nat},j<=xZ j l/\xZ j l<=j+l.length/\∀i,xZ j l<=i->i<j+l.length->l[i-j]? =some (2 ^ i-1)
 | [],j=>⟨zgC _,zgC _,fun i h1 h2=>by simp[xZ]at h1 h2;omega⟩
 |k::r,j=>by
  obtain⟨h1,h2,h3⟩:=GV (l:=r) (j:=j+1)
  unfold xZ
  dsimp only
  cases hb:(Nat.beq (xZ (j+1) r) (j+1)&&Nat.beq k (2 ^ j-1))with
  |true=>
   rw[zgJ]
   rw[zgx]at hb
   have e1:=zgE hb.1
   have e2:=zgE hb.2
   refine⟨zgC _,by omega,fun i hi hl=> ?_⟩
   rw[zgB]at hl
   by_cases e:i=j
   ·subst e;rw[Nat.sub_self,List.getElem?_cons_zero,e2]
   ·rw[show i-j=(i-(j+1))+1 by omega,List.getElem?_cons_succ]
    exact h3 i (by omega) (by omega)
  |false=>
   rw[zgK]
   refine⟨by omega,by rw[zgB];omega,fun i hi hl=> ?_⟩
   rw[zgB]at hl
   rw[show i-j=(i-(j+1))+1 by omega,List.getElem?_cons_succ]
   exact h3 i hi (by omega)
theorem zev {ks:List (List Nat)}(h:(ks.flatMap id).Nodup):∀(i j:Nat) (a b:List Nat),ks[i]? =some a->ks[j]? =some b->i≠j->∀c∈a,c∉b:=by
 induction ks with
 |nil=>intro i j a b hi;simp at hi
 |cons k ks ih=>
  rw[List.flatMap_cons,zgM]at h
  intro i j a b hi hj hne c hc hcb
  cases i with
  |zero=>
   cases j with
   |zero=>exact hne rfl
   |succ j=>
    cases(show some k=some a from hi)
    exact h.2.2 c hc c (zgP.2 ⟨b,List.mem_of_getElem? (by simpa using hj),hcb⟩) rfl
  |succ i=>
   cases j with
   |zero=>
    cases(show some k=some b from hj)
    exact h.2.2 c hcb c (zgP.2 ⟨a,List.mem_of_getElem? (by simpa using hi),hc⟩) rfl
   |succ j=>exact ih h.2.1 i j a b (by simpa using hi) (by simpa using hj) (by omega) c hc hcb
theorem SR.drawn (h:SR w0 S0 σ a w):SR w0 S0 σ a { w with drawn:=w.drawn+1}:=by
 obtain⟨Im,hd,bl,h⟩:=h
 exact⟨Im,hd,bl,h.world (w' := { w with drawn:=w.drawn+1}) (fun _ _=>rfl) (zgC _) h.below.drew⟩
theorem zgd {E:Env}(hE:∀T ti,E.ty T=some ti->TyOk P T ti){Im:Nat->Prop}{hd:Nat->Value}{bl:Nat->List Nat}(h:SRi w0 S0 σ a w Im hd bl){o:Oper}{next:AV->Option ρ}{r:ρ}(hn:lOp E σ o next=some r):
 ∃av v,next av=some r/\(∀w',(execOp a.eval o).run P w' = .ok (.value v) w')/\AVR w Im hd v av:=by
 unfold lOp at hn
 split at hn
 ·rename_i x ho
  exact⟨_,a.eval x,hn,fun w' =>by simp[execOp,ho],h.ev x⟩
 ·rename_i T x lo hi mx ho
  obtain⟨hmx,hnn⟩:=zb hn
  clear hn
  have hn:=hnn
  clear hnn
  have hmx' :mx=none:=by simpa using hmx
  subst hmx'
  have hx:=h.ev x
  have hop:∀ {v:Value} {w' :World},(Instr.sliceAt T (a.eval x) (lo.map a.eval) (hi.map a.eval) none).run P w' = .ok v w' ->(execOp a.eval o).run P w' = .ok (.value v) w' :=by
   intro v w' hv
   simp[execOp,ho,hv]
  unfold Qv at hn
  split at hn
  ·rename_i s hs
   rw[hs]at hx
   have ex:=Wg hx
   split at hn
   ·rename_i hT
    obtain⟨dd,hd2,hk,_⟩:=hE T _ hT
    cases(show dd=_ from hk)
    obtain⟨l,h',h1,h2,h3,_,h5⟩:=J7 (P:=P) h hn
    refine⟨.cv (.val .str (s.extract l h')), .string (s.extract l h'),h3,fun w' =>hop ?_,svr⟩
    rw[ex]
    have:=h5 w' false s.size (zgC _)
    simp[Instr.sliceAt,Instr.slice,run_underlying hd2,this]
   ·cases hn
  ·rename_i t xs hs
   rw[hs]at hx
   split at hn
   ·rename_i u hT
    obtain⟨h0,hnn⟩:=zb hn
    obtain rfl:=Ty.same_eq h0
    obtain⟨e,hu,i,z,hi',hsz,_⟩:=yB hE hT
    obtain⟨l,h',h1,h2,h3,_,h5⟩:=J7 (P:=P) h hnn
    have hx' :VR w Im (.slice u) xs [a.eval x]:=hx
    obtain⟨A,cap,ev,hc,_⟩:=hx'
    simp only[List.cons.injEq,and_true]at ev
    refine⟨_,_,h3,fun w' =>hop (by
     have hr:=Km (P:=P) hu hi' (A:=A) (h5 w' true cap hc)
     rw[<-ev]at hr
     exact hr), ?_⟩
    rw[hsz]
    have hx2:VR w Im (.slice u) xs [a.eval x]:=hx
    rw[ev]at hx2
    exact VR.cut hx2 h1 h2 hc
   ·cases hn
  ·cases hn
 ·rename_i T x f ho
  split at hn
  ·rename_i off n agg hf
   obtain⟨h1,hnn⟩:=zb hn
   have h1' :=zgZ h1
   have hr:=fun b o' w=>Sd (P:=P) hE hf h1' b o' w
   have hx:=h.ev x
   split at hnn
   ·rename_i c o' he
    rw[he]at hx
    obtain⟨b,e1,e2⟩:=hx
    exact⟨.adr c (o' +off),_,hnn,fun w' =>by simp[execOp,ho,e2,hr],⟨b,e1,rfl⟩⟩
   ·rename_i c m i o' he
    rw[he]at hx
    obtain⟨b,f1,e1,e2⟩:=hx
    exact⟨.el c m i (o' +off),_,hnn,fun w' =>by simp[execOp,ho,e2,hr];rfl,⟨b,f1,e1,by simp[Nat.add_assoc]⟩⟩
   ·cases hnn
  ·cases hn
 ·rename_i T x i ho
  split at hn
  ·rename_i z hz
   obtain⟨k,ek⟩:=V3 (h.ev i) hz
   obtain⟨u,av,h1,h2,h3⟩:=Xo (k:=k) hE h (h.ev x) hn
   exact⟨av,u,h3,fun w' =>by simp[execOp,ho,ek,h1],h2⟩
  ·cases hn
 ·cases hn
theorem Nz {listed:Array Bool}{k:Nat}{o:Oper}:∀ {l:List Nat},RH ops listed l=some (k,o)->k∈l/\ops[k]? =some o/\lightB o=true/\Region.free .any ops listed k=true
 | [],h=>by cases h
 |i::r,h=>by
  unfold RH at h
  split at h
  ·rename_i o' ho
   cases hb:(lightB o' &&Region.free .any ops listed i)with
   |true=>
    rw[hb,zgJ]at h
    cases h
    rw[zgx]at hb
    exact⟨by simp,ho,hb.1,hb.2⟩
   |false=>
    rw[hb,zgK]at h
    obtain⟨h1,h2⟩:=Nz h
    exact⟨zg3 _ h1,h2⟩
  ·cases h
theorem EV {bo:Option ρ->Option ρ->Option ρ}(hbo:∀x y r,bo x y=some r->x=some r/\y=some r){run:Nat->Option ρ}{r:ρ}:∀ {l:List Nat},tryAll bo run l=some r->∀i∈l,run i=some r
 | [],h,i,hi=>by cases hi
 | [j],h,i,hi=>by
   have:i=j:=by simpa using hi
   rw[this];exact h
 |j::k::l,h,i,hi=>by
  obtain⟨h1,h2⟩:=hbo _ _ _ (show bo (run j) (tryAll bo run (k::l))=some r from h)
  rcases zgO.1 hi with rfl|hi
  ·exact h1
  ·exact EV hbo h2 i hi
theorem Yf {bo:Option ρ->Option ρ->Option ρ}(hbo:∀x y r,bo x y=some r->x=some r/\y=some r)(hE:∀T ti,E.ty T=some ti->TyOk P T ti){ck:(fi:Fi)->Aden fi.ps->Option (Oden (zm fi.rs) (ioOf fi.ps))}(hG:∀f ids fi,E.fn f ids=some fi->∀x y,ck fi x=some y->Gives P gw f fi x y)
 {next:St->Option ρ} {r:ρ} (hns:Region.noSelect ops=true):∀(f:Nat) (listed:Array Bool) (σ:St) (a:Act) (w:World),SR w0 S0 σ a w->J2 bo E ck ops f listed σ next=some r->wpAny P .any ops (fun e a w=>e= .normal/\Goes w0 S0 next r a w) f listed a w
 |0,listed,σ,a,w,hS,hn=>by
  unfold J2 at hn
  cases he:(Region.ready .any ops listed).isEmpty with
  |false=>rw[he]at hn;cases hn
  |true=>rw[he]at hn;exact⟨by simpa using he,rfl,σ,hn,hS⟩
 |f+1,listed,σ,a,w,hS,hn=>by
  unfold J2 at hn
  split at hn
  ·rename_i h0
   exact⟨fun _=>⟨rfl,σ,hn,hS⟩,fun i hi=>by rw[h0]at hi;cases hi⟩
  ·rename_i i h0
   split at hn
   ·rename_i o ho
    refine⟨fun h=>(by rw[h0]at h;cases h),fun j hj=> ?_⟩
    rw[h0]at hj
    have:j=i:=by simpa using hj
    subst this
    obtain⟨Im,hd,bl,hS⟩:=hS
    refine Wd ho ?_
    have hg:=M5 (Q:=fun e a w=>e= .normal/\Goes w0 S0 next r a w) hE hG hS hn
    split at hg
    ·rename_i hw
     rw[zgG hw]
     exact Oper.wp_mono (fun a' w' ⟨τ,ht,hs⟩=>Yf hbo hE hG hns f _ τ a' w' hs ht) hg
    ·rename_i hw
     rw[zgH hw]
     obtain⟨τ,ht,hs⟩:=hg
     exact Yf hbo hE hG hns f _ τ _ w hs ht
   ·cases hn
  ·rename_i i j rs h0
   split at hn
   ·rename_i k o hp
    obtain⟨p1,p2,p3,p4⟩:=Nz hp
    obtain⟨Im,hd,bl,hS⟩:=hS
    obtain⟨av,v,h1,h2,h3⟩:=zgd hE hS hn
    have hg:o.guard=none:=by
     unfold lightB at p3
     rw[zgx]at p3
     simpa using p3.1
    exact wpAny_take p2 hns p4 (by rw[h0];simpa using p1) (fun c a w h=>by cases h.1) (.inl ⟨by simp[Region.wanted,hg],h2⟩) (Yf hbo hE hG hns f _ _ _ w ⟨Im,hd,bl,hS.put o.dst h3⟩ h1)
   ·refine⟨fun h=>(by rw[h0]at h;cases h),fun k hk=> ?_⟩
    rw[h0]at hk
    have hn:=EV hbo hn k hk
    split at hn
    ·rename_i o ho
     obtain⟨Im,hd,bl,hS⟩:=hS
     refine Wd ho ?_
     have hg:=M5 (Q:=fun e a w=>e= .normal/\Goes w0 S0 next r a w) hE hG hS hn
     split at hg
     ·rename_i hw
      rw[zgG hw]
      exact Oper.wp_mono (fun a' w' ⟨τ,ht,hs⟩=>Yf hbo hE hG hns f _ τ a' w' hs ht) hg
     ·rename_i hw
      rw[zgH hw]
      obtain⟨τ,ht,hs⟩:=hg
      exact Yf hbo hE hG hns f _ τ _ w hs ht
    ·cases hn
theorem Ba {bo:Option ρ->Option ρ->Option ρ}(hbo:∀x y r,bo x y=some r->x=some r/\y=some r)(hE:∀T ti,E.ty T=some ti->TyOk P T ti){ck:(fi:Fi)->Aden fi.ps->Option (Oden (zm fi.rs) (ioOf fi.ps))}(hG:∀f ids fi,E.fn f ids=some fi->∀x y,ck fi x=some y->Gives P gw f fi x y)
 (h:SR w0 S0 σ a w) {next:St->Option ρ} {r:ρ} (hn:aDrawA bo E ck ops σ next=some r):wpAny P .any ops (fun e a w=>e= .normal/\Goes w0 S0 next r a w) ops.size (Array.replicate ops.size false) a { w with drawn:=w.drawn+1}:=by
 unfold aDrawA at hn
 dsimp only at hn
 cases hst:(ops.toList.take (xZ 0 (wY ops.toList []))).any (strangeB E σ ops.toList)with
 |true=>
  rw[hst,zgJ]at hn
  obtain⟨hns,hn⟩:=zb hn
  exact Yf hbo hE hG hns ops.size _ σ a _ h.drawn hn
 |false=>
 rw[hst,zgK]at hn
 obtain⟨h1,hn⟩:=zb hn
 simp only[zgx]at h1
 obtain⟨⟨⟨hlex,hnd⟩,hfree⟩,heat⟩:=h1
 unfold Region.lexB at hlex
 rw[zgx]at hlex
 have hfree' :=zgS.1 hfree
 have hkeys:∀j oj,ops[j]? =some oj->(ops.toList.map (zI E))[j]? =some (zI E oj):=fun j oj hj=>by rw[List.getElem?_map,zgX,hj];rfl
 have hlx:=ze5 (ops:=ops) ops.size 0 (by omega) hlex.2
 have hend:=zcB (ops:=ops) ops.size 0 (by omega) hlex.2
 have heats:Eats E ops:=fun i oi t ip p hi ht hf c hc=>by
  have:=CF (E:=E) (ops:=ops) heat i oi t ip p (by rw[zgX];exact hi) ht hf c hc
  rw[Nat.zero_add]at this
  exact this
 have hdis:∀(i j:Nat) (oi oj:Oper),ops[i]? =some oi->ops[j]? =some oj->i≠j->∀c∈zI E oi,c∉zI E oj:=fun i j oi oj hi hj hne=>zev (cC.1 hnd) i j _ _ (hkeys i oi hi) (hkeys j oj hj) hne
 have hfr:∀j oj,ops[j]? =some oj->∀c∈zI E oj,Free σ c:=fun j oj hj c hc=>zeu (hfree' c (zgP.2 ⟨_,List.mem_of_getElem? (hkeys j oj hj),hc⟩))
 have inv0:Inv E ops (lstd ops.size 0) σ:=by
  refine⟨fun j oj hj hl=> ?_,fun j oj hj _ c hc=>hfr j oj hj c hc,fun i oi t ip p hi ht hf c hc t' _=> ?_⟩
  ·rcases Nat.lt_or_ge j ops.size with h|h
   ·rw[RN h]at hl;simp at hl
   ·rw[Array.getElem?_eq_none h]at hj;cases hj
  ·obtain⟨_,hp,_⟩:=gp hf
   rw[Nat.sub_zero,zgX]at hp
   exact(hfr ip p hp c hc).slot t'
 obtain⟨hc1,hc2,hc3⟩:=GV (l:=wY ops.toList []) (j:=0)
 rw[RM,List.length_nil,Nat.zero_add,Nat.zero_add,zgW]at hc2
 have hfull:∀j oj,ops[j]? =some oj->xZ 0 (wY ops.toList [])<=j->∀i,i<j->Nat.testBit ((wY ops.toList []).getD j 0) i=true:=fun j oj hj hle i hi=>by
  have hjn:j<ops.size:=by
   rcases Nat.lt_or_ge j ops.size with h|h
   ·exact h
   ·rw[Array.getElem?_eq_none h]at hj;cases hj
  have:=hc3 j hle (by rw[RM,List.length_nil,Nat.zero_add,Nat.zero_add,zgW];exact hjn)
  rw[Nat.sub_zero]at this
  rw[List.getD,this]
  simp[Nat.testBit_two_pow_sub_one,hi]
 generalize hmm:xZ 0 (wY ops.toList [])=m at hn hc2 hfull
 have H:=zar (Q:=fun e a w=>e= .normal/\Goes w0 S0 next r a w) (w0:=w0) (S0:=S0) hE hG (m:=m) hc2 (fin:=fun L σ=>L=lstd ops.size m/\∃υ,Alike υ σ/\aOps E ck ops.toList (ops.toList.drop m) υ next=some r)
  (fun L σ τ hA ⟨h0,υ,h1,h2⟩=>⟨h0,υ,⟨hA.sl.trans h1.sl,fun c=>(hA.ob c).trans (h1.ob c)⟩,h2⟩) (fun L σ ⟨h0,_⟩ j hj=>by rw[h0,RN (by omega)];simpa using hj)
  (fun j oj hj hle i hi=>hfull j oj hj hle i (by omega)) heats hdis (fun σ hs=>⟨rfl,σ,Alike.refl σ,hs⟩) (fun j hj=>hlx j (Nat.zero_le _) hj) (ops.toList.take m) 0 σ
  (by rw[Nat.zero_add,zgL,zgW];omega) (fun j hj=>by
    rw[zgL]at hj
    rw[Nat.zero_add,List.getElem?_take_of_lt (by omega),zgX]) inv0 hn
 have:=Al (s:=ops.size-m) (Q:=fun e a w=>e= .normal/\Goes w0 S0 next r a w) hdis (fun L σ' a w hf inv hS=>by
  obtain⟨rfl,υ,hA,hs⟩:=hf
  have hlen:(ops.toList.drop m).length=ops.size-m:=by rw[zgR,zgW]
  have:=seqAny (Q:=fun e a w=>e= .normal/\Goes w0 S0 next r a w) (w0:=w0) (S0:=S0) hE hG (fun a w hg=>⟨rfl,hg⟩) (fun j hj=>(hlx j (Nat.zero_le _) hj).1) hend (ops.toList.drop m) m υ a w (by rw[hlen];omega) (fun j hj=>by
   rw[List.getElem?_drop,zgX]) (fun j oj hj hle=>hfull j oj hj hle) inv.closed (Alike.SR (σ:=σ') ⟨hA.sl.symm,fun c=>(hA.ob c).symm⟩ hS) hs
  rw[hlen]at this
  exact this) _ _ σ a _ inv0 h.drawn H
 have hlen:(ops.toList.take m).length+(ops.size-m)=ops.size:=by rw[zgL,zgW];omega
 rw[hlen]at this
 exact this
theorem Qs {j:Nat}{o:Oper}(h:ops[j]? =some o):(Zu ops)[j]? =some (bif Nat.beq j 0 then o else { o with after:=o.after.push ⟨0, .data⟩}):=by
 unfold Zu
 rw[Array.getElem?_mapIdx,h];rfl
theorem zbt {j:Nat}{o:Oper}(h:(Zu ops)[j]? =some o):∃o',ops[j]? =some o' /\o=(bif Nat.beq j 0 then o' else { o' with after:=o'.after.push ⟨0, .data⟩}):=by
 unfold Zu at h
 rw[Array.getElem?_mapIdx]at h
 obtain⟨o',h1,h2⟩:=zgQ.1 h
 exact⟨o',h1,h2.symm⟩
theorem Sz {L:Array Bool}(h0:L.getD 0 false=true)(i:Nat):i∈Region.ready .any (Zu ops) L↔i∈Region.ready .any ops L:=by
 rw[mem_ready,mem_ready]
 constructor
 ·rintro⟨h1,o,ho,h2⟩
  obtain⟨o',ho',rfl⟩:=zbt ho
  refine⟨h1,o',ho',fun e he hb=>h2 e ?_ hb⟩
  cases hb0:Nat.beq i 0 with
  |true=>rw[zgJ];exact he
  |false=>rw[zgK];exact Array.mem_push.2 (.inl he)
 ·rintro⟨h1,o,ho,h2⟩
  refine⟨h1,_,Qs ho,fun e he hb=> ?_⟩
  cases hb0:Nat.beq i 0 with
  |true=>rw[hb0,zgJ]at he;exact h2 e he hb
  |false=>
   rw[hb0,zgK]at he
   rcases Array.mem_push.1 he with he|rfl
   ·exact h2 e he hb
   ·exact h0
theorem Em (tmps:Array Value):yielded (Zu ops) tmps=yielded ops tmps:=by
 funext j
 unfold yielded
 have:((Zu ops)[j]?).bind (·.dst)=(ops[j]?).bind (·.dst):=by
  unfold Zu
  rw[Array.getElem?_mapIdx]
  cases ops[j]? with
  |none=>rfl
  |some o=>cases hb:Nat.beq j 0<;>simp[hb]
 rw[this]
theorem zez {QQ:Exit->Act->World->Prop}{i:Nat}{K K' :Act->World->Prop}{a:Act}{w:World}(hK:∀a w,K a w->K' a w)(h:wpOp P (Zu ops) QQ i K a w):wpOp P ops QQ i K' a w:=by
 cases ho:ops[i]? with
 |none=>
  have h1:(Zu ops)[i]? =none:=by unfold Zu;rw[Array.getElem?_mapIdx,ho];rfl
  unfold wpOp at h⊢
  simp only[ho,h1]at h⊢
  exact hK _ _ h
 |some o=>
  have h1:=Qs ho
  refine wpOp_mono hK ?_
  unfold wpOp at h⊢
  simp only[ho,h1,Em]at h⊢
  cases hb:Nat.beq i 0 with
  |true=>rw[hb]at h;exact h
  |false=>rw[hb]at h;exact h
theorem GQ {QQ:Exit->Act->World->Prop}:∀(f:Nat) (L:Array Bool) (a:Act) (w:World),L.getD 0 false=true->0<L.size->wpAny P .any (Zu ops) QQ f L a w->wpAny P .any ops QQ f L a w
 |0,L,a,w,h0,hs,h=>by
  refine⟨List.eq_nil_iff_forall_not_mem.2 fun i hi=> ?_,h.2⟩
  have:=(Sz (ops:=ops) h0 i).2 hi
  rw[h.1]at this
  cases this
 |f+1,L,a,w,h0,hs,h=>by
  refine⟨fun he=>h.1 (List.eq_nil_iff_forall_not_mem.2 fun i hi=> ?_),fun i hi=> ?_⟩
  ·have:=(Sz (ops:=ops) h0 i).1 hi
   rw[he]at this
   cases this
  ·refine zez (fun a w hw=>GQ f _ a w ?_ (by simpa using hs) hw) (h.2 i ((Sz (ops:=ops) h0 i).2 hi))
   by_cases e:i=0
   ·subst e;simp[hs]
   ·rw[getD_set_ne false e];exact h0
theorem zeA {QQ:Exit->Act->World->Prop}{a:Act}{w:World}(hl:light0 ops=true)(hQ:∀c a w,¬QQ (.panic c) a w)(h:wpAny P .any (Zu ops) QQ ops.size (Array.replicate ops.size false) a w):wpAny P .any ops QQ ops.size (Array.replicate ops.size false) a w:=by
 unfold light0 at hl
 split at hl
 ·rename_i o ho
  simp only[zgx]at hl
  obtain⟨⟨⟨⟨hg,hmv⟩,hns⟩,hr⟩,hf⟩:=hl
  split at hmv
  ·rename_i x hop
   have hg' :o.guard=none:=by simpa using hg
   have hrun:∀w',(execOp a.eval o).run P w' = .ok (.value (a.eval x)) w' :=fun w' =>by simp[execOp,hop]
   have hsz:0<ops.size:=(Array.getElem?_eq_some_iff.1 ho).1
   generalize hn:ops.size=n at*
   match n,hsz with
   |n+1,hsz=>
   have hr' :0∈Region.ready .any ops (Array.replicate (n+1) false):=by simpa using hr
   have hr2:0∈Region.ready .any (Zu ops) (Array.replicate (n+1) false):=by
    obtain⟨h1,o',ho',h2⟩:=mem_ready.1 hr'
    exact mem_ready.2 ⟨h1,_,Qs ho',fun e he hb=>h2 e (by simpa using he) hb⟩
   have h0:=h.2 0 hr2
   have hK:wpAny P .any (Zu ops) QQ n ((Array.replicate (n+1) false).setIfInBounds 0 true) (a.put o.dst (a.eval x)) w:=by
    unfold wpOp at h0
    have e0:(Zu ops)[0]? =some o:=Qs ho
    simp only[e0]at h0
    have hw:Region.wanted o (yielded (Zu ops) a.tmps)=true:=by simp[Region.wanted,hg']
    rw[zgG hw]at h0
    have h0' :o.wp P a w (wpAny P .any (Zu ops) QQ n ((Array.replicate (n+1) false).setIfInBounds 0 true)) QQ\/(o.asks P a w/\LetsOut QQ):=h0
    rcases h0' with h1|⟨h1,_⟩
    ·unfold Oper.wp at h1
     rw[hrun]at h1
     exact h1
    ·exfalso
     have:=h1.1
     simp[execOp,hop,Sem.runT]at this
     exact absurd (show noRoomEvent∈(#[]:Array Event)from this) (by simp)
   exact wpAny_take ho hns hf (by simpa using hr') (fun c a w h=>(hQ c _ _ h).elim) (.inl ⟨by simp[Region.wanted,hg'],hrun⟩) (GQ n _ _ w (by simp) (by simp) hK)
  ·cases hmv
 ·cases hl
theorem zeV {bo:Option ρ->Option ρ->Option ρ}(hbo:∀x y r,bo x y=some r->x=some r/\y=some r)(hm:P.follows .mixedOrders=true)(hE:∀T ti,E.ty T=some ti->TyOk P T ti){ck:(fi:Fi)->Aden fi.ps->Option (Oden (zm fi.rs) (ioOf fi.ps))}(hG:∀f ids fi,E.fn f ids=some fi->∀x y,ck fi x=some y->Gives P gw f fi x y)
 (h:SR w0 S0 σ a w) {id:Nat} {next:St->Option ρ} {r:ρ} (hn:aDraw bo E ck ops σ next=some r):(Code.region id ops true).wp P (fun e a w=>e= .normal/\Goes w0 S0 next r a w) a w:=by
 unfold aDraw at hn
 refine wp_region_any hm ?_
 cases hl:light0 ops with
 |true=>
  rw[hl,zgJ]at hn
  have hsz:(Zu ops).size=ops.size:=by simp[Zu]
  have:=Ba hbo hE hG h hn
  rw[hsz]at this
  exact zeA hl (fun c a w h=>by cases h.1) this
 |false=>
  rw[hl,zgK]at hn
  exact Ba hbo hE hG h hn
end
section
variable {P:Program} {ρ:Type} {gw:Gw} {w0:Base gw} {w:World} {S0:Nat->Prop} {σ:St} {a:Act} {Im:Nat->Prop} {hd:Nat->Value} {bl:Nat->List Nat} {Q:Exit->Act->World->Prop}
def Ends (P:Program)(fn:Func)(R:Value->World->Prop)(its:List Item)(a:Act)(w:World):Prop:=
 ∀(b:Frame) (cs:List Frame),∃a' w' todo v,Steps P (lone (b.at a its) cs w) (lone { b.at a' todo with mode:= .returning} cs w')/\a'.defers=[]/\(results fn a'.tmps).run P w' = .ok v w' /\R v w'
theorem Ends.step {fn:Func}{R:Value->World->Prop}{its its' :List Item}{a a' :Act}{w w' :World}(h:Ends P fn R its' a' w')(hs:∀(b:Frame) (cs:List Frame),Steps P (lone (b.at a its) cs w) (lone (b.at a' its') cs w')):Ends P fn R its a w:=by
 intro b cs
 obtain⟨a2,w2,todo,v,h1,h2⟩:=h b cs
 exact⟨a2,w2,todo,v,(hs b cs).trans h1,h2⟩
theorem zcp {E:Env}(hE:∀T ti,E.ty T=some ti->TyOk P T ti){ck:(fi:Fi)->Aden fi.ps->Option (Oden (zm fi.rs) (ioOf fi.ps))}(hG:∀f ids fi,E.fn f ids=some fi->∀x y,ck fi x=some y->Gives P gw f fi x y)
 (h:SR w0 S0 σ a w) {id:Nat} {ops:Array Oper} {its:List Item} {next:St->Option ρ} {r:ρ} (hn:aOps E ck ops.toList ops.toList σ next=some r) {fn:Func} {R:Value->World->Prop}
 (hk:∀a w,Goes w0 S0 next r a w->Ends P fn R its a w):Ends P fn R (.code (.region id ops false)::its) a w:=by
 intro b cs
 have hl:=Ai (Q:=fun e a w=>e= .normal/\Goes w0 S0 next r a w) hE hG (fun a w h=>⟨rfl,h⟩) h hn
 have hw:wpOps P ops (fun e a w=>e= .normal/\Goes w0 S0 next r a w) (List.range ops.size) a w:=by
  rw[List.range_eq_range',<-zgW,wpOps_eq_wpList ops.toList 0 (by simp)];exact hl
 obtain⟨e,a',w',⟨rfl,hg⟩,harr⟩:=wp_ops _ a w hw b its cs
 obtain⟨a2,w2,todo,v,h1,h2⟩:=hk a' w' hg b cs
 exact⟨a2,w2,todo,v,(Steps.one step_region).trans (Steps.trans harr h1),h2⟩
theorem zfG {bo:Option ρ->Option ρ->Option ρ}(hbo:∀x y r,bo x y=some r->x=some r/\y=some r)(hm:P.follows .mixedOrders=true){E:Env}(hE:∀T ti,E.ty T=some ti->TyOk P T ti){ck:(fi:Fi)->Aden fi.ps->Option (Oden (zm fi.rs) (ioOf fi.ps))}(hG:∀f ids fi,E.fn f ids=some fi->∀x y,ck fi x=some y->Gives P gw f fi x y)
 (h:SR w0 S0 σ a w) {id:Nat} {ops:Array Oper} {its:List Item} {next:St->Option ρ} {r:ρ} (hn:aDraw bo E ck ops σ next=some r) {fn:Func} {R:Value->World->Prop}
 (hk:∀a w,Goes w0 S0 next r a w->Ends P fn R its a w):Ends P fn R (.code (.region id ops true)::its) a w:=by
 intro b cs
 obtain⟨e,a',w',⟨rfl,hg⟩,harr⟩:=zeV hbo hm hE hG h (id:=id) hn b its cs
 obtain⟨a2,w2,todo,v,h1,h2⟩:=hk a' w' hg b cs
 exact⟨a2,w2,todo,v,Steps.trans harr h1,h2⟩
theorem zdm (h:SRi w0 S0 σ a w Im hd bl){t:Nat}{b:Bool}(he:σ.ev (.tmp t)= .cv (.val .bool b)):SRi w0 S0 (σ.put (some t) (.cv (.val .bool b))) a w Im hd bl:=by
 have hx:=h.ev (.tmp t)
 rw[he]at hx
 exact h.retell hx
theorem MW:∀ {rs:List RC} {x y:Rden rs},Mp rs x y=true->x=y
 | [],_,_,_=>rfl
 | [c],x,y,h=>JL c.t x y h
 |c::d::r,x,y,h=>by
  have h' :(denB c.t x.1 y.1&&Mp (d::r) x.2 y.2)=true:=h
  rw[zgx]at h'
  exact Prod.ext (JL c.t _ _ h'.1) (MW h'.2)
theorem AP:∀ {rs ios:List RC} {x y:Oden rs ios},odenB rs ios x y=true->x=y
 |rs,[],x,y,h=>MW (rs:=rs) h
 |rs,i::r,x,y,h=>by
  have h' :(Mp rs x.1 y.1&&Mp (i::r) x.2 y.2)=true:=h
  rw[zgx]at h'
  exact Prod.ext (MW h'.1) (MW h'.2)
theorem zdu {rs ios:List RC}(x y:Option (Oden rs ios))(r:Oden rs ios)(h:both x y=some r):x=some r/\y=some r:=by
 unfold both at h
 split at h
 ·rename_i a b
  cases hq:odenB rs ios a b with
  |false=>rw[hq]at h;cases h
  |true=>
   rw[hq,zgJ]at h
   cases h
   exact⟨rfl,congrArg some (AP hq).symm⟩
 ·cases h
theorem zbw {ρ:Type}{E:Env}{σ:St}{T:Nat}{x:AV}{next:AV->Option ρ}{r:ρ}(hn:UN E σ T x next=some r):∃v,next v=some r:=by
 unfold UN at hn
 split at hn
 ·cases hn
 ·split at hn
  ·split at hn
   ·exact⟨_,(zb hn).2⟩
   ·cases hn
  ·exact⟨_,(zb hn).2⟩
  ·split at hn
   ·exact⟨_,(zb (zb hn).2).2⟩
   ·exact⟨_,(zb (zb hn).2).2⟩
   ·exact⟨_,(zb (zb hn).2).2⟩
   ·cases hn
  ·cases hn
theorem J3 {ρ:Type}{E:Env}{σ:St}{T:Nat}{x:AV}{i:Int}{next:AV->Option ρ}{r:ρ}(hn:yN E σ T x i next=some r):∃v,next v=some r:=by
 unfold yN at hn
 split at hn
 ·exact⟨_,(zb (zb (zb hn).2).2).2⟩
 ·split at hn
  ·exact⟨_,(zb (zb (zb hn).2).2).2⟩
  ·exact⟨_,(zb (zb (zb hn).2).2).2⟩
  ·exact⟨_,(zb (zb (zb hn).2).2).2⟩
  ·exact⟨_,(zb (zb (zb hn).2).2).2⟩
  ·cases hn
 ·split at hn
  ·exact⟨_,(zb (zb (zb hn).2).2).2⟩
  ·cases hn
 ·cases hn
theorem Ux {ρ:Type}{E:Env}{σ:St}{ops:List Oper}:∀(f:Nat) {x:Operand} {next:AV->Option ρ} {r:ρ},gEv E σ ops f x next=some r->∃v,next v=some r
 |0,x,next,r,h=>⟨_,h⟩
 |f+1,x,next,r,h=>by
  unfold gEv at h
  split at h
  ·split at h
   ·split at h
    ·exact Ux f h
    ·exact Ux f h
    ·obtain⟨v,hv⟩:=Ux f h
     exact zbw hv
    ·obtain⟨v,hv⟩:=Ux f h
     obtain⟨u,hu⟩:=Ux f hv
     split at hu
     ·exact J3 hu
     ·cases hu
    ·exact⟨_,h⟩
   ·exact⟨_,h⟩
  ·exact⟨_,h⟩
theorem EM {ρ:Type}{E:Env}{S0:Nat->Prop}{σ:St}{a:Act}{w:World}{Im:Nat->Prop}{hd:Nat->Value}{bl:Nat->List Nat}(h:SRi w0 S0 σ a w Im hd bl){ops:List Oper}{next:St->Option ρ}{r:ρ}:∀(l:List Oper),aDigs E σ ops l next=some r->
 ∃σ' hd' bl',SRi w0 S0 σ' a w Im hd' bl' /\next σ' =some r
 | [],hn=>⟨σ,hd,bl,h,hn⟩
 |o::l,hn=>by
  unfold aDigs at hn
  split at hn
  ·rename_i T x d ho hdst
   cases hf:Env.flag E (X0 (T+3000) d)with
   |false=>rw[hf,zgK]at hn;exact EM h l hn
   |true=>
    rw[hf,zgJ]at hn
    obtain⟨v,hv⟩:=Ux 8 hn
    split at hv
    ·split at hv
     ·rename_i c m i o2 _ xs cn hc
      obtain⟨h1,hv⟩:=zb hv
      obtain⟨h2,hv⟩:=zb hv
      obtain⟨h3,hv⟩:=zb hv
      simp only[zgx,Bool.not_eq_true']at h1
      have hcd:c≠d:=fun e=>by subst e;have:=h1.1;simp at this
      obtain⟨hd',bl',g⟩:=h.digM_ hc hcd (TJ h1.2) (zgw h2) h3
      exact⟨_,hd',bl',g,hv⟩
     ·cases hv
    ·cases hv
  ·exact EM h l hn
theorem zf6 (hm:P.follows .mixedOrders=true){E:Env}(hE:∀T ti,E.ty T=some ti->TyOk P T ti){k:Nat}{rec_:Rec E}(hG:∀f ids fi,E.fn f ids=some fi->∀x y,QF E k rec_ fi x=some y->Gives P gw f fi x y)
 {rs:List (Bool×List RC)} {ios:List RC} (hio:∀c∈ios,IoRC c) (hl:w0.hs.length=ios.length) {res:List ResultVar} {hints:Nat->Option (List Hint)} {fn:Func} (hres:fn.results.toList=res) {y:Oden (zm rs) ios}
 (hrec:∀its σ,rec_ rs ios res hints its σ=some y->∀a w,SR w0 S0 σ a w->Ends P fn (fun v w' =>Kept w0 w' /\ResR w0 w' S0 rs ios w0.hs y v) its a w):
 ∀(n:Nat) (its:List Item) (σ:St) (a:Act) (w:World),SR w0 S0 σ a w->seg E k rec_ rs ios res hints n its σ=some y->Ends P fn (fun v w' =>Kept w0 w' /\ResR w0 w' S0 rs ios w0.hs y v) its a w:=by
 have done:∀(σ:St) (a:Act) (w:World),SR w0 S0 σ a w->aRetC E res rs σ ios=some y->a.defers=[]/\∃v,(results fn a.tmps).run P w= .ok v w/\(Kept w0 w/\ResR w0 w S0 rs ios w0.hs y v):=by
  intro σ a w ⟨Im,hd,bl,h⟩ hr
  obtain⟨Im',h',_,_⟩:=wH h (σ.ioBoxes 0 ios)
  obtain⟨v,h1,h2⟩:=zeS hE h' hres hio hl hr
  exact⟨h.nodef,v,h1,h.below,h2⟩
 intro n
 induction n with
 |zero=>intro its σ a w h hs;cases hs
 |succ n ih=>
  intro its σ a w h hs
  cases its with
  |nil=>
   have hs' :aRetC E res rs σ ios=some y:=hs
   obtain⟨h1,v,h2,h3⟩:=done σ a w h hs'
   intro b cs
   exact⟨a,w,[],v,Steps.one step_end,h1,h2,h3⟩
  |cons it its=>
   cases it with
   |code c=>
    cases c with
    |skip=>exact(ih its σ a w h hs).step fun b cs=>Steps.one step_skip
    |seq x z=>exact(ih _ σ a w h hs).step fun b cs=>Steps.one step_seq
    |block id x=>exact(ih _ σ a w h hs).step fun b cs=>Steps.one step_block
    |loop x=>exact(ih _ σ a w h hs).step fun b cs=>Steps.one step_loop
    |ret=>
     have hs' :aRetC E res rs σ ios=some y:=hs
     obtain⟨h1,v,h2,h3⟩:=done σ a w h hs'
     intro b cs
     exact⟨a,w,_,v,Steps.one step_ret,h1,h2,h3⟩
    |exit id=>
     unfold seg at hs
     dsimp only at hs
     cases he:exitTo id its with
     |none=>rw[he]at hs;cases hs
     |some r' =>
      rw[he]at hs
      exact(ih _ σ a w h hs).step fun b cs=>Steps.one (step_exit he)
    |cond c x z=>
     unfold seg at hs
     dsimp only at hs
     split at hs
     ·rename_i t b he
      obtain⟨Im,hd,bl,h⟩:=h
      have hx:=h.ev (.tmp t)
      rw[he]at hx
      have hb:=gu hx
      have h2:=zdm h he
      cases b with
      |true=>rw[zgJ]at hs;exact(ih _ _ a w ⟨Im,hd,bl,h2⟩ hs).step fun b cs=>Steps.one (step_cond (t:=true) hb)
      |false=>rw[zgK]at hs;exact(ih _ _ a w ⟨Im,hd,bl,h2⟩ hs).step fun b cs=>Steps.one (step_cond (t:=false) hb)
     ·rename_i t he
      obtain⟨Im,hd,bl,h⟩:=h
      have hx:=h.ev (.tmp t)
      rw[he]at hx
      obtain⟨b,hb⟩:=hx
      unfold both at hs
      split at hs
      ·rename_i x1 x2 e1 e2
       cases hq:odenB (zm rs) ios x1 x2 with
       |false=>rw[hq]at hs;cases hs
       |true=>
        rw[hq,zgJ]at hs
        cases hs
        have hxy:=AP hq
        have h2:∀b',SRi w0 S0 (σ.put (some t) (.cv (.val .bool b'))) a w Im hd bl\/b' ≠b:=fun b' =>by
         by_cases q:b' =b
         ·subst q
          exact .inl (h.retell (g:=t) (av:= .cv (.val .bool b')) (by
           have:a.tmps.getD t undef= .bool b' :=hb
           rw[this];exact bvr))
         ·exact .inr q
        cases b with
        |true=>exact(ih _ _ a w ⟨Im,hd,bl,(h2 true).resolve_right (fun q=>q rfl)⟩ e1).step fun b cs=>Steps.one (step_cond (t:=true) hb)
        |false=>
         exact(ih _ _ a w ⟨Im,hd,bl,(h2 false).resolve_right (fun q=>q rfl)⟩ (e2.trans (congrArg some hxy.symm))).step fun b cs=>Steps.one (step_cond (t:=false) hb)
      ·cases hs
     ·rename_i v b he
      obtain⟨Im,hd,bl,h⟩:=h
      have hx:=h.ev (.const v)
      rw[he]at hx
      have hb:=gu hx
      cases b with
      |true=>rw[zgJ]at hs;exact(ih _ _ a w ⟨Im,hd,bl,h⟩ hs).step fun b cs=>Steps.one (step_cond (t:=true) hb)
      |false=>rw[zgK]at hs;exact(ih _ _ a w ⟨Im,hd,bl,h⟩ hs).step fun b cs=>Steps.one (step_cond (t:=false) hb)
     ·cases hs
    |region id ops draw=>
     unfold seg at hs
     dsimp only at hs
     have run:(aDigs E { σ.home ops with cut:=false} ops.toList ops.toList fun σ=>bif draw then aDraw both E (QF E k rec_) ops σ fun τ=>seg E k rec_ rs ios res hints n its τ
      else aOps E (QF E k rec_) ops.toList ops.toList σ fun τ=>seg E k rec_ rs ios res hints n its τ)=some y->
      Ends P fn (fun v w' =>Kept w0 w' /\ResR w0 w' S0 rs ios w0.hs y v) (.code (.region id ops draw)::its) a w:=by
      intro hr
      obtain⟨Im,hd,bl,h⟩:=zfA h ops
      obtain⟨σ',hd',bl',h',hr⟩:=EM (h.cut false) _ hr
      cases draw with
      |false=>exact zcp hE hG ⟨Im,hd',bl',h'⟩ hr fun a w ⟨τ,ht,hs⟩=>ih its τ a w hs ht
      |true=>exact zfG zdu hm hE hG ⟨Im,hd',bl',h'⟩ hr fun a w ⟨τ,ht,hs⟩=>ih its τ a w hs ht
     split at hs
     ·rename_i hs' hh
      cases hc:σ.cut with
      |true=>rw[hc]at hs;exact run hs
      |false=>
       rw[hc,zgK]at hs
       split at hs
       ·rename_i τ hm
        exact hrec _ τ hs a w (zfu h hm)
       ·cases hs
     ·exact run hs
    |_=>cases hs
   |inBlock id=>exact(ih its σ a w h hs).step fun b cs=>Steps.one step_inBlock
   |inLoop x=>exact(ih _ σ a w h hs).step fun b cs=>Steps.one step_inLoop
   |_=>cases hs
def FnOk (P:Program)(gw:Gw)(E:Env):Prop:=∀f ids fi,E.fn f ids=some fi->
 (∀g,fi.ext=some g->∀k x y,g k x=some y->Gives P gw f fi x y)/\
 (fi.ext=none->∃fn,P.funcs[f]? =some fn/\(fn.name== "runtime.NumGoroutine")=false/\fn.body=some fi.code/\fn.results.toList=fi.res/\fn.ntmps=fi.nt/\fi.ps.length<=fi.nt)
theorem C1 {S:Nat->Prop}:∀ {ts:List Ty} {ps:List Value} {x:(We ts).den},CapsR w S ps ts x->RefRs w S (fun _=>undef) ps (capsOf ts x)
 | [],[],_,_=>trivial
 | [t],[v],x,h=>by
   obtain⟨b,o,cs,hb,rfl,hat,hv⟩:=h
   exact⟨⟨jv t x,b,o,cs,hb,rfl,hat,xH hv⟩,trivial⟩
 |t::q::r,v::u::vs,x,h=>by
  obtain⟨b,o,cs,hb,rfl,hat,hv⟩:=h.1
  exact⟨⟨jv t x.1,b,o,cs,hb,rfl,hat,xH hv⟩,C1 (ts:=q::r) h.2⟩
 | [],[_],_,h=>by cases h
 | [],_::_::_,_,h=>by cases h
 | [_],[],_,h=>by cases h
 | [_],_::_::_,_,h=>by cases h
 |_::_::_,[],_,h=>by cases h
 |_::_::_,[_],_,h=>by cases h
def IoObs (w:World)(S:Nat->Prop):Nat->List (Nat×Ob)->List Value->List (List Nat)->Prop
 |_,[],[],[]=>True
 |n,(k,o)::obs,v::H,l::bls=>k=500000+n/\(∀hd,ObR w S hd v l o)/\IoObs w S (n+1) obs H bls
 |_,_,_,_=>False
theorem IoObs.app {S:Nat->Prop}:∀ {A:List (Nat×Ob)} {n:Nat} {H1:List Value} {b1:List (List Nat)} {B:List (Nat×Ob)} {H2:List Value} {b2:List (List Nat)},IoObs w S n A H1 b1->IoObs w S (n+H1.length) B H2 b2->IoObs w S n (A++B) (H1++H2) (b1++b2)
 | [],n,[],[],_,_,_,_,h=>h
 |(k,o)::A,n,v::H1,l::b1,B,H2,b2,h,g=>by
  refine⟨h.1,h.2.1,IoObs.app h.2.2 ?_⟩
  rw[zgB]at g
  rw[show n+1+H1.length=n+(H1.length+1) by omega];exact g
 | [],_,[],_::_,_,_,_,h,_=>h.elim
 | [],_,_::_,_,_,_,_,h,_=>h.elim
 |_::_,_,[],_,_,_,_,h,_=>h.elim
 |_::_,_,_::_,[],_,_,_,h,_=>h.elim
theorem IoObs.get {S:Nat->Prop}:∀ {obs:List (Nat×Ob)} {n:Nat} {H:List Value} {bls:List (List Nat)},IoObs w S n obs H bls->∀c o,zd obs c=some o->∃j v l,c=500000+n+j/\H[j]? =some v/\bls[j]? =some l/\∀hd,ObR w S hd v l o
 | [],_,_,_,_,c,o,h=>by cases h
 |(k,p)::obs,n,v::H,l::bls,hI,c,o,h=>by
  rw[yj]at h
  by_cases e:k=c
  ·subst e
   simp at h;subst h
   exact⟨0,v,l,hI.1,rfl,rfl,hI.2.1⟩
  ·simp[e]at h
   obtain⟨j,v',l',h1,h2,h3,h4⟩:=IoObs.get hI.2.2 c o h
   exact⟨j+1,v',l',by omega,by simpa using h2,by simpa using h3,h4⟩
 |_::_,_,[],_,hI,_,_,_=>hI.elim
 |_::_,_,_::_,[],hI,_,_,_=>hI.elim
def HeadsAt (hd:Nat->Value)(n:Nat)(H:List Value):Prop:=∀j v,H[j]? =some v->hd (500000+n+j)=v
theorem HeadsAt.left {hd:Nat->Value}{n:Nat}{A B:List Value}(h:HeadsAt hd n (A++B)):HeadsAt hd n A:=fun j v hj=>h j v (by
 have hlt:j<A.length:=(List.getElem?_eq_some_iff.1 hj).1
 rw[List.getElem?_append_left hlt];exact hj)
theorem HeadsAt.right {hd:Nat->Value}{n:Nat}{A B:List Value}(h:HeadsAt hd n (A++B)):HeadsAt hd (n+A.length) B:=fun j v hj=>by
 have:=h (A.length+j) v (by rw[List.getElem?_append_right (by omega)];simpa using hj)
 rw[<-this];congr 1;omega
theorem AQ {S:Nat->Prop}(n:Nat){c:PC}{v:Value}{L:List Nat}{x:c.ty.den}(h:PCR w S v L c x):∃bls:List (List Nat),L=bls.flatten/\IoObs w S n (oObj n c x) (xI [c] [v]) bls/\(xI [c] [v]).length=c.io/\(xI [c] [v]).length=(pcRC [c]).length/\(∀hd,HeadsAt hd n (xI [c] [v])->CVR w S hd v (oCell n c x)):=by
 cases c with
 |v t=>exact⟨[],h.2,trivial,rfl,rfl,fun hd _=>h.1⟩
 |o t d=>exact⟨[L],by simp,⟨rfl,fun hd=>⟨h,fun e=>by cases e⟩,trivial⟩,rfl,rfl,fun hd hh=>by have:=hh 0 v rfl;exact this.symm⟩
theorem DR {S:Nat->Prop}:∀ {cs:List PC} (n:Nat) {vs:List Value} {L:List Nat} {x:(We (cs.map PC.ty)).den},PCs w S vs L cs x->
 ∃bls:List (List Nat),L=bls.flatten/\IoObs w S n (oObjs n cs x) (xI cs vs) bls/\(xI cs vs).length=(pcRC cs).length/\(∀hd,HeadsAt hd n (xI cs vs)->CVs w S hd vs (oCells n cs x))
 | [],n,vs,L,x,h=>by
   match vs,h with
   | [],h=>exact⟨[],h,trivial,rfl,fun _ _=>trivial⟩
   | [_],h=>exact h.elim
   |_::_::_,h=>exact h.elim
 | [c],n,vs,L,x,h=>by
   match vs,h with
   | [v],h=>
     obtain⟨bls,h1,h2,_,h3,h4⟩:=AQ n (show PCR w S v L c x from h)
     exact⟨bls,h1,h2,h3,fun hd hh=>⟨h4 hd hh,trivial⟩⟩
 |c::d::r,n,vs,L,x,h=>by
  match vs,h with
  |v::u::us,h=>
   obtain⟨L1,L2,e,h1,h2⟩:=h
   obtain⟨b1,k1,k2,k3,k4,k5⟩:=AQ n h1
   obtain⟨b2,j1,j2,j3,j4⟩:=DR (cs:=d::r) (n+c.io) h2
   rw[TG]
   refine⟨b1++b2,by rw[e,k1,j1,List.flatten_append],IoObs.app k2 (by rw[k3];exact j2), ?_,fun hd hh=>⟨k5 hd hh.left,j4 hd (by have:=hh.right;rw[k3]at this;exact this)⟩⟩
   have:(pcRC (c::d::r)).length=(pcRC [c]).length+(pcRC (d::r)).length:=by cases c<;>simp[pcRC];omega
   rw[zgA,k4,j3,this]
theorem Aw {S:Nat->Prop}(n:Nat){p:PT}{v:Value}{L:List Nat}{H:List Value}{x:p.ty.den}(h:ArgO w S v L H p x):
 ∃bls:List (List Nat),L=bls.flatten/\IoObs w S n (objs1 n p x) H bls/\H.length=p.io/\(∀hd,HeadsAt hd n H->AVR w S hd v (slot1 n p x)):=by
 cases p with
 |v t agg=>
  obtain⟨⟨cs,rfl,_,hv⟩,rfl,rfl⟩:=h
  exact⟨[],rfl,trivial,rfl,fun hd _=>xx (xH hv)⟩
 |r t=>
  obtain⟨⟨b,o,cs,hb,rfl,hat,hv⟩,rfl,rfl⟩:=h
  exact⟨[],rfl,trivial,rfl,fun hd _=>RefR.of_VR hb hat hv⟩
 |z t=>
  obtain⟨⟨rfl,rfl⟩,rfl,rfl⟩:=h
  exact⟨[],rfl,trivial,rfl,fun hd _=>rfl⟩
 |fn f ts=>
  obtain⟨⟨ps,rfl,hps⟩,rfl,rfl⟩:=h
  exact⟨[],rfl,trivial,rfl,fun hd _=>⟨ps,rfl,RefRs.capAs (C1 hps)⟩⟩
 |o cs agg=>
  obtain⟨vs,rfl,_,hp,rfl⟩:=h
  obtain⟨bls,h1,h2,h3,h4⟩:=DR n hp
  exact⟨bls,h1,h2,h3,fun hd hh=>xx (h4 hd hh)⟩
 |p s t=>
  obtain⟨hB,rfl⟩:=h
  obtain⟨b,cs,E,e1,e2,e3,e4⟩:=hB
  refine⟨[L],by simp,⟨rfl,fun hd=>BoxR.obj ⟨b,cs,E,e1,e2,e3,e4⟩,trivial⟩,rfl,fun hd hh=> ?_⟩
  have:=hh 0 v rfl
  exact⟨b,this.trans e1,e1⟩
theorem Xg {S:Nat->Prop}:∀ {ps:List PT} (n:Nat) {x:Aden ps} {vs:List Value} {L:List Nat} {H:List Value},ArgsO w S vs L H ps x->
 ∃bls:List (List Nat),L=bls.flatten/\IoObs w S n (firstObs n ps x) H bls/\H.length=(ioOf ps).length/\vs.length=ps.length/\(vY n ps x).length=ps.length/\
  ∀hd,HeadsAt hd n H->∀(i:Nat) (av:AV),(vY n ps x)[i]? =some av->∃v,vs[i]? =some v/\AVR w S hd v av:=by
 have pio:∀(p:PT) (r:List PT),(ioOf (p::r)).length=p.io+(ioOf r).length:=by intro p r;cases p<;>simp[ioOf,PT.io]<;>omega
 intro ps
 induction ps with
 |nil=>
  intro n x vs L H h
  match vs,h with
  | [],h=>obtain⟨rfl,rfl⟩:=h;exact⟨[],rfl,trivial,rfl,rfl,rfl,fun hd _ i av hi=>by simp[vY]at hi⟩
  | [_],h=>exact h.elim
  |_::_::_,h=>exact h.elim
 |cons p ps ih=>
  cases ps with
  |nil=>
   intro n x vs L H h
   match vs,h with
   | [v],h=>
     obtain⟨bls,h1,h2,h3,h4⟩:=Aw n (show ArgO w S v L H p x from h)
     refine⟨bls,h1,h2,by rw[pio,h3];rfl,rfl,rfl,fun hd hh i av hi=> ?_⟩
     cases i with
     |zero=>exact⟨v,rfl,by cases(show some (slot1 n p x)=some av from hi);exact h4 hd hh⟩
     |succ i=>simp[vY]at hi
  |cons q r=>
   intro n x vs L H h
   match vs,h with
   |v::u::us,h=>
    obtain⟨L1,L2,H1,H2,e1,e2,h1,h2⟩:=h
    obtain⟨b1,k1,k2,k3,k4⟩:=Aw n h1
    obtain⟨b2,j1,j2,j3,j4,j5,j6⟩:=ih (n+p.io) h2
    subst e2
    refine⟨b1++b2,by rw[e1,k1,j1,List.flatten_append],IoObs.app k2 (by rw[k3];exact j2),by rw[zgA,pio,k3,j3],by simp at j4⊢;exact j4,by show(slot1 n p x.1::vY (n+p.io) (q::r) x.2).length=_;simp at j5⊢;exact j5,fun hd hh i av hi=> ?_⟩
    cases i with
    |zero=>exact⟨v,rfl,by cases(show some (slot1 n p x.1)=some av from hi);exact k4 hd hh.left⟩
    |succ i=>exact j6 hd (by have:=hh.right;rw[k3]at this;exact this) i av hi
theorem BZ {bls:List (List Nat)}(hn:bls.flatten.Nodup):(∀(j:Nat) (l:List Nat),bls[j]? =some l->l.Nodup/\∀b∈l,b∈bls.flatten)/\∀(i j:Nat) (l m:List Nat),bls[i]? =some l->bls[j]? =some m->i≠j->∀b∈l,b∉m:=by
 induction bls with
 |nil=>exact⟨fun j l h=>by simp at h,fun i j l m h=>by simp at h⟩
 |cons a bls ih=>
  rw[List.flatten_cons,zgM]at hn
  obtain⟨k1,k2⟩:=ih hn.2.1
  refine⟨fun j l h=> ?_,fun i j l m hi hj hne b hb hb2=> ?_⟩
  ·cases j with
   |zero=>cases(show some a=some l from h);exact⟨hn.1,fun b hb=>by simp[hb]⟩
   |succ j=>
    obtain⟨h1,h2⟩:=k1 j l (by simpa using h)
    exact⟨h1,fun b hb=>by rw[List.flatten_cons];exact zgz.2 (.inr (h2 b hb))⟩
  ·cases i with
   |zero=>
    cases(show some a=some l from hi)
    cases j with
    |zero=>exact hne rfl
    |succ j=>
     obtain⟨_,h2⟩:=k1 j m (by simpa using hj)
     exact hn.2.2 b hb b (h2 b hb2) rfl
   |succ i=>
    cases j with
    |zero=>
     cases(show some a=some m from hj)
     obtain⟨_,h2⟩:=k1 i l (by simpa using hi)
     exact hn.2.2 b hb2 b (h2 b hb) rfl
    |succ j=>exact k2 i j l m (by simpa using hi) (by simpa using hj) (by omega) b hb hb2
theorem SL {B:Base gw}{nt:Nat}{ps:List PT}{x:Aden ps}{vs:List Value}{S:Nat->Prop}{L:List Nat}(hS:∀b,S b->b<B.w.heap.size)(hL:L.Nodup)(hLb:∀b∈L,B.mine b/\b<B.w.heap.size/\¬S b)(ha:ArgsO B.w S vs L B.hs ps x)(hn:ps.length<=nt):
 SR B S (start0 nt ps x) { tmps:=vs.toArray++Array.replicate (nt-vs.toArray.size) undef,defers:=[]} B.w:=by
 obtain⟨bls,g1,g2,g3,h1,h2,h3⟩:=Xg 0 ha
 subst g1
 obtain⟨f1,f2⟩:=BZ hL
 have hobj:∀c o,zd (firstObs 0 ps x) c=some o->∃j v l,c=500000+j/\B.hs[j]? =some v/\bls[j]? =some l/\∀hd,ObR B.w S hd v l o:=fun c o hc=>by
  obtain⟨j,v,l,e1,e2⟩:=g2.get c o hc
  exact⟨j,v,l,by omega,e2⟩
 obtain⟨hdf,hhd⟩:∃hdf:Nat->Value,∀j v,B.hs[j]? =some v->hdf (500000+j)=v:=⟨fun c=>B.hs.getD (c-500000) undef,fun j v hj=>by
  show B.hs.getD (500000+j-500000) undef=v
  rw[Nat.add_sub_cancel_left,List.getD,hj];rfl⟩
 obtain⟨blf,hbl⟩:∃blf:Nat->List Nat,∀j l,bls[j]? =some l->blf (500000+j)=l:=⟨fun c=>bls.getD (c-500000) [],fun j l hj=>by
  show bls.getD (500000+j-500000) []=l
  rw[Nat.add_sub_cancel_left,List.getD,hj];rfl⟩
 refine⟨S,hdf,blf,Kept.refl _,fun _ h=>h,fun _ h=> .inl h,hS,rfl, ?_,fun i av hi=> ?_,fun c o hc=> ?_,fun c o hc=> ?_,fun c o d p hc hd hne=> ?_,hhd⟩
 ·show(vs.toArray++Array.replicate _ undef).size=(vY 0 ps x++List.replicate _ _).length
  rw[zgA,List.length_replicate,h2,Array.size_append,Array.size_replicate,List.size_toArray,h1]
 ·have hi' :(vY 0 ps x++List.replicate (nt-ps.length) (.cv .dead))[i]? =some av:=hi
  rw[List.getElem?_append]at hi'
  split at hi'
  ·rename_i hlt
   obtain⟨v,hv,hav⟩:=h3 hdf (fun j v hj=>by rw[Nat.add_zero];exact hhd j v hj) i av hi'
   have:(vs.toArray++Array.replicate (nt-vs.toArray.size) undef).getD i undef=v:=by
    rw[Array.getD_eq_getD_getElem?,Array.getElem?_append_left (by rw[List.size_toArray];omega),List.getElem?_toArray,hv];rfl
   show AVR B.w S _ ((vs.toArray++Array.replicate (nt-vs.toArray.size) undef).getD i undef) av
   rw[this];exact hav
  ·rw[List.getElem?_replicate]at hi'
   split at hi'
   ·cases hi';trivial
   ·cases hi'
 ·obtain⟨j,v,l,rfl,e1,e2,e3⟩:=hobj c o hc
  rw[hhd j v e1,hbl j l e2]
  exact e3 _
 ·obtain⟨j,v,l,rfl,e1,e2,_⟩:=hobj c o hc
  rw[hbl j l e2]
  obtain⟨k1,k2⟩:=f1 j l e2
  exact⟨k1,fun b hb=>hLb b (k2 b hb)⟩
 ·obtain⟨i,v,l,rfl,e1,e2,_⟩:=hobj c o hc
  obtain⟨j,v',l',rfl,e3,e4,_⟩:=hobj d p hd
  rw[hbl i l e2,hbl j l' e4]
  exact f2 i j l l' e2 e4 (by omega)
theorem SR.unheads {B:Base gw}{H:List Value}{S:Nat->Prop}{σ:St}{a:Act}(h:SR (⟨B.w,B.mine,B.up,B.hg,H⟩:Base gw) S σ a w)(hH:B.hs=[]):SR B S σ a w:=by
 obtain⟨Im,hd,bl,h⟩:=h
 exact⟨Im,hd,bl,h.below,h.sub,h.new,h.lt,h.nodef,h.size,h.slots,h.objs,h.own,h.apart,fun j v hj=>by rw[hH]at hj;simp at hj⟩
theorem zb6 {B:Base gw}{nt:Nat}{ps:List PT}{x:Aden ps}{v:Value}{us:List Value}{S:Nat->Prop}{L:List Nat}(hS:∀b,S b->b<B.w.heap.size)(hL:L.Nodup)(hLb:∀b∈L,B.mine b/\b<B.w.heap.size/\¬S b)(hH:B.hs=[])(ha:ArgsG false B.w S v us L ps x)(hn:ps.length<=nt):
 SR B S (start1 nt ps x) { tmps:=(v::us).toArray++Array.replicate (nt-(v::us).toArray.size) undef,defers:=[]} B.w/\(ioOf ps).length=0:=by
 match ps,x,ha,hn with
 | .v (.slice t) false::q::r,x,ha,hn=>
   obtain⟨h1,h2⟩:=ha
   have hu:∃u us',us=u::us' :=by
    cases us with
    |nil=>cases r<;>exact h2.elim
    |cons u us' =>exact⟨u,us',rfl⟩
   obtain⟨u,us',rfl⟩:=hu
   have ho:ArgsO B.w S (v::u::us') L [v] (.o [.o t false] false::q::r) x:=⟨L,[],[v],[],(List.append_nil L).symm,rfl,⟨[v],rfl,fun _=>rfl,h1,rfl⟩,h2.o⟩
   refine⟨SR.unheads (H:=[v]) (SL (B:=(⟨B.w,B.mine,B.up,B.hg,[v]⟩:Base gw)) (nt:=nt) (ps:= .o [.o t false] false::q::r) (x:=x) hS hL hLb ho hn) hH, ?_⟩
   obtain⟨_,_,_,h3,_⟩:=Xg 0 (h2.o)
   exact h3.symm
theorem QE {f:FuncId}{fn:Func}{c:Code}{args:Array Value}{R:Value->World->Prop}(hf:P.funcs[f]? =some fn)(hb:fn.body=some c)
 (h:Ends P fn R [.code c] { tmps:=args++Array.replicate (fn.ntmps-args.size) undef,defers:=[]} w):Calls P f args w fun e w' =>match e with| .returned v=>R v w' |_=>False:=by
 intro cs
 let b:Frame:= { (default:Frame)with fn:=f,kind:= .normal}
 have henter:Frame.enter P f args .normal=b.at { tmps:=args++Array.replicate (fn.ntmps-args.size) undef,defers:=[]} [.code c]:=by
  simp[Frame.enter,Frame.at,hf,hb,b]
 obtain⟨a',w',todo,v,h1,h2,h3,h4⟩:=h b cs
 rw[<-henter]at h1
 exact⟨.returned v,w',_,h4,h1,rfl,rfl,h2,rfl,fn,hf,h3⟩
theorem ArgsO.count {S:Nat->Prop}{ps:List PT}{vs:List Value}{L:List Nat}{H:List Value}{x:Aden ps}(h:ArgsO w S vs L H ps x):H.length=(ioOf ps).length:=by
 obtain⟨_,_,_,h3,_⟩:=Xg 0 h
 exact h3
theorem zf9 (hm:P.follows .mixedOrders=true){E:Env}(hE:∀T ti,E.ty T=some ti->TyOk P T ti)(hF:FnOk P gw E):∀k:Nat,
 (∀f ids fi,E.fn f ids=some fi->∀x y,QF E k (aRun E k) fi x=some y->Gives P gw f fi x y)/\
 (∀rs ios res hints its σ y,aRun E k rs ios res hints its σ=some y->∀(fn:Func) (w0:Base gw) (S0:Nat->Prop) (a:Act) (w:World),fn.results.toList=res->(∀c∈ios,IoRC c)->w0.hs.length=ios.length->SR w0 S0 σ a w->
   Ends P fn (fun v w' =>Kept w0 w' /\ResR w0 w' S0 rs ios w0.hs y v) its a w):=by
 have first:∀k,(∀rs ios res hints its σ y,aRun E k rs ios res hints its σ=some y->∀(fn:Func) (w0:Base gw) (S0:Nat->Prop) (a:Act) (w:World),fn.results.toList=res->(∀c∈ios,IoRC c)->w0.hs.length=ios.length->SR w0 S0 σ a w->
  Ends P fn (fun v w' =>Kept w0 w' /\ResR w0 w' S0 rs ios w0.hs y v) its a w)->(∀f ids fi,E.fn f ids=some fi->∀x y,QF E k (aRun E k) fi x=some y->Gives P gw f fi x y):=by
  intro k hk f ids fi hfi x y hy
  obtain⟨h1,h2⟩:=hF f ids fi hfi
  unfold QF at hy
  split at hy
  ·rename_i g hg;exact h1 g hg k x y hy
  ·rename_i hg
   obtain⟨fn,hfn,hname,hbody,hres,hnt,hps⟩:=h2 hg
   have hcall:∀(vs:List Value) (W:World),(callFunc f vs.toArray).run P W= .ok (.enter f vs.toArray) W:=fun vs W=>by
    simp only[callFunc,Sem.run_bind,program,hfn]
    have hname' :¬(fn.name== "runtime.NumGoroutine")=true:=by rw[hname];simp
    simp only[Sem.run,hfn,hbody,Result.andThen_ok]
    rw[zgH hname']
    simp[Sem.run,pure]
   cases hr1:fi.run1 with
   |true=>
    unfold Gives
    rw[Fi.gift_none hg,hr1,zgJ]
    intro B S v us L hS hL hLb hH ha
    rw[hr1]at ha
    unfold Does
    rw[hcall]
    obtain⟨hst,hio⟩:=zb6 (nt:=fi.nt) hS hL hLb hH ha hps
    rw[<-hnt]at hst
    have hst' :SR B S (fi.start x) { tmps:=(v::us).toArray++Array.replicate (fn.ntmps-(v::us).toArray.size) undef,defers:=[]} B.w:=by
     unfold Fi.start
     rw[hr1,zgJ,<-hnt]
     exact hst
    have hres2:=QE hfn hbody (hk fi.rs (ioOf fi.ps) fi.res fi.hints [.code fi.code] (fi.start x) y hy fn B S _ B.w hres (Zk _) (by rw[hH,hio];rfl) hst')
    rw[hH]at hres2
    exact hres2
   |false=>
   refine GivesO.all ?_ ((Fi.gift_none hg).trans hr1)
   intro B S vs L H hS hL hLb hH ha
   subst hH
   unfold Does
   rw[hcall]
   have hst:=SL (nt:=fi.nt) hS hL hLb ha hps
   rw[<-hnt]at hst
   have hst' :SR B S (fi.start x) { tmps:=vs.toArray++Array.replicate (fn.ntmps-vs.toArray.size) undef,defers:=[]} B.w:=by
    unfold Fi.start
    rw[hr1,zgK,<-hnt]
    exact hst
   exact QE hfn hbody (hk fi.rs (ioOf fi.ps) fi.res fi.hints [.code fi.code] (fi.start x) y hy fn B S _ B.w hres (Zk _) ha.count hst')
 intro k
 induction k with
 |zero=>
  have h2:∀rs ios res hints its σ y,aRun E 0 rs ios res hints its σ=some y->∀(fn:Func) (w0:Base gw) (S0:Nat->Prop) (a:Act) (w:World),fn.results.toList=res->(∀c∈ios,IoRC c)->w0.hs.length=ios.length->SR w0 S0 σ a w->
   Ends P fn (fun v w' =>Kept w0 w' /\ResR w0 w' S0 rs ios w0.hs y v) its a w:=fun rs ios res hints its σ y h=>by cases h
  exact⟨first 0 h2,h2⟩
 |succ k ih=>
  have h2:∀rs ios res hints its σ y,aRun E (k+1) rs ios res hints its σ=some y->∀(fn:Func) (w0:Base gw) (S0:Nat->Prop) (a:Act) (w:World),fn.results.toList=res->(∀c∈ios,IoRC c)->w0.hs.length=ios.length->SR w0 S0 σ a w->
   Ends P fn (fun v w' =>Kept w0 w' /\ResR w0 w' S0 rs ios w0.hs y v) its a w:=by
   intro rs ios res hints its σ y h fn w0 S0 a w hres hio hl hsr
   exact zf6 hm hE ih.1 hio hl hres (fun its σ hr a w hs=>ih.2 rs ios res hints its σ y hr fn w0 S0 a w hres hio hl hs) 4000 its σ a w hsr h
  exact⟨first (k+1) h2,h2⟩
theorem gives (hm:P.follows .mixedOrders=true){E:Env}(hE:∀T ti,E.ty T=some ti->TyOk P T ti)(hF:FnOk P gw E){f:FuncId}{ids:List Nat}{fi:Fi}(hf:E.fn f ids=some fi){k:Nat}{x:Aden fi.ps}{y:Oden (zm fi.rs) (ioOf fi.ps)}(h:aFn E fi k x=some y):Gives P gw f fi x y:=
 (zf9 hm hE hF k).1 f ids fi hf x y h
end
def sub:Code->List Nat->Code
 |c,[]=>c
 | .seq a b,0::r=>sub a r
 | .seq a b,_::r=>sub b r
 | .block _ c,_::r=>sub c r
 | .loop c,_::r=>sub c r
 | .cond _ a b,0::r=>sub a r
 | .cond _ a b,_::r=>sub b r
 |c,_=>c
section
variable {P:Program} {gw:Gw}
theorem vF {e:Nat}{t:Ty}(h1:(P.info? e).map (·.size)=some t.sz)(h2:(P.info? e).map (fun i=>Nat.ble i.bytes 4096)=some true)(h3:((P.info? e).bind (·.zero)).map (fun z=>z.cells.toList)=some (uB t)):V5 P e t:=by
 cases hi:P.info? e with
 |none=>rw[hi]at h1;cases h1
 |some i=>
  rw[hi]at h1 h2 h3
  cases hz:i.zero with
  |none=>simp[hz]at h3
  |some z=>
   simp[hz]at h3
   exact⟨i,z,hi,by simpa using h1,by simpa using h2,hz,h3⟩
theorem cG {T:Nat}{cs:List Value}(h1:(P.info? T).map (·.size)=some cs.length)(h3:((P.info? T).bind (·.zero)).map (fun z=>z.cells.toList)=some cs):ZeroOk P T cs:=by
 cases hi:P.info? T with
 |none=>rw[hi]at h1;cases h1
 |some i=>
  rw[hi]at h1 h3
  cases hz:i.zero with
  |none=>simp[hz]at h3
  |some z=>
   simp[hz]at h3
   exact⟨i,z,hi,by simpa using h1,hz,h3⟩
theorem G4 {T:Nat}{k:IntKind}(hu:P.underlying T=some (.int k))(h1:(P.info? T).map (·.size)=some 1)(h3:((P.info? T).bind (·.zero)).map (fun z=>z.cells.toList)=some [.int k 0]):TyOk P T (.one (.int k)):=
 ⟨_,hu,rfl,cG h1 h3⟩
theorem zb1 {T:Nat}(hu:P.underlying T=some .bool)(h1:(P.info? T).map (·.size)=some 1)(h3:((P.info? T).bind (·.zero)).map (fun z=>z.cells.toList)=some [.bool false]):TyOk P T (.one .bool):=
 ⟨_,hu,rfl,cG h1 h3⟩
theorem zdP {T:Nat}(hu:P.underlying T=some .string)(h1:(P.info? T).map (·.size)=some 1)(h3:((P.info? T).bind (·.zero)).map (fun z=>z.cells.toList)=some [.string ⟨#[]⟩]):TyOk P T (.one .str):=
 ⟨_,hu,rfl,cG h1 h3⟩
theorem w7 {T e:Nat}{t:Ty}(hu:P.underlying T=some (.slice e))(h1:(P.info? T).map (·.size)=some 1)(h3:((P.info? T).bind (·.zero)).map (fun z=>z.cells.toList)=some [.slice none 0 0])(he:V5 P e t):TyOk P T (.one (.slice t)):=
 ⟨_,hu,⟨e,rfl,he⟩,cG h1 h3⟩
theorem zaL {T e:Nat}(hu:P.underlying T=some (.slice e))(he:P.underlying e=some (.int .u8)):TyOk P (T+1000000) .bytes:=
 ⟨Nat.le_add_left _ _,e,by rw[Nat.add_sub_cancel];exact hu,he⟩
theorem zdR {T:Nat}{d:TypeDesc}(hu:P.underlying T=some d)(hd:(match d with| .interface _=>true|_=>false)=true)(h1:(P.info? T).map (·.size)=some 1)(h3:((P.info? T).bind (·.zero)).map (fun z=>z.cells.toList)=some [.nilIface]):TyOk P T (.one .err):=by
 refine⟨d,hu, ?_,cG h1 h3⟩
 cases d with
 |interface ms=>exact⟨ms,rfl⟩
 |_=>cases hd
theorem zbZ {T kt et:Nat}(hu:P.underlying T=some (.map kt et))(hk:P.underlying kt=some (.int .i64))(h3:((P.info? et).bind (·.zero)).map (fun z=>match z with| .slice none 0 0=>true|_=>false)=some true):TyOk P T .imap:=by
 cases hi:P.info? et with
 |none=>rw[hi]at h3;cases h3
 |some i=>
  rw[hi]at h3
  cases hz:i.zero with
  |none=>simp[hz]at h3
  |some z=>
   simp[hz]at h3
   refine⟨kt,et,i,hu,hk,hi, ?_⟩
   split at h3
   ·exact hz
   ·cases h3
theorem zdQ {T kt et:Nat}(hu:P.underlying T=some (.map kt et))(hk:P.underlying kt=some .string)(h3:((P.info? et).bind (·.zero)).map (fun z=>match z with| .bool false=>true|_=>false)=some true)(h1:(P.info? T).map (·.size)=some 1)(h4:((P.info? T).bind (·.zero)).map (fun z=>z.cells.toList)=some [.map none]):TyOk P T (.one .set):=by
 refine⟨_,hu, ?_,cG h1 h4⟩
 cases hi:P.info? et with
 |none=>rw[hi]at h3;cases h3
 |some i=>
  rw[hi]at h3
  cases hz:i.zero with
  |none=>simp[hz]at h3
  |some z=>
   simp[hz]at h3
   refine⟨kt,et,i,rfl,hk,hi, ?_⟩
   split at h3
   ·exact hz
   ·cases h3
theorem zdS {T e n:Nat}{t:Ty}(hu:P.underlying T=some (.array n e))(he:V5 P e t)(h1:(P.info? T).map (·.size)=some (n*t.sz))(h3:((P.info? T).bind (·.zero)).map (fun z=>z.cells.toList)=some (List.replicate n (uB t)).flatten):TyOk P T (.arr n t):=by
 refine⟨e,hu,he, ?_⟩
 cases hi:P.info? T with
 |none=>rw[hi]at h1;cases h1
 |some i=>
  rw[hi]at h1 h3
  cases hz:i.zero with
  |none=>simp[hz]at h3
  |some z=>
   simp[hz]at h3
   exact⟨i,z,rfl,by simpa using h1,hz,h3⟩
def noPair:Ty->Bool| .pair _ _=>false|_=>true
theorem jW {T:Nat}{fs:List (Nat×Nat)}{ks:List Ty}{eq:Bool}{fields:Array Field}(hu:P.underlying T=some (.struct fields))(h1:(P.info? T).map (·.size)=some ks.length)(h3:((P.info? T).bind (·.zero)).map (fun z=>z.cells.toList)=some (ks.map kindZero))
 (hk:ks.all noPair=true) (hf:fields.toList.map (fun f=>(f.offset,f.type))=fs) (hp:(fields.toList.mapM (fun f=>(P.info? f.type).map fun i=>(f.offset,i.size))).isSome=true)
 (heq:eq=true->∀xs ys w op,Scalars xs ks->Scalars ys ks->op=BinOp.eql\/op=BinOp.neq->
   (eqGuard op T (.tmp 0) (.tmp 0) (.agg xs.toArray) (.agg ys.toArray)).run P w= .ok () w/\(Op.equal T (.agg xs.toArray) (.agg ys.toArray)).run P w= .ok (u7 xs ys) w):TyOk P T (.struct fs ks eq):=by
 refine⟨fields,hu,cG (by rw[zgN];exact h1) h3,fun k hkm a b e=> ?_,fun f off u hfu=> ?_,Option.isSome_iff_exists.1 hp,heq⟩
 ·have:=zgS.1 hk k hkm
  rw[e]at this;cases this
 ·rw[<-hf,List.getElem?_map]at hfu
  obtain⟨fld,h1,h2⟩:=zgQ.1 hfu
  simp only[Prod.mk.injEq]at h2
  exact⟨fld,by simpa using h1,h2.1,h2.2⟩
theorem JH {f:Nat}{fi:Fi}{fn:Func}{c:Code}(hf:P.funcs[f]? =some fn)(hn:(fn.name== "runtime.NumGoroutine")=false)(hb:fn.body=some c)(hc:fi.code=c)(hr:fi.res=fn.results.toList)(ht:fi.nt=fn.ntmps)(hp:Nat.ble fi.ps.length fi.nt=true)(he:fi.ext=none):
 (∀g,fi.ext=some g->∀k x y,g k x=some y->Gives P gw f fi x y)/\(fi.ext=none->∃fn,P.funcs[f]? =some fn/\(fn.name== "runtime.NumGoroutine")=false/\fn.body=some fi.code/\fn.results.toList=fi.res/\fn.ntmps=fi.nt/\fi.ps.length<=fi.nt):=
 ⟨(fun g hg=>by rw[he]at hg;cases hg),fun _=>⟨fn,hf,hn,by rw[hb,hc],hr.symm,ht.symm,zgZ hp⟩⟩
def sameIds:List Nat->List Nat->Bool
 | [],[]=>true|a::as,b::bs=>Nat.beq a b&&sameIds as bs|_,_=>false
def lookT:List (Nat×TI)->Nat->Option TI
 | [],_=>none|(t,i)::r,u=>bif Nat.beq t u then some i else lookT r u
def lookF:List (Nat×List Nat×Fi)->Nat->List Nat->Option Fi
 | [],_,_=>none|(f,js,fi)::r,g,ids=>bif Nat.beq f g&&sameIds js ids then some fi else lookF r g ids
def AllT (P:Program):List (Nat×TI)->Prop
 | []=>True|(t,i)::r=>TyOk P t i/\AllT P r
def OneF (P:Program)(gw:Gw)(f:Nat)(fi:Fi):Prop:=(∀g,fi.ext=some g->∀k x y,g k x=some y->Gives P gw f fi x y)/\
 (fi.ext=none->∃fn,P.funcs[f]? =some fn/\(fn.name== "runtime.NumGoroutine")=false/\fn.body=some fi.code/\fn.results.toList=fi.res/\fn.ntmps=fi.nt/\fi.ps.length<=fi.nt)
def AllF (P:Program)(gw:Gw):List (Nat×List Nat×Fi)->Prop
 | []=>True|(f,_,fi)::r=>OneF P gw f fi/\AllF P gw r
theorem FO:∀ {l:List (Nat×TI)},AllT P l->∀T ti,lookT l T=some ti->TyOk P T ti
 | [],_,T,ti,h=>by cases h
 |(t,i)::r,ha,T,ti,h=>by
  unfold lookT at h
  cases hb:Nat.beq t T with
  |true=>rw[hb]at h;cases h;rw[<-zgE hb];exact ha.1
  |false=>rw[hb]at h;exact FO ha.2 T ti h
theorem FP:∀ {l:List (Nat×List Nat×Fi)},AllF P gw l->∀f ids fi,lookF l f ids=some fi->OneF P gw f fi
 | [],_,f,ids,fi,h=>by cases h
 |(g,js,gi)::r,ha,f,ids,fi,h=>by
  unfold lookF at h
  cases hb:Nat.beq g f&&sameIds js ids with
  |true=>
   rw[hb]at h;cases h
   rw[zgx]at hb
   rw[<-zgE hb.1];exact ha.1
  |false=>rw[hb]at h;exact FP ha.2 f ids fi h
end
end Go.Vt
