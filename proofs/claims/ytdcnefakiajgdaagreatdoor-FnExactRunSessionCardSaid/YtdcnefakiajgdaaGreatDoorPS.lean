/-
  What the laws lean on: what the functions come to.
  Conditions: numbers and lengths are such as a machine bears.
-/
import Derived.Test.YtdcnefakiajgdaaGreatDoorPSa
set_option linter.unnecessarySimpa false
set_option linter.unusedSimpArgs false
set_option linter.unusedVariables false
namespace Qq
open Go Go.Vt Pt
theorem zft {n:Nat}{p0:List Int}{c:Scene}{s:z6}(hc:SceneOk n c)(hp:Pm c.1 p0)(hs:zS (n:Int) s=true):∀d∈zw c s,Pm d.1 p0:=by
 obtain⟨h1,h2,hk⟩:=uD hs
 intro d hd
 unfold zw at hd
 rcases hk with⟨e,m⟩|⟨e,c0,c4,c3,c2⟩|⟨e,a0,an⟩
 ·rw[zgG e]at hd
  have hd:d=(xB c.1 s.2.1,c.2):=by simpa using hd
  subst hd
  exact(CJ (by rw[hc.len];exact m)).trans hp
 ·rw[zgH (by omega),zgH (by omega)]at hd
  obtain⟨q,hq,rfl⟩:=zgY.1 hd
  exact(zam q ((jd _ q).1 hq)).trans hp
 ·rw[zgH (by omega),zgG e]at hd
  have hd:d=(c.1,card (c.1.getD s.2.2.toNat 0)):=by simpa using hd
  subst hd
  exact hp
theorem EJ {Q:Scene->Prop}(s:z6)(w:List Int):∀(r:List Scene) (j:Nat) (acc:List Way),(∀x∈r,Q x)->(∀c∈acc,Q c.1)->∀c∈addP s w j r acc,Q c.1
 | [],_,_,_,h=>h
 |x::r,j,acc,hr,h=>by
  unfold addP
  split
  ·exact EJ s w r (j+1) acc (fun y hy=>hr y (by simp[hy])) h
  ·refine EJ s w r (j+1) _ (fun y hy=>hr y (by simp[hy])) (fun c hc=> ?_)
   rcases zgz.1 hc with hc|hc
   ·exact h c hc
   ·have:c=(x,if s.1=2 then w++[(j:Int)]else w):=by simpa using hc
    rw[this];exact hr x (by simp)
theorem zc2 {Q:Scene->Prop}{s:z6}(hQ:∀c,Q c->∀d∈zw c s,Q d):∀(l acc:List Way),(∀c∈l,Q c.1)->(∀c∈acc,Q c.1)->∀c∈goP s l acc,Q c.1
 | [],_,_,h=>h
 |c::r,acc,hl,h=>zc2 hQ r _ (fun d hd=>hl d (by simp[hd])) (EJ s c.2 _ 0 acc (hQ c.1 (hl c (by simp))) h)
theorem CB {Q:Scene->Prop}:∀(r:List z6) (l:List Way) (A:List Way),(∀s∈r,∀c,Q c->∀d∈zw c s,Q d)->(∀c∈l,Q c.1)->bV r l=some A->∀c∈A,Q c.1
 | [],l,A,_,hl,h=>by cases h;exact hl
 |s::r,l,A,hs,hl,h=>by
  rw[uZ]at h
  split at h
  ·exact CB r _ A (fun q hq=>hs q (by simp[hq])) (zc2 (hs s (by simp)) l [] hl (fun c hc=>by cases hc)) h
  ·cases h
theorem AI (c:Int):∀(q:List Int) (i:Nat),c∈q.map card->0<=posF c i q
 | [],_,h=>by simp at h
 |x::q,i,h=>by
  unfold posF
  split
  ·omega
  ·rename_i hne
   refine AI c q (i+1) ?_
   rw[List.map_cons,zgO]at h
   rcases h with h|h
   ·exact(hne h.symm).elim
   ·exact h
theorem zep {p q:List Int}(h:zp p=true)(hq:Pm q p):Sj p q=true:=by
 have h2:=YO h hq
 unfold Sj
 rw[h,h2.1,h2.2]
 simp only[Bool.true_and,zgx,beq_self_eq_true,zgS,zgI,true_and]
 intro x hx
 have hc:=((yn h).2.1 x hx).1
 unfold pos
 rw[zgH (by omega)]
 exact AI _ q 0 (hq.mem_iff.2 (zgY.2 ⟨x,hx,rfl⟩))
theorem ED {t:Trick}(h:zi t=true):∀c∈(x4 t).1,Sj t.1 c.1=true:=by
 unfold x4
 rw[zgG h]
 cases hE:fE t with
 |none=>intro c hc;cases hc
 |some A=>
  intro c hc
  obtain⟨d,hd,rfl⟩:=zgY.1 (show c∈A.map Prod.fst from hc)
  have hs:=yT h
  have:=CB (Q:=fun c=>SceneOk t.1.length c/\Pm c.1 t.1) t.2.1 (yQ t) A (fun s hss c hc d hd=>⟨fR hc.1 (hs.2 s hss) d hd,zft hc.1 hc.2 (hs.2 s hss) d hd⟩) (fun c hc=>by
   have e:c=((t.1,-1),[]):=by simpa[yQ]using hc
   rw[e]
   exact⟨hs.1,List.Perm.refl _⟩) hE d hd
  exact zep (zk h).2.2.2 this.2
theorem EE (d:Scene):∀(r acc:List Scene),d∈addU r acc↔(d∈r\/d∈acc)
 | [],acc=>by simp[addU]
 |x::r,acc=>by
  unfold addU
  by_cases h:x∈acc
  ·rw[zgG h,EE d r acc,zgO]
   constructor
   ·rintro(h1|h1);exact .inl (.inr h1);exact .inr h1
   ·rintro((h1|h1)|h1);exact .inr (h1▸h);exact .inl h1;exact .inr h1
  ·rw[zgH h,EE d r _,zgO,zgz,List.mem_singleton]
   constructor
   ·rintro(h1|h1|h1);exact .inl (.inr h1);exact .inr h1;exact .inl (.inl h1)
   ·rintro((h1|h1)|h1);exact .inr (.inr h1);exact .inl h1;exact .inr (.inl h1)
theorem P7:∀(r acc:List Scene),acc.Nodup->(addU r acc).Nodup
 | [],acc,h=>h
 |x::r,acc,h=>by
  unfold addU
  by_cases hx:x∈acc
  ·rw[zgG hx];exact P7 r acc h
  ·rw[zgH hx]
   refine P7 r _ ?_
   rw[zgM]
   refine⟨h,by simp,fun a ha b hb e=>hx ?_⟩
   have:b=x:=by simpa using hb
   rw[<-this,<-e];exact ha
theorem BW (s:z6)(d:Scene):∀(l acc:List Scene),d∈goU s l acc↔((∃c∈l,d∈zw c s)\/d∈acc)
 | [],acc=>by simp[goU]
 |c::r,acc=>by
  unfold goU
  rw[BW s d r,EE]
  constructor
  ·rintro(⟨c',h1,h2⟩|h1|h1)
   ·exact .inl ⟨c',by simp[h1],h2⟩
   ·exact .inl ⟨c,by simp,h1⟩
   ·exact .inr h1
  ·rintro(⟨c',h1,h2⟩|h1)
   ·rcases zgO.1 h1 with h1|h1
    ·exact .inr (.inl (h1▸h2))
    ·exact .inl ⟨c',h1,h2⟩
   ·exact .inr (.inr h1)
theorem Ct (s:z6):∀(l acc:List Scene),acc.Nodup->(goU s l acc).Nodup
 | [],acc,h=>h
 |c::r,acc,h=>Ct s r _ (P7 _ _ h)
theorem SQ {α:Type}{l:List α}{i:Nat}{d:α}(h:i<l.length):l.set i (l.getD i d)=l:=by
 rw[List.getD,zgD h];simp
theorem Vn {n:Nat}(h1n:1<=n)(hn:n<=12)(steps:List z6)(si:Nat)(l:List Scene)(hl:l.length<=3000)(ci:Nat)(s:z6)(out:List (List Scene))(rs:List z6)(rc:List Scene)(nx:List Scene)(hnx:nx.length<=4096)
 (K:∀acc:List Scene,acc.length<=3000->SAll n acc->Ev (fun k=>bx k steps (steps.length:Int) (si:Int) (l.length:Int) ((ci+1:Nat):Int) out si s.1 s.2.1.1 s.2.1.2 s.2.2 (acc.map keyB) acc l) (resU out rs (goU s rc acc))):
 ∀(xs:List Scene) (j:Nat) (acc:List Scene),nx.drop j=xs->SAll n xs->acc.length+xs.length<=8000->SAll n acc->ci<3000->
  Ev (fun k=>fv k steps (steps.length:Int) (si:Int) (l.length:Int) (ci:Int) (nx.length:Int) (j:Int) out si s.1 s.2.1.1 s.2.1.2 s.2.2 (acc.map keyB) acc l nx j) (resU out rs (goU s rc (addU xs acc)))
 | [],j,acc,h,hx,ha,hk,hci=>by
   have a:=zu h
   have ew:IntKind.i64.wrap ((ci:Int)+1)=((ci+1:Nat):Int):=by rw[ze (by omega) (by omega)];omega
   refine ES (fun k=>Vq k ..) ?_
   simp only[a.g,zgK,ew]
   unfold addU
   refine EI (fun h2=>EZ ?_) (fun h2=> ?_)
   ·unfold resU
    rw[zgH]
    ·rfl
    ·have:=zcW s rc acc
     have h3:(acc.length:Int)>3000:=by simpa using h2
     omega
   ·have h3:¬(acc.length:Int)>3000:=by simpa using h2
    exact K acc (by omega) hk
 |x::xs,j,acc,h,hx,ha,hk,hci=>by
  have a:=zh h (by rw[zc];omega)
  have hxo:=hx x (by simp)
  have hxi:=zR hxo.ok
  have hx0:=hxo.n0
  have hx12:=hxo.n12
  have hkx:=GH x (by rw[hxo.len];exact hn) hxi (by unfold In;omega)
  have hmp:=KK (l:=acc) (x:=x) (fun c hc=>GC h1n (hk c hc)) (GC h1n hxo)
  have hbeq:Nat.beq (j:Int).toNat j=true:=by simp
  rw[zgB]at ha
  have ih:=fun acc ha hk=>Vn h1n hn steps si l hl ci s out rs rc nx hnx K xs (j+1) acc a.next (fun y hy=>hx y (by simp[hy])) ha hk hci
  refine ES (fun k=>Vq k ..) ?_
  simp only[a.g,a.z,a.n,a.get,a.w,hbeq,zgJ]
  unfold addU
  refine EB hkx ?_
  rw[hmp]
  by_cases hm:x∈acc
  ·rw[zgG hm,zgu hm]
   exact EN rfl (ih acc (by omega) hk)
  ·rw[zgH hm,zgv hm]
   refine EY rfl (EY (by rw[za];simp;omega) ?_)
   have:=ih (acc++[x]) (by simp;omega) (fun c hc=>by
    rcases zgz.1 hc with hc|hc
    ·exact hk c hc
    ·have:c=x:=by simpa using hc
     rw[this];exact hxo)
   simpa using this
theorem Td {n:Nat}(h1n:1<=n)(hn:n<=12)(steps:List z6)(h12:steps.length<=12)(si:Nat)(hsi:si<steps.length)(l:List Scene)(hl:l.length<=3000)(hok:SAll n l)(s:z6)(hs:zS (n:Int) s=true)(out:List (List Scene))(hout:out.length=si+1)(hoi:out.set si l=out)(rs:List z6)
 (K:∀acc:List Scene,acc.length<=3000->SAll n acc->Ev (fun k=>bz k steps (steps.length:Int) ((si+1:Nat):Int) (out++[acc])) (outU out (levU rs acc))):
 ∀(rc:List Scene) (ci:Nat) (acc:List Scene),l.drop ci=rc->acc.length<=3000->SAll n acc->
  Ev (fun k=>bx k steps (steps.length:Int) (si:Int) (l.length:Int) (ci:Int) out si s.1 s.2.1.1 s.2.1.2 s.2.2 (acc.map keyB) acc l) (resU out rs (goU s rc acc))
 | [],ci,acc,h,ha,hk=>by
   have a:=zu h
   have ew:IntKind.i64.wrap ((si:Int)+1)=((si+1:Nat):Int):=by rw[ze (by omega) (by omega)];omega
   refine ES (fun k=>Tj k ..) ?_
   simp only[a.g,zgK,ew,hoi]
   unfold goU resU
   rw[zgG ha]
   exact EY (by rw[za];simp;omega) (K acc ha hk)
 |c::rc,ci,acc,h,ha,hk=>by
  have a:=zh h (by rw[zc];omega)
  have hlt:=a.lt
  have hco:=hok c a.mem
  have hnl:=YQ hco hs
  have hst:l.set (ci:Int).toNat c=l:=by
   have:=SQ (d:=(([],0):Scene)) hlt
   rw[a.gt]at this
   simpa using this
  refine ES (fun k=>Tj k ..) ?_
  simp only[a.g,a.z,a.n,a.get,hst,zgJ]
  refine EB (jI hco hs) ?_
  unfold goU
  exact Vn h1n hn steps si l hl ci s out rs rc (zw c s) hnl.2
   (fun acc ha hk=>Td h1n hn steps h12 si hsi l hl hok s hs out hout hoi rs K rc (ci+1) acc a.next ha hk)
   (zw c s) 0 acc rfl (fR hco hs) (by omega) hk (by omega)
theorem Te {n:Nat}(h1n:1<=n)(hn:n<=12)(steps:List z6)(h12:steps.length<=12):∀(rs:List z6) (si:Nat) (pre:List (List Scene)) (l:List Scene),steps.drop si=rs->(∀s∈rs,zS (n:Int) s=true)->pre.length=si->l.length<=3000->SAll n l->
 Ev (fun k=>bz k steps (steps.length:Int) (si:Int) (pre++[l])) (outU pre (levU rs l))
 | [],si,pre,l,h,hs,hp,hl,hok=>by
   have a:=zu h
   refine ES (fun k=>Tk k ..) ?_
   simp only[a.g,zgK]
   exact EZ rfl
 |s::rs,si,pre,l,h,hs,hp,hl,hok=>by
  have a:=zh h (by rw[zc];omega)
  have hlt:=a.lt
  have hso:=hs s (by simp)
  have g1:decide ((si:Int)<((pre++[l]).length:Int))=true:=zgu (by simp;omega)
  have g2:decide ((si:Int).toNat<(pre++[l]).length)=true:=zgu (by simp;omega)
  have hg:(pre++[l]).getD (si:Int).toNat []=l:=by
   rw[zgy,List.getD,<-hp,List.getElem?_append_right (zgC _)];simp
  have hoi:(pre++[l]).set si l=pre++[l]:=by
   have h1:si<(pre++[l]).length:=by simp;omega
   have:=SQ (d:=([]:List Scene)) h1
   rw[show(pre++[l]).getD si []=l by simpa using hg]at this
   exact this
  refine ES (fun k=>Tk k ..) ?_
  simp only[a.g,a.z,a.get,g1,g2,hg,zgJ]
  simp only[zgy]
  have:=Td h1n hn steps h12 si hlt l hl hok s hso (pre++[l]) (by simp[hp]) hoi rs (fun acc ha hk=>Te h1n hn steps h12 rs (si+1) (pre++[l]) acc a.next (fun q hq=>hs q (by simp[hq])) (by simp[hp]) ha hk)
   l 0 [] rfl (by simp) (fun c hc=>by cases hc)
  refine this.to ?_
  rw[KT]
  unfold resU
  split
  ·cases levU rs (goU s l [])with
   |none=>rfl
   |some L=>simp[outU]
  ·rfl
theorem K1 (t:Trick)(h:zi t=true)(a1:t.1.length<=maxLen)(ai:Ins t.1)(a2:t.2.1.length<=maxLen):Ev (fun k=>MZ k t) (outU [] (levU t.2.1 [(t.1,-1)])):=by
 obtain⟨h1,h2,h3,h4⟩:=zk h
 have hs:=yT h
 refine ES (fun k=>BO k t) (EB (cx t a1 ai a2) ?_)
 have e:xN t=(t.1,-1,true):=by unfold xN;rw[zgG h]
 rw[e]
 exact Te h2 h3 t.2.1 h1 t.2.1 0 [] [(t.1,-1)] rfl hs.2 rfl (by simp) (E0 h)
theorem HF (t:Trick)(a1:t.1.length<=maxLen)(ai:Ins t.1)(a2:t.2.1.length<=maxLen):Ev (fun k=>Sx k t) (x4 t):=by
 refine ES (fun k=>HU k t) (EB (xX t a1 ai a2) (EI (fun h=>EZ ?_) (fun h=> ?_)))
 ·have:zi t=false:=by simpa using h
  simp[x4,this]
 ·have e:zi t=true:=by simpa using h
  obtain⟨h1,h2⟩:=FQ t.2.1 (yQ t)
  have hst:(yQ t).map Prod.fst=[(t.1,-1)]:=rfl
  rw[hst]at h1 h2
  refine EB (K1 t e a1 ai a2) ?_
  unfold x4 fE
  rw[zgG e]
  cases hL:levU t.2.1 [(t.1,-1)]with
  |none=>
   rw[hL]at h1
   cases hE:bV t.2.1 (yQ t)with
   |some A=>rw[hE]at h1;cases h1
   |none=>exact EY rfl (EP _)
  |some L=>
   rw[hL]at h1
   cases hE:bV t.2.1 (yQ t)with
   |none=>rw[hE]at h1;cases h1
   |some A=>
    rw[hE]at h1
    have hlast:L.getLastD []=A.map Prod.fst:=Option.some.inj h1
    have hlen:=h2 L hL
    have h12:=(zk e).1
    have ew:IntKind.i64.wrap ((L.length:Int)-1)=((L.length-1:Nat):Int):=by rw[ze (by omega) (by omega)];omega
    simp only[outU,List.nil_append,ew]
    refine EN rfl (EY (by simp) (EY (by simp;omega) (EY (by simp;omega) (EZ ?_))))
    show(L.getD ((L.length-1:Nat):Int).toNat [],true)=(A.map Prod.fst,true)
    rw[<-hlast,zgy]
    congr 1
    cases L with
    |nil=>simp at hlen
    |cons a L=>rw[List.getLastD_cons,List.getD,<-List.getLast?_eq_getElem?,List.getLast?_cons];simp[List.getLastD_eq_getLast?]
abbrev VdR:Type:=Int×List Int×List Int×Int×Bool
def Cu (o:Option Way):VdR:=match o with|some w=>(2,w.2,w.1.1,w.1.2,true)|none=>(1,[],[],0,true)
def wA (t:Trick):VdR:=
 if zi t then(match fE t with|none=>(3,[],[],0,true)|some A=>Cu (A.find? (fun w=> !jT t w.1)))else(0,[],[],0,false)
theorem ay (t:Trick)(a1:t.1.length<=maxLen)(A:List Way)(hA:A.length<=3000)(ho:V7 t.1.length A)(z1 z2:Int):∀(r:List Way) (i:Nat),A.drop i=r->
 Ev (fun k=>jt k (A.map Prod.snd) ((A.map Prod.fst).length:Int) (i:Int) t.1 t.2.1 t.2.2.1 t.2.2.2.1 t.2.2.2.2 z1 z2 (A.map Prod.fst)) (Cu (r.find? (fun w=> !jT t w.1)))
 | [],i,h=>by
   have a:=zu h
   have g:decide ((i:Int)<((A.map Prod.fst).length:Int))=false:=by rw[zgN];exact a.g
   exact ES (fun k=>aA k ..) (EN g (EZ rfl))
 |w::r,i,h=>by
  have a:=zh h (by rw[zc];omega)
  have hlt:=a.lt
  have hw:=ho w a.mem
  have g:decide ((i:Int)<((A.map Prod.fst).length:Int))=true:=by rw[zgN];exact a.g
  have g2:decide ((i:Int).toNat<(A.map Prod.fst).length)=true:=by rw[zgN];exact a.n
  have g3:decide ((i:Int)<((A.map Prod.snd).length:Int))=true:=by rw[zgN];exact a.g
  have hg:A[i]=w:=by have:=a.gt ((([],0),[]):Way);simpa[List.getD,hlt]using this
  have e1:(A.map Prod.fst).getD (i:Int).toNat ([],0)=w.1:=by
   rw[zgy,List.getD,List.getElem?_map,zgD hlt,hg];rfl
  have e2:(A.map Prod.snd).getD (i:Int).toNat []=w.2:=by
   rw[zgy,List.getD,List.getElem?_map,zgD hlt,hg];rfl
  have ih:=ay t a1 A hA ho z1 z2 r (i+1) a.next
  refine ES (fun k=>aA k ..) ?_
  simp only[g,g2,g3,e1,e2,a.z,a.w,zgJ]
  refine EB (BI t w.1 a1 (by rw[hw.len];exact a1)) (EI (fun h1=>EZ ?_) (fun h1=> ?_))
  ·rw[List.find?_cons,h1];rfl
  ·rw[List.find?_cons,h1];exact ih
theorem Vd (t:Trick)(a1:t.1.length<=maxLen)(a2:t.2.1.length<=maxLen):Ev (fun k=>aB k t) (wA t):=by
 refine ES (fun k=>Ke k t) (EB (wC t a1 a2) (EI (fun h=>EZ ?_) (fun h=> ?_)))
 ·have:zi t=false:=by simpa using h
  simp[wA,this]
 ·have e:zi t=true:=by simpa using h
  refine EB (Nq t e) ?_
  unfold wA fE
  rw[zgG e]
  cases hE:bV t.2.1 (yQ t)with
  |none=>exact EY rfl (EP _)
  |some A=>
   have hs:=yT e
   exact EN rfl (ay t a1 A (Xh _ _ A (by simp[yQ]) hE) (UB t.2.1 (yQ t) A hs.2 (cI e) hE) 0 0 A 0 rfl)
def LevOk (n:Nat):List z6->List (List Scene)->Prop
 | [],[L]=>SAll n L/\L.Nodup/\L.length<=3000
 |s::r,L::L2::Ls=>(SAll n L/\L.Nodup/\L.length<=3000)/\zS (n:Int) s=true/\(∀c∈L,∀d∈zw c s,d∈L2)/\LevOk n r (L2::Ls)
 |_,_=>False
theorem zcC {n:Nat}:∀(r:List z6) (l:List Scene) (Ls:List (List Scene)),(∀s∈r,zS (n:Int) s=true)->SAll n l->l.Nodup->l.length<=3000->levU r l=some Ls->LevOk n r Ls/\∃q,Ls=l::q
 | [],l,Ls,_,ho,hn,hl,h=>by cases h;exact⟨⟨ho,hn,hl⟩,_,rfl⟩
 |s::r,l,Ls,hs,ho,hn,hl,h=>by
  rw[KT]at h
  split at h
  ·rename_i hc
   obtain⟨L',hL',rfl⟩:=zgQ.1 h
   have ho2:SAll n (goU s l []):=fun d hd=>by
    rw[BW]at hd
    rcases hd with⟨c,h1,h2⟩|hd
    ·exact fR (ho c h1) (hs s (by simp)) d h2
    ·cases hd
   obtain⟨h1,q,rfl⟩:=zcC r _ L' (fun u hu=>hs u (by simp[hu])) ho2 (Ct s l [] List.nodup_nil) hc hL'
   exact⟨⟨⟨ho,hn,hl⟩,hs s (by simp),fun c hcl d hd=>(BW s d l []).2 (.inl ⟨c,hcl,hd⟩),h1⟩,_,rfl⟩
  ·cases h
theorem LevOk.len {n:Nat}:∀ {r:List z6} {Ls:List (List Scene)},LevOk n r Ls->Ls.length=r.length+1
 | [],[L],_=>rfl
 |s::r,L::L2::Ls,h=>by have:=LevOk.len h.2.2.2;simp at this⊢;omega
 | [],[],h=>h.elim
 | [],_::_::_,h=>h.elim
 |_::_,[],h=>h.elim
 |_::_,[_],h=>h.elim
def rowM (bad:Scene->Bool):List z6->List (List Scene)->List (Option (List ByteArray))
 |r,L::Ls=>some ((L.filter (canF bad r)).map keyB)::rowM bad (r.drop 1) Ls
 |_,[]=> []
theorem MT (bad:Scene->Bool):∀(r:List z6) (Ls:List (List Scene)),(rowM bad r Ls).length=Ls.length
 |r,[]=>rfl
 |r,L::Ls=>by unfold rowM;rw[zgB,MT,zgB]
theorem zfB {n:Nat}(h1:1<=n){l:List Scene}(hl:SAll n l){x:Scene}(hx:SceneOk n x):setHas (some (l.map keyB)) (keyB x)=decide (x∈l):=
 KK (fun c hc=>GC h1 (hl c hc)) (GC h1 hx)
theorem zcG {n:Nat}(hn:n<=12){x:Scene}(hx:SceneOk n x):Ev (fun k=>YW k x) (keyB x):=
 GH x (by rw[hx.len];exact hn) (zR hx.ok) (by have:=hx.n0;have:=hx.n12;unfold In;omega)
def Zj (M:List (Option (List ByteArray)))(i:Nat)(x:Scene):Bool:=setHas (M.getD (i+1) none) (keyB x)
theorem Cw {n:Nat}(hn:n<=12){x:Scene}(hx:SceneOk n x)(M:List (Option (List ByteArray)))(i:Nat)(hi:i+1<M.length)(hM:M.length<=3000):Ev (fun k=>Sm k (x,M,(i:Int))) (Zj M i x):=by
 have ew:IntKind.i64.wrap ((i:Int)+1)=((i+1:Nat):Int):=by rw[ze (by omega) (by omega)];omega
 refine ES (fun k=>HH k x M (i:Int)) ?_
 rw[ew]
 exact EY (zgu (by omega)) (EY (zgu (by omega)) (EB (zcG hn hx) (EZ rfl)))
theorem zbD {n:Nat}(hn:n<=12){x:Scene}(hx:SceneOk n x)(M:List (Option (List ByteArray)))(i:Nat)(hi:i+1<M.length)(hM:M.length<=3000):Ev (fun k=>Zr k (x,M,(i:Int))) (Zj M i x):=by
 have ew:IntKind.i64.wrap ((i:Int)+1)=((i+1:Nat):Int):=by rw[ze (by omega) (by omega)];omega
 refine ES (fun k=>PX k x M (i:Int)) ?_
 rw[ew]
 exact EY (zgu (by omega)) (EY (zgu (by omega)) (EB (zcG hn hx) (EZ rfl)))
def idxF (F:Scene->Bool)(i:Nat)(r:List Scene):Int:=if r.any F then((i+r.findIdx F:Nat):Int)else-1
theorem K4 {F:Scene->Bool}{i:Nat}{x:Scene}{r:List Scene}:idxF F i (x::r)=if F x then(i:Int)else idxF F (i+1) r:=by
 unfold idxF
 rw[List.any_cons,List.findIdx_cons]
 cases F x with
 |true=>simp
 |false=>
  simp only[Bool.false_or,zgK]
  have:i+(r.findIdx F+1)=i+1+r.findIdx F:=by omega
  rw[this];rfl
theorem D6 {n:Nat}(hn:n<=12)(l:List Scene)(hl:l.length<=16384)(ho:SAll n l)(M:List (Option (List ByteArray)))(j:Nat)(hj:j+1<M.length)(hM:M.length<=3000):∀(r:List Scene) (i:Nat),l.drop i=r->
 Ev (fun k=>zK k l M (j:Int) (l.length:Int) (i:Int)) (idxF (Zj M j) i r)
 | [],i,h=>ES (fun k=>yI k ..) (EN (zu h).g (EZ rfl))
 |x::r,i,h=>by
  have a:=zh h (by rw[zc];omega)
  refine ES (fun k=>yI k ..) ?_
  simp only[a.g,a.z,a.get,a.w,zgJ]
  rw[K4]
  refine EB (Cw hn (ho x a.mem) M j hj hM) (EI (fun h1=>EZ ?_) (fun h1=> ?_))
  ·rw[zgG h1]
  ·rw[zgH (by rw[h1];simp)];exact D6 hn l hl ho M j hj hM r (i+1) a.next
theorem D7 {n:Nat}(hn:n<=12)(l:List Scene)(hl:l.length<=16384)(ho:SAll n l)(M:List (Option (List ByteArray)))(j:Nat)(hj:j+1<M.length)(hM:M.length<=3000):∀(r:List Scene) (i:Nat),l.drop i=r->
 Ev (fun k=>zB k l M (j:Int) (l.length:Int) (i:Int)) (idxF (Zj M j) i r)
 | [],i,h=>ES (fun k=>yu k ..) (EN (zu h).g (EZ rfl))
 |x::r,i,h=>by
  have a:=zh h (by rw[zc];omega)
  refine ES (fun k=>yu k ..) ?_
  simp only[a.g,a.z,a.get,a.w,zgJ]
  rw[K4]
  refine EB (zbD hn (ho x a.mem) M j hj hM) (EI (fun h1=>EZ ?_) (fun h1=> ?_))
  ·rw[zgG h1]
  ·rw[zgH (by rw[h1];simp)];exact D7 hn l hl ho M j hj hM r (i+1) a.next
theorem zcN (F:Scene->Bool)(i:Nat)(r:List Scene):decide (idxF F i r>=0)=r.any F:=by
 unfold idxF
 cases r.any F with
 |true=>simp;omega
 |false=>simp
theorem zbz {n:Nat}(hn:n<=12)(l:List Scene)(hl:l.length<=16384)(ho:SAll n l)(M:List (Option (List ByteArray)))(j:Nat)(hj:j+1<M.length)(hM:M.length<=3000):
 Ev (fun k=>yc k (l,(M,(j:Int)))) (l.any (Zj M j)):=by
 refine ES (fun k=>wl k l (M,(j:Int))) (EB (ES (fun k=>wV k l (M,(j:Int))) (D6 hn l hl ho M j hj hM l 0 rfl)) (EZ ?_))
 exact zcN _ _ _
def zz (t:Trick)(c:Scene):Bool:= !Yc t c
theorem LevOk.drop {n:Nat}:∀ {r:List z6} {Ls:List (List Scene)} (i:Nat),i<=r.length->LevOk n r Ls->LevOk n (r.drop i) (Ls.drop i)
 |r,Ls,0,_,h=>h
 |s::r,L::L2::Ls,i+1,hi,h=>LevOk.drop (r:=r) (Ls:=L2::Ls) i (by simpa using hi) h.2.2.2
 | [],_,i+1,hi,_=>by simp at hi
 |_::_,[],_,_,h=>h.elim
 |_::_,[_],_,_,h=>h.elim
theorem LevOk.head {n:Nat}{r:List z6}{L:List Scene}{Ls:List (List Scene)}(h:LevOk n r (L::Ls)):SAll n L/\L.Nodup/\L.length<=3000:=by
 cases r with
 |nil=>cases Ls with
  |nil=>exact h
  |cons=>exact h.elim
 |cons s r=>cases Ls with
  |nil=>exact h.elim
  |cons=>exact h.1
theorem DG (bad:Scene->Bool):∀(r:List z6) (Ls:List (List Scene)) (i:Nat),(rowM bad r Ls).drop i=rowM bad (r.drop i) (Ls.drop i)
 |r,Ls,0=>rfl
 |r,[],i+1=>by simp[rowM]
 |r,L::Ls,i+1=>by
  show(rowM bad (r.drop 1) Ls).drop i=rowM bad (r.drop (i+1)) (Ls.drop i)
  rw[DG bad (r.drop 1) Ls i,List.drop_drop,Nat.add_comm 1 i]
theorem AS {n:Nat}(h1:1<=n)(bad:Scene->Bool){s:z6}{r:List z6}{L L2:List Scene}{Ls:List (List Scene)}(h:LevOk n (s::r) (L::L2::Ls)){M:List (Option (List ByteArray))}{i:Nat}
 (hM:M.drop (i+1)=rowM bad r (L2::Ls)) {c:Scene} (hc:c∈L):∀x∈zw c s,Zj M i x=canF bad r x:=by
 intro x hx
 have hx2:=h.2.2.1 c hc x hx
 have ho:=(LevOk.head h.2.2.2).1
 have hg:M.getD (i+1) none=some ((L2.filter (canF bad r)).map keyB):=by
  have:M[i+1]? =some (some ((L2.filter (canF bad r)).map keyB)):=by
   have h0:(M.drop (i+1))[0]? =M[i+1]? :=by rw[List.getElem?_drop]
   rw[<-h0,hM];rfl
  rw[List.getD,this];rfl
 unfold Zj
 rw[hg,zfB h1 (fun c hc=>ho c (List.mem_filter.1 hc).1) (ho x hx2),Bool.eq_iff_iff,zgI,List.mem_filter]
 exact⟨fun h=>h.2,fun h=>⟨hx2,h⟩⟩
theorem JZ {α:Type}{f g:α->Bool}:∀ {l:List α},(∀x∈l,f x=g x)->l.any f=l.any g
 | [],_=>rfl
 |x::l,h=>by rw[List.any_cons,List.any_cons,h x (by simp),JZ (fun y hy=>h y (by simp[hy]))]
theorem GN {α:Type}{f g:α->Bool}:∀ {l:List α},(∀x∈l,f x=g x)->l.findIdx f=l.findIdx g
 | [],_=>rfl
 |x::l,h=>by rw[List.findIdx_cons,List.findIdx_cons,h x (by simp),GN (fun y hy=>h y (by simp[hy]))]
section
variable (t:Trick)
theorem zfp {n:Nat}(h1:1<=n){pre post:List (Option (List ByteArray))}{done:List Scene}{c:Scene}(hd:SAll n done)(hc:SceneOk n c)(hn:c∉done)(F:Scene->Bool):
 (bif YR (((pre++some ((done.filter F).map keyB)::post).getD pre.length none).getD []) (keyB c)then(((pre++some ((done.filter F).map keyB)::post).getD pre.length none).getD [])else(((pre++some ((done.filter F).map keyB)::post).getD pre.length none).getD [])++[keyB c])=(done.filter F).map keyB++[keyB c]:=by
 have hg:((pre++some ((done.filter F).map keyB)::post).getD pre.length none)=some ((done.filter F).map keyB):=by simp[List.getD]
 rw[hg]
 show(bif YR ((done.filter F).map keyB) (keyB c)then _ else _)=_
 have hs:SAll n (done.filter F):=fun d hd2=>hd d (List.mem_filter.1 hd2).1
 rw[KK (fun d hd2=>GC h1 (hs d hd2)) (GC h1 hc),zgv (fun h=>hn (List.mem_filter.1 h).1)]
 rfl
end
theorem Ek (t:Trick){n:Nat}(h1n:1<=n)(hn:n<=12)(a1:t.1.length<=maxLen)(ai:Ins t.1)(a2:t.2.1.length<=12)(hlen:n=t.1.length)(V:List (List Scene))(hV:LevOk n t.2.1 V)(i:Nat)(L:List Scene)(Lr:List (List Scene))(hL:V.drop i=L::Lr)
 (K:Ev (fun k=>fw k V t.1 t.2.1 t.2.2.1 t.2.2.2.1 t.2.2.2.2 (List.replicate i none++rowM (zz t) (t.2.1.drop i) (L::Lr)) ((i:Int)-1)) (rowM (zz t) t.2.1 V)):
 ∀(r:List Scene) (j:Nat) (done:List Scene),L.drop j=r->L.take j=done->
  Ev (fun k=>xW k V L (L.length:Int) (j:Int) t.1 t.2.1 t.2.2.1 t.2.2.2.1 t.2.2.2.2 (List.replicate i none++some ((done.filter (canF (zz t) (t.2.1.drop i))).map keyB)::rowM (zz t) (t.2.1.drop (i+1)) Lr) (i:Int)) (rowM (zz t) t.2.1 V):=by
 have hVl:=hV.len
 have hi:i<V.length:=by
  rcases Nat.lt_or_ge i V.length with h|h
  ·exact h
  ·rw[List.drop_of_length_le h]at hL;cases hL
 have hdr:=LevOk.drop i (by omega) hV
 rw[hL]at hdr
 obtain⟨ho,hnd,hl3⟩:=hdr.head
 have hLr:Lr=V.drop (i+1):=by rw[<-List.drop_drop,hL];rfl
 have hMl:∀x:Option (List ByteArray),(List.replicate i none++x::rowM (zz t) (t.2.1.drop (i+1)) Lr).length=V.length:=fun x=>by
  rw[zgA,List.length_replicate,zgB,MT,hLr,zgR];omega
 have hwl:IntKind.i64.wrap ((V.length:Int)-1)=(V.length:Int)-1:=ze (by omega) (by omega)
 intro r
 induction r with
 |nil=>
  intro j done h hd
  have a:=zu h
  have hall:done=L:=by rw[<-hd];exact zgT a.ge
  refine ES (fun k=>Vr k ..) (EN a.g ?_)
  rw[show IntKind.i64.wrap ((i:Int)-(1:Int))=(i:Int)-1 from ze (by omega) (by omega),hall]
  have e:rowM (zz t) (t.2.1.drop i) (L::Lr)=some ((L.filter (canF (zz t) (t.2.1.drop i))).map keyB)::rowM (zz t) (t.2.1.drop (i+1)) Lr:=by
   show _::rowM (zz t) ((t.2.1.drop i).drop 1) Lr=_
   rw[List.drop_drop]
  rw[e]at K
  exact K
 |cons c r ih=>
  intro j done h hd
  have a:=zh h (by rw[zc];omega)
  have hlt:=a.lt
  have hc:=ho c a.mem
  have hg:L[j]=c:=by have:=a.gt (([],0):Scene);simpa[List.getD,hlt]using this
  have hdo:SAll n done:=fun d hd2=>ho d (List.mem_of_mem_take (hd▸hd2))
  have hcn:c∉done:=by
   intro hm
   rw[<-hd]at hm
   obtain⟨q,hq,hq2⟩:=List.mem_take_iff_getElem.1 hm
   have hql:q<j:=by omega
   exact List.pairwise_iff_getElem.1 hnd q j (by omega) hlt hql (hq2.trans hg.symm)
  have hnext:L.take (j+1)=done++[c]:=by rw[List.take_add_one,hd,zgD hlt,hg];rfl
  have ih2:=ih (j+1) (done++[c]) a.next hnext
  have lenI:((List.replicate i none:List (Option (List ByteArray))).length)=i:=List.length_replicate
  have pk:=zfp h1n (pre:=List.replicate i none) (post:=rowM (zz t) (t.2.1.drop (i+1)) Lr) hdo hc hcn (canF (zz t) (t.2.1.drop i))
  rw[lenI]at pk
  have hset:∀x y:Option (List ByteArray),(List.replicate i none++x::rowM (zz t) (t.2.1.drop (i+1)) Lr).set i y=List.replicate i none++y::rowM (zz t) (t.2.1.drop (i+1)) Lr:=fun x y=>by
   rw[List.set_append_right _ _ (by simp)];simp
  have hgs:∀l:List ByteArray,((List.replicate i none++some l::rowM (zz t) (t.2.1.drop (i+1)) Lr).getD i none).isSome=true:=fun l=>by simp[List.getD]
  have add:canF (zz t) (t.2.1.drop i) c=true->Ev (fun k=>(YW k c).bind fun y=>xW k V L (L.length:Int) ((j+1:Nat):Int) t.1 t.2.1 t.2.2.1 t.2.2.2.1 t.2.2.2.2 ((List.replicate i none++some ((done.filter (canF (zz t) (t.2.1.drop i))).map keyB)::rowM (zz t) (t.2.1.drop (i+1)) Lr).set i (some (bif YR (((List.replicate i none++some ((done.filter (canF (zz t) (t.2.1.drop i))).map keyB)::rowM (zz t) (t.2.1.drop (i+1)) Lr).getD i none).getD []) y then(((List.replicate i none++some ((done.filter (canF (zz t) (t.2.1.drop i))).map keyB)::rowM (zz t) (t.2.1.drop (i+1)) Lr).getD i none).getD [])else(((List.replicate i none++some ((done.filter (canF (zz t) (t.2.1.drop i))).map keyB)::rowM (zz t) (t.2.1.drop (i+1)) Lr).getD i none).getD [])++[y]))) (i:Int)) (rowM (zz t) t.2.1 V):=fun hF=>by
   refine EB (zcG hn hc) ?_
   rw[pk,hset]
   have:(done++[c]).filter (canF (zz t) (t.2.1.drop i))=done.filter (canF (zz t) (t.2.1.drop i))++[c]:=by rw[List.filter_append,List.filter_cons_of_pos hF];rfl
   rw[this,List.map_append]at ih2
   exact ih2
  have skip:canF (zz t) (t.2.1.drop i) c=false->Ev (fun k=>xW k V L (L.length:Int) ((j+1:Nat):Int) t.1 t.2.1 t.2.2.1 t.2.2.2.1 t.2.2.2.2 (List.replicate i none++some ((done.filter (canF (zz t) (t.2.1.drop i))).map keyB)::rowM (zz t) (t.2.1.drop (i+1)) Lr) (i:Int)) (rowM (zz t) t.2.1 V):=fun hF=>by
   have:(done++[c]).filter (canF (zz t) (t.2.1.drop i))=done.filter (canF (zz t) (t.2.1.drop i)):=by rw[List.filter_append,List.filter_cons_of_neg (by rw[hF];simp)];simp
   rw[this]at ih2
   exact ih2
  have hml:=hMl (some ((done.filter (canF (zz t) (t.2.1.drop i))).map keyB))
  refine ES (fun k=>Vr k ..) ?_
  simp only[a.g,a.z,a.n,a.get,a.gt,a.w,hwl,zgJ,zgy]
  have gets:∀ {f:Nat->Option (List (Option (List ByteArray)))} {z:List (Option (List ByteArray))},Ev f z->Ev (fun k=>bif decide ((0:Int)<=(i:Int))then bif decide ((i:Int)<((List.replicate i none++some ((done.filter (canF (zz t) (t.2.1.drop i))).map keyB)::rowM (zz t) (t.2.1.drop (i+1)) Lr).length:Int))then bif decide (i<(List.replicate i none++some ((done.filter (canF (zz t) (t.2.1.drop i))).map keyB)::rowM (zz t) (t.2.1.drop (i+1)) Lr).length)then bif((List.replicate i none++some ((done.filter (canF (zz t) (t.2.1.drop i))).map keyB)::rowM (zz t) (t.2.1.drop (i+1)) Lr).getD i none).isSome then bif decide ((0:Int)<=(i:Int))then bif decide ((i:Int)<((List.replicate i none++some ((done.filter (canF (zz t) (t.2.1.drop i))).map keyB)::rowM (zz t) (t.2.1.drop (i+1)) Lr).length:Int))then bif Nat.beq i i then f k else none else none else none else none else none else none else none) z:=fun h=>
   EY (by simp) (EY (by rw[hml];simp;omega) (EY (by rw[hml];simp;omega) (EY (hgs _) (EY (by simp) (EY (by rw[hml];simp;omega) (EY (by simp) h))))))
  refine EI (fun hl=> ?_) (fun hl=> ?_)
  ·have hil:i+1=V.length:=by simp at hl;omega
   have hdi:t.2.1.drop i=[]:=by rw[List.drop_eq_nil_iff];omega
   have hF:canF (zz t) (t.2.1.drop i) c= !Yc t c:=by rw[hdi];rfl
   refine EB (VP t c a1 ai (by rw[zc];omega) (by rw[hc.len,zc];omega) (zR hc.ok)) (EI (fun hb=> ?_) (fun hb=> ?_))
   ·exact gets (add (hF.trans hb))
   ·exact skip (hF.trans hb)
  ·have hil:i+1<V.length:=by
    have:¬(i:Int)=(V.length:Int)-1:=by simpa using hl
    omega
   have his:i<t.2.1.length:=by omega
   cases hLr2:Lr with
   |nil=>rw[hLr]at hLr2;have:=List.drop_eq_nil_iff.1 hLr2;omega
   |cons L2 Lq=>
    have hds:t.2.1.drop i=t.2.1[i]::t.2.1.drop (i+1):=List.drop_eq_getElem_cons his
    have hgd:∀d,t.2.1.getD i d=t.2.1[i]:=fun d=>by simp[List.getD,his]
    rw[hLr2,hds]at hdr
    have hso:=hdr.2.1
    have hno:=fR hc hso
    have hnl:=(YQ hc hso).2
    have hany:=AS h1n (zz t) hdr (M:=List.replicate i none++some ((done.filter (canF (zz t) (t.2.1.drop i))).map keyB)::rowM (zz t) (t.2.1.drop (i+1)) Lr) (i:=i) (by
     rw[List.drop_append,List.length_replicate,List.drop_of_length_le (by simp),show i+1-i=1 by omega,hLr2];rfl) a.mem
    have hF:canF (zz t) (t.2.1.drop i) c=(zw c t.2.1[i]).any (Zj (List.replicate i none++some ((done.filter (canF (zz t) (t.2.1.drop i))).map keyB)::rowM (zz t) (t.2.1.drop (i+1)) Lr) i):=by
     conv=>lhs;rw[hds]
     exact(JZ hany).symm
    refine EY (by simp) (EY (by simp;omega) ?_)
    simp only[hgd]
    refine EB (jI hc hso) (EB (zbz hn _ (by omega) hno _ i (by rw[<-hLr2,hml];omega) (by rw[<-hLr2,hml];omega)) ?_)
    rw[<-hLr2]
    refine EI (fun hb=> ?_) (fun hb=> ?_)
    ·exact gets (add (hF.trans hb))
    ·exact skip (hF.trans hb)
theorem Qo (t:Trick){n:Nat}(h1n:1<=n)(hn:n<=12)(a1:t.1.length<=maxLen)(ai:Ins t.1)(a2:t.2.1.length<=12)(hlen:n=t.1.length)(V:List (List Scene))(hV:LevOk n t.2.1 V):∀(i:Nat),i<=V.length->
 Ev (fun k=>fw k V t.1 t.2.1 t.2.2.1 t.2.2.2.1 t.2.2.2.2 (List.replicate i none++rowM (zz t) (t.2.1.drop i) (V.drop i)) ((i:Int)-1)) (rowM (zz t) t.2.1 V)
 |0,_=>by
  refine ES (fun k=>Vs k ..) (EN (zgv (by omega)) (EZ ?_))
  simp
 |i+1,hi=>by
  have ih:=Qo t h1n hn a1 ai a2 hlen V hV i (by omega)
  have hVl:=hV.len
  cases hL:V.drop i with
  |nil=>rw[List.drop_eq_nil_iff]at hL;omega
  |cons L Lr=>
   rw[hL]at ih
   have hLr:V.drop (i+1)=Lr:=by rw[<-List.drop_drop,hL];rfl
   have hVi:V[i]'(by omega)=L:=by
    have:=List.drop_eq_getElem_cons (l:=V) (i:=i) (by omega)
    rw[hL]at this
    exact(List.cons.inj this).1.symm
   have hg:V.getD i []=L:=by rw[List.getD,zgD (by omega),hVi];rfl
   have key:=Ek t h1n hn a1 ai a2 hlen V hV i L Lr hL ih L 0 [] rfl rfl
   have hxl:(List.replicate (i+1) (none:Option (List ByteArray))++rowM (zz t) (t.2.1.drop (i+1)) (V.drop (i+1))).length=V.length:=by
    rw[zgA,List.length_replicate,MT,zgR];omega
   have hset:(List.replicate (i+1) (none:Option (List ByteArray))++rowM (zz t) (t.2.1.drop (i+1)) (V.drop (i+1))).set i (some [])=List.replicate i none++some ((([]:List Scene).filter (canF (zz t) (t.2.1.drop i))).map keyB)::rowM (zz t) (t.2.1.drop (i+1)) Lr:=by
    rw[hLr,List.replicate_succ',zgU,List.set_append_right _ _ (by simp)]
    simp
   have ei:(((i+1:Nat):Int)-1)=(i:Int):=by omega
   rw[ei]
   refine ES (fun k=>Vs k ..) ?_
   simp only[zgy,hset,hg]
   exact EY (zgu (by omega)) (EY (zgu (by omega)) (EY (zgu (by omega)) (EY (zgu (by omega)) (EY (zgu (by omega)) (EY (zgu (by omega)) key)))))
theorem Cf (t:Trick){n:Nat}(h1n:1<=n)(hn:n<=12)(a1:t.1.length<=maxLen)(ai:Ins t.1)(a2:t.2.1.length<=12)(hlen:n=t.1.length)(V:List (List Scene))(hV:LevOk n t.2.1 V):Ev (fun k=>K9 k (t,V)) (rowM (zz t) t.2.1 V):=by
 have hVl:=hV.len
 have h:=Qo t h1n hn a1 ai a2 hlen V hV V.length (zgC _)
 have e:List.replicate V.length (none:Option (List ByteArray))++rowM (zz t) (t.2.1.drop V.length) (V.drop V.length)=List.replicate V.length none:=by
  rw[List.drop_of_length_le (zgC V.length)];simp[rowM]
 rw[e]at h
 refine ES (fun k=>Cg k t V) (EY (by simp) (EY (zgu (by rw[za];omega)) (EY (by simp) ?_)))
 rw[ze (by omega) (by omega),zgy]
 exact h
theorem zbf {F G:Scene->Bool}{i:Nat}{r:List Scene}(h:∀x∈r,F x=G x):idxF F i r=idxF G i r:=by unfold idxF;rw[JZ h,GN h]
theorem N1 (t:Trick){n:Nat}(h1n:1<=n)(hn:n<=12)(a2:t.2.1.length<=12)(V:List (List Scene))(hV:LevOk n t.2.1 V)(z1 z2 z3:Int):∀(r:List z6) (i:Nat) (c:Scene) (ps:List Int),t.2.1.drop i=r->(∃L Lr,V.drop i=L::Lr/\c∈L)->canF (zz t) r c=true->ps.length<=i->
 Ev (fun k=>w5 k t.2.1 (t.2.1.length:Int) (i:Int) z1 z2 c.1 c.2 (rowM (zz t) t.2.1 V) 2 z3 ps) (Cu (some (firstW (zz t) r (c,ps))))
 | [],i,c,ps,h,hc,hF,hp=>by
   have a:=zu h
   obtain⟨L,Lr,hL,hcL⟩:=hc
   have hVl:=hV.len
   have hi:i<V.length:=by
    rcases Nat.lt_or_ge i V.length with h|h
    ·exact h
    ·rw[List.drop_of_length_le h]at hL;cases hL
   have hdr:=LevOk.drop i (by omega) hV
   rw[hL]at hdr
   have hco:=hdr.head.1 c hcL
   refine ES (fun k=>bS k ..) (EN a.g (EB (ES (fun k=>To k (c.1,c.2)) (EB (yz c.1 (by rw[hco.len];omega)) (EP _))) (EZ rfl)))
 |s::r,i,c,ps,h,hc,hF,hp=>by
  have a:=zh h (by rw[zc];omega)
  have hlt:=a.lt
  obtain⟨L,Lr,hL,hcL⟩:=hc
  have hVl:=hV.len
  have hdr:=LevOk.drop i (by omega) hV
  rw[hL,h]at hdr
  cases Lr with
  |nil=>exact hdr.elim
  |cons L2 Lq=>
   have hco:=hdr.head.1 c hcL
   have hso:=hdr.2.1
   have hno:=fR hco hso
   have hnl:=(YQ hco hso).2
   have hV2:V.drop (i+1)=L2::Lq:=by rw[<-List.drop_drop,hL];rfl
   have hany:=AS h1n (zz t) hdr (M:=rowM (zz t) t.2.1 V) (i:=i) (by rw[DG,hV2,a.next]) hcL
   have hml:=MT (zz t) t.2.1 V
   have hidx:idxF (Zj (rowM (zz t) t.2.1 V) i) 0 (zw c s)=(((zw c s).findIdx (canF (zz t) r):Nat):Int):=by
    rw[zbf hany]
    unfold idxF
    rw[zgG (show(zw c s).any (canF (zz t) r)=true from hF),Nat.zero_add]
   obtain⟨x,hx,hxF⟩:=List.any_eq_true.1 hF
   have hil:(zw c s).findIdx (canF (zz t) r)<(zw c s).length:=List.findIdx_lt_length_of_exists ⟨x,hx,hxF⟩
   have hilI:(((zw c s).findIdx (canF (zz t) r):Nat):Int)<((zw c s).length:Int):=by omega
   have hget:(zw c s).getD ((zw c s).findIdx (canF (zz t) r)) ([],0)=(zw c s)[(zw c s).findIdx (canF (zz t) r)]:=by rw[List.getD,zgD hil];rfl
   have hd2:(zw c s).getD ((zw c s).findIdx (canF (zz t) r)) ([],0)∈zw c s:=by rw[hget];exact zg2 hil
   have hdF:canF (zz t) r ((zw c s).getD ((zw c s).findIdx (canF (zz t) r)) ([],0))=true:=by rw[hget];exact List.findIdx_getElem (w:=hil)
   have ih:=fun ps hps=>N1 t h1n hn a2 V hV z1 z2 z3 r (i+1) ((zw c s).getD ((zw c s).findIdx (canF (zz t) r)) ([],0)) ps a.next ⟨L2,Lq,hV2,hdr.2.2.1 c hcL _ hd2⟩ hdF hps
   refine ES (fun k=>bS k ..) ?_
   simp only[a.g,a.z,a.get,a.w,zgJ]
   have eidx:Ev (fun k=>yb k (zw c s,(rowM (zz t) t.2.1 V,(i:Int)))) (idxF (Zj (rowM (zz t) t.2.1 V) i) 0 (zw c s)):=
    ES (fun k=>wj k ..) (D7 hn (zw c s) (by omega) hno (rowM (zz t) t.2.1 V) i (by rw[hml];omega) (by rw[hml];omega) (zw c s) 0 rfl)
   rw[hidx]at eidx
   refine EB (jI hco hso) (EB eidx ?_)
   simp only[zgy]
   refine EI (fun h2=> ?_) (fun h2=> ?_)
   ·have e2:s.1=2:=by simpa using h2
    refine EY (zgu (by rw[za];simp;omega)) (EY (zgu (by omega)) (EY (zgu hilI) (EY (zgu hil) ?_)))
    have:=ih (ps++[(((zw c s).findIdx (canF (zz t) r):Nat):Int)]) (by simp;omega)
    have es:G6 (canF (zz t) r) s (c,ps)=((zw c s).getD ((zw c s).findIdx (canF (zz t) r)) ([],0),ps++[(((zw c s).findIdx (canF (zz t) r):Nat):Int)]):=by
     unfold G6
     dsimp only
     rw[zgG e2]
    show Ev _ (Cu (some (firstW (zz t) r (G6 (canF (zz t) r) s (c,ps)))))
    rw[es]
    exact this
   ·have e2:¬s.1=2:=by simpa using h2
    refine EY (zgu (by omega)) (EY (zgu hilI) (EY (zgu hil) ?_))
    have:=ih ps (by omega)
    have es:G6 (canF (zz t) r) s (c,ps)=((zw c s).getD ((zw c s).findIdx (canF (zz t) r)) ([],0),ps):=by
     unfold G6
     dsimp only
     rw[zgH e2]
    show Ev _ (Cu (some (firstW (zz t) r (G6 (canF (zz t) r) s (c,ps)))))
    rw[es]
    exact this
theorem D8 (t:Trick){n:Nat}(hn:n<=12)(a1:t.1.length<=maxLen)(ai:Ins t.1)(a2:t.2.1.length<=12)(l:List Scene)(hl:l.length<=16384)(ho:SAll n l):∀(r:List Scene) (i:Nat),l.drop i=r->
 Ev (fun k=>zC k l t.1 t.2.1 t.2.2.1 t.2.2.2.1 t.2.2.2.2 (l.length:Int) (i:Int)) (idxF (zz t) i r)
 | [],i,h=>ES (fun k=>yv k ..) (EN (zu h).g (EZ rfl))
 |x::r,i,h=>by
  have a:=zh h (by rw[zc];omega)
  have hx:=ho x a.mem
  refine ES (fun k=>yv k ..) ?_
  simp only[a.g,a.z,a.get,a.w,zgJ]
  rw[K4]
  have e1:Ev (fun k=>Zs k (x,t)) (zz t x):=ES (fun k=>PY k x t) (EB (VP t x a1 ai (by rw[zc];omega) (by rw[hx.len,zc];omega) (zR hx.ok)) (EZ rfl))
  refine EB e1 (EI (fun h1=>EZ ?_) (fun h1=> ?_))
  ·rw[zgG h1]
  ·rw[zgH (by rw[h1];simp)];exact D8 t hn a1 ai a2 l hl ho r (i+1) a.next
theorem VT (t:Trick)(a1:t.1.length<=maxLen)(ai:Ins t.1)(a2:t.2.1.length<=maxLen):Ev (fun k=>aS k t) (wA t):=by
 refine ES (fun k=>JB k t) (EB (xX t a1 ai a2) (EI (fun h=>EZ ?_) (fun h=> ?_)))
 ·have:zi t=false:=by simpa using h
  simp[wA,this]
 ·have e:zi t=true:=by simpa using h
  obtain⟨h12,h1n,hn,hp⟩:=zk e
  have hs:=yT e
  obtain⟨q1,q2⟩:=FQ t.2.1 (yQ t)
  have hst:(yQ t).map Prod.fst=[(t.1,-1)]:=rfl
  rw[hst]at q1 q2
  refine EB (K1 t e a1 ai a2) ?_
  unfold wA fE
  rw[zgG e]
  cases hL:levU t.2.1 [(t.1,-1)]with
  |none=>
   rw[hL]at q1
   cases hE:bV t.2.1 (yQ t)with
   |some A=>rw[hE]at q1;cases q1
   |none=>exact EY rfl (EP _)
  |some V=>
   rw[hL]at q1
   cases hE:bV t.2.1 (yQ t)with
   |none=>rw[hE]at q1;cases q1
   |some A=>
    rw[hE]at q1
    have hlast:V.getLastD []=A.map Prod.fst:=Option.some.inj q1
    obtain⟨hV,Q,hQ⟩:=zcC t.2.1 [(t.1,-1)] V hs.2 (E0 e) (by simp) (by simp) hL
    have hVl:=hV.len
    have hA3:=Xh _ _ A (by simp[yQ]) hE
    have hAo:=UB t.2.1 (yQ t) A hs.2 (cI e) hE
    have hAS:SAll t.1.length (A.map Prod.fst):=fun c hc=>by
     obtain⟨d,hd,rfl⟩:=zgY.1 hc
     exact hAo d hd
    have hlst:V.getD (V.length-1) []=A.map Prod.fst:=by
     rw[<-hlast]
     cases V with
     |nil=>simp at hVl
     |cons a L=>rw[List.getLastD_cons,List.getD,<-List.getLast?_eq_getElem?,List.getLast?_cons];simp[List.getLastD_eq_getLast?]
    have ew:IntKind.i64.wrap ((V.length:Int)-1)=((V.length-1:Nat):Int):=by rw[ze (by omega) (by omega)];omega
    have h0:V.getD 0 []=[(t.1,-1)]:=by rw[hQ];rfl
    have hbad:∀w∈A,(!jT t w.1)=zz t w.1:=fun w hw=>by
     have harr:=ED e w.1 (by
      unfold x4 fE
      rw[zgG e,hE]
      exact List.mem_map_of_mem hw)
     unfold zz Yc
     rw[e,harr];rfl
    have hfind:A.find? (fun w=> !jT t w.1)=A.find? (fun w=>zz t w.1):=by
     have:∀(l:List Way),(∀w∈l,(!jT t w.1)=zz t w.1)->l.find? (fun w=> !jT t w.1)=l.find? (fun w=>zz t w.1):=by
      intro l
      induction l with
      |nil=>intro _;rfl
      |cons w l ih=>intro h;rw[List.find?_cons,List.find?_cons,h w (by simp),ih (fun u hu=>h u (by simp[hu]))]
     exact this A hbad
    have hef:=Cx (zz t) t.2.1 (yQ t) A hE
    have hany:(A.map Prod.fst).any (zz t)=canF (zz t) t.2.1 (t.1,-1):=by
     have h1:(A.map Prod.fst).any (zz t)=(A.find? (fun w=>zz t w.1)).isSome:=by
      rw[List.any_map,Bool.eq_iff_iff,List.find?_isSome,List.any_eq_true]
      rfl
     rw[h1,hef]
     show(((yQ t).find? (fun w=>canF (zz t) t.2.1 w.1)).map (firstW (zz t) t.2.1)).isSome=_
     unfold yQ
     rw[List.find?_cons]
     cases canF (zz t) t.2.1 (t.1,-1)<;>rfl
    simp only[outU,List.nil_append,ew,zgy,h0,hlst]
    refine EN rfl (EY (zgu (by omega)) (EY (zgu (by omega)) (EY (by simp) (EY (zgu (by omega)) (EY (zgu (by omega)) (EY (zgu (by omega)) ?_))))))
    have hcont:Ev (fun k=>zV k (A.map Prod.fst,t)) ((A.map Prod.fst).any (zz t)):=
     ES (fun k=>xQ k ..) (EB (ES (fun k=>wk k ..) (D8 t hn a1 ai h12 (A.map Prod.fst) (by rw[zgN];omega) hAS _ 0 rfl)) (EZ (zcN _ _ _)))
    refine EB hcont ?_
    rw[hany,hfind,hef]
    cases hF:canF (zz t) t.2.1 (t.1,-1)with
    |false=>
     have:(yQ t).find? (fun w=>canF (zz t) t.2.1 w.1)=none:=by unfold yQ;rw[List.find?_cons,hF];rfl
     rw[this]
     exact EY rfl (EP _)
    |true=>
     have:(yQ t).find? (fun w=>canF (zz t) t.2.1 w.1)=some ((t.1,-1),[]):=by unfold yQ;rw[List.find?_cons,hF]
     rw[this]
     refine EN rfl (EB (Cf t h1n hn a1 ai h12 rfl V hV) ?_)
     exact N1 t h1n hn h12 V hV 0 0 0 t.2.1 0 (t.1,-1) [] rfl ⟨[(t.1,-1)],Q,by rw[hQ];rfl,by simp⟩ hF (by simp)
theorem J1 (s:z6)(w:List Int):∀(r:List Scene) (j:Nat) (acc:List Way) (c:Way),c∈addP s w j r acc->c∈acc\/∃i,∃h:i<r.length,c=(r[i],if s.1=2 then w++[((j+i:Nat):Int)]else w)
 | [],_,acc,c,h=> .inl h
 |x::r,j,acc,c,h=>by
  unfold addP at h
  split at h
  ·rcases J1 s w r (j+1) acc c h with h|⟨i,hi,e⟩
   ·exact .inl h
   ·exact .inr ⟨i+1,by simpa using hi,by rw[e,show j+1+i=j+(i+1) by omega];rfl⟩
  ·rcases J1 s w r (j+1) _ c h with h|⟨i,hi,e⟩
   ·rcases zgz.1 h with h|h
    ·exact .inl h
    ·exact .inr ⟨0,by simp,by simpa using h⟩
   ·exact .inr ⟨i+1,by simpa using hi,by rw[e,show j+1+i=j+(i+1) by omega];rfl⟩
theorem Eh (s:z6):∀(l acc:List Way) (c:Way),c∈goP s l acc->c∈acc\/∃d∈l,∃i,∃h:i<(zw d.1 s).length,c=((zw d.1 s)[i],if s.1=2 then d.2++[(i:Int)]else d.2)
 | [],acc,c,h=> .inl h
 |d::r,acc,c,h=>by
  unfold goP at h
  rcases Eh s r _ c h with h|⟨d',hd',i,hi,e⟩
  ·rcases J1 s d.2 (zw d.1 s) 0 acc c h with h|⟨i,hi,e⟩
   ·exact .inl h
   ·exact .inr ⟨d,by simp,i,hi,by rw[e,Nat.zero_add]⟩
  ·exact .inr ⟨d',by simp[hd'],i,hi,e⟩
theorem zec {n:Nat}{c:Scene}{s:z6}(hs:zS (n:Int) s=true)(h:¬s.1=2):(zw c s).length=1:=by
 obtain⟨h1,h2,hk⟩:=uD hs
 unfold zw
 rcases hk with⟨e,m⟩|⟨e,c0,c4,c3,c2⟩|⟨e,a0,an⟩
 ·rw[zgG e];rfl
 ·exact absurd e h
 ·rw[zgH (by omega),zgG e];rfl
theorem Cz {n:Nat}:∀(r:List z6) (l A:List Way),(∀s∈r,zS (n:Int) s=true)->bV r l=some A->∀w∈A,∃c∈l,∃ps,w.2=c.2++ps/\ps.length=countK (·==2) r/\runL r c.1 ps=(w.1.1,w.1.2,true)
 | [],l,A,hs,h,w,hw=>by cases h;exact⟨w,hw,[],by simp,rfl,rfl⟩
 |s::r,l,A,hs,h,w,hw=>by
  rw[uZ]at h
  split at h
  ·obtain⟨c,hc,ps,e1,e2,e3⟩:=Cz r _ A (fun q hq=>hs q (by simp[hq])) h w hw
   rcases Eh s l [] c hc with hc|⟨d,hd,i,hi,e⟩
   ·cases hc
   ·have ec:c.1=(zw d.1 s).getD i ([],0):=by rw[e,List.getD,zgD hi];rfl
    refine⟨d,hd, ?_⟩
    by_cases h2:s.1=2
    ·rw[zgG h2]at e
     refine⟨(i:Int)::ps,by rw[e1,e];simp,by rw[gq,zgG (by simp[h2])];simp;omega, ?_⟩
     unfold runL
     simp only[zgG h2,zg0,List.drop_succ_cons,List.drop_zero,zgy]
     rw[zgG (by omega),<-ec]
     exact e3
    ·rw[zgH h2]at e
     have h1:=zec (c:=d.1) (hs s (by simp)) h2
     have hi0:i=0:=by omega
     subst hi0
     refine⟨ps,by rw[e1,e],by rw[gq,zgH (by simp[h2])];omega, ?_⟩
     unfold runL
     simp only[zgH h2,Int.toNat_zero]
     rw[zgG (by omega),<-ec]
     exact e3
  ·cases h
theorem zex {t:Trick}(h:zi t=true){A:List Way}(hA:fE t=some A){w:Way}(hw:w∈A):xr t w.2=(w.1.1,w.1.2,true):=by
 have hs:=yT h
 obtain⟨c,hc,ps,e1,e2,e3⟩:=Cz t.2.1 (yQ t) A hs.2 hA w hw
 have ec:c=((t.1,-1),[]):=by simpa[yQ]using hc
 subst ec
 have e1:w.2=ps:=by simpa using e1
 unfold xr
 rw[zgG ⟨h,by unfold xb;rw[zgG h,e1,e2]⟩,e1]
 exact e3
inductive Told (t:Trick):Prop
 |no (h:zi t=false) (e:wA t=(0,[],[],0,false))
 |many (h:zi t=true) (ha:fE t=none) (e:wA t=(3,[],[],0,true))
 |all (h:zi t=true) (A:List Way) (ha:fE t=some A) (hh:∀w∈A,jT t w.1=true) (e:wA t=(1,[],[],0,true))
 |fails (h:zi t=true) (A:List Way) (ha:fE t=some A) (w:Way) (hw:w∈A) (hb:jT t w.1=false) (hr:xr t w.2=(w.1.1,w.1.2,true)) (e:wA t=(2,w.2,w.1.1,w.1.2,true))
theorem told (t:Trick):Told t:=by
 cases h:zi t with
 |false=>exact .no h (by unfold wA;rw[h];rfl)
 |true=>
  cases ha:fE t with
  |none=>exact .many h ha (by unfold wA;rw[h,ha];rfl)
  |some A=>
   have ec:wA t=Cu (A.find? (fun w=> !jT t w.1)):=by unfold wA;rw[h,ha];rfl
   cases hf:A.find? (fun w=> !jT t w.1)with
   |none=>
    refine .all h A ha (fun w hw=> ?_) (by rw[ec,hf];rfl)
    have:=List.find?_eq_none.1 hf w hw
    simpa using this
   |some w=>
    have hw:=List.mem_of_find?_eq_some hf
    have hb:=List.find?_some hf
    exact .fails h A ha w hw (by simpa using hb) (zex h ha hw) (by rw[ec,hf];rfl)
def vp (t:Trick):Bool:=(wA t).1==1
theorem ul {t:Trick}(h:vp t=true):zi t=true/\∃A,fE t=some A/\∀w∈A,jT t w.1=true:=by
 unfold vp at h
 rcases told t with⟨h1,e⟩|⟨h1,ha,e⟩|⟨h1,A,ha,hh,e⟩|⟨h1,A,ha,w,hw,hb,hr,e⟩
 ·rw[e]at h;cases h
 ·rw[e]at h;cases h
 ·exact⟨h1,A,ha,hh⟩
 ·rw[e]at h;cases h
theorem Cy:∀(r:List z6) (l A:List Way) (m:Nat),SF m l->bV r l=some A->SF (m+r.length) A
 | [],l,A,m,h,e=>by cases e;exact h
 |s::r,l,A,m,h,e=>by
  rw[uZ]at e
  split at e
  ·have:=Cy r _ A (m+1) (zcX l [] h (fun c hc=>by cases hc)) e
   rw[show m+(s::r).length=m+1+r.length by simp;omega]
   exact this
  ·cases e
theorem zbE (t:Trick):(wA t).2.1.length<=12/\(wA t).2.2.1.length<=12:=by
 unfold wA
 split
 ·rename_i h
  cases hE:fE t with
  |none=>exact⟨by simp,by simp⟩
  |some A=>
   obtain⟨h1,h2,h3,h4⟩:=zk h
   have hs:=yT h
   have hw:=Cy t.2.1 (yQ t) A 0 (H8 t) hE
   have ho:=UB t.2.1 (yQ t) A hs.2 (cI h) hE
   show(Cu (A.find? (fun w=> !jT t w.1))).2.1.length<=12/\(Cu (A.find? (fun w=> !jT t w.1))).2.2.1.length<=12
   cases hf:A.find? (fun w=> !jT t w.1)with
   |none=>exact⟨Nat.zero_le _,Nat.zero_le _⟩
   |some w=>
    have hm:=List.mem_of_find?_eq_some hf
    exact⟨by have:=hw w hm;show w.2.length<=12;omega,by show w.1.1.length<=12;rw[(ho w hm).len];exact h3⟩
 ·exact⟨by simp,by simp⟩
def jN (t:Trick):Int:=if(x4 t).2=true then((x4 t).1.length:Int)else-1
theorem Hu (t:Trick)(a1:t.1.length<=maxLen)(a2:t.2.1.length<=maxLen):Ev (fun k=>Sa k t) (jN t):=by
 refine ES (fun k=>Hv k t) (EB (Hw t a1 a2) (EI (fun h=>EZ ?_) (fun h=>EZ ?_)))
 ·unfold jN;rw[zgH (by simpa using h)]
 ·unfold jN;rw[zgG (by simpa using h)]
structure KL (l:Packs):Prop where
 ne:l≠[]
 len:l.length<=3000
 ss:SS l
 arr:∃p,zp p=true/\1<=p.length/\∀q∈l,Pm q p
theorem KL.ok {l:Packs}(h:KL l){q:List Int}(hq:q∈l):zp q=true/\1<=q.length/\q.length<=12:=by
 obtain⟨p,h1,h2,h3⟩:=h.arr
 obtain⟨k1,k2⟩:=YO h1 (h3 q hq)
 exact⟨k1,by omega,(yn k1).2.2⟩
theorem j8 (n:Nat)(hn:1<=n)(hm:n<=12):∀(d i:Nat),i+d=n->Ev (fun k=>gF k (n:Int) (i:Int) (upTo i)) (upTo n)
 |0,i,h=>by
  have e:i=n:=by omega
  subst e
  refine ES (fun k=>ZE k ..) ?_
  rw[JY (by omega)]
  refine EN rfl (EY ?_ (EP _))
  have:(upTo i).length=i:=by simp[upTo]
  cases hx:upTo i with
  |nil=>rw[hx]at this;simp at this;omega
  |cons=>rfl
 |d+1,i,h=>by
  have u:=Ag (n:=(n:Int)) (i:=i) (by omega) (by omega)
  refine ES (fun k=>ZE k ..) ?_
  simp only[u.g,u.w,zgJ]
  refine EY (by rw[za];simp[upTo];omega) ?_
  have:=j8 n hn hm d (i+1) (by omega)
  have e:upTo (i+1)=upTo i++[(i:Int)]:=by simp[upTo,List.range_succ]
  rw[e]at this
  exact this
theorem WZ:Ev (fun k=>uI k 4) (upTo 4):=by
 refine ES (fun k=>U3 k _) (EB (z8 _ _ _) (EN rfl ?_))
 exact j8 4 (by omega) (by omega) 4 0 rfl
theorem Jp:Ev (fun k=>Su k 4) (upTo 4):=by
 refine ES (fun k=>HP k _) (EN rfl (EN rfl (EB (RU 4 (by omega)) (EP _))))
abbrev Con:Type:=List Int×List Step×Int×Int×Int×List Int×Int
def con0:Con:=(upTo 4,[],0,0,0,upTo 4,-1)
theorem L3:Ev (fun k=>W2 k ()) con0:=
 ES (fun k=>L4 k) (EB WZ (EB WZ (EP _)))
theorem Jq:Ev (fun k=>VF k ()) con0:=by
 refine ES (fun k=>Jr k) (EB Jp ?_)
 refine EB (cx (upTo 4,[],0,0,0) (by rw[zc];decide) (by unfold upTo;simp[Ins,In];omega) (by rw[zc];decide)) ?_
 exact EZ rfl
theorem HE (t:Trick)(a1:t.1.length<=maxLen)(ai:Ins t.1)(a2:t.2.1.length<=maxLen):Ev (fun k=>Sv k t) (jN t):=by
 refine ES (fun k=>HT k t) (EB (HF t a1 ai a2) (EI (fun h=>EZ ?_) (fun h=>EZ ?_)))
 ·unfold jN;rw[zgH (by simpa using h)]
 ·unfold jN;rw[zgG (by simpa using h)]
theorem CA {n:Nat}:∀(r:List z6) (l A:List Way),(∀s∈r,zS (n:Int) s=true)->V7 n l->(∀c∈l,Ins c.2)->bV r l=some A->∀w∈A,Ins w.2
 | [],l,A,hs,ho,hi,h,w,hw=>by cases h;exact hi w hw
 |s::r,l,A,hs,ho,hi,h,w,hw=>by
  rw[uZ]at h
  split at h
  ·refine CA r _ A (fun q hq=>hs q (by simp[hq])) (zcZ (hs s (by simp)) l [] ho (fun c hc=>by cases hc)) (fun c hc=> ?_) h w hw
   rcases Eh s l [] c hc with hc|⟨d,hd,i,hlt,e⟩
   ·cases hc
   ·rw[e]
    have h2:=(YQ (ho d hd) (hs s (by simp))).2
    split
    ·intro x hx
     rcases zgz.1 hx with hx|hx
     ·exact hi d hd x hx
     ·have:x=(i:Int):=by simpa using hx
      rw[this];unfold In;omega
    ·exact hi d hd
  ·cases h
def uC (t:Trick):ByteArray:=
 if(wA t).1=1 then(T6++yk (jN t))++T24 else
 if(wA t).1=2 then((T3++xz (wA t).2.1)++T19)++gW ((wA t).2.2.1,(wA t).2.2.2.1)else
 if(wA t).1=3 then T33 else T0
theorem fF (t:Trick):In (jN t):=by
 unfold jN
 have:=(EC t).1
 split
 ·unfold In;omega
 ·unfold In;decide
theorem f9 {xs:List Int}(h:xs.length<=12)(hi:Ins xs):(xz xs).size<=264:=by
 unfold xz
 split
 ·decide
 ·have:=Uq (B:=21) (S:=1) (⟨#[44]⟩:ByteArray) (by decide) (xs.map yk) (x9 hi)
  rw[zgN]at this
  rw[xe,zj]
  omega
theorem gA (c:Scene):(gW c).size<=2028:=by
 unfold gW
 have sp:=xF c.1
 split
 ·split
  ·rename_i h
   exact xn (xn sp (n:=7) (by decide)) (zN c.2 (by unfold In;omega))
  ·omega
 ·decide
theorem Mj (xs:List Int)(hm:xs.length<=1048576)(hi:Ins xs):Ev (fun k=>YJ k xs) (xz xs):=
 ES (fun k=>Mk k xs) (bf xs hm hi xs 0 rfl)
theorem G5 {t:Trick}{c:Int}{ps p:List Int}{n:Int}{ok:Bool}(e:wA t=(c,ps,p,n,ok)):ps.length<=12/\p.length<=12:=by
 have:=zbE t
 rw[e]at this
 exact this
theorem JI {t:Trick}(h:zi t=true){A:List Way}(ha:fE t=some A){w:Way}(hw:w∈A):Ins w.2/\Ins w.1.1:=by
 have hs:=yT h
 refine⟨CA t.2.1 (yQ t) A hs.2 (cI h) (fun c hc=> ?_) ha w hw,zR (UB t.2.1 (yQ t) A hs.2 (cI h) ha w hw).ok⟩
 have e:c=((t.1,-1),[]):=by simpa[yQ]using hc
 rw[e];intro x hx;cases hx
theorem Mv (t:Trick)(a1:t.1.length<=maxLen)(ai:Ins t.1)(a2:t.2.1.length<=maxLen):Ev (fun k=>YZ k t) (uC t):=by
 unfold uC
 refine ES (fun k=>Mw k t) (EB (VT t a1 ai a2) ?_)
 have hci:=zN _ (fF t)
 rcases told t with⟨h1,e⟩|⟨h1,ha,e⟩|⟨h1,A,ha,hh,e⟩|⟨h1,A,ha,w,hw,hb,hr,e⟩
 ·rw[e];exact EN rfl (EN rfl (EN rfl (EP _)))
 ·rw[e];exact EN rfl (EN rfl (EY rfl (EP _)))
 ·rw[e]
  exact EY rfl (EB (HE t a1 ai a2) (EB (yf _ (fF t)) (EY (vq (m:=10) (by decide) hci (by decide)) (EY (vq (n:=5) (xn (m:=10) (by decide) hci) (by decide) (by decide)) (EP _)))))
 ·obtain⟨f1,f2⟩:=G5 e
  obtain⟨i1,i2⟩:=JI h1 ha hw
  have hp:=f9 f1 i1
  have hs:=gA (w.1.1,w.1.2)
  rw[e]
  exact EN rfl (EY rfl (EB (XW w.2 (by omega) i1) (EY (vq (m:=10) (by decide) hp (by decide)) (EY (vq (n:=3) (xn (m:=10) (by decide) hp) (by decide) (by decide)) (EB (Tq (w.1.1,w.1.2) (by show w.1.1.length<=_;rw[zc];omega) i2) (EY (vq (xn (n:=3) (xn (m:=10) (by decide) hp) (by decide)) hs (by decide)) (EP _)))))))
theorem Mb (t:Trick)(a1:t.1.length<=maxLen)(a2:t.2.1.length<=maxLen):Ev (fun k=>Yw k t) (uC t):=by
 unfold uC
 refine ES (fun k=>Mc k t) (EB (Vd t a1 a2) ?_)
 have hci:=zN _ (fF t)
 rcases told t with⟨h1,e⟩|⟨h1,ha,e⟩|⟨h1,A,ha,hh,e⟩|⟨h1,A,ha,w,hw,hb,hr,e⟩
 ·rw[e];exact EY rfl (EP _)
 ·rw[e];exact EN rfl (EN rfl (EN rfl (EP _)))
 ·rw[e]
  exact EN rfl (EY rfl (EB (Hu t a1 a2) (EB (zY _ (fF t)) (EY (vq (m:=10) (by decide) hci (by decide)) (EY (vq (n:=5) (xn (m:=10) (by decide) hci) (by decide) (by decide)) (EP _))))))
 ·obtain⟨f1,f2⟩:=G5 e
  obtain⟨i1,i2⟩:=JI h1 ha hw
  have hp:=f9 f1 i1
  have hs:=gA (w.1.1,w.1.2)
  rw[e]
  exact EN rfl (EN rfl (EY rfl (EB (Mj w.2 (by omega) i1) (EY (vq (m:=10) (by decide) hp (by decide)) (EY (vq (n:=3) (xn (m:=10) (by decide) hp) (by decide) (by decide)) (EB (Zb (w.1.1,w.1.2) (by show w.1.1.length<=_;rw[zc];omega)) (EY (vq (xn (n:=3) (xn (m:=10) (by decide) hp) (by decide)) hs (by decide)) (EP _))))))))
theorem Hf (xs:List Step)(hm:xs.length<=1048576):Ev (fun k=>uG k xs) xs:=by
 refine ES (fun k=>X6 k xs) (EI (fun h=> ?_) (fun h=> ?_))
 ·exact EY (by rw[za];simp;omega) (EZ (by simp))
 ·have:xs=[]:=by simpa using h
  subst this
  exact Ev.both (EP _) (EY (by simp) (EZ rfl))
theorem fG (t:Trick)(h1:t.1.length<=1048576)(h2:t.2.1.length<=1048576):Ev (fun k=>uK k t) t:=
 ES (fun k=>HI k t) (EB (yz _ h1) (EB (Hf _ h2) (EP _)))
def ue (t:Trick)(i:Nat):Trick:=(t.1,t.2.1.take i++t.2.1.drop (i+1),t.2.2)
def withB (t:Trick)(b:Bool):List Int×List Step×Int×Int×Int×Bool:=(t.1,t.2.1,t.2.2.1,t.2.2.2.1,t.2.2.2.2,b)
def noTrick:List Int×List Step×Int×Int×Int×Bool:=([],[],0,0,0,false)
def dropStep (t:Trick)(i:Int):List Int×List Step×Int×Int×Int×Bool:=
 if zi t&&(decide (0<=i)&&(decide (i<(t.2.1.length:Int))&&zi (ue t i.toNat)))then withB (ue t i.toNat) true else noTrick
theorem CG (t:Trick)(i:Nat):(ue t i).2.1.length<=t.2.1.length:=by simp[ue];omega
theorem HZ (xs:List Step)(i:Nat)(hi:i<xs.length)(hm:xs.length<=1048576):Ev (fun k=>vZ k (xs,(i:Int),((i+1:Nat):Int))) (xs.take i++xs.drop (i+1)):=by
 refine Ev.congr (fun k=>Yk k xs _ _) ?_
 show Ev (fun _=>deleteF (xs,(i:Int),((i+1:Nat):Int))) _
 unfold deleteF
 refine EY ?_ (EZ ?_)
 ·simp only[zgx,zgI];omega
 ·simp
theorem GA (t:Trick)(i:Nat)(h1:t.1.length<=1048576)(h2:t.2.1.length<=1048576)(hi:i<t.2.1.length):Ev (fun k=>S9 k (t,(i:Int))) (ue t i):=by
 refine ES (fun k=>Db k t _) ?_
 have w:IntKind.i64.wrap ((i:Int)+1)=((i+1:Nat):Int):=by rw[ze (by omega) (by omega)];simp
 simp only[w]
 refine EY (by rw[za];simp;omega) (EY (by simp) (EY (by simp;omega) (EY (by rw[za];simp;omega) (EY (by simp;omega) (EY (by simp;omega) (EY (by simp) (EY (by rw[za];simp;omega) (EZ ?_))))))))
 simp[ue]
theorem FA (t:Trick)(i:Int)(a1:t.1.length<=1048576)(a2:t.2.1.length<=1048576)(hi:In i):Ev (fun k=>Pi k (t,i)) (dropStep t i):=by
 unfold dropStep
 refine ES (fun k=>FB k t i) (EB (wC t (by rw[zc];omega) (by rw[zc];omega)) (EI (fun h=>EZ ?_) (fun h=> ?_)))
 ·have:zi t=false:=by simpa using h
  simp[this,noTrick]
 ·have ht:zi t=true:=by simpa using h
  rw[ze (by omega) (by omega)]
  refine EB (z8 _ _ _) (EI (fun h=>EZ ?_) (fun h=> ?_))
  ·have:¬(0<=i/\i<(t.2.1.length:Int)):=fun hh=>by
    simp at h;omega
   rw[zgH]
   ·rfl
   ·simp;intro _ h1 h2;omega
  ·have hb:0<=i/\i<(t.2.1.length:Int):=by simp at h;omega
   obtain⟨n,rfl⟩:=Int.eq_ofNat_of_zero_le hb.1
   have hn:n<t.2.1.length:=by omega
   have hl:=CG t n
   refine EB (GA t n a1 a2 hn) (EB (wC (ue t n) (by show t.1.length<=_;rw[zc];omega) (by rw[zc];omega)) (EI (fun h=>EZ ?_) (fun h=>EZ ?_)))
   ·have:zi (ue t n)=false:=by simpa using h
    simp[this,noTrick]
   ·have:zi (ue t n)=true:=by simpa using h
    simp[this,ht,hn,withB]
theorem Qh (t:Trick)(i:Int)(a1:t.1.length<=1048576)(ai:Ins t.1)(a2:t.2.1.length<=1048576)(hi:In i):Ev (fun k=>Uv k (t,i)) (dropStep t i):=by
 unfold dropStep
 refine ES (fun k=>Ed k t i) (EB (xX t (by rw[zc];omega) ai (by rw[zc];omega)) (EI (fun h=>EZ ?_) (fun h=> ?_)))
 ·have:zi t=false:=by simpa using h
  simp[this,noTrick]
 ·have ht:zi t=true:=by simpa using h
  refine EI (fun h=>EZ ?_) (fun h=>EI (fun h2=>EZ ?_) (fun h2=> ?_))
  ·have:¬0<=i:=by simpa using h
   simp[this,noTrick]
  ·have:¬i<(t.2.1.length:Int):=by simpa using h2
   simp[this,noTrick]
  ·have hb:0<=i/\i<(t.2.1.length:Int):=by simp at h h2;omega
   obtain⟨n,rfl⟩:=Int.eq_ofNat_of_zero_le hb.1
   have hn:n<t.2.1.length:=by omega
   have hl:=CG t n
   rw[show IntKind.i64.wrap ((n:Int)+1)=((n+1:Nat):Int) by rw[ze (by omega) (by omega)];simp]
   refine EB (fG t a1 a2) (EB (HZ t.2.1 n hn a2) (EB (xX (ue t n) (by show t.1.length<=_;rw[zc];omega) ai (by rw[zc];omega)) (EI (fun h=>EZ ?_) (fun h=>EZ ?_))))
   ·have:zi (ue t n)=false:=by simpa using h
    simp[this,noTrick]
   ·have:zi (ue t n)=true:=by simpa using h
    rw[zgG (by simp[ht,hn,this])]
    rfl
abbrev stepZ:Step:=(0,(0,0),0)
def Mr (t:Trick)(i:Nat):Bool:= !((t.2.1.getD i stepZ).1==1&&vp (ue t i))
def UP:Nat->Trick->Nat->Trick
 |0,t,_=>t
 |f+1,t,i=>if i<t.2.1.length then(if Mr t i=true then UP f t (i+1)else UP f (ue t i) 0)else t
def meas (t:Trick)(i:Nat):Nat:=t.2.1.length*15+(t.2.1.length-i)
theorem VW {t:Trick}{i:Nat}(h:i<t.2.1.length):(ue t i).2.1.length+1=t.2.1.length:=by simp[ue];omega
theorem JK {t:Trick}{i:Nat}(h:i<t.2.1.length)(b:Int->Bool):countK b t.2.1=countK b (ue t i).2.1+(if b (t.2.1.getD i stepZ).1 then 1 else 0):=by
 have e:t.2.1=t.2.1.take i++t.2.1[i]::t.2.1.drop (i+1):=by rw[<-List.drop_eq_getElem_cons h,List.take_append_drop]
 have g:t.2.1.getD i stepZ=t.2.1[i]:=by rw[List.getD,zgD h];rfl
 rw[g]
 conv=>lhs;rw[e]
 unfold countK ue
 rw[List.countP_append,List.countP_append,List.countP_cons]
 omega
structure Short (t s:Trick):Prop where
 holds:vp s=true
 start:s.1=t.1
 rest:s.2.2=t.2.2
 choices:countK (·==2) s.2.1=countK (·==2) t.2.1
 moves:countK (·==1) s.2.1<=countK (·==1) t.2.1
 all:∀j<s.2.1.length,Mr s j=true
theorem Short.trans {t u s:Trick}(h:Short u s)(h1:u.1=t.1)(h2:u.2.2=t.2.2)(h3:countK (·==2) u.2.1=countK (·==2) t.2.1)(h4:countK (·==1) u.2.1<=countK (·==1) t.2.1):Short t s:=
 ⟨h.holds,h.start.trans h1,h.rest.trans h2,h.choices.trans h3,zg1 h.moves h4,h.all⟩
theorem Lz:∀(f:Nat) (t:Trick) (i:Nat),t.2.1.length<=12->meas t i<=f->vp t=true->(∀j<i,Mr t j=true)->Short t (UP f t i)
 |0,t,i,hl,hm,hh,hn=>by
  have h0:t.2.1.length=0:=by unfold meas at hm;omega
  exact⟨hh,rfl,rfl,rfl,zgC _,fun j hj=>by
   have hj:j<t.2.1.length:=hj
   omega⟩
 |f+1,t,i,hl,hm,hh,hn=>by
  unfold UP
  by_cases h:i<t.2.1.length
  ·rw[zgG h]
   by_cases hb:Mr t i=true
   ·rw[zgG hb]
    refine Lz f t (i+1) hl (by unfold meas at hm⊢;omega) hh (fun j hj=> ?_)
    rcases Nat.lt_or_ge j i with h1|h1
    ·exact hn j h1
    ·have:j=i:=by omega
     rw[this];exact hb
   ·rw[zgH hb]
    have hk:(t.2.1.getD i stepZ).1=1/\vp (ue t i)=true:=by
     unfold Mr at hb
     simpa using hb
    have hd:=VW h
    have h2:=JK h (·==2)
    have h1:=JK h (·==1)
    rw[hk.1]at h1 h2
    have r:=Lz f (ue t i) 0 (by omega) (by unfold meas at hm⊢;omega) hk.2 (fun j hj=>by omega)
    exact r.trans rfl rfl (by simpa using h2.symm) (by omega)
  ·rw[zgH h]
   exact⟨hh,rfl,rfl,rfl,zgC _,fun j hj=>hn j (by omega)⟩
def isNeeded (t:Trick)(i:Int):Bool:=vp t&&(decide (0<=i)&&(decide (i<(t.2.1.length:Int))&&Mr t i.toNat))
def yU (t:Trick):List Int×List Step×Int×Int×Int×Bool:=if vp t=true then withB (UP 200 t 0) true else noTrick
theorem GJ (t:Trick)(a1:t.1.length<=maxLen)(ai:Ins t.1)(a2:t.2.1.length<=maxLen):Ev (fun k=>F4 k t) (vp t):=
 ES (fun k=>zbk k t) (EB (VT t a1 ai a2) (EP _))
theorem BU (t:Trick):((wA t).2.2.2.2&&(wA t).1==1)=vp t:=by
 unfold vp
 rcases told t with⟨h1,e⟩|⟨h1,ha,e⟩|⟨h1,A,ha,hh,e⟩|⟨h1,A,ha,w,hw,hb,hr,e⟩<;>rw[e]<;>rfl
theorem Yp (t:Trick)(a1:t.1.length<=maxLen)(a2:t.2.1.length<=maxLen):Ev (fun k=>ZA k t) (vp t):=by
 refine ES (fun k=>Fg k t) (EB (Vd t a1 a2) ?_)
 rw[<-BU]
 exact EI (fun h=>EZ (by rw[h];rfl)) (fun h=>EZ (by rw[h];rfl))
theorem SA {t:Trick}{i:Nat}(ht:zi t=true)(h:i<t.2.1.length):dropStep t (i:Int)=if zi (ue t i)=true then withB (ue t i) true else noTrick:=by
 unfold dropStep
 have h1:decide ((0:Int)<=(i:Int))=true:=by simp
 have h2:decide ((i:Int)<(t.2.1.length:Int))=true:=by simp[h]
 rw[ht,h1,h2,zgy];rfl
theorem Cs {t:Trick}(h:¬zi t=true):vp t=false:=by
 cases hh:vp t with
 |false=>rfl
 |true=>exact absurd (ul hh).1 h
theorem zeD {t:Trick}{i:Nat}(h:zi (ue t i)=true)(ai:Ins t.1):(ue t i).1.length<=maxLen/\Ins (ue t i).1/\(ue t i).2.1.length<=maxLen:=by
 have:=zk h
 exact⟨by rw[zc];omega,ai,by rw[zc];omega⟩
theorem F1 (t:Trick)(i:Nat)(ht:zi t=true)(hi:i<t.2.1.length):Ev (fun k=>PE k (t,(i:Int))) (Mr t i):=by
 obtain⟨l1,l2,l3,hp⟩:=zk ht
 have ai:=zR hp
 have e:=Qh t (i:Int) (by omega) ai (by omega) (by unfold In;omega)
 rw[SA ht hi]at e
 refine ES (fun k=>F3 k t (i:Int)) (EB e ?_)
 have g:t.2.1.getD (i:Int).toNat stepZ=t.2.1.getD i stepZ:=by rw[zgy]
 unfold Mr
 refine EY (by simp) (EY (by simp[hi]) ?_)
 rw[zgy]
 refine EI (fun h=>EZ ?_) (fun h=> ?_)
 ·have h:¬(t.2.1.getD i stepZ).1=1:=by simpa using h
  rw[beq_eq_false_iff_ne.2 h];rfl
 ·have h:(t.2.1.getD i stepZ).1=1:=by simpa using h
  rw[h]
  by_cases hd:zi (ue t i)=true
  ·obtain⟨d1,d2,d3⟩:=zeD hd ai
   rw[zgG hd]
   exact EN rfl (EB (GJ (ue t i) d1 d2 d3) (EZ (by simp)))
  ·rw[zgH hd,Cs hd]
   exact EY rfl (EZ rfl)
theorem Fx (t:Trick)(i:Int)(a1:t.1.length<=1048576)(a2:t.2.1.length<=1048576)(hi:In i):Ev (fun k=>Pe k (t,i)) (isNeeded t i):=by
 unfold isNeeded
 refine ES (fun k=>Fy k t i) (EB (Yp t (by rw[zc];omega) (by rw[zc];omega)) (EI (fun h=>EZ ?_) (fun h=> ?_)))
 ·have h:vp t=false:=by simpa using h
  rw[h];rfl
 ·have h:vp t=true:=by simpa using h
  have ht:=(ul h).1
  rw[h,Bool.true_and,ze (by omega) (by omega)]
  refine EB (z8 _ _ _) (EI (fun h=>EZ ?_) (fun h=> ?_))
  ·have:¬(0<=i/\i<(t.2.1.length:Int)):=fun hh=>by
    simp at h;omega
   by_cases h0:0<=i
   ·rw[zgv (p:=i<(t.2.1.length:Int)) (fun h1=>this ⟨h0,h1⟩)];simp
   ·rw[zgv h0];rfl
  ·have hb:0<=i/\i<(t.2.1.length:Int):=by simp at h;omega
   obtain⟨n,rfl⟩:=Int.eq_ofNat_of_zero_le hb.1
   have hn:n<t.2.1.length:=by omega
   rw[zgu hb.1,zgu hb.2,Bool.true_and,Bool.true_and,zgy]
   unfold Mr
   refine EY (by simp) (EY (by simp[hn]) ?_)
   refine EI (fun h=>EZ ?_) (fun h=> ?_)
   ·have h:¬(t.2.1.getD n stepZ).1=1:=by simpa using h
    rw[beq_eq_false_iff_ne.2 h];rfl
   ·have h:(t.2.1.getD n stepZ).1=1:=by simpa using h
    rw[h]
    have e:=FA t (n:Int) a1 a2 hi
    rw[SA ht hn]at e
    refine EB e ?_
    by_cases hd:zi (ue t n)=true
    ·have hl:=zk hd
     rw[zgG hd]
     exact EN rfl (EB (Yp (ue t n) (by rw[zc];omega) (by rw[zc];omega)) (EZ (by simp)))
    ·rw[zgH hd,Cs hd]
     exact EY rfl (EZ rfl)
theorem DW {t:Trick}{i:Nat}(h:¬Mr t i=true):(t.2.1.getD i stepZ).1=1/\vp (ue t i)=true:=by
 unfold Mr at h
 simpa using h
theorem Py (z1 z2 z3:Int):∀(f:Nat) (t:Trick) (i:Nat),t.2.1.length<=12->meas t i<=f->vp t=true->Ev (fun k=>wx k (i:Int) z1 z2 z3 t.2.2.1 t.2.2.2.1 t.2.2.2.2 t.1 t.2.1) (withB (UP f t i) true)
 |0,t,i,hl,hm,hh=>by
  have h0:t.2.1.length=0:=by unfold meas at hm;omega
  exact ES (fun k=>eH k ..) (EN (zgv (by omega)) (EP _))
 |f+1,t,i,hl,hm,hh=>by
  refine ES (fun k=>eH k ..) ?_
  unfold UP
  by_cases h:i<t.2.1.length
  ·rw[zgG h]
   have ht:=(ul hh).1
   obtain⟨l1,l2,l3,hp⟩:=zk ht
   refine EY (zgu (by omega)) (EB (F1 t i ht h) (EI (fun hb=> ?_) (fun hb=> ?_)))
   ·rw[zgG hb,show IntKind.i64.wrap ((i:Int)+1)=((i+1:Nat):Int) by rw[ze (by omega) (by omega)];simp]
    exact Py z1 z2 z3 f t (i+1) hl (by unfold meas at hm⊢;omega) hh
   ·rw[zgH (by rw[hb];simp)]
    obtain⟨hk,hd⟩:=DW (by rw[hb];simp)
    have e:=Qh t (i:Int) (by omega) (zR hp) (by omega) (by unfold In;omega)
    rw[SA ht h,zgG (ul hd).1]at e
    have hdl:=VW h
    exact EB e (Py z1 z2 z3 f (ue t i) 0 (by omega) (by unfold meas at hm⊢;omega) hd)
  ·rw[zgH h]
   exact EN (zgv (by omega)) (EP _)
theorem BM {t:Trick}{i:Nat}(hh:vp t=true)(h:i<t.2.1.length):isNeeded t (i:Int)=Mr t i:=by
 unfold isNeeded
 have h1:decide ((0:Int)<=(i:Int))=true:=by simp
 have h2:decide ((i:Int)<(t.2.1.length:Int))=true:=by simp[h]
 rw[hh,h1,h2,zgy];rfl
theorem QW (z1 z2 z3:Int):∀(f:Nat) (t:Trick) (i:Nat),t.2.1.length<=12->meas t i<=f->vp t=true->Ev (fun k=>wn k (i:Int) z1 z2 z3 t.2.2.1 t.2.2.2.1 t.2.2.2.2 t.1 t.2.1) (withB (UP f t i) true)
 |0,t,i,hl,hm,hh=>by
  have h0:t.2.1.length=0:=by unfold meas at hm;omega
  exact ES (fun k=>eD k ..) (EN (zgv (by omega)) (EP _))
 |f+1,t,i,hl,hm,hh=>by
  refine ES (fun k=>eD k ..) ?_
  unfold UP
  by_cases h:i<t.2.1.length
  ·rw[zgG h]
   have ht:=(ul hh).1
   obtain⟨l1,l2,l3,hp⟩:=zk ht
   have e0:=Fx t (i:Int) (by omega) (by omega) (by unfold In;omega)
   rw[BM hh h]at e0
   refine EY (zgu (by omega)) (EB e0 (EI (fun hb=> ?_) (fun hb=> ?_)))
   ·rw[zgG hb,show IntKind.i64.wrap ((i:Int)+1)=((i+1:Nat):Int) by rw[ze (by omega) (by omega)];simp]
    exact QW z1 z2 z3 f t (i+1) hl (by unfold meas at hm⊢;omega) hh
   ·rw[zgH (by rw[hb];simp)]
    obtain⟨hk,hd⟩:=DW (by rw[hb];simp)
    have hdl:=VW h
    exact EB (GA t i (by omega) (by omega) h) (QW z1 z2 z3 f (ue t i) 0 (by omega) (by unfold meas at hm⊢;omega) hd)
  ·rw[zgH h]
   exact EN (zgv (by omega)) (EP _)
theorem zcz {t:Trick}(h:t.2.1.length<=12):meas t 0<=200:=by unfold meas;omega
theorem PH (t:Trick)(a1:t.1.length<=1048576)(ai:Ins t.1)(a2:t.2.1.length<=1048576):Ev (fun k=>Zn k t) (yU t):=by
 unfold yU
 refine ES (fun k=>PI k t) (EB (GJ t (by rw[zc];omega) ai (by rw[zc];omega)) (EI (fun h=>EZ ?_) (fun h=> ?_)))
 ·rw[zgH (by simpa using h)];rfl
 ·have h:vp t=true:=by simpa using h
  have hl:=(zk (ul h).1).1
  rw[zgG h]
  exact EB (fG t a1 a2) (Py 0 0 0 200 t 0 hl (zcz hl) h)
theorem Q8 (t:Trick)(a1:t.1.length<=1048576)(a2:t.2.1.length<=1048576):Ev (fun k=>Za k t) (yU t):=by
 unfold yU
 refine ES (fun k=>Q9 k t) (EB (Yp t (by rw[zc];omega) (by rw[zc];omega)) (EI (fun h=>EZ ?_) (fun h=> ?_)))
 ·rw[zgH (by simpa using h)];rfl
 ·have h:vp t=true:=by simpa using h
  have hl:=(zk (ul h).1).1
  rw[zgG h]
  exact EY (by rw[za];simp;omega) (EY (by rw[za];simp;omega) (QW 0 0 0 200 t 0 hl (zcz hl) h))
theorem ef (c a b:Int)(ha:In a)(hb:In b):(uM c a b).size<=60:=by
 have sa:=zN a ha
 have sb:=zN b hb
 unfold uM
 split
 ·decide
 split
 ·exact zg1 (xn (m:=9) (by decide) sa) (by decide)
 split
 ·exact zg1 (xn (m:=3) (by decide) sa) (by decide)
 split
 ·have s1:=xn (a:=T7) (m:=5) (by decide) sa
  have s2:=xn (b:=T16) (n:=4) s1 (by decide)
  exact zg1 (xn s2 sb) (by decide)
 split
 ·decide
 ·decide
def claimB (t:Trick):ByteArray:=T12++uM t.2.2.1 t.2.2.2.1 t.2.2.2.2
def Lt (t:Trick):ByteArray:=T18++zG t.1
def yA (t:Trick):List ByteArray:=if zi t then([Lt t]++t.2.1.map yp)++[claimB t]else []
theorem ak (t:Trick)(hst:t.2.1.length<=12)(ha:In t.2.2.2.1)(hb:In t.2.2.2.2):∀(r:List Step) (i:Nat),t.2.1.drop i=r->
 Ev (fun k=>jh k t.2.1 (t.2.1.length:Int) (i:Int) t.1 t.2.1 t.2.2.1 t.2.2.2.1 t.2.2.2.2 ([Lt t]++(t.2.1.take i).map yp)) (([Lt t]++t.2.1.map yp)++[claimB t])
 | [],i,h=>by
   have q:=zu h
   refine ES (fun k=>al k ..) ?_
   simp only[q.g,zgK]
   rw[zgT q.ge]
   exact EB (Ml t.1 t.2.1 _ _ _ ha hb) (EY (vq (m:=6) (by decide) (ef _ _ _ ha hb) (by decide)) (EY (by rw[za];simp;omega) (EP _)))
 |s::r,i,h=>by
  have q:=zh h (by rw[zc];omega)
  have hlt:=q.lt
  have ih:=ak t hst ha hb r (i+1) q.next
  have e:t.2.1[i]=s:=by have:=q.get (0,((0,0),0));rw[zgy,List.getD,zgD hlt]at this;exact this
  rw[List.take_succ_eq_append_getElem hlt,List.map_append,e,<-zgU]at ih
  refine ES (fun k=>al k ..) ?_
  simp only[q.g,q.z,q.get,q.w,zgJ]
  exact EB (be s) (EY (by rw[za];simp;omega) ih)
theorem aH (t:Trick)(hst:t.2.1.length<=12)(ha:In t.2.2.2.1)(hb:In t.2.2.2.2):∀(r:List Step) (i:Nat),t.2.1.drop i=r->
 Ev (fun k=>jE k t.2.1 (t.2.1.length:Int) (i:Int) t.1 t.2.1 t.2.2.1 t.2.2.2.1 t.2.2.2.2 ([Lt t]++(t.2.1.take i).map yp)) (([Lt t]++t.2.1.map yp)++[claimB t])
 | [],i,h=>by
   have q:=zu h
   refine ES (fun k=>aI k ..) ?_
   simp only[q.g,zgK]
   rw[zgT q.ge]
   exact EB (MH t.1 t.2.1 _ _ _ ha hb) (EY (vq (m:=6) (by decide) (ef _ _ _ ha hb) (by decide)) (EY (by rw[za];simp;omega) (EP _)))
 |s::r,i,h=>by
  have q:=zh h (by rw[zc];omega)
  have hlt:=q.lt
  have ih:=aH t hst ha hb r (i+1) q.next
  have e:t.2.1[i]=s:=by have:=q.get (0,((0,0),0));rw[zgy,List.getD,zgD hlt]at this;exact this
  rw[List.take_succ_eq_append_getElem hlt,List.map_append,e,<-zgU]at ih
  refine ES (fun k=>aI k ..) ?_
  simp only[q.g,q.z,q.get,q.w,zgJ]
  exact EB (VI s) (EY (by rw[za];simp;omega) ih)
theorem LO (t:Trick)(a1:t.1.length<=maxLen)(a2:t.2.1.length<=maxLen)(ha:In t.2.2.2.1)(hb:In t.2.2.2.2):Ev (fun k=>fe k t) (yA t):=by
 unfold yA
 refine ES (fun k=>LP k t) (EB (wC t a1 a2) (EI (fun h=>EZ ?_) (fun h=> ?_)))
 ·have:zi t=false:=by simpa using h
  rw[this];rfl
 ·have e:zi t=true:=by simpa using h
  rw[zgG e]
  have:=ak t (zk e).1 ha hb t.2.1 0 rfl
  rw[List.take_zero,List.map_nil,List.append_nil]at this
  exact EB (ga t.1 a1) (EY (vq (m:=6) (by decide) (xF t.1) (by decide)) this)
theorem Jc (t:Trick)(a1:t.1.length<=maxLen)(ai:Ins t.1)(a2:t.2.1.length<=maxLen)(ha:In t.2.2.2.1)(hb:In t.2.2.2.2):Ev (fun k=>fA k t) (yA t):=by
 unfold yA
 refine ES (fun k=>Jd k t) (EB (xX t a1 ai a2) (EI (fun h=>EZ ?_) (fun h=> ?_)))
 ·have:zi t=false:=by simpa using h
  rw[this];rfl
 ·have e:zi t=true:=by simpa using h
  rw[zgG e]
  have:=aH t (zk e).1 ha hb t.2.1 0 rfl
  rw[List.take_zero,List.map_nil,List.append_nil]at this
  exact EB (Z1 t.1 a1 ai) (EY (vq (m:=6) (by decide) (xF t.1) (by decide)) this)
def cnt (n:Nat)(P:List Bool->Bool):Nat:=(List.range (2 ^ n)).countP fun w=>P (bits n w)
theorem fH {n:Nat}{P Q:List Bool->Bool}(h:∀l,l.length=n->P l=Q l):cnt n P=cnt n Q:=by
 unfold cnt
 exact List.countP_congr (fun w _=>by rw[h _ (cu n w)])
theorem Xl {n:Nat}{P:List Bool->Bool}(h:∀l,l.length=n->P l=false):cnt n P=0:=by
 rw[fH (Q:=fun _=>false) h];simp[cnt]
theorem CS (f:Nat->Bool):∀m,(List.range (2*m)).countP f=(List.range m).countP (fun w=>f (2*w))+(List.range m).countP (fun w=>f (2*w+1))
 |0=>rfl
 |m+1=>by
  have e:2*(m+1)=2*m+1+1:=by omega
  rw[e,List.range_succ,List.range_succ,List.range_succ]
  simp only[List.countP_append,List.countP_singleton,CS f m]
  omega
theorem Eu (n:Nat)(P:List Bool->Bool):cnt (n+1) P=cnt n (fun l=>P (false::l))+cnt n (fun l=>P (true::l)):=by
 unfold cnt
 rw[Nat.pow_succ,Nat.mul_comm,CS]
 have e1:∀w,bits (n+1) (2*w)=false::bits n w:=fun w=>by simp[bits]
 have e2:∀w,bits (n+1) (2*w+1)=true::bits n w:=fun w=>by
  have h1:(2*w+1) % 2=1:=by omega
  have h2:(2*w+1)/2=w:=by omega
  simp[bits,h1,h2]
 simp only[e1,e2]
theorem zag {α:Type}(p q:α->Bool)(h:∀x,p x=true->q x=false):∀l:List α,l.countP (fun x=>p x||q x)=l.countP p+l.countP q
 | []=>rfl
 |x::l=>by
  simp only[List.countP_cons,zag p q h l]
  cases hp:p x with
  |true=>simp[h x hp];omega
  |false=>simp;omega
def binom:Nat->Nat->Nat
 |_,0=>1
 |0,_+1=>0
 |n+1,k+1=>binom n k+binom n (k+1)
theorem Qy:∀m z,cnt m (fun l=>zX l==z)=binom m z
 |0,0=>rfl
 |0,z+1=>by unfold binom;exact Xl (fun l hl=>by
   have:l=[]:=by simpa using hl
   subst this;rfl)
 |m+1,0=>by
  rw[Eu]
  have h1:cnt m (fun l=>zX (false::l)==0)=0:=Xl (fun l _=>by simp[zX])
  have h2:cnt m (fun l=>zX (true::l)==0)=cnt m (fun l=>zX l==0):=fH (fun l _=>by simp[zX])
  rw[h1,h2,Qy m 0];cases m<;>rfl
 |m+1,z+1=>by
  rw[Eu]
  have h1:cnt m (fun l=>zX (false::l)==z+1)=cnt m (fun l=>zX l==z):=fH (fun l _=>by simp[zX])
  have h2:cnt m (fun l=>zX (true::l)==z+1)=cnt m (fun l=>zX l==z+1):=fH (fun l _=>by simp[zX])
  rw[h1,h2,Qy m z,Qy m (z+1)];rfl
def wf (n k q:Nat):Nat->Nat->List Int->Nat
 |a,_,[]=>binom q (k-a)
 |a,b,x::r=>if x=(a:Int)/\a<k then wf n k q (a+1) b r else if x=(b:Int)/\b<n then wf n k q a (b+1) r else 0
theorem zah (n k q:Nat):∀(r:List Int) (a b:Nat),a<=k->k<=b->b<=n->(k-a)+(n-b)=q+r.length->
 cnt (q+r.length) (fun l=>zX l==k-a&&(riff l a b).take r.length==r)=wf n k q a b r
 | [],a,b,h1,h2,h3,h4=>by
   unfold wf
   rw[<-Qy]
   exact fH (fun l _=>by simp)
 |x::r,a,b,h1,h2,h3,h4=>by
  simp only[zgB]at h4
  have e:q+(x::r).length=(q+r.length)+1:=by simp;omega
  rw[e,Eu]
  unfold wf
  by_cases ha:x=(a:Int)/\a<k
  ·rw[zgG ha,<-zah n k q r (a+1) b (by omega) h2 h3 (by omega)]
   have z2:cnt (q+r.length) (fun l=>zX (true::l)==k-a&&(riff (true::l) a b).take (x::r).length==x::r)=0:=Xl (fun l _=>by
    have:¬(b:Int)=x:=by omega
    simp[riff,this])
   rw[z2,Nat.add_zero]
   exact fH (fun l _=>by
    have e1:zX (false::l)=zX l+1:=by simp[zX]
    have e2:(zX l+1==k-a)=(zX l==k-(a+1)):=by rw[Bool.eq_iff_iff];simp;omega
    simp only[e1,e2,riff,zgB,List.take_succ_cons,ha.1]
    rw[Bool.eq_iff_iff];simp)
  ·rw[zgH ha]
   have z1:cnt (q+r.length) (fun l=>zX (false::l)==k-a&&(riff (false::l) a b).take (x::r).length==x::r)=0:=Xl (fun l _=>by
    by_cases hx:x=(a:Int)
    ·have:k-a=0:=by omega
     simp[zX,this]
    ·have:¬(a:Int)=x:=fun e=>hx e.symm
     simp[riff,this])
   rw[z1,Nat.zero_add]
   by_cases hb:x=(b:Int)/\b<n
   ·rw[zgG hb,<-zah n k q r a (b+1) h1 (by omega) (by omega) (by omega)]
    exact fH (fun l _=>by
     have e1:zX (true::l)=zX l:=by simp[zX]
     simp only[e1,riff,zgB,List.take_succ_cons,hb.1]
     rw[Bool.eq_iff_iff];simp)
   ·rw[zgH hb]
    exact Xl (fun l hl=>by
     by_cases hx:x=(b:Int)
     ·have hz:zX l<=l.length:=by have:=zo l;omega
      have:¬zX l=k-a:=by omega
      simp[zX]at this⊢
      simp[this]
     ·have:¬(b:Int)=x:=fun e=>hx e.symm
      simp[riff,this])
def sumK (g:Nat->Nat):Nat->Nat
 |0=>0
 |k+1=>sumK g k+g k
theorem CU (n:Nat)(f:Nat->List Bool->Bool):∀K,cnt n (fun l=>decide (zX l<K)&&f (zX l) l)=sumK (fun k=>cnt n (fun l=>zX l==k&&f k l)) K
 |0=>Xl (fun l _=>by simp)
 |K+1=>by
  unfold sumK
  rw[<-CU n f K]
  unfold cnt
  rw[<-zag]
  ·apply List.countP_congr
   intro w _
   simp only[zgx,zgI,Bool.or_eq_true,beq_iff_eq]
   constructor
   ·rintro⟨h1,h2⟩
    rcases Nat.lt_or_ge (zX (bits n w)) K with h|h
    ·exact .inl ⟨h,h2⟩
    ·have:zX (bits n w)=K:=by omega
     exact .inr ⟨this,this▸h2⟩
   ·rintro(⟨h1,h2⟩|⟨h1,h2⟩)
    ·exact⟨by omega,h2⟩
    ·exact⟨by omega,h1▸h2⟩
  ·intro w hw
   simp only[zgx,zgI]at hw
   have:¬zX (bits n w)=K:=by omega
   simp[this]
def ways (n:Nat)(p:List Int):Nat:=cnt n fun l=>(riff l 0 (zX l)).take p.length==p
theorem zfe (n:Nat)(p:List Int)(hp:p.length<=n):ways n p=sumK (fun k=>wf n k (n-p.length) 0 k p) (n+1):=by
 have h1:ways n p=cnt n (fun l=>decide (zX l<n+1)&&(riff l 0 (zX l)).take p.length==p):=fH (fun l hl=>by
  have:=zo l
  have:zX l<n+1:=by omega
  simp[this])
 rw[h1,CU n (fun k l=>(riff l 0 k).take p.length==p)]
 have key:∀K,K<=n+1->sumK (fun k=>cnt n (fun l=>zX l==k&&(riff l 0 k).take p.length==p)) K=sumK (fun k=>wf n k (n-p.length) 0 k p) K:=by
  intro K
  induction K with
  |zero=>intro _;rfl
  |succ K ih=>
   intro hK
   unfold sumK
   rw[ih (by omega)]
   have:=zah n K (n-p.length) p 0 K (by omega) (by omega) (by omega) (by omega)
   rw[show n-p.length+p.length=n by omega,Nat.sub_zero]at this
   rw[this]
 exact key (n+1) (by omega)
theorem zbH:∀m,m<13->∀i,i<13->m+i+1<=12->binom (m+i) i*(m+(i+1))/(i+1)=binom (m+i+1) (i+1)/\binom (m+i) i<=924/\binom (m+i+1) (i+1)<=924:=by decide
theorem N0 (N K:Nat)(hK:K<=N)(hN:N<=12):∀(d i:Nat),i+d=K->Ev (fun k=>gD k (N:Int) (K:Int) (binom (N-K+i) i:Nat) ((i+1:Nat):Int)) (binom N K:Nat)
 |0,i,h=>by
  refine ES (fun k=>Zz k ..) (EN (by simp;omega) (EZ ?_))
  have:i=K:=by omega
  subst this
  rw[show N-i+i=N by omega]
 |d+1,i,h=>by
  obtain⟨b1,b2,b3⟩:=zbH (N-K) (by omega) i (by omega) (by omega)
  have hb:binom (N-K+i) i*(N-K+(i+1))<=924*12:=Nat.mul_le_mul b2 (by omega)
  refine ES (fun k=>Zz k ..) (EY (by simp;omega) (EY (by simp;omega) ?_))
  have e1:IntKind.i64.wrap ((N:Int)-(K:Int))=((N-K:Nat):Int):=by rw[ze (by omega) (by omega)];omega
  have e2:IntKind.i64.wrap (((N-K:Nat):Int)+((i+1:Nat):Int))=((N-K+(i+1):Nat):Int):=by rw[ze (by omega) (by omega)];simp
  have e3:IntKind.i64.wrap (((binom (N-K+i) i:Nat):Int)*((N-K+(i+1):Nat):Int))=((binom (N-K+i) i*(N-K+(i+1)):Nat):Int):=by
   rw[<-Int.natCast_mul,ze (by omega) (by omega)]
  have e4:IntKind.i64.wrap ((((binom (N-K+i) i*(N-K+(i+1)):Nat):Int)).tdiv ((i+1:Nat):Int))=((binom (N-K+(i+1)) (i+1):Nat):Int):=by
   rw[<-Int.ofNat_tdiv,b1,ze (by omega) (by omega)];rfl
  have e5:IntKind.i64.wrap (((i+1:Nat):Int)+1)=((i+1+1:Nat):Int):=by rw[ze (by omega) (by omega)];simp
  simp only[e1,e2,e3,e4,e5]
  exact N0 N K hK hN d (i+1) (by omega)
theorem zdp (N K:Nat)(hK:K<=N)(hN:N<=12):Ev (fun k=>TU k ((N:Int),(K:Int))) (binom N K:Nat):=by
 refine ES (fun k=>Hm k ..) ?_
 have:=N0 N K hK hN K 0 (by omega)
 simpa[binom]using this
theorem ce (n K:Nat)(p:List Int)(hn:n<=12)(hK:K<=n)(hp:p.length<=n):∀(r:List Int) (i a b:Nat),p.drop i=r->a<=K->K<=b->b<=n->(K-a)+(n-b)=n-p.length+r.length->
 Ev (fun k=>uP k (n:Int) (K:Int) p (a:Int) (b:Int) p (p.length:Int) (i:Int)) (wf n K (n-p.length) a b r:Nat)
 | [],i,a,b,h,h1,h2,h3,h4=>by
   have q:=zu h
   refine ES (fun k=>Wo k ..) ?_
   simp only[q.g,zgK]
   rw[ze (by omega) (by omega),ze (by omega) (by omega)]
   have e1:(n:Int)-(p.length:Int)=((n-p.length:Nat):Int):=by omega
   have e2:(K:Int)-(a:Int)=((K-a:Nat):Int):=by omega
   rw[e1,e2]
   simp only[List.length_nil]at h4
   refine EB (zdp (n-p.length) (K-a) (by omega) (by omega)) (EZ ?_)
   unfold wf;rfl
 |x::r,i,a,b,h,h1,h2,h3,h4=>by
  have q:=zh h (by rw[zc];omega)
  simp only[zgB]at h4
  refine ES (fun k=>Wo k ..) ?_
  simp only[q.g,q.z,q.get,q.gt,q.w,zgJ]
  rw[ze (x:=(a:Int)+1) (by omega) (by omega),ze (x:=(b:Int)+1) (by omega) (by omega)]
  unfold wf
  refine EI (fun c1=>EI (fun c2=> ?_) (fun c2=>EI (fun c3=>EI (fun c4=> ?_) (fun c4=>EZ ?_)) (fun c3=>EZ ?_))) (fun c1=>EI (fun c3=>EI (fun c4=> ?_) (fun c4=>EZ ?_)) (fun c3=>EZ ?_))
  ·have d1:x=(a:Int):=by simpa using c1
   have d2:a<K:=by simpa using c2
   rw[zgG ⟨d1,d2⟩]
   exact ce n K p hn hK hp r (i+1) (a+1) b q.next (by omega) h2 h3 (by omega)
  ·have d1:x=(a:Int):=by simpa using c1
   have d2:¬a<K:=by simpa using c2
   have d3:x=(b:Int):=by simpa using c3
   have d4:b<n:=by simpa using c4
   rw[zgH (fun e=>d2 e.2),zgG ⟨d3,d4⟩]
   exact ce n K p hn hK hp r (i+1) a (b+1) q.next h1 (by omega) (by omega) (by omega)
  ·have d2:¬a<K:=by simpa using c2
   have d4:¬b<n:=by simpa using c4
   rw[zgH (fun e=>d2 e.2),zgH (fun e=>d4 e.2)];rfl
  ·have d2:¬a<K:=by simpa using c2
   have d3:¬x=(b:Int):=by simpa using c3
   rw[zgH (fun e=>d2 e.2),zgH (fun e=>d3 e.1)];rfl
  ·have d1:¬x=(a:Int):=by simpa using c1
   have d3:x=(b:Int):=by simpa using c3
   have d4:b<n:=by simpa using c4
   rw[zgH (fun e=>d1 e.1),zgG ⟨d3,d4⟩]
   exact ce n K p hn hK hp r (i+1) a (b+1) q.next h1 (by omega) (by omega) (by omega)
  ·have d1:¬x=(a:Int):=by simpa using c1
   have d4:¬b<n:=by simpa using c4
   rw[zgH (fun e=>d1 e.1),zgH (fun e=>d4 e.2)];rfl
  ·have d1:¬x=(a:Int):=by simpa using c1
   have d3:¬x=(b:Int):=by simpa using c3
   rw[zgH (fun e=>d1 e.1),zgH (fun e=>d3 e.1)];rfl
theorem zbd (n K:Nat)(p:List Int)(hn:n<=12)(hK:K<=n)(hp:p.length<=n):Ev (fun k=>LI k ((n:Int),(K:Int),p)) (wf n K (n-p.length) 0 K p:Nat):=
 ES (fun k=>Da k ..) (ce n K p hn hK hp p 0 0 K rfl (by omega) (by omega) hK (by omega))
theorem zgk (n K:Nat)(p:List Int)(hn:n<=12)(hK:K<=n)(hp:p.length<=n):wf n K (n-p.length) 0 K p<=4096:=by
 have h1:=zah n K (n-p.length) p 0 K (by omega) (by omega) hK (by omega)
 rw[<-h1]
 unfold cnt
 refine zg1 List.countP_le_length ?_
 rw[List.length_range,show n-p.length+p.length=n by omega]
 exact Nat.pow_le_pow_right (by decide) hn
theorem Xt (n:Nat)(p:List Int)(hn:n<=12)(hp:p.length<=n):∀(d i:Nat),i+d=n+1->sumK (fun k=>wf n k (n-p.length) 0 k p) i<=i*4096->
 Ev (fun k=>eS k (n:Int) p (sumK (fun k=>wf n k (n-p.length) 0 k p) i:Nat) (i:Int)) (sumK (fun k=>wf n k (n-p.length) 0 k p) (n+1):Nat)
 |0,i,h,hb=>by
  refine ES (fun k=>Xu k ..) (EN (by simp;omega) (EZ ?_))
  have:i=n+1:=by omega
  rw[this]
 |d+1,i,h,hb=>by
  have hw:=zgk n i p hn (by omega) hp
  refine ES (fun k=>Xu k ..) (EY (by simp;omega) (EB (zbd n i p hn (by omega) hp) ?_))
  have hi:i*4096<=13*4096:=Nat.mul_le_mul_right _ (by omega)
  rw[ze (x:=(i:Int)+1) (by omega) (by omega),<-Int.natCast_add,ze (by omega) (by omega)]
  have ih:=Xt n p hn hp d (i+1) (by omega) (by unfold sumK;omega)
  simpa[sumK]using ih
theorem Fm (n:Int)(p:List Int)(hm:p.length<=maxLen):Ev (fun k=>Q6 k (n,p)) (if ZR n p then(ways n.toNat p:Nat)else-1):=by
 refine ES (fun k=>Fn k n p) (EB (Ge n p hm) (EI (fun h=>EZ ?_) (fun h=> ?_)))
 ·have:ZR n p=false:=by simpa using h
  rw[this];rfl
 ·have hp:ZR n p=true:=by simpa using h
  obtain⟨h1,h2,h3,h4,h5⟩:=ft hp
  have en:n=((n.toNat:Nat):Int):=by omega
  rw[hp,zgG rfl,zfe _ _ (by omega)]
  have:=Xt n.toNat p (by omega) (by omega) (n.toNat+1) 0 (by omega) (by simp[sumK])
  rw[<-en]at this
  simpa[sumK]using this
theorem zfg (n N:Nat)(hn:n<=12)(hN:2 ^ n=N):IntKind.i64.wrap ((1:Int)*2 ^(min ((n:Int)).toNat IntKind.i64.bits))=(N:Int)/\N<=4096:=by
 have hb:IntKind.i64.bits=64:=by decide
 have h:(2:Nat)^ n<=2 ^ 12:=Nat.pow_le_pow_right (by decide) hn
 rw[hN]at h
 rw[hb,zgy,Nat.min_eq_left (by omega),Int.one_mul]
 have e:((2:Int)^ n)=(N:Int):=by rw[<-hN];norm_cast
 rw[e,ze (by omega) (by omega)]
 exact⟨rfl,h⟩
def wayB (n:Nat)(p:List Int)(w:Nat):Bool:=(riff (bits n w) 0 (zX (bits n w))).take p.length==p
def wh (n:Nat)(p:List Int):List Int:=(List.range n).map fun(x:Nat)=>((ways n (p++[(x:Int)]):Nat):Int)
def yl (n:Int)(p:List Int):List Int:=if ZR n p then(if(p.length:Int)=n then []else wh n.toNat p)else []
theorem MU:∀(l:List Bool) (a b:Nat) (y:Int),y∈riff l a b->((a:Int)<=y/\y<(a:Int)+zX l)\/(b:Int)<=y
 | [],a,b,y,h=>by simp[riff]at h
 |false::l,a,b,y,h=>by
  have hz:zX (false::l)=zX l+1:=by simp[zX]
  rcases zgO.1 (show y∈(a:Int)::riff l (a+1) b from h)with e|h
  ·left;omega
  ·rcases MU l (a+1) b y h with h1|h1
   ·left;omega
   ·right;exact h1
 |true::l,a,b,y,h=>by
  have hz:zX (true::l)=zX l:=by simp[zX]
  rcases zgO.1 (show y∈(b:Int)::riff l a (b+1)from h)with e|h
  ·right;omega
  ·rcases MU l a (b+1) y h with h1|h1
   ·left;omega
   ·right;omega
theorem Pn:∀(l:List Bool) (a b:Nat),a+zX l<=b->(riff l a b).Nodup
 | [],a,b,_=>by simp[riff]
 |false::l,a,b,h=>by
  have hz:zX (false::l)=zX l+1:=by simp[zX]
  show((a:Int)::riff l (a+1) b).Nodup
  refine zgV.2 ⟨fun hm=> ?_,Pn l (a+1) b (by omega)⟩
  rcases MU l (a+1) b _ hm with h1|h1<;>omega
 |true::l,a,b,h=>by
  have hz:zX (true::l)=zX l:=by simp[zX]
  show((b:Int)::riff l a (b+1)).Nodup
  refine zgV.2 ⟨fun hm=> ?_,Pn l a (b+1) (by omega)⟩
  rcases MU l a (b+1) _ hm with h1|h1<;>omega
theorem zat (n:Nat)(p:List Int)(x:Int)(h:x∈p):ways n (p++[x])=0:=by
 refine Xl (fun l _=> ?_)
 rw[Bool.eq_false_iff]
 intro hb
 have e:(riff l 0 (zX l)).take (p++[x]).length=p++[x]:=by simpa using hb
 have hn:=(Pn l 0 (zX l) (by omega)).sublist (List.take_sublist (p++[x]).length _)
 rw[e,zgM]at hn
 exact hn.2.2 x h x (by simp) rfl
theorem FN (n:Nat)(p:List Int)(i:Nat)(h:i<n):(wh n p).take (i+1)=(wh n p).take i++[((ways n (p++[(i:Int)]):Nat):Int)]:=by
 have hl:i<(wh n p).length:=by simp[wh,h]
 rw[List.take_succ_eq_append_getElem hl]
 simp[wh]
theorem aD (n:Nat)(p:List Int):(wh n p).length=n:=by simp[wh]
theorem DK (n x:Int)(h0:0<=x)(h1:x<n):∀(r done:List Int),bq n done r=true->x∉done->x∉r->bq n done (r++[x])=true
 | [],done,_,hd,_=>by
   have:done.contains x=false:=by simpa using hd
   show(decide (0<=x)&&(decide (x<n)&&(!(done.contains x)&&bq n (done++[x]) [])))=true
   rw[this]
   simp[h0,h1,bq]
 |y::r,done,h,hd,hr=>by
  unfold bq at h
  simp only[zgx,zgI]at h
  have hxy:¬x=y:=fun e=>hr (by simp[e])
  have:=DK n x h0 h1 r (done++[y]) h.2.2.2 (by simp[hd,hxy]) (fun hm=>hr (by simp[hm]))
  show(decide (0<=y)&&(decide (y<n)&&(!(done.contains y)&&bq n (done++[y]) (r++[x]))))=true
  simp only[this,h.1,h.2.1,h.2.2.1,decide_true,Bool.and_true]
theorem XD (n:Nat)(p:List Int)(hn:1<=n)(hn2:n<=12)(hp:bq n [] p=true)(hl:p.length<n):∀(d i:Nat),i+d=n->
 Ev (fun k=>jo k (n:Int) p (i:Int) ((wh n p).take i)) (wh n p)
 |0,i,h=>by
  refine ES (fun k=>XE k ..) ?_
  rw[JY (by omega),zgT (by rw[aD];omega)]
  refine EN rfl (EY ?_ (EP _))
  have:(wh n p).length=n:=aD n p
  cases hx:wh n p with
  |nil=>rw[hx]at this;simp at this;omega
  |cons=>rfl
 |d+1,i,h=>by
  have u:=Ag (n:=(n:Int)) (i:=i) (by omega) (by omega)
  have ih:=XD n p hn hn2 hp hl d (i+1) (by omega)
  rw[FN n p i (by omega)]at ih
  refine ES (fun k=>XE k ..) ?_
  have hlt:((wh n p).take i).length<=12:=by rw[zgL,aD];omega
  simp only[u.g,u.w,zgJ]
  refine EB (Vl p (i:Int) (by rw[zc];omega)) (EI (fun c=> ?_) (fun c=> ?_))
  ·refine EY (by rw[za];simp;omega) ?_
   have hm:(i:Int)∈p:=by simpa using c
   rw[zat n p _ hm]at ih
   simpa using ih
  ·have hm:(i:Int)∉p:=by simpa using c
   refine EY (by rw[za];simp;omega) (EY (by rw[za];simp;omega) ?_)
   rw[List.nil_append]
   have hi:=DK n (i:Int) (by omega) (by omega) p [] hp (by simp) hm
   have hpre:ZR (n:Int) (p++[(i:Int)])=true:=by
    have:ZR (n:Int) (p++[(i:Int)])=(decide ((1:Int)<=(n:Int))&&(decide ((n:Int)<=12)&&bq n [] (p++[(i:Int)]))):=rfl
    rw[this,hi];simp;omega
   have hw:=Fm (n:Int) (p++[(i:Int)]) (by rw[zc];simp;omega)
   rw[hpre,zgG rfl,zgy]at hw
   refine EB hw (EY (by rw[za];simp;omega) ih)
theorem Rs (n:Int)(p:List Int)(hm:p.length<=maxLen):Ev (fun k=>Pb k (n,p)) (yl n p):=by
 refine ES (fun k=>Ft k n p) (EB (Ge n p hm) (EI (fun h=>EZ ?_) (fun h=>EI (fun h' =>EZ ?_) (fun h' => ?_))))
 ·have:ZR n p=false:=by simpa using h
  simp[yl,this]
 ·have:(p.length:Int)=n:=by simpa using h'
  simp[yl,this]
 ·have hp:ZR n p=true:=by simpa using h
  have hne:¬(p.length:Int)=n:=by simpa using h'
  obtain⟨h1,h2,h3,h4,h5⟩:=ft hp
  have en:n=((n.toNat:Nat):Int):=by omega
  have hq:bq n [] p=true:=by unfold ZR at hp;simp only[zgx]at hp;exact hp.2.2
  unfold yl
  rw[zgG hp,zgH hne]
  have:=XD n.toNat p (by omega) (by omega) (by rw[<-en];exact hq) (by omega) n.toNat 0 (by omega)
  rw[<-en]at this
  simpa using this
theorem Bw:∀(l:List Bool) (a b:Nat) (y:Int),a+zX l<=b->y∈riff l a b->0<=y/\y<(b:Int)+ones l
 | [],a,b,y,_,h=>by simp[riff]at h
 |false::l,a,b,y,hz,h=>by
  have z1:zX (false::l)=zX l+1:=by simp[zX]
  have z2:ones (false::l)=ones l:=by simp[ones]
  rcases zgO.1 (show y∈(a:Int)::riff l (a+1) b from h)with e|h
  ·omega
  ·have:=Bw l (a+1) b y (by omega) h;omega
 |true::l,a,b,y,hz,h=>by
  have z1:zX (true::l)=zX l:=by simp[zX]
  have z2:ones (true::l)=ones l+1:=by simp[ones]
  rcases zgO.1 (show y∈(b:Int)::riff l a (b+1)from h)with e|h
  ·omega
  ·have:=Bw l a (b+1) y (by omega) h;omega
def rw_ (n w:Nat):List Int:=riff (bits n w) 0 (zX (bits n w))
theorem zci (n w:Nat):(rw_ n w).length=n:=by rw[rw_,MV,cu]
theorem zf8 (n w i:Nat)(h:i<n):∃c:Nat,c<n/\(rw_ n w)[i]? =some (c:Int):=by
 have hl:i<(rw_ n w).length:=by rw[zci];exact h
 have:=Bw (bits n w) 0 (zX (bits n w)) (rw_ n w)[i] (by omega) (zg2 hl)
 have z:=zo (bits n w)
 rw[cu]at z
 refine⟨(rw_ n w)[i].toNat,by omega, ?_⟩
 rw[zgD hl]
 congr 1;omega
theorem Ao (n w:Nat)(p:List Int)(hl:p.length<n)(c:Nat)(hc:(rw_ n w)[p.length]? =some (c:Int))(x:Nat):wayB n (p++[(x:Int)]) w=(wayB n p w&&(x==c)):=by
 have hlt:p.length<(rw_ n w).length:=by rw[zci];exact hl
 have e:(rw_ n w).take (p.length+1)=(rw_ n w).take p.length++[(c:Int)]:=by
  rw[List.take_succ_eq_append_getElem hlt]
  rw[zgD hlt]at hc
  injection hc with hc
  rw[hc]
 show((rw_ n w).take (p++[(x:Int)]).length==p++[(x:Int)])=((rw_ n w).take p.length==p&&(x==c))
 rw[zgA,List.length_singleton,e,Bool.eq_iff_iff]
 simp only[beq_iff_eq,zgx]
 constructor
 ·intro h
  have:=List.append_inj h (by rw[zgL];omega)
  refine⟨this.1, ?_⟩
  have h2:=this.2
  simp at h2;omega
 ·rintro⟨h1,h2⟩
  rw[h1,h2]
def xL (n:Nat)(p:List Int)(i:Nat):List Int:=(List.range n).map fun(x:Nat)=>(((List.range i).countP (wayB n (p++[(x:Int)])):Nat):Int)
theorem fo (n:Nat)(p:List Int)(i:Nat):(xL n p i).length=n:=by simp[xL]
theorem fp (n:Nat)(p:List Int)(i x:Nat)(h:x<n):(xL n p i)[x]? =some (((List.range i).countP (wayB n (p++[(x:Int)])):Nat):Int):=by simp[xL,h]
theorem FK (n:Nat)(p:List Int)(i:Nat)(hl:p.length<n)(c:Nat)(hc:(rw_ n i)[p.length]? =some (c:Int))(hcn:c<n)(hw:wayB n p i=true):(xL n p i).set c ((xL n p i).getD c 0+1)=xL n p (i+1):=by
 apply List.ext_getElem?
 intro x
 rw[List.getElem?_set]
 by_cases hx:x<n
 ·rw[fp n p (i+1) x hx,List.range_succ,List.countP_append,List.countP_singleton,Ao n i p hl c hc x,hw]
  by_cases e:c=x
  ·subst e
   have hg:(xL n p i).getD c 0=(((List.range i).countP (wayB n (p++[(c:Int)])):Nat):Int):=by rw[List.getD,fp n p i c hx];rfl
   rw[zgG rfl,hg,fo,zgG hx]
   simp
  ·have:¬x=c:=fun h=>e h.symm
   simp[e,this,fp n p i x hx]
 ·have h1:¬c=x:=by omega
  rw[zgH h1,List.getElem?_eq_none (by rw[fo];omega),List.getElem?_eq_none (by rw[fo];omega)]
theorem FJ (n:Nat)(p:List Int)(i:Nat)(hl:p.length<n)(hw:wayB n p i=false):xL n p i=xL n p (i+1):=by
 unfold xL
 apply List.map_congr_left
 intro x hx
 obtain⟨c,hcn,hc⟩:=zf8 n i p.length hl
 rw[List.range_succ,List.countP_append,List.countP_singleton,Ao n i p hl c hc x,hw]
 simp
theorem MF (n N:Nat)(p:List Int)(h1:1<=n)(hn:n<=12)(hN:2 ^ n=N)(hp:p.length<n):∀(d i:Nat),i+d=N->
 Ev (fun k=>jH k (n:Int) p (i:Int) (upTo n) (xL n p i)) (wh n p):=by
 obtain⟨hpow,hle⟩:=zfg n N hn hN
 intro d
 induction d with
 |zero=>
  intro i h
  refine ES (fun k=>XU k ..) (EY (by simp) (EN (by rw[hpow];simp;omega) (EY ?_ (EZ ?_))))
  ·have:=fo n p i
   cases hx:xL n p i with
   |nil=>rw[hx]at this;simp at this;omega
   |cons=>rfl
  ·have e:i=N:=by omega
   rw[e,<-hN];rfl
 |succ d ih=>
  intro i h
  obtain⟨c,hcn,hc⟩:=zf8 n i p.length hp
  have hg:∀dd,(rw_ n i).getD p.length dd=(c:Int):=fun dd=>by rw[List.getD,hc];rfl
  refine ES (fun k=>XU k ..) (EY (by simp) (EY (by rw[hpow];simp;omega) (EB (Ca n i hn (by omega)) (EY (by simp) (EY (by rw[MV,cu];simp;omega) ?_)))))
  rw[zgy,List.drop_zero]
  refine EB (aT _ _ (by rw[zgL,zc];omega) (by rw[zc];omega)) ?_
  rw[ze (x:=(i:Int)+1) (by omega) (by omega)]
  have hrw:riff (bits n i) 0 (zX (bits n i))=rw_ n i:=rfl
  rw[hrw,hg 0,zgy]
  have hin:wayB n p i=((rw_ n i).take p.length==p):=rfl
  have ih' :=ih (i+1) (by omega)
  refine EI (fun cc=> ?_) (fun cc=> ?_)
  ·rw[<-hin]at cc
   have hnum:(xL n p i).getD c 0<=i:=by
    rw[List.getD,fp n p i c hcn]
    have:=List.countP_le_length (p:=wayB n (p++[(c:Int)])) (l:=List.range i)
    simp at this⊢;omega
   have hnum2:0<=(xL n p i).getD c 0:=by
    rw[List.getD,fp n p i c hcn];simp
   have L:=fo n p i
   refine EY (by simp) (EY (by rw[zci];simp;omega) (EY (by simp) (EY (by rw[L];simp;omega) (EY (by rw[L];simp;omega) (EY (by simp) (EY (by rw[L];simp;omega) (EY (by rw[L];simp;omega) ?_)))))))
   rw[ze (by omega) (by omega),FK n p i hp c hc hcn cc]
   exact_mod_cast ih'
  ·rw[<-hin]at cc
   rw[FJ n p i hp cc]
   exact_mod_cast ih'
theorem Qb (n:Int)(p:List Int)(hm:p.length<=maxLen):Ev (fun k=>PL k (n,p)) (yl n p):=by
 refine ES (fun k=>Ea k n p) (EB (FY n p hm) (EI (fun h=>EZ ?_) (fun h=>EI (fun h' =>EZ ?_) (fun h' => ?_))))
 ·have:ZR n p=false:=by simpa using h
  simp[yl,this]
 ·have:(p.length:Int)=n:=by simpa using h'
  simp[yl,this]
 ·have hp:ZR n p=true:=by simpa using h
  have hne:¬(p.length:Int)=n:=by simpa using h'
  obtain⟨h1,h2,h3,h4,h5⟩:=ft hp
  have en:n=((n.toNat:Nat):Int):=by omega
  unfold yl
  rw[zgG hp,zgH hne]
  have hu:=RU n.toNat (by omega)
  rw[<-en]at hu
  refine EB hu (EY (by simp;omega) (EY (by rw[za];simp;omega) (EY (by simp) ?_)))
  have:=MF n.toNat _ p (by omega) (by omega) rfl (by omega) (2 ^ n.toNat) 0 (by omega)
  have e0:xL n.toNat p 0=List.replicate n.toNat 0:=by
   apply List.ext_getElem?
   intro x
   simp[xL,List.getElem?_replicate]
   by_cases hx:x<n.toNat
   ·simp[hx];omega
   ·simp[hx];omega
  rw[e0,<-en]at this
  simpa using this
def mx (v y:Int):Int:=bif decide (y>v)then y else v
def maxF (v:Int)(r:List Int):Int:=r.foldl mx v
theorem zed (v y:Int):v<=mx v y/\y<=mx v y/\(mx v y=v\/mx v y=y):=by
 unfold mx
 by_cases h:y>v
 ·simp[h];omega
 ·simp[h];omega
theorem zcA:∀(r:List Int) (v:Int),v<=maxF v r
 | [],v=>by simp[maxF]
 |y::r,v=>by
  have:=zcA r (mx v y)
  have:=zed v y
  show v<=maxF (mx v y) r
  omega
theorem QK (xs:List Int)(hm:xs.length<=maxLen):∀(r:List Int) (i:Nat) (v:Int),xs.drop i=r->Ev (fun k=>vJ k xs v (i:Int)) (maxF v r)
 | [],i,v,h=>by
   have a:=zu h
   refine ES (fun k=>eB k xs v i) ?_
   simp only[a.g,zgK]
   exact EP _
 |y::r,i,v,h=>by
  have a:=zh h hm
  refine ES (fun k=>eB k xs v i) ?_
  simp only[a.g,a.z,a.get,a.w,zgJ]
  exact QK xs hm r (i+1) _ a.next
theorem zbU (x:Int)(r:List Int)(hm:(x::r).length<=maxLen):Ev (fun k=>gy k (x::r)) (maxF x r):=by
 refine ES (fun k=>QU k _) (EN (by simp;omega) (EY (by simp) ?_))
 exact QK (x::r) hm r 1 x rfl
theorem zbT (xs:List Int)(hm:xs.length<=maxLen)(hne:xs≠[])(hp:∀x∈xs,0<=x):Ev (fun k=>gy k xs) (maxF 0 xs):=by
 cases xs with
 |nil=>exact absurd rfl hne
 |cons x r=>
  refine(zbU x r hm).to ?_
  have hx:0<=x:=hp x (by simp)
  show _=maxF (mx 0 x) r
  have:mx 0 x=x:=by unfold mx;by_cases h:x>0<;>simp[h];omega
  rw[this]
theorem ND (n:Int)(p:List Int):(yl n p).length<=12:=by
 unfold yl
 split
 ·rename_i h
  have:=ft h
  split
  ·simp
  ·rw[aD];omega
 ·simp
theorem DV (n:Int)(p:List Int):∀x∈yl n p,0<=x:=by
 unfold yl wh
 intro x hx
 split at hx
 ·split at hx
  ·cases hx
  ·obtain⟨y,_,rfl⟩:=zgY.1 hx
   simp
 ·cases hx
theorem zfT (a b:Int):IntKind.i64.wrap (IntKind.i64.wrap a+b)=IntKind.i64.wrap (a+b):=by
 rw[IntKind.wrap_i64,IntKind.wrap_i64,IntKind.wrap_i64];omega
theorem ze0 (a b:Int):IntKind.i64.wrap (a+IntKind.i64.wrap b)=IntKind.i64.wrap (a+b):=by
 rw[IntKind.wrap_i64,IntKind.wrap_i64,IntKind.wrap_i64];omega
def tsum (T:Int->Int):List Int->Nat->Int->Int
 | [],_,v=>v
 |k::r,i,v=>tsum T r (i+1) (if k>0 then IntKind.i64.wrap (v+T i)else v)
theorem Lf (T:Int->Int)(a:Int):∀(r:List Int) (i:Nat) (v:Int),IntKind.i64.wrap v=v->IntKind.i64.wrap (a+tsum T r i v)=tsum T r i (IntKind.i64.wrap (a+v))
 | [],i,v,_=>rfl
 |k::r,i,v,hv=>by
  unfold tsum
  by_cases h:k>0
  ·rw[zgG h,zgG h,Lf T a r (i+1) _ (by have:=ze0 0 (v+T i);simpa using this),ze0,zfT]
   congr 2;omega
  ·rw[zgH h,zgH h,Lf T a r (i+1) _ hv]
def tot (n:Int):Nat->List Int->Int
 |0,_=>0
 |f+1,p=>tsum (fun x=>tot n f (p++[x])) (yl n p) 0 (maxF 0 (yl n p))
theorem KJ (n:Int)(p:List Int):∀x∈yl n p,x<=4096:=by
 intro x hx
 unfold yl at hx
 split at hx
 ·rename_i hp
  have h1:=ft hp
  split at hx
  ·cases hx
  ·have e:wh n.toNat p=xL n.toNat p (2 ^ n.toNat):=rfl
   rw[e]at hx
   obtain⟨y,_,rfl⟩:=zgY.1 hx
   have:=List.countP_le_length (p:=wayB n.toNat (p++[(y:Int)])) (l:=List.range (2 ^ n.toNat))
   rw[List.length_range]at this
   have:2 ^ n.toNat<=2 ^ 12:=Nat.pow_le_pow_right (by omega) (by omega)
   omega
 ·cases hx
theorem BG:∀(r:List Int) (v:Int),(∀x∈r,x<=4096)->v<=4096->maxF v r<=4096
 | [],v,_,h=>h
 |y::r,v,h,hv=>by
  have hy:=h y (by simp)
  have:=zed v y
  exact BG r (mx v y) (fun x hx=>h x (by simp[hx])) (by omega)
theorem NE {n:Int}{p:List Int}(h:n<=p.length):yl n p=[]:=by
 unfold yl
 split
 ·rename_i hp
  have:=ft hp
  rw[zgG (by omega)]
 ·rfl
theorem Fe (n:Int):∀(f:Nat) (p:List Int),n<=(p.length:Int)+f->p.length<=13->Ev (fun k=>Ud k (n,p)) (tot n f p):=by
 intro f
 induction f with
 |zero=>
  intro p h hp
  refine ES (fun k=>SZ k n p) (EB (Rs n p (by rw[zc];omega)) ?_)
  rw[NE (by omega)]
  refine ES (fun k=>fL k ..) (EN (by simp) (EZ (by rw[ze]<;>simp[tot])))
 |succ f ih=>
  intro p h hp
  refine ES (fun k=>SZ k n p) (EB (Rs n p (by rw[zc];omega)) ?_)
  have hl:=ND n p
  have hb:=KJ n p
  have hnil:yl n p=[]\/p.length<=12:=by
   by_cases e:yl n p=[]
   ·exact .inl e
   ·right
    unfold yl at e
    split at e
    ·rename_i hpp
     have:=ft hpp;omega
    ·exact absurd rfl e
  unfold tot
  revert hl hb hnil
  generalize yl n p=xs
  intro hl hb hnil
  have loop:∀(r:List Int) (i:Nat) (m v:Int),xs.drop i=r->m<=4096->Ev (fun k=>jf k n p m v (xs.length:Int) (i:Int) xs) (IntKind.i64.wrap (maxF m r+tsum (fun x=>tot n f (p++[x])) r i v)):=by
   intro r
   induction r with
   |nil=>
    intro i m v h' hm
    have a:=zu h'
    refine ES (fun k=>fL k ..) ?_
    simp only[a.g,zgK]
    exact EP _
   |cons y r ihr=>
    intro i m v h' hm
    have a:=zh h' (by rw[zc];omega)
    refine ES (fun k=>fL k ..) ?_
    simp only[a.g,a.z,a.n,a.get,a.w,zgJ]
    have hy:y<=4096:=hb y (by have:=a.lt;have e:=a.get 0;rw[zgy,List.getD,zgD this]at e;rw[<-show xs[i]=y from e];exact zg2 this)
    have hmx:=zed m y
    have e:maxF m (y::r)=maxF (mx m y) r:=rfl
    have hp12:p.length<=12:=by
     rcases hnil with e|e
     ·rw[e]at h';simp at h'
     ·exact e
    rw[e]
    unfold tsum
    refine EI (fun c=> ?_) (fun c=> ?_)
    ·have c' :y>0:=by simpa using c
     rw[zgG c']
     refine EY (by rw[za];simp;omega) (EY (by rw[za];simp;omega) ?_)
     rw[List.nil_append]
     refine EB (ih (p++[(i:Int)]) (by simp;omega) (by simp;omega)) ?_
     exact ihr (i+1) (mx m y) _ a.next (by omega)
    ·have c' :¬y>0:=by simpa using c
     rw[zgH c']
     exact ihr (i+1) (mx m y) v a.next (by omega)
  refine(loop xs 0 0 0 rfl (by omega)).to ?_
  have h1:=BG xs 0 hb (by omega)
  have h2:=zcA xs 0
  rw[Lf _ _ _ _ _ (by rw[ze]<;>omega),ze (x:=maxF 0 xs+0) (by omega) (by omega),Int.add_zero]
theorem zbg (n:Int):∀(f:Nat) (p:List Int),n<=(p.length:Int)+f->p.length<=13->Ev (fun k=>FU k (n,p)) (tot n f p):=by
 intro f
 induction f with
 |zero=>
  intro p h hp
  refine ES (fun k=>GF k n p) (EB (Qb n p (by rw[zc];omega)) ?_)
  rw[NE (by omega)]
  exact EY rfl (EZ rfl)
 |succ f ih=>
  intro p h hp
  refine ES (fun k=>GF k n p) (EB (Qb n p (by rw[zc];omega)) ?_)
  have hl:=ND n p
  have hpos:=DV n p
  have hnil:yl n p=[]\/p.length<=12:=by
   by_cases e:yl n p=[]
   ·exact .inl e
   ·right
    unfold yl at e
    split at e
    ·rename_i hpp
     have:=ft hpp;omega
    ·exact absurd rfl e
  unfold tot
  revert hl hpos hnil
  generalize yl n p=xs
  intro hl hpos hnil
  have loop:∀(r:List Int) (i:Nat) (v:Int),xs.drop i=r->Ev (fun k=>ZS k n p v (xs.length:Int) (i:Int) xs) (tsum (fun x=>tot n f (p++[x])) r i v):=by
   intro r
   induction r with
   |nil=>
    intro i v h'
    have a:=zu h'
    refine ES (fun k=>RV k ..) ?_
    simp only[a.g,zgK]
    exact EP _
   |cons y r ihr=>
    intro i v h'
    have a:=zh h' (by rw[zc];omega)
    refine ES (fun k=>RV k ..) ?_
    simp only[a.g,a.z,a.n,a.get,a.w,zgJ]
    have hp12:p.length<=12:=by
     rcases hnil with e|e
     ·rw[e]at h';simp at h'
     ·exact e
    unfold tsum
    refine EI (fun c=> ?_) (fun c=> ?_)
    ·have c' :y>0:=by simpa using c
     rw[zgG c']
     refine EB (yz p (by omega)) (EY (by rw[za];simp;omega) ?_)
     refine EB (ih (p++[(i:Int)]) (by simp;omega) (by simp;omega)) ?_
     exact ihr (i+1) _ a.next
    ·have c' :¬y>0:=by simpa using c
     rw[zgH c']
     exact ihr (i+1) v a.next
  refine EI (fun c=> ?_) (fun c=> ?_)
  ·have:xs=[]:=by simpa using c
   subst this
   exact EZ rfl
  ·have hne:xs≠[]:=by simpa using c
   exact EB (zbT xs (by rw[zc];omega) hne hpos) (loop xs 0 _ rfl)
abbrev Cn:Type:=Trick×Scene
def okB:ByteArray:=T34
def noneB:ByteArray:=T2
def unkB:ByteArray:=T1
def semi:ByteArray:=T40
structure Fns where
 run:Trick->List Int->List Int×Int×Bool
 ps:ByteArray->StepR
 mv:List Int->Int×Int->List Int
 ver:Trick->ByteArray
 sh:Trick->List Int×List Step×Int×Int×Int×Bool
 bfs:Nat->Int->Nat->List Int->List (Int×List Int)->Option (List Int×Bool)
def xC (c:Cn)(t:Trick):Cn×ByteArray:=if zi t then((t,c.2),okB)else(c,noneB)
def u5:List ByteArray->Option (List Int)
 | []=>some []
 |w::r=>if(zA w).2 then(match u5 r with|some l=>some ((zA w).1::l)|none=>none)else none
def QB (c:Cn)(ws:List ByteArray):Cn×ByteArray:=
 match u5 ws.tail with
 |none=>(c,unkB)
 |some l=>
  if ws.length=0 then xC c (c.1.1,c.1.2.1,0,0,0)else
  if ws.headD T0=T41/\ws.length=2 then xC c (c.1.1,c.1.2.1,1,l.getD 0 0,0)else
  if ws.headD T0=⟨#[117,112]⟩/\ws.length=2 then xC c (c.1.1,c.1.2.1,2,l.getD 0 0,0)else
  if ws.headD T0=T52/\ws.length=3 then xC c (c.1.1,c.1.2.1,3,l.getD 0 0,l.getD 1 0)else
  if ws.headD T0=T21/\ws.length=1 then xC c (c.1.1,c.1.2.1,4,0,0)else(c,unkB)
def N8 (c:Cn)(s:List Int×Int×Bool):Cn×ByteArray:=if s.2.2 then((c.1,(s.1,s.2.1)),gW (s.1,s.2.1))else(c,noneB)
def Bh (n:Nat)(at_ k:Int):Int:=idx at_ 0 (P0 (upTo n) k)
def goF (n:Nat)(a k:Int)(s:List Int×List (Int×List Int)):List Int×List (Int×List Int):=
 match ua s.2 (Bh n a k)with
 |some _=>s
 |none=>(s.1++[Bh n a k],X8 s.2 (Bh n a k) ((ua s.2 a).getD []++[k]))
def bfsO (n:Nat)(to:Int):Nat->List Int->List (Int×List Int)->Option (List Int×Bool)
 |0,_,_=>none
 |_+1,[],_=>some ([],false)
 |f+1,a::q,m=>if a=to then some ((ua m to).getD [],true)else bfsO n to f (goF n a 1 (goF n a 0 (q,m))).1 (goF n a 1 (goF n a 0 (q,m))).2
def gc (n:Int):Bool:=decide (2<=n)&&(decide (n<=12)&&n % 2==0)
def xA (F:Fns)(n from_ to:Int):List Int×Bool:=if gc n=true/\(0<=from_/\from_<n)/\0<=to/\to<n then(F.bfs n.toNat to 14 [from_] [(from_,[])]).getD ([],false)else([],false)
def Lw (l:List Int):ByteArray:=if l=[]then T28 else strB (l.map fun k=>if k=0 then 79 else 73)
def TD (n:Int):ByteArray:=if 1<=n/\n<=8/\0<=tot n 8 []then yk (tot n 8 [])else noneB
def xt (F:Fns)(c:Cn)(w:ByteArray)(l:List Int):Cn×ByteArray:=
 if w=T26 then N8 c (F.run c.1 l)else
 if w=T17/\l.length=2 then(c,if(xA F c.2.1.length (l.getD 0 0) (l.getD 1 0)).2 then Lw (xA F c.2.1.length (l.getD 0 0) (l.getD 1 0)).1 else noneB)else
 if w=T23/\l.length=1 then(c,TD (l.getD 0 0))else(c,unkB)
def xU (F:Fns)(p:List Int)(m:Int×Int):List Int×Bool:=if zp p&&wb p.length m then(F.mv p m,true)else([],false)
def aV (F:Fns)(c:Cn)(w rest:ByteArray):Cn×ByteArray:=
 if w=T27 then
  (if(zP rest).2 then
    (if zi ((zP rest).1,[],0,0,0)then((((zP rest).1,[],0,0,0),((zP rest).1,-1)),okB)else(c,noneB))
   else(c,unkB))else
 if w=T32 then
  (if(F.ps rest).2.2.2.2 then xC c (c.1.1,c.1.2.1++[((F.ps rest).1,((F.ps rest).2.1,(F.ps rest).2.2.1),(F.ps rest).2.2.2.1)],c.1.2.2)else(c,unkB))else
 if(zq rest).2.2 then N8 c ((xU F c.2.1 ((zq rest).1,(zq rest).2.1)).1,c.2.2,(xU F c.2.1 ((zq rest).1,(zq rest).2.1)).2)else(c,unkB)
def jx (F:Fns)(n:Nat)(m:Int×Int):List Int×Bool:=
 if wb n m then(if Sj (upTo n) (F.mv (upTo n) m)then((F.mv (upTo n) m).map fun x=>pos (upTo n) (card x),true)else([],false))else([],false)
def jM (F:Fns)(c:Cn)(ws:List ByteArray):ByteArray:=
 if ws.length=2 then
  (if(zA (ws.getD 1 T0)).2 then
    (if(jx F c.2.1.length (yq (ws.getD 0 T0),(zA (ws.getD 1 T0)).1)).2 then vb (jx F c.2.1.length (yq (ws.getD 0 T0),(zA (ws.getD 1 T0)).1)).1 else noneB)
   else unkB)
 else unkB
def TN (F:Fns)(c:Cn)(w:ByteArray):Cn×ByteArray:=
 if w=T45 then(c,F.ver c.1)else
 if w=T42 then
  (if(F.sh c.1).2.2.2.2.2 then((((F.sh c.1).1,(F.sh c.1).2.1,(F.sh c.1).2.2.1,(F.sh c.1).2.2.2.1,(F.sh c.1).2.2.2.2.1),c.2),xe (yA ((F.sh c.1).1,(F.sh c.1).2.1,(F.sh c.1).2.2.1,(F.sh c.1).2.2.2.1,(F.sh c.1).2.2.2.2.1)) semi)else(c,noneB))else
 if w=T49 then(c,xe (yA c.1) semi)else(c,unkB)
def JJ (F:Fns)(c:Cn)(line:ByteArray):Cn×ByteArray:=
 let w:=(cutB line).headD T0;let r:=(cutB line).tail
 if w=T27\/w=T32\/w=⟨#[100,111]⟩then aV F c w (xe r sp)else
 if w=T31 then QB c r else
 if w=T37 then(c,jM F c r)else
 if w=T26\/w=T17\/w=T23 then(match u5 r with|some l=>xt F c w l|none=>(c,unkB))else
 if 0<r.length then(c,unkB)else TN F c w
def ju (F:Fns)(c:Cn)(line:ByteArray):Cn×ByteArray:=if line=T0\/line.data.toList.headD 0=35 then(c,T0)else JJ F c line
def runLs (F:Fns):List ByteArray->Cn->ByteArray->Cn×ByteArray
 | [],c,acc=>(c,acc)
 |l::r,c,acc=>runLs F r (ju F c l).1 (if(ju F c l).2=T0 then acc else acc++((ju F c l).2++nl))
def con1:Cn:=((upTo 4,[],0,0,0),(upTo 4,-1))
def sessionF (F:Fns)(s:ByteArray):ByteArray×Int:=if(cJ s).length>40 then(T0,-1)else((runLs F (cJ s) con1 T0).2,((cJ s).length:Int))
noncomputable def reF:Fns:=⟨xr,zQ,xB,uC,yU,bfsO⟩
def fzF:Nat->Bool->List Int->List Int->List Int
 |0,_,_,_=> []
 |_+1,_,[],[]=> []
 |n+1,f,x::a,[]=>x::fzF n (!f) a []
 |n+1,f,[],y::b=>y::fzF n (!f) [] b
 |n+1,true,x::a,y::b=>x::fzF n false a (y::b)
 |n+1,false,x::a,y::b=>y::fzF n true (x::a) b
theorem fz_F:∀(n:Nat) (f:Bool) (a b:List Int),a.length+b.length<n->fz f a b=fzF n f a b
 |0,f,a,b,h=>by omega
 |n+1,f,[],[],h=>by unfold fz fzF;rfl
 |n+1,f,x::a,[],h=>by unfold fz fzF;rw[fz_F n (!f) a [] (by simp at h⊢;omega)]
 |n+1,f,[],y::b,h=>by unfold fz fzF;rw[fz_F n (!f) [] b (by simp at h⊢;omega)]
 |n+1,true,x::a,y::b,h=>by unfold fz fzF;rw[fz_F n false a (y::b) (by simp at h⊢;omega)]
 |n+1,false,x::a,y::b,h=>by unfold fz fzF;rw[fz_F n true (x::a) b (by simp at h⊢;omega)]
def moveV (p:List Int)(m:Int×Int):List Int:=if m.1=4 then fzF (p.length+1) (m.2==0) (p.take (p.length/2)) (p.drop (p.length/2))else xB p m
theorem zgc (p:List Int)(m:Int×Int):xB p m=moveV p m:=by
 unfold moveV
 by_cases h:m.1=4
 ·rw[zgG h]
  unfold xB P0
  rw[zgH (by omega),zgH (by omega),zgH (by omega),zgG h]
  exact fz_F _ _ _ _ (by rw[zgL,zgR];omega)
 ·rw[zgH h]
def tk (a:Int):Trick:=(upTo 4,[(2,(0,0),4),(3,(0,0),0),(1,(1,a),0)],1,4-a,0)
def KG (s:ByteArray):Nat->Option Nat
 |0=>none
 |n+1=>if s=UJ (n:Int)then some n else KG s n
theorem KE {s:ByteArray}:∀ {n k:Nat},KG s n=some k->k<n/\s=UJ (k:Int)
 |n+1,k,h=>by
  unfold KG at h
  split at h
  ·rename_i e;cases h;exact⟨by omega,e⟩
  ·obtain⟨a,b⟩:=KE h;exact⟨by omega,b⟩
theorem KF {s:ByteArray}:∀ {n:Nat},KG s n=none->∀k:Nat,k<n->s≠UJ (k:Int)
 |n+1,h,k,hk=>by
  unfold KG at h
  split at h
  ·cases h
  ·rename_i e
   by_cases hkn:k=n
   ·subst hkn;exact e
   ·exact KF h k (by omega)
def restV (s:ByteArray):StepR:=
 if(zq s).2.2=true then(1,(zq s).1,(zq s).2.1,0,true)else
 match KG s 12 with|some k=>(3,0,0,(k:Int),true)|none=>(0,0,0,0,false)
theorem zga (s:ByteArray):RD s=restV s:=by
 by_cases hm:(zq s).2.2=true
 ·unfold RD restV;rw[zgG hm,zgG hm]
 ·unfold restV
  rw[zgH hm]
  cases h:KG s 12 with
  |some k=>
   obtain⟨a,b⟩:=KE h
   exact Po hm ⟨by omega,by omega⟩ b
  |none=>
   refine Pp hm (fun⟨a,ha,hs⟩=>KF h a.toNat (by omega) ?_)
   rw[Int.toNat_of_nonneg ha.1];exact hs
def Gn (s:ByteArray):StepR:=match chF s 5 0 with|some k=>(2,0,0,k,true)|none=>restV s
theorem BC (s:ByteArray):zQ s=Gn s:=by
 unfold zQ Gn
 rw[zga]
 all_goals (cases chF s 5 0<;>rfl)
def stepY (n:Nat)(a k:Int):Int:=idx a 0 (fzF (n+1) (k==0) ((upTo n).take (n/2)) ((upTo n).drop (n/2)))
def goY (n:Nat)(a k:Int)(s:List Int×List (Int×List Int)):List Int×List (Int×List Int):=
 match ua s.2 (stepY n a k)with
 |some _=>s
 |none=>(s.1++[stepY n a k],X8 s.2 (stepY n a k) ((ua s.2 a).getD []++[k]))
def bfsY (n:Nat)(to:Int):Nat->List Int->List (Int×List Int)->Option (List Int×Bool)
 |0,_,_=>none
 |_+1,[],_=>some ([],false)
 |f+1,a::q,m=>if a=to then some ((ua m to).getD [],true)else bfsY n to f (goY n a 1 (goY n a 0 (q,m))).1 (goY n a 1 (goY n a 0 (q,m))).2
theorem zfk (n:Nat)(a k:Int):Bh n a k=stepY n a k:=by
 unfold Bh stepY P0
 rw[wc,fz_F (n+1) _ _ _ (by rw[zgL,zgR,wc];omega)]
theorem zgg (n:Nat)(a k:Int)(s:List Int×List (Int×List Int)):goF n a k s=goY n a k s:=by
 unfold goF goY;rw[zfk];try rfl
theorem zdw (n:Nat)(to:Int):∀(f:Nat) (q:List Int) (m:List (Int×List Int)),bfsO n to f q m=bfsY n to f q m
 |0,_,_=>rfl
 |_+1,[],_=>rfl
 |f+1,a::q,m=>by
  unfold bfsO bfsY
  rw[zdw n to f,zgg,zgg]
def smallO:Option (List Int×Bool)->Bool
 |none=>false|some r=>decide (r.1.length<=12)
def allY:Bool:=[2,4,6,8,10,12].all fun n=>(List.range n).all fun a=>(List.range n).all fun b=>smallO (bfsY n (b:Int) 14 [(a:Int)] [((a:Int),[])])
theorem zfP:allY=true:=by decide+kernel
theorem EA {n a b:Nat}(hp:gc (n:Int)=true)(ha:a<n)(hb:b<n):∃r,bfsO n (b:Int) 14 [(a:Int)] [((a:Int),[])]=some r/\r.1.length<=12:=by
 rw[zdw]
 have h:=zgS.1 zfP n (by
  unfold gc at hp
  simp only[zgx,zgI,beq_iff_eq]at hp
  have:n=2\/n=4\/n=6\/n=8\/n=10\/n=12:=by omega
  simp;exact this)
 have h2:=zgS.1 (zgS.1 h a (List.mem_range.2 ha)) b (List.mem_range.2 hb)
 cases e:bfsY n (b:Int) 14 [(a:Int)] [((a:Int),[])]with
 |none=>rw[e]at h2;cases h2
 |some r=>rw[e]at h2;exact⟨r,rfl,zgw h2⟩
theorem Wm (n:Nat)(a b:Int):(xA reF (n:Int) a b).1.length<=12:=by
 unfold xA
 split
 ·rename_i h
  obtain⟨hp,⟨h1,h2⟩,h3,h4⟩:=h
  obtain⟨r,e,hr⟩:=EA hp (a:=a.toNat) (b:=b.toNat) (by omega) (by omega)
  rw[Int.toNat_of_nonneg h1,Int.toNat_of_nonneg h3]at e
  show((bfsO ((n:Int)).toNat b 14 [a] [(a,[])]).getD ([],false)).1.length<=12
  rw[zgy,e]
  exact hr
 ·decide
structure CnOk (c:Cn):Prop where
 tr:zi c.1=true
 sc:SceneOk c.2.1.length c.2
theorem As {c:Cn}(h:CnOk c)(t:Trick):CnOk (xC c t).1:=by
 unfold xC
 split
 ·rename_i e;exact⟨e,h.sc⟩
 ·exact h
theorem zdo {c:Cn}(h:CnOk c)(ws:List ByteArray):CnOk (QB c ws).1:=by
 unfold QB
 split
 ·exact h
 ·repeat' split
  all_goals first|exact As h _|exact h
theorem Az {c:Cn}(h:CnOk c){s:List Int×Int×Bool}(hs:s.2.2=true->SceneOk s.1.length (s.1,s.2.1)):CnOk (N8 c s).1:=by
 unfold N8
 split
 ·rename_i e;exact⟨h.tr,hs e⟩
 ·exact h
theorem Gj {n:Nat}:∀(l:List z6) (c:Scene) (ps:List Int),SceneOk n c->(∀s∈l,zS (n:Int) s=true)->(runL l c ps).2.2=true->SceneOk n ((runL l c ps).1,(runL l c ps).2.1)
 | [],c,ps,hc,_,_=>hc
 |s::r,c,ps,hc,hl,h=>by
  unfold runL at h⊢
  dsimp only at h⊢
  generalize(if s.1=2 then ps.getD 0 0 else 0)=k at h⊢
  generalize(if s.1=2 then ps.drop 1 else ps)=qs at h⊢
  split at h
  ·rename_i hk
   rw[zgG hk]
   exact Gj r _ _ (fR hc (hl s (by simp)) _ (Qk hk.1 hk.2)) (fun x hx=>hl x (by simp[hx])) h
  ·cases h
theorem Zh {t:Trick}{ps:List Int}(h:(xr t ps).2.2=true):SceneOk (xr t ps).1.length ((xr t ps).1,(xr t ps).2.1):=by
 unfold xr at h⊢
 split at h
 ·rename_i e
  rw[zgG e]
  obtain⟨s1,s2⟩:=yT e.1
  have:=Gj (n:=t.1.length) t.2.1 (t.1,-1) ps s1 s2 h
  have hl:=this.len
  dsimp only at hl
  rw[hl]
  exact this
 ·cases h
theorem YN {c:Scene}{m:Int×Int}(hc:SceneOk c.1.length c)(h:(xU reF c.1 m).2=true):SceneOk (xU reF c.1 m).1.length ((xU reF c.1 m).1,c.2):=by
 unfold xU at h⊢
 split at h
 ·rename_i e
  rw[zgG e]
  rw[zgx]at e
  have hs:zS (c.1.length:Int) (1,m,0)=true:=by
   unfold zS
   have hm:=e.2
   unfold wb at hm
   simp only[zgx,zgI]at hm
   rw[zgG rfl,e.2]
   simp[hm.1,hm.2.1]
  have:=fR hc hs (xB c.1 m,c.2) (by unfold zw;rw[zgG rfl];simp)
  have hl:=this.len
  dsimp only at hl
  show SceneOk (xB c.1 m).length (xB c.1 m,c.2)
  rw[hl]
  exact this
 ·cases h
theorem BE {c:Cn}(h:CnOk c)(w:ByteArray)(l:List Int):CnOk (xt reF c w l).1:=by
 unfold xt
 split
 ·exact Az h (fun e=>Zh e)
 ·repeat' split
  all_goals exact h
theorem CR {p:List Int}(h:zi (p,[],0,0,0)=true):SceneOk p.length (p,-1):=(yT h).1
theorem zdT {c:Cn}(h:CnOk c)(w r:ByteArray):CnOk (aV reF c w r).1:=by
 unfold aV
 split
 ·split
  ·split
   ·rename_i e;exact⟨e,CR e⟩
   ·exact h
  ·exact h
 ·split
  ·split
   ·exact As h _
   ·exact h
  ·split
   ·exact Az h (fun e=>YN h.sc e)
   ·exact h
theorem Ly {t:Trick}(h:vp t=true):vp (UP 200 t 0)=true:=by
 have hl:=(zk (ul h).1).1
 exact(Lz 200 t 0 (by omega) (by unfold meas;omega) h (fun j hj=>by omega)).holds
theorem An {c:Cn}(h:CnOk c)(w:ByteArray):CnOk (TN reF c w).1:=by
 unfold TN
 split
 ·exact h
 ·split
  ·split
   ·rename_i e
    refine⟨?_,h.sc⟩
    have e' :(yU c.1).2.2.2.2.2=true:=e
    show zi ((yU c.1).1,(yU c.1).2.1,(yU c.1).2.2.1,(yU c.1).2.2.2.1,(yU c.1).2.2.2.2.1)=true
    unfold yU at e' ⊢
    split at e'
    ·rename_i hh
     rw[zgG hh]
     exact(ul (Ly hh)).1
    ·cases e'
   ·exact h
  ·split<;>exact h
theorem zew {c:Cn}(h:CnOk c)(line:ByteArray):CnOk (JJ reF c line).1:=by
 unfold JJ
 dsimp only
 split
 ·exact zdT h _ _
 ·split
  ·exact zdo h _
  ·split
   ·exact h
   ·split
    ·split
     ·exact BE h _ _
     ·exact h
    ·split
     ·exact h
     ·exact An h _
theorem AG {c:Cn}(h:CnOk c)(line:ByteArray):CnOk (ju reF c line).1:=by
 unfold ju
 split
 ·exact h
 ·exact zew h line
theorem zdn:CnOk con1:=⟨by decide+kernel,CR (by decide+kernel)⟩
theorem KM {n:Int}{m:Int×Int}(h:wb n m=true):1<=m.1/\m.1<=9/\0<=m.2/\m.2<=12:=by
 unfold wb at h
 simp only[zgx,zgI]at h
 obtain⟨h1,h2,h3,h4⟩:=h
 split at h4
 ·simp at h4;omega
 ·repeat (split at h4;· (simp at h4;omega))
  cases h4
theorem AJ (c:Int):∀(q:List Int) (i:Nat),0<=posF c i q->c∈q.map card
 | [],i,h=>by unfold posF at h;exact absurd h (by decide)
 |x::q,i,h=>by
  unfold posF at h
  split at h
  ·rename_i e;rw[<-e];simp
  ·exact zg3 _ (AJ c q (i+1) h)
theorem JU {t:Trick}(h:zi t=true):In t.2.2.2.1/\In t.2.2.2.2:=by
 obtain⟨h1,h2,h3,hp⟩:=zk h
 unfold zi at h
 simp only[zgx]at h
 have hc:=h.2.2.2.2
 unfold em at hc
 unfold In
 split at hc
 ·simp at hc;omega
 ·split at hc
  ·simp at hc;omega
  ·split at hc
   ·simp at hc;omega
   ·split at hc
    ·simp at hc;omega
    ·split at hc
     ·simp only[zgx,zgI]at hc
      have hm:t.2.2.2.1∈t.1.map card:=by
       have:=hc.1
       unfold pos at this
       split at this
       ·omega
       ·exact AJ _ _ _ this
      obtain⟨x,_,hx⟩:=zgY.1 hm
      have:=SD x
      omega
     ·cases hc
theorem JG (m:Int×Int):(y7 m).size<=27:=by
 unfold y7
 split
 ·rename_i h
  have hk:=KM h
  have h1:=YS m.1
  have h2:=zN m.2 (by unfold In;omega)
  rw[zg4,zg4]
  have e2:T4.size=1:=rfl
  omega
 ·decide
theorem JV:∀n:Fin 5,(yM (n.val:Int)).size<=20:=by decide
theorem JE {n:Nat}{s:Step}(h:zS (n:Int) s=true):(yp s).size<=100:=by
 unfold yp
 split
 ·unfold Yi
  split
  ·exact zg1 (JG _) (by decide)
  ·split
   ·by_cases hb:0<=s.2.2/\s.2.2<=4
    ·have:=JV ⟨s.2.2.toNat,by omega⟩
     have e:((s.2.2.toNat:Nat):Int)=s.2.2:=by omega
     simp only[e]at this
     omega
    ·unfold yM
     rw[zgH hb];decide
   ·rename_i h1 h2
    unfold zS at h
    simp only[zgx,zgI]at h
    obtain⟨b1,b2,b3⟩:=h
    rw[zgH h1,zgH h2]at b3
    split at b3
    ·simp only[zgx,beq_iff_eq,zgI]at b3
     have:=zN s.2.2 (by unfold In;omega)
     rw[zg4]
     have e2:T5.size=5:=rfl
     omega
    ·cases b3
 ·decide
theorem zbc {t:Trick}(h:zi t=true):∀x∈yA t,x.size<=2100:=by
 obtain⟨ca,cb⟩:=JU h
 obtain⟨s1,s2⟩:=yT h
 unfold yA
 rw[zgG h]
 intro x hx
 rcases zgz.1 hx with hx|hx
 ·rcases zgz.1 hx with hx|hx
  ·have e:x=Lt t:=by simpa using hx
   rw[e];unfold Lt
   rw[zg4]
   have:=xF t.1
   have e2:T18.size=6:=rfl
   omega
  ·obtain⟨s,hs,rfl⟩:=zgY.1 hx
   exact zg1 (JE (s2 s hs)) (by decide)
 ·have e:x=claimB t:=by simpa using hx
  rw[e];unfold claimB
  rw[zg4]
  have:=ef t.2.2.1 t.2.2.2.1 t.2.2.2.2 ca cb
  have e2:T12.size=6:=rfl
  omega
theorem KS {t:Trick}(h:zi t=true):(yA t).length<=14:=by
 have:=(zk h).1
 unfold yA
 rw[zgG h]
 simp;omega
theorem Ub {t:Trick}(h:zi t=true):(xe (yA t) semi).size<=30000:=by
 have:=Uq (B:=2100) (S:=1) semi (by decide) (yA t) (zbc h)
 have:=KS h
 rw[xe,zj]
 omega
theorem EU (t:Trick):(uC t).size<=3000:=by
 unfold uC
 have hci:=zN _ (fF t)
 rcases told t with⟨h1,e⟩|⟨h1,ha,e⟩|⟨h1,A,ha,hh,e⟩|⟨h1,A,ha,w,hw,hb,hr,e⟩
 ·rw[e];show T0.size<=3000;decide
 ·rw[e];show T33.size<=3000;decide
 ·rw[e]
  exact zg1 (xn (n:=5) (xn (m:=10) (by decide) hci) (by decide)) (by decide)
 ·obtain⟨f1,f2⟩:=G5 e
  obtain⟨i1,i2⟩:=JI h1 ha hw
  have hp:=f9 f1 i1
  have hs:=gA (w.1.1,w.1.2)
  rw[e]
  exact zg1 (xn (xn (n:=3) (xn (m:=10) (by decide) hp) (by decide)) hs) (by decide)
theorem AY:∀(r:List (List Int)) (acc:ByteArray),(∀c∈r,c.length<=12/\Ins c)->(Sg r acc).size<=acc.size+266*r.length
 | [],acc,_=>zgC _
 |c::r,acc,h=>by
  have h1:=AY r (acc++cycB c) (fun x hx=>h x (by simp[hx]))
  have h2:=JP (h c (by simp))
  rw[zg4]at h1
  show(Sg r (acc++cycB c)).size<=_
  rw[zgB]
  omega
theorem B8 (a:List Int):(vb a).size<=3200:=by
 obtain⟨f1,f2⟩:=P3 a
 unfold vb
 split
 ·split
  ·decide
  ·have:=AY (jU a) T0 f2
   have e:T0.size=0:=rfl
   omega
 ·decide
theorem zb8 {l:List Int}(h:l.length<=12):(Lw l).size<=12:=by
 unfold Lw
 split
 ·decide
 ·rw[zj,zgN];exact h
theorem zb2 (T:Int->Int):∀(r:List Int) (i:Nat) (v:Int),In v->In (tsum T r i v)
 | [],_,_,h=>h
 |k::r,i,v,h=>by
  unfold tsum
  refine zb2 T r (i+1) _ ?_
  split
  ·unfold In;rw[IntKind.wrap_i64];omega
  ·exact h
theorem AT:∀(r:List Int) (v:Int),v<=maxF v r
 | [],v=>Int.le_refl _
 |y::r,v=>by
  have h1:=zed v y
  have h2:=AT r (mx v y)
  show v<=maxF (mx v y) r
  omega
theorem zb3 (n:Int):∀(f:Nat) (p:List Int),In (tot n f p)
 |0,_=>by unfold tot In;decide
 |f+1,p=>by
  unfold tot
  refine zb2 _ _ _ _ ?_
  have h1:=BG (yl n p) 0 (KJ n p) (by decide)
  have h2:=AT (yl n p) 0
  unfold In;omega
theorem zbn (n:Int):(TD n).size<=21:=by
 unfold TD
 split
 ·exact zN _ (zb3 n 8 [])
 ·decide
theorem u9:unkB.size<=30000:=by decide
theorem zcw:okB.size<=30000:=by decide
theorem zbs:T0.size<=30000:=by decide
theorem ZO:noneB.size<=30000:=by decide
theorem H5 (c:Cn)(t:Trick):(xC c t).2.size<=30000:=by unfold xC;split;exact zcw;exact ZO
theorem Ac (c:Cn)(ws:List ByteArray):(QB c ws).2.size<=30000:=by
 unfold QB
 split
 ·exact u9
 ·repeat' split
  all_goals first|exact H5 _ _|exact u9
theorem Gb (c:Cn)(s:List Int×Int×Bool):(N8 c s).2.size<=30000:=by
 unfold N8
 split
 ·exact zg1 (gA _) (by decide)
 ·exact ZO
theorem FL (c:Cn)(w:ByteArray)(l:List Int):(xt reF c w l).2.size<=30000:=by
 unfold xt
 split
 ·exact Gb _ _
 ·split
  ·dsimp only
   split
   ·exact zg1 (zb8 (Wm _ _ _)) (by decide)
   ·exact ZO
  ·split
   ·exact zg1 (zbn _) (by decide)
   ·exact u9
theorem zaP (c:Cn)(w r:ByteArray):(aV reF c w r).2.size<=30000:=by
 unfold aV
 split
 ·split
  ·split
   ·exact zcw
   ·exact ZO
  ·exact u9
 ·split
  ·split
   ·exact H5 _ _
   ·exact u9
  ·split
   ·exact Gb _ _
   ·exact u9
theorem CO (c:Cn)(ws:List ByteArray):(jM reF c ws).size<=30000:=by
 unfold jM
 split
 ·split
  ·split
   ·exact zg1 (B8 _) (by decide)
   ·exact ZO
  ·exact u9
 ·exact u9
theorem zas {c:Cn}(h:CnOk c)(w:ByteArray):(TN reF c w).2.size<=30000:=by
 have h2:=(An h w).tr
 unfold TN at h2⊢
 split
 ·exact zg1 (EU _) (by decide)
 ·rename_i n1
  rw[zgH n1]at h2
  split
  ·rename_i e1
   rw[zgG e1]at h2
   split
   ·rename_i e2
    rw[zgG e2]at h2
    exact Ub h2
   ·exact ZO
  ·split
   ·exact Ub h.tr
   ·exact u9
theorem zbp {c:Cn}(h:CnOk c)(line:ByteArray):(JJ reF c line).2.size<=30000:=by
 unfold JJ
 dsimp only
 split
 ·exact zaP _ _ _
 ·split
  ·exact Ac _ _
  ·split
   ·exact CO _ _
   ·split
    ·split
     ·exact FL _ _ _
     ·exact u9
    ·split
     ·exact u9
     ·exact zas h _
theorem Gk {c:Cn}(h:CnOk c)(line:ByteArray):(ju reF c line).2.size<=30000:=by
 unfold ju
 split
 ·exact zbs
 ·exact zbp h line
theorem DI (s:ByteArray):(xe (cutB s).tail sp).size<=s.size:=by
 have e:=K0 s
 have e0:∀n:Nat,(xe [] sp).size<=n:=fun n=>by
  have:(xe [] sp).size=0:=rfl
  omega
 cases h:cutB s with
 |nil=>exact e0 _
 |cons w r=>
  rw[h]at e
  show(xe r sp).size<=s.size
  cases r with
  |nil=>exact e0 _
  |cons b r=>
   have e2:zx sp=[32]:=rfl
   have hs:s.size=w.size+(1+(xe (b::r) sp).size):=by
    rw[<-e]
    unfold xe Mu
    rw[zj,zj,e2,cD,cD,List.map_cons,Pu _ (by simp),zgA,zgB,xm]
    omega
   omega
theorem Am (s:ByteArray):cutB s≠[]:=by
 unfold cutB
 intro e
 exact Es _ _ (List.map_eq_nil_iff.1 e)
theorem uH (l:List UInt8)(hm:l.length<=1048576):∀(r:List UInt8) (i f:Nat) (out:List ByteArray),l.drop i=r->f<=i->i<=l.length->out.length<=i->
 Ev (fun k=>vO k (strB l) nl (f:Int) (i:Int) out) (out++(cutN ((l.take i).drop f) r).map strB)
 | [],i,f,out,h,hf,hi,ho=>by
   have a:=zu h
   have hil:i=l.length:=Nat.le_antisymm hi a.ge
   refine ES (fun k=>uu k ..) ?_
   simp only[zj,a.g,zgK,xg]
   refine EY (by simp) (EY (by simp;omega) (EY (by simp) (EY (by rw[za];simp;omega) (EZ ?_))))
   rw[hil]
   simp[cutN]
 |c::r,i,f,out,h,hf,hi,ho=>by
  have a:=zh h (by rw[zc];omega)
  have lt:=a.lt
  refine ES (fun k=>uu k ..) ?_
  simp only[zj,a.g,zgJ]
  refine ES (fun k=>ut k ..) ?_
  have e1:((nl.size:Nat):Int)=1:=rfl
  have e2:(nl.data.toList.getD (0:Int).toNat 0)=10:=rfl
  simp only[zj,xk,a.g,a.z,a.get,a.w,zgJ,xg,e1,e2,Ey]
  refine EY rfl (EY rfl (EY rfl ?_))
  unfold cutN
  by_cases hc:c=10
  ·rw[zgG hc]
   refine EY (by simp[hc]) (EY (by simp) (EY (by simp;omega) (EY (by simp;omega) (EY (by rw[za];simp;omega) ?_))))
   refine(uH l hm r (i+1) (i+1) _ a.next (zgC _) (by omega) (by simp;omega)).to ?_
   rw[show(l.take (i+1)).drop (i+1)=[]from List.drop_eq_nil_of_le (by rw[zgL];omega)]
   simp
  ·rw[zgH hc]
   refine EN (by simp[hc]) ?_
   refine ES (fun k=>ut k ..) ?_
   simp only[a.w,e1]
   refine EN rfl ?_
   refine(uH l hm r (i+1) f _ a.next (by omega) (by omega) (by omega)).to ?_
   rw[Ua h,List.drop_append_of_le_length (by simp;omega)]
theorem Md (s:ByteArray)(hm:s.size<=1048576):Ev (fun k=>vP k (s,nl)) (eh s):=by
 refine ES (fun k=>Rq k s nl) ?_
 have:=uH s.data.toList (by simpa using hm) _ 0 0 [] rfl (zgC _) (Nat.zero_le _) (zgC _)
 rw[xP]at this
 exact this
end Qq
