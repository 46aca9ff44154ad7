/-
  The reference's console: its functions come to the same.
  Conditions: the console is valid, texts are such as a machine bears.
-/
import Derived.Test.YtdcnefakiajgdaaGreatDoorQcz
import Derived.Test.YtdcnefakiajgdaaGreatDoorPS
set_option linter.unusedSimpArgs false
set_option linter.unusedVariables false
namespace Qq
open Go Go.Vt Pt
def f7 (c:Cn):List Int×List Step×Int×Int×Int×List Int×Int:=(c.1.1,c.1.2.1,c.1.2.2.1,c.1.2.2.2.1,c.1.2.2.2.2,c.2.1,c.2.2)
theorem Kg (t:Trick)(h1:t.1.length<=1048576)(h2:t.2.1.length<=1048576):Ev (fun k=>Zy k t) t:=
 ES (fun k=>G9 k t) (EY (zgu (by rw[za];simp;omega)) (EY (zgu (by rw[za];simp;omega)) (EZ rfl)))
theorem zd5 {c:Cn}(hc:CnOk c):Ev (fun k=>LG k c) (f7 c):=by
 obtain⟨q1,q2,q3,hp⟩:=zk hc.tr
 obtain⟨s1,s2⟩:=xf hc.sc
 exact ES (fun k=>E9 k c) (EB (Kg c.1 (by omega) (by omega)) (EY (zgu (by rw[za];simp;omega)) (EZ rfl)))
theorem zcf (c:Cn)(t:Trick)(h1:t.1.length<=maxLen)(h2:t.2.1.length<=maxLen):Ev (fun k=>eO k (c,t)) (fl (xC c t)):=by
 refine ES (fun k=>Bk k c t) (EB (wC t h1 h2) ?_)
 unfold xC
 cases zi t with
 |true=>exact EN rfl (EZ rfl)
 |false=>exact EY rfl (EZ rfl)
theorem Fw (l:List ByteArray)(sep:ByteArray)(hl:l.length<=1048576)(hj:(xe l sep).size<=9223372036854775807):Ev (fun k=>Ru k (l,sep)) (xe l sep):=by
 refine ES (fun k=>Dv k l sep) ?_
 cases l with
 |nil=>exact ES (fun k=>uR k ..) (EN rfl (EZ rfl))
 |cons x r=>
  have e:xe (x::r) sep=strB (zx x++Lib.joinTail (zx sep) (r.map zx)):=by
   unfold xe Mu;rw[List.map_cons,Lib.join_cons]
  rw[e,zj,zgA]at hj
  rw[e]
  have a:=zh (xs:=x::r) (i:=0) rfl (zJ hl)
  have hx:x.size=(zx x).length:=(xm x).symm
  refine ES (fun k=>uR k ..) (EY (zgu (by rw[zgB];omega)) (EY rfl (EY (zgu (by rw[zgB];omega)) (EN rfl (EY (zgu ?_) ?_)))))
  ·show T0.size+x.size<=_
   have:T0.size=0:=rfl
   omega
  ·have ih:=W3 sep (x::r) (zJ hl) r 1 (zx x) rfl (zgC _) hj
   have e3:T0++x=strB (zx x):=by
    apply ByteArray.ext;simp[strB,zx]
   show Ev (fun k=>ZH k sep (T0++x) (x::r) ((x::r).length:Int) 1) _
   rw[e3];exact ih
theorem zaZ {c:Cn}(hc:CnOk c)(r:ByteArray)(hr:r.size<=1048576):Ev (fun k=>TS k (c,r)) (fl (aV reF c T27 r)):=by
 have hl:=Vg r
 refine ES (fun k=>Hh k c r) (EB (Mh r hr) ?_)
 unfold aV
 rw[zgG rfl]
 cases e:(zP r).2 with
 |false=>exact EY rfl (EZ rfl)
 |true=>
  refine EN rfl (EB (WT ((zP r).1,[],0,0,0) (zJ (by dsimp only;omega)) (Nat.zero_le _)) ?_)
  unfold xN
  by_cases ht:zi ((zP r).1,[],0,0,0)=true
  ·rw[zgG ht,zgG rfl,zgG ht]
   exact EN rfl (EZ rfl)
  ·rw[zgH ht,zgG rfl,zgH ht]
   exact EY rfl (EZ rfl)
theorem zd2 {c:Cn}(hc:CnOk c)(r:ByteArray)(hr:r.size<=1048576):Ev (fun k=>LC k (c,r)) (fl (aV reF c T32 r)):=by
 obtain⟨q1,q2,q3,hp⟩:=zk hc.tr
 refine ES (fun k=>E6 k c r) (EB (Hq r hr) ?_)
 unfold aV
 rw[zgH (by decide),zgG rfl]
 show Ev _ (fl (if(zQ r).2.2.2.2 then xC c (c.1.1,c.1.2.1++[((zQ r).1,((zQ r).2.1,(zQ r).2.2.1),(zQ r).2.2.2.1)],c.1.2.2)else(c,unkB)))
 cases e:(zQ r).2.2.2.2 with
 |false=>exact EY rfl (EZ rfl)
 |true=>
  refine EN rfl (EB (Kg c.1 (by omega) (by omega)) (EY (decide_eq_true (by rw[za];simp;omega)) (EB (zcf c (c.1.1,c.1.2.1++[((zQ r).1,((zQ r).2.1,(zQ r).2.2.1),(zQ r).2.2.2.1)],c.1.2.2) (zJ (by dsimp only;omega)) (zJ (by simp;omega))) (EZ rfl))))
theorem Bv {p:List Int}(hp:p.length<=12)(hi:Ins p)(m:Int×Int):Ev (fun k=>L0 k (p,m)) (xU reF p m):=by
 refine ES (fun k=>Du k p m) (EB (eW p (zJ (by omega))) ?_)
 unfold xU
 cases h1:zp p with
 |false=>exact EY rfl (EZ rfl)
 |true=>
  refine EN rfl (EB (YG _ m) ?_)
  cases h2:wb p.length m with
  |false=>exact EY rfl (EZ rfl)
  |true=>exact EN rfl (EB (Ui p m (ZP h2) hi) (EZ rfl))
theorem zf7 {c:Cn}(hc:CnOk c)(r:ByteArray)(hr:r.size<=1048576):Ev (fun k=>Bl k (c,r)) (fl (aV reF c ⟨#[100,111]⟩ r)):=by
 obtain⟨s1,s2⟩:=xf hc.sc
 refine ES (fun k=>zaT k c r) (EB (U2 r hr) ?_)
 unfold aV
 rw[zgH (by decide),zgH (by decide)]
 cases e:(zq r).2.2 with
 |false=>exact EY rfl (EZ rfl)
 |true=>
  refine EN rfl (EB (Bv s1 s2 _) ?_)
  show Ev _ (fl (N8 c ((xU reF c.2.1 ((zq r).1,(zq r).2.1)).1,c.2.2,(xU reF c.2.1 ((zq r).1,(zq r).2.1)).2)))
  unfold N8
  cases e2:(xU reF c.2.1 ((zq r).1,(zq r).2.1)).2 with
  |false=>exact EY rfl (EZ rfl)
  |true=>
   obtain⟨t1,t2⟩:=xf (c:=((xU reF c.2.1 ((zq r).1,(zq r).2.1)).1,c.2.2)) (YN hc.sc e2)
   exact EN rfl (EB (Zb _ (zJ (by dsimp only at t1⊢;omega))) (EZ rfl))
theorem AD {c:Cn}(hc:CnOk c)(l:List Int)(hl:l.length<=1048576):Ev (fun k=>SX k (c,l)) (fl (N8 c (xr c.1 l))):=by
 obtain⟨q1,q2,q3,hp⟩:=zk hc.tr
 refine ES (fun k=>E7 k c l) (EB (Fp c.1 l (zJ (by omega)) (zJ (by omega)) hl) ?_)
 unfold N8
 cases e:(xr c.1 l).2.2 with
 |false=>exact EY rfl (EZ rfl)
 |true=>
  obtain⟨t1,t2⟩:=xf (c:=((xr c.1 l).1,(xr c.1 l).2.1)) (Zh e)
  exact EN rfl (EB (Zb _ (zJ (by dsimp only at t1⊢;omega))) (EZ rfl))
theorem DA {t:Trick}(h:zi t=true):Ev (fun k=>fe k t) (yA t)/\Ev (fun k=>Ru k (yA t,T40)) (xe (yA t) semi):=by
 obtain⟨q1,q2,q3,hp⟩:=zk h
 obtain⟨ca,cb⟩:=JU h
 refine⟨LO t (zJ (by omega)) (zJ (by omega)) ca cb,Fw _ semi ?_ ?_⟩
 ·have:=KS h;omega
 ·have:=Ub h;omega
theorem zce {c:Cn}(hc:CnOk c):Ev (fun k=>QX k c) (fl (TN reF c T42)):=by
 obtain⟨q1,q2,q3,hp⟩:=zk hc.tr
 refine ES (fun k=>Fa k c) (EB (Q8 c.1 (by omega) (by omega)) ?_)
 unfold TN
 rw[zgH (by decide),zgG rfl]
 by_cases e:(yU c.1).2.2.2.2.2=true
 ·have e' :(reF.sh c.1).2.2.2.2.2=true:=e
  rw[zgG e']
  obtain⟨a1,a2⟩:=DA (AA e)
  refine EN (by rw[e];rfl) (EB a1 (EB a2 (EZ rfl)))
 ·have e' :¬(reF.sh c.1).2.2.2.2.2=true:=e
  rw[zgH e']
  have:(yU c.1).2.2.2.2.2=false:=by simpa using e
  exact EY (by rw[this];rfl) (EZ rfl)
def x8 (xs:List ByteArray):List Int×Bool:=match u5 xs with|some l=>(l,true)|none=>([],false)
theorem Kj (xs:List ByteArray)(hx:xs.length<=1048577)(hz:∀a∈xs,a.size<=1048576):∀(r:List ByteArray) (i:Nat) (acc:List Int),xs.drop i=r->i<=xs.length->acc.length=i->
 Ev (fun k=>je k xs (xs.length:Int) (i:Int) acc) (match u5 r with|some l=>(acc++l,true)|none=>([],false))
 | [],i,acc,h,hi,ha=>by
   have a:=zu h
   refine ES (fun k=>b9 k ..) (EN a.g (EZ ?_))
   show _=(acc++[],true)
   rw[List.append_nil]
 |x::r,i,acc,h,hi,ha=>by
  have a:=zh h (by rw[zc];omega)
  have lt:=a.lt
  refine ES (fun k=>b9 k ..) ?_
  simp only[a.g,a.z,a.get,a.w,zgJ]
  refine EB (wO x (hz x a.mem)) ?_
  unfold u5
  cases e:(zA x).2 with
  |false=>exact EY rfl (EZ rfl)
  |true=>
   refine EN rfl (EY (zgu (by rw[za];simp;omega)) ?_)
   refine(Kj xs hx hz r (i+1) (acc++[(zA x).1]) a.next (by omega) (by simp;omega)).to ?_
   rw[zgG rfl]
   cases u5 r with
   |none=>rfl
   |some l=>simp
theorem AE (xs:List ByteArray)(hx:xs.length<=1048577)(hz:∀a∈xs,a.size<=1048576):Ev (fun k=>aa k xs) (x8 xs):=
 ES (fun k=>LE k xs) (Kj xs hx hz xs 0 [] rfl (Nat.zero_le _) rfl)
theorem RK:∀ {xs:List ByteArray} {l:List Int},u5 xs=some l->l.length=xs.length
 | [],l,h=>by cases h;rfl
 |x::r,l,h=>by
  unfold u5 at h
  split at h
  ·cases e:u5 r with
   |none=>rw[e]at h;cases h
   |some m=>
    rw[e]at h
    cases h
    rw[zgB,zgB,RK e]
  ·cases h
def claimS (c:Cn)(w:ByteArray)(l:List Int):Cn×ByteArray:=
 bif decide (w=T0)&&decide (l.length=0)then xC c (c.1.1,c.1.2.1,0,0,0)else
 bif decide (w=T21)&&decide (l.length=0)then xC c (c.1.1,c.1.2.1,4,0,0)else
 bif decide (w=T41)&&decide (l.length=1)then xC c (c.1.1,c.1.2.1,1,l.getD 0 0,0)else
 bif decide (w=⟨#[117,112]⟩)&&decide (l.length=1)then xC c (c.1.1,c.1.2.1,2,l.getD 0 0,0)else
 bif decide (w=T52)&&decide (l.length=2)then xC c (c.1.1,c.1.2.1,3,l.getD 0 0,l.getD 1 0)else(c,unkB)
theorem DC {c:Cn}(hc:CnOk c)(w:ByteArray)(l:List Int):Ev (fun k=>cz k (c,w,l)) (fl (claimS c w l)):=by
 obtain⟨q1,q2,q3,hp⟩:=zk hc.tr
 have tk:∀(t2 t3 t4:Int),Ev (fun k=>(eO k (c,(c.1.1,c.1.2.1,t2,t3,t4))).bind fun y=>some y) (fl (xC c (c.1.1,c.1.2.1,t2,t3,t4))):=
  fun t2 t3 t4=>EB (zcf c (c.1.1,c.1.2.1,t2,t3,t4) (zJ (by dsimp only;omega)) (zJ (by dsimp only;omega))) (EZ rfl)
 have e0:((l.length:Int)==0)=decide (l.length=0):=Gy _ 0
 have e1:((l.length:Int)==1)=decide (l.length=1):=Gy _ 1
 have e2:((l.length:Int)==2)=decide (l.length=2):=Gy _ 2
 have h15:Ev (fun k=>gB k w l c.1.1 c.1.2.1 c.1.2.2.1 c.1.2.2.2.1 c.1.2.2.2.2 c.2.1 c.2.2 0 0 0 0 c.1.2.2.1 0 0 c.1.1 c.1.2.1) (fl (bif decide (w=T52)&&decide (l.length=2)then xC c (c.1.1,c.1.2.1,3,l.getD 0 0,l.getD 1 0)else(c,unkB))):=by
  refine ES (fun k=>QZ k ..) ?_
  rw[zn,e2]
  cases decide (w=T52)with
  |false=>exact EN rfl (EZ rfl)
  |true=>
   refine EY rfl ?_
   by_cases hl:l.length=2
   ·rw[zgu hl];exact EY rfl (EY (zgu (by omega)) (EY (zgu (by omega)) (tk 3 _ _)))
   ·rw[zgv hl];exact EN rfl (EZ rfl)
 have h12:Ev (fun k=>gC k w l c.1.1 c.1.2.1 c.1.2.2.1 c.1.2.2.2.1 c.1.2.2.2.2 c.2.1 c.2.2 0 0 0 0 c.1.2.2.1 0 0 c.1.1 c.1.2.1) (fl (bif decide (w=⟨#[117,112]⟩)&&decide (l.length=1)then xC c (c.1.1,c.1.2.1,2,l.getD 0 0,0)else
  bif decide (w=T52)&&decide (l.length=2)then xC c (c.1.1,c.1.2.1,3,l.getD 0 0,l.getD 1 0)else(c,unkB))):=by
  refine ES (fun k=>Q0 k ..) ?_
  rw[zn,e1]
  cases decide (w=⟨#[117,112]⟩)with
  |false=>exact EN rfl h15
  |true=>
   refine EY rfl ?_
   by_cases hl:l.length=1
   ·rw[zgu hl];exact EY rfl (EY (zgu (by omega)) (tk 2 _ _))
   ·rw[zgv hl];exact EN rfl h15
 have h9:Ev (fun k=>eP k w l c.1.1 c.1.2.1 c.1.2.2.1 c.1.2.2.2.1 c.1.2.2.2.2 c.2.1 c.2.2 0 0 0 0 c.1.2.2.1 0 0 c.1.1 c.1.2.1) (fl (bif decide (w=T41)&&decide (l.length=1)then xC c (c.1.1,c.1.2.1,1,l.getD 0 0,0)else
  bif decide (w=⟨#[117,112]⟩)&&decide (l.length=1)then xC c (c.1.1,c.1.2.1,2,l.getD 0 0,0)else
  bif decide (w=T52)&&decide (l.length=2)then xC c (c.1.1,c.1.2.1,3,l.getD 0 0,l.getD 1 0)else(c,unkB))):=by
  refine ES (fun k=>N9 k ..) ?_
  rw[zn,e1]
  cases decide (w=T41)with
  |false=>exact EN rfl h12
  |true=>
   refine EY rfl ?_
   by_cases hl:l.length=1
   ·rw[zgu hl];exact EY rfl (EY (zgu (by omega)) (tk 1 _ _))
   ·rw[zgv hl]at h12⊢;exact EN rfl h12
 have h7:Ev (fun k=>eQ k w l c.1.1 c.1.2.1 c.1.2.2.1 c.1.2.2.2.1 c.1.2.2.2.2 c.2.1 c.2.2 0 0 0 0 c.1.2.2.1 0 0 c.1.1 c.1.2.1) (fl (bif decide (w=T21)&&decide (l.length=0)then xC c (c.1.1,c.1.2.1,4,0,0)else
  bif decide (w=T41)&&decide (l.length=1)then xC c (c.1.1,c.1.2.1,1,l.getD 0 0,0)else
  bif decide (w=⟨#[117,112]⟩)&&decide (l.length=1)then xC c (c.1.1,c.1.2.1,2,l.getD 0 0,0)else
  bif decide (w=T52)&&decide (l.length=2)then xC c (c.1.1,c.1.2.1,3,l.getD 0 0,l.getD 1 0)else(c,unkB))):=by
  refine ES (fun k=>Ma k ..) ?_
  rw[zn,e0]
  cases decide (w=T21)with
  |false=>exact EN rfl h9
  |true=>
   refine EY rfl ?_
   by_cases hl:l.length=0
   ·rw[zgu hl];exact EY rfl (tk 4 0 0)
   ·rw[zgv hl];exact EN rfl h9
 refine ES (fun k=>Fc k c w l) (EB (Kg c.1 (by omega) (by omega)) ?_)
 unfold claimS
 rw[zn,e0]
 cases decide (w=T0)with
 |false=>exact EN rfl h7
 |true=>
  refine EY rfl ?_
  by_cases hl:l.length=0
  ·rw[zgu hl];exact EY rfl (tk 0 0 0)
  ·rw[zgv hl]at h7⊢;exact EN rfl h7
theorem zeL (c:Cn){a:ByteArray}{t:List ByteArray}{l:List Int}(ha:a≠T0)(hl:l.length=t.length):claimS c a l=V2 c (a::t) l:=by
 rw[Ew]
 unfold claimS
 rw[zgv ha,hl]
 obtain⟨b1,b2,b3,b4,e1,e2,e3,e4,ex⟩:=Aa a
 rw[e1,e2,e3,e4]
 cases b1<;>cases b2<;>cases b3<;>cases b4<;>first|(cases ex;done)|(cases decide (t.length=0)<;>cases decide (t.length=1)<;>rfl)|rfl
theorem CY (c:Cn)(t:List ByteArray)(l:List Int):V2 c (T0::t) l=(c,unkB):=by
 rw[Ew];rfl
end Qq
