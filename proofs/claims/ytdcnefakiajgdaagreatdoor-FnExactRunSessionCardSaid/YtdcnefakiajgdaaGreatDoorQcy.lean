/-
  The console's claims, lines and sessions come to what Qco tells.
  Conditions: the console is valid, texts are such as a machine bears.
-/
import Derived.Test.YtdcnefakiajgdaaGreatDoorQcx
set_option linter.unusedSimpArgs false
set_option linter.unusedVariables false
namespace Qq
open Go Go.Vt Pt
def V2 (c:Cn)(ws:List ByteArray)(l:List Int):Cn×ByteArray:=
 if ws.length=0 then xC c (c.1.1,c.1.2.1,0,0,0)else
 if ws.headD T0=T41/\ws.length=2 then xC c (c.1.1,c.1.2.1,1,l.getD 0 0,0)else
 if ws.headD T0=⟨#[117,112]⟩/\ws.length=2 then xC c (c.1.1,c.1.2.1,2,l.getD 0 0,0)else
 if ws.headD T0=T52/\ws.length=3 then xC c (c.1.1,c.1.2.1,3,l.getD 0 0,l.getD 1 0)else
 if ws.headD T0=T21/\ws.length=1 then xC c (c.1.1,c.1.2.1,4,0,0)else(c,unkB)
theorem zai (c:Cn)(ws:List ByteArray):QB c ws=match u5 ws.tail with|none=>(c,unkB)|some l=>V2 c ws l:=by
 unfold QB V2;rfl
theorem Ew (c:Cn)(a:ByteArray)(t:List ByteArray)(l:List Int):V2 c (a::t) l=
 bif decide (a=T41)&&decide (t.length=1)then xC c (c.1.1,c.1.2.1,1,l.getD 0 0,0)else
 bif decide (a=⟨#[117,112]⟩)&&decide (t.length=1)then xC c (c.1.1,c.1.2.1,2,l.getD 0 0,0)else
 bif decide (a=T52)&&decide (t.length=2)then xC c (c.1.1,c.1.2.1,3,l.getD 0 0,l.getD 1 0)else
 bif decide (a=T21)&&decide (t.length=0)then xC c (c.1.1,c.1.2.1,4,0,0)else(c,unkB):=by
 unfold V2
 rw[zgH (by simp)]
 simp only[List.headD_cons,zgB,Nat.reduceEqDiff,Bool.cond_eq_ite,zgx,zgI]
theorem Aa (a:ByteArray):∃b1 b2 b3 b4:Bool,decide (a=T41)=b1/\decide (a=⟨#[117,112]⟩)=b2/\decide (a=T52)=b3/\decide (a=T21)=b4/\(b1&&b2||(b1&&b3||(b1&&b4||(b2&&b3||(b2&&b4||b3&&b4)))))=false:=by
 refine⟨_,_,_,_,rfl,rfl,rfl,rfl, ?_⟩
 by_cases h1:a=T41
 ·subst h1;decide
 by_cases h2:a=⟨#[117,112]⟩
 ·subst h2;decide
 by_cases h3:a=T52
 ·subst h3;decide
 by_cases h4:a=T21
 ·subst h4;decide
 rw[zgv h1,zgv h2,zgv h3,zgv h4];rfl
theorem Gy (n m:Nat):((n:Int)==(m:Int))=decide (n=m):=by
 by_cases h:n=m
 ·subst h;simp
 ·rw[zgv h];simp;omega
theorem NZ {c:Cn}(hc:CnOk c)(ws:List ByteArray)(l:List Int)(hl:l.length=ws.length-1):
 Ev (fun k=>xu k ws ws (ws.length:Int) (ws.length:Int) l c.1.1 c.1.2.1 c.1.2.2.1 c.1.2.2.2.1 c.1.2.2.2.2 c.2.1 c.2.2) (sw (V2 c ws l)):=by
 obtain⟨q1,q2,q3,hp⟩:=zk hc.tr
 refine ES (fun k=>vE k ..) (EN (zgv (Int.lt_irrefl _)) (EB (fG c.1 (by omega) (by omega)) ?_))
 have tk:∀(t2 t3 t4:Int),Ev (fun k=>(zy k (c,(c.1.1,c.1.2.1,t2,t3,t4))).bind fun y=>some (y.1,y.2)) (sw (xC c (c.1.1,c.1.2.1,t2,t3,t4))):=
  fun t2 t3 t4=>EB (Be c (c.1.1,c.1.2.1,t2,t3,t4) (zJ (by dsimp only;omega)) (zR hp) (zJ (by dsimp only;omega))) (EZ rfl)
 have un:Ev (fun _:Nat=>some (T1,c)) (sw (c,unkB)):=EZ rfl
 cases ws with
 |nil=>exact EY rfl (tk 0 0 0)
 |cons a t=>
  rw[zgB]at hl
  have np:decide (0<((a::t).length:Int))=true:=zgu (by rw[zgB];omega)
  have nc:((a::t).length:Int)=((t.length+1:Nat):Int):=rfl
  have n0:(((a::t).length:Int)==0)=false:=by rw[nc];simp;omega
  have n1:(((a::t).length:Int)==1)=decide (t.length=0):=by rw[nc,show(1:Int)=((0+1:Nat):Int)from rfl,Gy];simp
  have n2:(((a::t).length:Int)==2)=decide (t.length=1):=by rw[nc,show(2:Int)=((1+1:Nat):Int)from rfl,Gy];simp
  have n3:(((a::t).length:Int)==3)=decide (t.length=2):=by rw[nc,show(3:Int)=((2+1:Nat):Int)from rfl,Gy];simp
  have h21:Ev (fun k=>wR k (a::t) 0 0 0 c.1.1 c.1.2.1 c.1.1 c.1.2.1 c.1.2.2.1 c.1.2.2.2.1 c.1.2.2.2.2 c.2.1 c.2.2) (sw (bif decide (a=T21)&&decide (t.length=0)then xC c (c.1.1,c.1.2.1,4,0,0)else(c,unkB))):=by
   refine ES (fun k=>X9 k ..) (EY np ?_)
   rw[zn,n1,zg0]
   cases decide (a=T21)with
   |false=>exact EN rfl un
   |true=>
    refine EY rfl ?_
    cases decide (t.length=0)with
    |false=>exact EN rfl un
    |true=>exact EY rfl (tk 4 0 0)
  have h19:Ev (fun k=>wS k (a::t) l 0 0 0 c.1.1 c.1.2.1 c.1.1 c.1.2.1 c.1.2.2.1 c.1.2.2.2.1 c.1.2.2.2.2 c.2.1 c.2.2) (sw (bif decide (a=T52)&&decide (t.length=2)then xC c (c.1.1,c.1.2.1,3,l.getD 0 0,l.getD 1 0)else
   bif decide (a=T21)&&decide (t.length=0)then xC c (c.1.1,c.1.2.1,4,0,0)else(c,unkB))):=by
   refine ES (fun k=>Wa k ..) (EY np ?_)
   rw[zn,n3,zg0]
   cases decide (a=T52)with
   |false=>exact EN rfl h21
   |true=>
    refine EY rfl ?_
    by_cases ht:t.length=2
    ·rw[zgu ht]
     refine EY rfl ?_
     repeat' (first|exact tk 3 _ _|refine Ev.both ?_ ?_|refine EY (zgu (by omega)) ?_)
    ·rw[zgv ht];exact EN rfl h21
  have h17:Ev (fun k=>wT k (a::t) l 0 0 0 c.1.1 c.1.2.1 c.1.1 c.1.2.1 c.1.2.2.1 c.1.2.2.2.1 c.1.2.2.2.2 c.2.1 c.2.2) (sw (bif decide (a=⟨#[117,112]⟩)&&decide (t.length=1)then xC c (c.1.1,c.1.2.1,2,l.getD 0 0,0)else
   bif decide (a=T52)&&decide (t.length=2)then xC c (c.1.1,c.1.2.1,3,l.getD 0 0,l.getD 1 0)else
   bif decide (a=T21)&&decide (t.length=0)then xC c (c.1.1,c.1.2.1,4,0,0)else(c,unkB))):=by
   refine ES (fun k=>Wb k ..) (EY np ?_)
   rw[zn,n2,zg0]
   cases decide (a=⟨#[117,112]⟩)with
   |false=>exact EN rfl h19
   |true=>
    refine EY rfl ?_
    by_cases ht:t.length=1
    ·rw[zgu ht]
     refine EY rfl ?_
     repeat' (first|exact tk 2 _ _|refine Ev.both ?_ ?_|refine EY (zgu (by omega)) ?_)
    ·rw[zgv ht];exact EN rfl h19
  rw[Ew]
  refine EN n0 (EY np ?_)
  rw[zn,n2,zg0]
  cases decide (a=T41)with
  |false=>exact EN rfl h17
  |true=>
   refine EY rfl ?_
   by_cases ht:t.length=1
   ·rw[zgu ht]
    refine EY rfl ?_
    repeat' (first|exact tk 1 _ _|refine Ev.both ?_ ?_|refine EY (zgu (by omega)) ?_)
   ·rw[zgv ht]at h17⊢;exact EN rfl h17
theorem JT {c:Cn}(hc:CnOk c)(ws:List ByteArray)(hn:ws.length<=1048576)(hz:∀a∈ws,a.size<=1048576):∀(r:List ByteArray) (i:Nat) (acc:List Int),ws.drop i=r->1<=i->i<=ws.length->acc.length+1=i->
 Ev (fun k=>xu k ws ws (ws.length:Int) (i:Int) acc c.1.1 c.1.2.1 c.1.2.2.1 c.1.2.2.2.1 c.1.2.2.2.2 c.2.1 c.2.2) (sw (match u5 r with|none=>(c,unkB)|some l=>V2 c ws (acc++l)))
 | [],i,acc,h,h1,hi,ha=>by
   have a:=zu h
   have e:i=ws.length:=Nat.le_antisymm hi a.ge
   subst e
   refine(NZ hc ws acc (by omega)).to ?_
   show _=sw (V2 c ws (acc++[]))
   rw[List.append_nil]
 |x::r,i,acc,h,h1,hi,ha=>by
  have a:=zh h (zJ hn)
  have lt:=a.lt
  refine ES (fun k=>vE k ..) ?_
  simp only[a.g,a.z,a.get,a.w,zgJ]
  refine EN (by simp;omega) (EB (wP x (hz x a.mem)) ?_)
  unfold u5
  cases e:(zA x).2 with
  |false=>exact EY rfl (EZ rfl)
  |true=>
   refine EN rfl (EY ?_ ?_)
   ·rw[za]
    exact zgu (by simp;omega)
   ·refine(JT hc ws hn hz r (i+1) (acc++[(zA x).1]) a.next (by omega) (by omega) (by simp;omega)).to ?_
    rw[zgG rfl]
    cases u5 r with
    |none=>rfl
    |some l=>simp
theorem zeK {c:Cn}(hc:CnOk c)(ws:List ByteArray)(hn:ws.length<=1048576)(hz:∀a∈ws,a.size<=1048576):Ev (fun k=>bR k (c,ws)) (sw (QB c ws)):=by
 refine ES (fun k=>Qi k c ws) ?_
 rw[zai]
 cases ws with
 |nil=>exact NZ hc [] [] rfl
 |cons x r=>
  have a:=zh (xs:=x::r) (i:=0) rfl (zJ hn)
  refine ES (fun k=>vE k ..) (EY (zgu (by rw[zgB];omega)) (EY rfl (EY (zgu (by rw[zgB];omega)) (EY rfl ?_))))
  exact JT hc (x::r) hn hz r 1 [] rfl (zgC _) (by rw[zgB];omega) rfl
theorem KD {c:Cn}(hc:CnOk c)(ws xs:List ByteArray)(hws:0<ws.length)(hx:xs.length<=1048576)(hz:∀a∈xs,a.size<=1048576):∀(r:List ByteArray) (i:Nat) (acc:List Int),xs.drop i=r->i<=xs.length->acc.length=i->
 Ev (fun k=>yo k ws xs (xs.length:Int) (i:Int) acc c.1.1 c.1.2.1 c.1.2.2.1 c.1.2.2.2.1 c.1.2.2.2.2 c.2.1 c.2.2) (sw (match u5 r with|some l=>xt reF c (ws.getD 0 T0) (acc++l)|none=>(c,unkB)))
 | [],i,acc,h,hi,ha=>by
   have a:=zu h
   refine ES (fun k=>uX k ..) (EN a.g (EY (zgu (by omega)) (EB (zba hc (ws.getD 0 T0) acc (by omega)) (EZ ?_))))
   show(_,_)=sw (xt reF c (ws.getD 0 T0) (acc++[]))
   rw[List.append_nil]
 |x::r,i,acc,h,hi,ha=>by
  have a:=zh h (zJ hx)
  have lt:=a.lt
  refine ES (fun k=>uX k ..) ?_
  simp only[a.g,a.z,a.get,a.w,zgJ]
  refine EB (wP x (hz x a.mem)) ?_
  unfold u5
  cases e:(zA x).2 with
  |false=>exact EY rfl (EZ rfl)
  |true=>
   refine EN rfl (EY ?_ ?_)
   ·rw[za]
    exact zgu (by simp;omega)
   ·refine(KD hc ws xs hws hx hz r (i+1) (acc++[(zA x).1]) a.next (by omega) (by simp;omega)).to ?_
    rw[zgG rfl]
    cases u5 r with
    |none=>rfl
    |some l=>simp
theorem cF (c:Cn){line w:ByteArray}{r:List ByteArray}(h:cutB line=w::r):JJ reF c line=
 if w=T27\/w=T32\/w=⟨#[100,111]⟩then aV reF c w (xe r sp)else
 if w=T31 then QB c r else
 if w=T37 then(c,jM reF c r)else
 if w=T26\/w=T17\/w=T23 then(match u5 r with|some l=>xt reF c w l|none=>(c,unkB))else
 if 0<r.length then(c,unkB)else TN reF c w:=by
 unfold JJ;rw[h];rfl
theorem zfE {c:Cn}(hc:CnOk c)(line:ByteArray)(hl:line.size<=1048576):Ev (fun k=>gn k (c,line)) (sw (JJ reF c line)):=by
 have hz:∀a∈cutB line,a.size<=1048576:=fun a ha=>by have:=bY line a ha;omega
 have hcl:=M8 line
 have hrs:=DI line
 refine ES (fun k=>UM k c line) (EB (Y1 line hl) ?_)
 simp only[zn]
 cases hcut:cutB line with
 |nil=>exact absurd hcut (Am line)
 |cons w r=>
  rw[hcut]at hz hcl hrs
  rw[zgB]at hcl
  have e1:((w::r).take (((w::r).length:Int)).toNat).drop 1=r:=by rw[zgy,List.take_length];rfl
  have hzr:∀a∈r,a.size<=1048576:=fun a ha=>hz a (zg3 _ ha)
  have np:decide (0<((w::r).length:Int))=true:=zgu (by rw[zgB];omega)
  have np1:decide (1<=((w::r).length:Int))=true:=zgu (by rw[zgB];omega)
  have np2:decide (((w::r).length:Int)<=((w::r).length:Int))=true:=zgu (Int.le_refl _)
  simp only[e1,np,np1,np2,zg0,zgJ]
  rw[cF c hcut]
  have jn:Ev (fun k=>aM k (r,T4)) (xe r sp):=Qe r sp (by omega) (by have:=hrs;dsimp only[List.tail_cons]at this;omega)
  have tx:Ev (fun k=>(aM k (r,T4)).bind fun y2=>(va k (c,w,y2)).bind fun y3=>some (y3.1,y3.2)) (sw (aV reF c w (xe r sp))):=
   EB jn (EB (zfi hc w (xe r sp) (by dsimp only[List.tail_cons]at hrs;omega)) (EZ rfl))
  have nm:Ev (fun k=>yo k (w::r) r (r.length:Int) 0 [] c.1.1 c.1.2.1 c.1.2.2.1 c.1.2.2.2.1 c.1.2.2.2.2 c.2.1 c.2.2) (sw (match u5 r with|some l=>xt reF c w l|none=>(c,unkB))):=
   KD hc (w::r) r (by rw[zgB];omega) (by omega) hzr r 0 [] rfl (Nat.zero_le _) rfl
  by_cases h1:w=T27
  ·rw[zgG (show w=T27\/w=T32\/w=⟨#[100,111]⟩from .inl h1)];exact EY (zgu h1) tx
  refine EN (zgv h1) ?_
  by_cases h2:w=T32
  ·rw[zgG (show w=T27\/w=T32\/w=⟨#[100,111]⟩from .inr (.inl h2))];exact EY (zgu h2) tx
  refine EN (zgv h2) ?_
  by_cases h3:w=⟨#[100,111]⟩
  ·rw[zgG (show w=T27\/w=T32\/w=⟨#[100,111]⟩from .inr (.inr h3))];exact EY (zgu h3) tx
  refine EN (zgv h3) ?_
  rw[zgH (show ¬(w=T27\/w=T32\/w=⟨#[100,111]⟩)from fun x=>by rcases x with x|x|x;exact h1 x;exact h2 x;exact h3 x)]
  by_cases h4:w=T31
  ·rw[zgG h4];exact EY (zgu h4) (EB (zeK hc r (by omega) hzr) (EZ rfl))
  rw[zgH h4]
  refine EN (zgv h4) ?_
  by_cases h5:w=T37
  ·rw[zgG h5];exact EY (zgu h5) (EB (zdf hc r hzr) (EZ rfl))
  rw[zgH h5]
  refine EN (zgv h5) ?_
  by_cases h6:w=T26
  ·rw[zgG (show w=T26\/w=T17\/w=T23 from .inl h6)];exact EY (zgu h6) nm
  refine EN (zgv h6) ?_
  by_cases h7:w=T17
  ·rw[zgG (show w=T26\/w=T17\/w=T23 from .inr (.inl h7))];exact EY (zgu h7) nm
  refine EN (zgv h7) ?_
  by_cases h8:w=T23
  ·rw[zgG (show w=T26\/w=T17\/w=T23 from .inr (.inr h8))];exact EY (zgu h8) nm
  refine EN (zgv h8) ?_
  rw[zgH (show ¬(w=T26\/w=T17\/w=T23)from fun x=>by rcases x with x|x|x;exact h6 x;exact h7 x;exact h8 x)]
  by_cases h9:0<r.length
  ·rw[zgG h9];exact EY (zgu (by omega)) (EZ rfl)
  ·rw[zgH h9];exact EN (zgv (by omega)) (EB (zfd hc w) (EZ rfl))
def fl (p:Cn×ByteArray):List Int×List Step×Int×Int×Int×List Int×Int×ByteArray:=(p.1.1.1,p.1.1.2.1,p.1.1.2.2.1,p.1.1.2.2.2.1,p.1.1.2.2.2.2,p.1.2.1,p.1.2.2,p.2)
theorem zbR {c:Cn}(hc:CnOk c)(line:ByteArray)(hl:line.size<=1048576):Ev (fun k=>Ji k (c,line)) (fl (ju reF c line)):=by
 obtain⟨q1,q2,q3,hp⟩:=zk hc.tr
 obtain⟨s1,s2⟩:=xf hc.sc
 refine ES (fun k=>Cj k c line) (EB (fG c.1 (by omega) (by omega)) (EB (ES (fun k=>To k c.2) (EB (yz c.2.1 (by omega)) (EP _))) ?_))
 simp only[zn]
 unfold ju
 by_cases h1:line=T0
 ·rw[zgG (show line=T0\/line.data.toList.headD 0=35 from .inl h1)];exact EY (zgu h1) (EZ rfl)
 refine EN (zgv h1) (EY (zgu ?_) ?_)
 ·have:line.size≠0:=fun e=>h1 (by
   apply ByteArray.ext
   apply Array.ext'
   have e2:line.data.toList.length=0:=by simpa using e
   rw[List.length_eq_zero_iff.1 e2])
  omega
 have e0:line.data.toList.getD 0 0=line.data.toList.headD 0:=by cases line.data.toList<;>rfl
 rw[e0]
 by_cases h2:line.data.toList.headD 0=35
 ·rw[zgG (show line=T0\/line.data.toList.headD 0=35 from .inr h2),h2];exact EY rfl (EZ rfl)
 ·rw[zgH (show ¬(line=T0\/line.data.toList.headD 0=35)from fun x=>by rcases x with x|x;exact h1 x;exact h2 x)]
  refine EN ?_ (EB (zfE hc line hl) (EZ rfl))
  have:¬((line.data.toList.headD 0).toNat:Int)=35:=fun e=>h2 (by
   apply UInt8.toNat_inj.1
   have:(35:UInt8).toNat=35:=rfl
   omega)
  simpa using this
end Qq
