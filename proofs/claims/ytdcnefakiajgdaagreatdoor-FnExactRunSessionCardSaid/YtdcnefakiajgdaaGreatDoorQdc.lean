/-
  The reference's lines and sessions come to the same; the law FnExactRunSession comes to true.
  Conditions: texts are such as a machine bears.
-/
import Derived.Test.YtdcnefakiajgdaaGreatDoorQdb
set_option linter.unusedSimpArgs false
set_option linter.unusedVariables false
namespace Qq
open Go Go.Vt Pt
theorem GP:(zP T0).2=false/\(zq T0).2.2=false:=by decide+kernel
theorem zbr:(zQ T0).2.2.2.2=false:=by rw[BC];decide+kernel
theorem zd1 {c:Cn}(hc:CnOk c){line w:ByteArray}(hcut:cutB line=[w]):Ev (fun k=>Wn k (c,w)) (fl (JJ reF c line)):=by
 obtain⟨q1,q2,q3,hp⟩:=zk hc.tr
 refine ES (fun k=>E5 k c w) ?_
 simp only[zn]
 rw[cF c hcut]
 have un:Ev (fun _:Nat=>some (c.1.1,c.1.2.1,c.1.2.2.1,c.1.2.2.2.1,c.1.2.2.2.2,c.2.1,c.2.2,T1)) (fl (c,unkB)):=EZ rfl
 by_cases g1:w=T45
 ·subst g1
  refine EY (by decide) (EB (Mb c.1 (zJ (by omega)) (zJ (by omega))) (EZ ?_))
  rw[zgH (by decide),zgH (by decide),zgH (by decide),zgH (by decide),zgH (by decide)]
  unfold TN
  rw[zgG rfl];rfl
 refine EN (zgv g1) ?_
 by_cases g2:w=T42
 ·subst g2
  rw[zgH (by decide),zgH (by decide),zgH (by decide),zgH (by decide),zgH (by decide)]
  exact EY (by decide) (EB (zce hc) (EZ rfl))
 refine EN (zgv g2) ?_
 by_cases g3:w=T49
 ·subst g3
  rw[zgH (by decide),zgH (by decide),zgH (by decide),zgH (by decide),zgH (by decide)]
  obtain⟨a1,a2⟩:=DA hc.tr
  refine EY (by decide) (EB a1 (EB a2 (EZ ?_)))
  unfold TN
  rw[zgH (by decide),zgH (by decide),zgG rfl];rfl
 refine EN (zgv g3) ?_
 by_cases g4:w=T26
 ·subst g4
  rw[zgH (by decide),zgH (by decide),zgH (by decide),zgG (by decide)]
  exact EY (by decide) (EB (AD hc [] (by simp)) (EZ rfl))
 refine EN (zgv g4) ?_
 by_cases g5:w=T31
 ·subst g5
  rw[zgH (by decide),zgG rfl]
  exact EY (by decide) (EB (DC hc T0 []) (EZ rfl))
 refine EN (zgv g5) ?_
 have hw:TN reF c w=(c,unkB):=by
  unfold TN
  rw[zgH g1,zgH g2,zgH g3]
 by_cases h1:w=T27
 ·subst h1
  rw[zgG (by decide)]
  have:aV reF c T27 (xe [] sp)=(c,unkB):=by
   unfold aV
   rw[zgG rfl]
   show(if(zP T0).2 then _ else _)=_
   rw[GP.1];rfl
  rw[this];exact un
 by_cases h2:w=T32
 ·subst h2
  rw[zgG (by decide)]
  have:aV reF c T32 (xe [] sp)=(c,unkB):=by
   unfold aV
   rw[zgH (by decide),zgG rfl]
   show(if(zQ T0).2.2.2.2 then _ else _)=_
   rw[zbr];rfl
  rw[this];exact un
 by_cases h3:w=⟨#[100,111]⟩
 ·subst h3
  rw[zgG (by decide)]
  have:aV reF c ⟨#[100,111]⟩ (xe [] sp)=(c,unkB):=by
   unfold aV
   rw[zgH (by decide),zgH (by decide)]
   show(if(zq T0).2.2 then _ else _)=_
   rw[GP.2];rfl
  rw[this];exact un
 rw[zgH (show ¬(w=T27\/w=T32\/w=⟨#[100,111]⟩)from fun x=>by rcases x with x|x|x;exact h1 x;exact h2 x;exact h3 x),zgH g5]
 by_cases h5:w=T37
 ·rw[zgG h5]
  have:jM reF c []=unkB:=rfl
  rw[this];exact un
 rw[zgH h5]
 by_cases h7:w=T26\/w=T17\/w=T23
 ·rw[zgG h7]
  have:xt reF c w []=(c,unkB):=by
   unfold xt
   rw[zgH g4,zgH (fun x=>by cases x.2),zgH (fun x=>by cases x.2)]
  show Ev _ (fl (xt reF c w []))
  rw[this];exact un
 ·rw[zgH h7,zgH (show ¬0<([]:List ByteArray).length from Nat.lt_irrefl 0),hw];exact un
theorem zfm {c:Cn}(hc:CnOk c){line w v:ByteArray}{r:List ByteArray}(hcut:cutB line=w::v::r)(hn:r.length<=1048575)(hz:∀a∈(w::v::r),a.size<=1048576)
 (h1:w≠T27) (h2:w≠T32) (h3:w≠⟨#[100,111]⟩):Ev (fun k=>Fd k (c,w::v::r)) (fl (JJ reF c line)):=by
 have hzr:∀a∈r,a.size<=1048576:=fun a ha=>hz a (zg3 _ (zg3 _ ha))
 have hzv:∀a∈(v::r),a.size<=1048576:=fun a ha=>hz a (zg3 _ ha)
 have np (n:Nat) (hn:n<2):decide ((n:Int)<((w::v::r).length:Int))=true:=zgu (by rw[zgB,zgB];omega)
 have nq (n:Nat) (hn:n<=2):decide ((n:Int)<=((w::v::r).length:Int))=true:=zgu (by rw[zgB,zgB];omega)
 have e2:((w::v::r).take (((w::v::r).length:Int)).toNat).drop 2=r:=by rw[zgy,List.take_length];rfl
 have e1:((w::v::r).take (((w::v::r).length:Int)).toNat).drop 1=v::r:=by rw[zgy,List.take_length];rfl
 rw[cF c hcut,zgH (show ¬(w=T27\/w=T32\/w=⟨#[100,111]⟩)from fun x=>by rcases x with x|x|x;exact h1 x;exact h2 x;exact h3 x)]
 refine ES (fun k=>Bm k c _) (EY (nq 2 (zgC _)) (EY (zgu (Int.le_refl _)) ?_))
 rw[e2,e1]
 refine EB (AE r (by omega) hzr) (EY (nq 1 (by omega)) (EY (zgu (Int.le_refl _)) (EB (AE (v::r) (by rw[zgB];omega) hzv) (EY (np 0 (by omega)) ?_))))
 simp only[zn,zg0]
 have un:Ev (fun _:Nat=>some (c.1.1,c.1.2.1,c.1.2.2.1,c.1.2.2.2.1,c.1.2.2.2.2,c.2.1,c.2.2,T1)) (fl (c,unkB)):=EZ rfl
 have o4:(0:Int)<((w::v::r).length:Int):=zgw (np 0 (by omega))
 have h11:Ev (fun k=>gX k (w::v::r) (x8 (v::r)).2 c.1.1 c.1.2.1 c.1.2.2.1 c.1.2.2.2.1 c.1.2.2.2.2 c.2.1 c.2.2 0 0 0 0 (x8 (v::r)).1)
  (fl (if w=T23/\(x8 (v::r)).2=true/\(x8 (v::r)).1.length=1 then(c,TD ((x8 (v::r)).1.getD 0 0))else(c,unkB))):=by
  refine ES (fun k=>LH k ..) (EY (np 0 (by omega)) ?_)
  simp only[zn,zg0]
  by_cases g:w=T23
  ·refine EY (zgu g) ?_
   by_cases g2:(x8 (v::r)).2=true
   ·refine EY g2 ?_
    by_cases g3:(x8 (v::r)).1.length=1
    ·rw[zgG ⟨g,g2,g3⟩]
     exact EY (by simp[g3]) (EY (zgu (by omega)) (EY (zgu (by omega)) (EB (zch _) (EZ rfl))))
    ·rw[zgH (fun x=>g3 x.2.2)]
     exact EN (by simp;omega) un
   ·rw[zgH (fun x=>g2 x.2.1)]
    exact EN (by simpa using g2) un
  ·rw[zgH (fun x=>g x.1)]
   exact EN (zgv g) un
 have h9:Ev (fun k=>Yn k (w::v::r) (x8 (v::r)).2 c.1.1 c.1.2.1 c.1.2.2.1 c.1.2.2.2.1 c.1.2.2.2.2 c.2.1 c.2.2 0 0 0 0 (x8 (v::r)).1)
  (fl (if w=T17/\(x8 (v::r)).2=true/\(x8 (v::r)).1.length=2 then(c,if(xA reF c.2.1.length ((x8 (v::r)).1.getD 0 0) ((x8 (v::r)).1.getD 1 0)).2 then Lw (xA reF c.2.1.length ((x8 (v::r)).1.getD 0 0) ((x8 (v::r)).1.getD 1 0)).1 else noneB)else
    if w=T23/\(x8 (v::r)).2=true/\(x8 (v::r)).1.length=1 then(c,TD ((x8 (v::r)).1.getD 0 0))else(c,unkB))):=by
  refine ES (fun k=>Hj k ..) (EY (np 0 (by omega)) ?_)
  simp only[zn,zg0]
  by_cases g:w=T17
  ·refine EY (zgu g) ?_
   by_cases g2:(x8 (v::r)).2=true
   ·refine EY g2 ?_
    by_cases g3:(x8 (v::r)).1.length=2
    ·rw[zgG ⟨g,g2,g3⟩]
     exact EY (by simp[g3]) (EY (zgu (by omega)) (EY (zgu (by omega)) (EY (zgu (by omega)) (EY (zgu (by omega)) (EB (zd4 hc _ _) (EZ rfl))))))
    ·rw[zgH (fun x=>g3 x.2.2)]
     exact EN (by simp;omega) h11
   ·rw[zgH (fun x=>g2 x.2.1)]
    exact EN (by simpa using g2) h11
  ·rw[zgH (fun x=>g x.1)]
   exact EN (zgv g) h11
 have h7:Ev (fun k=>cN k (w::v::r) (x8 (v::r)).2 c.1.1 c.1.2.1 c.1.2.2.1 c.1.2.2.2.1 c.1.2.2.2.2 c.2.1 c.2.2 0 0 0 0 (x8 (v::r)).1)
  (fl (if w=T26\/w=T17\/w=T23 then(match u5 (v::r)with|some l=>xt reF c w l|none=>(c,unkB))else(c,unkB))):=by
  refine ES (fun k=>Hk k ..) (EY (np 0 (by omega)) ?_)
  simp only[zn,zg0]
  have enum:∀l,u5 (v::r)=some l->(x8 (v::r))=(l,true):=fun l e=>by unfold x8;rw[e]
  have enon:u5 (v::r)=none->(x8 (v::r))=([],false):=fun e=>by unfold x8;rw[e]
  by_cases g:w=T26
  ·rw[zgG (show w=T26\/w=T17\/w=T23 from .inl g)]
   refine EY (zgu g) ?_
   cases e:u5 (v::r)with
   |some l=>
    rw[enum l e]
    have hl:=RK e
    rw[zgB]at hl
    refine EY rfl (EB (AD hc l (by omega)) (EZ ?_))
    show _=fl (xt reF c w l)
    unfold xt
    rw[zgG g];rfl
   |none=>
    rw[enon e]at h9⊢
    refine EN rfl (h9.to ?_)
    rw[zgH (fun x=>by cases x.2.1),zgH (fun x=>by cases x.2.1)]
  ·refine EN (zgv g) (h9.to ?_)
   by_cases gg:w=T26\/w=T17\/w=T23
   ·rw[zgG gg]
    cases e:u5 (v::r)with
    |some l=>
     rw[enum l e]
     show _=fl (xt reF c w l)
     unfold xt
     rw[zgH g]
     simp only[true_and]
    |none=>
     rw[enon e]
     rw[zgH (fun x=>by cases x.2.1),zgH (fun x=>by cases x.2.1)]
   ·rw[zgH gg,zgH (fun x=>gg (.inr (.inl x.1))),zgH (fun x=>gg (.inr (.inr x.1)))]
 have h5:Ev (fun k=>jZ k (w::v::r) (x8 r).2 (x8 (v::r)).2 c.1.1 c.1.2.1 c.1.2.2.1 c.1.2.2.2.1 c.1.2.2.2.2 c.2.1 c.2.2 0 0 0 0 (x8 r).1 (x8 (v::r)).1)
  (fl (if w=T37 then(c,jM reF c (v::r))else
    if w=T26\/w=T17\/w=T23 then(match u5 (v::r)with|some l=>xt reF c w l|none=>(c,unkB))else(c,unkB))):=by
  refine ES (fun k=>Hl k ..) (EY (np 0 (by omega)) ?_)
  simp only[zn,zg0,List.getD_cons_succ]
  by_cases g:w=T37
  ·rw[zgG g]
   have hne:¬(w=T26\/w=T17\/w=T23):=by subst g;decide
   rw[zgH hne]at h7
   refine EY (zgu g) ?_
   cases e:u5 r with
   |none=>
    have ep:x8 r=([],false):=by unfold x8;rw[e]
    rw[ep]
    refine EN rfl (h7.to ?_)
    have:jM reF c (v::r)=unkB:=by
     unfold jM
     split
     ·rename_i hl
      match r,e,hl with
      | [x],e,_=>
        show(if(zA x).2 then _ else _)=_
        unfold u5 at e
        split at e
        ·cases e
        ·rename_i hx;rw[zgH hx]
     ·rfl
    rw[this]
   |some l=>
    have ep:x8 r=(l,true):=by unfold x8;rw[e]
    have hl:=RK e
    rw[ep]
    refine EY rfl ?_
    by_cases g1:l.length=1
    ·refine EY (by simp[g1]) (EY (np 1 (by omega)) (EY (decide_eq_true (by dsimp only;omega)) (EY (decide_eq_true (by dsimp only;omega)) (EB (za0 hc v _) (EZ ?_)))))
     have:jM reF c (v::r)=if(jx reF c.2.1.length (yq v,l.getD 0 0)).2 then vb (jx reF c.2.1.length (yq v,l.getD 0 0)).1 else noneB:=by
      match r,e,hl with
      | [x],e,_=>
        unfold jM
        rw[zgG (show([v,x]:List ByteArray).length=2 from rfl)]
        show(if(zA x).2 then(if(jx reF c.2.1.length (yq v,(zA x).1)).2 then vb (jx reF c.2.1.length (yq v,(zA x).1)).1 else noneB)else unkB)=_
        unfold u5 at e
        split at e
        ·rename_i hx
         rw[zgG hx]
         have:l=[(zA x).1]:=by cases e;rfl
         rw[this];rfl
        ·cases e
      | [],e,hl=>rw[g1]at hl;cases hl
      |_::_::_,e,hl=>rw[g1]at hl;cases hl
     rw[this];rfl
    ·refine EN (by simp;omega) (h7.to ?_)
     have:jM reF c (v::r)=unkB:=by
      unfold jM
      rw[zgH (by rw[zgB];omega)]
     rw[this]
  ·rw[zgH g]
   exact EN (zgv g) h7
 have fin:(if 0<(v::r).length then(c,unkB)else TN reF c w)=(c,unkB):=zgG (by rw[zgB];omega)
 rw[fin]
 by_cases g:w=T31
 ·rw[zgG g,zai]
  have hu:Ev (fun k=>jZ k (w::v::r) (x8 r).2 (x8 (v::r)).2 c.1.1 c.1.2.1 c.1.2.2.1 c.1.2.2.2.1 c.1.2.2.2.2 c.2.1 c.2.2 0 0 0 0 (x8 r).1 (x8 (v::r)).1) (fl (c,unkB)):=by
   refine h5.to ?_
   rw[zgH (by subst g;decide),zgH (by subst g;decide)]
  refine EY (zgu g) ?_
  show Ev _ (fl (match u5 r with|none=>(c,unkB)|some l=>V2 c (v::r) l))
  cases e:u5 r with
  |none=>
   have ep:x8 r=([],false):=by unfold x8;rw[e]
   rw[ep]at hu⊢
   exact EN rfl hu
  |some l=>
   have ep:x8 r=(l,true):=by unfold x8;rw[e]
   rw[ep]at hu⊢
   refine EY rfl (EY (np 1 (by omega)) ?_)
   simp only[List.getD_cons_succ,zg0]
   by_cases g1:v=T0
   ·rw[g1,CY]
    rw[g1]at hu
    exact EN (by decide) hu
   ·refine EY (by rw[zgv g1];rfl) (EY (np 1 (by omega)) ?_)
    have hcl:Ev (fun k=>(cz k (c,v,l)).bind fun y3=>Go.Vt.both (rs:=zm yV.rs) (ios:=ioOf yV.ps) (some y3) (some y3)) (fl (V2 c (v::r) l)):=by
     rw[<-zeL c g1 (RK e)]
     exact EB (DC hc v l) (Ev.both (EZ rfl) (EZ rfl))
    exact Ev.both hcl hcl
 ·rw[zgH g]
  exact EN (zgv g) h5
theorem zeJ {line w v:ByteArray}{r:List ByteArray}(h:cutB line=w::v::r):line=strB (zx w++32::zx (xe (v::r) sp)):=by
 have e:=K0 line
 have e2:zx sp=[32]:=rfl
 rw[h]at e
 rw[<-e]
 unfold xe Mu
 rw[e2,cD,cD,List.map_cons,Pu _ (by simp)]
 unfold zx
 rw[xk]
theorem zeI {line w v:ByteArray}{r:List ByteArray}(h:cutB line=w::v::r):w.size+1<=line.size/\line.extract (w.size+1) line.size=xe (v::r) sp:=by
 have e:=zeJ h
 have hs:line.size=w.size+(1+(xe (v::r) sp).size):=by
  rw[e,zj,zgA,zgB,xm,xm];omega
 refine⟨by omega, ?_⟩
 rw[hs]
 conv=>lhs;rw[e]
 rw[xg]
 have e3:w.size=(zx w).length:=(xm w).symm
 have e4:(xe (v::r) sp).size=(zx (xe (v::r) sp)).length:=(xm _).symm
 rw[zgT (by rw[zgA,zgB];omega),e3]
 have:(zx w++32::zx (xe (v::r) sp)).drop ((zx w).length+1)=zx (xe (v::r) sp):=by
  rw[<-List.drop_drop,List.drop_left];rfl
 rw[this]
 exact xP _
theorem Bu {c:Cn}(hc:CnOk c)(line:ByteArray)(hl:line.size<=1048576):Ev (fun k=>LW k (c,line)) (fl (ju reF c line)):=by
 refine ES (fun k=>Dt k c line) (EB (zd5 hc) ?_)
 simp only[zn]
 unfold ju
 by_cases h1:line=T0
 ·rw[zgG (show line=T0\/line.data.toList.headD 0=35 from .inl h1)];exact EY (zgu h1) (EZ rfl)
 refine EN (zgv h1) (EY (zgu ?_) ?_)
 ·have:line.size≠0:=fun e=>h1 (by
   apply ByteArray.ext
   apply Array.ext'
   have e2:line.data.toList.length=0:=by simpa using e
   rw[List.length_eq_zero_iff.1 e2])
  omega
 have e0:line.data.toList.getD 0 0=line.data.toList.headD 0:=by cases line.data.toList<;>rfl
 rw[e0]
 by_cases h2:line.data.toList.headD 0=35
 ·rw[zgG (show line=T0\/line.data.toList.headD 0=35 from .inr h2),h2];exact EY rfl (EZ rfl)
 rw[zgH (show ¬(line=T0\/line.data.toList.headD 0=35)from fun x=>by rcases x with x|x;exact h1 x;exact h2 x)]
 refine EN ?_ (EB (eU line hl) ?_)
 ·have:¬((line.data.toList.headD 0).toNat:Int)=35:=fun e=>h2 (by
   apply UInt8.toNat_inj.1
   have:(35:UInt8).toNat=35:=rfl
   omega)
  simpa using this
 have hz:∀a∈cutB line,a.size<=1048576:=fun a ha=>by have:=bY line a ha;omega
 have hcl:=M8 line
 cases hcut:cutB line with
 |nil=>exact absurd hcut (Am line)
 |cons w r=>
  rw[hcut]at hz hcl
  cases r with
  |nil=>
   have hw:Ev (fun k=>(Wn k (c,w)).bind fun y3=>Go.Vt.both (rs:=zm yg.rs) (ios:=ioOf yg.ps) (some y3) (some y3)) (fl (JJ reF c line)):=
    EB (zd1 hc hcut) (Ev.both (EZ rfl) (EZ rfl))
   exact EY rfl (EY rfl (Ev.both (EY rfl hw) (EY rfl hw)))
  |cons v r=>
   obtain⟨c1,c2⟩:=zeI hcut
   have hrs:(xe (v::r) sp).size<=1048576:=by
    have:=DI line
    rw[hcut]at this
    dsimp only[List.tail_cons]at this
    omega
   have nn:(((w::v::r).length:Int)==1)=false:=by simp;omega
   refine EN nn (EY (zgu (by rw[zgB];omega)) (EY (zgu (by rw[zgB];omega)) ?_))
   simp only[zg0]
   by_cases g1:w=T27
   ·have hsz:w.size+1=7:=by rw[g1];rfl
    rw[hsz]at c1 c2
    refine EY (zgu g1) (EY (zgu (by omega)) (EY (zgu (Int.le_refl _)) ?_))
    rw[cF c hcut,zgG (show w=T27\/w=T32\/w=⟨#[100,111]⟩from .inl g1),zgy,c2,g1]
    exact EB (zaZ hc _ hrs) (Ev.both (EZ rfl) (EZ rfl))
   refine EN (zgv g1) ?_
   by_cases g2:w=T32
   ·have hsz:w.size+1=5:=by rw[g2];rfl
    rw[hsz]at c1 c2
    refine EY (zgu g2) (EY (zgu (by omega)) (EY (zgu (Int.le_refl _)) ?_))
    rw[cF c hcut,zgG (show w=T27\/w=T32\/w=⟨#[100,111]⟩from .inr (.inl g2)),zgy,c2,g2]
    exact EB (zd2 hc _ hrs) (Ev.both (EZ rfl) (EZ rfl))
   refine EN (zgv g2) ?_
   by_cases g3:w=⟨#[100,111]⟩
   ·have hsz:w.size+1=3:=by rw[g3];rfl
    rw[hsz]at c1 c2
    refine EY (zgu g3) (EY (zgu (by omega)) (EY (zgu (Int.le_refl _)) ?_))
    rw[cF c hcut,zgG (show w=T27\/w=T32\/w=⟨#[100,111]⟩from .inr (.inr g3)),zgy,c2,g3]
    exact EB (zf7 hc _ hrs) (Ev.both (EZ rfl) (EZ rfl))
   refine EN (zgv g3) ?_
   rw[zgB,zgB]at hcl
   have hwl:(zx w).length=w.size:=xm w
   exact EB (zfm hc hcut (by omega) hz g1 g2 g3) (EZ rfl)
theorem Hy (s:ByteArray)(hm:s.size<=1048576):Ev (fun k=>WV k s) (cJ s):=by
 have hl:=CQ s
 have hn:0<(eh s).length:=List.length_pos_iff.2 (zae s)
 refine ES (fun k=>LT k s) (EB (Md s hm) ?_)
 unfold cJ
 have e1:IntKind.i64.wrap (((eh s).length:Int)-1)=(((eh s).length-1:Nat):Int):=by rw[ze (by omega) (by omega)];omega
 have e2:(eh s).getD ((eh s).length-1) T0=(eh s).getLastD T0:=by
  rw[List.getLastD_eq_getLast?,List.getLast?_eq_getElem?];rfl
 simp only[zn,e1,zgy,e2]
 refine EY (zgu (by omega)) (EY (zgu (by omega)) (EY (zgu (by omega)) ?_))
 by_cases h:(eh s).getLastD T0=T0
 ·rw[zgG h]
  refine EY (zgu h) (EY (zgu (by omega)) (EY (zgu (by omega)) (EZ ?_)))
  rw[List.drop_zero,List.dropLast_eq_take]
 ·rw[zgH h]
  exact EN (zgv h) (EP _)
theorem Sc (ls:List ByteArray)(h40:ls.length<=40)(hz:∀a∈ls,a.size<=1048576):∀(r:List ByteArray) (i:Nat) (c:Cn) (acc:ByteArray),ls.drop i=r->CnOk c->acc.size<=30001*i->
 Ev (fun k=>vt k ls acc ls (ls.length:Int) (i:Int) c.1.1 c.1.2.1 c.1.2.2.1 c.1.2.2.2.1 c.1.2.2.2.2 c.2.1 c.2.2) ((runLs reF r c acc).2,(ls.length:Int))
 | [],i,c,acc,h,hc,ha=>by
   have a:=zu h
   exact ES (fun k=>ap k ..) (EN a.g (EP _))
 |x::r,i,c,acc,h,hc,ha=>by
  have a:=zh h (zJ (by omega))
  have lt:=a.lt
  refine ES (fun k=>ap k ..) ?_
  simp only[a.g,a.z,a.get,a.w,zgJ,zn]
  have hs:=Gk hc x
  have hk:=AG hc x
  refine EB (Bu hc x (hz x a.mem)) ?_
  show Ev _ ((runLs reF r (ju reF c x).1 (if(ju reF c x).2=T0 then acc else acc++((ju reF c x).2++nl))).2,(ls.length:Int))
  have e2:(fl (ju reF c x)).2.2.2.2.2.2.2=(ju reF c x).2:=rfl
  have en:T25.size=1:=rfl
  rw[e2]
  by_cases e:(ju reF c x).2=T0
  ·rw[zgG e]
   refine EN (by simp[e]) ?_
   exact Sc ls h40 hz r (i+1) (ju reF c x).1 acc a.next hk (by omega)
  ·rw[zgH e,<-ByteArray.append_assoc]
   refine EY (by simp[e]) (EY (zgu (by omega)) (EY (zgu (by rw[zg4];omega)) ?_))
   exact Sc ls h40 hz r (i+1) (ju reF c x).1 (acc++(ju reF c x).2++nl) a.next hk (by
    have:nl.size=1:=rfl
    rw[zg4,zg4];omega)
theorem Hz (s:ByteArray)(hm:s.size<=1048576):Ev (fun k=>WX k s) (sessionF reF s):=by
 refine ES (fun k=>LV k s) (EB (Hy s hm) ?_)
 unfold sessionF
 by_cases h:(cJ s).length>40
 ·rw[zgG h];exact EY (zgu (by omega)) (EP _)
 ·rw[zgH h]
  refine EN (zgv (by omega)) (EB L3 ?_)
  exact Sc (cJ s) (by omega) (fun a ha=>by have:=Lu s a ha;omega) (cJ s) 0 con1 T0 rfl zdn (Nat.zero_le _)
end Qq
