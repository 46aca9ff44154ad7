/-
  The reference's console: cycles, faros, guesses, lines and sessions come to the same.
  Conditions: the console is valid, texts are such as a machine bears.
-/
import Derived.Test.YtdcnefakiajgdaaGreatDoorQda
set_option linter.unusedSimpArgs false
set_option linter.unusedVariables false
namespace Qq
open Go Go.Vt Pt
theorem Ry (n:Nat)(hn:1<=n)(hm:n<=12):Ev (fun k=>uI k (n:Int)) (upTo n):=by
 refine ES (fun k=>U3 k _) (EB (z8 _ _ _) (EN ?_ (j8 n hn hm n 0 (Nat.zero_add n))))
 rw[zgu (by omega),zgu (by omega)];rfl
def permSame:Bool:=(List.range 13).all fun n=>(List.range 10).all fun a=>(List.range 13).all fun k=>
 !(wb (n:Int) ((a:Int),(k:Int)))||(Sj (upTo n) (moveV (upTo n) ((a:Int),(k:Int)))&&decide ((moveV (upTo n) ((a:Int),(k:Int))).map (fun x=>pos (upTo n) (card x))=(moveV (upTo n) ((a:Int),(k:Int))).map card))
theorem BA:permSame=true:=by decide+kernel
theorem DM {n:Nat}(hn:n<=12){m:Int×Int}(h:wb (n:Int) m=true):jx reF n m=((xB (upTo n) m).map card,true):=by
 have hk:=KM h
 obtain⟨a,k⟩:=m
 dsimp only at hk
 have h1:=zgS.1 (zgS.1 (zgS.1 BA n (List.mem_range.2 (by omega))) a.toNat (List.mem_range.2 (by omega))) k.toNat (List.mem_range.2 (by omega))
 rw[Int.toNat_of_nonneg (by omega),Int.toNat_of_nonneg (by omega),h]at h1
 simp only[Bool.not_true,Bool.false_or,zgx,zgI]at h1
 rw[<-zgc]at h1
 unfold jx
 rw[zgG h]
 show(if Sj (upTo n) (xB (upTo n) (a,k))then((xB (upTo n) (a,k)).map fun x=>pos (upTo n) (card x),true)else([],false))=_
 rw[zgG h1.1,h1.2]
theorem Ki (q:List Int)(hq:q.length<=12):∀(r:List Int) (i:Nat),q.drop i=r->Ev (fun k=>jm k (q.length:Int) (i:Int) ((q.take i).map card) q) (q.map card,true)
 | [],i,h=>by
   have a:=zu h
   refine ES (fun k=>ar k ..) (EN a.g (EZ ?_))
   rw[zgT a.ge]
 |x::r,i,h=>by
  have a:=zh h (zJ (by omega))
  have ih:=Ki q hq r (i+1) a.next
  have e1:(q.take (i+1)).map card=(q.take i).map card++[card x]:=by
   rw[Zw h,List.map_append];rfl
  rw[e1]at ih
  refine ES (fun k=>ar k ..) ?_
  simp only[a.g,a.z,a.n,a.get,a.w,zgJ]
  refine EB (uJ x) (EY ?_ ih)
  rw[za]
  exact zgu (by simp;omega)
theorem HA {n:Nat}(hn:n<=12)(m:Int×Int):Ev (fun k=>WY k ((n:Int),m)) (jx reF n m):=by
 refine ES (fun k=>LZ k ..) (EB (YG _ m) ?_)
 cases h:wb (n:Int) m with
 |false=>
  unfold jx
  rw[zgH (by rw[h];decide)]
  exact EY rfl (EZ rfl)
 |true=>
  rw[DM hn h]
  have hf:=ZP h
  have hs:=Up hn h
  have hl:=wc n
  obtain⟨f1,f2⟩:=xf (c:=(upTo n,-1)) (by rw[hl];exact QN hn)
  have h12:(xB (upTo n) m).length<=12:=by have:=hs.len;dsimp only at this;omega
  exact EN rfl (EB (Ry n hf.n1 hn) (EB (Ui (upTo n) m (by rw[hl];exact hf) f2) (Ki _ h12 _ 0 rfl)))
theorem zea {n:Nat}(hn:n<=12)(m:Int×Int):(jx reF n m).1.length<=12:=by
 cases h:wb (n:Int) m with
 |false=>unfold jx;rw[zgH (by rw[h];decide)];exact Nat.zero_le _
 |true=>
  rw[DM hn h]
  have:=(Up hn h).len
  dsimp only at this⊢
  rw[zgN,this];exact hn
theorem za0 {c:Cn}(hc:CnOk c)(w:ByteArray)(k0:Int):Ev (fun k=>TT k (c,w,k0)) (if(jx reF c.2.1.length (yq w,k0)).2 then vb (jx reF c.2.1.length (yq w,k0)).1 else noneB):=by
 obtain⟨s1,s2⟩:=xf hc.sc
 refine ES (fun k=>Hi k c w k0) (EB (U4 w) (EB (HA s1 _) ?_))
 have hl:=zea s1 (yq w,k0)
 cases e2:(jx reF c.2.1.length (yq w,k0)).2 with
 |false=>exact EY rfl (EZ rfl)
 |true=>exact EN rfl (EB (Kb _ (zJ (by omega))) (EZ rfl))
def posY (n:Nat)(a k:Int):Int:=pos (fzF (n+1) (k==0) ((upTo n).take (n/2)) ((upTo n).drop (n/2))) a
def gosS (n i:Nat)(k:Int)(s:List Int×List (List Int)):List Int×List (List Int):=
 if s.1.contains (posY n (s.1.getD i 0) k)then s else(s.1++[posY n (s.1.getD i 0) k],s.2++[s.2.getD i []++[k]])
def bfsS (n:Nat)(to:Int):Nat->Nat->List Int×List (List Int)->Option (List Int×Bool)
 |0,_,_=>none
 |f+1,i,s=>if i<s.1.length then(if s.1.getD i 0=to then some (s.2.getD i [],true)else bfsS n to f (i+1) (gosS n i 1 (gosS n i 0 s)))else some ([],false)
def allS:Bool:=[2,4,6,8,10,12].all fun n=>(List.range n).all fun a=>(List.range n).all fun b=>decide (bfsS n (b:Int) 14 0 ([(a:Int)],[[]])=bfsY n (b:Int) 14 [(a:Int)] [((a:Int),[])])
theorem zfQ:allS=true:=by decide+kernel
structure SkOk (B:Nat)(s:List Int×List (List Int)):Prop where
 same:s.1.length=s.2.length
 len:s.1.length<=B
 each:∀l∈s.2,l.length<=B
theorem SkOk.get {B:Nat}{s:List Int×List (List Int)}(h:SkOk B s)(i:Nat):(s.2.getD i []).length<=B:=by
 rw[List.getD]
 cases e:s.2[i]? with
 |none=>exact Nat.zero_le _
 |some l=>exact h.each l (List.mem_of_getElem? e)
theorem zcV {n i:Nat}{k:Int}{B:Nat}{s:List Int×List (List Int)}(h:SkOk B s):SkOk (B+1) (gosS n i k s):=by
 unfold gosS
 split
 ·exact⟨h.same,by have:=h.len;omega,fun l hl=>by have:=h.each l hl;omega⟩
 ·refine⟨by simp[h.same],by have:=h.len;simp;omega,fun l hl=> ?_⟩
  rcases zgz.1 hl with hl|hl
  ·have:=h.each l hl;omega
  ·have e:l=s.2.getD i []++[k]:=by simpa using hl
   have:=h.get i
   rw[e,zgA];exact Nat.succ_le_succ this
theorem zd3 (n:Nat)(h1:1<=n)(h12:n<=12)(k a:Int)(hk:k=0\/k=1):Ev (fun f=>LK f ((n:Int),k,a)) (posY n a k):=by
 have e:P0 (upTo n) k=fzF (n+1) (k==0) ((upTo n).take (n/2)) ((upTo n).drop (n/2)):=by
  unfold P0
  rw[wc,fz_F (n+1) _ _ _ (by rw[zgL,zgR,wc];omega)]
 have hl:(P0 (upTo n) k).length=n:=by
  unfold P0;rw[GK n _ _ _ (by simp[wc];omega)]
 refine ES (fun f=>Di f _ _ _) (EB (ES (fun f=>Dg f _ _) (EB (Ry n h1 h12) (EB (Nv (upTo n) (by rw[wc];exact h12) k hk) (EP _)))) (EB (jk _ a (zJ (by omega))) (EZ ?_)))
 unfold posY;rw[<-e]
theorem ze7 (n:Nat)(h1:1<=n)(h12:n<=12)(to:Int)(i k:Nat)(hk:k<2){B:Nat}{s:List Int×List (List Int)}(hs:SkOk B s)(hB:B<=1000)(hi:i<s.1.length){r:List Int×Bool}
 (h:Ev (fun f=>xq f (n:Int) to (i:Int) ((k+1:Nat):Int) (gosS n i (k:Int) s).2 (gosS n i (k:Int) s).1) r):
 Ev (fun f=>xq f (n:Int) to (i:Int) (k:Int) s.2 s.1) r:=by
 have hw:IntKind.i64.wrap ((k:Int)+1)=((k+1:Nat):Int):=by rw[ze (by omega) (by omega)];omega
 have hs1:=hs.same
 have hs2:=hs.len
 have hg:=hs.get i
 refine ES (fun f=>ff f _ _ _ _ _ _) (EY (zgu (by omega)) (EY (zgu (by omega)) (EY (zgu (by omega)) (EY (zgu (by rw[zgy];exact hi)) ?_))))
 rw[hw]
 simp only[zgy]
 refine EB (zd3 n h1 h12 (k:Int) _ (by omega)) (EB (Vl s.1 _ (zJ (by omega))) ?_)
 unfold gosS at h
 by_cases e:s.1.contains (posY n (s.1.getD i 0) (k:Int))=true
 ·rw[zgG e]at h
  rw[e]
  exact EN rfl h
 ·rw[zgH e]at h
  have e' :s.1.contains (posY n (s.1.getD i 0) (k:Int))=false:=by simpa using e
  rw[e']
  refine EY rfl (EY (zgu (by rw[za];simp;omega)) (EY (zgu (by omega)) (EY (zgu (by omega)) (EY (zgu (by omega)) (EY (zgu ?_) (EY (zgu ?_) (EY (zgu ?_) h)))))))
  ·rw[za];show 0+(s.2.getD i []).length<=_;omega
  ·rw[za];show(s.2.getD i []).length+1<=_;omega
  ·rw[za];show s.2.length+1<=_;omega
theorem zdv (n:Nat)(h1:1<=n)(h12:n<=12)(to:Int):∀(f i:Nat) (s:List Int×List (List Int)) (r:List Int×Bool) (B:Nat),SkOk B s->B+2*f<=500->i+f<=500->bfsS n to f i s=some r->
 Ev (fun k=>vQ k (n:Int) to (i:Int) s.2 s.1) r
 |0,_,_,_,_,_,_,_,h=>by cases h
 |f+1,i,s,r,B,hs,hB,hi,h=>by
  unfold bfsS at h
  have hs1:=hs.same
  have hs2:=hs.len
  split at h
  ·rename_i hl
   refine ES (fun k=>eC k ..) (EY (zgu (by omega)) (EY (zgu (by omega)) (EY (zgu (by omega)) (EY (zgu (by rw[zgy];exact hl)) ?_))))
   simp only[zgy]
   split at h
   ·rename_i e
    cases h
    have hg:=hs.get i
    refine EY (by rw[e];exact BEq.rfl) (EY (zgu (by omega)) (EY (zgu (by omega)) (EY (zgu (by omega)) (EY (zgu ?_) (EZ rfl)))))
    rw[za];show 0+(s.2.getD i []).length<=_;omega
   ·rename_i e
    refine EN (beq_eq_false_iff_ne.2 e) ?_
    have g1:=zcV (n:=n) (i:=i) (k:=0) hs
    have g2:=zcV (n:=n) (i:=i) (k:=1) g1
    have l1:i<(gosS n i 0 s).1.length:=by
     unfold gosS;split
     ·exact hl
     ·simp;omega
    refine ze7 n h1 h12 to i 0 (by omega) hs (by omega) hl (ze7 n h1 h12 to i 1 (by omega) g1 (by omega) l1 ?_)
    refine ES (fun k=>ff k ..) (EN rfl ?_)
    have hw:IntKind.i64.wrap ((i:Int)+1)=((i+1:Nat):Int):=by rw[ze (by omega) (by omega)];omega
    rw[hw]
    exact zdv n h1 h12 to f (i+1) (gosS n i 1 (gosS n i 0 s)) r (B+2) g2 (by omega) (by omega) h
  ·rename_i hl
   cases h
   exact ES (fun k=>eC k ..) (EN (zgv (by omega)) (EP _))
theorem zd6 (n:Int):Ev (fun k=>Bn k n) (gc n):=by
 refine ES (fun k=>zaV k n) (EB (z8 _ _ _) ?_)
 unfold gc
 cases h:(decide (2<=n)&&decide (n<=12))with
 |true=>
  simp only[zgx,zgI]at h
  refine EY rfl (EZ ?_)
  rw[zgu h.1,zgu h.2,Int.tmod_eq_emod_of_nonneg (by omega)];rfl
 |false=>
  refine EN rfl (EZ ?_)
  rw[<-Bool.and_assoc,h];rfl
theorem DB (n:Nat)(hn:n<=12)(a b:Int):Ev (fun k=>aZ k ((n:Int),a,b)) (xA reF (n:Int) a b):=by
 refine ES (fun k=>Q7 k ..) (EB (zd6 _) ?_)
 have hw:IntKind.i64.wrap ((n:Int)-1)=(n:Int)-1:=ze (by omega) (by omega)
 rw[hw]
 unfold xA
 by_cases hp:gc (n:Int)=true
 ·rw[hp]
  have hp2:=hp
  unfold gc at hp2
  simp only[zgx,zgI,beq_iff_eq]at hp2
  refine EN rfl (EB (z8 _ _ _) ?_)
  by_cases ha:0<=a/\a<n
  ·rw[zgu ha.1,zgu (show a<=(n:Int)-1 by omega)]
   refine EN rfl (EB (z8 _ _ _) ?_)
   by_cases hb:0<=b/\b<n
   ·rw[zgu hb.1,zgu (show b<=(n:Int)-1 by omega),zgG ⟨rfl,ha,hb⟩]
    refine EN rfl ?_
    obtain⟨r,e,hr⟩:=EA hp (a:=a.toNat) (b:=b.toNat) (by omega) (by omega)
    have hY:=e
    rw[zdw]at hY
    have hS:=zgS.1 (zgS.1 (zgS.1 zfQ n (by
     have:n=2\/n=4\/n=6\/n=8\/n=10\/n=12:=by omega
     simp;exact this)) a.toNat (List.mem_range.2 (by omega))) b.toNat (List.mem_range.2 (by omega))
    rw[zgI,hY]at hS
    rw[Int.toNat_of_nonneg ha.1,Int.toNat_of_nonneg hb.1]at e hS
    have e2:reF.bfs ((n:Int)).toNat b 14 [a] [(a,[])]=some r:=e
    rw[e2]
    exact zdv n (by omega) hn b 14 0 ([a],[[]]) r 1 ⟨rfl,zgC _,fun l hl=>by
     have:l=[]:=by simpa using hl
     rw[this];exact Nat.zero_le _⟩ (by omega) (by omega) hS
   ·rw[zgH (fun x=>hb x.2.2)]
    have:(decide (0<=b)&&decide (b<=(n:Int)-1))=false:=by
     by_cases h0:0<=b
     ·rw[zgv (show ¬b<=(n:Int)-1 by omega),Bool.and_false]
     ·rw[zgv h0];rfl
    rw[this]
    exact EY rfl (EZ rfl)
  ·rw[zgH (fun x=>ha x.2.1)]
   have:(decide (0<=a)&&decide (a<=(n:Int)-1))=false:=by
    by_cases h0:0<=a
    ·rw[zgv (show ¬a<=(n:Int)-1 by omega),Bool.and_false]
    ·rw[zgv h0];rfl
   rw[this]
   exact EY rfl (EZ rfl)
 ·rw[zgH (fun x=>hp x.1)]
  have:gc (n:Int)=false:=by simpa using hp
  rw[this]
  exact EY rfl (EZ rfl)
theorem Kh (l:List Int)(hl:l.length<=1048576):∀(r:List Int) (i:Nat),l.drop i=r->Ev (fun k=>wX k (strB ((l.take i).map shB)) l (l.length:Int) (i:Int)) (Lw l)
 | [],i,h=>by
   have a:=zu h
   refine ES (fun k=>cS k ..) (EN a.g ?_)
   rw[zgT a.ge,zn]
   unfold Lw
   by_cases e:l=[]
   ·subst e;exact EY (by decide) (EZ rfl)
   ·rw[zgH e]
    refine EN (zgv fun e2=>e ?_) (EZ rfl)
    have:=congrArg ByteArray.size e2
    rw[zj,zgN]at this
    exact List.length_eq_zero_iff.1 this
 |x::r,i,h=>by
  have a:=zh h (zJ hl)
  have ih:=Kh l hl r (i+1) a.next
  have hs:(strB ((l.take i).map shB)).size<=1048576:=by
   rw[zj,zgN,zgL];omega
  have e1:∀b:UInt8,shB x=b->strB ((l.take i).map shB)++(⟨#[b]⟩:ByteArray)=strB ((l.take (i+1)).map shB):=by
   intro b hb
   rw[Zw h,List.map_append,List.map_cons,List.map_nil,hb]
   apply ByteArray.ext
   simp[strB]
  refine ES (fun k=>cS k ..) ?_
  simp only[a.g,a.z,a.get,a.w,zgJ]
  by_cases hx:x=0
  ·refine EY (by simp[hx]) (EY (zgu ?_) ?_)
   ·have:T43.size=1:=rfl
    omega
   ·rw[e1 79 (by unfold shB;rw[zgG hx])];exact ih
  ·refine EN (by simp[hx]) (EY (zgu ?_) ?_)
   ·have:T44.size=1:=rfl
    omega
   ·rw[e1 73 (by unfold shB;rw[zgH hx])];exact ih
theorem zd4 {c:Cn}(hc:CnOk c)(a b:Int):Ev (fun k=>LF k (c,a,b)) (if(xA reF c.2.1.length a b).2 then Lw (xA reF c.2.1.length a b).1 else noneB):=by
 obtain⟨s1,s2⟩:=xf hc.sc
 have hl:=Wm c.2.1.length a b
 refine ES (fun k=>E8 k c a b) (EB (DB c.2.1.length s1 a b) ?_)
 cases e:(xA reF c.2.1.length a b).2 with
 |false=>exact EY rfl (EZ rfl)
 |true=>exact EN rfl (EB (ES (fun k=>Mf k _) (Kh _ (by omega) _ 0 rfl)) (EZ rfl))
theorem zch (n:Int):Ev (fun k=>QY k n) (TD n):=by
 refine ES (fun k=>Fb k n) ?_
 unfold TD
 by_cases h:1<=n/\n<=8
 ·refine EB (ES (fun k=>W5 k n) (EB (z8 n 1 8) (EN (by rw[zgu h.1,zgu h.2];rfl) (EB (Fe n 8 [] (by simp;omega) (by simp)) (EP _))))) ?_
  by_cases h2:0<=tot n 8 []
  ·rw[zgG ⟨h.1,h.2,h2⟩]
   exact EN (zgv (by omega)) (EB (zY _ (zb3 _ 8 [])) (EP _))
  ·rw[zgH (fun x=>h2 x.2.2)]
   exact EY (zgu (by omega)) (EZ rfl)
 ·rw[zgH (fun x=>h ⟨x.1,x.2.1⟩)]
  have:(decide (1<=n)&&decide (n<=8))=false:=by
   by_cases h0:1<=n
   ·rw[zgv (show ¬n<=8 by omega),Bool.and_false]
   ·rw[zgv h0];rfl
  refine EB (x:= -1) (ES (fun k=>W5 k n) (EB (z8 n 1 8) (EY (by rw[this];rfl) (EP _)))) (EY (by decide) (EZ rfl))
end Qq
