/-
  The console's functions come to what Qco tells in plain terms.
  Conditions: the console is valid, texts are such as a machine bears.
-/
import Derived.Test.YtdcnefakiajgdaaGreatDoorPS
set_option linter.unusedSimpArgs false
set_option linter.unusedVariables false
namespace Qq
open Go Go.Vt Pt
def sw (p:Cn×ByteArray):ByteArray×Cn:=(p.2,p.1)
theorem zJ {n:Nat}(h:n<=1048576):n<=maxLen:=by rw[zc];omega
theorem Be (c:Cn)(t:Trick)(h1:t.1.length<=maxLen)(hi:Ins t.1)(h2:t.2.1.length<=maxLen):Ev (fun k=>zy k (c,t)) (sw (xC c t)):=by
 refine ES (fun k=>PV k c t) (EB (xX t h1 hi h2) ?_)
 unfold xC
 cases zi t with
 |true=>exact EN rfl (EZ rfl)
 |false=>exact EY rfl (EZ rfl)
theorem zb9 (c:Cn)(s:List Int×Int×Bool)(h:s.2.2=true->s.1.length<=maxLen/\Ins s.1):Ev (fun k=>gP k (c,(s.1,s.2.1),s.2.2)) (sw (N8 c s)):=by
 obtain⟨p,n,b⟩:=s
 refine ES (fun k=>PW k c (p,n) b) ?_
 unfold N8
 cases b with
 |true=>
  obtain⟨a1,a2⟩:=h rfl
  exact EN rfl (EB (Tq (p,n) a1 a2) (EZ rfl))
 |false=>exact EY rfl (EZ rfl)
theorem xf {c:Scene}(h:SceneOk c.1.length c):c.1.length<=12/\Ins c.1:=⟨(yn h.ok).2.2,zR h.ok⟩
theorem BL (n:Int):Ev (fun k=>PD k n) (gc n):=by
 refine ES (fun k=>F0 k n) ?_
 unfold gc
 refine EI (fun h=>EI (fun h2=>EZ ?_) (fun h2=>EZ ?_)) (fun h=>EZ ?_)
 ·have a:2<=n:=by simpa using h
  have b:n<=12:=by simpa using h2
  rw[zgu a,zgu b,Int.tmod_eq_emod_of_nonneg (by omega)];rfl
 ·have b:¬n<=12:=by simpa using h2
  rw[zgv b];simp
 ·have a:¬2<=n:=by simpa using h
  rw[zgv a];rfl
theorem zdY (n:Nat)(hn:n<=12)(a k:Int):Ev (fun f=>fW f (a,k,(n:Int))) (Bh n a k):=by
 refine ES (fun f=>Sp f _ _ _) (EB (RU n (by omega)) (EB (Ce (upTo n) (by rw[wc];exact hn) k) (EB (N6 _ _ ?_) (EP _))))
 unfold P0
 rw[GK n _ _ _ (by simp[wc];omega)]
 exact zJ (by omega)
def imLe (B:Nat)(m:List (Int×List Int)):Prop:=∀x l,ua m x=some l->l.length<=B
theorem imLe.mono {B C:Nat}{m:List (Int×List Int)}(h:imLe B m)(hc:B<=C):imLe C m:=fun x l e=>zg1 (h x l e) hc
theorem zcL (m:List (Int×List Int))(n x:Int)(ys:List Int):ua (X8 m n ys) x=if x=n then some ys else ua m x:=by
 induction m with
 |nil=>
  show(bif x==n then some ys else none)=if x=n then some ys else none
  by_cases h:x=n
  ·rw[zgG h,h,BEq.rfl];rfl
  ·have:(x==n)=false:=by simpa using h
   rw[zgH h,this];rfl
 |cons p r ih=>
  obtain⟨a,l⟩:=p
  unfold X8
  by_cases h:n=a
  ·subst h
   rw[BEq.rfl,zgJ]
   show(bif x==n then some ys else ua r x)=if x=n then some ys else(bif x==n then some l else ua r x)
   by_cases h2:x=n
   ·rw[zgG h2,h2,BEq.rfl];rfl
   ·have:(x==n)=false:=by simpa using h2
    rw[zgH h2,this];rfl
  ·have:(n==a)=false:=by simpa using h
   rw[this,zgK]
   show(bif x==a then some l else ua (X8 r n ys) x)=if x=n then some ys else(bif x==a then some l else ua r x)
   by_cases h2:x=a
   ·rw[zgH (fun e=>h (by rw[<-e,h2])),h2,BEq.rfl];rfl
   ·have:(x==a)=false:=by simpa using h2
    rw[this,zgK,zgK,ih]
theorem imLe.set {B:Nat}{m:List (Int×List Int)}(h:imLe B m){n:Int}{ys:List Int}(hy:ys.length<=B):imLe B (X8 m n ys):=by
 intro x l e
 rw[zcL]at e
 split at e
 ·cases e;exact hy
 ·exact h x l e
theorem imLe.getD {B:Nat}{m:List (Int×List Int)}(h:imLe B m)(x:Int):((ua m x).getD []).length<=B:=by
 cases e:ua m x with
 |none=>exact Nat.zero_le _
 |some l=>exact h x l e
theorem ze8 (n:Nat)(a k:Int){B:Nat}{s:List Int×List (Int×List Int)}(h:imLe B s.2):imLe (B+1) (goF n a k s).2/\(goF n a k s).1.length<=s.1.length+1:=by
 unfold goF
 split
 ·exact⟨h.mono (by omega),by omega⟩
 ·refine⟨(h.mono (Nat.le_succ B)).set ?_, ?_⟩
  ·have:=h.getD a
   rw[zgA];exact Nat.succ_le_succ this
  ·rw[zgA];exact zgC _
theorem zgf (n:Nat)(hn:n<=12)(to a:Int)(k:Nat)(hk:k<2){B:Nat}(s:List Int×List (Int×List Int))(hB:imLe B s.2)(hBB:B<=1000)(hq:s.1.length<=1000){r:List Int×Bool}
 (h:Ev (fun f=>zD f to 2 (n:Int) ((k+1:Nat):Int) (goF n a (k:Int) s).2 (a::(goF n a (k:Int) s).1)) r):
 Ev (fun f=>zD f to 2 (n:Int) (k:Int) s.2 (a::s.1)) r:=by
 have hw:IntKind.i64.wrap ((k:Int)+1)=((k+1:Nat):Int):=by rw[ze (by omega) (by omega)];omega
 refine ES (fun f=>xD f _ _ _ _ _ _) (EY (zgu (by omega)) (EY (zgu (by rw[zgB];omega)) (EY (zgu (by rw[zgB];omega)) (EB (zdY n hn a k) ?_))))
 rw[hw]
 unfold goF at h
 cases e:ua s.2 (Bh n a (k:Int))with
 |some l=>
  rw[e]at h
  exact EN rfl h
 |none=>
  rw[e]at h
  have hg:=hB.getD a
  refine EY rfl (EY (zgu (by rw[zgB];omega)) (EY (zgu (by rw[zgB];omega)) (EB (yz ((ua s.2 a).getD []) (by omega)) (EY (zgu ?_) (EY (zgu ?_) h)))))
  ·rw[za]
   show((ua s.2 a).getD []).length+1<=_
   omega
  ·rw[za,zgB]
   show s.1.length+1+1<=_
   omega
theorem zfa (n:Nat)(hn:n<=12)(to:Int):∀(f:Nat) (q:List Int) (m:List (Int×List Int)) (r:List Int×Bool) (B:Nat),imLe B m->B+2*f<=500->q.length+2*f<=500->bfsO n to f q m=some r->
 Ev (fun k=>zO k to 2 (n:Int) m q) r
 |0,_,_,_,_,_,_,_,h=>by cases h
 |f+1,[],m,r,B,hm,hB,hq,h=>by
  cases h
  exact ES (fun k=>xE k ..) (EN rfl (EP _))
 |f+1,a::q,m,r,B,hm,hB,hq,h=>by
  rw[zgB]at hq
  unfold bfsO at h
  refine ES (fun k=>xE k ..) (EY (zgu (by rw[zgB];omega)) (EY (zgu (by rw[zgB];omega)) (EY (zgu (by rw[zgB];omega)) ?_)))
  split at h
  ·rename_i e
   cases h
   refine EY (by simp[e]) (EB (yz _ ?_) (EP _))
   have:=hm.getD to
   omega
  ·rename_i e
   refine EN (by simp[e]) ?_
   obtain⟨g1,g2⟩:=ze8 n a 0 (s:=(q,m)) hm
   obtain⟨g3,g4⟩:=ze8 n a 1 (s:=goF n a 0 (q,m)) g1
   dsimp only at g2
   refine zgf n hn to a 0 (by omega) (q,m) hm (by omega) (by dsimp only;omega) (zgf n hn to a 1 (by omega) (goF n a 0 (q,m)) g1 (by omega) (by omega) ?_)
   refine ES (fun k=>xD k ..) (EN rfl (EY (zgu (by rw[zgB];omega)) (EY (zgu (Int.le_refl _)) ?_)))
   rw[zgy,List.take_length]
   show Ev (fun k=>zO k to 2 (n:Int) (goF n a 1 (goF n a 0 (q,m))).2 (goF n a 1 (goF n a 0 (q,m))).1) r
   exact zfa n hn to f _ _ r (B+2) g3 (by omega) (by omega) h
theorem J8 (n:Nat)(a b:Int):Ev (fun k=>Zm k ((n:Int),a,b)) (xA reF (n:Int) a b):=by
 refine ES (fun k=>PG k ..) (EB (BL _) ?_)
 unfold xA
 by_cases hp:gc (n:Int)=true
 ·rw[hp]
  refine EN rfl ?_
  have hn:n<=12:=by
   unfold gc at hp
   simp only[zgx,zgI]at hp
   omega
  by_cases h:(0<=a/\a<n)/\0<=b/\b<n
  ·rw[zgG ⟨rfl,h⟩]
   obtain⟨⟨h1,h2⟩,h3,h4⟩:=h
   refine EN (zgv (by omega)) (EN (zgv (by omega)) (EN (zgv (by omega)) (EN (zgv (by omega)) ?_)))
   obtain⟨r,e,hr⟩:=EA hp (a:=a.toNat) (b:=b.toNat) (by omega) (by omega)
   rw[Int.toNat_of_nonneg h1,Int.toNat_of_nonneg h3]at e
   have e2:reF.bfs ((n:Int)).toNat b 14 [a] [(a,[])]=some r:=e
   rw[e2]
   refine EB (ES (fun k=>jC k ..) ?_) (EP _)
   exact zfa n hn b 14 [a] [(a,[])] r 0 (fun x l hl=>by
    unfold ua at hl
    cases hx:(x==a)with
    |true=>rw[hx,zgJ]at hl;cases hl;exact zgC _
    |false=>rw[hx,zgK]at hl;cases hl) (by omega) (by simp) e
  ·rw[zgH (fun x=>h x.2)]
   refine EI (fun _=>EP _) (fun c1=>EI (fun _=>EP _) (fun c2=>EI (fun _=>EP _) (fun c3=>EY (zgu ?_) (EP _))))
   simp at c1 c2 c3
   omega
 ·rw[zgH (fun x=>hp x.1)]
  have:gc (n:Int)=false:=by simpa using hp
  rw[this]
  exact EY rfl (EP _)
def shB (k:Int):UInt8:=if k=0 then 79 else 73
theorem Ga (l:List Int)(hl:l.length<=1048576):∀(r:List Int) (i:Nat),l.drop i=r->Ev (fun k=>wZ k (strB ((l.take i).map shB)) l (l.length:Int) (i:Int)) (Lw l)
 | [],i,h=>by
   have a:=zu h
   refine ES (fun k=>bE k ..) (EN a.g ?_)
   rw[zgT a.ge,zn]
   unfold Lw
   by_cases e:l=[]
   ·subst e;exact EY (by decide) (EZ rfl)
   ·rw[zgH e]
    refine EN (zgv fun e2=>e ?_) (EZ rfl)
    have:=congrArg ByteArray.size e2
    rw[zj,zgN]at this
    exact List.length_eq_zero_iff.1 this
 |x::r,i,h=>by
  have a:=zh h (zJ hl)
  have ih:=Ga l hl r (i+1) a.next
  have hs:(strB ((l.take i).map shB)).size<=1048576:=by
   rw[zj,zgN,zgL];omega
  have e1:∀b:UInt8,shB x=b->strB ((l.take i).map shB)++(⟨#[b]⟩:ByteArray)=strB ((l.take (i+1)).map shB):=by
   intro b hb
   rw[Zw h,List.map_append,List.map_cons,List.map_nil,hb]
   apply ByteArray.ext
   simp[strB]
  refine ES (fun k=>bE k ..) ?_
  simp only[a.g,a.z,a.get,a.w,zgJ]
  by_cases hx:x=0
  ·refine EY (by simp[hx]) (EY (zgu ?_) ?_)
   ·have:T43.size=1:=rfl
    omega
   ·rw[e1 79 (by unfold shB;rw[zgG hx])];exact ih
  ·refine EN (by simp[hx]) (EY (zgu ?_) ?_)
   ·have:T44.size=1:=rfl
    omega
   ·rw[e1 73 (by unfold shB;rw[zgH hx])];exact ih
theorem HX (l:List Int)(hl:l.length<=1048576):Ev (fun k=>Y3 k l) (Lw l):=
 ES (fun k=>MB k l) (Ga l hl l 0 rfl)
theorem ET (n:Int):Ev (fun k=>uV k n) (if 1<=n/\n<=8 then tot n 8 []else-1):=by
 refine ES (fun k=>Ju k n) ?_
 by_cases h:1<=n/\n<=8
 ·rw[zgG h]
  exact EN (by simp;omega) (EN (by simp;omega) (EB (zbg n 8 [] (by simp;omega) (by simp)) (EP _)))
 ·rw[zgH h]
  refine EI (fun c=>EP _) (fun c=>EY ?_ (EP _))
  simp at c⊢;omega
theorem zba {c:Cn}(hc:CnOk c)(w:ByteArray)(l:List Int)(hl:l.length<=1048576):Ev (fun k=>gm k (c,w,l)) (sw (xt reF c w l)):=by
 obtain⟨q1,q2,q3,hp⟩:=zk hc.tr
 refine ES (fun k=>UL k c w l) ?_
 unfold xt
 simp only[zn]
 have guess:l.length=1->Ev (fun k=>bif decide (0<(l.length:Int))then(uV k (l.getD 0 0)).bind fun y5=>bif decide (y5>=0)then(zW k y5).bind fun y6=>some (y6,c)else some (T2,c)else none) (sw (c,TD (l.getD 0 0))):=by
  intro e
  refine EY (by rw[e];rfl) (EB (ET _) ?_)
  unfold TD
  by_cases h1:1<=l.getD 0 0/\l.getD 0 0<=8
  ·rw[zgG h1]
   by_cases h2:0<=tot (l.getD 0 0) 8 []
   ·rw[zgG ⟨h1.1,h1.2,h2⟩]
    exact EY (zgu h2) (EB (yf _ (zb3 _ 8 [])) (EP _))
   ·rw[zgH (fun x=>h2 x.2.2)]
    exact EN (zgv h2) (EP _)
  ·rw[zgH h1,zgH (fun x=>h1 ⟨x.1,x.2.1⟩)]
   exact EN rfl (EP _)
 have last:¬(w=T17/\l.length=2)->Ev (fun k=>bif decide (w=T23)then bif((l.length:Int)==1)then bif decide (0<(l.length:Int))then(uV k (l.getD 0 0)).bind fun y5=>bif decide (y5>=0)then(zW k y5).bind fun y6=>some (y6,c)else some (T2,c)else none else some (T1,c)else some (T1,c))
  (sw (if w=T17/\l.length=2 then(c,if(xA reF c.2.1.length (l.getD 0 0) (l.getD 1 0)).2 then Lw (xA reF c.2.1.length (l.getD 0 0) (l.getD 1 0)).1 else noneB)else if w=T23/\l.length=1 then(c,TD (l.getD 0 0))else(c,unkB))):=by
  intro hn
  rw[zgH hn]
  by_cases hg:w=T23
  ·refine EY (zgu hg) ?_
   by_cases h1:l.length=1
   ·rw[zgG ⟨hg,h1⟩]
    exact EY (by simp[h1]) (guess h1)
   ·rw[zgH (fun x=>h1 x.2)]
    exact EN (by simp;omega) (EZ rfl)
  ·rw[zgH (fun x=>hg x.1)]
   exact EN (zgv hg) (EZ rfl)
 by_cases hw:w=T26
 ·rw[zgG hw]
  refine EY (zgu hw) (EB (F6 c.1 l (zJ (by omega)) (zR hp) (zJ (by omega)) hl) ?_)
  refine EB (zb9 c (xr c.1 l) (fun e=> ?_)) (EZ rfl)
  obtain⟨s1,s2⟩:=xf (c:=((xr c.1 l).1,(xr c.1 l).2.1)) (Zh e)
  exact⟨zJ (by dsimp only at s1;omega),s2⟩
 ·rw[zgH hw]
  refine EN (zgv hw) ?_
  by_cases hf:w=T17
  ·refine EY (zgu hf) ?_
   by_cases h2:l.length=2
   ·rw[zgG ⟨hf,h2⟩]
    refine EY (by simp[h2]) (EY (by rw[h2];rfl) (EY (by rw[h2];rfl) (EB (J8 c.2.1.length _ _) ?_)))
    cases e:(xA reF c.2.1.length (l.getD 0 0) (l.getD 1 0)).2 with
    |true=>
     refine EN rfl (EB (HX _ ?_) (EZ rfl))
     have:=Wm c.2.1.length (l.getD 0 0) (l.getD 1 0)
     omega
    |false=>exact EY rfl (EZ rfl)
   ·exact EN (by simp;omega) (last (fun x=>h2 x.2))
  ·exact EN (zgv hf) (last (fun x=>hf x.1))
end Qq
