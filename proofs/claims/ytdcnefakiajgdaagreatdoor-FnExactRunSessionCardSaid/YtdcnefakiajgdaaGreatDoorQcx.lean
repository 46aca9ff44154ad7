/-
  The console's lines come to what Qco tells: words, texts, claims, sessions.
  Conditions: the console is valid, texts are such as a machine bears.
-/
import Derived.Test.YtdcnefakiajgdaaGreatDoorQcw
set_option linter.unusedSimpArgs false
set_option linter.unusedVariables false
namespace Qq
open Go Go.Vt Pt
theorem zbS {p:List Int}(hp:p.length<=12)(hi:Ins p)(m:Int×Int):Ev (fun k=>Jm k (p,m)) (xU reF p m):=by
 refine ES (fun k=>Ck k p m) (EB (xY p (zJ (by omega)) hi) ?_)
 unfold xU
 cases h1:zp p with
 |false=>exact EY rfl (EZ rfl)
 |true=>
  refine EN rfl (EB (Xb _ m) ?_)
  cases h2:wb p.length m with
  |false=>exact EY rfl (EZ rfl)
  |true=>exact EN rfl (EB (ZV p m (ZP h2) hi) (EZ rfl))
theorem zdO:∀n:Fin 13,zp (upTo n.val)=true:=by decide+kernel
theorem QN {n:Nat}(hn:n<=12):SceneOk n (upTo n,-1):=⟨zdO ⟨n,by omega⟩,wc n,by show(-1:Int)<=-1;decide,by show(-1:Int)<12;decide⟩
theorem Up {n:Nat}{m:Int×Int}(hn:n<=12)(h:wb (n:Int) m=true):SceneOk n (xB (upTo n) m,-1):=by
 have hs:zS (n:Int) (1,m,0)=true:=by
  unfold zS
  have hm:=h
  unfold wb at hm
  simp only[zgx,zgI]at hm
  rw[zgG rfl,h]
  simp[hm.1,hm.2.1]
 exact fR (QN hn) hs (xB (upTo n) m,-1) (by unfold zw;rw[zgG rfl];simp)
theorem J9 (p q:List Int)(hp:p.length<=12)(hip:Ins p)(hq:q.length<=12)(hiq:Ins q):∀(r:List Int) (i:Nat),q.drop i=r->Ev (fun k=>uy k p q (q.length:Int) (i:Int) ((q.take i).map fun x=>pos p (card x))) (q.map fun x=>pos p (card x),true)
 | [],i,h=>by
   have a:=zu h
   refine ES (fun k=>bI k ..) (EN a.g (EZ ?_))
   rw[zgT a.ge]
 |x::r,i,h=>by
  have a:=zh h (zJ (by omega))
  have ih:=J9 p q hp hip hq hiq r (i+1) a.next
  have e1:(q.take (i+1)).map (fun x=>pos p (card x))=(q.take i).map (fun x=>pos p (card x))++[pos p (card x)]:=by
   rw[Zw h,List.map_append];rfl
  rw[e1]at ih
  refine ES (fun k=>bI k ..) ?_
  simp only[a.g,a.z,a.get,a.w,zgJ]
  refine EB (wa x (hiq x a.mem)) (EB (bH p (card x) (zJ (by omega)) hip) (EY ?_ ih))
  rw[za]
  exact zgu (by simp;omega)
theorem ER {n:Nat}(hn:n<=12)(m:Int×Int):Ev (fun k=>VD k ((n:Int),m)) (jx reF n m):=by
 refine ES (fun k=>Jl k ..) (EB (Xb _ m) ?_)
 unfold jx
 cases h:wb (n:Int) m with
 |false=>exact EY rfl (EZ rfl)
 |true=>
  have hu:=RU n (by omega)
  have hl:=wc n
  have hf:=ZP h
  obtain⟨f1,f2⟩:=xf (c:=(upTo n,-1)) (by rw[hl];exact QN hn)
  have hs:=Up hn h
  have h12:(xB (upTo n) m).length<=12:=by have:=hs.len;dsimp only at this;omega
  have hi2:=zR hs.ok
  dsimp only at f1 f2 hi2
  refine EN rfl (EB hu (EB hu (EB (ZV (upTo n) m (by rw[hl];exact hf) f2) (EB (ES (fun k=>MC k ..) (EB (aO (upTo n) (xB (upTo n) m) (zJ (by omega)) f2 (zJ (by omega)) hi2) ?_)) (EZ rfl)))))
  show Ev _ (if Sj (upTo n) (xB (upTo n) m)then((xB (upTo n) m).map fun x=>pos (upTo n) (card x),true)else([],false))
  cases Sj (upTo n) (xB (upTo n) m)with
  |false=>exact EY rfl (EP _)
  |true=>exact EN rfl (J9 (upTo n) (xB (upTo n) m) f1 f2 h12 hi2 _ 0 rfl)
theorem zdf {c:Cn}(hc:CnOk c)(ws:List ByteArray)(hw:∀a∈ws,a.size<=1048576):Ev (fun k=>fZ k (c,ws)) (sw (c,jM reF c ws)):=by
 obtain⟨s1,s2⟩:=xf hc.sc
 refine ES (fun k=>Sw k c ws) ?_
 unfold jM
 by_cases h:ws.length=2
 ·rw[zgG h]
  have g1:ws.getD 1 T0∈ws:=by
   rw[List.getD,zgD (by omega)];exact zg2 _
  refine EN (by simp[h]) (EY (by rw[h];rfl) (EB (wP _ (hw _ g1)) ?_))
  cases e:(zA (ws.getD 1 T0)).2 with
  |false=>exact EY rfl (EZ rfl)
  |true=>
   refine EN rfl (EY (by rw[h];rfl) (EB (Tz _) (EB (ER s1 _) ?_)))
   cases e2:(jx reF c.2.1.length (yq (ws.getD 0 T0),(zA (ws.getD 1 T0)).1)).2 with
   |false=>exact EY rfl (EZ rfl)
   |true=>
    refine EN rfl (EB (Jx _ (zJ ?_)) (EZ rfl))
    unfold jx
    split
    ·rename_i hm
     split
     ·have:=(Up s1 hm).len
      dsimp only at this
      show((xB (upTo c.2.1.length) _).map _).length<=_
      rw[zgN,this];omega
     ·exact Nat.zero_le _
    ·exact Nat.zero_le _
 ·rw[zgH h]
  exact EY (by simp;omega) (EZ rfl)
theorem Kx (s:ByteArray):Ins (zP s).1:=by
 unfold zP
 split
 ·intro x hx;cases hx
 ·cases allO ZL (cutB s)with
  |none=>intro x hx;cases hx
  |some ys=>
   show Ins (if zp ([]++ys)=true then([]++ys,true)else([],false)).1
   rw[List.nil_append]
   by_cases h:zp ys=true
   ·rw[zgG h];exact zR h
   ·rw[zgH h];intro x hx;cases hx
theorem zfi {c:Cn}(hc:CnOk c)(w r:ByteArray)(hr:r.size<=1048576):Ev (fun k=>va k (c,w,r)) (sw (aV reF c w r)):=by
 obtain⟨q1,q2,q3,hp⟩:=zk hc.tr
 obtain⟨s1,s2⟩:=xf hc.sc
 refine ES (fun k=>PU k c w r) ?_
 unfold aV
 simp only[zn]
 by_cases h1:w=T27
 ·rw[zgG h1]
  have hl:=Vg r
  have hi:=Kx r
  refine EY (zgu h1) (EB (MD r hr) ?_)
  cases e:(zP r).2 with
  |false=>exact EY rfl (EZ rfl)
  |true=>
   refine EN rfl (EB (Be c ((zP r).1,[],0,0,0) (zJ (by dsimp only;omega)) hi (Nat.zero_le _)) ?_)
   unfold xC
   by_cases ht:zi ((zP r).1,[],0,0,0)=true
   ·rw[zgG ht,zgG rfl,zgG ht]
    refine EY (decide_eq_true rfl) (EB (cx ((zP r).1,[],0,0,0) (zJ (by dsimp only;omega)) hi (Nat.zero_le _)) (EZ ?_))
    unfold xN
    rw[zgG ht];rfl
   ·rw[zgH ht,zgG rfl,zgH ht]
    exact EN (zgv (show ¬noneB=T34 by decide)) (EZ rfl)
 ·rw[zgH h1]
  refine EN (zgv h1) ?_
  by_cases h2:w=T32
  ·rw[zgG h2]
   refine EY (zgu h2) (EB (HM r hr) ?_)
   show Ev _ (sw (if(zQ r).2.2.2.2 then xC c (c.1.1,c.1.2.1++[((zQ r).1,((zQ r).2.1,(zQ r).2.2.1),(zQ r).2.2.2.1)],c.1.2.2)else(c,unkB)))
   cases e:(zQ r).2.2.2.2 with
   |false=>exact EY rfl (EZ rfl)
   |true=>
    refine EN rfl (EB (fG c.1 (by omega) (by omega)) (EY ?_ (EB (Be c (c.1.1,c.1.2.1++[((zQ r).1,((zQ r).2.1,(zQ r).2.2.1),(zQ r).2.2.2.1)],c.1.2.2) (zJ (by dsimp only;omega)) (zR hp) (zJ (by simp;omega))) (EZ rfl))))
    rw[za]
    exact zgu (by simp;omega)
  ·rw[zgH h2]
   refine EN (zgv h2) (EB (Tv r hr) ?_)
   cases e:(zq r).2.2 with
   |false=>exact EY rfl (EZ rfl)
   |true=>
    refine EN rfl (EB (zbS s1 s2 _) (EB (zb9 c ((xU reF c.2.1 ((zq r).1,(zq r).2.1)).1,c.2.2,(xU reF c.2.1 ((zq r).1,(zq r).2.1)).2) (fun e2=> ?_)) (EZ rfl)))
    obtain⟨t1,t2⟩:=xf (c:=((xU reF c.2.1 ((zq r).1,(zq r).2.1)).1,c.2.2)) (YN hc.sc e2)
    exact⟨zJ (by dsimp only at t1⊢;omega),t2⟩
theorem Ay {t:Trick}(h:zi t=true):Ev (fun k=>fA k t) (yA t)/\Ev (fun k=>aM k (yA t,T40)) (xe (yA t) semi):=by
 obtain⟨q1,q2,q3,hp⟩:=zk h
 obtain⟨ca,cb⟩:=JU h
 refine⟨Jc t (zJ (by omega)) (zR hp) (zJ (by omega)) ca cb,Qe _ semi ?_ ?_⟩
 ·have:=KS h;omega
 ·have:=Ub h;omega
theorem AA {t:Trick}(e:(yU t).2.2.2.2.2=true):zi ((yU t).1,(yU t).2.1,(yU t).2.2.1,(yU t).2.2.2.1,(yU t).2.2.2.2.1)=true:=by
 unfold yU at e⊢
 split at e
 ·rename_i hh
  rw[zgG hh]
  exact(ul (Ly hh)).1
 ·cases e
theorem zfd {c:Cn}(hc:CnOk c)(w:ByteArray):Ev (fun k=>Zq k (c,w)) (sw (TN reF c w)):=by
 obtain⟨q1,q2,q3,hp⟩:=zk hc.tr
 refine ES (fun k=>PS k c w) ?_
 unfold TN
 simp only[zn]
 by_cases h1:w=T45
 ·rw[zgG h1]
  exact EY (zgu h1) (EB (Mv c.1 (zJ (by omega)) (zR hp) (zJ (by omega))) (EZ rfl))
 ·rw[zgH h1]
  refine EN (zgv h1) ?_
  by_cases h2:w=T42
  ·rw[zgG h2]
   refine EY (zgu h2) (EB (PH c.1 (by omega) (zR hp) (by omega)) ?_)
   by_cases e:(yU c.1).2.2.2.2.2=true
   ·have e' :(reF.sh c.1).2.2.2.2.2=true:=e
    rw[zgG e']
    obtain⟨a1,a2⟩:=Ay (AA e)
    refine EN (by rw[e];rfl) (EB a1 (EB a2 (EZ rfl)))
   ·have e' :¬(reF.sh c.1).2.2.2.2.2=true:=e
    rw[zgH e']
    have:(yU c.1).2.2.2.2.2=false:=by simpa using e
    exact EY (by rw[this];rfl) (EZ rfl)
  ·rw[zgH h2]
   refine EN (zgv h2) ?_
   by_cases h3:w=T49
   ·rw[zgG h3]
    obtain⟨a1,a2⟩:=Ay hc.tr
    exact EY (zgu h3) (EB a1 (EB a2 (EZ rfl)))
   ·rw[zgH h3]
    exact EN (zgv h3) (EZ rfl)
end Qq
