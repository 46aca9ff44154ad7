/-
  What the laws lean on: what the functions come to.
  Conditions: numbers and lengths are such as a machine bears.
-/
import Derived.Test.YtdcnefakiajgdaaGreatDoorPt
import Derived.Test.YtdcnefakiajgdaaGreatDoorVd
import Derived.Laws.BitsLemmas
import Derived.Lib.ItoaLen
import Derived.Test.YtdcnefakiajgdaaGreatDoorCmf
set_option linter.unnecessarySimpa false
set_option linter.unusedSimpArgs false
set_option linter.unusedVariables false
namespace Qq
open Go Go.Vt
theorem zc:maxLen=9223372036854775807:=by unfold maxLen;decide
theorem za:rowMax=4294967296:=rfl
theorem ze {x:Int}(h1: -9223372036854775808<=x)(h2:x<=9223372036854775807):IntKind.i64.wrap x=x:=by
 rw[IntKind.wrap_i64];omega
def In (x:Int):Prop:= -9223372036854775808<=x/\x<=9223372036854775807
theorem In.of_fits {x:Int}(h:Fits (.int .i64) x):In x:=by
 have h' :IntKind.i64.min<=x/\x<=IntKind.i64.max:=h
 have e1:IntKind.i64.min= -9223372036854775808:=by decide
 have e2:IntKind.i64.max=9223372036854775807:=by decide
 unfold In;rw[e1,e2]at h';exact h'
def Ins (xs:List Int):Prop:=∀x∈xs,In x
structure AtCons {α:Type}(xs:List α)(i:Nat)(y:α)(rest:List α):Prop where
 lt:i<xs.length
 g:decide ((i:Int)<(xs.length:Int))=true
 z:decide ((0:Int)<=(i:Int))=true
 n:decide ((i:Int).toNat<xs.length)=true
 get:∀d,xs.getD (i:Int).toNat d=y
 w:IntKind.i64.wrap ((i:Int)+1)=((i+1:Nat):Int)
 next:xs.drop (i+1)=rest
 mem:y∈xs
 gt:∀d,xs.getD i d=y
 le:decide ((i:Int)<=(xs.length:Int))=true
theorem zh {α:Type}{xs:List α}{i:Nat}{y:α}{rest:List α}(h:xs.drop i=y::rest)(hm:xs.length<=maxLen):AtCons xs i y rest:=by
 rw[zc]at hm
 have lt:i<xs.length:=by
  rcases Nat.lt_or_ge i xs.length with h1|h1
  ·exact h1
  ·rw[List.drop_eq_nil_of_le h1]at h;cases h
 have e:=List.drop_eq_getElem_cons lt
 rw[e]at h
 have hy:xs[i]=y:=by injection h
 refine⟨lt,by simp;omega,by simp,by simp;omega,fun d=>by simp[List.getD,lt,hy],by rw[ze (by omega) (by omega)];simp,by injection h,by rw[<-hy];exact zg2 lt,fun d=>by simp[List.getD,lt,hy],by simp;omega⟩
structure AtNil {α:Type}(xs:List α)(i:Nat):Prop where
 ge:xs.length<=i
 g:decide ((i:Int)<(xs.length:Int))=false
theorem zu {α:Type}{xs:List α}{i:Nat}(h:xs.drop i=[]):AtNil xs i:=by
 have ge:xs.length<=i:=List.drop_eq_nil_iff.1 h
 exact⟨ge,by simp;omega⟩
structure AtUp (n:Int)(i:Nat):Prop where
 lt:(i:Int)<n
 g:decide ((i:Int)<n)=true
 z:decide ((0:Int)<=(i:Int))=true
 w:IntKind.i64.wrap ((i:Int)+1)=((i+1:Nat):Int)
theorem Ag {n:Int}{i:Nat}(h:(i:Int)<n)(hn:n<=9223372036854775807):AtUp n i:=
 ⟨h,by simp[h],by simp,by rw[ze (by omega) (by omega)];simp⟩
theorem JY {n:Int}{i:Nat}(h:n<=(i:Int)):decide ((i:Int)<n)=false:=by simp[h]
end Qq
namespace Qq
open Go Go.Vt Pt
def strB (l:List UInt8):ByteArray:=⟨l.toArray⟩
theorem eN (a b:List UInt8):strB a++strB b=strB (a++b):=by unfold strB;apply ByteArray.ext;simp
theorem zj (a:List UInt8):(strB a).size=a.length:=by simp[strB,ByteArray.size]
theorem zdX (x:Int):gQ [x]=strB [UInt8.ofNat x.toNat]:=rfl
def yk (n:Int):ByteArray:=strB (Lib.itoa n)
theorem um {u:Nat}(h:u<10):Lib.decDigits u=[UInt8.ofNat (48+u)]:=by rw[Lib.decDigits,dif_pos h]
theorem Xi {u:Nat}(h:¬u<10):Lib.decDigits u=Lib.decDigits (u/10)++[UInt8.ofNat (48+u % 10)]:=by rw[Lib.decDigits,dif_neg h]
theorem dig (d:Nat)(h:d<10):gQ [IntKind.u8.wrap (IntKind.i64.wrap ((48:Int)+(d:Int)))]=strB [UInt8.ofNat (48+d)]:=by
 rw[ze (by omega) (by omega),zdX]
 have:IntKind.u8.wrap ((48:Int)+d)=((48+d:Nat):Int):=by
  have h2:(48:Int)+d<256:=by omega
  unfold IntKind.wrap
  have e:(2 ^ IntKind.u8.bits:Int)=256:=by decide
  have e2:IntKind.u8.signed=false:=rfl
  simp only[e,e2,Bool.false_and,Bool.false_eq_true,if_false]
  omega
 rw[this,zgy]
theorem Pg:∀(n:Nat) (s:List UInt8),(n:Int)<=9223372036854775807->s.length+n<=9223372036854775807+1000->(Lib.decDigits n).length+s.length<=1000->Ev (fun k=>gH k (n:Int) (strB s)) (strB (Lib.decDigits n++s)):=by
 intro n
 induction n using Nat.strongRecOn with
 |_ n ih=>
  intro s hn _ hl
  refine ES (fun k=>Ph k ..) (EI (fun h=> ?_) (fun h=> ?_))
  ·have h10:¬n<10:=by simp at h;omega
   have e1:((n:Int).tmod 10)=((n % 10:Nat):Int):=by rw[Int.tmod_eq_emod_of_nonneg (by omega)];omega
   have e2:((n:Int).tdiv 10)=((n/10:Nat):Int):=by rw[Int.tdiv_eq_ediv_of_nonneg (by omega)];omega
   rw[Xi h10]at hl⊢
   simp only[zgA,List.length_singleton]at hl
   rw[e1,e2,dig _ (Nat.mod_lt _ (by omega)),eN,ze (x:=((n/10:Nat):Int)) (by omega) (by omega)]
   refine EY (by rw[zj,zj];simp;omega) ?_
   rw[zgU]
   exact ih (n/10) (by omega) _ (by omega) (by simp;omega) (by simp;omega)
  ·have h10:n<10:=by simp at h;omega
   rw[um h10]at hl⊢
   rw[dig n h10,eN]
   exact EY (by rw[zj,zj];simp at hl⊢;omega) (EP _)
theorem zda (u:Nat)(h:(u:Int)<=9223372036854775808):(Lib.decDigits u).length<=20:=by
 have:=Lib.nDigits_le20 u (by omega)
 rw[Lib.decDigits_length];exact this
theorem Ka:∀(u:Nat),1<=u->(u:Int)<=9223372036854775808->Ev (fun k=>zM k (-(u:Int))) (strB (45::Lib.decDigits u)):=by
 intro u
 induction u using Nat.strongRecOn with
 |_ u ih=>
  intro h1 hu
  have hl:=zda u hu
  have e1:((-(u:Int)).tmod 10)= -((u % 10:Nat):Int):=by rw[Int.neg_tmod,Int.tmod_eq_emod_of_nonneg (by omega)];omega
  have e2:((-(u:Int)).tdiv 10)= -((u/10:Nat):Int):=by rw[Int.neg_tdiv,Int.tdiv_eq_ediv_of_nonneg (by omega)];omega
  refine ES (fun k=>U5 k _) (EY (by simp;omega) ?_)
  rw[e1,e2,ze (x:= -((u/10:Nat):Int)) (by omega) (by omega)]
  refine EI (fun h=> ?_) (fun h=> ?_)
  ·have h10:u<10:=by simp at h;omega
   have e3:(48:Int)-(-(u:Int))=48+(u:Int):=by omega
   have e4:T28=strB [45]:=rfl
   rw[e3,dig u h10,e4,eN,um h10]
   exact EY (by rw[zj,zj];rfl) (EP _)
  ·have h10:¬u<10:=by simp at h;omega
   have e3:(48:Int)-(-((u % 10:Nat):Int))=48+((u % 10:Nat):Int):=by omega
   rw[Xi h10]at hl⊢
   simp only[zgA,List.length_singleton]at hl
   refine EB (ih (u/10) (by omega) (by omega) (by omega)) ?_
   rw[e3,dig _ (Nat.mod_lt _ (by omega)),eN]
   exact EY (by rw[zj,zj];simp;omega) (EP _)
theorem zY (n:Int)(hn:In n):Ev (fun k=>zM k n) (yk n):=by
 unfold In at hn
 by_cases h:n<0
 ·have:=Ka n.natAbs (by omega) (by omega)
  have e:(-((n.natAbs:Nat):Int))=n:=by omega
  rw[e]at this
  refine this.to ?_
  unfold yk Lib.itoa
  rw[zgG h]
 ·have hl:=zda n.toNat (by omega)
  have:=Pg n.toNat [] (by omega) (by simp;omega) (by simp;omega)
  have e:((n.toNat:Nat):Int)=n:=by omega
  rw[e]at this
  refine ES (fun k=>U5 k n) (EN (by simpa using h) (this.to ?_))
  unfold yk Lib.itoa
  rw[zgH h,List.append_nil]
theorem zfS (n:Int)(hn:In n):Ev (fun k=>strconv_Itoa k n) (yk n):=by
 refine Ev.congr (fun k=>Ln k n) ?_
 unfold itoaF
 refine EY ?_ (EP _)
 unfold In at hn
 simp;exact hn
theorem yf (n:Int)(hn:In n):Ev (fun k=>zW k n) (yk n):=
 ES (fun k=>HR k n) (EB (zfS n hn) (EP _))
theorem zN (n:Int)(hn:In n):(yk n).size<=21:=by
 unfold In at hn
 rw[yk,zj]
 exact Lib.itoa_length_le n hn.1 hn.2
theorem vG {d:Nat}(h:d<10):(UInt8.ofNat (48+d)).toNat=48+d:=by rw[UInt8.toNat_ofNat'];omega
theorem zaa (u:Nat):Lib.decDigits u≠[]:=by
 by_cases h:u<10
 ·rw[um h];simp
 ·rw[Xi h];simp
theorem Qu (u:Nat):∀b∈Lib.decDigits u,48<=b.toNat/\b.toNat<=57:=by
 induction u using Nat.strongRecOn with
 |_ u ih=>
  intro b hb
  by_cases h:u<10
  ·rw[um h]at hb
   rw[List.mem_singleton.1 hb,vG h];omega
  ·rw[Xi h]at hb
   rcases zgz.1 hb with h1|h1
   ·exact ih _ (by omega) b h1
   ·rw[List.mem_singleton.1 h1,vG (Nat.mod_lt _ (by omega))]
    have:=Nat.mod_lt u (show 0<10 by omega)
    omega
theorem U8:∀(l m:List UInt8) (acc:Nat),Lib.parseUint10 acc (l++m)=match Lib.parseUint10 acc l with| .ok v=>Lib.parseUint10 v m|e=>e
 | [],m,acc=>rfl
 |c::r,m,acc=>by
  simp only[List.cons_append,Lib.parseUint10]
  split
  ·split
   ·rfl
   ·split
    ·rfl
    ·exact U8 r m _
  ·rfl
theorem Ky (u:Nat):u<18446744073709551616->Lib.parseUint10 0 (Lib.decDigits u)= .ok u:=by
 induction u using Nat.strongRecOn with
 |_ u ih=>
  intro hu
  by_cases h:u<10
  ·rw[um h]
   simp only[Lib.parseUint10]
   rw[zgG (by rw[vG h];omega),zgH (by omega),zgH (by rw[vG h];omega),vG h]
   simp
  ·have hm:=Nat.mod_lt u (show 0<10 by omega)
   rw[Xi h,U8,ih (u/10) (by omega) (by omega)]
   simp only[Lib.parseUint10]
   rw[zgG (by rw[vG hm];omega),zgH (by omega),zgH (by rw[vG hm];omega),vG hm]
   congr 1;omega
theorem zdy (n:Int)(hn:In n):Lib.atoiAll (Lib.itoa n)= .ok n:=by
 unfold In at hn
 unfold Lib.itoa
 by_cases h:n<0
 ·rw[zgG h]
  have h45:(45:UInt8).toNat=45:=rfl
  simp only[Lib.atoiAll,h45]
  rw[zgG (Or.inr trivial)]
  unfold Lib.parseMag
  rw[zgH (zaa _),Ky _ (by omega)]
  simp only
  rw[zgH (fun e=>e.1 trivial),zgH (fun e=>by have:=e.2;omega),zgG trivial]
  congr 1
  omega
 ·rw[zgH h]
  have hne:=zaa n.toNat
  have hd:=Qu n.toNat
  cases hl:Lib.decDigits n.toNat with
  |nil=>exact absurd hl hne
  |cons c r=>
   have hc:=hd c (by rw[hl];simp)
   simp only[Lib.atoiAll]
   rw[zgH (by omega),<-hl]
   unfold Lib.parseMag
   rw[zgH hne,Ky _ (by omega)]
   simp only
   have h45:¬c.toNat=45:=by omega
   rw[zgH (fun e=>by have:=e.2;omega),zgH (fun e=>h45 e.1),zgH h45]
   congr 1
   omega
theorem xP (s:ByteArray):strB s.data.toList=s:=by unfold strB;apply ByteArray.ext;simp
theorem xk (l:List UInt8):(strB l).data.toList=l:=by unfold strB;simp
def zA (s:ByteArray):Int×Bool:=match Lib.atoiAll s.data.toList with| .ok v=>if yk v=s then(v,true)else(0,false)|_=>(0,false)
theorem br (n:Int)(hn:In n):zA (yk n)=(n,true):=by
 unfold zA
 rw[yk,xk,zdy n hn]
 simp only
 rw[zgG (by rw[yk])]
theorem BD {s:ByteArray}{n:Int}(h:zA s=(n,true)):In n/\s=yk n:=by
 unfold zA at h
 cases hc:Lib.atoiAll s.data.toList with
 |ok v=>
  rw[hc]at h
  simp only at h
  split at h
  ·rename_i he
   injection h with h1 h2
   subst h1
   exact⟨Lib.atoiAll_bounds hc,he.symm⟩
  ·injection h with h1 h2;cases h2
 |_=>rw[hc]at h;injection h with h1 h2;cases h2
theorem DN {s:ByteArray}(h:∀n,In n->s≠yk n):zA s=(0,false):=by
 unfold zA
 cases hc:Lib.atoiAll s.data.toList with
 |ok v=>
  simp only
  rw[zgH (fun e=>h v (Lib.atoiAll_bounds hc) e.symm)]
 |_=>rfl
theorem NA (s:ByteArray):(∃n,In n/\s=yk n/\zA s=(n,true))\/(zA s=(0,false)/\∀n,In n->s≠yk n):=by
 by_cases h:∃n,In n/\s=yk n
 ·obtain⟨n,h1,h2⟩:=h
  exact .inl ⟨n,h1,h2,by rw[h2];exact br n h1⟩
 ·have h' :∀n,In n->s≠yk n:=fun n h1 h2=>h ⟨n,h1,h2⟩
  exact .inr ⟨DN h',h'⟩
theorem zcI {m n:Int}(hm:In m)(hn:In n)(h:yk m=yk n):m=n:=by
 have:=br m hm
 rw[h,br n hn]at this
 injection this with h1;exact h1.symm
theorem D2 (n:Int):∀b∈Lib.itoa n,b≠32:=by
 intro b hb
 unfold Lib.itoa at hb
 have h1:∀u,b∈Lib.decDigits u->b≠32:=fun u h e=>by have:=Qu u b h;subst e;have e2:(32:UInt8).toNat=32:=rfl;omega
 split at hb
 ·rcases zgO.1 hb with rfl|h
  ·decide
  ·exact h1 _ h
 ·exact h1 _ hb
def xZ (cur:List UInt8):List UInt8->List (List UInt8)
 | []=> [cur]
 |c::r=>if c=32 then cur::xZ [] r else xZ (cur++[c]) r
def cutB (s:ByteArray):List ByteArray:=(xZ [] s.data.toList).map strB
theorem Es (cur l:List UInt8):xZ cur l≠[]:=by
 induction l generalizing cur with
 |nil=>simp[xZ]
 |cons c r ih=>unfold xZ;split;simp;exact ih _
def D1:List (List UInt8)->List UInt8
 | []=> []| [a]=>a|a::b::r=>a++32::D1 (b::r)
theorem Pu (a:List UInt8){l:List (List UInt8)}(h:l≠[]):D1 (a::l)=a++32::D1 l:=by
 cases l with
 |nil=>exact absurd rfl h
 |cons b r=>rfl
theorem BJ (cur l:List UInt8):D1 (xZ cur l)=cur++l:=by
 induction l generalizing cur with
 |nil=>simp[xZ,D1]
 |cons c r ih=>
  unfold xZ
  split
  ·rename_i h
   rw[Pu _ (Es _ _),ih,h];rfl
  ·rw[ih];simp
theorem Qx (a cur:List UInt8)(h:∀b∈a,b≠32):xZ cur a=[cur++a]:=by
 induction a generalizing cur with
 |nil=>simp[xZ]
 |cons c r ih=>
  unfold xZ
  rw[zgH (h c (by simp)),ih _ (fun b hb=>h b (zg3 _ hb))]
  simp
theorem B9 (a cur m:List UInt8)(h:∀b∈a,b≠32):xZ cur (a++32::m)=(cur++a)::xZ [] m:=by
 induction a generalizing cur with
 |nil=>
  show(if(32:UInt8)=32 then cur::xZ [] m else xZ (cur++[32]) m)=_
  rw[zgG rfl,List.append_nil]
 |cons c r ih=>
  rw[List.cons_append,xZ,zgH (h c (by simp)),ih _ (fun b hb=>h b (zg3 _ hb))]
  simp
theorem xg (l:List UInt8)(a b:Nat):(strB l).extract a b=strB ((l.take b).drop a):=by
 apply ByteArray.ext
 apply Array.ext'
 simp[strB,List.drop_take]
theorem Ey (c d:UInt8):(((c.toNat:Nat):Int)==((d.toNat:Nat):Int))=decide (c=d):=by
 by_cases h:c=d
 ·subst h;simp
 ·have:¬c.toNat=d.toNat:=fun e=>h (UInt8.toNat_inj.1 e)
  have h2:¬(((c.toNat:Nat):Int)=((d.toNat:Nat):Int)):=by omega
  simp only[h,decide_false]
  exact beq_eq_false_iff_ne.2 h2
theorem C2 (c:UInt8):((c.toNat:Int)).toNat.toUInt8=c:=by rw[zgy];exact UInt8.ofNat_toNat
theorem Ua {l:List UInt8}{i:Nat}{c:UInt8}{r:List UInt8}(h:l.drop i=c::r):l.take (i+1)=l.take i++[c]:=by
 have lt:i<l.length:=by
  rcases Nat.lt_or_ge i l.length with h1|h1
  ·exact h1
  ·rw[List.drop_eq_nil_of_le h1]at h;cases h
 rw[List.take_succ_eq_append_getElem lt]
 have e:=List.drop_eq_getElem_cons lt
 rw[e]at h
 injection h with h1 h2
 rw[h1]
def sp:ByteArray:=T4
theorem Ha (c:UInt8):Ev (fun k=>strings_IndexByte k (sp,(c.toNat:Int))) (if c=32 then 0 else-1):=by
 refine Ev.congr (fun k=>eo k ..) (EZ ?_)
 rw[C2]
 show Lib.indexByte [32] c=_
 unfold Lib.indexByte
 by_cases h:c=32
 ·subst h;rfl
 ·have:((32:UInt8)==c)=false:=by simp;exact fun e=>h e.symm
  rw[zgH h,zgH (by rw[this];simp)]
  rfl
theorem fT (l:List UInt8)(hm:l.length<=1048576):∀(r:List UInt8) (i f:Nat) (out:List ByteArray),l.drop i=r->f<=i->i<=l.length->out.length<=i->
 Ev (fun k=>vW k (strB l) sp (f:Int) (i:Int) out) (out++(xZ ((l.take i).drop f) r).map strB)
 | [],i,f,out,h,hf,hi,ho=>by
   have a:=zu h
   have hil:i=l.length:=Nat.le_antisymm hi a.ge
   refine ES (fun k=>uw k ..) ?_
   simp only[zj,a.g,zgK,xg]
   refine EY (by simp) (EY (by simp;omega) (EY (by simp) (EY (by rw[za];simp;omega) (EZ ?_))))
   rw[hil]
   simp[xZ]
 |c::r,i,f,out,h,hf,hi,ho=>by
  have a:=zh h (by rw[zc];omega)
  have lt:=a.lt
  refine ES (fun k=>uw k ..) ?_
  simp only[zj,xk,a.g,a.z,a.get,a.w,zgJ,xg]
  refine EB (Ha c) ?_
  unfold xZ
  by_cases hc:c=32
  ·rw[zgG hc,zgG hc]
   refine EY rfl (EY (by simp) (EY (by simp;omega) (EY (by simp;omega) (EY (by rw[za];simp;omega) ?_))))
   refine(fT l hm r (i+1) (i+1) _ a.next (zgC _) (by omega) (by simp;omega)).to ?_
   rw[show(l.take (i+1)).drop (i+1)=[]from List.drop_eq_nil_of_le (by rw[zgL];omega)]
   simp
  ·rw[zgH hc,zgH hc]
   refine EN rfl ?_
   refine(fT l hm r (i+1) f _ a.next (by omega) (by omega) (by omega)).to ?_
   rw[Ua h,List.drop_append_of_le_length (by simp;omega)]
theorem Y1 (s:ByteArray)(hm:s.size<=1048576):Ev (fun k=>gf k (s,sp)) (cutB s):=by
 refine ES (fun k=>R8 k s sp) ?_
 have:=fT s.data.toList (by simpa using hm) _ 0 0 [] rfl (zgC _) (Nat.zero_le _) (zgC _)
 rw[xP]at this
 exact this
theorem fM (l:List UInt8)(hm:l.length<=1048576):∀(r:List UInt8) (i f:Nat) (out:List ByteArray),l.drop i=r->f<=i->i<=l.length->out.length<=i->
 Ev (fun k=>vO k (strB l) sp (f:Int) (i:Int) out) (out++(xZ ((l.take i).drop f) r).map strB)
 | [],i,f,out,h,hf,hi,ho=>by
   have a:=zu h
   have hil:i=l.length:=Nat.le_antisymm hi a.ge
   refine ES (fun k=>uu k ..) ?_
   simp only[zj,a.g,zgK,xg]
   refine EY (by simp) (EY (by simp;omega) (EY (by simp) (EY (by rw[za];simp;omega) (EZ ?_))))
   rw[hil]
   simp[xZ]
 |c::r,i,f,out,h,hf,hi,ho=>by
  have a:=zh h (by rw[zc];omega)
  have lt:=a.lt
  refine ES (fun k=>uu k ..) ?_
  simp only[zj,a.g,zgJ]
  refine ES (fun k=>ut k ..) ?_
  have e1:((sp.size:Nat):Int)=1:=rfl
  have e2:(sp.data.toList.getD (0:Int).toNat 0)=32:=rfl
  simp only[zj,xk,a.g,a.z,a.get,a.w,zgJ,xg,e1,e2,Ey]
  refine EY rfl (EY rfl (EY rfl ?_))
  unfold xZ
  by_cases hc:c=32
  ·rw[zgG hc]
   refine EY (by simp[hc]) (EY (by simp) (EY (by simp;omega) (EY (by simp;omega) (EY (by rw[za];simp;omega) ?_))))
   refine(fM l hm r (i+1) (i+1) _ a.next (zgC _) (by omega) (by simp;omega)).to ?_
   rw[show(l.take (i+1)).drop (i+1)=[]from List.drop_eq_nil_of_le (by rw[zgL];omega)]
   simp
  ·rw[zgH hc]
   refine EN (by simp[hc]) ?_
   refine ES (fun k=>ut k ..) ?_
   simp only[a.w,e1]
   refine EN rfl ?_
   refine(fM l hm r (i+1) f _ a.next (by omega) (by omega) (by omega)).to ?_
   rw[Ua h,List.drop_append_of_le_length (by simp;omega)]
theorem eU (s:ByteArray)(hm:s.size<=1048576):Ev (fun k=>vP k (s,sp)) (cutB s):=by
 refine ES (fun k=>Rq k s sp) ?_
 have:=fM s.data.toList (by simpa using hm) _ 0 0 [] rfl (zgC _) (Nat.zero_le _) (zgC _)
 rw[xP]at this
 exact this
theorem zn (a b:ByteArray):(a.toList==b.toList)=decide (a=b):=by
 by_cases h:a=b
 ·subst h;simp
 ·have:¬a.toList=b.toList:=fun e=>h (by
   rw[ByteArray.toList_eq,ByteArray.toList_eq]at e
   exact ByteArray.ext (Array.ext' e))
  simp[h,this]
theorem wP (s:ByteArray)(hm:s.size<=1048576):Ev (fun k=>vX k s) (zA s):=by
 refine ES (fun k=>F8 k s) (EB (x:=atoiR s.data.toList) (Ev.congr (fun k=>Lo k s) ?_) ?_)
 ·unfold atoiF
  exact EY (by simp;omega) (EP _)
 ·unfold atoiR zA
  cases hc:Lib.atoiAll s.data.toList with
  |ok v=>
   refine EN rfl (EB (yf v (Lib.atoiAll_bounds hc)) ?_)
   simp only[zn]
   by_cases h:yk v=s
   ·rw[zgG h]
    exact EN (by simp[h]) (EP _)
   ·rw[zgH h]
    exact EY (by simp[h]) (EP _)
  |_=>exact EY rfl (EP _)
def allD (l:List UInt8):Bool:=l.all fun b=>decide (48<=b.toNat)&&decide (b.toNat<=57)
theorem XF (l:List UInt8)(hm:l.length<=1048576):∀(r:List UInt8) (i:Nat),l.drop i=r->Ev (fun k=>eX k (strB l) (i:Int)) (allD r&&decide (0<l.length))
 | [],i,h=>by
   have a:=zu h
   refine ES (fun k=>XG k ..) ?_
   simp only[zj,a.g,zgK]
   exact EZ (by simp[allD])
 |c::r,i,h=>by
  have a:=zh h (by rw[zc];omega)
  refine ES (fun k=>XG k ..) ?_
  simp only[zj,xk,a.g,a.z,a.get,a.w,zgJ]
  refine EI (fun h1=>EZ ?_) (fun h1=>EI (fun h2=>EZ ?_) (fun h2=> ?_))
  ·have:¬48<=c.toNat:=by simp at h1;omega
   simp[allD,this]
  ·have:¬c.toNat<=57:=by simp at h2;omega
   simp[allD,this]
  ·refine(XF l hm r (i+1) a.next).to ?_
   have e1:48<=c.toNat:=by simp at h1;omega
   have e2:c.toNat<=57:=by simp at h2;omega
   simp[allD,e1,e2]
theorem Rw (l:List UInt8)(hm:l.length<=1048576):Ev (fun k=>cB k (strB l)) (allD l&&decide (0<l.length)):=
 ES (fun k=>Fz k _) (XF l hm _ 0 rfl)
def runN (acc:Nat):List UInt8->Option Nat
 | []=>some acc
 |c::r=>if(9223372036854775808-(c.toNat-48))/10<acc then none else runN (acc*10+(c.toNat-48)) r
theorem Kp:∀(l m:List UInt8) (acc:Nat),runN acc (l++m)=(runN acc l).bind fun v=>runN v m
 | [],m,acc=>rfl
 |c::r,m,acc=>by
  simp only[List.cons_append,runN]
  split
  ·rfl
  ·exact Kp r m _
theorem zd7 (u:Nat):u<=9223372036854775808->runN 0 (Lib.decDigits u)=some u:=by
 induction u using Nat.strongRecOn with
 |_ u ih=>
  intro hu
  by_cases h:u<10
  ·rw[um h]
   simp only[runN]
   rw[zgH (by omega),vG h]
   congr 1;omega
  ·have hm:=Nat.mod_lt u (show 0<10 by omega)
   rw[Xi h,Kp,ih (u/10) (by omega) (by omega)]
   simp only[Option.bind_some,runN]
   rw[zgH (by rw[vG hm];omega),vG hm]
   congr 1;omega
theorem zcm:∀(l:List UInt8) (acc u:Nat),allD l=true->acc<=9223372036854775808->runN acc l=some u->u<=9223372036854775808
 | [],acc,u,_,ha,h=>by cases h;exact ha
 |c::r,acc,u,hd,ha,h=>by
  simp only[allD,List.all_cons,zgx,zgI]at hd
  simp only[runN]at h
  split at h
  ·cases h
  ·exact zcm r _ u hd.2 (by omega) h
theorem zab:∀(k u:Nat),u<10 ^(k+1)->(Lib.decDigits u).length<=k+1
 |0,u,h=>by rw[um (by simpa using h)];simp
 |k+1,u,h=>by
  by_cases h1:u<10
  ·rw[um h1];simp
  ·rw[Xi h1,zgA]
   have:=zab k (u/10) (by rw[Nat.pow_succ]at h;omega)
   simp;omega
def fin (s:ByteArray)(neg:Bool)(u:Nat):Int×Bool:=
 bif neg then(if yk (-(u:Int))=s then(-(u:Int),true)else(0,false))else if u=9223372036854775808 then(0,false)else if yk (u:Int)=s then((u:Int),true)else(0,false)
def finO (s:ByteArray)(neg:Bool):Option Nat->Int×Bool
 |none=>(0,false)|some u=>fin s neg u
theorem Xz (s:ByteArray)(neg:Bool)(m:List UInt8)(hm:m.length<=1048576)(hd:allD m=true):∀(r:List UInt8) (i acc:Nat),m.drop i=r->allD r=true->acc<=9223372036854775808->
 Ev (fun k=>wN k s neg (strB m) (-(acc:Int)) (i:Int)) (finO s neg (runN acc r))
 | [],i,acc,h,_,ha=>by
   have a:=zu h
   refine ES (fun k=>XA k ..) ?_
   simp only[zj,a.g,zgK,runN,finO,fin,zn]
   cases neg with
   |true=>
    refine EN rfl (EB (zY _ ⟨by omega,by omega⟩) ?_)
    by_cases h:yk (-(acc:Int))=s
    ·exact EN (by simp[h]) (EZ (by simp[h]))
    ·exact EY (by simp[h]) (EZ (by simp[h]))
   |false=>
    refine EY rfl ?_
    by_cases h1:acc=9223372036854775808
    ·exact EY (by subst h1;decide) (EZ (by simp[h1]))
    ·have e:IntKind.i64.wrap (0- -(acc:Int))=(acc:Int):=by rw[ze (by omega) (by omega)];omega
     rw[e]
     refine EN (beq_eq_false_iff_ne.2 (by omega)) (EB (zY _ ⟨by omega,by omega⟩) ?_)
     by_cases h:yk (acc:Int)=s
     ·exact EN (by simp[h]) (EZ (by simp[h,h1]))
     ·exact EY (by simp[h]) (EZ (by simp[h,h1]))
 |c::r,i,acc,h,hr,ha=>by
  have a:=zh h (by rw[zc];omega)
  simp only[allD,List.all_cons,zgx,zgI]at hr
  obtain⟨⟨h48,h57⟩,hr⟩:=hr
  refine ES (fun k=>XA k ..) ?_
  simp only[zj,xk,a.g,a.z,a.get,a.w,zgJ]
  have w1:IntKind.i64.wrap ((IntKind.i64.wrap ((c.toNat:Nat):Int))-(48:Int))=((c.toNat-48:Nat):Int):=by
   rw[ze (x:=((c.toNat:Nat):Int)) (by omega) (by omega),ze (by omega) (by omega)];omega
  rw[w1]
  generalize hdv:c.toNat-48=d
  have hd9:d<=9:=by omega
  have w2:IntKind.i64.wrap ((IntKind.i64.wrap ((-9223372036854775808:Int)+(d:Int))).tdiv (10:Int))= -(((9223372036854775808-d)/10:Nat):Int):=by
   rw[ze (x:=(-9223372036854775808:Int)+(d:Int)) (by omega) (by omega)]
   have e:(-9223372036854775808:Int)+(d:Int)= -((9223372036854775808-d:Nat):Int):=by omega
   rw[e,Int.neg_tdiv,Int.tdiv_eq_ediv_of_nonneg (by omega),ze (by omega) (by omega)]
   omega
  rw[w2]
  simp only[runN,hdv]
  by_cases hlt:(9223372036854775808-d)/10<acc
  ·rw[zgG hlt]
   exact EY (zgu (by omega)) (EP _)
  ·rw[zgH hlt]
   have w3:IntKind.i64.wrap ((IntKind.i64.wrap (-(acc:Int)*(10:Int)))-(d:Int))= -((acc*10+d:Nat):Int):=by
    rw[ze (x:= -(acc:Int)*10) (by omega) (by omega),ze (by omega) (by omega)];omega
   rw[w3]
   exact EN (zgv (by omega)) (Xz s neg m hm hd r (i+1) _ a.next hr (by omega))
def sPt (s:ByteArray)(neg:Bool)(t:List UInt8):Int×Bool:=if(allD t&&decide (0<t.length))=true/\t.length<=19 then finO s neg (runN 0 t)else(0,false)
def sP:List UInt8->Int×Bool
 | []=>(0,false)
 |c::r=>if c=45 then sPt (strB (c::r)) true r else sPt (strB (c::r)) false (c::r)
theorem FE (c:UInt8)(r:List UInt8):sP (c::r)=if c=45 then sPt (strB (c::r)) true r else sPt (strB (c::r)) false (c::r):=rfl
theorem ze3 (s:ByteArray)(neg:Bool)(t:List UInt8)(hm:t.length<=1048576):Ev (fun k=>(cB k (strB t)).bind fun y1=>bif(!y1)then some ((0:Int),false)else(bif decide (((strB t).size:Int)>(19:Int))then some ((0:Int),false)else wN k s neg (strB t) (0:Int) (0:Int))) (sPt s neg t):=by
 refine EB (Rw t hm) ?_
 unfold sPt
 cases h:allD t&&decide (0<t.length)with
 |false=>exact EY rfl (EZ (by simp))
 |true=>
  refine EN rfl ?_
  rw[zj]
  by_cases h19:t.length<=19
  ·rw[zgG ⟨rfl,h19⟩]
   have hd:allD t=true:=by simp at h;exact h.1
   exact EN (zgv (by omega)) (Xz s neg t hm hd t 0 0 rfl hd (by omega))
  ·rw[zgH (fun e=>h19 e.2)]
   exact EY (zgu (by omega)) (EP _)
theorem zgs (l:List UInt8)(hm:l.length<=1048576):Ev (fun k=>w8 k (strB l)) (sP l):=by
 refine ES (fun k=>Fr k _) ?_
 cases l with
 |nil=>
  refine EN rfl ?_
  exact EB (Rw [] (by simp)) (EY rfl (EP _))
 |cons c r=>
  have hl:(c::r).length=r.length+1:=rfl
  have e1:(strB (c::r)).extract 1 ((strB (c::r)).size:Int).toNat=strB r:=by
   rw[xg,zj,zgy,List.take_length];rfl
  have e2:((strB (c::r)).data.toList.getD 0 0)=c:=by rw[xk];rfl
  have e3:((45:Int))=(((45:UInt8).toNat:Nat):Int):=rfl
  simp only[e1,e2]
  rw[e3]
  simp only[Ey]
  refine EY (by rw[zj,hl];simp) (EY (by rw[zj,hl];simp) ?_)
  rw[FE]
  by_cases h:c=45
  ·rw[zgG h]
   refine EY (by simp[h]) (EY (by rw[zj,hl];simp;omega) (EY (by simp) ?_))
   have:=ze3 (strB (c::r)) true r (by omega)
   rw[show decide (c=45)=true by simp[h]]
   exact this
  ·rw[zgH h]
   refine EN (by simp[h]) ?_
   have:=ze3 (strB (c::r)) false (c::r) hm
   rw[show decide (c=45)=false by simp[h]]
   exact this
theorem zeF (u:Nat):allD (Lib.decDigits u)=true:=by
 unfold allD
 rw[zgS]
 intro b hb
 have:=Qu u b hb
 simp[this.1,this.2]
theorem zcg (s:ByteArray)(neg:Bool)(u:Nat)(hu:u<=9223372036854775808):sPt s neg (Lib.decDigits u)=fin s neg u:=by
 unfold sPt
 have hne:=zaa u
 have hp:0<(Lib.decDigits u).length:=List.length_pos_iff.2 hne
 rw[zgG ⟨by rw[zeF];simp[hp],zab 18 u (by omega)⟩,zd7 u hu]
 rfl
theorem ze2 {s:ByteArray}(h:∀n,In n->s≠yk n)(neg:Bool)(t:List UInt8):sPt s neg t=(0,false):=by
 unfold sPt
 split
 ·rename_i hd
  have hd1:allD t=true:=by have:=hd.1;simp at this;exact this.1
  cases hr:runN 0 t with
  |none=>rfl
  |some u=>
   have hu:=zcm t 0 u hd1 (by omega) hr
   unfold finO fin
   cases neg with
   |true=>simp only[zgJ];rw[zgH (fun e=>h _ ⟨by omega,by omega⟩ e.symm)]
   |false=>
    simp only[zgK]
    split
    ·rfl
    ·rw[zgH (fun e=>h _ ⟨by omega,by omega⟩ e.symm)]
 ·rfl
theorem zgt (l:List UInt8):sP l=zA (strB l):=by
 rcases NA (strB l)with⟨n,hn,he,hp⟩|⟨hp,hno⟩
 ·rw[hp]
  have hl:l=Lib.itoa n:=by
   have:=congrArg (fun x=>x.data.toList) he
   simpa[yk,xk]using this
  unfold In at hn
  have hb:strB l=yk n:=he
  unfold Lib.itoa at hl
  by_cases h:n<0
  ·rw[zgG h]at hl
   subst hl
   rw[FE,zgG rfl,zcg _ _ _ (by omega)]
   have e: -((n.natAbs:Nat):Int)=n:=by omega
   unfold fin
   rw[hb,e]
   simp
  ·rw[zgH h]at hl
   subst hl
   cases hd:Lib.decDigits n.toNat with
   |nil=>exact absurd hd (zaa _)
   |cons c r=>
    have hc:=Qu n.toNat c (by rw[hd];simp)
    have h45:c≠45:=fun e=>by subst e;have e2:(45:UInt8).toNat=45:=rfl;omega
    rw[FE,zgH h45,<-hd,zcg _ _ _ (by omega)]
    have e:((n.toNat:Nat):Int)=n:=by omega
    unfold fin
    rw[hb,e]
    have h63:¬n.toNat=9223372036854775808:=by omega
    simp[h63]
 ·rw[hp]
  cases l with
  |nil=>rfl
  |cons c r=>
   rw[FE]
   split
   ·exact ze2 hno _ _
   ·exact ze2 hno _ _
theorem wO (s:ByteArray)(hm:s.size<=1048576):Ev (fun k=>w8 k s) (zA s):=by
 have:=zgs s.data.toList (by simpa using hm)
 rw[zgt,xP]at this
 exact this
theorem bY (s:ByteArray):∀a∈cutB s,a.size<=s.size:=by
 have H:∀(l cur:List UInt8),∀a∈xZ cur l,a.length<=cur.length+l.length:=by
  intro l
  induction l with
  |nil=>intro cur a ha;simp[xZ]at ha;subst ha;simp
  |cons c r ih=>
   intro cur a ha
   unfold xZ at ha
   split at ha
   ·rcases zgO.1 ha with rfl|h
    ·simp
    ·have:=ih [] a h;simp at this⊢;omega
   ·have:=ih _ a ha;simp at this⊢;omega
 intro a ha
 obtain⟨l,hl,rfl⟩:=zgY.1 ha
 have:=H _ _ l hl
 rw[zj]
 simpa using this
theorem z8 (x lo hi:Int):Ev (fun k=>yd k (x,lo,hi)) (decide (lo<=x)&&decide (x<=hi)):=by
 refine ES (fun k=>zaY k x lo hi) (EI (fun h=> ?_) (fun h=> ?_))
 ·have h' :lo<=x:=by simpa using h
  exact EZ (by simp[h'])
 ·have h' :¬lo<=x:=by simpa using h
  exact EZ (by simp[h'])
def zx (x:ByteArray):List UInt8:=x.data.toList
theorem QS (x:ByteArray):strB (zx x)=x:=by unfold strB zx;apply ByteArray.ext;simp
theorem xm (x:ByteArray):(zx x).length=x.size:=by unfold zx;simp
def Mu (l:List ByteArray)(sep:ByteArray):List UInt8:=Lib.join (l.map zx) (zx sep)
def xe (l:List ByteArray)(sep:ByteArray):ByteArray:=strB (Mu l sep)
theorem Vm {B S:Nat}(sep:List UInt8)(hs:sep.length<=S):∀(r:List ByteArray),(∀x∈r,x.size<=B)->(Lib.joinTail sep (r.map zx)).length<=r.length*(B+S)
 | [],_=>by simp[Lib.joinTail]
 |x::r,h=>by
  have ih:=Vm sep hs r (fun y hy=>h y (by simp[hy]))
  have hx:=h x (by simp)
  have e:Lib.joinTail sep ((x::r).map zx)=(sep++zx x)++Lib.joinTail sep (r.map zx):=by simp[Lib.joinTail]
  rw[e,zgA,zgA,xm,zgB,Nat.add_mul,Nat.one_mul]
  omega
theorem Uq {B S:Nat}(sep:ByteArray)(hs:sep.size<=S)(l:List ByteArray)(h:∀x∈l,x.size<=B):(Mu l sep).length<=l.length*(B+S):=by
 cases l with
 |nil=>simp[Mu,Lib.join_nil]
 |cons x r=>
  have hx:=h x (by simp)
  have:=Vm (B:=B) (S:=S) (zx sep) (by rw[xm];exact hs) r (fun y hy=>h y (by simp[hy]))
  unfold Mu
  rw[List.map_cons,Lib.join_cons,zgA,xm,zgB,Nat.add_mul,Nat.one_mul]
  omega
theorem W3 (sep:ByteArray)(xs:List ByteArray)(hm:xs.length<=maxLen):∀(r:List ByteArray) (i:Nat) (acc:List UInt8),xs.drop i=r->1<=i->acc.length+(Lib.joinTail (zx sep) (r.map zx)).length<=9223372036854775807->
 Ev (fun k=>ZH k sep (strB acc) xs (xs.length:Int) (i:Int)) (strB (acc++Lib.joinTail (zx sep) (r.map zx)))
 | [],i,acc,h,hi,hl=>by
   have a:=zu h
   refine ES (fun k=>uR k ..) ?_
   simp only[a.g,zgK]
   exact EZ (by simp[Lib.joinTail])
 |x::r,i,acc,h,hi,hl=>by
  have a:=zh h hm
  have e:Lib.joinTail (zx sep) ((x::r).map zx)=(zx sep++zx x)++Lib.joinTail (zx sep) (r.map zx):=by simp[Lib.joinTail]
  rw[e,zgA,zgA]at hl
  refine ES (fun k=>uR k ..) ?_
  simp only[a.g,a.z,a.get,a.w,zgJ]
  have e1:strB acc++sep=strB (acc++zx sep):=by rw[<-eN,QS]
  have e2:strB (acc++zx sep)++x=strB (acc++zx sep++zx x):=by rw[<-eN (acc++zx sep),QS]
  have l1:=xm sep
  have l2:=xm x
  refine EY (by simp;omega) (EY (by rw[zj];simp;omega) ?_)
  rw[e1]
  refine EY (by rw[zj,zgA];simp;omega) ?_
  rw[e2]
  have:=W3 sep xs hm r (i+1) (acc++zx sep++zx x) a.next (by omega) (by rw[zgA,zgA];omega)
  rw[e,<-zgU,<-zgU]
  exact this
theorem L7 (l:List ByteArray)(sep:ByteArray)(B:Nat)(hl:l.length<=1048576)(hB:∀x∈l,x.size<=B)(hBB:B<=100)(hs:sep.size<=100):Ev (fun k=>Ru k (l,sep)) (xe l sep):=by
 refine ES (fun k=>Dv k l sep) ?_
 cases l with
 |nil=>
  refine ES (fun k=>uR k ..) (EN (by simp) (EZ ?_))
  rfl
 |cons x r=>
  have a:=zh (xs:=x::r) (i:=0) rfl (by rw[zc];omega)
  refine ES (fun k=>uR k ..) ?_
  have hx:=hB x (by simp)
  refine EY a.g (EY (by simp) (EY a.g (EN (by simp) ?_)))
  have e0:(x::r).getD (0:Int).toNat T0=x:=rfl
  have e1:T0++x=strB (zx x):=by rw[QS];apply ByteArray.ext;simp
  have e2:IntKind.i64.wrap ((0:Int)+1)=((1:Nat):Int):=ze (by omega) (by omega)
  rw[e0,e1,e2]
  refine EY (by show decide (0+x.size<=_)=true;simp;omega) ?_
  have jl:=Vm (B:=B) (S:=100) (zx sep) (by rw[xm];exact hs) r (fun y hy=>hB y (by simp[hy]))
  rw[zgB]at hl
  have hmul:r.length*(B+100)<=1048576*200:=Nat.mul_le_mul (by omega) (by omega)
  refine(W3 sep (x::r) (by rw[zc];simp;omega) r 1 (zx x) rfl (zgC _) (by rw[xm];omega)).to ?_
  unfold xe Mu
  rw[List.map_cons,Lib.join_cons]
theorem Jt (l:List ByteArray)(sep:ByteArray)(B:Nat)(hl:l.length<=1048576)(hB:∀x∈l,x.size<=B)(hBB:B<=100)(hs:sep.size<=100):Ev (fun k=>aM k (l,sep)) (xe l sep):=by
 refine ES (fun k=>Cm k l sep) (EB (Ev.congr (fun k=>Wf k l sep) ?_) (EP _))
 unfold joinF
 have jl:=Uq (B:=B) (S:=100) sep hs l hB
 have hmul:l.length*(B+100)<=1048576*200:=Nat.mul_le_mul hl (by omega)
 refine EY ?_ (EP _)
 rw[zgx,zgI,zgI]
 exact⟨by omega,by show(Mu l sep).length<=_;omega⟩
theorem Vh (xs:List Int)(hm:xs.length<=1048576)(hi:Ins xs):∀(r:List Int) (i:Nat),xs.drop i=r->Ev (fun k=>gL k xs (xs.length:Int) (i:Int) ((xs.take i).map yk)) (xs.map yk)
 | [],i,h=>by
   have a:=zu h
   refine ES (fun k=>ZU k ..) ?_
   simp only[a.g,zgK]
   exact EZ (by rw[zgT a.ge])
 |x::r,i,h=>by
  have a:=zh h (by rw[zc];omega)
  have hlt:=a.lt
  have hx:In x:=hi x (List.mem_of_mem_drop (h▸List.mem_cons_self))
  refine ES (fun k=>ZU k ..) ?_
  simp only[a.g,a.z,a.get,a.w,zgJ]
  refine EB (yf x hx) (EY (by rw[za];simp;omega) ?_)
  have:=Vh xs hm hi r (i+1) a.next
  rw[List.take_succ_eq_append_getElem hlt,List.map_append]at this
  have e:xs[i]=x:=by have:=a.get 0;rw[zgy,List.getD,zgD hlt]at this;exact this
  rw[e]at this
  exact this
theorem NC (xs:List Int)(hm:xs.length<=1048576)(hi:Ins xs):Ev (fun k=>YU k xs) (xs.map yk):=
 ES (fun k=>HG k xs) (Vh xs hm hi xs 0 rfl)
theorem x9 {xs:List Int}(hi:Ins xs):∀x∈xs.map yk,x.size<=21:=by
 intro x hx
 obtain⟨n,hn,rfl⟩:=zgY.1 hx
 exact zN n (hi n hn)
def cutN (cur:List UInt8):List UInt8->List (List UInt8)
 | []=> [cur]
 |c::r=>if c=10 then cur::cutN [] r else cutN (cur++[c]) r
theorem zfK (cur l:List UInt8):cutN cur l≠[]:=by
 induction l generalizing cur with
 |nil=>simp[cutN]
 |cons c r ih=>unfold cutN;split;simp;exact ih _
def eh (s:ByteArray):List ByteArray:=(cutN [] s.data.toList).map strB
def nl:ByteArray:=T25
theorem Hb (c:UInt8):Ev (fun k=>strings_IndexByte k (nl,(c.toNat:Int))) (if c=10 then 0 else-1):=by
 refine Ev.congr (fun k=>eo k ..) (EZ ?_)
 rw[C2]
 show Lib.indexByte [10] c=_
 unfold Lib.indexByte
 by_cases h:c=10
 ·subst h;rfl
 ·have:((10:UInt8)==c)=false:=by simp;exact fun e=>h e.symm
  rw[zgH h,zgH (by rw[this];simp)]
  rfl
theorem uL (l:List UInt8)(hm:l.length<=1048576):∀(r:List UInt8) (i f:Nat) (out:List ByteArray),l.drop i=r->f<=i->i<=l.length->out.length<=i->
 Ev (fun k=>vW k (strB l) nl (f:Int) (i:Int) out) (out++(cutN ((l.take i).drop f) r).map strB)
 | [],i,f,out,h,hf,hi,ho=>by
   have a:=zu h
   have hil:i=l.length:=Nat.le_antisymm hi a.ge
   refine ES (fun k=>uw k ..) ?_
   simp only[zj,a.g,zgK,xg]
   refine EY (by simp) (EY (by simp;omega) (EY (by simp) (EY (by rw[za];simp;omega) (EZ ?_))))
   rw[hil]
   simp[cutN]
 |c::r,i,f,out,h,hf,hi,ho=>by
  have a:=zh h (by rw[zc];omega)
  have lt:=a.lt
  refine ES (fun k=>uw k ..) ?_
  simp only[zj,xk,a.g,a.z,a.get,a.w,zgJ,xg]
  refine EB (Hb c) ?_
  unfold cutN
  by_cases hc:c=10
  ·rw[zgG hc,zgG hc]
   refine EY rfl (EY (by simp) (EY (by simp;omega) (EY (by simp;omega) (EY (by rw[za];simp;omega) ?_))))
   refine(uL l hm r (i+1) (i+1) _ a.next (zgC _) (by omega) (by simp;omega)).to ?_
   rw[show(l.take (i+1)).drop (i+1)=[]from List.drop_eq_nil_of_le (by rw[zgL];omega)]
   simp
  ·rw[zgH hc,zgH hc]
   refine EN rfl ?_
   refine(uL l hm r (i+1) f _ a.next (by omega) (by omega) (by omega)).to ?_
   rw[Ua h,List.drop_append_of_le_length (by simp;omega)]
theorem Mz (s:ByteArray)(hm:s.size<=1048576):Ev (fun k=>gf k (s,nl)) (eh s):=by
 refine ES (fun k=>R8 k s nl) ?_
 have:=uL s.data.toList (by simpa using hm) _ 0 0 [] rfl (zgC _) (Nat.zero_le _) (zgC _)
 rw[xP]at this
 exact this
theorem Qe (l:List ByteArray)(sep:ByteArray)(hl:l.length<=140737488355328)(hj:(xe l sep).size<=140737488355328):Ev (fun k=>aM k (l,sep)) (xe l sep):=by
 refine ES (fun k=>Cm k l sep) (EB (Ev.congr (fun k=>Wf k l sep) ?_) (EP _))
 unfold joinF
 rw[xe,zj]at hj
 refine EY ?_ (EP _)
 rw[zgx,zgI,zgI]
 exact⟨hl,hj⟩
def cJ (s:ByteArray):List ByteArray:=if(eh s).getLastD T0=T0 then(eh s).dropLast else eh s
def wb (n:Int)(m:Int×Int):Bool:=
 decide (1<=n)&&(decide (n<=12)&&(decide (0<=m.2)&&
  (if m.1=1 then decide (m.2<=n)else if m.1=2 then decide (m.2<=n)else if m.1=3 then decide (m.2<=n)else
   if m.1=4 then decide (m.2<=1)else if m.1=5 then decide (m.2<=1)else if m.1=7 then decide (m.2<=1)else
   if m.1=6 then m.2==0 else if m.1=8 then decide (m.2<n)else if m.1=9 then decide (m.2<n)else false)))
theorem Xb (n:Int)(m:Int×Int):Ev (fun k=>Uu k (n,m)) (wb n m):=by
 obtain⟨a,b⟩:=m
 refine ES (fun k=>BS k n (a,b)) ?_
 unfold wb
 refine EI (fun h=>EZ ?_) (fun h=> ?_)
 ·have:¬1<=n:=by simpa using h
  simp[this]
 have h1:1<=n:=by simpa using h
 refine EI (fun h=>EZ ?_) (fun h=> ?_)
 ·have:¬n<=12:=by simpa using h
  simp[this]
 have h2:n<=12:=by simpa using h
 refine EI (fun h=>EZ ?_) (fun h=> ?_)
 ·have:¬0<=b:=by simpa using h
  simp[this]
 have h3:0<=b:=by simpa using h
 clear h
 simp only[h1,h2,h3,decide_true,Bool.true_and]
 iterate 9 (refine EI (fun h=> ?_) (fun h=> ?_);· exact EZ (by simp at*;simp[*]))
 exact EZ (by simp at*;simp[*])
theorem YG (n:Int)(m:Int×Int):Ev (fun k=>Uk k (n,m)) (wb n m):=by
 obtain⟨a,b⟩:=m
 refine ES (fun k=>Bs k n (a,b)) (EB (z8 _ _ _) ?_)
 unfold wb
 refine EI (fun h=> ?_) (fun h=> ?_)
 ·exact EZ (by rw[Bool.eq_iff_iff];simp at*;omega)
 have hn:1<=n/\n<=12:=by simpa using h
 iterate 6 (refine EI (fun h=> ?_) (fun h=> ?_);· exact EB (z8 _ _ _) (EZ (by rw[Bool.eq_iff_iff];simp at*;try simp[*];try (intros;omega))))
 refine EI (fun h=> ?_) (fun h=> ?_)
 ·exact EZ (by rw[Bool.eq_iff_iff];simp at*;try simp[*];try (intros;omega))
 rw[ze (by omega) (by omega)]
 iterate 2 (refine EI (fun h=> ?_) (fun h=> ?_);· exact EB (z8 _ _ _) (EZ (by rw[Bool.eq_iff_iff];simp at*;try simp[*];try (intros;omega))))
 exact EZ (by rw[Bool.eq_iff_iff];simp at*;try simp[*];try (intros;omega))
def zS (n:Int)(s:Int×(Int×Int)×Int):Bool:=
 decide (1<=n)&&(decide (n<=12)&&
  (if s.1=1 then wb n s.2.1&&s.2.2==0 else
   if s.1=2 then s.2.1.1==0&&(s.2.1.2==0&&(decide (0<=s.2.2)&&(decide (s.2.2<=4)&&((!(s.2.2==3)||decide (2<=n))&&(!(s.2.2==2)||decide (n<=7))))))else
   if s.1=3 then s.2.1.1==0&&(s.2.1.2==0&&(decide (0<=s.2.2)&&decide (s.2.2<n)))else false))
theorem So (n:Int)(s:Int×(Int×Int)×Int):Ev (fun k=>R7 k (n,s)) (zS n s):=by
 obtain⟨t,⟨a,b⟩,c⟩:=s
 refine ES (fun k=>BQ k n (t,(a,b),c)) ?_
 unfold zS
 refine EI (fun h=>EZ ?_) (fun h=> ?_)
 ·have:¬1<=n:=by simpa using h
  simp[this]
 have h1:1<=n:=by simpa using h
 refine EI (fun h=>EZ ?_) (fun h=> ?_)
 ·have:¬n<=12:=by simpa using h
  simp[this]
 have h2:n<=12:=by simpa using h
 clear h
 simp only[h1,h2,decide_true,Bool.true_and]
 refine EI (fun h=> ?_) (fun h=> ?_)
 ·have e:t=1:=by simpa using h
  subst e
  exact EB (Xb n (a,b)) (EI (fun h=>EZ (by simp at*;simp[*])) (fun h=>EZ (by simp at*;simp[*])))
 have t1:¬t=1:=by simpa using h
 simp only[t1,if_false]
 repeat (first|(refine EI (fun h=> ?_) (fun h=> ?_))|focus (refine EZ ?_;simp_all;done)|focus (refine EZ ?_;simp_all;omega)|focus (refine EZ ?_;rw[Bool.eq_iff_iff];simp at*;omega))
theorem D0 (n c:Int):Ev (fun k=>TV k (n,c)) (decide (0<=c)&&(decide (c<=4)&&((!(c==3)||decide (2<=n))&&(!(c==2)||decide (n<=7))))):=by
 refine ES (fun k=>Hn k n c) (EB (z8 _ _ _) ?_)
 repeat (first|(refine EI (fun h=> ?_) (fun h=> ?_))|focus (refine EZ ?_;simp_all;done)|focus (refine EZ ?_;simp_all;omega)|focus (refine EZ ?_;rw[Bool.eq_iff_iff];simp at*;omega))
theorem LR (n:Int)(s:Int×(Int×Int)×Int):Ev (fun k=>Yx k (n,s)) (zS n s):=by
 obtain⟨t,⟨a,b⟩,c⟩:=s
 refine ES (fun k=>Bq k n (t,(a,b),c)) (EB (z8 _ _ _) ?_)
 unfold zS
 refine EI (fun h=>EZ ?_) (fun h=> ?_)
 ·rcases Int.lt_or_le n 1 with h1|h1
  ·have:¬1<=n:=by omega
   simp[this]
  ·have:¬n<=12:=by simp at h;omega
   simp[this]
 have hn:1<=n/\n<=12:=by simpa using h
 clear h
 simp only[hn.1,hn.2,decide_true,Bool.true_and]
 refine EI (fun h=> ?_) (fun h=> ?_)
 ·have e:t=1:=by simpa using h
  subst e
  exact EB (YG n (a,b)) (EI (fun h=>EZ (by simp at*;simp[*])) (fun h=>EZ (by simp at*;simp[*])))
 have t1:¬t=1:=by simpa using h
 simp only[t1,if_false]
 clear h
 rw[ze (by omega) (by omega)]
 refine EI (fun h=> ?_) (fun h=> ?_)
 ·have e:t=2:=by simpa using h
  subst e
  refine EI (fun h=> ?_) (fun h=>EZ ?_)
  ·exact EB (D0 n c) (EZ (by simp at*;simp[*]))
  ·cases ha:(a==0)<;>cases hb:(b==0)<;>simp_all
 have t2:¬t=2:=by simpa using h
 simp only[t2,if_false]
 clear h
 refine EI (fun h=> ?_) (fun h=> ?_)
 ·have e:t=3:=by simpa using h
  subst e
  refine EI (fun h=> ?_) (fun h=>EZ ?_)
  ·refine EB (z8 _ _ _) (EZ ?_)
   have e2:decide (c<=n-1)=decide (c<n):=by rw[Bool.eq_iff_iff];simp;omega
   simp at h
   simp[h,e2]
  ·cases ha:(a==0)<;>cases hb:(b==0)<;>simp_all
 ·have t3:¬t=3:=by simpa using h
  exact EZ (by simp[t3])
abbrev Step:Type:=Int×(Int×Int)×Int
abbrev Trick:Type:=List Int×List Step×Int×Int×Int
abbrev Scene:Type:=List Int×Int
theorem NG (x:Int)(xs:List Int)(hm:xs.length<=maxLen):∀(r:List Int) (i:Nat),xs.drop i=r->Ev (fun k=>Yt k x xs (xs.length:Int) (i:Int)) (r.contains x)
 | [],i,h=>by
   have a:=zu h
   refine ES (fun k=>UW k x xs _ i) ?_
   simp only[a.g,zgK]
   exact EP _
 |y::r,i,h=>by
  have a:=zh h hm
  refine ES (fun k=>UW k x xs _ i) ?_
  simp only[a.g,a.z,a.get,a.w,zgJ]
  refine EI (fun h=>EZ ?_) (fun h=>(NG x xs hm r (i+1) a.next).to ?_)
  ·have:y=x:=by simpa using h
   simp[this]
  ·have:¬y=x:=by simpa using h
   have h2:¬x=y:=fun e=>this e.symm
   simp[h2]
theorem Vl (xs:List Int)(x:Int)(hm:xs.length<=maxLen):Ev (fun k=>Yu k (xs,x)) (xs.contains x):=
 ES (fun k=>Bp k xs x) (NG x xs hm xs 0 rfl)
def idx (x:Int):Nat->List Int->Int
 |_,[]=> -1
 |i,y::r=>if x=y then(i:Int)else idx x (i+1) r
theorem zcM (x:Int):∀(r:List Int) (i:Nat),decide (idx x i r>=0)=r.contains x
 | [],i=>by simp[idx]
 |y::r,i=>by
  unfold idx
  by_cases h:x=y
  ·simp[h]
  ·rw[zgH h,zcM x r (i+1)];simp[h]
theorem V4 (x:Int)(xs:List Int)(hm:xs.length<=maxLen):∀(r:List Int) (i:Nat),xs.drop i=r->Ev (fun k=>wJ k xs x (xs.length:Int) (i:Int)) (idx x i r)
 | [],i,h=>by
   have a:=zu h
   refine ES (fun k=>jR k xs x _ i) ?_
   simp only[a.g,zgK]
   exact EP _
 |y::r,i,h=>by
  have a:=zh h hm
  refine ES (fun k=>jR k xs x _ i) ?_
  simp only[a.g,a.z,a.get,a.w,zgJ]
  unfold idx
  refine EI (fun h=>EZ ?_) (fun h=>(V4 x xs hm r (i+1) a.next).to ?_)
  ·have:x=y:=by simpa using h
   simp[this]
  ·have:¬x=y:=by simpa using h
   rw[zgH this]
theorem N6 (xs:List Int)(x:Int)(hm:xs.length<=maxLen):Ev (fun k=>uq k (xs,x)) (idx x 0 xs):=
 ES (fun k=>TP k xs x) (V4 x xs hm xs 0 rfl)
theorem V6 (xs:List Int)(x:Int)(hm:xs.length<=maxLen):Ev (fun k=>wK k (xs,x)) (xs.contains x):=
 ES (fun k=>X5 k xs x) (EB (N6 xs x hm) (EZ (zcM x xs 0)))
def bq (n:Int):List Int->List Int->Bool
 |_,[]=>true
 |done,x::r=>decide (0<=x)&&(decide (x<n)&&(!(done.contains x)&&bq n (done++[x]) r))
def ZR (n:Int)(p:List Int):Bool:=decide (1<=n)&&(decide (n<=12)&&bq n [] p)
theorem Zw {α:Type}{xs:List α}{i:Nat}{y:α}{r:List α}(h:xs.drop i=y::r):xs.take (i+1)=xs.take i++[y]:=by
 have lt:i<xs.length:=by
  rcases Nat.lt_or_ge i xs.length with h1|h1
  ·exact h1
  ·rw[List.drop_eq_nil_of_le h1]at h;cases h
 rw[List.drop_eq_getElem_cons lt]at h
 rw[List.take_succ_eq_append_getElem lt]
 injection h with h1 h2
 rw[h1]
theorem S6 (n:Int)(xs:List Int)(hn:1<=n/\n<=12)(hm:xs.length<=maxLen):∀(r:List Int) (i:Nat),xs.drop i=r->Ev (fun k=>Ue k n xs xs (xs.length:Int) (i:Int)) (bq n (xs.take i) r)
 | [],i,h=>by
   have a:=zu h
   refine ES (fun k=>S7 k n xs xs _ i) ?_
   simp only[a.g,zgK]
   exact EP _
 |x::r,i,h=>by
  have a:=zh h hm
  have g:decide ((i:Int)<=(xs.length:Int))=true:=by have:=a.lt;simp;omega
  refine ES (fun k=>S7 k n xs xs _ i) ?_
  simp only[a.g,a.z,a.get,a.gt,a.w,g,zgJ,List.drop_zero,zgy]
  unfold bq
  rw[ze (by omega) (by omega)]
  refine EB (z8 _ _ _) (EI (fun h=>EZ ?_) (fun h=>EB (Vl (xs.take i) x (by rw[zgL];omega)) (EI (fun h' =>EZ ?_) (fun h' => ?_))))
  ·rcases Int.lt_or_le x 0 with h1|h1
   ·have:¬0<=x:=by omega
    simp[this]
   ·have:¬x<n:=by simp at h;omega
    simp[this]
  ·simp only[h',Bool.not_true,Bool.false_and,Bool.and_false]
  ·have h1:0<=x/\x<=n-1:=by simpa using h
   have e1:decide (0<=x)=true:=by simp[h1.1]
   have e2:decide (x<n)=true:=by simp;omega
   rw[e1,e2,h']
   refine(S6 n xs hn hm r (i+1) a.next).to ?_
   rw[Zw ‹xs.drop i=x::r›];rfl
theorem Ge (n:Int)(p:List Int)(hm:p.length<=maxLen):Ev (fun k=>Ff k (n,p)) (ZR n p):=by
 refine ES (fun k=>zaU k n p) (EB (z8 _ _ _) (EI (fun h=>EZ ?_) (fun h=> ?_)))
 ·unfold ZR
  rcases Int.lt_or_le n 1 with h1|h1
  ·have:¬1<=n:=by omega
   simp[this]
  ·have:¬n<=12:=by simp at h;omega
   simp[this]
 ·have hn:1<=n/\n<=12:=by simpa using h
  unfold ZR
  simp only[hn.1,hn.2,decide_true,Bool.true_and]
  exact S6 n p hn hm p 0 rfl
theorem XM (n:Int)(xs:List Int)(hm:xs.length<=maxLen):∀(r:List Int) (i:Nat),xs.drop i=r->Ev (fun k=>cf k n xs xs (xs.length:Int) (i:Int)) (bq n (xs.take i) r)
 | [],i,h=>by
   have a:=zu h
   refine ES (fun k=>XN k n xs xs _ i) ?_
   simp only[a.g,zgK]
   exact EP _
 |x::r,i,h=>by
  have a:=zh h hm
  have g:decide ((i:Int)<=(xs.length:Int))=true:=by have:=a.lt;simp;omega
  refine ES (fun k=>XN k n xs xs _ i) ?_
  simp only[a.g,a.z,a.get,a.gt,a.w,g,zgJ,List.drop_zero,zgy]
  unfold bq
  refine EI (fun h1=>EZ ?_) (fun h1=>EI (fun h2=>EZ ?_) (fun h2=>EB (V6 (xs.take i) x (by rw[zgL];omega)) (EI (fun h' =>EZ ?_) (fun h' => ?_))))
  ·have:¬0<=x:=by simpa using h1
   simp[this]
  ·have:¬x<n:=by simpa using h2
   simp[this]
  ·simp only[h',Bool.not_true,Bool.false_and,Bool.and_false]
  ·have e1:decide (0<=x)=true:=by simpa using h1
   have e2:decide (x<n)=true:=by simpa using h2
   rw[e1,e2,h']
   refine(XM n xs hm r (i+1) a.next).to ?_
   rw[Zw ‹xs.drop i=x::r›];rfl
theorem FY (n:Int)(p:List Int)(hm:p.length<=maxLen):Ev (fun k=>PB k (n,p)) (ZR n p):=by
 refine ES (fun k=>FZ k n p) (EI (fun h=>EZ ?_) (fun h=>EI (fun h' =>EZ ?_) (fun h' => ?_)))
 ·have:¬1<=n:=by simpa using h
  simp[ZR,this]
 ·have:¬n<=12:=by simpa using h'
  simp[ZR,this]
 ·have e1:1<=n:=by simpa using h
  have e2:n<=12:=by simpa using h'
  simp only[ZR,e1,e2,decide_true,Bool.true_and]
  exact XM n p hm p 0 rfl
theorem KI:∀(n:Nat) (l:List Int),l.Nodup->(∀x∈l,0<=x/\x<(n:Int))->l.length<=n
 |0,l,_,h=>by
  cases l with
  |nil=>simp
  |cons x l=>have:=h x (by simp);omega
 |n+1,l,hd,h=>by
  have h1:=KI n (l.erase (n:Int)) (hd.erase _) (fun x hx=>by
   have hx' :=(hd.mem_erase_iff).1 hx
   have:=h x hx'.2
   have:x≠(n:Int):=hx'.1
   omega)
  have h2:=List.length_erase (a:=(n:Int)) (l:=l)
  split at h2<;>omega
theorem Sf (n:Int):∀(r done:List Int),done.Nodup->bq n done r=true->(done++r).Nodup/\∀x∈r,0<=x/\x<n
 | [],done,hd,h=>by simp[hd]
 |x::r,done,hd,h=>by
  unfold bq at h
  simp only[zgx,zgI,Bool.not_eq_true']at h
  obtain⟨h1,h2,h3,h4⟩:=h
  have hx:x∉done:=by simpa using h3
  obtain⟨k1,k2⟩:=Sf n r (done++[x]) (by
   rw[zgM]
   exact⟨hd,by simp,fun a ha b hb e=>by simp at hb;subst hb;subst e;exact hx ha⟩) h4
  refine⟨by simpa using k1,fun y hy=> ?_⟩
  rcases zgO.1 hy with rfl|hy
  ·exact⟨h1,h2⟩
  ·exact k2 y hy
theorem ft {n:Int}{p:List Int}(h:ZR n p=true):1<=n/\n<=12/\p.Nodup/\(∀x∈p,0<=x/\x<n)/\(p.length:Int)<=n:=by
 unfold ZR at h
 simp only[zgx,zgI]at h
 obtain⟨h1,h2,h3⟩:=h
 obtain⟨k1,k2⟩:=Sf n p [] (by simp) h3
 have k3:=KI n.toNat p (by simpa using k1) (fun x hx=>by have:=k2 x hx;omega)
 exact⟨h1,h2,by simpa using k1,k2,by omega⟩
def card (x:Int):Int:=if 0<=x/\x<=11 then x else if-12<=x/\x<=-1 then-1-x else-1
theorem SD (x:Int): -1<=card x/\card x<=11:=by unfold card;split;· omega
                                               split<;>omega
theorem uJ (x:Int):Ev (fun k=>aC k x) (card x):=by
 refine ES (fun k=>Bt k x) (EB (z8 _ _ _) (EI (fun h=>EZ ?_) (fun h=>EB (z8 _ _ _) (EI (fun h' => ?_) (fun h' =>EZ ?_)))))
 ·have:0<=x/\x<=11:=by simpa using h
  simp[card,this]
 ·have h1:¬(0<=x/\x<=11):=by simp at h;omega
  have h2: -12<=x/\x<=-1:=by simpa using h'
  rw[ze (by omega) (by omega)]
  exact EZ (by unfold card;rw[zgH h1,zgG h2])
 ·have h1:¬(0<=x/\x<=11):=by simp at h;omega
  have h2:¬(-12<=x/\x<=-1):=by simp at h';omega
  unfold card;rw[zgH h1,zgH h2]
theorem wa (x:Int)(hx:In x):Ev (fun k=>uA k x) (card x):=by
 obtain⟨a,b⟩:=hx
 refine ES (fun k=>BT k x) ?_
 refine EI (fun h=> ?_) (fun h=> ?_)
 ·have h1:x<0:=by simpa using h
  rw[ze (by omega) (by omega)]
  have h2:¬(0<=x/\x<=11):=by omega
  refine EI (fun h' =>EZ ?_) (fun h' =>EZ ?_)
  ·have h3:¬(-12<=x/\x<=-1):=by simp at h';omega
   unfold card;rw[zgH h2,zgH h3]
  ·have h3:(-12<=x/\x<=-1):=by simp at h';omega
   unfold card;rw[zgH h2,zgG h3]
 ·have h1:¬x<0:=by simpa using h
  have h3:¬(-12<=x/\x<=-1):=by omega
  refine EI (fun h' =>EZ ?_) (fun h' =>EZ ?_)
  ·have h2:¬(0<=x/\x<=11):=by simp at h';omega
   unfold card;rw[zgH h2,zgH h3]
  ·have h2:(0<=x/\x<=11):=by simp at h';omega
   unfold card;rw[zgG h2]
def pk:List Int->List Int->Bool
 |_,[]=>true
 |done,x::r=>decide (0<=card x)&&(!(done.contains (card x))&&pk (done++[card x]) r)
def zp (p:List Int):Bool:=pk [] p
theorem AK:∀(r done:List Int),done.Nodup->pk done r=true->(done++r.map card).Nodup/\∀x∈r,0<=card x
 | [],done,hd,h=>by simp[hd]
 |x::r,done,hd,h=>by
  unfold pk at h
  simp only[zgx,zgI,Bool.not_eq_true']at h
  obtain⟨h1,h3,h4⟩:=h
  have hx:card x∉done:=by simpa using h3
  obtain⟨k1,k2⟩:=AK r (done++[card x]) (by
   rw[zgM]
   exact⟨hd,by simp,fun a ha b hb e=>by simp at hb;subst hb;subst e;exact hx ha⟩) h4
  refine⟨by simpa using k1,fun y hy=> ?_⟩
  rcases zgO.1 hy with rfl|hy
  ·exact h1
  ·exact k2 y hy
theorem yn {p:List Int}(h:zp p=true):(p.map card).Nodup/\(∀x∈p,0<=card x/\card x<=11)/\p.length<=12:=by
 obtain⟨k1,k2⟩:=AK p [] (by simp) h
 have k1' :(p.map card).Nodup:=by simpa using k1
 have k3:=KI 12 (p.map card) k1' (fun x hx=>by
  obtain⟨y,hy,rfl⟩:=zgY.1 hx
  have:=k2 y hy
  have:=SD y
  omega)
 exact⟨k1',fun x hx=>⟨k2 x hx,(SD x).2⟩,by simpa using k3⟩
theorem XB (xs:List Int)(hm:xs.length<=12):∀(r:List Int) (i:Nat) (done:List Int),xs.drop i=r->done.length=i->Ev (fun k=>eV k xs (xs.length:Int) (i:Int) done) (pk done r)
 | [],i,done,h,hd=>by
   have a:=zu h
   refine ES (fun k=>XC k ..) ?_
   simp only[a.g,zgK]
   exact EP _
 |x::r,i,done,h,hd=>by
  have a:=zh h (by rw[zc];omega)
  have hlt:=a.lt
  refine ES (fun k=>XC k ..) ?_
  simp only[a.g,a.z,a.get,a.w,zgJ]
  unfold pk
  refine EB (uJ x) (EI (fun c=>EZ ?_) (fun c=>EB (Vl done (card x) (by rw[zc];omega)) (EI (fun c2=>EZ ?_) (fun c2=>EY (by rw[za];simp;omega) ?_))))
  ·have:¬0<=card x:=by simpa using c
   simp[this]
  ·simp only[c2,Bool.not_true,Bool.false_and,Bool.and_false]
  ·have e1:decide (0<=card x)=true:=by simpa using c
   rw[e1,c2]
   exact XB xs hm r (i+1) _ a.next (by simp[hd])
theorem eW (p:List Int)(hm:p.length<=maxLen):Ev (fun k=>cA k p) (zp p):=by
 refine ES (fun k=>Fs k p) (EI (fun h=>EZ ?_) (fun h=> ?_))
 ·symm
  rw[Bool.eq_false_iff]
  intro hp
  have:=(yn hp).2.2
  simp at h;omega
 ·exact XB p (by simp at h;omega) p 0 [] rfl rfl
def metL (done:List Int):List Bool:=(List.range 12).map fun(c:Nat)=>done.contains (c:Int)
theorem RL (done:List Int):(metL done).length=12:=by simp[metL]
theorem zef (done:List Int)(c:Nat)(h:c<12)(d:Bool):(metL done).getD c d=done.contains (c:Int):=by
 simp[metL,List.getD,h]
theorem zee (done:List Int)(c:Nat)(h:c<12):(metL done).set c true=metL (done++[(c:Int)]):=by
 apply List.ext_getElem?
 intro x
 rw[List.getElem?_set]
 by_cases hx:x<12
 ·by_cases e:c=x
  ·subst e;simp[metL,h]
  ·have:¬x=c:=fun h=>e h.symm
   simp[metL,hx,e,this];intro h;omega
 ·rw[zgH (by omega),List.getElem?_eq_none (by rw[RL];omega),List.getElem?_eq_none (by rw[RL];omega)]
theorem XS (xs:List Int)(hm:xs.length<=maxLen)(hi:Ins xs):∀(r:List Int) (i:Nat) (done:List Int),xs.drop i=r->Ev (fun k=>cg k xs (xs.length:Int) (i:Int) (metL done)) (pk done r)
 | [],i,done,h=>by
   have a:=zu h
   refine ES (fun k=>XT k ..) ?_
   simp only[a.g,zgK]
   exact EP _
 |x::r,i,done,h=>by
  have a:=zh h hm
  refine ES (fun k=>XT k ..) ?_
  simp only[a.g,a.z,a.get,a.w,zgJ]
  unfold pk
  refine EB (wa x (hi x a.mem)) (EI (fun c=>EZ ?_) (fun c=> ?_))
  ·have:¬0<=card x:=by simpa using c
   simp[this]
  ·have hc:0<=card x:=by simpa using c
   have hc2:=(SD x).2
   have en:card x=((card x).toNat:Int):=by omega
   have g1:decide (0<=card x)=true:=by simp[hc]
   have g2:decide (card x<((metL done).length:Int))=true:=by rw[RL];simp;omega
   have g3:decide ((card x).toNat<(metL done).length)=true:=by rw[RL];simp;omega
   have g4:(Nat.beq (metL done).length 12&&true)=true:=by rw[RL];rfl
   have g5:=zef done (card x).toNat (by omega) false
   rw[<-en]at g5
   have g6:=zee done (card x).toNat (by omega)
   rw[<-en]at g6
   simp only[g1,g2,g3,g4,g5,g6,zgJ,Bool.true_and]
   refine EI (fun c2=>EZ ?_) (fun c2=> ?_)
   ·rw[c2];rfl
   ·rw[c2]
    exact XS xs hm hi r (i+1) _ a.next
theorem xY (p:List Int)(hm:p.length<=maxLen)(hi:Ins p):Ev (fun k=>w9 k p) (zp p):=
 ES (fun k=>F9 k p) (XS p hm hi p 0 [] rfl)
def posF (c:Int):Nat->List Int->Int
 |_,[]=> -1
 |i,y::r=>if card y=c then(i:Int)else posF c (i+1) r
def pos (p:List Int)(c:Int):Int:=if c<0 then-1 else posF c 0 p
theorem cW (c:Int)(xs:List Int)(hm:xs.length<=maxLen)(hc:c<0):∀(r:List Int) (i:Nat),xs.drop i=r->Ev (fun k=>wo k c xs (xs.length:Int) (i:Int)) (-1)
 | [],i,h=>by
   have a:=zu h
   refine ES (fun k=>vm k ..) ?_
   simp only[a.g,zgK]
   exact EP _
 |x::r,i,h=>by
  have a:=zh h hm
  have ih:=cW c xs hm hc r (i+1) a.next
  refine ES (fun k=>vm k ..) ?_
  simp only[a.g,a.z,a.get,a.w,zgJ]
  exact EB (uJ x) (EI (fun _=>EN (by simp;omega) ih) (fun _=>ih))
theorem aq (c:Int)(xs:List Int)(hm:xs.length<=maxLen)(hc:0<=c):∀(r:List Int) (i:Nat),xs.drop i=r->Ev (fun k=>wo k c xs (xs.length:Int) (i:Int)) (posF c i r)
 | [],i,h=>by
   have a:=zu h
   refine ES (fun k=>vm k ..) ?_
   simp only[a.g,zgK]
   exact EP _
 |x::r,i,h=>by
  have a:=zh h hm
  have ih:=aq c xs hm hc r (i+1) a.next
  refine ES (fun k=>vm k ..) ?_
  simp only[a.g,a.z,a.get,a.w,zgJ]
  unfold posF
  refine EB (uJ x) (EI (fun h=>EY (by simp;omega) (EZ ?_)) (fun h=>ih.to ?_))
  ·have:card x=c:=by simpa using h
   rw[zgG this]
  ·have:¬card x=c:=by simpa using h
   rw[zgH this]
theorem jk (p:List Int)(c:Int)(hm:p.length<=maxLen):Ev (fun k=>uQ k (p,c)) (pos p c):=by
 refine ES (fun k=>LX k p c) ?_
 unfold pos
 by_cases hc:c<0
 ·rw[zgG hc];exact cW c p hm hc p 0 rfl
 ·rw[zgH hc];exact aq c p hm (by omega) p 0 rfl
theorem VB (c:Int)(xs:List Int)(hm:xs.length<=maxLen)(hi:Ins xs):∀(r:List Int) (i:Nat),xs.drop i=r->Ev (fun k=>zL k xs c (xs.length:Int) (i:Int)) (posF c i r)
 | [],i,h=>by
   have a:=zu h
   refine ES (fun k=>yR k ..) ?_
   simp only[a.g,zgK]
   exact EP _
 |x::r,i,h=>by
  have a:=zh h hm
  have ih:=VB c xs hm hi r (i+1) a.next
  refine ES (fun k=>yR k ..) ?_
  simp only[a.g,a.z,a.get,a.w,zgJ]
  unfold posF
  have h1:Ev (fun k=>Zo k (x,c)) (card x==c):=ES (fun k=>PK k x c) (EB (wa x (hi x a.mem)) (EP _))
  refine EB h1 (EI (fun h=>EZ ?_) (fun h=>ih.to ?_))
  ·have:card x=c:=by simpa using h
   rw[zgG this]
  ·have:¬card x=c:=by simpa using h
   rw[zgH this]
theorem bH (p:List Int)(c:Int)(hm:p.length<=maxLen)(hi:Ins p):Ev (fun k=>fB k (p,c)) (pos p c):=by
 refine ES (fun k=>Jj k p c) ?_
 unfold pos
 refine EI (fun h=>EZ ?_) (fun h=>EB (ES (fun k=>vf k p c) (VB c p hm hi p 0 rfl)) (EZ ?_))
 ·have:c<0:=by simpa using h
  rw[zgG this]
 ·have:¬c<0:=by simpa using h
  rw[zgH this]
def Sj (p q:List Int):Bool:=zp p&&(zp q&&(p.length==q.length&&p.all fun x=>decide (0<=pos q (card x))))
def noPos (q:List Int):Nat->List Int->Int
 |_,[]=> -1
 |i,x::r=>if pos q (card x)<0 then(i:Int)else noPos q (i+1) r
theorem DT (q:List Int):∀(r:List Int) (i:Nat),(!(decide (noPos q i r>=0)))=r.all fun x=>decide (0<=pos q (card x))
 | [],i=>by simp[noPos]
 |x::r,i=>by
  unfold noPos
  by_cases h:pos q (card x)<0
  ·rw[zgG h]
   have:¬0<=pos q (card x):=by omega
   simp[this]
  ·rw[zgH h,DT q r (i+1)]
   have:0<=pos q (card x):=by omega
   simp[this]
theorem VU (q xs:List Int)(hm:xs.length<=maxLen)(hi:Ins xs)(hq:q.length<=maxLen)(hiq:Ins q):∀(r:List Int) (i:Nat),xs.drop i=r->Ev (fun k=>zH k xs q (xs.length:Int) (i:Int)) (noPos q i r)
 | [],i,h=>by
   have a:=zu h
   refine ES (fun k=>yC k ..) ?_
   simp only[a.g,zgK]
   exact EP _
 |x::r,i,h=>by
  have a:=zh h hm
  have ih:=VU q xs hm hi hq hiq r (i+1) a.next
  refine ES (fun k=>yC k ..) ?_
  simp only[a.g,a.z,a.get,a.w,zgJ]
  unfold noPos
  have h1:Ev (fun k=>gj k (x,q)) (decide (pos q (card x)<0)):=ES (fun k=>UK k x q) (EB (wa x (hi x a.mem)) (EB (bH q _ hq hiq) (EP _)))
  refine EB h1 (EI (fun h=>EZ ?_) (fun h=>ih.to ?_))
  ·have:pos q (card x)<0:=by simpa using h
   rw[zgG this]
  ·have:¬pos q (card x)<0:=by simpa using h
   rw[zgH this]
theorem aO (p q:List Int)(hp:p.length<=maxLen)(hip:Ins p)(hq:q.length<=maxLen)(hiq:Ins q):Ev (fun k=>jJ k (p,q)) (Sj p q):=by
 unfold Sj
 refine ES (fun k=>Qf k p q) (EB (xY p hp hip) (EI (fun h=>EZ ?_) (fun h=>EB (xY q hq hiq) (EI (fun h2=>EZ ?_) (fun h2=>EI (fun h3=>EZ ?_) (fun h3=> ?_))))))
 ·have:zp p=false:=by simpa using h
  rw[this];rfl
 ·have:zp q=false:=by simpa using h2
  rw[this];simp
 ·have:(p.length==q.length)=false:=by simp at h3⊢;omega
  rw[this];simp
 ·have e1:zp p=true:=by simpa using h
  have e2:zp q=true:=by simpa using h2
  have e3:(p.length==q.length)=true:=by simp at h3⊢;omega
  rw[e1,e2,e3,<-DT q p 0]
  exact EB (ES (fun k=>x6 k p q) (EB (ES (fun k=>wB k p q) (VU q p hp hip hq hiq p 0 rfl)) (EP _))) (EZ (by simp))
def em (n:Int)(p:List Int)(noted:Bool)(c a b:Int):Bool:=
 if c=0 then a==0&&b==0 else
 if c=4 then a==0&&b==0 else
 if c=1 then noted&&(decide (0<=a)&&(decide (a<n)&&b==0))else
 if c=2 then decide (0<=a)&&(decide (a<=n)&&b==0)else
 if c=3 then decide (0<=pos p a)&&(decide (0<=b)&&decide (b<n))else false
def jX (n:Int)(l:List Step):Bool:=l.all (zS n)
def Xf (l:List Step):Bool:=l.any fun s=>s.1==3
def zi (t:Trick):Bool:=
 zp t.1&&(!(t.1.length==0)&&(decide (t.2.1.length<=12)&&(jX t.1.length t.2.1&&em t.1.length t.1 (Xf t.2.1) t.2.2.1 t.2.2.2.1 t.2.2.2.2)))
theorem zfM (p:List Int)(st:List Step)(c a b n:Int)(nt:Bool)(hp:p.length<=maxLen)(hn:n=p.length):Ev (fun k=>Q3 k ((p,st,c,a,b),n,nt)) (em n p nt c a b):=by
 have hw:IntKind.i64.wrap (n-1)=n-1:=by rw[zc]at hp;exact ze (by omega) (by omega)
 refine ES (fun k=>Fj k _ n nt) ?_
 unfold em
 dsimp only
 rw[hw]
 refine EI (fun h=> ?_) (fun h=> ?_)
 ·have e:c=0:=by simpa using h
  rw[zgG e]
  refine EI (fun h=>EZ ?_) (fun h=>EZ ?_)<;>simp[h]
 have e0:¬c=0:=by simpa using h
 rw[zgH e0]
 refine EI (fun h=> ?_) (fun h=> ?_)
 ·have e:c=4:=by simpa using h
  rw[zgG e]
  refine EI (fun h=>EZ ?_) (fun h=>EZ ?_)<;>simp[h]
 have e4:¬c=4:=by simpa using h
 rw[zgH e4]
 refine EI (fun h=> ?_) (fun h=> ?_)
 ·have e:c=1:=by simpa using h
  rw[zgG e]
  refine EI (fun h=>EB (z8 _ _ _) (EI (fun h' =>EZ ?_) (fun h' =>EZ ?_))) (fun h=>EZ ?_)
  ·have:0<=a/\a<=n-1:=by simpa using h'
   have h2:a<n:=by omega
   simp[h,this.1,h2]
  ·rw[Bool.eq_iff_iff];simp at h' ⊢;intros;omega
  ·simp[h]
 have e1:¬c=1:=by simpa using h
 rw[zgH e1]
 refine EI (fun h=> ?_) (fun h=> ?_)
 ·have e:c=2:=by simpa using h
  rw[zgG e]
  refine EB (z8 _ _ _) (EI (fun h' =>EZ ?_) (fun h' =>EZ ?_))
  ·have:0<=a/\a<=n:=by simpa using h'
   simp[this.1,this.2]
  ·rw[Bool.eq_iff_iff];simp at h' ⊢;intros;omega
 have e2:¬c=2:=by simpa using h
 rw[zgH e2]
 refine EI (fun h=> ?_) (fun h=>EZ ?_)
 ·have e:c=3:=by simpa using h
  rw[zgG e]
  refine EB (jk p a hp) (EI (fun h' =>EB (z8 _ _ _) (EZ ?_)) (fun h' =>EZ ?_))
  ·have h3:0<=pos p a:=by simpa using h'
   rw[Bool.eq_iff_iff];simp[h3];intros;omega
  ·have h3:¬0<=pos p a:=by simpa using h'
   simp[h3]
 ·have e3:¬c=3:=by simpa using h
  rw[zgH e3]
theorem cQ (p:List Int)(c a b n:Int)(hp:p.length<=maxLen)(hn:n=p.length)(xs:List Step)(hm:xs.length<=maxLen):∀(r:List Step) (i:Nat) (nt:Bool),xs.drop i=r->
 Ev (fun k=>fd k n nt xs (xs.length:Int) (i:Int) p xs c a b) (jX n r&&em n p (nt||Xf r) c a b)
 | [],i,nt,h=>by
   have q:=zu h
   refine ES (fun k=>WQ k ..) ?_
   simp only[q.g,zgK]
   exact EB (zfM p xs c a b n nt hp hn) (EZ (by simp[jX,Xf]))
 |s::r,i,nt,h=>by
  have q:=zh h hm
  refine ES (fun k=>WQ k ..) ?_
  simp only[q.g,q.z,q.get,q.w,zgJ]
  refine EB (LR n s) (EI (fun h=>EZ ?_) (fun h=>EI (fun h2=> ?_) (fun h2=> ?_)))
  ·have:zS n s=false:=by simpa using h
   simp[jX,this]
  ·have e:zS n s=true:=by simpa using h
   refine(cQ p c a b n hp hn xs hm r (i+1) true q.next).to ?_
   simp[jX,e,h2]
  ·have e:zS n s=true:=by simpa using h
   refine(cQ p c a b n hp hn xs hm r (i+1) (s.1==3) q.next).to ?_
   simp[jX,e,h2,Xf]
theorem wC (t:Trick)(h1:t.1.length<=maxLen)(h2:t.2.1.length<=maxLen):Ev (fun k=>ug k t) (zi t):=by
 obtain⟨p,st,c,a,b⟩:=t
 unfold zi
 refine ES (fun k=>Ds k _) (EB (eW p h1) (EI (fun h=>EZ ?_) (fun h=>EI (fun h' =>EZ ?_) (fun h' =>EI (fun h3=>EZ ?_) (fun h3=> ?_)))))
 ·have:zp p=false:=by simpa using h
  simp[this]
 ·have:p.length=0:=by simp at h';simp[h']
  simp[this]
 ·have:¬st.length<=12:=by simp at h3;omega
  simp[this]
 ·refine(cQ p c a b _ h1 rfl st h2 st 0 false rfl).to ?_
  have e1:zp p=true:=by simpa using h
  have e2:(p.length==0)=false:=by simp at h' ⊢;exact h'
  have e3:st.length<=12:=by simp at h3;omega
  simp[e1,e3,e2]
theorem Ab (xs:List Step)(hm:xs.length<=maxLen)(p:List Int)(hp:p.length<=maxLen)(hi:Ins p)(c a b n:Int)(hn:n=p.length):∀(r:List Step) (i:Nat) (nt:Bool),xs.drop i=r->
 Ev (fun k=>fy k n nt xs (xs.length:Int) (i:Int) p xs c a b) (jX n r&&em n p (nt||Xf r) c a b)
 | [],i,nt,h=>by
   have q:=zu h
   refine ES (fun k=>Vu k ..) ?_
   simp only[q.g,zgK]
   have e:(jX n []&&em n p (nt||Xf []) c a b)=em n p nt c a b:=by simp[jX,Xf]
   rw[e]
   unfold em
   refine EI (fun h=> ?_) (fun h=> ?_)
   ·have e:c=0:=by simpa using h
    rw[zgG e]
    refine EI (fun h=>EZ ?_) (fun h=>EZ ?_)<;>simp[h]
   have e0:¬c=0:=by simpa using h
   rw[zgH e0]
   refine EI (fun h=> ?_) (fun h=> ?_)
   ·have e:c=4:=by simpa using h
    rw[zgG e]
    refine EI (fun h=>EZ ?_) (fun h=>EZ ?_)<;>simp[h]
   have e4:¬c=4:=by simpa using h
   rw[zgH e4]
   refine EI (fun h=> ?_) (fun h=> ?_)
   ·have e:c=1:=by simpa using h
    rw[zgG e]
    repeat (first|(refine EI (fun h=> ?_) (fun h=> ?_))|focus (refine EZ ?_;simp_all;done)|focus (refine EZ ?_;simp_all;omega))
   have e1:¬c=1:=by simpa using h
   rw[zgH e1]
   refine EI (fun h=> ?_) (fun h=> ?_)
   ·have e:c=2:=by simpa using h
    rw[zgG e]
    repeat (first|(refine EI (fun h=> ?_) (fun h=> ?_))|focus (refine EZ ?_;simp_all;done)|focus (refine EZ ?_;simp_all;omega))
   have e2:¬c=2:=by simpa using h
   rw[zgH e2]
   refine EI (fun h=> ?_) (fun h=>EZ ?_)
   ·have e:c=3:=by simpa using h
    rw[zgG e]
    refine EB (bH p a hp hi) (EI (fun h' =>EI (fun h2=>EZ ?_) (fun h2=>EZ ?_)) (fun h' =>EZ ?_))
    ·have h3:0<=pos p a:=by simpa using h'
     have h4:0<=b:=by simpa using h2
     simp[h3,h4]
    ·have h4:¬0<=b:=by simpa using h2
     simp[h4]
    ·have h3:¬0<=pos p a:=by simpa using h'
     simp[h3]
   ·have e3:¬c=3:=by simpa using h
    rw[zgH e3]
 |s::r,i,nt,h=>by
  have q:=zh h hm
  refine ES (fun k=>Vu k ..) ?_
  simp only[q.g,q.z,q.get,q.w,zgJ]
  refine EB (So n s) (EI (fun h=>EZ ?_) (fun h=>EI (fun h2=> ?_) (fun h2=> ?_)))
  ·have:zS n s=false:=by simpa using h
   simp[jX,this]
  ·have e:zS n s=true:=by simpa using h
   refine(Ab xs hm p hp hi c a b n hn r (i+1) true q.next).to ?_
   simp[jX,e,h2]
  ·have e:zS n s=true:=by simpa using h
   refine(Ab xs hm p hp hi c a b n hn r (i+1) (s.1==3) q.next).to ?_
   simp[jX,e,h2,Xf]
theorem xX (t:Trick)(h1:t.1.length<=maxLen)(hi:Ins t.1)(h2:t.2.1.length<=maxLen):Ev (fun k=>vC k t) (zi t):=by
 obtain⟨p,st,c,a,b⟩:=t
 unfold zi
 refine ES (fun k=>Ci k _) (EB (xY p h1 hi) (EI (fun h=>EZ ?_) (fun h=>EI (fun h' =>EZ ?_) (fun h' =>EI (fun h3=>EZ ?_) (fun h3=> ?_)))))
 ·have:zp p=false:=by simpa using h
  simp[this]
 ·have:p.length=0:=by simp at h';simp[h']
  simp[this]
 ·have:¬st.length<=12:=by simp at h3;omega
  simp[this]
 ·refine(Ab st h2 p h1 hi c a b _ rfl st 0 false rfl).to ?_
  have e1:zp p=true:=by simpa using h
  have e2:(p.length==0)=false:=by simp at h' ⊢;exact h'
  have e3:st.length<=12:=by simp at h3;omega
  simp[e1,e3,e2]
def countK (b:Int->Bool)(l:List Step):Nat:=l.countP fun s=>b s.1
theorem gq (b:Int->Bool)(s:Step)(l:List Step):countK b (s::l)=countK b l+(if b s.1 then 1 else 0):=by unfold countK;rw[List.countP_cons]
theorem zdl (b:Int->Bool)(l:List Step):countK b l<=l.length:=List.countP_le_length
theorem zk {t:Trick}(h:zi t=true):t.2.1.length<=12/\1<=t.1.length/\t.1.length<=12/\zp t.1=true:=by
 unfold zi at h
 simp only[zgx,zgI]at h
 have:=yn h.1
 have h2:=h.2.1
 refine⟨h.2.2.1, ?_,this.2.2,h.1⟩
 have:¬t.1.length=0:=by simpa using h2
 omega
theorem X2 (xs ys:List Int)(hx:xs.length<=maxLen)(hy:ys.length<=maxLen):∀(r s:List Int) (i:Nat),xs.drop i=r->ys.drop i=s->s.length=r.length->Ev (fun k=>vr k ys xs (xs.length:Int) (i:Int)) (r==s)
 | [],[],i,h1,h2,hl=>by
   have a:=zu h1
   refine ES (fun k=>vl k ys xs _ i) ?_
   simp only[a.g,zgK]
   exact EP _
 |x::r,y::s,i,h1,h2,hl=>by
  have a:=zh h1 hx
  have b:=zh h2 hy
  refine ES (fun k=>vl k ys xs _ i) ?_
  simp only[a.g,a.z,b.g,a.get,b.get,a.w,zgJ]
  have ih:=X2 xs ys hx hy r s (i+1) a.next b.next (by simpa using hl)
  refine EI (fun h=>EZ ?_) (fun h=>ih.to ?_)
  ·have:¬x=y:=by simpa using h
   simp[this]
  ·have:x=y:=by simpa using h
   simp[this]
 | [],_::_,_,_,_,hl=>by simp at hl
 |_::_,[],_,_,_,hl=>by simp at hl
theorem QJ (xs ys:List Int)(hx:xs.length<=maxLen)(hy:ys.length<=maxLen):Ev (fun k=>yx k (xs,ys)) (xs==ys):=by
 refine ES (fun k=>WW k xs ys) (EI (fun h=>EZ ?_) (fun h=>X2 xs ys hx hy xs ys 0 rfl rfl ?_))
 ·have h' :¬xs.length=ys.length:=by simp at h;omega
  have:¬xs=ys:=fun e=>h' (by rw[e])
  simp[this]
 ·simp at h;omega
theorem vI (xs ys:List Int)(hx:xs.length<=maxLen)(hy:ys.length<=maxLen):∀(r s:List Int) (i:Nat),xs.drop i=r->ys.drop i=s->s.length=r.length->Ev (fun k=>z7 k xs ys (xs.length:Int) (i:Int)) (r==s)
 | [],[],i,h1,h2,hl=>by
   have a:=zu h1
   refine ES (fun k=>xd k xs ys _ i) ?_
   simp only[a.g,zgK]
   exact EP _
 |x::r,y::s,i,h1,h2,hl=>by
  have a:=zh h1 hx
  have b:=zh h2 hy
  refine ES (fun k=>xd k xs ys _ i) ?_
  simp only[a.g,a.z,b.g,a.get,b.get,a.w,zgJ]
  have ih:=vI xs ys hx hy r s (i+1) a.next b.next (by simpa using hl)
  refine EI (fun h=>EZ ?_) (fun h=>ih.to ?_)
  ·have:¬x=y:=by simpa using h
   simp[this]
  ·have:x=y:=by simpa using h
   simp[this]
 | [],_::_,_,_,_,hl=>by simp at hl
 |_::_,[],_,_,_,hl=>by simp at hl
theorem aT (xs ys:List Int)(hx:xs.length<=maxLen)(hy:ys.length<=maxLen):Ev (fun k=>y9 k (xs,ys)) (xs==ys):=by
 refine ES (fun k=>uF k xs ys) (EI (fun h=>EZ ?_) (fun h=>vI xs ys hx hy xs ys 0 rfl rfl ?_))
 ·have h' :¬xs.length=ys.length:=by simp at h;omega
  have:¬xs=ys:=fun e=>h' (by rw[e])
  simp[this]
 ·simp at h;omega
def isUp (x:Int):Bool:=decide (-12<=x)&&decide (x<=-1)
theorem Dx (x:Int):Ev (fun k=>AC k x) (isUp x):=ES (fun k=>zcd k x) (EB (z8 _ _ _) (EP _))
theorem Cp (x:Int)(hx:In x):Ev (fun k=>A4 k x) (isUp x):=by
 refine ES (fun k=>zcU k x) (EI (fun h=>EB (wa x hx) (EZ ?_)) (fun h=>EZ ?_))
 ·have h' :x<0:=by simpa using h
  unfold isUp card
  rw[Bool.eq_iff_iff,zgH (by omega)]
  by_cases h2: -12<=x/\x<=-1
  ·rw[zgG h2];simp;omega
  ·rw[zgH h2];simp;omega
 ·have h' :¬x<0:=by simpa using h
  unfold isUp
  symm;simp;omega
def bZ (p:List Int):Nat:=p.countP isUp
theorem bh (xs:List Int)(hm:xs.length<=maxLen):∀(r:List Int) (i:Nat) (v:Nat),xs.drop i=r->v<=i->Ev (fun k=>fh k (v:Int) xs (xs.length:Int) (i:Int)) ((v:Int)+bZ r)
 | [],i,v,h,hv=>by
   have q:=zu h
   refine ES (fun k=>Va k ..) ?_
   simp only[q.g,zgK]
   exact EZ (by simp[bZ])
 |s::r,i,v,h,hv=>by
  have q:=zh h hm
  have:=q.lt
  rw[zc]at hm
  refine ES (fun k=>Va k ..) ?_
  simp only[q.g,q.z,q.get,q.w,zgJ]
  have e:bZ (s::r)=bZ r+(if isUp s then 1 else 0):=by unfold bZ;rw[List.countP_cons]
  rw[e]
  refine EB (Dx s) (EI (fun h=> ?_) (fun h=> ?_))
  ·rw[ze (by omega) (by omega)]
   refine(bh xs (by rw[zc];exact hm) r (i+1) (v+1) q.next (by omega)).to ?_
   rw[zgG h];omega
  ·refine(bh xs (by rw[zc];exact hm) r (i+1) v q.next (by omega)).to ?_
   rw[h];simp
theorem bP (xs:List Int)(hi:Ins xs)(hm:xs.length<=maxLen):∀(r:List Int) (i:Nat) (v:Nat),xs.drop i=r->v<=i->Ev (fun k=>fC k (v:Int) xs (xs.length:Int) (i:Int)) ((v:Int)+bZ r)
 | [],i,v,h,hv=>by
   have q:=zu h
   refine ES (fun k=>VM k ..) ?_
   simp only[q.g,zgK]
   exact EZ (by simp[bZ])
 |s::r,i,v,h,hv=>by
  have q:=zh h hm
  have:=q.lt
  have hs:In s:=hi s (List.mem_of_mem_drop (h▸List.mem_cons_self))
  rw[zc]at hm
  refine ES (fun k=>VM k ..) ?_
  simp only[q.g,q.z,q.get,q.w,zgJ]
  have e:bZ (s::r)=bZ r+(if isUp s then 1 else 0):=by unfold bZ;rw[List.countP_cons]
  rw[e]
  refine EB (Cp s hs) (EI (fun h=> ?_) (fun h=> ?_))
  ·rw[ze (by omega) (by omega)]
   refine(bP xs hi (by rw[zc];exact hm) r (i+1) (v+1) q.next (by omega)).to ?_
   rw[zgG h];omega
  ·refine(bP xs hi (by rw[zc];exact hm) r (i+1) v q.next (by omega)).to ?_
   rw[h];simp
theorem zcq (c:Int):∀(r:List Int) (i a:Nat),(r.map card).Nodup->i<=a->a<i+r.length->(posF c i r=(a:Int)↔card (r.getD (a-i) 0)=c)
 | [],i,a,_,h1,h2=>by simp at h2;omega
 |y::r,i,a,hn,h1,h2=>by
  rw[List.map_cons,zgV]at hn
  unfold posF
  by_cases e:a=i
  ·subst e
   simp only[Nat.sub_self,zg0]
   by_cases hc:card y=c
   ·simp[hc]
   ·rw[zgH hc]
    constructor
    ·intro h
     exfalso
     have:∀(r:List Int) (j:Nat),a<j->posF c j r≠(a:Int):=by
      intro r
      induction r with
      |nil=>intro j hj;show(-1:Int)≠_;omega
      |cons z r ih=>
       intro j hj
       unfold posF
       split
       ·omega
       ·exact ih (j+1) (by omega)
     exact this r (a+1) (by omega) h
    ·intro h;exact absurd h hc
  ·have g:(y::r).getD (a-i) 0=r.getD (a-(i+1)) 0:=by
    have:a-i=(a-(i+1))+1:=by omega
    rw[this,List.getD_cons_succ]
   rw[g]
   have hlt:a-(i+1)<r.length:=by rw[zgB]at h2;omega
   by_cases hc:card y=c
   ·rw[zgG hc]
    constructor
    ·intro h;omega
    ·intro h
     exfalso
     apply hn.1
     rw[hc,<-h]
     rw[List.getD,zgD hlt]
     exact List.mem_map_of_mem (zg2 hlt)
   ·rw[zgH hc]
    exact zcq c r (i+1) a hn.2 (by omega) (by rw[zgB]at h2;omega)
theorem ze4 {p:List Int}{c a:Int}(hp:zp p=true)(hc:0<=c)(h0:0<=a)(h1:a<p.length):(pos p c==a)=(card (p.getD a.toNat 0)==c):=by
 have hf:=yn hp
 have:=zcq c p 0 a.toNat hf.1 (by omega) (by omega)
 have e:((a.toNat:Nat):Int)=a:=by omega
 rw[e,Nat.sub_zero]at this
 unfold pos
 rw[zgH (by omega),Bool.eq_iff_iff]
 simpa using this
def jT (t:Trick)(c:Scene):Bool:=
 if t.2.2.1=1 then decide (c.2>=0)&&pos c.1 c.2==t.2.2.2.1 else
 if t.2.2.1=2 then(bZ c.1:Int)==t.2.2.2.1 else
 if t.2.2.1=3 then pos c.1 t.2.2.2.1==t.2.2.2.2 else
 if t.2.2.1=4 then c.1==t.1 else true
theorem BI (t:Trick)(c:Scene)(a1:t.1.length<=maxLen)(b1:c.1.length<=maxLen):Ev (fun k=>Q2 k (t,c)) (jT t c):=by
 unfold jT
 refine ES (fun k=>Fh k t c) (EI (fun h=> ?_) (fun h=> ?_))
 ·have e:t.2.2.1=1:=by simpa using h
  rw[zgG e]
  exact EI (fun h=>EB (jk c.1 c.2 b1) (EZ (by rw[h];rfl))) (fun h=>EZ (by rw[h];rfl))
 ·have e:¬t.2.2.1=1:=by simpa using h
  rw[zgH e]
  refine EI (fun h=> ?_) (fun h=> ?_)
  ·have e:t.2.2.1=2:=by simpa using h
   rw[zgG e]
   refine EB (ES (fun k=>Dy k c.1) (bh c.1 b1 c.1 0 0 rfl (by omega))) (EZ (by simp))
  ·have e:¬t.2.2.1=2:=by simpa using h
   rw[zgH e]
   refine EI (fun h=> ?_) (fun h=> ?_)
   ·have e:t.2.2.1=3:=by simpa using h
    rw[zgG e]
    exact EB (jk c.1 _ b1) (EP _)
   ·have e:¬t.2.2.1=3:=by simpa using h
    rw[zgH e]
    refine EI (fun h=> ?_) (fun h=> ?_)
    ·have e:t.2.2.1=4:=by simpa using h
     rw[zgG e]
     exact EB (QJ c.1 t.1 b1 a1) (EP _)
    ·have e:¬t.2.2.1=4:=by simpa using h
     rw[zgH e]
     exact EP _
def Yc (t:Trick)(c:Scene):Bool:=zi t&&(Sj t.1 c.1&&jT t c)
theorem zcJ {p q:List Int}(h:Sj p q=true):zp q=true/\q.length=p.length:=by
 unfold Sj at h
 simp only[zgx,beq_iff_eq]at h
 exact⟨h.2.1,h.2.2.1.symm⟩
theorem VP (t:Trick)(c:Scene)(a1:t.1.length<=maxLen)(ai:Ins t.1)(a2:t.2.1.length<=maxLen)(b1:c.1.length<=maxLen)(bi:Ins c.1):Ev (fun k=>aR k (t,c)) (Yc t c):=by
 unfold Yc
 refine ES (fun k=>Jz k t c) (EB (xX t a1 ai a2) (EI (fun h=>EZ ?_) (fun h=> ?_)))
 ·have:zi t=false:=by simpa using h
  rw[this];rfl
 have e:zi t=true:=by simpa using h
 rw[e,Bool.true_and]
 refine EB (aO t.1 c.1 a1 ai b1 bi) (EI (fun h=>EZ ?_) (fun h=> ?_))
 ·have:Sj t.1 c.1=false:=by simpa using h
  rw[this];rfl
 have e2:Sj t.1 c.1=true:=by simpa using h
 rw[e2,Bool.true_and]
 obtain⟨hq,hlen⟩:=zcJ e2
 have hclaim:em t.1.length t.1 (Xf t.2.1) t.2.2.1 t.2.2.2.1 t.2.2.2.2=true:=by
  unfold zi at e
  simp only[zgx]at e
  exact e.2.2.2.2
 unfold jT
 refine EI (fun h=> ?_) (fun h=> ?_)
 ·have ec:t.2.2.1=1:=by simpa using h
  rw[zgG ec]
  unfold em at hclaim
  rw[zgH (by omega),zgH (by omega),zgG ec]at hclaim
  simp only[zgx,zgI,beq_iff_eq]at hclaim
  refine EI (fun h=> ?_) (fun h=>EZ (by rw[h];rfl))
  have hc:0<=c.2:=by simpa using h
  have hlt:t.2.2.2.1<(c.1.length:Int):=by rw[hlen];exact hclaim.2.2.1
  refine EY (by simpa using hclaim.2.1) (EY (by simpa using hlt) ?_)
  have hin:In (c.1.getD t.2.2.2.1.toNat 0):=by
   have:t.2.2.2.1.toNat<c.1.length:=by have:=hclaim.2.1;omega
   rw[List.getD,zgD this]
   exact bi _ (zg2 this)
  refine EB (wa _ hin) (EZ ?_)
  rw[h,Bool.true_and,ze4 hq hc hclaim.2.1 hlt]
 ·have e1:¬t.2.2.1=1:=by simpa using h
  rw[zgH e1]
  refine EI (fun h=> ?_) (fun h=> ?_)
  ·have e:t.2.2.1=2:=by simpa using h
   rw[zgG e]
   refine EB (ES (fun k=>Cq k c.1) (bP c.1 bi b1 c.1 0 0 rfl (by omega))) (EZ (by simp))
  ·have e2:¬t.2.2.1=2:=by simpa using h
   rw[zgH e2]
   refine EI (fun h=> ?_) (fun h=> ?_)
   ·have ec:t.2.2.1=3:=by simpa using h
    rw[zgG ec]
    unfold em at hclaim
    rw[zgH (by omega),zgH (by omega),zgH (by omega),zgH (by omega),zgG ec]at hclaim
    simp only[zgx,zgI]at hclaim
    have hc:0<=t.2.2.2.1:=by
     have:=hclaim.1
     unfold pos at this
     split at this
     ·omega
     ·omega
    have hlt:t.2.2.2.2<(c.1.length:Int):=by rw[hlen];exact hclaim.2.2
    refine EY (by simpa using hclaim.2.1) (EY (by simpa using hlt) ?_)
    have hin:In (c.1.getD t.2.2.2.2.toNat 0):=by
     have:t.2.2.2.2.toNat<c.1.length:=by have:=hclaim.2.1;omega
     rw[List.getD,zgD this]
     exact bi _ (zg2 this)
    refine EB (wa _ hin) (EZ ?_)
    rw[ze4 hq hc hclaim.2.1 hlt]
   ·have e3:¬t.2.2.1=3:=by simpa using h
    rw[zgH e3]
    refine EI (fun h=> ?_) (fun h=> ?_)
    ·have e:t.2.2.1=4:=by simpa using h
     rw[zgG e]
     exact EB (aT c.1 t.1 b1 a1) (EP _)
    ·have e:¬t.2.2.1=4:=by simpa using h
     rw[zgH e]
     exact EP _
def uM (c a b:Int):ByteArray:=
 if c=0 then T36 else
 if c=1 then T14++yk a else
 if c=2 then T30++yk a else
 if c=3 then((T7++yk a)++T16)++yk b else
 if c=4 then T21 else T0
theorem xn {a b:ByteArray}{m n:Nat}(ha:a.size<=m)(hb:b.size<=n):(a++b).size<=m+n:=by rw[zg4];omega
theorem vq {a b:ByteArray}{m n:Nat}(ha:a.size<=m)(hb:b.size<=n)(h:m+n<=9223372036854775807):decide (a.size+b.size<=9223372036854775807)=true:=zgu (by omega)
theorem Ml (p:List Int)(st:List Step)(c a b:Int)(ha:In a)(hb:In b):Ev (fun k=>YK k (p,st,c,a,b)) (uM c a b):=by
 have sa:=zN a ha
 have sb:=zN b hb
 unfold uM
 refine ES (fun k=>Mm k _) (EI (fun h=> ?_) (fun h=> ?_))
 ·rw[zgG (by simpa using h)];exact EP _
 rw[zgH (by simpa using h)]
 refine EI (fun h=> ?_) (fun h=> ?_)
 ·rw[zgG (by simpa using h)]
  exact EB (zY a ha) (EY (vq (m:=9) (by decide) sa (by decide)) (EP _))
 rw[zgH (by simpa using h)]
 refine EI (fun h=> ?_) (fun h=> ?_)
 ·rw[zgG (by simpa using h)]
  exact EB (zY a ha) (EY (vq (m:=3) (by decide) sa (by decide)) (EP _))
 rw[zgH (by simpa using h)]
 refine EI (fun h=> ?_) (fun h=> ?_)
 ·rw[zgG (by simpa using h)]
  have s1:=xn (a:=T7) (m:=5) (by decide) sa
  have s2:=xn (b:=T16) (n:=4) s1 (by decide)
  exact EB (zY a ha) (EY (vq (m:=5) (by decide) sa (by decide)) (EY (vq s1 (n:=4) (by decide) (by decide)) (EB (zY b hb) (EY (vq s2 sb (by decide)) (EP _)))))
 rw[zgH (by simpa using h)]
 refine EI (fun h=> ?_) (fun h=> ?_)
 ·rw[zgG (by simpa using h)];exact EP _
 ·rw[zgH (by simpa using h)];exact EP _
theorem MH (p:List Int)(st:List Step)(c a b:Int)(ha:In a)(hb:In b):Ev (fun k=>Xd k (p,st,c,a,b)) (uM c a b):=by
 have sa:=zN a ha
 have sb:=zN b hb
 unfold uM
 refine ES (fun k=>MI k _) (EI (fun h=> ?_) (fun h=> ?_))
 ·rw[zgG (by simpa using h)];exact EP _
 rw[zgH (by simpa using h)]
 refine EI (fun h=> ?_) (fun h=> ?_)
 ·rw[zgG (by simpa using h)]
  exact EB (yf a ha) (EY (vq (m:=9) (by decide) sa (by decide)) (EP _))
 rw[zgH (by simpa using h)]
 refine EI (fun h=> ?_) (fun h=> ?_)
 ·rw[zgG (by simpa using h)]
  exact EB (yf a ha) (EY (vq (m:=3) (by decide) sa (by decide)) (EP _))
 rw[zgH (by simpa using h)]
 refine EI (fun h=> ?_) (fun h=> ?_)
 ·rw[zgG (by simpa using h)]
  have s1:=xn (a:=T7) (m:=5) (by decide) sa
  have s2:=xn (b:=T16) (n:=4) s1 (by decide)
  exact EB (yf a ha) (EY (vq (m:=5) (by decide) sa (by decide)) (EY (vq s1 (n:=4) (by decide) (by decide)) (EB (yf b hb) (EY (vq s2 sb (by decide)) (EP _)))))
 rw[zgH (by simpa using h)]
 refine EI (fun h=> ?_) (fun h=> ?_)
 ·rw[zgG (by simpa using h)];exact EP _
 ·rw[zgH (by simpa using h)];exact EP _
def fI (x:Int):ByteArray:=if isUp x then yk (card x)++T29 else yk (card x)
theorem Hc (x:Int):In (card x):=by have:=SD x;unfold In;omega
theorem zbG (x:Int):(fI x).size<=22:=by
 have h:=zN (card x) (Hc x)
 unfold fI
 split
 ·exact xn h (n:=1) (by decide)
 ·omega
def zG (p:List Int):ByteArray:=if zp p then(if p=[]then T20 else xe (p.map fI) T4)else T0
theorem Zv (p:List Int):∀x∈p.map fI,x.size<=22:=by
 intro x hx
 obtain⟨n,_,rfl⟩:=zgY.1 hx
 exact zbG n
theorem zdz {xs:List Int}{i:Nat}{x:Int}{r:List Int}(a:AtCons xs i x r):(xs.take (i+1)).map fI=(xs.take i).map fI++[fI x]:=by
 have hlt:=a.lt
 have e:xs[i]=x:=by have:=a.get 0;rw[zgy,List.getD,zgD hlt]at this;exact this
 rw[List.take_succ_eq_append_getElem hlt,List.map_append,e];rfl
theorem eE (xs:List Int)(hm:xs.length<=12):∀(r:List Int) (i:Nat),xs.drop i=r->Ev (fun k=>wq k xs (xs.length:Int) (i:Int) ((xs.take i).map fI)) (if xs=[]then T20 else xe (xs.map fI) T4)
 | [],i,h=>by
   have a:=zu h
   refine ES (fun k=>eF k ..) ?_
   simp only[a.g,zgK]
   rw[zgT a.ge]
   refine EI (fun h=>EZ ?_) (fun h=> ?_)
   ·have:xs=[]:=by simp at h;exact h
    rw[zgG this]
   ·have:¬xs=[]:=by simp at h;exact h
    rw[zgH this]
    exact EB (L7 _ _ 22 (by simp;omega) (Zv xs) (by omega) (by decide)) (EP _)
 |x::r,i,h=>by
  have a:=zh h (by rw[zc];omega)
  have ih:=eE xs hm r (i+1) a.next
  rw[zdz a]at ih
  refine ES (fun k=>eF k ..) ?_
  simp only[a.g,a.z,a.get,a.w,zgJ]
  have hs:=zN (card x) (Hc x)
  refine EB (uJ x) (EB (zY _ (Hc x)) (EB (Dx x) (EI (fun h=> ?_) (fun h=> ?_))))
  ·have e:fI x=yk (card x)++T29:=by unfold fI;rw[zgG h]
   rw[e]at ih
   exact EY (vq hs (n:=1) (by decide) (by decide)) (EY (by rw[za];simp;omega) ih)
  ·have e:fI x=yk (card x):=by unfold fI;rw[h];rfl
   rw[e]at ih
   exact EY (by rw[za];simp;omega) ih
theorem ga (p:List Int)(hm:p.length<=maxLen):Ev (fun k=>uh k p) (zG p):=by
 unfold zG
 refine ES (fun k=>Pf k p) (EB (eW p hm) (EI (fun h=>EZ ?_) (fun h=> ?_)))
 ·have:zp p=false:=by simpa using h
  rw[this];rfl
 ·have e:zp p=true:=by simpa using h
  rw[zgG e]
  exact eE p (yn e).2.2 p 0 rfl
theorem eJ (xs:List Int)(hm:xs.length<=12)(hi:Ins xs):∀(r:List Int) (i:Nat),xs.drop i=r->Ev (fun k=>wy k xs (xs.length:Int) (i:Int) ((xs.take i).map fI)) (xe (xs.map fI) T4)
 | [],i,h=>by
   have a:=zu h
   refine ES (fun k=>eK k ..) ?_
   simp only[a.g,zgK]
   rw[zgT a.ge]
   exact EB (Jt _ _ 22 (by simp;omega) (Zv xs) (by omega) (by decide)) (EP _)
 |x::r,i,h=>by
  have a:=zh h (by rw[zc];omega)
  have hx:In x:=hi x (List.mem_of_mem_drop (h▸List.mem_cons_self))
  have ih:=eJ xs hm hi r (i+1) a.next
  rw[zdz a]at ih
  refine ES (fun k=>eK k ..) ?_
  simp only[a.g,a.z,a.get,a.w,zgJ]
  have hs:=zN (card x) (Hc x)
  refine EB (wa x hx) (EB (yf _ (Hc x)) (EB (Cp x hx) (EI (fun h=> ?_) (fun h=> ?_))))
  ·have e:fI x=yk (card x)++T29:=by unfold fI;rw[zgG h]
   rw[e]at ih
   exact EY (vq hs (n:=1) (by decide) (by decide)) (EY (by rw[za];simp;omega) ih)
  ·have e:fI x=yk (card x):=by unfold fI;rw[h];rfl
   rw[e]at ih
   exact EY (by rw[za];simp;omega) ih
theorem Z1 (p:List Int)(hm:p.length<=maxLen)(hi:Ins p):Ev (fun k=>gO k p) (zG p):=by
 unfold zG
 refine ES (fun k=>PN k p) (EB (xY p hm hi) (EI (fun h=>EZ ?_) (fun h=> ?_)))
 ·have:zp p=false:=by simpa using h
  rw[this];rfl
 ·have e:zp p=true:=by simpa using h
  rw[zgG e]
  refine EI (fun h=>EZ ?_) (fun h=> ?_)
  ·have:p=[]:=by simp at h;exact h
   rw[zgG this]
  ·have:¬p=[]:=by simp at h;exact h
   rw[zgH this]
   exact eJ p (yn e).2.2 hi p 0 rfl
theorem xF (p:List Int):(zG p).size<=2000:=by
 unfold zG
 split
 ·rename_i h
  split
  ·decide
  ·have h12:=(yn h).2.2
   have:=Uq (B:=22) (S:=1) T4 (by decide) (p.map fI) (Zv p)
   rw[zgN]at this
   rw[xe,zj]
   omega
 ·decide
def upB (l:List UInt8):Bool:=l.getLast? ==some 94
def Wc (l:List UInt8):List UInt8:=bif upB l then l.dropLast else l
def ZL (a:ByteArray):Option Int:=
 if(zA (strB (Wc a.data.toList))).2=true/\0<=(zA (strB (Wc a.data.toList))).1 then some (bif upB a.data.toList then-1-(zA (strB (Wc a.data.toList))).1 else(zA (strB (Wc a.data.toList))).1)else none
def X7 (a:ByteArray):Option Int:=
 if(zA (strB (Wc a.data.toList))).2=true/\0<=(zA (strB (Wc a.data.toList))).1/\(zA (strB (Wc a.data.toList))).1<=11 then some (bif upB a.data.toList then-1-(zA (strB (Wc a.data.toList))).1 else(zA (strB (Wc a.data.toList))).1)else none
def allO (f:ByteArray->Option Int):List ByteArray->Option (List Int)
 | []=>some []
 |a::r=>(f a).bind fun x=>(allO f r).map fun l=>x::l
def endI (out:List Int):Option (List Int)->List Int×Bool
 |none=>([],false)
 |some ys=>if zp (out++ys)=true then(out++ys,true)else([],false)
def endS (s:ByteArray)(out:List Int):Option (List Int)->List Int×Bool
 |none=>([],false)
 |some ys=>if zG (out++ys)=s then(out++ys,true)else([],false)
theorem CE (out:List Int)(x:Int)(o:Option (List Int)):endI out (o.map fun l=>x::l)=endI (out++[x]) o:=by
 cases o with
 |none=>rfl
 |some ys=>simp[endI]
theorem CD (s:ByteArray)(out:List Int)(x:Int)(o:Option (List Int)):endS s out (o.map fun l=>x::l)=endS s (out++[x]) o:=by
 cases o with
 |none=>rfl
 |some ys=>simp[endS]
theorem SG (m:List UInt8)(c:UInt8):upB (m++[c])=decide (c=94):=by
 unfold upB
 rw[List.getLast?_append]
 by_cases h:c=94<;>simp[h]
theorem Ez (m:List UInt8):Wc (m++[94])=m:=by
 unfold Wc
 rw[SG];simp
theorem C3 (m:List UInt8){c:UInt8}(h:c≠94):Wc (m++[c])=m++[c]:=by
 unfold Wc
 rw[SG];simp[h]
theorem ze1 (m:List UInt8)(c:UInt8)(h:(m++[c]).length<=1048576):IntKind.i64.wrap (((m++[c]).length:Int)-(1:Int))=(m.length:Int):=by
 rw[zgA,List.length_singleton]at h
 rw[ze (by simp) (by simp;omega)];simp
theorem Au (m:List UInt8)(c:UInt8):(m++[c]).getD ((m.length:Int)).toNat 0=c:=by
 rw[zgy];simp[List.getD]
theorem Av (m:List UInt8)(c:UInt8):(strB (m++[c])).extract 0 ((m.length:Int)).toNat=strB m:=by
 rw[xg,zgy];simp
theorem byte94 (c:UInt8):(((c.toNat:Nat):Int)==(94:Int))=decide (c=94):=Ey c 94
theorem up_w {n:Int}(h:0<=n)(hn:In n):IntKind.i64.wrap ((-1:Int)-n)= -1-n:=by unfold In at hn;exact ze (by omega) (by omega)
theorem RI (s:ByteArray):In (zA s).1:=by
 rcases NA s with⟨n,hn,_,hp⟩|⟨hp,_⟩
 ·rw[hp];exact hn
 ·rw[hp];unfold In;decide
theorem zct:ZL T0=none:=by decide
theorem zey (m:List UInt8)(c:UInt8):strB (m++[c])≠T0:=by
 intro e
 have:=congrArg (fun x=>x.data.toList) e
 simp[xk]at this
theorem bJ (xs:List ByteArray)(hm:xs.length<=1048577)(hsz:∀a∈xs,a.size<=1048576):∀(r:List ByteArray) (i:Nat) (out:List Int),xs.drop i=r->out.length=i->i<=xs.length->Ins out->
 Ev (fun k=>yG k (xs.length:Int) (i:Int) out xs) (endI out (allO ZL r))
 | [],i,out,h,ho,hle,hi=>by
   have a:=zu h
   refine ES (fun k=>bK k ..) ?_
   simp only[a.g,zgK]
   refine EB (xY out (by rw[zc];omega) hi) ?_
   show Ev _ (if zp (out++[])=true then(out++[],true)else([],false))
   rw[List.append_nil]
   cases hp:zp out with
   |false=>exact EY rfl (EZ (by simp))
   |true=>exact EN rfl (EZ (by simp))
 |b::r,i,out,h,ho,hle,hi=>by
  have a:=zh h (by rw[zc];omega)
  have lt:=a.lt
  have hb:=hsz b a.mem
  have go:∀x,In x->Ev (fun k=>yG k (xs.length:Int) ((i+1:Nat):Int) (out++[x]) xs) (endI (out++[x]) (allO ZL r)):=fun x hx=>
   bJ xs hm hsz r (i+1) (out++[x]) a.next (by simp[ho]) (by omega) (by
    intro y hy
    rcases zgz.1 hy with h1|h1
    ·exact hi y h1
    ·rw[List.mem_singleton.1 h1];exact hx)
  refine ES (fun k=>bK k ..) ?_
  simp only[a.g,a.z,a.n,a.get,a.w,zgJ,zn]
  have e0:allO ZL (b::r)=(ZL b).bind fun x=>(allO ZL r).map fun l=>x::l:=rfl
  rw[e0]
  have hrow:∀x:Int,decide (out.length+[x].length<=rowMax)=true:=fun x=>by rw[za];simp;omega
  rcases List.eq_nil_or_concat b.data.toList with hl|⟨m,c,hl⟩
  ·have hbe:b=T0:=by rw[<-xP b,hl];rfl
   subst hbe
   rw[zct]
   refine EN (by simp) (EB (wP _ (by decide)) (EY rfl (EP _)))
  ·rw[List.concat_eq_append]at hl
   have hbe:b=strB (m++[c]):=by rw[<-hl,xP]
   subst hbe
   rw[zj]at hb
   have hw:=ze1 m c hb
   have hlen:(m++[c]).length=m.length+1:=by simp
   simp only[zj,xk,hw,Au,Av,byte94]
   refine EY (by simp[zey]) (EY (by simp) (EY (by rw[hlen];simp;omega) ?_))
   unfold ZL
   rw[xk,SG]
   by_cases hc:c=94
   ·subst hc
    rw[Ez]
    refine EY rfl (EY (by simp) (EY (by rw[hlen];simp;omega) (EB (wP (strB m) (by rw[zj];omega)) ?_)))
    have hin:=RI (strB m)
    cases hp:(zA (strB m)).2 with
    |false=>exact EY rfl (EZ (by simp[hp,endI]))
    |true=>
     by_cases h0:0<=(zA (strB m)).1
     ·rw[zgG ⟨rfl,h0⟩,Option.bind_some,CE]
      refine EN rfl (EN (by simp;omega) (EY rfl (EY (hrow _) ?_)))
      rw[up_w h0 hin]
      exact go _ (by unfold In at hin⊢;omega)
     ·rw[zgH (fun e=>h0 e.2)]
      exact EN rfl (EY (by simp;omega) (EP _))
   ·rw[C3 m hc]
    refine EN (by simp[hc]) (EB (wP (strB (m++[c])) (by rw[zj];omega)) ?_)
    have hin:=RI (strB (m++[c]))
    cases hp:(zA (strB (m++[c]))).2 with
    |false=>exact EY rfl (EZ (by simp[hp,endI]))
    |true=>
     by_cases h0:0<=(zA (strB (m++[c]))).1
     ·rw[zgG ⟨rfl,h0⟩,Option.bind_some,CE]
      have hd:decide (c=94)=false:=by simp[hc]
      rw[hd]
      exact EN rfl (EN (by simp;omega) (EN rfl (EY (hrow _) (go _ hin))))
     ·rw[zgH (fun e=>h0 e.2)]
      exact EN rfl (EY (by simp;omega) (EP _))
theorem zcs:X7 T0=none:=by decide
theorem cZ (t:ByteArray)(xs:List ByteArray)(hm:xs.length<=1048577)(hsz:∀a∈xs,a.size<=1048576):∀(r:List ByteArray) (i:Nat) (out:List Int),xs.drop i=r->out.length=i->i<=xs.length->Ins out->
 Ev (fun k=>yF k t (xs.length:Int) (i:Int) out xs) (endS t out (allO X7 r))
 | [],i,out,h,ho,hle,hi=>by
   have a:=zu h
   refine ES (fun k=>bd k ..) ?_
   simp only[a.g,zgK]
   refine EB (ga out (by rw[zc];omega)) ?_
   show Ev _ (if zG (out++[])=t then(out++[],true)else([],false))
   rw[List.append_nil,zn]
   by_cases hp:zG out=t
   ·exact EN (by simp[hp]) (EZ (by simp[hp]))
   ·exact EY (by simp[hp]) (EZ (by simp[hp]))
 |b::r,i,out,h,ho,hle,hi=>by
  have a:=zh h (by rw[zc];omega)
  have lt:=a.lt
  have hb:=hsz b a.mem
  have go:∀x,In x->Ev (fun k=>yF k t (xs.length:Int) ((i+1:Nat):Int) (out++[x]) xs) (endS t (out++[x]) (allO X7 r)):=fun x hx=>
   cZ t xs hm hsz r (i+1) (out++[x]) a.next (by simp[ho]) (by omega) (by
    intro y hy
    rcases zgz.1 hy with h1|h1
    ·exact hi y h1
    ·rw[List.mem_singleton.1 h1];exact hx)
  refine ES (fun k=>bd k ..) ?_
  simp only[a.g,a.z,a.n,a.get,a.w,zgJ,zn]
  have e0:allO X7 (b::r)=(X7 b).bind fun x=>(allO X7 r).map fun l=>x::l:=rfl
  rw[e0]
  have hrow:∀x:Int,decide (out.length+[x].length<=rowMax)=true:=fun x=>by rw[za];simp;omega
  rcases List.eq_nil_or_concat b.data.toList with hl|⟨m,c,hl⟩
  ·have hbe:b=T0:=by rw[<-xP b,hl];rfl
   subst hbe
   rw[zcs]
   refine EN rfl (EB (wO _ (by decide)) (EY rfl (EP _)))
  ·rw[List.concat_eq_append]at hl
   have hbe:b=strB (m++[c]):=by rw[<-hl,xP]
   subst hbe
   rw[zj]at hb
   have hw:=ze1 m c hb
   have hlen:(m++[c]).length=m.length+1:=by simp
   simp only[zj,xk,hw,Au,Av,byte94]
   refine EY (by rw[hlen];simp<;>omega) (EY (by simp) (EY (by rw[hlen];simp;omega) ?_))
   unfold X7
   rw[xk,SG]
   by_cases hc:c=94
   ·subst hc
    rw[Ez]
    refine EY rfl (EY (by simp) (EY (by rw[hlen];simp;omega) (EB (wO (strB m) (by rw[zj];omega)) ?_)))
    have hin:=RI (strB m)
    cases hp:(zA (strB m)).2 with
    |false=>exact EY rfl (EZ (by simp[hp,endS]))
    |true=>
     refine EN rfl (EB (z8 _ _ _) ?_)
     by_cases h0:0<=(zA (strB m)).1/\(zA (strB m)).1<=11
     ·rw[zgG ⟨rfl,h0⟩,Option.bind_some,CD]
      refine EN (by simp[h0.1,h0.2]) (EY rfl (EY (hrow _) ?_))
      rw[up_w h0.1 hin]
      exact go _ (by unfold In at hin⊢;omega)
     ·rw[zgH (fun e=>h0 e.2)]
      exact EY (by simp;omega) (EP _)
   ·rw[C3 m hc]
    refine EN (by simp[hc]) (EB (wO (strB (m++[c])) (by rw[zj];omega)) ?_)
    have hin:=RI (strB (m++[c]))
    cases hp:(zA (strB (m++[c]))).2 with
    |false=>exact EY rfl (EZ (by simp[hp,endS]))
    |true=>
     refine EN rfl (EB (z8 _ _ _) ?_)
     by_cases h0:0<=(zA (strB (m++[c]))).1/\(zA (strB (m++[c]))).1<=11
     ·rw[zgG ⟨rfl,h0⟩,Option.bind_some,CD]
      have hd:decide (c=94)=false:=by simp[hc]
      rw[hd]
      exact EN (by simp[h0.1,h0.2]) (EN rfl (EY (hrow _) (go _ hin)))
     ·rw[zgH (fun e=>h0 e.2)]
      exact EY (by simp;omega) (EP _)
theorem cD:∀(l:List (List UInt8)),Lib.join l [32]=D1 l
 | []=>rfl
 | [a]=>by rw[Lib.join_cons];simp[Lib.joinTail,D1]
 |a::b::r=>by
  have ih:=cD (b::r)
  rw[Lib.join_cons]at ih⊢
  rw[D1,<-ih]
  simp[Lib.joinTail]
theorem K0 (s:ByteArray):xe (cutB s) sp=s:=by
 unfold xe Mu cutB
 have e:((xZ [] s.data.toList).map strB).map zx=xZ [] s.data.toList:=by
  rw[List.map_map]
  conv=>rhs;rw[<-List.map_id (xZ [] s.data.toList)]
  apply List.map_congr_left
  intro a _
  exact xk a
 have e2:zx sp=[32]:=rfl
 rw[e,e2,cD,BJ]
 exact xP s
theorem za5 {a:ByteArray}{x:Int}(h:X7 a=some x):ZL a=some x:=by
 unfold X7 at h
 split at h
 ·rename_i hc
  unfold ZL
  rw[zgG ⟨hc.1,hc.2.1⟩]
  exact h
 ·cases h
theorem J0:∀ {l:List ByteArray} {ys:List Int},allO X7 l=some ys->allO ZL l=some ys
 | [],ys,h=>h
 |a::r,ys,h=>by
  unfold allO at h⊢
  cases h1:X7 a with
  |none=>rw[h1]at h;cases h
  |some x=>
   rw[h1]at h
   cases h2:allO X7 r with
   |none=>rw[h2]at h;cases h
   |some zs=>
    rw[h2]at h
    rw[za5 h1,J0 h2]
    exact h
theorem za6 {a:ByteArray}{x:Int}(h:ZL a=some x)(hx:0<=card x):a=fI x/\X7 a=some x:=by
 unfold ZL at h
 split at h
 ·rename_i hc
  obtain⟨h2,h0⟩:=hc
  have hp:=BD (s:=strB (Wc a.data.toList)) (n:=(zA (strB (Wc a.data.toList))).1) (by rw[<-h2])
  unfold X7
  generalize hn:(zA (strB (Wc a.data.toList))).1=n at*
  have hcl:=SD x
  cases hu:upB a.data.toList with
  |true=>
   rw[hu]at h
   simp only[zgJ,Option.some.injEq]at h
   have hxn:x= -1-n:=h.symm
   have hn11:n<=11:=by
    unfold card at hx
    split at hx
    ·omega
    ·split at hx
     ·omega
     ·omega
   have hcx:card x=n:=by
    unfold card
    rw[zgH (by omega),zgG (by omega)];omega
   have hup:isUp x=true:=by
    unfold isUp;simp;omega
   refine⟨?_,by rw[zgG ⟨h2,h0,hn11⟩];exact congrArg some hxn.symm⟩
   unfold fI
   rw[zgG hup,hcx]
   rcases List.eq_nil_or_concat a.data.toList with hl|⟨m,c,hl⟩
   ·rw[hl]at hu;cases hu
   ·rw[List.concat_eq_append]at hl
    rw[hl,SG]at hu
    have hc:c=94:=by simpa using hu
    subst hc
    rw[hl,Ez]at hp
    rw[<-hp.2,show T29=strB [94]from rfl,eN,<-hl,xP]
  |false=>
   rw[hu]at h
   simp only[zgK,Option.some.injEq]at h
   have hxn:x=n:=h.symm
   have hn11:n<=11:=by
    unfold card at hx
    split at hx
    ·omega
    ·split at hx
     ·omega
     ·omega
   have hcx:card x=n:=by
    unfold card
    rw[zgG (by omega)];exact hxn
   have hup:isUp x=false:=by
    unfold isUp;simp;omega
   refine⟨?_,by rw[zgG ⟨h2,h0,hn11⟩];exact congrArg some hxn.symm⟩
   unfold fI
   rw[hup,hcx]
   have hb:Wc a.data.toList=a.data.toList:=by unfold Wc;rw[hu];rfl
   rw[hb,xP]at hp
   exact hp.2
 ·cases h
theorem C6:∀ {l:List ByteArray} {ys:List Int},allO ZL l=some ys->(∀y∈ys,0<=card y)->l=ys.map fI/\allO X7 l=some ys
 | [],ys,h,_=>by cases h;exact⟨rfl,rfl⟩
 |a::r,ys,h,hy=>by
  unfold allO at h⊢
  cases h1:ZL a with
  |none=>rw[h1]at h;cases h
  |some x=>
   rw[h1]at h
   cases h2:allO ZL r with
   |none=>rw[h2]at h;cases h
   |some zs=>
    rw[h2]at h
    obtain rfl:x::zs=ys:=by simpa using h
    obtain⟨k1,k2⟩:=za6 h1 (hy x (by simp))
    obtain⟨k3,k4⟩:=C6 h2 (fun y h=>hy y (zg3 _ h))
    rw[k2,k4]
    exact⟨by rw[List.map_cons,<-k1,<-k3],rfl⟩
theorem Et (s:ByteArray):cutB s≠[]:=by
 unfold cutB
 intro e
 exact Es _ _ (List.map_eq_nil_iff.1 e)
theorem zc8 (s:ByteArray):endS s [] (allO X7 (cutB s))=endI [] (allO ZL (cutB s)):=by
 cases hI:allO ZL (cutB s)with
 |none=>
  cases hS:allO X7 (cutB s)with
  |none=>rfl
  |some ys=>rw[J0 hS]at hI;cases hI
 |some ys=>
  show _=if zp ([]++ys)=true then([]++ys,true)else([],false)
  rw[List.nil_append]
  by_cases hp:zp ys=true
  ·rw[zgG hp]
   obtain⟨k1,k2⟩:=C6 hI (fun y hy=>((yn hp).2.1 y hy).1)
   rw[k2]
   show(if zG ([]++ys)=s then([]++ys,true)else([],false))=_
   rw[List.nil_append,zgG]
   unfold zG
   have hne:ys≠[]:=fun e=>Et s (by rw[k1,e];rfl)
   rw[zgG hp,zgH hne,<-k1]
   exact K0 s
  ·rw[zgH hp]
   cases hS:allO X7 (cutB s)with
   |none=>rfl
   |some zs=>
    have:=J0 hS
    rw[hI]at this
    obtain rfl:ys=zs:=by simpa using this
    show(if zG ([]++ys)=s then([]++ys,true)else([],false))=_
    rw[List.nil_append,zgH]
    unfold zG
    rw[zgH hp]
    intro e
    subst e
    cases hI
def zP (s:ByteArray):List Int×Bool:=if s=T20 then([],true)else endI [] (allO ZL (cutB s))
theorem M8 (s:ByteArray):(cutB s).length<=s.size+1:=by
 have H:∀(l cur:List UInt8),(xZ cur l).length<=l.length+1:=by
  intro l
  induction l with
  |nil=>intro cur;simp[xZ]
  |cons c r ih=>
   intro cur
   unfold xZ
   split
   ·have:=ih [];simp;omega
   ·have:=ih (cur++[c]);simp;omega
 unfold cutB
 rw[zgN]
 have:=H s.data.toList []
 simpa using this
theorem Mh (s:ByteArray)(hm:s.size<=1048576):Ev (fun k=>YB k s) (zP s):=by
 refine ES (fun k=>Mi k s) ?_
 unfold zP
 rw[zn]
 by_cases h:s=T20
 ·rw[zgG h];exact EY (by simp[h]) (EP _)
 ·rw[zgH h,<-zc8]
  refine EN (by simp[h]) (EB (eU s hm) ?_)
  exact cZ s (cutB s) (by have:=M8 s;omega) (fun a ha=>by have:=bY s a ha;omega) _ 0 [] rfl rfl (Nat.zero_le _) (fun x hx=>by cases hx)
theorem MD (s:ByteArray)(hm:s.size<=1048576):Ev (fun k=>Y7 k s) (zP s):=by
 refine ES (fun k=>ME k s) ?_
 unfold zP
 rw[zn]
 by_cases h:s=T20
 ·rw[zgG h];exact EY (by simp[h]) (EP _)
 ·rw[zgH h]
  refine EN (by simp[h]) (EB (Y1 s hm) ?_)
  exact bJ (cutB s) (by have:=M8 s;omega) (fun a ha=>by have:=bY s a ha;omega) _ 0 [] rfl rfl (Nat.zero_le _) (fun x hx=>by cases hx)
theorem Vg (s:ByteArray):(zP s).1.length<=12:=by
 unfold zP
 split
 ·simp
 ·cases allO ZL (cutB s)with
  |none=>exact Nat.zero_le _
  |some ys=>
   show(if zp ([]++ys)=true then([]++ys,true)else([],false)).1.length<=12
   rw[List.nil_append]
   by_cases h:zp ys=true
   ·rw[zgG h];exact(yn h).2.2
   ·rw[zgH h];exact Nat.zero_le _
def vz:List ByteArray:=[T54,T50,T46,T17,T38,T47,T51,T48,T39]
def xV (kind:Int):ByteArray:=if 1<=kind/\kind<=9 then vz.getD (kind-1).toNat T0 else T0
theorem YS (kind:Int):(xV kind).size<=5:=by
 unfold xV
 split
 ·rename_i h
  obtain⟨n,hn⟩:∃n:Nat,(kind-1).toNat=n:=⟨_,rfl⟩
  have:n<9:=by omega
  rw[hn]
  clear hn h
  revert n
  decide
 ·decide
theorem Fu (kind:Int):Ev (fun k=>Pd k kind) (xV kind):=by
 refine ES (fun k=>Fv k kind) (EB (z8 _ _ _) (EI (fun h=>EZ ?_) (fun h=> ?_)))
 ·have:¬(1<=kind/\kind<=9):=by simp at h;omega
  rw[xV,zgH this]
 ·have:1<=kind/\kind<=9:=by simpa using h
  refine EB (ES (fun k=>Rl k) (EP _)) ?_
  refine EY (by simp;omega) (EY (by simp;omega) (EY (by simp;omega) (EZ ?_)))
  rw[xV,zgG this]
  obtain⟨n,rfl⟩:∃n:Nat,kind=(n:Int)+1:=⟨(kind-1).toNat,by omega⟩
  have e1:((n:Int)+1).toNat=n+1:=by omega
  have e2:((n:Int)+1-1).toNat=n:=by omega
  rw[e1,e2,List.getD_cons_succ]
  rfl
theorem Eb (kind:Int):Ev (fun k=>PM k kind) (xV kind):=by
 refine ES (fun k=>Ec k kind) (EI (fun h=>EZ ?_) (fun h=>EI (fun h2=>EZ ?_) (fun h2=> ?_)))
 ·have:¬(1<=kind/\kind<=9):=by simp at h;omega
  rw[xV,zgH this]
 ·have:¬(1<=kind/\kind<=9):=by simp at h2;omega
  rw[xV,zgH this]
 ·have:1<=kind/\kind<=9:=by simp at h h2;omega
  refine EB (ES (fun k=>Ti k) (EP _)) ?_
  rw[ze (by omega) (by omega)]
  refine EY (by simp;omega) (EY (by simp;omega) (EY (by simp;omega) (EZ ?_)))
  rw[xV,zgG this]
  rfl
def y7 (m:Int×Int):ByteArray:=if wb 12 m then(xV m.1++T4)++yk m.2 else T0
theorem Vi {n:Int}{m:Int×Int}(h:wb n m=true)(hn:n=12):0<=m.2/\m.2<=12:=by
 subst hn
 unfold wb at h
 simp only[zgx,zgI]at h
 obtain⟨_,_,h3,h4⟩:=h
 refine⟨h3, ?_⟩
 repeat (first|(split at h4)|(simp at h4;omega)|(simp at h4))
theorem W8 (m:Int×Int):Ev (fun k=>wD k m) (y7 m):=by
 refine ES (fun k=>L9 k m) (EB (YG 12 m) (EI (fun h=>EZ ?_) (fun h=> ?_)))
 ·have:wb 12 m=false:=by simpa using h
  simp[y7,this]
 ·have e:wb 12 m=true:=by simpa using h
  have hf:=Vi e rfl
  have hi:In m.2:=by unfold In;omega
  have h1:=YS m.1
  have h2:=zN m.2 hi
  refine EB (Fu m.1) (EY (by show decide ((xV m.1).size+1<=_)=true;simp;omega) (EB (zY m.2 hi) (EY ?_ (EZ ?_))))
  ·rw[zg4]
   show decide ((xV m.1).size+1+_<=_)=true
   simp;omega
  ·simp[y7,e]
theorem VK (m:Int×Int):Ev (fun k=>uW k m) (y7 m):=by
 refine ES (fun k=>Jw k m) (EB (Xb 12 m) (EI (fun h=>EZ ?_) (fun h=> ?_)))
 ·have:wb 12 m=false:=by simpa using h
  simp[y7,this]
 ·have e:wb 12 m=true:=by simpa using h
  have hf:=Vi e rfl
  have hi:In m.2:=by unfold In;omega
  have h1:=YS m.1
  have h2:=zN m.2 hi
  refine EB (Eb m.1) (EY (by show decide ((xV m.1).size+1<=_)=true;simp;omega) (EB (yf m.2 hi) (EY ?_ (EZ ?_))))
  ·rw[zg4]
   show decide ((xV m.1).size+1+_<=_)=true
   simp;omega
  ·simp[y7,e]
def idxN (s:ByteArray)(d:Int):Int->List ByteArray->Int
 |_,[]=>d|i,a::r=>if a=s then i else idxN s d (i+1) r
theorem D9 (s:ByteArray)(d:Int):∀(l:List ByteArray) (i:Int),idxN s (d+1) (i+1) l=idxN s d i l+1
 | [],i=>rfl
 |a::r,i=>by
  unfold idxN
  split
  ·rfl
  ·exact D9 s d r (i+1)
theorem GE (s:ByteArray)(d:Int):∀(l:List ByteArray) (i:Int),idxN s d i l=d\/(i<=idxN s d i l/\idxN s d i l<i+l.length)
 | [],i=> .inl rfl
 |a::r,i=>by
  unfold idxN
  split
  ·exact .inr ⟨by omega,by simp;omega⟩
  ·rcases GE s d r (i+1)with h|⟨h1,h2⟩
   ·exact .inl h
   ·exact .inr ⟨by omega,by simp;omega⟩
theorem ZF (s:ByteArray)(xs:List ByteArray)(hm:xs.length<=100):∀(r:List ByteArray) (i:Nat),xs.drop i=r->Ev (fun k=>gG k s (xs.length:Int) (i:Int) xs) (idxN s 0 (i:Int) r)
 | [],i,h=>by
   have a:=zu h
   refine ES (fun k=>ZG k ..) ?_
   simp only[a.g,zgK]
   exact EP _
 |c::r,i,h=>by
  have a:=zh h (by rw[zc];omega)
  refine ES (fun k=>ZG k ..) ?_
  simp only[a.g,a.z,a.n,a.get,a.w,zgJ,zn]
  unfold idxN
  by_cases hc:c=s
  ·rw[zgG hc];exact EY (by simp[hc]) (EP _)
  ·rw[zgH hc];exact EN (by simp[hc]) ((ZF s xs hm r (i+1) a.next).to (by push_cast;rfl))
theorem b8 (s:ByteArray)(xs:List ByteArray)(hm:xs.length<=100):∀(r:List ByteArray) (i:Nat),xs.drop i=r->Ev (fun k=>xJ k xs s (xs.length:Int) (i:Int)) (idxN s (-1) (i:Int) r)
 | [],i,h=>by
   have a:=zu h
   refine ES (fun k=>uf k ..) ?_
   simp only[a.g,zgK]
   exact EP _
 |c::r,i,h=>by
  have a:=zh h (by rw[zc];omega)
  refine ES (fun k=>uf k ..) ?_
  simp only[a.g,a.z,a.n,a.get,a.w,zgJ,zn]
  unfold idxN
  by_cases hc:c=s
  ·rw[zgG hc];exact EY (by simp[hc]) (EP _)
  ·rw[zgH hc];exact EN (by simp;exact fun e=>hc e.symm) ((b8 s xs hm r (i+1) a.next).to (by push_cast;rfl))
def yq (s:ByteArray):Int:=idxN s 0 0 (T0::vz)
theorem U4 (s:ByteArray):Ev (fun k=>YH k s) (yq s):=by
 refine ES (fun k=>Ht k s) (EB (x:=T0::vz) (ES (fun k=>Rl k) (EP _)) ?_)
 exact ZF s (T0::vz) (by decide) _ 0 rfl
theorem Tz (s:ByteArray):Ev (fun k=>Xc k s) (yq s):=by
 refine ES (fun k=>HQ k s) (EB (x:=vz) (ES (fun k=>Ti k) (EP _)) ?_)
 refine EB (ES (fun k=>X4 k ..) (b8 s vz (by decide) _ 0 rfl)) (EZ ?_)
 show IntKind.i64.wrap (idxN s (-1) 0 vz+1)=yq s
 have hb:=GE s (-1) vz 0
 have hl:vz.length=9:=rfl
 rw[ze (by omega) (by omega),<-D9]
 show idxN s 0 1 vz=idxN s 0 0 (T0::vz)
 by_cases he:T0=s
 ·subst he
  rfl
 ·show _=(if _ then _ else _)
  rw[zgH he]
  rfl
theorem Ms (kind:Int):∀b∈(xV kind).data.toList,b≠32:=by
 unfold xV
 split
 ·rename_i h
  obtain⟨n,hn⟩:∃n:Nat,(kind-1).toNat=n:=⟨_,rfl⟩
  have:n<9:=by omega
  rw[hn]
  clear hn h
  revert n
  decide
 ·decide
theorem AX (a b:ByteArray):(a++b).data.toList=a.data.toList++b.data.toList:=by simp
theorem zaf (a:ByteArray)(n:Int)(h:∀b∈a.data.toList,b≠32):cutB ((a++sp)++yk n)=[a,yk n]:=by
 unfold cutB
 have e:((a++sp)++yk n).data.toList=a.data.toList++32::Lib.itoa n:=by
  rw[AX,AX]
  show(a.data.toList++[32])++(strB (Lib.itoa n)).data.toList=_
  rw[xk];simp
 rw[e,B9 _ _ _ h,Qx _ _ (D2 n)]
 simp[xP,yk]
theorem zdk {s:ByteArray}(h:(cutB s).length≠1):s≠T0:=by
 rintro rfl
 exact h rfl
def zq (s:ByteArray):Int×Int×Bool:=
 let a:=(cutB s).getD 0 T0;let p:=zA ((cutB s).getD 1 T0)
 if(cutB s).length=2/\p.2=true/\y7 (yq a,p.1)=s then(yq a,p.1,true)else(0,0,false)
theorem MJ {s:ByteArray}{m:Int×Int}(h:y7 m=s)(hs:s≠T0):cutB s=[xV m.1,yk m.2]/\In m.2:=by
 unfold y7 at h
 split at h
 ·rename_i hk
  have hf:=Vi hk rfl
  subst h
  exact⟨zaf _ _ (Ms _),by unfold In;omega⟩
 ·exact absurd h.symm hs
theorem U2 (s:ByteArray)(hm:s.size<=1048576):Ev (fun k=>YC k s) (zq s):=by
 refine ES (fun k=>Hs k s) (EB (eU s hm) ?_)
 unfold zq
 have hsz:=bY s
 by_cases h2:(cutB s).length=2
 ·match hc:cutB s,h2 with
  | [a,b],_=>
    rw[hc]at hsz
    refine EN (by simp) (EY (by simp) (EY (by simp) (EB (wO b (by have:=hsz b (by simp);omega)) (EY (by simp) (EY (by simp) (EB (U4 a) ?_))))))
    show Ev _ (if([a,b]:List ByteArray).length=2/\(zA b).2=true/\y7 (yq a,(zA b).1)=s then(yq a,(zA b).1,true)else(0,0,false))
    simp only[zgB,List.length_nil,true_and]
    cases hp:(zA b).2 with
    |false=>exact EY rfl (EZ (by simp))
    |true=>
     refine EN rfl (EB (W8 _) ?_)
     simp only[zn]
     by_cases hf:y7 (yq a,(zA b).1)=s
     ·exact EN (by simp[hf]) (EZ (by simp[hf]))
     ·exact EY (by simp[hf]) (EZ (by simp[hf]))
 ·rw[zgH (fun e=>h2 e.1)]
  exact EY (by simp;omega) (EP _)
theorem Tv (s:ByteArray)(hm:s.size<=1048576):Ev (fun k=>Y8 k s) (zq s):=by
 refine ES (fun k=>HO k s) (EB (Y1 s hm) ?_)
 unfold zq
 have hsz:=bY s
 by_cases h2:(cutB s).length=2
 ·have hne:s≠T0:=zdk (by omega)
  match hc:cutB s,h2 with
  | [a,b],_=>
    rw[hc]at hsz
    refine EN (by simp) (EY (by simp) (EY (by simp) (EB (wP b (by have:=hsz b (by simp);omega)) (EY (by simp) (EY (by simp) (EB (Tz a) ?_))))))
    show Ev _ (if([a,b]:List ByteArray).length=2/\(zA b).2=true/\y7 (yq a,(zA b).1)=s then(yq a,(zA b).1,true)else(0,0,false))
    simp only[zgB,List.length_nil,true_and,zn]
    refine EN (by simp[hne]) (EB (VK _) ?_)
    by_cases hf:y7 (yq a,(zA b).1)=s
    ·have h3:=MJ hf hne
     rw[hc]at h3
     have hb:b=yk (zA b).1:=by have:=h3.1;simp at this;exact this.2
     have hp:zA b=((zA b).1,true):=by
      have:=br _ h3.2
      simp only at this
      rw[<-hb]at this
      exact this
     have hp2:(zA b).2=true:=by rw[hp]
     exact EN (by simp[hf]) (EZ (by simp[hf,hp2]))
    ·exact EY (by simp[hf]) (EZ (by simp[hf]))
 ·rw[zgH (fun e=>h2 e.1)]
  exact EY (by simp;omega) (EP _)
def Ad:List ByteArray:=[T13,T11,T10,T9,T15]
def yM (kind:Int):ByteArray:=if 0<=kind/\kind<=4 then Ad.getD kind.toNat T0 else T0
theorem bj (kind:Int):Ev (fun k=>xT k kind) (yM kind):=by
 refine ES (fun k=>Kd k kind) (EB (z8 _ _ _) (EI (fun h=>EZ ?_) (fun h=> ?_)))
 ·have:¬(0<=kind/\kind<=4):=by simp at h;omega
  rw[yM,zgH this]
 ·have:0<=kind/\kind<=4:=by simpa using h
  refine EY (by simp;omega) (EY (by simp;omega) (EY (by simp;omega) (EZ ?_)))
  rw[yM,zgG this]
  rfl
theorem VS (kind:Int):Ev (fun k=>uY k kind) (yM kind):=by
 refine ES (fun k=>JA k kind) (EI (fun h=>EZ ?_) (fun h=>EI (fun h2=>EZ ?_) (fun h2=> ?_)))
 ·have:¬(0<=kind/\kind<=4):=by simp at h;omega
  rw[yM,zgH this]
 ·have:¬(0<=kind/\kind<=4):=by simp at h2;omega
  rw[yM,zgH this]
 ·have:0<=kind/\kind<=4:=by simp at h h2;omega
  refine EY (by simp;omega) (EY (by simp;omega) (EY (by simp;omega) (EZ ?_)))
  rw[yM,zgG this]
  rfl
def K3 (s:Int×(Int×Int)×Int):Bool:=(s.1==2)&&((s.2.1.1==0)&&((s.2.1.2==0)&&(s.2.2==2)))
def Yi (s:Int×(Int×Int)×Int):ByteArray:=if s.1=1 then y7 s.2.1 else if s.1=2 then yM s.2.2 else T5++yk s.2.2
def yp (s:Int×(Int×Int)×Int):ByteArray:=if zS 12 s||K3 s then Yi s else T0
theorem H6 {n:Int}{s:Int×(Int×Int)×Int}(h:zS n s=true)(h1:¬s.1=1)(h2:¬s.1=2)(hn:n<=12):In s.2.2:=by
 unfold zS at h
 simp only[zgx,zgI,h1,h2,if_false]at h
 obtain⟨_,_,h⟩:=h
 split at h
 ·simp at h
  unfold In;omega
 ·cases h
theorem zca (s:Int×(Int×Int)×Int)(hi:¬s.1=1->¬s.1=2->In s.2.2):Ev (fun k=>bif(s.1==(1:Int))then((wD k s.2.1).bind fun y=>some y)
 else(bif(s.1==(2:Int))then((xT k s.2.2).bind fun y=>some y)
  else((zM k s.2.2).bind fun y=>bif decide (T5.size+y.size<=9223372036854775807)then(some (T5++y))else(none)))) (Yi s):=by
 unfold Yi
 refine EI (fun h=> ?_) (fun h=> ?_)
 ·have e:s.1=1:=by simpa using h
  rw[zgG e]
  exact EB (W8 s.2.1) (EP _)
 ·have e1:¬s.1=1:=by simpa using h
  rw[zgH e1]
  refine EI (fun h=> ?_) (fun h=> ?_)
  ·have e:s.1=2:=by simpa using h
   rw[zgG e]
   exact EB (bj s.2.2) (EP _)
  ·have e2:¬s.1=2:=by simpa using h
   rw[zgH e2]
   have hs:=zN s.2.2 (hi e1 e2)
   exact EB (zY _ (hi e1 e2)) (EY (by show decide (5+_<=_)=true;simp;omega) (EP _))
theorem Cb (s:Int×(Int×Int)×Int)(hi:¬s.1=1->¬s.1=2->In s.2.2):Ev (fun k=>bif(s.1==(1:Int))then((uW k s.2.1).bind fun y=>some y)
 else(bif(s.1==(2:Int))then((uY k s.2.2).bind fun y=>some y)
  else((zW k s.2.2).bind fun y=>bif decide (T5.size+y.size<=9223372036854775807)then(some (T5++y))else(none)))) (Yi s):=by
 unfold Yi
 refine EI (fun h=> ?_) (fun h=> ?_)
 ·have e:s.1=1:=by simpa using h
  rw[zgG e]
  exact EB (VK s.2.1) (EP _)
 ·have e1:¬s.1=1:=by simpa using h
  rw[zgH e1]
  refine EI (fun h=> ?_) (fun h=> ?_)
  ·have e:s.1=2:=by simpa using h
   rw[zgG e]
   exact EB (VS s.2.2) (EP _)
  ·have e2:¬s.1=2:=by simpa using h
   rw[zgH e2]
   have hs:=zN s.2.2 (hi e1 e2)
   exact EB (yf _ (hi e1 e2)) (EY (by show decide (5+_<=_)=true;simp;omega) (EP _))
theorem be (s:Int×(Int×Int)×Int):Ev (fun k=>fg k s) (yp s):=by
 have main:K3 s=false->Ev (fun k=>(Yx k ((12:Int),s)).bind fun y=>bif(!y)then(some T0)else(bif(s.1==(1:Int))then((wD k s.2.1).bind fun y=>some y)
  else(bif(s.1==(2:Int))then((xT k s.2.2).bind fun y=>some y)
   else((zM k s.2.2).bind fun y=>bif decide (T5.size+y.size<=9223372036854775807)then(some (T5++y))else(none))))) (yp s):=by
  intro hr
  unfold yp
  refine EB (LR 12 s) (EI (fun h=>EZ ?_) (fun h=> ?_))
  ·have:zS 12 s=false:=by simpa using h
   simp[this,hr]
  ·have e:zS 12 s=true:=by simpa using h
   rw[e,Bool.true_or,zgG rfl]
   exact zca s (fun h1 h2=>H6 e h1 h2 (by omega))
 refine ES (fun k=>L8 k s) (EI (fun h=>EI (fun h2=>EI (fun h3=> ?_) (fun h3=>main ?_)) (fun h2=>main ?_)) (fun h=>main ?_))
 ·refine EB (bj _) (EZ ?_)
  have e1:s.1=2:=by simpa using h
  have hr:K3 s=true:=by simp at h h2 h3;simp[K3,h,h2,h3]
  unfold yp Yi
  rw[hr,Bool.or_true,zgG rfl,zgH (by omega),zgG e1]
 ·simp at h h2 h3;simp[K3,h,h2];intros;omega
 ·simp at h h2;simp[K3,h,h2]
 ·simp at h;simp[K3,h]
theorem VI (s:Int×(Int×Int)×Int):Ev (fun k=>aP k s) (yp s):=by
 unfold yp
 refine ES (fun k=>Jv k s) (EB (So 12 s) (EI (fun h=>EI (fun h2=>EZ ?_) (fun h2=> ?_)) (fun h=> ?_)))
 ·have e:zS 12 s=false:=by simpa using h
  have hr:K3 s=false:=by
   simp at h2
   simp[K3]
   intro a b c
   rcases h2 with h2|h2|h2|h2
   ·exact absurd a h2
   ·exact absurd b h2
   ·exact absurd c h2
   ·exact h2
  simp[e,hr]
 ·have hr:K3 s=true:=by
   simp at h2
   simp[K3,h2]
  rw[hr,Bool.or_true,zgG rfl]
  exact Cb s (fun h1 h3=>by simp at h2;exact absurd h2.1 h3)
 ·have e:zS 12 s=true:=by simpa using h
  rw[e,Bool.true_or,zgG rfl]
  exact Cb s (fun h1 h2=>H6 e h1 h2 (by omega))
abbrev StepR:Type:=Int×Int×Int×Int×Bool
def chF (s:ByteArray):Nat->Int->Option Int
 |0,_=>none
 |n+1,i=>if yM i=s then some i else chF s n (i+1)
theorem zaj (s:ByteArray):∀(n:Nat) (i k:Int),chF s n i=some k->yM k=s
 |0,i,k,h=>by cases h
 |n+1,i,k,h=>by
  unfold chF at h
  split at h
  ·rename_i e
   injection h with h;subst h;exact e
  ·exact zaj s n _ k h
theorem QC (kind:Int):∀b∈(yM kind).data.toList,b≠32:=by
 unfold yM
 split
 ·rename_i h
  obtain⟨n,hn⟩:∃n:Nat,kind.toNat=n:=⟨_,rfl⟩
  have:n<5:=by omega
  rw[hn]
  clear hn h
  revert n
  decide
 ·decide
theorem zbC (s:ByteArray){k:Int}(h:yM k=s):(cutB s).length=1:=by
 subst h
 unfold cutB
 rw[Qx _ _ (QC k)]
 rfl
def UJ (a:Int):ByteArray:=T5++yk a
def noteF (a:Int):ByteArray:=yp (3,(0,0),a)
theorem FM {a:Int}(h:0<=a/\a<12):noteF a=UJ a:=by
 unfold noteF yp
 have e:zS 12 (3,(0,0),a)=true:=by
  unfold zS
  simp[h.1,h.2]
 rw[e]
 rfl
theorem zcx {a:Int}(h:¬(0<=a/\a<12)):noteF a=T0:=by
 unfold noteF yp
 have e:zS 12 (3,(0,0),a)=false:=by
  unfold zS
  simp
  intro h1
  omega
 rw[e]
 rfl
theorem KH (a:Int):cutB (UJ a)=[⟨#[110,111,116,101]⟩,yk a]:=by
 have e:UJ a=((⟨#[110,111,116,101]⟩:ByteArray)++sp)++yk a:=rfl
 rw[e,zaf _ _ (by decide)]
theorem zcy {a b:Int}(ha:In a)(hb:In b)(h:UJ a=UJ b):a=b:=by
 have:=congrArg cutB h
 rw[KH,KH]at this
 simp at this
 exact zcI ha hb this
noncomputable def RD (s:ByteArray):StepR:=
 open Classical in
 if(zq s).2.2=true then(1,(zq s).1,(zq s).2.1,0,true)else
 if h:∃a,(0<=a/\a<12)/\s=UJ a then(3,0,0,Classical.choose h,true)else(0,0,0,0,false)
noncomputable def zQ (s:ByteArray):StepR:=match chF s 5 0 with|some k=>(2,0,0,k,true)|none=>RD s
theorem Po {s:ByteArray}{a:Int}(hm:¬(zq s).2.2=true)(h:0<=a/\a<12)(hs:s=UJ a):RD s=(3,0,0,a,true):=by
 unfold RD
 have hx:∃a,(0<=a/\a<12)/\s=UJ a:=⟨a,h,hs⟩
 rw[zgH hm,dif_pos hx]
 have hc:=Classical.choose_spec hx
 have:Classical.choose hx=a:=zcy (by unfold In;omega) (by unfold In;omega) (by rw[<-hc.2,hs])
 rw[this]
theorem Pp {s:ByteArray}(hm:¬(zq s).2.2=true)(h:¬∃a,(0<=a/\a<12)/\s=UJ a):RD s=(0,0,0,0,false):=by
 unfold RD
 rw[zgH hm,dif_neg h]
theorem aK (s:ByteArray)(hm:¬(zq s).2.2=true):∀(n:Nat) (i:Int),i+n=12->0<=i->(∀a,0<=a->a<i->s≠UJ a)->Ev (fun k=>jG k s i 0 0 0 0) (RD s)
 |0,i,h,h0,hno=>by
  refine ES (fun k=>aL k ..) (EN (by simp;omega) (EZ ?_))
  exact(Pp hm (fun⟨a,ha,hs⟩=>hno a ha.1 (by omega) hs)).symm
 |n+1,i,h,h0,hno=>by
  refine ES (fun k=>aL k ..) (EY (by simp;omega) (EB (VI _) ?_))
  have e:yp (3,(0,0),i)=UJ i:=FM ⟨h0,by omega⟩
  rw[e]
  simp only[zn]
  by_cases hs:UJ i=s
  ·refine EY (by simp[hs]) (EZ ?_)
   exact(Po hm ⟨h0,by omega⟩ hs.symm).symm
  ·refine EN (by simp[hs]) ?_
   rw[ze (by omega) (by omega)]
   exact aK s hm n (i+1) (by omega) (by omega) (fun a h1 h2=>by
    rcases Int.lt_or_le a i with h3|h3
    ·exact hno a h1 h3
    ·have:a=i:=by omega
     subst this;exact fun e=>hs e.symm)
theorem ZZ (s:ByteArray)(hm:¬(zq s).2.2=true):∀(n:Nat) (i:Int),i+n=5->0<=i->Ev (fun k=>gM k s i 0 0 0 0) (match chF s n i with|some k=>(2,0,0,k,true)|none=>RD s)
 |0,i,h,h0=>by
  refine ES (fun k=>Z0 k ..) (EN (by simp;omega) ?_)
  exact aK s hm 12 0 (by omega) (by omega) (fun a h1 h2=>by omega)
 |n+1,i,h,h0=>by
  refine ES (fun k=>Z0 k ..) (EY (by simp;omega) (EB (VS i) ?_))
  simp only[zn]
  unfold chF
  by_cases hs:yM i=s
  ·rw[zgG hs]
   exact EY (by simp[hs]) (EP _)
  ·rw[zgH hs]
   refine EN (by simp[hs]) ?_
   rw[ze (by omega) (by omega)]
   exact ZZ s hm n (i+1) (by omega) (by omega)
theorem HM (s:ByteArray)(hs:s.size<=1048576):Ev (fun k=>Ss k s) (zQ s):=by
 refine ES (fun k=>HN k s) (EB (Tv s hs) ?_)
 unfold zQ
 by_cases hm:(zq s).2.2=true
 ·refine EY hm (EZ ?_)
  cases hc:chF s 5 0 with
  |some k=>
   exfalso
   have h1:=zbC s (zaj s 5 0 k hc)
   unfold zq at hm
   dsimp only at hm
   split at hm
   ·rename_i h2;omega
   ·cases hm
  |none=>unfold RD;rw[zgG hm]
 ·exact EN (by simpa using hm) (ZZ s hm 5 0 (by omega) (by omega))
theorem zcb (s:ByteArray)(hs:s.size<=1048576)(hm:¬(zq s).2.2=true):Ev (fun k=>(vP k (s,sp)).bind fun y3=>
 bif(!((y3.length:Int)==(2:Int)))then
  (some ((0:Int),((0:Int),((0:Int),((0:Int),false)))))
 else(bif decide ((1:Int)<(y3.length:Int))then
  (bif decide (1<y3.length)then
    ((w8 k (y3.getD 1 T0)).bind fun y4=>
    bif(!y4.2)then
     (some ((0:Int),((0:Int),((0:Int),((0:Int),false)))))
    else((fg k ((3:Int),(((0:Int),(0:Int)),y4.1))).bind fun y5=>
     bif(!(y5.toList==s.toList))then
      (some ((0:Int),((0:Int),((0:Int),((0:Int),false)))))
     else(some ((3:Int),((0:Int),((0:Int),(y4.1,true)))))))
  else(none))
  else(none))) (RD s):=by
 refine EB (eU s hs) ?_
 have hsz:=bY s
 by_cases hx:∃a,(0<=a/\a<12)/\s=UJ a
 ·obtain⟨a,ha,he⟩:=hx
  rw[Po hm ha he]
  have hc:cutB s=[⟨#[110,111,116,101]⟩,yk a]:=by rw[he];exact KH a
  have hin:In a:=by unfold In;omega
  rw[hc]
  refine EN rfl (EY rfl (EY rfl (EB (wO (yk a) (by have:=zN a hin;omega)) ?_)))
  rw[br a hin]
  refine EN rfl (EB (be _) ?_)
  have e:yp (3,(0,0),a)=s:=(FM ha).trans he.symm
  rw[e]
  exact EN (by simp) (EP _)
 ·rw[Pp hm hx]
  by_cases h2:(cutB s).length=2
  ·have hne:s≠T0:=zdk (by omega)
   match hc:cutB s,h2 with
   | [a,b],_=>
     rw[hc]at hsz
     refine EN (by simp) (EY (by simp) (EY (by simp) (EB (wO b (by have:=hsz b (by simp);omega)) ?_)))
     cases hp:(zA b).2 with
     |false=>exact EY rfl (EP _)
     |true=>
      refine EN rfl (EB (be _) (EY ?_ (EP _)))
      rw[zn]
      have:¬yp (3,(0,0),(zA b).1)=s:=by
       intro e
       by_cases h12:0<=(zA b).1/\(zA b).1<12
       ·exact hx ⟨_,h12,by rw[<-e];exact FM h12⟩
       ·exact hne (by rw[<-e];exact zcx h12)
      simp[this]
  ·exact EY (by simp;omega) (EP _)
theorem ZC (s:ByteArray)(hs:s.size<=1048576):∀(n:Nat) (i:Int),i+n=5->0<=i->Ev (fun k=>gE k s i 0 0 0 0) (match chF s n i with|some k=>(2,0,0,k,true)|none=>RD s)
 |0,i,h,h0=>by
  refine ES (fun k=>ZD k ..) (EN (by simp;omega) (EB (U2 s hs) ?_))
  by_cases hm:(zq s).2.2=true
  ·refine EY hm (EZ ?_)
   show _=RD s
   unfold RD;rw[zgG hm]
  ·exact EN (by simpa using hm) (zcb s hs hm)
 |n+1,i,h,h0=>by
  refine ES (fun k=>ZD k ..) (EY (by simp;omega) (EB (bj i) ?_))
  simp only[zn]
  unfold chF
  by_cases hc:yM i=s
  ·rw[zgG hc]
   exact EY (by simp[hc]) (EP _)
  ·rw[zgH hc]
   refine EN (by simp[hc]) ?_
   rw[ze (by omega) (by omega)]
   exact ZC s hs n (i+1) (by omega) (by omega)
theorem Hq (s:ByteArray)(hs:s.size<=1048576):Ev (fun k=>TZ k s) (zQ s):=
 ES (fun k=>Hr k s) (ZC s hs 5 0 (by omega) (by omega))
theorem yz (xs:List Int)(hm:xs.length<=1048576):Ev (fun k=>zF k xs) xs:=by
 refine ES (fun k=>TR k xs) (EI (fun h=> ?_) (fun h=> ?_))
 ·exact EY (by rw[za];simp;omega) (EZ (by simp))
 ·have:xs=[]:=by simpa using h
  subst this
  exact Ev.both (EP _) (EY (by simp) (EZ rfl))
theorem wd {α:Type}(l:List α):l.take ((l.length:Int)).toNat=l:=by simp
def turn (x:Int):Int:=if card x<0 then x else-1-x
theorem zfy {x:Int}(h:In x):In (turn x):=by
 unfold turn
 unfold In at*
 split
 ·exact h
 ·omega
theorem Rp (x:Int)(hx:In x):Ev (fun k=>Uj k x) (turn x):=by
 have h1:=hx.1
 have h2:=hx.2
 refine ES (fun k=>Fo k x) (EB (uJ x) ?_)
 rw[ze (by omega) (by omega)]
 refine EI (fun h=>EZ ?_) (fun h=>EZ ?_)
 ·have:card x<0:=by simpa using h
  simp[turn,this]
 ·have:¬card x<0:=by simpa using h
  simp only[turn,zgH this]
theorem R6 (x:Int)(hx:In x):Ev (fun k=>Ut k x) (turn x):=by
 have h1:=hx.1
 have h2:=hx.2
 refine ES (fun k=>F5 k x) (EB (wa x hx) ?_)
 rw[ze (by omega) (by omega)]
 refine EI (fun h=>EZ ?_) (fun h=>EZ ?_)
 ·have:card x<0:=by simpa using h
  simp[turn,this]
 ·have:¬card x<0:=by simpa using h
  simp only[turn,zgH this]
theorem zb4 {α:Type}(p:List α)(i:Nat)(h:i<p.length):(p.take (i+1)).reverse=p[i]::(p.take i).reverse:=by
 rw[List.take_add_one,zgD h];simp
theorem WL (p:List Int)(hp:p.length<=12)(hi:Ins p)(n:Nat)(hn:n<=p.length)(up:Bool):∀(i:Nat) (out:List Int),i<=n->out.length+i<=12->
 Ev (fun k=>fc k p (n:Int) up ((i:Int)-1) out) (out++(p.take i).reverse.map (fun x=>bif up then turn x else x)++p.drop n)
 |0,out,h,ho=>by
  refine ES (fun k=>WM k ..) ?_
  simp only[wd,zgy]
  refine EN (by simp) (EY (by(first|(simp[za];done)|(simp[za];omega)|omega)) (EY (by(first|(simp[za];done)|(simp[za];omega)|omega)) (EY (by(first|(simp[za];done)|(simp[za];omega)|omega)) (EY (by(first|(simp[za];done)|(simp[za];omega)|omega)) (EZ ?_)))))
  simp
 |i+1,out,h,ho=>by
  have hlt:i<p.length:=by omega
  have e0:((i+1:Nat):Int)-1=(i:Int):=by omega
  have hg:p.getD (i:Int).toNat 0=p[i]:=by simp[List.getD,hlt]
  have hin:In p[i]:=hi _ (zg2 hlt)
  refine ES (fun k=>WM k ..) ?_
  simp only[e0,hg,ze (x:=(i:Int)-1) (by omega) (by omega)]
  have ih:=fun o (ho:o.length+i<=12)=>WL p hp hi n hn up i o (by omega) ho
  rw[zb4 p i hlt]
  cases up with
  |true=>
   refine EY (by simp) (EY rfl (EY (by simp) (EY (by(first|(simp[za];done)|(simp[za];omega)|omega)) (EB (Rp _ hin) (EY (by(first|(simp[za];done)|(simp[za];omega)|omega)) ?_)))))
   exact(ih _ (by simp;omega)).to (by simp)
  |false=>
   refine EY (by simp) (EN rfl (EY (by simp) (EY (by(first|(simp[za];done)|(simp[za];omega)|omega)) (EY (by(first|(simp[za];done)|(simp[za];omega)|omega)) ?_))))
   exact(ih _ (by simp;omega)).to (by simp)
theorem WO (p:List Int)(hp:p.length<=12)(hi:Ins p)(n:Nat)(hn:n<=p.length)(up:Bool):
 Ev (fun k=>WP k (p,(n:Int),up)) ((p.take n).reverse.map (fun x=>bif up then turn x else x)++p.drop n):=by
 refine ES (fun k=>Dr k ..) ?_
 rw[ze (x:=(n:Int)-1) (by omega) (by omega)]
 exact(WL p hp hi n hn up n [] (zgC _) (by simp;omega)).to (by simp)
def fz:Bool->List Int->List Int->List Int
 |_,[],[]=> []
 |f,x::a,[]=>x::fz (!f) a []
 |f,[],y::b=>y::fz (!f) [] b
 |true,x::a,y::b=>x::fz false a (y::b)
 |false,x::a,y::b=>y::fz true (x::a) b
termination_by _ a b=>a.length+b.length
theorem parity (k:Int)(hk:k=0\/k=1)(n:Nat):(((n+1:Nat):Int).tmod 2==k)= !(((n:Nat):Int).tmod 2==k):=by
 rw[show((n+1:Nat):Int)=(n:Int)+1 by omega,Int.tmod_eq_emod_of_nonneg (by omega),Int.tmod_eq_emod_of_nonneg (by omega)]
 by_cases h:(n:Int) % 2=k
 ·have h2:¬((n:Int)+1) % 2=k:=by omega
  rw[beq_iff_eq.2 h,beq_eq_false_iff_ne.2 h2];rfl
 ·have h2:((n:Int)+1) % 2=k:=by omega
  rw[beq_iff_eq.2 h2,beq_eq_false_iff_ne.2 h];rfl
theorem WG (k:Int)(hk:k=0\/k=1):∀(n:Nat) (a b out:List Int),a.length+b.length=n->out.length+n<=12->
 Ev (fun f=>xi f k a b out) (out++fz ((out.length:Int).tmod 2==k) a b)
 |0,a,b,out,h,ho=>by
  have ea:a=[]:=List.length_eq_zero_iff.1 (by omega)
  have eb:b=[]:=List.length_eq_zero_iff.1 (by omega)
  subst ea eb
  refine ES (fun f=>WH f _ _ _ _) (EN (by simp) (EN (by simp) (EZ ?_)))
  unfold fz;simp
 |n+1,a,b,out,h,ho=>by
  have ih:=fun a b out h1 h2=>WG k hk n a b out h1 h2
  refine ES (fun f=>WH f _ _ _ _) ?_
  simp only[wd]
  cases a with
  |nil=>
   cases b with
   |nil=>simp at h
   |cons y b=>
    simp at h
    refine EN (by simp) (EY (by(first|(simp[za];done)|(simp[za];omega)|omega)) (EN (by(first|(simp[za];done)|(simp[za];omega)|omega)) (EN (by simp) ?_)))
    (repeat (first|refine EY (by(first|(simp[za];done)|(simp[za];omega)|omega)) ?_|refine EN (by(first|(simp[za];done)|(simp[za];omega)|omega)) ?_))
    refine(ih [] b (out++[y]) (by simp;omega) (by simp;omega)).to ?_
    rw[zgA,List.length_singleton,parity k hk]
    conv=>rhs;unfold fz
    simp
  |cons x a=>
   refine EY (by(first|(simp[za];done)|(simp[za];omega)|omega)) ?_
   cases b with
   |nil=>
    simp at h
    refine EY (by simp) ?_
    (repeat (first|refine EY (by(first|(simp[za];done)|(simp[za];omega)|omega)) ?_|refine EN (by(first|(simp[za];done)|(simp[za];omega)|omega)) ?_))
    refine(ih a [] (out++[x]) (by simp;omega) (by simp;omega)).to ?_
    rw[zgA,List.length_singleton,parity k hk]
    conv=>rhs;unfold fz
    simp
   |cons y b=>
    simp at h
    refine EN (by(first|(simp[za];done)|(simp[za];omega)|omega)) (EY (by(first|(simp[za];done)|(simp[za];omega)|omega)) ?_)
    refine EI (fun hf=> ?_) (fun hf=> ?_)
    ·(repeat (first|refine EY (by(first|(simp[za];done)|(simp[za];omega)|omega)) ?_|refine EN (by(first|(simp[za];done)|(simp[za];omega)|omega)) ?_))
     refine(ih a (y::b) (out++[x]) (by simp;omega) (by simp;omega)).to ?_
     rw[zgA,List.length_singleton,parity k hk,hf]
     conv=>rhs;unfold fz
     simp
    ·(repeat (first|refine EY (by(first|(simp[za];done)|(simp[za];omega)|omega)) ?_|refine EN (by(first|(simp[za];done)|(simp[za];omega)|omega)) ?_))
     refine(ih (x::a) b (out++[y]) (by simp;omega) (by simp;omega)).to ?_
     rw[zgA,List.length_singleton,parity k hk,hf]
     conv=>rhs;unfold fz
     simp
theorem NO:∀(n:Nat) (f:Bool) (a b out:List Int),a.length+b.length=n->out.length+n<=12->Ev (fun k=>ww k a b f out) (out++fz f a b)
 |0,f,a,b,out,h,ho=>by
  have ea:a=[]:=List.length_eq_zero_iff.1 (by omega)
  have eb:b=[]:=List.length_eq_zero_iff.1 (by omega)
  subst ea eb
  refine ES (fun k=>NP k ..) (EN (by simp) (EN (by simp) (EZ ?_)))
  unfold fz;simp
 |n+1,f,a,b,out,h,ho=>by
  have ih:=fun f a b out h1 h2=>NO n f a b out h1 h2
  refine ES (fun k=>NP k ..) ?_
  simp only[wd]
  cases a with
  |nil=>
   cases b with
   |nil=>simp at h
   |cons y b=>
    simp at h
    refine EN (by simp) (EY (by(first|(simp[za];done)|(simp[za];omega)|omega)) ?_)
    cases f with
    |true=>
     refine EY rfl (EN (by simp) ?_)
     (repeat (first|refine EY (by(first|(simp[za];done)|(simp[za];omega)|omega)) ?_|refine EN (by(first|(simp[za];done)|(simp[za];omega)|omega)) ?_))
     refine(ih false [] b (out++[y]) (by simp;omega) (by simp;omega)).to ?_
     conv=>rhs;unfold fz
     simp
    |false=>
     refine EN rfl (EN (by(first|(simp[za];done)|(simp[za];omega)|omega)) ?_)
     (repeat (first|refine EY (by(first|(simp[za];done)|(simp[za];omega)|omega)) ?_|refine EN (by(first|(simp[za];done)|(simp[za];omega)|omega)) ?_))
     refine(ih true [] b (out++[y]) (by simp;omega) (by simp;omega)).to ?_
     conv=>rhs;unfold fz
     simp
  |cons x a=>
   refine EY (by(first|(simp[za];done)|(simp[za];omega)|omega)) ?_
   cases f with
   |true=>
    refine EY rfl ?_
    (repeat (first|refine EY (by(first|(simp[za];done)|(simp[za];omega)|omega)) ?_|refine EN (by(first|(simp[za];done)|(simp[za];omega)|omega)) ?_))
    refine(ih false a b (out++[x]) (by simp at h⊢;omega) (by simp;omega)).to ?_
    cases b with
    |nil=>conv=>rhs;unfold fz
          simp
    |cons y b=>conv=>rhs;unfold fz
               simp
   |false=>
    refine EN rfl ?_
    cases b with
    |nil=>
     simp at h
     refine EY (by simp) ?_
     (repeat (first|refine EY (by(first|(simp[za];done)|(simp[za];omega)|omega)) ?_|refine EN (by(first|(simp[za];done)|(simp[za];omega)|omega)) ?_))
     refine(ih true a [] (out++[x]) (by simp;omega) (by simp;omega)).to ?_
     conv=>rhs;unfold fz
     simp
    |cons y b=>
     simp at h
     refine EN (by(first|(simp[za];done)|(simp[za];omega)|omega)) ?_
     (repeat (first|refine EY (by(first|(simp[za];done)|(simp[za];omega)|omega)) ?_|refine EN (by(first|(simp[za];done)|(simp[za];omega)|omega)) ?_))
     refine(ih true (x::a) b (out++[y]) (by simp;omega) (by simp;omega)).to ?_
     conv=>rhs;unfold fz
     simp
def P0 (p:List Int)(k:Int):List Int:=fz (k==0) (p.take (p.length/2)) (p.drop (p.length/2))
theorem half (n:Nat)(h:n<=4194304):IntKind.i64.wrap ((n:Int).tdiv 2)=((n/2:Nat):Int):=by
 have:(n:Int).tdiv 2=((n/2:Nat):Int):=by rw[Int.tdiv_eq_ediv_of_nonneg (by omega)];omega
 rw[this,ze (by omega) (by omega)]
theorem Nv (p:List Int)(hp:p.length<=12)(k:Int)(hk:k=0\/k=1):Ev (fun f=>Rm f (p,k)) (P0 p k):=by
 refine ES (fun f=>Do f _ _) ?_
 simp only[half p.length (by omega),wd,zgy,List.take_length,List.drop_zero]
 (repeat (first|refine EY (by(first|(simp[za];done)|(simp[za];omega)|omega)) ?_|refine EN (by(first|(simp[za];done)|(simp[za];omega)|omega)) ?_))
 refine(WG k hk p.length _ _ [] (by simp;omega) (by simp;omega)).to ?_
 rw[List.nil_append]
 unfold P0
 congr 1
 rcases hk with rfl|rfl<;>rfl
theorem Ce (p:List Int)(hp:p.length<=12)(k:Int):Ev (fun f=>A2 f (p,k)) (P0 p k):=by
 refine ES (fun f=>zcR f _ _) ?_
 simp only[half p.length (by omega),wd,zgy,List.take_length,List.drop_zero]
 (repeat (first|refine EY (by(first|(simp[za];done)|(simp[za];omega)|omega)) ?_|refine EN (by(first|(simp[za];done)|(simp[za];omega)|omega)) ?_))
 refine(NO p.length (k==0) _ _ [] (by simp;omega) (by simp;omega)).to ?_
 rw[List.nil_append]
 rfl
def mz (k:Int):Nat->List Int->List Int->List Int
 |_,[],out=>out
 |i,x::r,out=>if i=0\/(i:Int) % 2=k then mz k (i+1) r (out++[x])else mz k (i+1) r (x::out)
theorem Xr (p:List Int)(hp:p.length<=12)(k:Int)(hk:k=0\/k=1):∀(r:List Int) (i:Nat) (out:List Int),p.drop i=r->out.length=i->Ev (fun f=>vN f k p (p.length:Int) (i:Int) out) (mz k i r out)
 | [],i,out,h,ho=>by
   have a:=zu h
   refine ES (fun f=>Xs f _ _ _ _ _) ?_
   simp only[a.g,zgK]
   exact EP _
 |x::r,i,out,h,ho=>by
  have a:=zh h (by rw[zc];omega)
  have hlt:=a.lt
  have ih:=fun out ho=>Xr p hp k hk r (i+1) out a.next ho
  refine ES (fun f=>Xs f _ _ _ _ _) ?_
  simp only[a.g,a.z,a.get,a.w,zgJ]
  rw[Int.tmod_eq_emod_of_nonneg (by omega)]
  unfold mz
  refine EI (fun c=> ?_) (fun c=>EI (fun c2=> ?_) (fun c2=> ?_))
  ·have:i=0:=by have:(i:Int)=0:=by simpa using c
                omega
   rw[zgG (.inl this)]
   exact EY (by(first|(simp[za];done)|(simp[za];omega)|omega)) (ih _ (by simp;omega))
  ·have:(i:Int) % 2=k:=by simpa using c2
   rw[zgG (.inr this)]
   exact EY (by(first|(simp[za];done)|(simp[za];omega)|omega)) (ih _ (by simp;omega))
  ·have h1:¬i=0:=by have:¬(i:Int)=0:=by simpa using c
                    omega
   have h2:¬(i:Int) % 2=k:=by simpa using c2
   rw[zgH (by rintro(h|h);exact h1 h;exact h2 h)]
   exact EY (by(first|(simp[za];done)|(simp[za];omega)|omega)) (ih _ (by simp;omega))
theorem RX (p:List Int)(hp:p.length<=12)(k:Int)(hk:k=0\/k=1):∀(r:List Int) (i:Nat) (out:List Int),p.drop i=r->out.length=i->Ev (fun f=>cE f k p (p.length:Int) (i:Int) out) (mz k i r out)
 | [],i,out,h,ho=>by
   have a:=zu h
   refine ES (fun f=>RY f _ _ _ _ _) ?_
   simp only[a.g,zgK]
   exact EP _
 |x::r,i,out,h,ho=>by
  have a:=zh h (by rw[zc];omega)
  have hlt:=a.lt
  have ih:=fun out ho=>RX p hp k hk r (i+1) out a.next ho
  refine ES (fun f=>RY f _ _ _ _ _) ?_
  simp only[a.g,a.z,a.get,a.w,zgJ]
  rw[ze (x:=(i:Int)+k) (by omega) (by omega),Int.tmod_eq_emod_of_nonneg (by omega)]
  unfold mz
  refine EI (fun c=>EI (fun c2=> ?_) (fun c2=> ?_)) (fun c=> ?_)
  ·have h1:(i:Int)>0:=by simpa using c
   have h2:((i:Int)+k) % 2=1:=by simpa using c2
   rw[zgH (by rintro(h|h)<;>omega)]
   exact EY (by(first|(simp[za];done)|(simp[za];omega)|omega)) (ih _ (by simp;omega))
  ·have h1:(i:Int)>0:=by simpa using c
   have h2:¬((i:Int)+k) % 2=1:=by simpa using c2
   rw[zgG (.inr (by omega))]
   exact EY (by(first|(simp[za];done)|(simp[za];omega)|omega)) (ih _ (by simp;omega))
  ·have h1:¬(i:Int)>0:=by simpa using c
   rw[zgG (.inl (by omega))]
   exact EY (by(first|(simp[za];done)|(simp[za];omega)|omega)) (ih _ (by simp;omega))
def kz:Nat->List Int->List Int->List Int
 |0,p,out=>p++out
 |n+1,p,out=>if 1<p.length then kz n ((p.take (p.length-1)).drop 1) (p.getD 0 0::p.getD (p.length-1) 0::out)else p++out
theorem WE:∀(n:Nat) (p out:List Int),p.length<=n->p.length+out.length<=12->Ev (fun f=>aj f p out) (kz n p out)
 |n,p,out,h,ho=>by
  refine ES (fun f=>LM f _ _) ?_
  by_cases c:1<p.length
  ·match n,h with
   |0,h=>exact absurd c (by omega)
   |n+1,h=>
   have e:((p.length:Int)-1)=((p.length-1:Nat):Int):=by omega
   unfold kz
   rw[zgG c]
   simp only[e,ze (x:=((p.length-1:Nat):Int)) (by omega) (by omega),zgy]
   refine EY (by simp;omega) ?_
   (repeat (first|refine EY (by(first|(simp[za];done)|(simp[za];omega)|omega)) ?_|refine EN (by(first|(simp[za];done)|(simp[za];omega)|omega)) ?_))
   exact WE n _ _ (by simp;omega) (by simp;omega)
  ·have:kz n p out=p++out:=by cases n<;>simp[kz,c]
   rw[this]
   refine EN (by simp;omega) (EY (by(first|(simp[za];done)|(simp[za];omega)|omega)) ?_)
   rw[List.nil_append]
   refine EY (by rw[za];exact zgu (by omega)) (EZ rfl)
theorem NN:∀(n:Nat) (p out:List Int),p.length<=n->p.length+out.length<=12->Ev (fun f=>RZ f p out) (kz n p out)
 |n,p,out,h,ho=>by
  refine ES (fun f=>Cc f _ _) ?_
  by_cases c:1<p.length
  ·match n,h with
   |0,h=>exact absurd c (by omega)
   |n+1,h=>
   have e:((p.length:Int)-1)=((p.length-1:Nat):Int):=by omega
   unfold kz
   rw[zgG c]
   simp only[e,ze (x:=((p.length-1:Nat):Int)) (by omega) (by omega),zgy]
   refine EY (by simp;omega) ?_
   (repeat (first|refine EY (by(first|(simp[za];done)|(simp[za];omega)|omega)) ?_|refine EN (by(first|(simp[za];done)|(simp[za];omega)|omega)) ?_))
   exact NN n _ _ (by simp;omega) (by simp;omega)
  ·have:kz n p out=p++out:=by cases n<;>simp[kz,c]
   rw[this]
   refine EN (by simp;omega) (EB (yz p (by omega)) (EY (by rw[za];exact zgu (by omega)) (EZ rfl)))
def dz:Nat->Bool->List Int->List Int->List Int
 |0,_,q,out=>q.getD 0 0::out
 |n+1,f,q,out=>if 1<q.length then(bif f then dz n false (q.drop 1) (q.getD 0 0::out)else dz n true (q.drop 1++[q.getD 0 0]) out)else q.getD 0 0::out
theorem zeb (s:Nat):(((s+1:Nat):Int).tmod 2==1)= !(((s:Nat):Int).tmod 2==1):=parity 1 (.inr rfl) s
theorem WJ:∀(n:Nat) (s:Nat) (q out:List Int),1<=q.length->2*q.length+(bif((s:Int).tmod 2==1)then 0 else 1)<=n->q.length+out.length<=12->s+n<=1000->
 Ev (fun f=>fb f (s:Int) q out) (dz n ((s:Int).tmod 2==1) q out)
 |0,s,q,out,h1,h,ho,hs=>by omega
 |n+1,s,q,out,h1,h,ho,hs=>by
  have ih:=fun q out h1 h ho=>WJ n (s+1) q out h1 h ho (by omega)
  rw[zeb]at ih
  refine ES (fun f=>LN f _ _ _) ?_
  have ew:IntKind.i64.wrap ((s:Int)+1)=((s+1:Nat):Int):=by rw[ze (by omega) (by omega)];omega
  simp only[ew,wd]
  unfold dz
  by_cases c:1<q.length
  ·rw[zgG c]
   refine EY (by simp;omega) ?_
   cases hf:((s:Int).tmod 2==1)with
   |true=>
    rw[hf]at h ih
    refine EY (by(first|(simp[za];done)|(simp[za];omega)|omega)) (EY (by(first|(simp[za];done)|(simp[za];omega)|omega)) (EY (by(first|(simp[za];done)|(simp[za];omega)|omega)) (EY (by(first|(simp[za];done)|(simp[za];omega)|omega)) (EY rfl ?_))))
    refine EY (by(first|(simp[za];done)|(simp[za];omega)|omega)) ?_
    exact ih (q.drop 1) (q.getD 0 0::out) (by simp;omega) (by simp at h⊢;omega) (by simp;omega)
   |false=>
    rw[hf]at h ih
    refine EY (by(first|(simp[za];done)|(simp[za];omega)|omega)) (EY (by(first|(simp[za];done)|(simp[za];omega)|omega)) (EY (by(first|(simp[za];done)|(simp[za];omega)|omega)) (EY (by(first|(simp[za];done)|(simp[za];omega)|omega)) (EN rfl ?_))))
    refine EY (by(first|(simp[za];done)|(simp[za];omega)|omega)) ?_
    exact ih (q.drop 1++[q.getD 0 0]) out (by simp) (by simp at h⊢;omega) (by simp;omega)
  ·rw[zgH c]
   refine EN (by simp;omega) ?_
   (repeat (first|refine EY (by(first|(simp[za];done)|(simp[za];omega)|omega)) ?_|refine EN (by(first|(simp[za];done)|(simp[za];omega)|omega)) ?_))
   exact EP _
theorem R2:∀(n:Nat) (f:Bool) (q out:List Int),1<=q.length->2*q.length+(bif f then 0 else 1)<=n->q.length+out.length<=12->
 ∃y,Ev (fun k=>ZW k f out q) y/\y.reverse=dz n f q out.reverse/\y.length=q.length+out.length
 |0,f,q,out,h1,h,ho=>by omega
 |n+1,f,q,out,h1,h,ho=>by
  have ih:=fun f q out h1 h ho=>R2 n f q out h1 h ho
  unfold dz
  by_cases c:1<q.length
  ·rw[zgG c]
   cases f with
   |true=>
    obtain⟨y,e1,e2,e3⟩:=ih false (q.drop 1) (out++[q.getD 0 0]) (by simp;omega) (by simp at h⊢;omega) (by simp;omega)
    refine⟨y,ES (fun k=>YY k ..) ?_, ?_,by simp at e3;omega⟩
    ·simp only[wd]
     refine EY (by simp;omega) (EY rfl ?_)
     (repeat (first|refine EY (by(first|(simp[za];done)|(simp[za];omega)|omega)) ?_|refine EN (by(first|(simp[za];done)|(simp[za];omega)|omega)) ?_))
     exact e1
    ·rw[e2];simp
   |false=>
    obtain⟨y,e1,e2,e3⟩:=ih true (q.drop 1++[q.getD 0 0]) out (by simp) (by simp at h⊢;omega) (by simp;omega)
    refine⟨y,ES (fun k=>YY k ..) ?_, ?_,by simp at e3;omega⟩
    ·have ed:(q++[q.getD 0 0]).drop 1=q.drop 1++[q.getD 0 0]:=List.drop_append_of_le_length h1
     simp only[wd,ed]
     refine EY (by simp;omega) (EN rfl ?_)
     (repeat (first|refine EY (by(first|(simp[za];done)|(simp[za];omega)|omega)) ?_|refine EN (by(first|(simp[za];done)|(simp[za];omega)|omega)) ?_))
     exact e1
    ·rw[e2];rfl
  ·rw[zgH c]
   match q,h1,c with
   | [x],_,_=>
     refine⟨out++[x],ES (fun k=>YY k ..) (EN (by simp) (EY (by(first|(simp[za];done)|(simp[za];omega)|omega)) (EZ rfl))),by simp,by simp;omega⟩
   |_::_::_,_,c=>simp at c
def Mt:List Int->List Int->Bool
 | [],b=>decide (0<b.length)
 |_::_,[]=>false
 |x::a,y::b=>if x=y then Mt a b else decide (x<y)
def cmpL:List Int->List Int->Int
 | [],b=>if 0<b.length then-1 else 0
 |_::_,[]=>1
 |x::a,y::b=>if x=y then cmpL a b else if x<y then-1 else 1
theorem CW:∀a b,decide (cmpL a b>=0)= !Mt a b
 | [],[]=>rfl
 | [],_::_=>by simp[cmpL,Mt]
 |_::_,[]=>rfl
 |x::a,y::b=>by
  unfold cmpL Mt
  by_cases h:x=y
  ·rw[zgG h,zgG h,CW a b]
  ·rw[zgH h,zgH h]
   by_cases h2:x<y
   ·simp[h2]
   ·simp[h2]
theorem En {α:Type}{xs r:List α}{i:Nat}(h:xs.drop i=r):xs.length-i=r.length:=by rw[<-h,zgR]
theorem Wz (xs ys:List Int)(hm:xs.length<=maxLen)(hy:ys.length<=maxLen):∀(r s:List Int) (i:Nat),i<=xs.length->xs.drop i=r->ys.drop i=s->Ev (fun k=>af k xs ys xs (xs.length:Int) (i:Int)) (Mt r s)
 | [],s,i,hi,h,h2=>by
   have a:=zu h
   have:=a.ge
   have hl:=En h2
   refine ES (fun k=>cP k ..) ?_
   simp only[a.g,zgK]
   refine EZ ?_
   unfold Mt
   rw[Bool.eq_iff_iff];simp;omega
 |x::r,[],i,hi,h,h2=>by
  have a:=zh h hm
  have b:=zu h2
  refine ES (fun k=>cP k ..) ?_
  simp only[a.g,a.z,zgJ]
  refine EY (by have:=b.ge;simp;omega) (EZ rfl)
 |x::r,y::s,i,hi,h,h2=>by
  have a:=zh h hm
  have b:=zh h2 hy
  have hlt:=a.lt
  have ih:=Wz xs ys hm hy r s (i+1) (by omega) a.next b.next
  refine ES (fun k=>cP k ..) ?_
  simp only[a.g,a.z,a.get,a.w,zgJ]
  refine EN (by have:=b.lt;simp;omega) ?_
  simp only[b.g,b.get,zgJ]
  unfold Mt
  refine EI (fun c=>EZ ?_) (fun c=>ih.to ?_)
  ·have:¬x=y:=by simpa using c
   rw[zgH this]
  ·have:x=y:=by simpa using c
   rw[zgG this]
theorem Dj (xs ys:List Int)(hm:xs.length<=maxLen)(hy:ys.length<=maxLen):Ev (fun k=>Ri k (xs,ys)) (Mt xs ys):=
 ES (fun k=>Dk k xs ys) (Wz xs ys hm hy xs ys 0 (by omega) rfl rfl)
abbrev Packs:Type:=List (List Int)
def FitS (l:Packs):Prop:=l.length<=maxLen/\∀p∈l,p.length<=maxLen/\Ins p
theorem FitS.of {l:Packs}(h:Fits (.slice (.slice (.int .i64))) l):FitS l:=
 ⟨h.1,fun p hp=>⟨(h.2 p hp).1,fun x hx=>In.of_fits ((h.2 p hp).2 x hx)⟩⟩
theorem zc4 {p:List Int}(h:Ins p)(i:Nat):In (p.getD i 0):=by
 rw[List.getD]
 cases hi:p[i]? with
 |none=>exact⟨by decide,by decide⟩
 |some x=>exact h x (List.mem_of_getElem? hi)
theorem QL (ls:List (List Int))(hl:ls.length<=maxLen):∀(r:List (List Int)) (i:Nat) (out:List Int),ls.drop i=r->out.length+r.flatten.length<=1048576->Ev (fun k=>xR k ls (ls.length:Int) (i:Int) out) (out++r.flatten)
 | [],i,out,h,ho=>by
   have a:=zu h
   refine ES (fun k=>uO k ..) ?_
   simp only[a.g,zgK]
   exact EZ (by simp)
 |x::r,i,out,h,ho=>by
  have a:=zh h hl
  have hlt:=a.lt
  simp only[List.flatten_cons,zgA]at ho
  refine ES (fun k=>uO k ..) ?_
  simp only[a.g,a.z,a.get,a.w,zgJ]
  refine EY (by rw[za];exact zgu (by omega)) ?_
  exact(QL ls hl r (i+1) (out++x) a.next (by simp;simp at ho;omega)).to (by simp)
theorem N7 (ls:List (List Int))(hl:ls.length<=maxLen)(ht:ls.flatten.length<=1048576):∀(r:List (List Int)) (i:Nat) (n:Nat),ls.drop i=r->n+r.flatten.length<=1048576->Ev (fun k=>we k ls (n:Int) ls (ls.length:Int) (i:Int)) ls.flatten
 | [],i,n,h,hn=>by
   have a:=zu h
   refine ES (fun k=>jb k ..) ?_
   simp only[a.g,zgK]
   have hg:Ev (fun k=>cL k ([],(n:Int))) []:=Ev.congr (fun k=>SO k [] (n:Int)) (by
    show Ev (fun _=>BV (n:Int)) []
    unfold BV
    simp at hn
    exact EY (by simp;omega) (EP _))
   exact EB hg ((QL ls hl ls 0 [] rfl (by simpa using ht)).to (by simp))
 |x::r,i,n,h,hn=>by
  have a:=zh h hl
  have hlt:=a.lt
  simp only[List.flatten_cons,zgA]at hn
  refine ES (fun k=>jb k ..) ?_
  have e:(n:Int)+(x.length:Int)=((n+x.length:Nat):Int):=by omega
  simp only[a.g,a.z,a.get,a.w,zgJ,e,ze (x:=((n+x.length:Nat):Int)) (by omega) (by omega)]
  refine EN (by simp;omega) ?_
  exact N7 ls hl ht r (i+1) (n+x.length) a.next (by omega)
theorem He (ls:List (List Int))(hl:ls.length<=maxLen)(ht:ls.flatten.length<=1048576):Ev (fun k=>yK k ls) ls.flatten:=
 ES (fun k=>UH k _) (N7 ls hl ht ls 0 0 rfl (by omega))
theorem Se (p:List Int)(hp:p.length<=1048576):Ev (fun k=>ZT k p) p.reverse:=by
 have hr:Ev (fun k=>ja k p) ((),p.reverse):=Ev.congr (fun k=>Wj k p) (by
  unfold reverseF
  exact EY (by simp;omega) (EP _))
 exact ES (fun k=>FW k _) (EB (yz p hp) (EB hr (EP _)))
theorem Tf (K:Nat):∀(m:Nat) (pre r:List Int),m<=r.length->pre.length+m=K->pre.length+r.length<=12->Ins r->Ev (fun k=>YV k (K:Int) (pre.length:Int) (pre++r)) (pre++(r.take m).map turn++r.drop m)
 |0,pre,r,hm,hK,h12,hi=>by
  refine ES (fun k=>Tg k ..) (EN (by simp;omega) (EZ (by simp)))
 |m+1,pre,[],hm,hK,h12,hi=>by simp at hm
 |m+1,pre,x::r,hm,hK,h12,hi=>by
  simp at hm h12
  have hx:In x:=hi x (by simp)
  have hg:(pre++x::r).getD (pre.length:Int).toNat 0=x:=by simp[List.getD]
  have hs:(pre++x::r).set (pre.length:Int).toNat (turn x)=pre++turn x::r:=by simp
  have ew:IntKind.i64.wrap ((pre.length:Int)+1)=((pre.length+1:Nat):Int):=by rw[ze (by omega) (by omega)];omega
  refine ES (fun k=>Tg k ..) ?_
  simp only[hg,hs,ew]
  refine EY (by simp;omega) (EY (by simp) (EY (by(first|(simp[za];done)|(simp[za];omega)|omega)) (EY (by(first|(simp[za];done)|(simp[za];omega)|omega)) (EB (R6 x hx) ?_))))
  simp only[hs]
  refine EY (by simp) (EY (by(first|(simp[za];done)|(simp[za];omega)|omega)) (EY (by(first|(simp[za];done)|(simp[za];omega)|omega)) ?_))
  have:=Tf K m (pre++[turn x]) r hm (by simp;omega) (by simp;omega) (fun y hy=>hi y (by simp[hy]))
  simp only[zgA,List.length_singleton,zgU,List.singleton_append]at this
  exact this.to (by simp)
def xB (p:List Int)(m:Int×Int):List Int:=
 if m.1=1 then p.drop m.2.toNat++p.take m.2.toNat
 else if m.1=2 then(p.take m.2.toNat).reverse++p.drop m.2.toNat
 else if m.1=3 then(p.take m.2.toNat).reverse.map turn++p.drop m.2.toNat
 else if m.1=4 then P0 p m.2
 else if m.1=5 then mz m.2 0 p []
 else if m.1=6 then kz p.length p []
 else if m.1=7 then dz (2*p.length+1) (m.2==1) p []
 else if m.1=8 then p.set m.2.toNat (turn (p.getD m.2.toNat 0))
 else p.take m.2.toNat++p.drop (m.2.toNat+1)++[p.getD m.2.toNat 0]
structure MoveFit (n:Nat)(m:Int×Int):Prop where
 n1:1<=n
 n12:n<=12
 k0:0<=m.2
 kn:m.2<=n\/m.2<=1
 c:m.1=1\/m.1=2\/m.1=3->m.2<=n
 f:m.1=4\/m.1=5\/m.1=7->m.2=0\/m.2=1
 t:m.1≠1->m.1≠2->m.1≠3->m.1≠4->m.1≠5->m.1≠6->m.1≠7->m.2<n
theorem ZP {n:Nat}{m:Int×Int}(h:wb (n:Int) m=true):MoveFit n m:=by
 unfold wb at h
 simp only[zgx,zgI]at h
 obtain⟨h1,h2,h3,h4⟩:=h
 have key:(m.1=1/\m.2<=n)\/(m.1=2/\m.2<=n)\/(m.1=3/\m.2<=n)\/(m.1=4/\m.2<=1)\/(m.1=5/\m.2<=1)\/(m.1=7/\m.2<=1)\/(m.1=6/\m.2=0)\/(m.1=8/\m.2<n)\/(m.1=9/\m.2<n):=by
  repeat' (split at h4)
  all_goals simp at h4
  all_goals simp[*]
 exact⟨by omega,by omega,h3,by omega,by omega,by omega,by omega⟩
theorem Ui (p:List Int)(m:Int×Int)(h:MoveFit p.length m)(hi:Ins p):Ev (fun k=>Q5 k (p,m)) (xB p m):=by
 have hp:=h.n12
 have hp1:=h.n1
 obtain⟨a,b⟩:=m
 have h0:=h.k0
 obtain⟨j,rfl⟩:∃j:Nat,b=(j:Int):=⟨b.toNat,by have:=h0;simp at this;omega⟩
 have hc:=h.c
 have hf:=h.f
 have ht:=h.t
 dsimp only at hc hf ht
 clear h h0
 refine ES (fun k=>zaX k p (a,(j:Int))) ?_
 unfold xB
 simp only[wd,zgy,List.take_length,List.drop_zero,List.nil_append]
 refine EI (fun c=> ?_) (fun c1=>EI (fun c=> ?_) (fun c2=>EI (fun c=> ?_) (fun c3=>EI (fun c=> ?_) (fun c4=>EI (fun c=> ?_) (fun c5=>EI (fun c=> ?_) (fun c6=>EI (fun c=> ?_) (fun c7=>EI (fun c=> ?_) (fun c8=> ?_))))))))
 all_goals simp only[beq_iff_eq,beq_eq_false_iff_ne,ne_eq]at*
 ·have:=hc (by omega)
  rw[zgG c]
  (repeat (first|refine EY (by(first|(simp[za];done)|(simp[za];omega)|omega)) ?_|refine EN (by(first|(simp[za];done)|(simp[za];omega)|omega)) ?_))
  exact EP _
 ·have:=hc (by omega)
  rw[zgH c1,zgG c]
  exact EB (WO p hp hi j (by omega) false) (EZ (by simp))
 ·have:=hc (by omega)
  rw[zgH c1,zgH c2,zgG c]
  exact EB (WO p hp hi j (by omega) true) (EZ (by simp))
 ·rw[zgH c1,zgH c2,zgH c3,zgG c]
  exact EB (Nv p hp _ (hf (by omega))) (EP _)
 ·rw[zgH c1,zgH c2,zgH c3,zgH c4,zgG c]
  exact EB (ES (fun k=>Fl k ..) (Xr p hp _ (hf (by omega)) p 0 [] rfl rfl)) (EP _)
 ·rw[zgH c1,zgH c2,zgH c3,zgH c4,zgH c5,zgG c]
  exact EB (ES (fun k=>Dm k _) (WE p.length p [] (zgC _) (by simp;omega))) (EP _)
 ·rw[zgH c1,zgH c2,zgH c3,zgH c4,zgH c5,zgH c6,zgG c]
  have hj:=hf (by omega)
  have e:((j:Int).tmod 2==1)=((j:Int)==1):=by rcases hj with hj|hj<;>rw[hj]<;>rfl
  have hd:=WJ (2*p.length+1) j p [] hp1 (by cases((j:Int).tmod 2==1)<;>simp) (by simp;omega) (by omega)
  rw[e]at hd
  refine EB (ES (fun k=>Dp k ..) (EY (by(first|(simp[za];done)|(simp[za];omega)|omega)) ?_)) (EP _)
  rw[List.nil_append]
  exact hd
 ·rw[zgH c1,zgH c2,zgH c3,zgH c4,zgH c5,zgH c6,zgH c7,zgG c]
  have:=ht c1 c2 c3 c4 c5 c6 c7
  have hin:In (p.getD j 0):=zc4 hi _
  (repeat (first|refine EY (by(first|(simp[za];done)|(simp[za];omega)|omega)) ?_|refine EN (by(first|(simp[za];done)|(simp[za];omega)|omega)) ?_))
  refine EB (Rp _ hin) ?_
  (repeat (first|refine EY (by(first|(simp[za];done)|(simp[za];omega)|omega)) ?_|refine EN (by(first|(simp[za];done)|(simp[za];omega)|omega)) ?_))
  exact EP _
 ·rw[zgH c1,zgH c2,zgH c3,zgH c4,zgH c5,zgH c6,zgH c7,zgH c8]
  have:=ht c1 c2 c3 c4 c5 c6 c7
  have e:IntKind.i64.wrap ((j:Int)+1)=((j+1:Nat):Int):=by rw[ze (by omega) (by omega)];omega
  simp only[e,zgy]
  (repeat (first|refine EY (by(first|(simp[za];done)|(simp[za];omega)|omega)) ?_|refine EN (by(first|(simp[za];done)|(simp[za];omega)|omega)) ?_))
  exact EP _
theorem ZV (p:List Int)(m:Int×Int)(h:MoveFit p.length m)(hi:Ins p):Ev (fun k=>Sk k (p,m)) (xB p m):=by
 have hp:=h.n12
 have hp1:=h.n1
 obtain⟨a,b⟩:=m
 have h0:=h.k0
 obtain⟨j,rfl⟩:∃j:Nat,b=(j:Int):=⟨b.toNat,by have:=h0;simp at this;omega⟩
 have hc:=h.c
 have hf:=h.f
 have ht:=h.t
 dsimp only at hc hf ht
 clear h h0
 refine ES (fun k=>zbh k p (a,(j:Int))) ?_
 unfold xB
 simp only[wd,zgy,List.take_length,List.drop_zero,List.nil_append]
 have hlen2:∀(x y:List Int),x.length+y.length<=1048576->Ev (fun k=>yK k [x,y]) (x++y):=fun x y hxy=>(He [x,y] (by rw[zc];simp) (by simpa using hxy)).to (by simp)
 refine EI (fun c=> ?_) (fun c1=>EI (fun c=> ?_) (fun c2=>EI (fun c=> ?_) (fun c3=>EI (fun c=> ?_) (fun c4=>EI (fun c=> ?_) (fun c5=>EI (fun c=> ?_) (fun c6=>EI (fun c=> ?_) (fun c7=>EI (fun c=> ?_) (fun c8=> ?_))))))))
 all_goals simp only[beq_iff_eq,beq_eq_false_iff_ne,ne_eq]at*
 ·have:=hc (by omega)
  rw[zgG c]
  (repeat (first|refine EY (by(first|(simp[za];done)|(simp[za];omega)|omega)) ?_|refine EN (by(first|(simp[za];done)|(simp[za];omega)|omega)) ?_))
  exact EB (hlen2 _ _ (by simp;omega)) (EP _)
 ·have:=hc (by omega)
  rw[zgH c1,zgG c]
  (repeat (first|refine EY (by(first|(simp[za];done)|(simp[za];omega)|omega)) ?_|refine EN (by(first|(simp[za];done)|(simp[za];omega)|omega)) ?_))
  refine EB (Se _ (by simp;omega)) ?_
  (repeat (first|refine EY (by(first|(simp[za];done)|(simp[za];omega)|omega)) ?_|refine EN (by(first|(simp[za];done)|(simp[za];omega)|omega)) ?_))
  exact EB (hlen2 _ _ (by simp;omega)) (EP _)
 ·have:=hc (by omega)
  rw[zgH c1,zgH c2,zgG c]
  (repeat (first|refine EY (by(first|(simp[za];done)|(simp[za];omega)|omega)) ?_|refine EN (by(first|(simp[za];done)|(simp[za];omega)|omega)) ?_))
  refine EB (Se _ (by simp;omega)) ?_
  (repeat (first|refine EY (by(first|(simp[za];done)|(simp[za];omega)|omega)) ?_|refine EN (by(first|(simp[za];done)|(simp[za];omega)|omega)) ?_))
  refine EB (hlen2 _ _ (by simp;omega)) ?_
  have hr:(p.take j).reverse.length=j:=by simp;omega
  have:=Tf j j [] ((p.take j).reverse++p.drop j) (by simp;omega) (by simp) (by simp;omega) (fun x hx=>by
   rcases zgz.1 hx with h|h
   ·exact hi x (List.mem_of_mem_take (List.mem_reverse.1 h))
   ·exact hi x (List.mem_of_mem_drop h))
  refine this.to ?_
  rw[List.nil_append,List.take_append_of_le_length (by omega),List.drop_append_of_le_length (by omega),zgT (by omega),List.drop_eq_nil_of_le (by omega),List.nil_append]
 ·rw[zgH c1,zgH c2,zgH c3,zgG c]
  exact EB (Ce p hp _) (EP _)
 ·rw[zgH c1,zgH c2,zgH c3,zgH c4,zgG c]
  exact EB (ES (fun k=>zbi k ..) (RX p hp _ (hf (by omega)) p 0 [] rfl rfl)) (EP _)
 ·rw[zgH c1,zgH c2,zgH c3,zgH c4,zgH c5,zgG c]
  exact EB (ES (fun k=>zcQ k _) (NN p.length p [] (zgC _) (by simp;omega))) (EP _)
 ·rw[zgH c1,zgH c2,zgH c3,zgH c4,zgH c5,zgH c6,zgG c]
  obtain⟨y,e1,e2,e3⟩:=R2 (2*p.length+1) ((j:Int)==1) p [] hp1 (by cases((j:Int)==1)<;>simp) (by simp;omega)
  refine EB (ES (fun k=>zbl k ..) (EB (yz p (by omega)) e1)) (EB (Se y (by simp at e3;omega)) (EZ ?_))
  rw[e2];rfl
 ·rw[zgH c1,zgH c2,zgH c3,zgH c4,zgH c5,zgH c6,zgH c7,zgG c]
  have:=ht c1 c2 c3 c4 c5 c6 c7
  have hin:In (p.getD j 0):=zc4 hi _
  refine EB (yz p (by omega)) ?_
  (repeat (first|refine EY (by(first|(simp[za];done)|(simp[za];omega)|omega)) ?_|refine EN (by(first|(simp[za];done)|(simp[za];omega)|omega)) ?_))
  refine EB (R6 _ hin) ?_
  (repeat (first|refine EY (by(first|(simp[za];done)|(simp[za];omega)|omega)) ?_|refine EN (by(first|(simp[za];done)|(simp[za];omega)|omega)) ?_))
  exact EP _
 ·rw[zgH c1,zgH c2,zgH c3,zgH c4,zgH c5,zgH c6,zgH c7,zgH c8]
  have:=ht c1 c2 c3 c4 c5 c6 c7
  have hjl:j<p.length:=by omega
  have e:IntKind.i64.wrap ((j:Int)+1)=((j+1:Nat):Int):=by rw[ze (by omega) (by omega)];omega
  simp only[e,zgy]
  (repeat (first|refine EY (by(first|(simp[za];done)|(simp[za];omega)|omega)) ?_|refine EN (by(first|(simp[za];done)|(simp[za];omega)|omega)) ?_))
  refine EB ((He [p.take j,p.drop (j+1),(p.take (j+1)).drop j] (by rw[zc];simp) (by simp;omega)).to ?_) (EP _)
  have:(p.take (j+1)).drop j=[p.getD j 0]:=by
   rw[List.take_add_one,zgD hjl,List.drop_append_of_le_length (by simp;omega),List.drop_eq_nil_of_le (by simp;omega)]
   simp[List.getD,hjl]
  rw[this]
  simp
theorem ze9:∀a b,cmpL a b=cmpI a b
 | [],_=>rfl
 |_::_,[]=>rfl
 |x::a,y::b=>by unfold cmpL cmpI;rw[ze9 a b]
theorem zcD (a b:List Int):Mt a b=decide (cmpI a b<0):=by
 have:=CW a b
 rw[ze9]at this
 by_cases h:cmpI a b<0
 ·rw[zgv (by omega)]at this;rw[zgu h];simpa using this.symm
 ·rw[zgu (by omega)]at this;rw[zgv h];simpa using this.symm
theorem BH {a b:List Int}:leI a b=true↔¬cmpI b a<0:=by unfold leI;simp
theorem KP {a b:List Int}(h:leI a b=true)(hn:a≠b):cmpI a b<0:=by
 by_cases k:cmpI a b<0
 ·exact k
 ·exact(hn (JS a b k (BH.1 h))).elim
theorem le_of_lt {a b:List Int}(h:cmpI a b<0):leI a b=true:=BH.2 fun k=>uN a (gr a b a h k)
def SS (l:Packs):Prop:=l.Pairwise fun a b=>cmpI a b<0
theorem E1:∀ {l m:Packs},SS l->SS m->(∀x,x∈l↔x∈m)->l=m
 | [],[],_,_,_=>rfl
 | [],y::m,_,_,h=>by have:=(h y).2 (by simp);simp at this
 |x::l,[],_,_,h=>by have:=(h x).1 (by simp);simp at this
 |x::l,y::m,hl,hm,h=>by
  obtain⟨hl1,hl2⟩:=List.pairwise_cons.1 hl
  obtain⟨hm1,hm2⟩:=List.pairwise_cons.1 hm
  have e:x=y:=by
   rcases zgO.1 ((h x).1 (by simp))with e|hx
   ·exact e
   ·rcases zgO.1 ((h y).2 (by simp))with e|hy
    ·exact e.symm
    ·exact(uN x (gr x y x (hl1 y hy) (hm1 x hx))).elim
  subst e
  have:l=m:=E1 hl2 hm2 fun z=>by
   constructor
   ·intro hz
    rcases zgO.1 ((h z).1 (zg3 _ hz))with e|hz2
    ·subst e;exact(uN _ (hl1 _ hz)).elim
    ·exact hz2
   ·intro hz
    rcases zgO.1 ((h z).2 (zg3 _ hz))with e|hz2
    ·subst e;exact(uN _ (hm1 _ hz)).elim
    ·exact hz2
  rw[this]
theorem NY:∀(r:Packs) (p:List Int),(p::r).Pairwise (fun a b=>leI a b=true)->SS (p::xl p r)/\∀z,z∈p::xl p r↔z∈p::r
 | [],p,_=>⟨List.pairwise_singleton _ _,fun z=>Iff.rfl⟩
 |y::r,p,h=>by
  obtain⟨h1,h2⟩:=List.pairwise_cons.1 h
  obtain⟨i1,i2⟩:=NY r y h2
  unfold xl
  by_cases e:y=p
  ·subst e
   rw[zgG rfl]
   refine⟨i1,fun z=> ?_⟩
   rw[i2];simp
  ·rw[zgH e]
   have hlt:cmpI p y<0:=KP (h1 y (by simp)) (Ne.symm e)
   refine⟨List.pairwise_cons.2 ⟨fun z hz=> ?_,i1⟩,fun z=> ?_⟩
   ·rcases zgO.1 hz with rfl|hz
    ·exact hlt
    ·exact gr _ _ _ hlt ((List.pairwise_cons.1 i1).1 z hz)
   ·rw[zgO,i2,<-zgO]
theorem A9 {l:Packs}(h:l.Pairwise (fun a b=>leI a b=true)):SS (TE l)/\∀z,z∈TE l↔z∈l:=by
 cases l with
 |nil=>exact⟨List.Pairwise.nil,fun _=>Iff.rfl⟩
 |cons x r=>exact NY r x h
def setL (l:Packs):Packs:=TE (SM l)
theorem LB (l:Packs):SS (setL l):=(A9 (Wh l)).1
theorem jd (l:Packs)(z:List Int):z∈setL l↔z∈l:=((A9 (Wh l)).2 z).trans (Zx l).mem_iff
theorem Bj {l m:Packs}(h:SS m)(hm:∀z,z∈m↔z∈l):m=setL l:=E1 h (LB l) fun z=>(hm z).trans (jd l z).symm
theorem Qt:∀(r:Packs) (p:List Int),(xl p r).length<=r.length
 | [],_=>zgC _
 |y::r,p=>by unfold xl;have:=Qt r y;split<;>simp<;>omega
theorem Yl (l:Packs):(setL l).length<=l.length:=by
 have h1:(SM l).length=l.length:=(Zx l).length_eq
 unfold setL
 rw[<-h1]
 cases SM l with
 |nil=>exact zgC _
 |cons x r=>have:=Qt r x;simp[TE];omega
theorem bC (l:Packs)(hl:l.length<=16777216)(h12:∀p∈l,p.length<=1048576):∀(r:Packs) (i:Nat),l.drop i=r->Ev (fun k=>ux k l (l.length:Int) (i:Int) (l.take i)) (setL l)
 | [],i,h=>by
   have a:=zu h
   refine ES (fun k=>bD k ..) ?_
   simp only[a.g,zgK]
   rw[zgT a.ge]
   have small:∀m:Packs,m.length<=16777216->(∀p∈m,p.length<=1048576)->Ni m=true:=fun m hm hp=>by
    unfold Ni
    rw[zgx]
    exact⟨zgu (by omega),zgS.2 fun p hpm=>zgu (by have:=hp p hpm;omega)⟩
   have e1:Ev (fun k=>wI k (l,false)) ((),SM l):=Ev.congr (fun k=>b7 k l false) (by
    show Ev (fun _=>Bi l) _
    unfold Bi
    exact EY (small l hl h12) (EP _))
   have e2:Ev (fun k=>xM k (SM l,false)) (setL l):=Ev.congr (fun k=>fK k (SM l) false) (by
    show Ev (fun _=>Xk (SM l)) _
    unfold Xk
    exact EY (small _ (by rw[(Zx l).length_eq];exact hl) (fun p hp=>h12 p ((Zx l).mem_iff.1 hp))) (EP _))
   exact EB e1 (EB e2 (EP _))
 |p::r,i,h=>by
  have a:=zh h (by rw[zc];omega)
  have hlt:=a.lt
  have hp:=h12 p a.mem
  have ih:=bC l hl h12 r (i+1) a.next
  have et:l.take (i+1)=l.take i++[p]:=by
   rw[List.take_add_one,zgD hlt]
   have:=a.gt []
   simp[List.getD,hlt]at this
   rw[this];rfl
  rw[et]at ih
  refine ES (fun k=>bD k ..) ?_
  simp only[a.g,a.z,a.get,a.w,zgJ]
  exact EB (yz p hp) (EY (by rw[za];exact zgu (by simp;omega)) ih)
theorem XP (l:Packs)(hl:l.length<=16777216)(h12:∀p∈l,p.length<=1048576):Ev (fun k=>Y2 k l) (setL l):=
 ES (fun k=>MA k l) (bC l hl h12 l 0 rfl)
def Zi (out:Packs)(x:List Int):Packs:=if out.length=0 then [x]else if out.getD (out.length-1) []=x then out else out++[x]
theorem RF (out:Packs)(x:List Int):(Zi out x).length<=out.length+1:=by
 unfold Zi
 split
 ·simp
 ·split<;>simp
theorem MX {out:Packs}{x:List Int}(h:SS out)(hx:∀o∈out,leI o x=true):SS (Zi out x)/\∀z,z∈Zi out x↔z∈out\/z=x:=by
 unfold Zi
 split
 ·rename_i h0
  have:out=[]:=List.length_eq_zero_iff.1 h0
  subst this
  exact⟨List.pairwise_singleton _ _,fun z=>by simp⟩
 ·rename_i h0
  obtain⟨init,l,rfl⟩:∃init l,out=init++[l]:=by
   rcases List.eq_nil_or_concat out with h|⟨i,l,h⟩
   ·subst h;simp at h0
   ·exact⟨i,l,by rw[h];simp⟩
  have el:(init++[l]).getD ((init++[l]).length-1) []=l:=by simp[List.getD]
  rw[el]
  split
  ·rename_i e
   subst e
   exact⟨h,fun z=>⟨.inl,fun hz=>hz.elim id fun e=>by simp[e]⟩⟩
  ·rename_i e
   have hlt:cmpI l x<0:=KP (hx l (by simp)) e
   refine⟨?_,fun z=>by simp[or_assoc]⟩
   refine List.pairwise_append.2 ⟨h,List.pairwise_singleton _ _,fun o ho y hy=> ?_⟩
   have:y=x:=by simpa using hy
   subst this
   rcases zgz.1 ho with ho|ho
   ·exact gr _ _ _ ((List.pairwise_append.1 h).2.2 o ho l (by simp)) hlt
   ·have:o=l:=by simpa using ho
    subst this;exact hlt
def fr:Packs->Packs->Packs->Packs
 | [],[],out=>out
 |x::a,[],out=>fr a [] (Zi out x)
 | [],y::b,out=>fr [] b (Zi out y)
 |x::a,y::b,out=>if Mt y x then fr (x::a) b (Zi out y)else fr a (y::b) (Zi out x)
termination_by a b=>a.length+b.length
theorem Vj:∀(n:Nat) (a b out:Packs),a.length+b.length=n->a.Pairwise (fun x y=>leI x y=true)->b.Pairwise (fun x y=>leI x y=true)->SS out->(∀o∈out,∀z,z∈a\/z∈b->leI o z=true)->
 SS (fr a b out)/\∀z,z∈fr a b out↔z∈out\/z∈a\/z∈b
 |n,a,b,out,hn,ha,hb,ho,hz=>by
  match a,b,n,hn,ha,hb with
  | [],[],_,_,_,_=>unfold fr;exact⟨ho,fun z=>by simp⟩
  |x::a,[],n+1,hn,ha,hb=>
   obtain⟨a1,a2⟩:=List.pairwise_cons.1 ha
   obtain⟨p1,p2⟩:=MX ho (fun o h=>hz o h x (by simp))
   unfold fr
   obtain⟨q1,q2⟩:=Vj n a [] (Zi out x) (by simp at hn⊢;omega) a2 hb p1 (fun o h z hz' =>by
    rcases(p2 o).1 h with h|rfl
    ·exact hz o h z (by rcases hz' with h|h;exact .inl (by simp[h]);exact .inr h)
    ·rcases hz' with h|h
     ·exact a1 z h
     ·cases h)
   exact⟨q1,fun z=>by rw[q2,p2];simp[or_assoc]⟩
  | [],y::b,n+1,hn,ha,hb=>
    obtain⟨b1,b2⟩:=List.pairwise_cons.1 hb
    obtain⟨p1,p2⟩:=MX ho (fun o h=>hz o h y (by simp))
    unfold fr
    obtain⟨q1,q2⟩:=Vj n [] b (Zi out y) (by simp at hn⊢;omega) ha b2 p1 (fun o h z hz' =>by
     rcases(p2 o).1 h with h|rfl
     ·exact hz o h z (by rcases hz' with h|h;exact .inl h;exact .inr (by simp[h]))
     ·rcases hz' with h|h
      ·cases h
      ·exact b1 z h)
    exact⟨q1,fun z=>by rw[q2,p2];simp[or_assoc]⟩
  |x::a,y::b,n+1,hn,ha,hb=>
   obtain⟨a1,a2⟩:=List.pairwise_cons.1 ha
   obtain⟨b1,b2⟩:=List.pairwise_cons.1 hb
   unfold fr
   split
   ·rename_i c
    rw[zcD]at c
    have hyx:leI y x=true:=le_of_lt (zgw c)
    obtain⟨p1,p2⟩:=MX ho (fun o h=>hz o h y (by simp))
    obtain⟨q1,q2⟩:=Vj n (x::a) b (Zi out y) (by simp at hn⊢;omega) ha b2 p1 (fun o h z hz' =>by
     rcases(p2 o).1 h with h|rfl
     ·exact hz o h z (by rcases hz' with h|h;exact .inl h;exact .inr (by simp[h]))
     ·rcases hz' with h|h
      ·rcases zgO.1 h with rfl|h
       ·exact hyx
       ·exact KU _ _ _ hyx (a1 z h)
      ·exact b1 z h)
    refine⟨q1,fun z=> ?_⟩
    rw[q2,p2]
    simp only[zgO]
    constructor
    ·rintro((h|h)|(h|h)|h)<;>simp[h]
    ·rintro(h|(h|h)|h|h)<;>simp[h]
   ·rename_i c
    rw[zcD]at c
    have hxy:leI x y=true:=BH.2 (by simpa using c)
    obtain⟨p1,p2⟩:=MX ho (fun o h=>hz o h x (by simp))
    obtain⟨q1,q2⟩:=Vj n a (y::b) (Zi out x) (by simp at hn⊢;omega) a2 hb p1 (fun o h z hz' =>by
     rcases(p2 o).1 h with h|rfl
     ·exact hz o h z (by rcases hz' with h|h;exact .inl (by simp[h]);exact .inr h)
     ·rcases hz' with h|h
      ·exact a1 z h
      ·rcases zgO.1 h with rfl|h
       ·exact hxy
       ·exact KU _ _ _ hxy (b1 z h))
    refine⟨q1,fun z=> ?_⟩
    rw[q2,p2]
    simp only[zgO]
    constructor
    ·rintro((h|h)|h|h|h)<;>simp[h]
    ·rintro(h|(h|h)|h|h)<;>simp[h]
theorem zf5 {l:Packs}(h:SS l):l.Pairwise (fun x y=>leI x y=true):=h.imp fun h=>le_of_lt h
theorem Gr {a b:Packs}(ha:SS a)(hb:SS b):fr a b []=setL (a++b):=by
 obtain⟨h1,h2⟩:=Vj _ a b [] rfl (zf5 ha) (zf5 hb) List.Pairwise.nil (fun o h=>by cases h)
 exact Bj h1 fun z=>by rw[h2];simp
theorem zdZ (out:Packs):out.set (out.length-1) (out.getD (out.length-1) [])=out:=by
 apply List.ext_getElem
 ·simp
 ·intro i h1 h2
  rw[List.getElem_set]
  split
  ·rename_i e
   subst e
   simp[List.getD,h2]
  ·rfl
theorem FH {C:Nat->Packs->Option Packs}{z:Packs}(out:Packs)(x:List Int)(hx:x.length<=1048576)(ho:out.length<=4194304)(h12:∀p∈out,p.length<=1048576)(h:Ev (fun k=>C k (Zi out x)) z):
 Ev (fun k=>bif((out.length:Int)==(0:Int))then
     (bif decide (([]:List Int).length+x.length<=rowMax)then
       (bif decide (out.length+([(([]:List Int)++x)]).length<=rowMax)then C k (out++([(([]:List Int)++x)]))else none)else none)
  else(bif decide (0<=(IntKind.i64.wrap ((out.length:Int)-(1:Int))))then
   (bif decide ((IntKind.i64.wrap ((out.length:Int)-(1:Int)))<(out.length:Int))then
     (bif decide ((IntKind.i64.wrap ((out.length:Int)-(1:Int))).toNat<out.length)then
       ((yx k ((out.getD (IntKind.i64.wrap ((out.length:Int)-(1:Int))).toNat []),x)).bind fun y=>
         bif(!y)then
          (bif decide (([]:List Int).length+x.length<=rowMax)then
            (bif decide ((out.set (IntKind.i64.wrap ((out.length:Int)-(1:Int))).toNat (out.getD (IntKind.i64.wrap ((out.length:Int)-(1:Int))).toNat [])).length+([(([]:List Int)++x)]).length<=rowMax)then
              C k ((out.set (IntKind.i64.wrap ((out.length:Int)-(1:Int))).toNat (out.getD (IntKind.i64.wrap ((out.length:Int)-(1:Int))).toNat []))++([(([]:List Int)++x)]))else none)else none)
         else C k (out.set (IntKind.i64.wrap ((out.length:Int)-(1:Int))).toNat (out.getD (IntKind.i64.wrap ((out.length:Int)-(1:Int))).toNat [])))else none)else none)else none)) z:=by
 unfold Zi at h
 refine EI (fun c=> ?_) (fun c=> ?_)
 ·have h0:out.length=0:=by have:(out.length:Int)=0:=by simpa using c
                           omega
  rw[zgG h0]at h
  have e:out=[]:=List.length_eq_zero_iff.1 h0
  subst e
  exact EY (by rw[za];exact zgu (by simp;omega)) (EY (by rw[za];simp) h)
 ·have h0:¬out.length=0:=by have:¬(out.length:Int)=0:=by simpa using c
                            omega
  rw[zgH h0]at h
  have e:((out.length:Int)-1)=((out.length-1:Nat):Int):=by omega
  have hl:(out.getD (out.length-1) []).length<=1048576:=by
   have:out.length-1<out.length:=by omega
   rw[List.getD,zgD this]
   exact h12 _ (zg2 this)
  simp only[e,ze (x:=((out.length-1:Nat):Int)) (by omega) (by omega),zgy,zdZ]
  refine EY (by simp) (EY (by simp;omega) (EY (by simp;omega) (EB (QJ _ x (by rw[zc];omega) (by rw[zc];omega)) (EI (fun c2=> ?_) (fun c2=> ?_)))))
  ·have:¬out.getD (out.length-1) []=x:=by simpa using c2
   rw[zgH this]at h
   exact EY (by rw[za];exact zgu (by simp;omega)) (EY (by rw[za];exact zgu (by simp;omega)) h)
  ·have:out.getD (out.length-1) []=x:=by simpa using c2
   rw[zgG this]at h
   exact h
theorem YM {out:Packs}{x:List Int}(hx:x.length<=1048576)(h12:∀p∈out,p.length<=1048576):∀p∈Zi out x,p.length<=1048576:=fun p hp=>by
 unfold Zi at hp
 split at hp
 ·have:p=x:=by simpa using hp
  subst this;exact hx
 ·split at hp
  ·exact h12 p hp
  ·rcases zgz.1 hp with h|h
   ·exact h12 p h
   ·have:p=x:=by simpa using h
    subst this;exact hx
theorem SK {α:Type}(l:List α):l.take ((l.length:Int)).toNat=l:=by simp
theorem wW:∀(n:Nat) (a b out:Packs),a.length+b.length=n->out.length+n<=4194304->(∀p∈a,p.length<=1048576)->(∀p∈b,p.length<=1048576)->(∀p∈out,p.length<=1048576)->
 Ev (fun k=>zl k a b out) (fr a b out)
 |0,a,b,out,hn,hl,h1,h2,h3=>by
  have ea:a=[]:=List.length_eq_zero_iff.1 (by omega)
  have eb:b=[]:=List.length_eq_zero_iff.1 (by omega)
  subst ea eb
  unfold fr
  exact ES (fun k=>ur k ..) (EN (by(first|(simp;done)|(simp;omega)|omega)) (EN (by(first|(simp;done)|(simp;omega)|omega)) (EP _)))
 |n+1,[],[],out,hn,hl,h1,h2,h3=>by simp at hn
 |n+1,x::a,[],out,hn,hl,h1,h2,h3=>by
  have hx:=h1 x (by simp)
  have hp:=RF out x
  have ih:=wW n a [] (Zi out x) (by simp at hn⊢;omega) (by omega) (fun p hp=>h1 p (by simp[hp])) h2 (YM hx h3)
  unfold fr
  refine ES (fun k=>ur k ..) ?_
  simp only[SK,zg0,List.drop_succ_cons,List.drop_zero]
  refine EY (by(first|(simp;done)|(simp;omega)|omega)) (EY (by(first|(simp;done)|(simp;omega)|omega)) (EY (by(first|(simp;done)|(simp;omega)|omega)) (EY (by(first|(simp;done)|(simp;omega)|omega)) (EY (by(first|(simp;done)|(simp;omega)|omega)) ?_))))
  exact FH (C:=fun k o=>zl k a [] o) out x hx (by omega) h3 ih
 |n+1,[],y::b,out,hn,hl,h1,h2,h3=>by
  have hy:=h2 y (by simp)
  have hp:=RF out y
  have ih:=wW n [] b (Zi out y) (by simp at hn⊢;omega) (by omega) h1 (fun p hp=>h2 p (by simp[hp])) (YM hy h3)
  unfold fr
  refine ES (fun k=>ur k ..) ?_
  simp only[SK,zg0,List.drop_succ_cons,List.drop_zero]
  refine EN (by(first|(simp;done)|(simp;omega)|omega)) (EY (by(first|(simp;done)|(simp;omega)|omega)) (EN (by(first|(simp;done)|(simp;omega)|omega)) (EN (by(first|(simp;done)|(simp;omega)|omega)) (EY (by(first|(simp;done)|(simp;omega)|omega)) (EY (by(first|(simp;done)|(simp;omega)|omega)) (EY (by(first|(simp;done)|(simp;omega)|omega)) ?_))))))
  exact FH (C:=fun k o=>zl k [] b o) out y hy (by omega) h3 ih
 |n+1,x::a,y::b,out,hn,hl,h1,h2,h3=>by
  have hx:=h1 x (by simp)
  have hy:=h2 y (by simp)
  have hp:=RF out x
  have hp2:=RF out y
  have ihx:=wW n a (y::b) (Zi out x) (by simp at hn⊢;omega) (by omega) (fun p hp=>h1 p (by simp[hp])) h2 (YM hx h3)
  have ihy:=wW n (x::a) b (Zi out y) (by simp at hn⊢;omega) (by omega) h1 (fun p hp=>h2 p (by simp[hp])) (YM hy h3)
  unfold fr
  refine ES (fun k=>ur k ..) ?_
  simp only[SK,zg0,List.drop_succ_cons,List.drop_zero]
  refine EY (by(first|(simp;done)|(simp;omega)|omega)) (EN (by(first|(simp;done)|(simp;omega)|omega)) (EY (by(first|(simp;done)|(simp;omega)|omega)) (EY (by(first|(simp;done)|(simp;omega)|omega)) (EY (by(first|(simp;done)|(simp;omega)|omega)) (EB (Dj y x (by rw[zc];omega) (by rw[zc];omega)) (EI (fun c=> ?_) (fun c=> ?_)))))))
  ·have:Mt y x=false:=by simpa using c
   rw[this,zgH (by simp)]
   refine EY (by(first|(simp;done)|(simp;omega)|omega)) (EY (by(first|(simp;done)|(simp;omega)|omega)) (EY (by(first|(simp;done)|(simp;omega)|omega)) ?_))
   exact FH (C:=fun k o=>zl k a (y::b) o) out x hx (by omega) h3 ihx
  ·have:Mt y x=true:=by simpa using c
   rw[this,zgG rfl]
   refine EY (by(first|(simp;done)|(simp;omega)|omega)) (EY (by(first|(simp;done)|(simp;omega)|omega)) (EY (by(first|(simp;done)|(simp;omega)|omega)) ?_))
   exact FH (C:=fun k o=>zl k (x::a) b o) out y hy (by omega) h3 ihy
theorem Rh (a b:Packs)(hl:a.length+b.length<=4194304)(h1:∀p∈a,p.length<=1048576)(h2:∀p∈b,p.length<=1048576):Ev (fun k=>Uh k (a,b)) (fr a b []):=
 ES (fun k=>Fk k a b) (wW _ a b [] rfl (by simpa using hl) h1 h2 (fun p hp=>by cases hp))
theorem half2 (n:Nat)(h:n<=4194304):IntKind.i64.wrap ((n:Int).tdiv 2)=((n/2:Nat):Int):=by
 have:(n:Int).tdiv 2=((n/2:Nat):Int):=by rw[Int.tdiv_eq_ediv_of_nonneg (by omega)];omega
 rw[this,ze (by omega) (by omega)]
theorem fN:∀(n:Nat) (l:Packs),l.length<=n->l.length<=1048576->(∀p∈l,p.length<=1048576)->Ev (fun k=>ji k l) (setL l)
 |n,l,hn,hl,h12=>by
  refine ES (fun k=>Me k l) ?_
  refine EI (fun c=> ?_) (fun c=> ?_)
  ·have hlt:l.length<2:=by have:(l.length:Int)<2:=by simpa using c
                           omega
   have hs:SS l:=by
    match l,hlt with
    | [],_=>exact List.Pairwise.nil
    | [x],_=>exact List.pairwise_singleton _ _
   refine EB (Rh l [] (by simp;omega) h12 (fun p hp=>by cases hp)) (EZ ?_)
   rw[Gr hs List.Pairwise.nil,List.append_nil]
  ·have hge:¬l.length<2:=by have:¬(l.length:Int)<2:=by simpa using c
                            omega
   match n,hn with
   |0,hn=>omega
   |n+1,hn=>
   have hA:=fN n (l.take (l.length/2)) (by simp;omega) (by simp;omega) (fun p hp=>h12 p (List.mem_of_mem_take hp))
   have hB:=fN n (l.drop (l.length/2)) (by simp;omega) (by simp;omega) (fun p hp=>h12 p (List.mem_of_mem_drop hp))
   have lA:=Yl (l.take (l.length/2))
   have lB:=Yl (l.drop (l.length/2))
   simp at lA lB
   simp only[half2 l.length (by omega),SK,zgy,List.drop_zero,List.take_length]
   refine EY (by(first|(simp;done)|(simp;omega)|omega)) (EY (by(first|(simp;done)|(simp;omega)|omega)) (EB hA (EY (by(first|(simp;done)|(simp;omega)|omega)) (EY (by(first|(simp;done)|(simp;omega)|omega)) (EY (by(first|(simp;done)|(simp;omega)|omega)) (EB hB (EB (Rh _ _ (by omega) (fun p hp=> ?_) (fun p hp=> ?_)) (EZ ?_))))))))
   ·exact h12 p (List.mem_of_mem_take ((jd _ p).1 hp))
   ·exact h12 p (List.mem_of_mem_drop ((jd _ p).1 hp))
   ·rw[Gr (LB _) (LB _)]
    refine Bj (LB _) fun z=> ?_
    rw[jd,zgz,jd,jd,<-zgz,List.take_append_drop]
theorem GK:∀(n:Nat) (f:Bool) (a b:List Int),a.length+b.length=n->(fz f a b).length=n
 |n,f,[],[],h=>by unfold fz;simpa using h
 |n,f,x::a,[],h=>by
  match n,h with
  |n+1,h=>
  unfold fz
  rw[zgB,GK n (!f) a [] (by simp at h⊢;omega)]
 |n,f,[],y::b,h=>by
  match n,h with
  |n+1,h=>
  unfold fz
  rw[zgB,GK n (!f) [] b (by simp at h⊢;omega)]
 |n,true,x::a,y::b,h=>by
  match n,h with
  |n+1,h=>
  unfold fz
  rw[zgB,GK n false a (y::b) (by simp at h⊢;omega)]
 |n,false,x::a,y::b,h=>by
  match n,h with
  |n+1,h=>
  unfold fz
  rw[zgB,GK n true (x::a) b (by simp at h⊢;omega)]
termination_by n=>n
def cutL (p:List Int)(k:Nat):List Int:=p.drop k++p.take k
def VZ (p:List Int):Packs:=(List.range p.length).map (cutL p)
theorem zdi {p:List Int}{i:Nat}(hp:p.length<=12)(hi:i<p.length):MoveFit p.length (1,(i:Int)):=
 ⟨by omega,hp,by simp, .inl (by simp;omega),fun _=>by simp;omega,fun h=>by simp at h,fun h=>by simp at h⟩
theorem GR (p:List Int)(i:Nat):xB p (1,(i:Int))=cutL p i:=by simp[xB,cutL]
theorem ZK (n:Nat)(f:Nat->List Int):(List.range (n+1)).map f=(List.range n).map f++[f n]:=by rw[List.range_succ,List.map_append];rfl
theorem WB (p:List Int)(hp:p.length<=12)(hi:Ins p):∀(m i:Nat),i+m=p.length->Ev (fun k=>ah k p (p.length:Int) (i:Int) ((List.range i).map (cutL p))) (VZ p)
 |0,i,h=>by
  refine ES (fun k=>WC k ..) (EN (by simp;omega) (EZ ?_))
  have:i=p.length:=by omega
  rw[this];rfl
 |m+1,i,h=>by
  have ih:=WB p hp hi m (i+1) (by omega)
  rw[ZK]at ih
  have ew:IntKind.i64.wrap ((i:Int)+1)=((i+1:Nat):Int):=by rw[ze (by omega) (by omega)];omega
  refine ES (fun k=>WC k ..) ?_
  simp only[ew]
  refine EY (by simp;omega) (EB (Ui p _ (zdi hp (by omega)) hi) ?_)
  rw[GR]
  exact EY (by rw[za];exact zgu (by simp;omega)) ih
theorem Nu (p:List Int)(hp:p.length<=12)(hi:Ins p):Ev (fun k=>Rj k p) (VZ p):=
 ES (fun k=>Dl k _) (WB p hp hi p.length 0 (by omega))
theorem NQ (p:List Int)(hp:p.length<=12)(hi:Ins p):∀(m i:Nat),i+m=p.length->Ev (fun k=>R3 k p (p.length:Int) (i:Int) ((List.range i).map (cutL p))) (VZ p)
 |0,i,h=>by
  refine ES (fun k=>NR k ..) (EN (by simp;omega) (EZ ?_))
  have:i=p.length:=by omega
  rw[this];rfl
 |m+1,i,h=>by
  have ih:=NQ p hp hi m (i+1) (by omega)
  rw[ZK]at ih
  have ew:IntKind.i64.wrap ((i:Int)+1)=((i+1:Nat):Int):=by rw[ze (by omega) (by omega)];omega
  refine ES (fun k=>NR k ..) ?_
  simp only[ew]
  refine EY (by simp;omega) (EB (ZV p _ (zdi hp (by omega)) hi) ?_)
  rw[GR]
  exact EY (by rw[za];exact zgu (by simp;omega)) ih
theorem Ch (p:List Int)(hp:p.length<=12)(hi:Ins p):Ev (fun k=>A3 k p) (VZ p):=
 ES (fun k=>zcT k _) (NQ p hp hi p.length 0 (by omega))
def Bz (p:List Int)(i:Nat):List Int:=[p.getD i 0]++(p.take i++p.drop (i+1))
def Ny (p:List Int):Packs:=(List.range p.length).map (Bz p)
theorem UT (p:List Int)(hp:p.length<=12):∀(m i:Nat),i+m=p.length->Ev (fun k=>Yq k p p (p.length:Int) (i:Int) ((List.range i).map (Bz p))) (Ny p)
 |0,i,h=>by
  refine ES (fun k=>UU k ..) (EN (by simp;omega) (EZ ?_))
  have:i=p.length:=by omega
  rw[this];rfl
 |m+1,i,h=>by
  have ih:=UT p hp m (i+1) (by omega)
  rw[ZK]at ih
  have ew:IntKind.i64.wrap ((i:Int)+1)=((i+1:Nat):Int):=by rw[ze (by omega) (by omega)];omega
  refine ES (fun k=>UU k ..) ?_
  simp only[ew,wd,zgy,List.take_length,List.drop_zero,List.nil_append]
  refine EY (by simp;omega) ?_
  (repeat (first|refine EY (by(first|(simp[za];done)|(simp[za];omega)|omega)) ?_|refine EN (by(first|(simp[za];done)|(simp[za];omega)|omega)) ?_))
  exact ih
theorem NS (p:List Int)(hp:p.length<=12):∀(m i:Nat),i+m=p.length->Ev (fun k=>R4 k p (p.length:Int) (i:Int) ((List.range i).map (Bz p))) (Ny p,true)
 |0,i,h=>by
  refine ES (fun k=>NT k ..) (EN (by simp;omega) (EZ ?_))
  have:i=p.length:=by omega
  rw[this];rfl
 |m+1,i,h=>by
  have ih:=NS p hp m (i+1) (by omega)
  rw[ZK]at ih
  have hil:i<p.length:=by omega
  have ew:IntKind.i64.wrap ((i:Int)+1)=((i+1:Nat):Int):=by rw[ze (by omega) (by omega)];omega
  refine ES (fun k=>NT k ..) ?_
  simp only[ew,wd,zgy,List.take_length,List.drop_zero,List.nil_append]
  refine EY (by simp;omega) ?_
  (repeat (first|refine EY (by(first|(simp[za];done)|(simp[za];omega)|omega)) ?_|refine EN (by(first|(simp[za];done)|(simp[za];omega)|omega)) ?_))
  have e1:(p.take (i+1)).drop i=[p.getD i 0]:=by
   rw[List.take_add_one,zgD hil,List.drop_append_of_le_length (by simp;omega),List.drop_eq_nil_of_le (by simp;omega)]
   simp[List.getD,hil]
  refine EB ((He [(p.take (i+1)).drop i,p.take i,p.drop (i+1)] (by rw[zc];simp) (by simp;omega)).to (show _=Bz p i by rw[e1];simp[Bz])) ?_
  exact EY (by rw[za];exact zgu (by simp;omega)) ih
def wv:List Int->List Int->List Int->Packs
 |d,[],[]=> [d]
 |d,x::a,[]=>wv (d++[x]) a []
 |d,[],y::b=>wv (d++[y]) [] b
 |d,x::a,y::b=>wv (d++[x]) a (y::b)++wv (d++[y]) (x::a) b
termination_by _ a b=>a.length+b.length
theorem H3:∀(n:Nat) (d a b:List Int),a.length+b.length=n->(wv d a b).length<=2 ^ n
 |n,d,[],[],h=>by unfold wv;simp;exact Nat.one_le_two_pow
 |n+1,d,x::a,[],h=>by
  unfold wv
  have:=H3 n (d++[x]) a [] (by simp at h⊢;omega)
  rw[Nat.pow_succ];omega
 |n+1,d,[],y::b,h=>by
  unfold wv
  have:=H3 n (d++[y]) [] b (by simp at h⊢;omega)
  rw[Nat.pow_succ];omega
 |n+1,d,x::a,y::b,h=>by
  unfold wv
  have h1:=H3 n (d++[x]) a (y::b) (by simp at h⊢;omega)
  have h2:=H3 n (d++[y]) (x::a) b (by simp at h⊢;omega)
  rw[zgA,Nat.pow_succ];omega
 |0,d,x::a,_,h=>by simp at h
 |0,d,[],y::b,h=>by simp at h
theorem jg:∀(n:Nat) (out:Packs) (d a b:List Int),a.length+b.length=n->d.length+n<=100->out.length+2 ^ n<=1048576->Ev (fun k=>vM k (out,d,a,b)) (out++wv d a b)
 |n,out,d,[],[],h,hd,ho=>by
  have:1<=2 ^ n:=Nat.one_le_two_pow
  unfold wv
  refine ES (fun k=>eR k ..) (EY (by(first|(simp[za];done)|(simp[za];omega)|omega)) (EY (by(first|(simp[za];done)|(simp[za];omega)|omega)) (EY (by rw[za];exact zgu (by simp;omega)) (EP _))))
 |n+1,out,d,x::a,[],h,hd,ho=>by
  rw[Nat.pow_succ]at ho
  have ih:=jg n out (d++[x]) a [] (by simp at h⊢;omega) (by simp;omega) (by omega)
  unfold wv
  refine ES (fun k=>eR k ..) ?_
  simp only[wd,List.nil_append,zg0,List.drop_succ_cons,List.drop_zero]
  refine EN (by(first|(simp[za];done)|(simp[za];omega)|omega)) (EY (by(first|(simp[za];done)|(simp[za];omega)|omega)) (EY (by(first|(simp[za];done)|(simp[za];omega)|omega)) (EY (by(first|(simp[za];done)|(simp[za];omega)|omega)) (EY (by(first|(simp[za];done)|(simp[za];omega)|omega)) (EY (by(first|(simp[za];done)|(simp[za];omega)|omega)) (EY (by(first|(simp[za];done)|(simp[za];omega)|omega)) (EB ih (EN (by(first|(simp[za];done)|(simp[za];omega)|omega)) (EP _)))))))))
 |n+1,out,d,[],y::b,h,hd,ho=>by
  rw[Nat.pow_succ]at ho
  have ih:=jg n out (d++[y]) [] b (by simp at h⊢;omega) (by simp;omega) (by omega)
  unfold wv
  refine ES (fun k=>eR k ..) ?_
  simp only[wd,List.nil_append,zg0,List.drop_succ_cons,List.drop_zero]
  refine EY (by(first|(simp[za];done)|(simp[za];omega)|omega)) (EN (by(first|(simp[za];done)|(simp[za];omega)|omega)) (EN (by(first|(simp[za];done)|(simp[za];omega)|omega)) (EY (by(first|(simp[za];done)|(simp[za];omega)|omega)) (EY (by(first|(simp[za];done)|(simp[za];omega)|omega)) (EY (by(first|(simp[za];done)|(simp[za];omega)|omega)) (EY (by(first|(simp[za];done)|(simp[za];omega)|omega)) (EY (by(first|(simp[za];done)|(simp[za];omega)|omega)) (EY (by(first|(simp[za];done)|(simp[za];omega)|omega)) (EB ih (EP _))))))))))
 |n+1,out,d,x::a,y::b,h,hd,ho=>by
  rw[Nat.pow_succ]at ho
  have hl:=H3 n (d++[x]) a (y::b) (by simp at h⊢;omega)
  have i1:=jg n out (d++[x]) a (y::b) (by simp at h⊢;omega) (by simp;omega) (by omega)
  have i2:=jg n (out++wv (d++[x]) a (y::b)) (d++[y]) (x::a) b (by simp at h⊢;omega) (by simp;omega) (by simp;omega)
  unfold wv
  refine ES (fun k=>eR k ..) ?_
  simp only[wd,List.nil_append,zg0,List.drop_succ_cons,List.drop_zero]
  refine EN (by(first|(simp[za];done)|(simp[za];omega)|omega)) (EY (by(first|(simp[za];done)|(simp[za];omega)|omega)) (EY (by(first|(simp[za];done)|(simp[za];omega)|omega)) (EY (by(first|(simp[za];done)|(simp[za];omega)|omega)) (EY (by(first|(simp[za];done)|(simp[za];omega)|omega)) (EY (by(first|(simp[za];done)|(simp[za];omega)|omega)) (EY (by(first|(simp[za];done)|(simp[za];omega)|omega)) (EB i1 ?_)))))))
  refine EY (by(first|(simp[za];done)|(simp[za];omega)|omega)) (EY (by(first|(simp[za];done)|(simp[za];omega)|omega)) (EY (by(first|(simp[za];done)|(simp[za];omega)|omega)) (EY (by(first|(simp[za];done)|(simp[za];omega)|omega)) (EY (by(first|(simp[za];done)|(simp[za];omega)|omega)) (EY (by(first|(simp[za];done)|(simp[za];omega)|omega)) (EB i2 (EZ (by simp))))))))
 |0,out,d,x::a,_,h,hd,ho=>by simp at h
 |0,out,d,[],y::b,h,hd,ho=>by simp at h
def rfi:Nat->Nat->List Bool->List Nat
 |_,_,[]=> []
 |f,s,true::r=>s::rfi f (s+1) r
 |f,s,false::r=>f::rfi (f+1) s r
def ym:List Bool->Nat
 | []=>0|true::r=>ym r|false::r=>ym r+1
def ui:List Bool->Nat
 | []=>0|true::r=>ui r+1|false::r=>ui r
def vh:Nat->Nat->List Bool
 |0,_=> []|m+1,w=>Nat.beq (w % 2) 1::vh m (w/2)
def Bx (n w:Nat):List Nat:=rfi 0 (ym (vh n w)) (vh n w)
def decGo:Nat->Option Nat->List Nat->Nat
 |_,_,[]=>0
 |i,none,x::r=>bif Nat.beq x i then decGo (i+1) none r else 2 ^ i+decGo (i+1) (some x) r
 |i,some s,x::r=>(bif Nat.ble s x then 2 ^ i else 0)+decGo (i+1) (some s) r
def isIdB:Nat->List Nat->Bool
 |_,[]=>true|i,x::r=>Nat.beq x i&&isIdB (i+1) r
def wellW (w:Nat):Bool:= !isIdB 0 (Bx 12 w)
theorem riff12:((List.range 4096).all fun w=>isIdB 0 (Bx 12 w)||Nat.beq (decGo 0 none (Bx 12 w)) w)=true:=by kernel_rfl
theorem DH:((List.range 4096).filter wellW).length=4083:=by kernel_rfl
theorem DS {α:Type}[DecidableEq α]:∀ {l m:List α},l.Nodup->(∀x∈l,x∈m)->l.length<=m.length
 | [],m,_,_=>Nat.zero_le _
 |x::l,m,h,hs=>by
  obtain⟨h1,h2⟩:=zgV.1 h
  have hx:=hs x (by simp)
  have:=DS (l:=l) (m:=m.erase x) h2 fun y hy=>(List.mem_erase_of_ne (fun e=>h1 (by rw[e]at hy;exact hy))).2 (hs y (by simp[hy]))
  rw[List.length_erase_of_mem hx]at this
  have:0<m.length:=List.length_pos_of_mem hx
  simp;omega
def bits:Nat->Nat->List Bool
 |0,_=> []
 |n+1,w=>(w % 2==1)::bits n (w/2)
theorem cu:∀n w,(bits n w).length=n
 |0,_=>rfl
 |n+1,w=>by simp[bits,cu n]
theorem zak:∀(n w i:Nat),i<n->(bits n w)[i]? =some (w/2 ^ i % 2==1)
 |0,_,_,h=>by omega
 |n+1,w,0,h=>by simp[bits]
 |n+1,w,i+1,h=>by
  show(bits n (w/2))[i]? =_
  rw[zak n (w/2) i (by omega),Nat.div_div_eq_div_mul,Nat.pow_succ,Nat.mul_comm 2 (2 ^ i)]
theorem C4 {n w i:Nat}(h:i<n):(bits n w).drop i=(w/2 ^ i % 2==1)::(bits n w).drop (i+1):=by
 have hl:i<(bits n w).length:=by rw[cu];exact h
 rw[List.drop_eq_getElem_cons hl]
 have:=zak n w i h
 rw[zgD hl]at this
 injection this with e
 rw[e]
theorem QG (w i:Nat)(hi:i<64)(hw:w<9223372036854775808):IntKind.i64.wrap (((BitVec.ofInt IntKind.i64.bits (((w:Int)).fdiv (2 ^(min ((i:Int)).toNat IntKind.i64.bits)))&&&BitVec.ofInt IntKind.i64.bits (1:Int)).toNat:Int))=((w/2 ^ i % 2:Nat):Int):=by
 have hb:IntKind.i64.bits=64:=by decide
 rw[hb,zgy,Nat.min_eq_left (by omega)]
 have e1:((w:Int)).fdiv (2 ^ i)=((w/2 ^ i:Nat):Int):=by
  rw[Int.fdiv_eq_ediv_of_nonneg _ (by exact Int.le_of_lt (Int.pow_pos (by decide)))]
  norm_cast
 have e2:(BitVec.ofInt 64 ((w/2 ^ i:Nat):Int)&&&BitVec.ofInt 64 (1:Int)).toNat=w/2 ^ i % 2:=by
  have h1:(1:Int)=((1:Nat):Int):=rfl
  rw[h1,BitVec.ofInt_natCast,BitVec.ofInt_natCast,BitVec.toNat_and,BitVec.toNat_ofNat,BitVec.toNat_ofNat]
  have hlt:w/2 ^ i<2 ^ 64:=by
   have:=Nat.div_le_self w (2 ^ i)
   omega
  rw[Nat.mod_eq_of_lt hlt]
  exact Nat.and_one_is_mod _
 rw[e1,e2,ze (by omega) (by omega)]
def zX (l:List Bool):Nat:=l.count false
def ones (l:List Bool):Nat:=l.count true
theorem zo:∀l:List Bool,zX l+ones l=l.length
 | []=>rfl
 |b::l=>by
  have:=zo l
  unfold zX ones at*
  cases b<;>simp<;>omega
def riff:List Bool->Nat->Nat->List Int
 | [],_,_=> []
 |false::l,a,b=>(a:Int)::riff l (a+1) b
 |true::l,a,b=>(b:Int)::riff l a (b+1)
theorem MV:∀(l:List Bool) (a b:Nat),(riff l a b).length=l.length
 | [],_,_=>rfl
 |false::l,a,b=>by simp[riff,MV l]
 |true::l,a,b=>by simp[riff,MV l]
def upTo (n:Nat):List Int:=(List.range n).map fun(i:Nat)=>(i:Int)
theorem wc (n:Nat):(upTo n).length=n:=by simp[upTo]
theorem Ap {n i:Nat}(h:i<n)(d:Int):(upTo n).getD i d=i:=by simp[upTo,List.getD,h]
theorem zbY (n:Nat):upTo (n+1)=upTo n++[(n:Int)]:=by simp[upTo,List.range_succ]
theorem NK (n:Nat)(hn:n<=1048576):∀(m i:Nat),i+m=n->Ev (fun k=>RT k (n:Int) (i:Int) (upTo i)) (upTo n)
 |0,i,h=>by
  refine ES (fun k=>NL k n i _) ?_
  rw[JY (by omega)]
  have:i=n:=by omega
  subst this
  exact EP _
 |m+1,i,h=>by
  have a:=Ag (n:=(n:Int)) (i:=i) (by omega) (by omega)
  refine ES (fun k=>NL k n i _) ?_
  simp only[a.g,a.w,zgJ]
  refine EY (by rw[wc,za];simp;omega) ?_
  rw[<-zbY]
  exact NK n hn m (i+1) (by omega)
theorem RU (n:Nat)(hn:n<=1048576):Ev (fun k=>K6 k (n:Int)) (upTo n):=
 ES (fun k=>zcO k n) (NK n hn n 0 (by omega))
theorem bu (n w a0:Nat)(hn:n<=12)(hw:w<9223372036854775808):∀(m i a b:Nat) (acc:List Int),i+m=n->acc.length=i->a+zX ((bits n w).drop i)<=n->b+ones ((bits n w).drop i)<=n->
 Ev (fun k=>uT k (upTo n) (w:Int) (a:Int) (b:Int) (n:Int) (i:Int) acc) (acc++riff ((bits n w).drop i) a b)
 |0,i,a,b,acc,h,hl,ha,hb=>by
  refine ES (fun k=>jD k ..) ?_
  rw[JY (by omega)]
  have:(bits n w).drop i=[]:=List.drop_eq_nil_of_le (by rw[cu];omega)
  rw[this]
  exact EZ (by simp[riff])
 |m+1,i,a,b,acc,h,hl,ha,hb=>by
  have u:=Ag (n:=(n:Int)) (i:=i) (by omega) (by omega)
  have hd:=C4 (n:=n) (w:=w) (i:=i) (by omega)
  refine ES (fun k=>jD k ..) ?_
  rw[QG w i (by omega) hw]
  simp only[u.g,u.z,u.w,zgJ]
  rw[hd]at ha hb⊢
  cases hbit:(w/2 ^ i % 2==1)with
  |true=>
   rw[hbit]at ha hb
   simp only[zX,ones,List.count_cons]at ha hb
   simp at ha hb
   have e:(((w/2 ^ i % 2:Nat):Int)==1)=true:=by
    have:w/2 ^ i % 2=1:=by simpa using hbit
    rw[this];rfl
   refine EY e (EY (by simp) (EY (by rw[wc];simp;omega) (EY (by simp[za];omega) ?_)))
   rw[ze (by omega) (by omega),zgy,Ap (by omega)]
   have:=bu n w a0 hn hw m (i+1) a (b+1) (acc++[(b:Int)]) (by omega) (by simp[hl]) (by simpa[zX]using ha) (by simp only[ones];omega)
   simpa[riff]using this
  |false=>
   rw[hbit]at ha hb
   simp only[zX,ones,List.count_cons]at ha hb
   simp at ha hb
   have e:(((w/2 ^ i % 2:Nat):Int)==1)=false:=by
    have h1:¬w/2 ^ i % 2=1:=by simpa using hbit
    have h2:w/2 ^ i % 2=0:=by omega
    rw[h2];rfl
   refine EN e (EY (by simp) (EY (by rw[wc];simp;omega) (EY (by simp[za];omega) ?_)))
   rw[ze (by omega) (by omega),zgy,Ap (by omega)]
   have:=bu n w a0 hn hw m (i+1) (a+1) b (acc++[(a:Int)]) (by omega) (by simp[hl]) (by simp only[zX];omega) (by simpa[ones]using hb)
   simpa[riff]using this
theorem bw (n w:Nat)(hn:n<=12)(hw:w<9223372036854775808):∀(m i z:Nat),i+m=n->z<=i->z+zX ((bits n w).drop i)=zX (bits n w)->
 Ev (fun k=>fu k (upTo n) (w:Int) 0 (z:Int) (n:Int) (i:Int)) (riff (bits n w) 0 (zX (bits n w)))
 |0,i,z,h,hz,hs=>by
  refine ES (fun k=>vB k ..) ?_
  rw[JY (by omega)]
  have e:(bits n w).drop i=[]:=List.drop_eq_nil_of_le (by rw[cu];omega)
  rw[e]at hs
  have hs' :z=zX (bits n w):=by simpa[zX]using hs
  have h1:=zo (bits n w)
  rw[cu]at h1
  have:=bu n w 0 hn hw n 0 0 z [] (by omega) rfl (by rw[List.drop_zero];omega) (by rw[List.drop_zero];omega)
  rw[wc,hs']at*
  simpa using this
 |m+1,i,z,h,hz,hs=>by
  have u:=Ag (n:=(n:Int)) (i:=i) (by omega) (by omega)
  have hd:=C4 (n:=n) (w:=w) (i:=i) (by omega)
  refine ES (fun k=>vB k ..) ?_
  rw[QG w i (by omega) hw]
  simp only[u.g,u.z,u.w,zgJ]
  rw[hd]at hs
  have hlt:w/2 ^ i % 2<2:=Nat.mod_lt _ (by decide)
  rw[ze (x:=1-_) (by omega) (by omega),ze (by omega) (by omega)]
  cases hbit:(w/2 ^ i % 2==1)with
  |true=>
   have h1:w/2 ^ i % 2=1:=by simpa using hbit
   rw[hbit]at hs
   simp only[zX,List.count_cons]at hs
   simp at hs
   rw[h1]
   have:=bw n w hn hw m (i+1) z (by omega) (by omega) (by simpa[zX]using hs)
   simpa using this
  |false=>
   have h0:¬w/2 ^ i % 2=1:=by simpa using hbit
   have h1:w/2 ^ i % 2=0:=by omega
   rw[hbit]at hs
   simp only[zX,List.count_cons]at hs
   simp at hs
   rw[h1]
   have:=bw n w hn hw m (i+1) (z+1) (by omega) (by omega) (by simp only[zX];omega)
   simpa using this
theorem Ca (n w:Nat)(hn:n<=12)(hw:w<9223372036854775808):Ev (fun k=>Vp k (upTo n,(w:Int))) (riff (bits n w) 0 (zX (bits n w))):=by
 refine ES (fun k=>NM k ..) ?_
 rw[wc]
 exact bw n w hn hw n 0 0 (by omega) (by omega) (by simp)
theorem Ye:∀(m w:Nat),(vh m w).length=m
 |0,_=>rfl
 |m+1,w=>by rw[vh,zgB,Ye]
theorem Nc:∀l:List Bool,ym l+ui l=l.length
 | []=>rfl
 |true::r=>by have:=Nc r;simp[ym,ui];omega
 |false::r=>by have:=Nc r;simp[ym,ui];omega
def rfp (p:List Int):Nat->Nat->List Bool->List Int
 |_,_,[]=> []
 |f,s,true::r=>p.getD s 0::rfp p f (s+1) r
 |f,s,false::r=>p.getD f 0::rfp p (f+1) s r
def Kq (p:List Int)(w:Nat):List Int:=rfp p 0 (ym (vh p.length w)) (vh p.length w)
theorem zeE (w i:Nat):w/2 ^ i/2=w/2 ^(i+1):=by rw[Nat.div_div_eq_div_mul,Nat.pow_succ]
theorem GY (m w i:Nat):vh (m+1) (w/2 ^ i)=Nat.beq (w/2 ^ i % 2) 1::vh m (w/2 ^(i+1)):=by rw[vh,zeE]
theorem XL (p:List Int)(hp:p.length<=12)(w:Nat)(hw:w<=4096):∀(m i f s:Nat) (out:List Int),i+m=p.length->f+ym (vh m (w/2 ^ i))<=p.length->s+ui (vh m (w/2 ^ i))<=p.length->out.length<=i->
 Ev (fun k=>uT k p (w:Int) (f:Int) (s:Int) (p.length:Int) (i:Int) out) (out++rfp p f s (vh m (w/2 ^ i)))
 |0,i,f,s,out,h,hf,hs,ho=>by
  refine ES (fun k=>jD k ..) (EN (by simp;omega) (EZ ?_))
  simp[vh,rfp]
 |m+1,i,f,s,out,h,hf,hs,ho=>by
  have ih:=fun f s out=>XL p hp w hw m (i+1) f s out (by omega)
  have ew:∀j:Nat,j<=12->IntKind.i64.wrap ((j:Int)+1)=((j+1:Nat):Int):=fun j hj=>by rw[ze (by omega) (by omega)];omega
  rw[GY]at hf hs⊢
  refine ES (fun k=>jD k ..) ?_
  simp only[QG w i (by omega) (by omega),ew i (by omega)]
  simp only[zgy]
  refine EY (by simp;omega) (EY (by simp) ?_)
  cases hb:Nat.beq (w/2 ^ i % 2) 1 with
  |true=>
   rw[hb]at hf hs
   have hb' :=zgE hb
   simp only[ym,ui]at hf hs
   rw[ew s (by omega)]
   refine EY (by rw[hb'];rfl) (EY (by simp) (EY (by simp;omega) (EY (by rw[za];exact zgu (by simp;omega)) ?_)))
   exact(ih f (s+1) (out++[p.getD s 0]) (by omega) (by omega) (by simp;omega)).to (by simp[rfp])
  |false=>
   rw[hb]at hf hs
   have hb' :¬w/2 ^ i % 2=1:=fun e=>by rw[e]at hb;cases hb
   simp only[ym,ui]at hf hs
   rw[ew f (by omega)]
   have h0:w/2 ^ i % 2=0:=by omega
   refine EN (by rw[h0];rfl) (EY (by simp) (EY (by simp;omega) (EY (by rw[za];exact zgu (by simp;omega)) ?_)))
   exact(ih (f+1) s (out++[p.getD f 0]) (by omega) (by omega) (by simp;omega)).to (by simp[rfp])
theorem fS (p:List Int)(hp:p.length<=12)(w:Nat)(hw:w<=4096):∀(m i z:Nat),i+m=p.length->z<=i->
 Ev (fun k=>fu k p (w:Int) 0 (z:Int) (p.length:Int) (i:Int)) (rfp p 0 (z+ym (vh m (w/2 ^ i))) (vh p.length w))\/z+ym (vh m (w/2 ^ i))≠ym (vh p.length w)
 |0,i,z,h,hz=>by
  by_cases hzz:z+ym (vh 0 (w/2 ^ i))=ym (vh p.length w)
  ·left
   refine ES (fun k=>vB k ..) (EN (by simp;omega) ?_)
   have e:ym (vh 0 (w/2 ^ i))=0:=rfl
   rw[e]at hzz⊢
   have hl:=Nc (vh p.length w)
   rw[Ye]at hl
   have:=XL p hp w hw p.length 0 0 z [] (by omega) (by rw[Nat.pow_zero,Nat.div_one];omega) (by rw[Nat.pow_zero,Nat.div_one];omega) (zgC _)
   rw[Nat.pow_zero,Nat.div_one,List.nil_append]at this
   exact this
  ·exact .inr hzz
 |m+1,i,z,h,hz=>by
  rw[GY]
  have ew:IntKind.i64.wrap ((i:Int)+1)=((i+1:Nat):Int):=by rw[ze (by omega) (by omega)];omega
  cases hb:Nat.beq (w/2 ^ i % 2) 1 with
  |true=>
   have hb' :=zgE hb
   simp only[ym]
   refine(fS p hp w hw m (i+1) z (by omega) (by omega)).imp_left fun ih=> ?_
   refine ES (fun k=>vB k ..) ?_
   simp only[QG w i (by omega) (by omega),ew,hb']
   refine EY (by simp;omega) (EY (by simp) ?_)
   have e2:IntKind.i64.wrap ((z:Int)+IntKind.i64.wrap (1-((1:Nat):Int)))=(z:Int):=by rw[ze (x:=1-((1:Nat):Int)) (by omega) (by omega),ze (by omega) (by omega)];omega
   rw[e2]
   exact ih
  |false=>
   have hb' :w/2 ^ i % 2=0:=by
    have:¬w/2 ^ i % 2=1:=fun e=>by rw[e]at hb;cases hb
    omega
   simp only[ym]
   rw[show z+(ym (vh m (w/2 ^(i+1)))+1)=(z+1)+ym (vh m (w/2 ^(i+1))) by omega]
   refine(fS p hp w hw m (i+1) (z+1) (by omega) (by omega)).imp_left fun ih=> ?_
   refine ES (fun k=>vB k ..) ?_
   simp only[QG w i (by omega) (by omega),ew,hb']
   refine EY (by simp;omega) (EY (by simp) ?_)
   have e2:IntKind.i64.wrap ((z:Int)+IntKind.i64.wrap (1-((0:Nat):Int)))=((z+1:Nat):Int):=by rw[ze (x:=1-((0:Nat):Int)) (by omega) (by omega),ze (by omega) (by omega)];omega
   rw[e2]
   exact ih
theorem FV (p:List Int)(hp:p.length<=12)(w:Nat)(hw:w<=4096):Ev (fun k=>Vp k (p,(w:Int))) (Kq p w):=by
 refine ES (fun k=>NM k ..) ?_
 have:=fS p hp w hw p.length 0 0 (by omega) (zgC _)
 rw[Nat.pow_zero,Nat.div_one,Nat.zero_add]at this
 exact this.resolve_right (fun h=>h rfl)
def Ve (p:List Int):Packs:=(List.range (2 ^ p.length)).map (Kq p)
theorem Aq {n:Nat}(h:n<=12):2 ^ n<=4096:=Nat.pow_le_pow_right (by decide) h
theorem Jb (p:List Int)(hp:p.length<=12):∀(m i:Nat),i+m=2 ^ p.length->Ev (fun k=>M0 k p (i:Int) ((List.range i).map (Kq p))) (Ve p,true)
 |m,i,h=>by
  have h2:=Aq hp
  have e:IntKind.i64.wrap ((1:Int)*2 ^(min (p.length:Int).toNat IntKind.i64.bits))=((2 ^ p.length:Nat):Int):=by
   have hm:min (p.length:Int).toNat IntKind.i64.bits=p.length:=by
    have:IntKind.i64.bits=64:=rfl
    rw[this,zgy];omega
   rw[hm,Int.one_mul,show(2:Int)^ p.length=((2 ^ p.length:Nat):Int) by simp,ze (by omega) (by omega)]
  refine ES (fun k=>BP k ..) (EY (by simp) ?_)
  rw[e]
  match m,h with
  |0,h=>
   refine EN (by simp only[decide_eq_false_iff_not];omega) (EZ ?_)
   have:i=2 ^ p.length:=by omega
   rw[this];rfl
  |m+1,h=>
   have ih:=Jb p hp m (i+1) (by omega)
   rw[ZK]at ih
   have ew:IntKind.i64.wrap ((i:Int)+1)=((i+1:Nat):Int):=by rw[ze (by omega) (by omega)];omega
   rw[ew]
   refine EY (by simp only[zgI];omega) (EB (FV p hp i (by omega)) (EY (by rw[za];exact zgu (by simp;omega)) ih))
def riffsW (p:List Int):Packs:=(List.range (p.length+1)).flatMap fun k=>wv [] (p.take k) (p.drop k)
theorem Ej:∀(n i:Nat) (p:List Int),p.length=n->((List.range i).flatMap fun k=>wv [] (p.take k) (p.drop k)).length<=i*2 ^ n
 |n,0,p,h=>by simp
 |n,i+1,p,h=>by
  have h1:=Ej n i p h
  have h2:=H3 n [] (p.take i) (p.drop i) (by simp;omega)
  rw[List.range_succ,List.flatMap_append,zgA,Nat.add_mul,Nat.one_mul]
  simp only[List.flatMap_cons,List.flatMap_nil,List.append_nil]
  omega
theorem Rf (p:List Int)(hp:p.length<=12):∀(m i:Nat),i+m=p.length+1->Ev (fun k=>Uf k p (i:Int) ((List.range i).flatMap fun k=>wv [] (p.take k) (p.drop k))) (riffsW p)
 |0,i,h=>by
  refine ES (fun k=>Rg k ..) (EN (by simp;omega) (EZ ?_))
  have:i=p.length+1:=by omega
  rw[this];rfl
 |m+1,i,h=>by
  have ih:=Rf p hp m (i+1) (by omega)
  have e:(List.range (i+1)).flatMap (fun k=>wv [] (p.take k) (p.drop k))=((List.range i).flatMap fun k=>wv [] (p.take k) (p.drop k))++wv [] (p.take i) (p.drop i):=by
   rw[List.range_succ,List.flatMap_append];simp
  rw[e]at ih
  have ew:IntKind.i64.wrap ((i:Int)+1)=((i+1:Nat):Int):=by rw[ze (by omega) (by omega)];omega
  have h2:=Aq hp
  have hl:=Ej p.length i p rfl
  have hl2:i*2 ^ p.length<=13*4096:=Nat.mul_le_mul (by omega) h2
  refine ES (fun k=>Rg k ..) ?_
  simp only[ew,wd,zgy,List.take_length,List.drop_zero]
  refine EY (by simp;omega) ?_
  (repeat (first|refine EY (by(first|(simp[za];done)|(simp[za];omega)|omega)) ?_|refine EN (by(first|(simp[za];done)|(simp[za];omega)|omega)) ?_))
  exact EB (jg p.length _ [] _ _ (by simp;omega) (by simp;omega) (by omega)) ih
def gS:List Bool->List Int->List Int->List Int
 |true::r,a,y::b=>y::gS r a b
 |false::r,x::a,b=>x::gS r a b
 |_,_,_=> []
theorem H0:∀(n:Nat) (d a b q:List Int),a.length+b.length=n->(q∈wv d a b↔∃bits,ym bits=a.length/\ui bits=b.length/\q=d++gS bits a b)
 |n,d,[],[],q,h=>by
  unfold wv
  constructor
  ·intro hq
   exact⟨[],rfl,rfl,by simpa[gS]using hq⟩
  ·rintro⟨bits,h1,h2,rfl⟩
   have:bits=[]:=by
    have:=Nc bits
    simp at h1 h2
    exact List.length_eq_zero_iff.1 (by omega)
   subst this
   simp[gS]
 |n+1,d,x::a,[],q,h=>by
  unfold wv
  rw[H0 n (d++[x]) a [] q (by simp at h⊢;omega)]
  constructor
  ·rintro⟨bits,h1,h2,rfl⟩
   exact⟨false::bits,by simp[ym,h1],by simpa[ui]using h2,by simp[gS]⟩
  ·rintro⟨bits,h1,h2,rfl⟩
   match bits,h1,h2 with
   |false::bits,h1,h2=>exact⟨bits,by simpa[ym]using h1,by simpa[ui]using h2,by simp[gS]⟩
   |true::bits,h1,h2=>simp[ui]at h2
   | [],h1,h2=>simp[ym]at h1
 |n+1,d,[],y::b,q,h=>by
  unfold wv
  rw[H0 n (d++[y]) [] b q (by simp at h⊢;omega)]
  constructor
  ·rintro⟨bits,h1,h2,rfl⟩
   exact⟨true::bits,by simpa[ym]using h1,by simp[ui,h2],by simp[gS]⟩
  ·rintro⟨bits,h1,h2,rfl⟩
   match bits,h1,h2 with
   |true::bits,h1,h2=>exact⟨bits,by simpa[ym]using h1,by simpa[ui]using h2,by simp[gS]⟩
   |false::bits,h1,h2=>simp[ym]at h1
   | [],h1,h2=>simp[ui]at h2
 |n+1,d,x::a,y::b,q,h=>by
  unfold wv
  rw[zgz,H0 n (d++[x]) a (y::b) q (by simp at h⊢;omega),H0 n (d++[y]) (x::a) b q (by simp at h⊢;omega)]
  constructor
  ·rintro(⟨bits,h1,h2,rfl⟩|⟨bits,h1,h2,rfl⟩)
   ·exact⟨false::bits,by simp[ym,h1],by simpa[ui]using h2,by simp[gS]⟩
   ·exact⟨true::bits,by simpa[ym]using h1,by simp[ui,h2],by simp[gS]⟩
  ·rintro⟨bits,h1,h2,rfl⟩
   match bits,h1,h2 with
   |true::bits,h1,h2=>exact .inr ⟨bits,by simpa[ym]using h1,by simpa[ui]using h2,by simp[gS]⟩
   |false::bits,h1,h2=>exact .inl ⟨bits,by simpa[ym]using h1,by simpa[ui]using h2,by simp[gS]⟩
   | [],h1,h2=>simp[ui]at h2
 |0,d,x::a,_,q,h=>by simp at h
 |0,d,[],y::b,q,h=>by simp at h
theorem RA (p:List Int)(k:Nat)(hk:k<=p.length):∀(bits:List Bool) (f s:Nat),f+ym bits=k->s+ui bits=p.length->rfp p f s bits=gS bits ((p.take k).drop f) (p.drop s)
 | [],f,s,h1,h2=>by unfold rfp gS;rfl
 |true::r,f,s,h1,h2=>by
  simp only[ym,ui]at h1 h2
  have hs:s<p.length:=by omega
  rw[List.drop_eq_getElem_cons hs]
  unfold rfp gS
  rw[RA p k hk r f (s+1) h1 (by omega)]
  simp[List.getD,hs]
 |false::r,f,s,h1,h2=>by
  simp only[ym,ui]at h1 h2
  have hf:f<(p.take k).length:=by simp;omega
  rw[List.drop_eq_getElem_cons hf]
  unfold rfp gS
  rw[RA p k hk r (f+1) s (by omega) h2]
  have:f<p.length:=by omega
  simp[List.getD,this]
def nb:List Bool->Nat
 | []=>0|b::r=>(bif b then 1 else 0)+2*nb r
theorem zal:∀l:List Bool,vh l.length (nb l)=l/\nb l<2 ^ l.length
 | []=>⟨rfl,by decide⟩
 |b::r=>by
  obtain⟨h1,h2⟩:=zal r
  rw[zgB,vh,nb,Nat.pow_succ]
  have e1:((bif b then 1 else 0)+2*nb r)/2=nb r:=by cases b<;>simp<;>omega
  have e2:((bif b then 1 else 0)+2*nb r) % 2=(bif b then 1 else 0):=by cases b<;>simp<;>omega
  rw[e1,e2,h1]
  refine⟨by cases b<;>rfl, ?_⟩
  cases b<;>simp<;>omega
theorem za2 (p q:List Int):q∈Ve p↔q∈riffsW p:=by
 unfold Ve riffsW
 rw[zgY,zgP]
 constructor
 ·rintro⟨w,hw,rfl⟩
  have hl:=Nc (vh p.length w)
  rw[Ye]at hl
  refine⟨ym (vh p.length w),by simp;omega, ?_⟩
  rw[H0 p.length [] _ _ _ (by simp;omega)]
  refine⟨vh p.length w,by simp;omega,by simp;omega, ?_⟩
  unfold Kq
  rw[RA p (ym (vh p.length w)) (by omega) _ 0 _ (by omega) (by omega)]
  simp
 ·rintro⟨k,hk,hq⟩
  have hk' :k<=p.length:=by have:=List.mem_range.1 hk;omega
  rw[H0 p.length [] _ _ _ (by simp;omega)]at hq
  obtain⟨bits,h1,h2,rfl⟩:=hq
  simp at h1 h2
  have hl:=Nc bits
  obtain⟨b1,b2⟩:=zal bits
  have hbl:bits.length=p.length:=by omega
  rw[hbl]at b1 b2
  refine⟨nb bits,List.mem_range.2 b2, ?_⟩
  unfold Kq
  rw[b1,RA p k hk' bits 0 _ (by omega) (by omega)]
  have:ym bits=k:=by omega
  rw[this]
  simp
theorem Kr (p:List Int):∀(bits:List Bool) (f s:Nat),rfp p f s bits=(rfi f s bits).map fun i=>p.getD i 0
 | [],_,_=>rfl
 |true::r,f,s=>by unfold rfp rfi;rw[Kr p r];rfl
 |false::r,f,s=>by unfold rfp rfi;rw[Kr p r];rfl
theorem zco (n:Nat):∀(bits:List Bool) (f s:Nat),f+ym bits<=n->s+ui bits<=n->∀x∈rfi f s bits,x<n
 | [],_,_,_,_,x,hx=>by cases hx
 |true::r,f,s,h1,h2,x,hx=>by
  simp only[ym,ui]at h1 h2
  rcases zgO.1 hx with rfl|hx
  ·omega
  ·exact zco n r f (s+1) h1 (by omega) x hx
 |false::r,f,s,h1,h2,x,hx=>by
  simp only[ym,ui]at h1 h2
  rcases zgO.1 hx with rfl|hx
  ·omega
  ·exact zco n r (f+1) s (by omega) h2 x hx
theorem Gu {g:Nat->Int}{n:Nat}(hg:∀i j,i<n->j<n->g i=g j->i=j):∀ {l m:List Nat},(∀x∈l,x<n)->(∀x∈m,x<n)->l.map g=m.map g->l=m
 | [],[],_,_,_=>rfl
 | [],_::_,_,_,h=>by simp at h
 |_::_,[],_,_,h=>by simp at h
 |x::l,y::m,hl,hm,h=>by
  simp only[List.map_cons,List.cons.injEq]at h
  rw[hg x y (hl x (by simp)) (hm y (by simp)) h.1,Gu hg (fun z hz=>hl z (by simp[hz])) (fun z hz=>hm z (by simp[hz])) h.2]
theorem riffs12 {p:List Int}(hl:p.length=12)(hn:p.Nodup):3000<(setL (Ve p)).length:=by
 have hg:∀i j,i<12->j<12->p.getD i 0=p.getD j 0->i=j:=fun i j hi hj e=>by
  have h1:i<p.length:=by omega
  have h2:j<p.length:=by omega
  simp only[List.getD,zgD h1,zgD h2,Option.getD_some]at e
  have hpw:=List.pairwise_iff_getElem.1 (show p.Pairwise (fun a b=>a≠b)from hn)
  rcases Nat.lt_trichotomy i j with h|h|h
  ·exact(hpw i j h1 h2 h e).elim
  ·exact h
  ·exact(hpw j i h2 h1 h e.symm).elim
 have hlt:∀w,∀x∈Bx 12 w,x<12:=fun w=>by
  have:=Nc (vh 12 w)
  rw[Ye]at this
  exact zco 12 _ 0 _ (by omega) (by omega)
 have hr:∀w,Kq p w=(Bx 12 w).map fun i=>p.getD i 0:=fun w=>by unfold Kq Bx;rw[hl,Kr]
 have hdec:∀w,w<4096->wellW w=true->decGo 0 none (Bx 12 w)=w:=fun w hw hwell=>by
  have:=zgS.1 riff12 w (List.mem_range.2 hw)
  unfold wellW at hwell
  rw[Bool.not_eq_true']at hwell
  rw[hwell,Bool.false_or]at this
  exact zgE this
 have hnd:(((List.range 4096).filter wellW).map (Kq p)).Nodup:=by
  rw[List.Nodup,List.pairwise_map]
  refine List.Pairwise.imp_of_mem (fun {a b} ha hb hab e=>hab ?_) ((List.nodup_range (n:=4096)).filter wellW)
  obtain⟨a1,a2⟩:=List.mem_filter.1 ha
  obtain⟨b1,b2⟩:=List.mem_filter.1 hb
  rw[hr,hr]at e
  have:=Gu hg (hlt a) (hlt b) e
  rw[<-hdec a (List.mem_range.1 a1) a2,<-hdec b (List.mem_range.1 b1) b2,this]
 have:=DS hnd (m:=setL (Ve p)) (fun q hq=>by
  obtain⟨w,hw,rfl⟩:=zgY.1 hq
  rw[jd]
  unfold Ve
  rw[hl]
  exact zgY.2 ⟨w,(List.mem_filter.1 hw).1,rfl⟩)
 rw[zgN,DH]at this
 omega
theorem zcn {p:List Int}(hp:p.length<=11):(setL (Ve p)).length<=2048:=by
 refine zg1 (Yl _) ?_
 unfold Ve
 rw[zgN,List.length_range]
 exact Nat.pow_le_pow_right (by decide) hp
def Ei (p:List Int):List Int:=(p.take 2).reverse.map turn++p.drop 2
def x5 (p:List Int)(c:Int):Packs:=if c=1 then VZ p else if c=2 then Ve p else if c=3 then VZ (Ei p)else if c=4 then Ny p else [p]
def chOk (p:List Int)(c:Int):Bool:=zp p&&(!(p.length==0)&&(decide (0<=c/\c<=4)&&(!(decide (c=3)&&decide (p.length<2))&& !(decide (c=2)&&decide (12<=p.length)))))
structure ChFit (p:List Int)(c:Int):Prop where
 ok:zp p=true
 l1:1<=p.length
 l12:p.length<=12
 c0:0<=c
 c4:c<=4
 c3:c=3->2<=p.length
 c2:c=2->p.length<=11
theorem fD (p:List Int):(Ei p).length=p.length:=by unfold Ei;simp;omega
theorem Cv {p:List Int}(hi:Ins p):Ins (Ei p):=fun x hx=>by
 unfold Ei at hx
 rcases zgz.1 hx with h|h
 ·obtain⟨y,hy,rfl⟩:=zgY.1 h
  exact zfy (hi y (List.mem_of_mem_take (List.mem_reverse.1 hy)))
 ·exact hi x (List.mem_of_mem_drop h)
theorem Xm {p:List Int}{c:Int}(hp:p.length<=12):(x5 p c).length<=4096/\∀q∈x5 p c,q.length<=12:=by
 have h2:=Aq hp
 unfold x5
 split
 ·refine⟨by unfold VZ;simp;omega,fun q hq=> ?_⟩
  obtain⟨i,_,rfl⟩:=zgY.1 hq
  unfold cutL;simp;omega
 split
 ·refine⟨by unfold Ve;simpa using h2,fun q hq=> ?_⟩
  obtain⟨w,_,rfl⟩:=zgY.1 hq
  unfold Kq
  rw[Kr,zgN]
  have:∀(bits:List Bool) (f s:Nat),(rfi f s bits).length=bits.length:=fun bits=>by
   induction bits with
   |nil=>intro f s;rfl
   |cons b r ih=>intro f s;cases b<;>simp[rfi,ih]
  rw[this,Ye];exact hp
 split
 ·refine⟨by unfold VZ;simp[fD];omega,fun q hq=> ?_⟩
  obtain⟨i,_,rfl⟩:=zgY.1 hq
  unfold cutL;simp[fD];have:=fD p;omega
 split
 ·refine⟨by unfold Ny;simp;omega,fun q hq=> ?_⟩
  obtain⟨i,hi,rfl⟩:=zgY.1 hq
  have:=List.mem_range.1 hi
  unfold Bz;simp;omega
 ·exact⟨by simp,fun q hq=>by have:q=p:=by simpa using hq
                             rw[this];exact hp⟩
theorem zdB {p:List Int}{c:Int}(hp:p.length<=12)(c2:c≠2):(x5 p c).length<=12:=by
 unfold x5
 split
 ·unfold VZ;simpa using hp
 split
 ·unfold VZ;simpa[fD]using hp
 split
 ·unfold Ny;simpa using hp
 ·simp
theorem zaW (p:List Int)(c:Int)(h:ChFit p c)(hi:Ins p):∃y,Ev (fun k=>Bo k (p,c)) y/\y.length<=1048576/\∀q,q∈y↔q∈x5 p c:=by
 have hp:=h.l12
 by_cases c1:c=1
 ·refine⟨VZ p,ES (fun k=>ZB k p c) (EY (by simp[c1]) (EB (Nu p hp hi) (EP _))),by unfold VZ;simp;omega,fun q=>by simp[x5,c1]⟩
 by_cases c2:c=2
 ·refine⟨riffsW p,ES (fun k=>ZB k p c) (EN (by simp[c1]) (EY (by simp[c2]) (Rf p hp (p.length+1) 0 (by omega)))), ?_,fun q=>by rw[<-za2];simp[x5,c2]⟩
  have:=Ej p.length (p.length+1) p rfl
  have h2:=Aq hp
  have h3:(p.length+1)*2 ^ p.length<=13*4096:=Nat.mul_le_mul (by omega) h2
  unfold riffsW
  omega
 by_cases c3:c=3
 ·have h2:=h.c3 c3
  have hb:=WO p hp hi 2 h2 true
  have e:(p.take 2).reverse.map (fun x=>bif true then turn x else x)++p.drop 2=Ei p:=rfl
  rw[e]at hb
  refine⟨VZ (Ei p),ES (fun k=>ZB k p c) (EN (by simp[c1]) (EN (by simp[c2]) (EY (by simp[c3]) (EB hb (EB (Nu _ (by rw[fD];exact hp) (Cv hi)) (EP _)))))),by unfold VZ;simp[fD];omega,fun q=>by simp[x5,c3]⟩
 by_cases c4:c=4
 ·refine⟨Ny p,ES (fun k=>ZB k p c) (EN (by simp[c1]) (EN (by simp[c2]) (EN (by simp[c3]) (EY (by simp[c4]) (UT p hp p.length 0 (by omega)))))),by unfold Ny;simp;omega,fun q=>by simp[x5,c4]⟩
 ·refine⟨[p],ES (fun k=>ZB k p c) (EN (by simp[c1]) (EN (by simp[c2]) (EN (by simp[c3]) (EN (by simp[c4]) (EY (by rw[za];simp) (EZ rfl)))))),by simp,fun q=>by simp[x5,c1,c2,c3,c4]⟩
theorem zaR {l m:Packs}(h:∀q,q∈l↔q∈m):setL l=setL m:=Bj (LB l) fun q=>(jd l q).trans (h q)
def resOf (p:List Int)(c:Int):Packs×Bool:=if chOk p c then(setL (x5 p c),true)else([],false)
theorem zer (p:List Int)(c:Int)(hp:p.length<=12)(hi:Ins p)(h0:1<=p.length):Ev (fun k=>zfz k (p,c)) (if(0<=c/\c<=4)/\¬(c=3/\p.length<2)then(x5 p c,true)else([],false)):=by
 refine ES (fun k=>zes k p c) ?_
 refine EI (fun e=> ?_) (fun n0=>EI (fun e=> ?_) (fun n1=>EI (fun e=> ?_) (fun n2=>EI (fun e=> ?_) (fun n3=>EI (fun e=> ?_) (fun n4=>EZ ?_)))))
 all_goals simp only[beq_iff_eq,beq_eq_false_iff_ne,ne_eq]at*
 ·subst e
  exact EB (yz p (by omega)) (EZ (by simp[x5]))
 ·subst e
  exact EB (Ch p hp hi) (EZ (by simp[x5]))
 ·subst e
  exact(Jb p hp (2 ^ p.length) 0 (by omega)).to (by simp[x5])
 ·subst e
  refine EI (fun h=>EZ ?_) (fun h=> ?_)
  ·have:p.length<2:=by have:(p.length:Int)<2:=by simpa using h
                       omega
   simp[this]
  ·have h2:¬p.length<2:=by have:¬(p.length:Int)<2:=by simpa using h
                           omega
   have hm:=ZV p (3,((2:Nat):Int)) ⟨h0,hp,by simp, .inl (by simp;omega),fun _=>by simp;omega,fun h=>by simp at h,fun _ _ h3=>absurd rfl h3⟩ hi
   have ed:xB p (3,((2:Nat):Int))=Ei p:=by simp[xB,Ei]
   rw[ed]at hm
   exact EB hm (EB (Ch _ (by rw[fD];exact hp) (Cv hi)) (EZ (by simp[x5,h2])))
 ·subst e
  exact(NS p hp p.length 0 (by omega)).to (by simp[x5])
 ·rw[zgH (by omega)]
theorem HK (p:List Int)(c:Int)(hp:p.length<=maxLen)(hi:Ins p):Ev (fun k=>Sq k (p,c)) (resOf p c):=by
 unfold resOf
 refine ES (fun k=>HL k p c) (EB (xY p hp hi) (EI (fun h=>EZ ?_) (fun h=>EI (fun h2=>EZ ?_) (fun h2=> ?_))))
 ·have:zp p=false:=by simpa using h
  simp[chOk,this]
 ·have:p.length=0:=by have:(p.length:Int)=0:=by simpa using h2
                      omega
  simp[chOk,this]
 ·have e1:zp p=true:=by simpa using h
  have e2:¬p.length=0:=by have:¬(p.length:Int)=0:=by simpa using h2
                          omega
  have hl:=(yn e1).2.2
  have hnd:p.Nodup:=by
   have:=(yn e1).1
   rw[List.Nodup,List.pairwise_map]at this
   exact this.imp fun h e=>h (by rw[e])
  refine EB (zer p c hl hi (by omega)) ?_
  by_cases hc:(0<=c/\c<=4)/\¬(c=3/\p.length<2)
  ·rw[zgG hc]
   have hs:=Xm (c:=c) hl
   refine EB (XP _ (zg1 hs.1 (by decide)) (fun q hq=>zg1 (hs.2 q hq) (by decide))) (EN rfl ?_)
   refine EI (fun h3=>EZ ?_) (fun h3=>EZ ?_)
   ·have h3' :3000<(setL (x5 p c)).length:=by have:((setL (x5 p c)).length:Int)>3000:=by simpa using h3
                                              omega
    have:c=2/\12<=p.length:=by
     apply Classical.byContradiction
     intro hcon
     have h5:=Yl (x5 p c)
     by_cases c2:c=2
     ·have:=zcn (p:=p) (by omega)
      rw[c2]at h3'
      simp only[x5]at h3'
      simp at h3'
      omega
     ·have:=zdB (p:=p) hl c2
      omega
    rw[zgH]
    unfold chOk
    simp[this.1,this.2]
   ·have h3' :¬3000<(setL (x5 p c)).length:=by have:¬((setL (x5 p c)).length:Int)>3000:=by simpa using h3
                                               omega
    have:¬(c=2/\12<=p.length):=fun⟨a,b⟩=>h3' (by
     have:=riffs12 (p:=p) (by omega) hnd
     rw[a]
     simpa[x5]using this)
    rw[zgG]
    unfold chOk
    rw[e1,zgu hc.1]
    have h6:=hc.2
    by_cases x3:c=3
    ·have:¬p.length<2:=fun h=>h6 ⟨x3,h⟩
     simp[e2,x3,this]
    ·by_cases x2:c=2
     ·have:¬12<=p.length:=fun h=>this ⟨x2,h⟩
      simp[e2,x2,this]
     ·simp[e2,x3,x2]
  ·rw[zgH hc]
   refine EB (XP [] (by simp) (fun q hq=>by cases hq)) (EY rfl (EZ ?_))
   rw[zgH]
   unfold chOk
   by_cases c04:0<=c/\c<=4
   ·have:c=3/\p.length<2:=Classical.byContradiction fun h=>hc ⟨c04,h⟩
    simp[this.1,this.2]
   ·rw[zgv c04];simp
theorem C0 (x:Int):card (turn x)=card x:=by
 unfold turn
 split
 ·rfl
 ·rename_i h
  unfold card at h⊢
  split at h
  ·rename_i h1
   rw[zgH (by omega),zgG (by omega),zgG h1];omega
  ·rename_i h1
   split at h
   ·rename_i h2
    rw[zgG (by omega),zgH h1,zgG h2]
   ·omega
theorem zeh (l:List Int):(l.map turn).map card=l.map card:=by rw[List.map_map];exact List.map_congr_left fun x _=>C0 x
abbrev Pm (q p:List Int):Prop:=(q.map card).Perm (p.map card)
theorem Pm.of {q p:List Int}(h:q.Perm p):Pm q p:=h.map card
theorem JD:∀(n:Nat) (f:Bool) (a b:List Int),a.length+b.length=n->(fz f a b).Perm (a++b)
 |n,f,[],[],h=>by unfold fz;exact .refl _
 |n,f,x::a,[],h=>by
  match n,h with
  |n+1,h=>
  unfold fz
  exact(JD n (!f) a [] (by simp at h⊢;omega)).cons x
 |n,f,[],y::b,h=>by
  match n,h with
  |n+1,h=>
  unfold fz
  exact(JD n (!f) [] b (by simp at h⊢;omega)).cons y
 |n,true,x::a,y::b,h=>by
  match n,h with
  |n+1,h=>
  unfold fz
  exact(JD n false a (y::b) (by simp at h⊢;omega)).cons x
 |n,false,x::a,y::b,h=>by
  match n,h with
  |n+1,h=>
  unfold fz
  exact((JD n true (x::a) b (by simp at h⊢;omega)).cons y).trans List.perm_middle.symm
termination_by n=>n
theorem BF (k:Int):∀(r:List Int) (i:Nat) (out:List Int),(mz k i r out).Perm (r++out)
 | [],i,out=>by unfold mz;exact .refl _
 |x::r,i,out=>by
  unfold mz
  split
  ·refine(BF k r (i+1) (out++[x])).trans ?_
   rw[<-zgU]
   exact List.perm_append_comm
  ·exact(BF k r (i+1) (x::out)).trans List.perm_middle
theorem ends (p:List Int)(h:1<p.length):p=p.getD 0 0::((p.take (p.length-1)).drop 1++[p.getD (p.length-1) 0]):=by
 cases p with
 |nil=>simp at h
 |cons x r=>
  simp at h
  have hr:r≠[]:=by intro e;subst e;simp at h
  have e1:(x::r).length-1=r.length-1+1:=by simp;omega
  rw[e1,List.take_succ_cons,List.drop_one,List.tail_cons]
  have e2:(x::r).getD (r.length-1+1) 0=r.getLast hr:=by
   simp only[List.getD,List.getElem?_cons_succ]
   rw[List.getLast_eq_getElem,zgD (by omega)]
   rfl
  rw[e2,<-List.dropLast_eq_take,List.dropLast_concat_getLast hr]
  rfl
theorem zcF:∀(n:Nat) (p out:List Int),(kz n p out).Perm (p++out)
 |0,p,out=>by unfold kz;exact .refl _
 |n+1,p,out=>by
  unfold kz
  split
  ·rename_i h
   refine(zcF n _ _).trans ?_
   have e:=ends p h
   generalize p.getD 0 0=x at*
   generalize p.getD (p.length-1) 0=y at*
   generalize(p.take (p.length-1)).drop 1=m at*
   rw[e]
   refine List.perm_middle.trans (List.Perm.cons x ?_)
   simp
  ·exact .refl _
theorem B2:∀(n:Nat) (f:Bool) (q out:List Int),1<=q.length->2*q.length+(bif f then 0 else 1)<=n->(dz n f q out).Perm (q++out)
 |0,f,q,out,h,hn=>by omega
 |n+1,f,q,out,h,hn=>by
  unfold dz
  cases q with
  |nil=>simp at h
  |cons x r=>
   split
   ·rename_i h1
    cases f with
    |true=>
     simp at h1 hn
     refine(B2 n false r (x::out) (by omega) (by simp;omega)).trans ?_
     exact List.perm_middle
    |false=>
     simp at h1 hn
     refine(B2 n true (r++[x]) out (by simp) (by simp;omega)).trans ?_
     rw[zgU]
     exact List.perm_middle
   ·rename_i h1
    simp at h1
    subst h1
    exact .refl _
theorem AL (p:List Int)(i:Nat)(h:i<p.length):(p.take i++p.drop (i+1)++[p.getD i 0]).Perm p:=by
 have e:p=p.take i++(p.getD i 0::p.drop (i+1)):=by
  have:p.getD i 0=p[i]:=by simp[List.getD,h]
  rw[this,<-List.drop_eq_getElem_cons h,List.take_append_drop]
 have h1:(p.take i++p.drop (i+1)++[p.getD i 0]).Perm (p.take i++(p.getD i 0::p.drop (i+1))):=by
  rw[zgU]
  exact List.Perm.append_left _ (List.perm_append_comm (l₁:=p.drop (i+1)) (l₂:=[p.getD i 0]))
 rw[<-e]at h1
 exact h1
theorem DL (p:List Int)(k:Nat):Pm ((p.take k).reverse.map turn++p.drop k) p:=by
 show(List.map card _).Perm _
 rw[List.map_append,zeh]
 refine(((List.reverse_perm (p.take k)).map card).append_right _).trans ?_
 rw[<-List.map_append,List.take_append_drop]
theorem CJ {p:List Int}{m:Int×Int}(h:MoveFit p.length m):Pm (xB p m) p:=by
 have h1:=h.n1
 have ht:=h.t
 unfold xB
 split
 ·refine Pm.of (List.perm_append_comm.trans ?_)
  rw[List.take_append_drop]
 split
 ·refine Pm.of (((List.reverse_perm (p.take m.2.toNat)).append_right _).trans ?_)
  rw[List.take_append_drop]
 split
 ·exact DL p _
 split
 ·unfold P0
  refine Pm.of ((JD _ _ _ _ rfl).trans ?_)
  rw[List.take_append_drop]
 split
 ·exact Pm.of ((BF m.2 p 0 []).trans (by simp))
 split
 ·exact Pm.of ((zcF p.length p []).trans (by simp))
 split
 ·exact Pm.of ((B2 (2*p.length+1) (m.2==1) p [] h1 (by cases(m.2==1)<;>simp)).trans (by simp))
 split
 ·rename_i a1 a2 a3 a4 a5 a6 a7 a8
  have h5:=ht a1 a2 a3 a4 a5 a6 a7
  have h6:=h.k0
  have hlt:m.2.toNat<p.length:=by omega
  show(List.map card _).Perm _
  rw[List.map_set,C0]
  have e:card (p.getD m.2.toNat 0)=(p.map card)[m.2.toNat]'(by simpa using hlt):=by simp[List.getD,hlt]
  rw[e,List.set_getElem_self]
 ·rename_i a1 a2 a3 a4 a5 a6 a7 a8
  have h5:=ht a1 a2 a3 a4 a5 a6 a7
  have h6:=h.k0
  exact Pm.of (AL p _ (by omega))
theorem FF:∀(bits:List Bool) (f s:Nat),(rfi f s bits).Perm (List.range' f (ym bits)++List.range' s (ui bits))
 | [],f,s=>by simp[rfi,ym,ui]
 |true::r,f,s=>by
  unfold rfi ym ui
  rw[List.range'_succ]
  exact((FF r f (s+1)).cons s).trans List.perm_middle.symm
 |false::r,f,s=>by
  unfold rfi ym ui
  rw[List.range'_succ]
  exact(FF r (f+1) s).cons f
theorem za3 (p:List Int)(w:Nat):(Kq p w).Perm p:=by
 unfold Kq
 rw[Kr]
 have hz:=Nc (vh p.length w)
 rw[Ye]at hz
 refine((FF _ _ _).map _).trans ?_
 have e:List.range' 0 (ym (vh p.length w))++List.range' (ym (vh p.length w)) (ui (vh p.length w))=List.range p.length:=by
  have:=List.range'_append_1 (s:=0) (m:=ym (vh p.length w)) (n:=ui (vh p.length w))
  rw[Nat.zero_add]at this
  rw[this,List.range_eq_range']
  congr 1
 rw[e]
 have:(List.range p.length).map (fun i=>p.getD i 0)=p:=by
  apply List.ext_getElem
  ·simp
  ·intro i h1 h2
   simp[List.getD,h2]
 rw[this]
theorem zam {p:List Int}{c:Int}(q:List Int)(hq:q∈x5 p c):Pm q p:=by
 have cut:∀(p q:List Int),q∈VZ p->q.Perm p:=fun p q hq=>by
  obtain⟨i,_,rfl⟩:=zgY.1 hq
  unfold cutL
  refine List.perm_append_comm.trans ?_
  rw[List.take_append_drop]
 unfold x5 at hq
 split at hq
 ·exact Pm.of (cut _ _ hq)
 split at hq
 ·obtain⟨w,_,rfl⟩:=zgY.1 hq
  exact Pm.of (za3 p w)
 split at hq
 ·exact(Pm.of (cut _ _ hq)).trans (DL p 2)
 split at hq
 ·obtain⟨i,hi,rfl⟩:=zgY.1 hq
  have:=List.mem_range.1 hi
  unfold Bz
  exact Pm.of (List.perm_append_comm.trans (AL p i this))
 ·have:q=p:=by simpa using hq
  rw[this]
theorem zgb:∀(r done:List Int),(done++r.map card).Nodup->(∀x∈r,0<=card x)->pk done r=true
 | [],done,_,_=>rfl
 |x::r,done,h,h0=>by
  unfold pk
  rw[List.map_cons]at h
  have hx:card x∉done:=fun hm=>(zgM.1 h).2.2 _ hm _ (by simp) rfl
  rw[zgu (h0 x (by simp)),zgb r (done++[card x]) (by simpa using h) (fun y hy=>h0 y (by simp[hy]))]
  simp[hx]
theorem YO {p q:List Int}(h:zp p=true)(hq:Pm q p):zp q=true/\q.length=p.length:=by
 obtain⟨h1,h2,h3⟩:=yn h
 refine⟨zgb q [] (by simpa using hq.nodup_iff.2 h1) (fun x hx=> ?_),by have:=hq.length_eq;simpa using this⟩
 have:=hq.mem_iff.1 (zgY.2 ⟨x,hx,rfl⟩)
 obtain⟨y,hy,e⟩:=zgY.1 this
 have:=(h2 y hy).1
 omega
theorem zR {p:List Int}(h:zp p=true):Ins p:=fun x hx=>by
 have:=((yn h).2.1 x hx).1
 unfold card at this
 unfold In
 split at this
 ·omega
 ·split at this<;>omega
abbrev z6:Type:=Int×(Int×Int)×Int
def zw (c:Scene)(s:z6):List Scene:=
 if s.1=1 then [(xB c.1 s.2.1,c.2)]else if s.1=3 then [(c.1,card (c.1.getD s.2.2.toNat 0))]else(setL (x5 c.1 s.2.2)).map fun q=>(q,c.2)
structure SceneOk (n:Nat)(c:Scene):Prop where
 ok:zp c.1=true
 len:c.1.length=n
 n0: -1<=c.2
 n12:c.2<12
inductive StepKind (n:Nat) (s:z6):Prop
 |mv (h:s.1=1) (m:MoveFit n s.2.1)
 |ch (h:s.1=2) (c0:0<=s.2.2) (c4:s.2.2<=4) (c3:s.2.2=3->2<=n) (c2:s.2.2=2->n<=11)
 |nt (h:s.1=3) (a0:0<=s.2.2) (an:s.2.2<n)
theorem uD {n:Nat}{s:z6}(h:zS (n:Int) s=true):1<=n/\n<=12/\StepKind n s:=by
 unfold zS at h
 simp only[zgx,zgI]at h
 obtain⟨h1,h2,h3⟩:=h
 refine⟨by omega,by omega, ?_⟩
 split at h3
 ·rename_i e
  simp only[zgx]at h3
  exact .mv e (ZP h3.1)
 split at h3
 ·rename_i e
  simp only[zgx,zgI,Bool.or_eq_true,Bool.not_eq_true',beq_eq_false_iff_ne,ne_eq]at h3
  obtain⟨_,_,a,b,c,d⟩:=h3
  exact .ch e a b (fun q=>by rcases c with c|c;exact absurd q c;omega) (fun q=>by rcases d with d|d;exact absurd q d;omega)
 split at h3
 ·rename_i e
  simp only[zgx,zgI]at h3
  exact .nt e h3.2.2.1 h3.2.2.2
 ·cases h3
theorem zdq {n:Nat}{c:Scene}{s:z6}(hc:SceneOk n c)(h1:1<=n)(h2:n<=12)(c0:0<=s.2.2)(c4:s.2.2<=4)(c3:s.2.2=3->2<=n)(c2:s.2.2=2->n<=11):ChFit c.1 s.2.2:=
 ⟨hc.ok,by rw[hc.len];exact h1,by rw[hc.len];exact h2,c0,c4,fun e=>by rw[hc.len];exact c3 e,fun e=>by rw[hc.len];exact c2 e⟩
theorem fR {n:Nat}{c:Scene}{s:z6}(hc:SceneOk n c)(hs:zS (n:Int) s=true):∀d∈zw c s,SceneOk n d:=by
 obtain⟨h1,h2,hk⟩:=uD hs
 intro d hd
 unfold zw at hd
 rcases hk with⟨e,m⟩|⟨e,c0,c4,c3,c2⟩|⟨e,a0,an⟩
 ·rw[zgG e]at hd
  have hd:d=(xB c.1 s.2.1,c.2):=by simpa using hd
  subst hd
  have:=YO hc.ok (CJ (by rw[hc.len];exact m))
  exact⟨this.1,this.2.trans hc.len,hc.n0,hc.n12⟩
 ·rw[zgH (by omega),zgH (by omega)]at hd
  obtain⟨q,hq,rfl⟩:=zgY.1 hd
  have:=YO hc.ok (zam q ((jd _ q).1 hq))
  exact⟨this.1,this.2.trans hc.len,hc.n0,hc.n12⟩
 ·rw[zgH (by omega),zgG e]at hd
  have hd:d=(c.1,card (c.1.getD s.2.2.toNat 0)):=by simpa using hd
  subst hd
  have:=SD (c.1.getD s.2.2.toNat 0)
  exact⟨hc.ok,hc.len,this.1,by show card _<12;omega⟩
theorem zdA {p:List Int}{c:Int}(h:ChFit p c):x5 p c≠[]:=by
 have h1:=h.l1
 unfold x5
 split
 ·intro e;have:=congrArg List.length e;unfold VZ at this;rw[zgN,List.length_range,List.length_nil]at this;omega
 split
 ·intro e;have:=congrArg List.length e;simp[Ve]at this
 split
 ·intro e;have:=congrArg List.length e;unfold VZ at this;rw[zgN,List.length_range,List.length_nil,fD]at this;omega
 split
 ·intro e;have:=congrArg List.length e;unfold Ny at this;rw[zgN,List.length_range,List.length_nil]at this;omega
 ·simp
theorem YQ {n:Nat}{c:Scene}{s:z6}(hc:SceneOk n c)(hs:zS (n:Int) s=true):1<=(zw c s).length/\(zw c s).length<=4096:=by
 obtain⟨h1,h2,hk⟩:=uD hs
 unfold zw
 split
 ·simp
 split
 ·simp
 ·rename_i a b
  rcases hk with⟨e,m⟩|⟨e,c0,c4,c3,c2⟩|⟨e,a0,an⟩
  ·exact absurd e a
  ·have hf:=zdq hc h1 h2 c0 c4 c3 c2
   have hs:=(Xm (c:=s.2.2) hf.l12).1
   have:=Yl (x5 c.1 s.2.2)
   rw[zgN]
   refine⟨?_,by omega⟩
   rcases Nat.eq_zero_or_pos (setL (x5 c.1 s.2.2)).length with h0|h0
   ·exfalso
    have hne:=zdA hf
    cases hl:x5 c.1 s.2.2 with
    |nil=>exact hne hl
    |cons q r=>
     have:=(jd (x5 c.1 s.2.2) q).2 (by rw[hl];simp)
     rw[List.eq_nil_of_length_eq_zero h0]at this
     cases this
   ·exact h0
  ·exact absurd e b
theorem bL (p:List Int)(x:Int)(l:List (List Int))(hl:l.length<=16384):∀(r:List (List Int)) (i:Nat) (out:List Scene),l.drop i=r->out.length=i->
 Ev (fun k=>uz k (l.length:Int) (i:Int) p x out l i) (out++r.map fun q=>(q,x))
 | [],i,out,h,ho=>by
   have a:=zu h
   refine ES (fun k=>bM k ..) ?_
   simp only[a.g,zgK]
   exact EZ (by simp)
 |q::r,i,out,h,ho=>by
  have a:=zh h (by rw[zc];omega)
  have hlt:=a.lt
  refine ES (fun k=>bM k ..) ?_
  simp only[a.g,a.z,a.n,a.get,a.w,zgJ]
  refine EY (by simp) (EY (by rw[za];simp;omega) ?_)
  exact(bL p x l hl r (i+1) (out++[(q,x)]) a.next (by simp[ho])).to (by simp)
theorem Ww (p:List Int)(x:Int)(l:List (List Int))(hl:l.length<=16384):∀(r:List (List Int)) (i:Nat) (out:List Scene),l.drop i=r->out.length=i->
 Ev (fun k=>ae k (l.length:Int) (i:Int) p x out l) (out++r.map fun q=>(q,x))
 | [],i,out,h,ho=>by
   have a:=zu h
   refine ES (fun k=>Wx k ..) ?_
   simp only[a.g,zgK]
   exact EZ (by simp)
 |q::r,i,out,h,ho=>by
  have a:=zh h (by rw[zc];omega)
  have hlt:=a.lt
  refine ES (fun k=>Wx k ..) ?_
  simp only[a.g,a.z,a.n,a.get,a.w,zgJ]
  refine EY (by rw[za];simp;omega) ?_
  exact(Ww p x l hl r (i+1) (out++[(q,x)]) a.next (by simp[ho])).to (by simp)
theorem Nr {n:Nat}{c:Scene}{s:z6}(hc:SceneOk n c)(hs:zS (n:Int) s=true):Ev (fun k=>Rb k (c,s)) (zw c s):=by
 obtain⟨h1,h2,hk⟩:=uD hs
 have hi:=zR hc.ok
 have hln:=hc.len
 obtain⟨p,x⟩:=c
 refine ES (fun k=>Df k (p,x) s) ?_
 unfold zw
 rcases hk with⟨e,m⟩|⟨e,c0,c4,c3,c2⟩|⟨e,a0,an⟩
 ·rw[zgG e]
  exact EY (by simp[e]) (EB (Ui p s.2.1 (by rw[hln];exact m) hi) (EP _))
 ·rw[zgH (by omega),zgH (by omega)]
  have hf:=zdq hc h1 h2 c0 c4 c3 c2
  have hsm:(x5 p s.2.2).length<=4096/\∀q∈x5 p s.2.2,q.length<=12:=Xm (c:=s.2.2) hf.l12
  obtain⟨y,e1,e2,e3⟩:=zaW p s.2.2 hf hi
  have hy12:∀q∈y,q.length<=1048576:=fun q hq=>zg1 (hsm.2 q ((e3 q).1 hq)) (by decide)
  have es:setL y=setL (x5 p s.2.2):=zaR e3
  have hsl:=Yl (x5 p s.2.2)
  refine EN (by simp[e]) (EN (by simp[e]) (EB e1 (EB (fN _ y (zgC _) e2 hy12) ?_)))
  rw[es]
  exact Ww p x _ (by have:=hsm.1;show(setL (x5 p s.2.2)).length<=_;omega) _ 0 [] rfl rfl
 ·rw[zgH (by omega),zgG e]
  refine EN (by simp[e]) (EY (by simp[e]) (EY (by rw[za];simp;simp at hln;omega) (EY (by simpa using a0) (EY (by simp at hln;simp;omega) (EB (uJ _) (EZ ?_))))))
  simp
theorem Jn (c:Scene)(s:z6)(a:c.1.length<=maxLen)(hi:Ins c.1):
 Ev (fun k=>wG k (c,s)) (if zp c.1&&(decide (-1<=c.2/\c.2<12)&&zS (c.1.length:Int) s)then zw c s else []):=by
 obtain⟨p,x⟩:=c
 refine ES (fun k=>Jo k (p,x) s) (EB (xY p a hi) (EI (fun h=>EZ ?_) (fun h=>EI (fun h2=>EZ ?_) (fun h2=>EI (fun h3=>EZ ?_) (fun h3=>EB (So _ s) (EI (fun h4=>EZ ?_) (fun h4=> ?_)))))))
 ·have:zp p=false:=by simpa using h
  simp[this]
 ·have:¬-1<=x:=by simpa using h2
  simp[this]
 ·have:¬x<12:=by simpa using h3
  simp[this]
 ·have:zS (p.length:Int) s=false:=by simpa using h4
  simp[this]
 ·have e1:zp p=true:=by simpa using h
  have e2: -1<=x:=by have:¬x< -1:=by simpa using h2
                     omega
  have e3:x<12:=by simpa using h3
  have e4:zS (p.length:Int) s=true:=by simpa using h4
  have hc:SceneOk p.length (p,x):=⟨e1,rfl,e2,e3⟩
  rw[zgG (by simp[e1,e2,e3,e4])]
  obtain⟨h1,h2,hk⟩:=uD e4
  unfold zw
  rcases hk with⟨e,m⟩|⟨e,c0,c4,c3,c2⟩|⟨e,a0,an⟩
  ·rw[zgG e]
   exact EY (by simp[e]) (EB (ZV p s.2.1 m hi) (EP _))
  ·rw[zgH (by omega),zgH (by omega)]
   have hf:=zdq hc h1 h2 c0 c4 c3 c2
   have hsm:(x5 p s.2.2).length<=4096/\∀q∈x5 p s.2.2,q.length<=12:=Xm (c:=s.2.2) hf.l12
   have hsl:=Yl (x5 p s.2.2)
   have hok:chOk p s.2.2=true:=by
    unfold chOk
    have a3:¬(s.2.2=3/\p.length<2):=fun h=>by have:=c3 h.1;omega
    have a2:¬(s.2.2=2/\12<=p.length):=fun h=>by have:=c2 h.1;omega
    rw[e1,zgu ⟨c0,c4⟩]
    simp only[Bool.true_and,zgx,Bool.not_eq_true',Bool.and_eq_false_iff,decide_eq_false_iff_not,beq_eq_false_iff_ne]
    refine⟨by omega, ?_, ?_⟩
    ·by_cases q:s.2.2=3
     ·exact .inr fun h=>a3 ⟨q,h⟩
     ·exact .inl q
    ·by_cases q:s.2.2=2
     ·exact .inr fun h=>a2 ⟨q,h⟩
     ·exact .inl q
   have er:resOf p s.2.2=(setL (x5 p s.2.2),true):=by unfold resOf;rw[zgG hok]
   refine EN (by simp[e]) (EN (by simp[e]) (EB (HK p s.2.2 a hi) ?_))
   rw[er]
   exact bL p x _ (by have:=hsm.1;show(setL (x5 p s.2.2)).length<=_;omega) _ 0 [] rfl rfl
  ·rw[zgH (by omega),zgG e]
   refine EN (by simp[e]) (EY (by simp[e]) (EB (yz p (by omega)) (EY (by simpa using a0) (EY (by simpa using an) (EB (wa _ ?_) (EP _))))))
   have hlt:s.2.2.toNat<p.length:=by omega
   have:p.getD s.2.2.toNat 0=p[s.2.2.toNat]:=by simp[List.getD,hlt]
   rw[this]
   exact hi _ (zg2 hlt)
theorem jI {n:Nat}{c:Scene}{s:z6}(hc:SceneOk n c)(hs:zS (n:Int) s=true):Ev (fun k=>wG k (c,s)) (zw c s):=by
 obtain⟨h1,h2,hk⟩:=uD hs
 have:=Jn c s (by rw[hc.len,zc];omega) (zR hc.ok)
 rw[hc.len,hc.ok,hs,zgu ⟨hc.n0,hc.n12⟩]at this
 exact this
def xN (t:Trick):List Int×Int×Bool:=if zi t then(t.1,-1,true)else([],0,false)
theorem cx (t:Trick)(a1:t.1.length<=maxLen)(ai:Ins t.1)(a2:t.2.1.length<=maxLen):Ev (fun k=>uU k t) (xN t):=by
 refine ES (fun k=>Jf k t) (EB (xX t a1 ai a2) (EI (fun h=>EZ ?_) (fun h=> ?_)))
 ·have:zi t=false:=by simpa using h
  simp[xN,this]
 ·have e:zi t=true:=by simpa using h
  have hl:=zk e
  refine EB (yz t.1 (by omega)) ?_
  have:(!t.1.isEmpty)=true:=by
   cases hx:t.1 with
   |nil=>rw[hx]at hl;simp at hl
   |cons=>rfl
  rw[this]
  exact EZ (by simp[xN,e])
theorem WT (t:Trick)(a1:t.1.length<=maxLen)(a2:t.2.1.length<=maxLen):Ev (fun k=>am k t) (xN t):=by
 refine ES (fun k=>LS k t) (EB (wC t a1 a2) (EI (fun h=>EZ ?_) (fun h=> ?_)))
 ·have:zi t=false:=by simpa using h
  simp[xN,this]
 ·have e:zi t=true:=by simpa using h
  have hl:=zk e
  have:(!t.1.isEmpty)=true:=by
   cases hx:t.1 with
   |nil=>rw[hx]at hl;simp at hl
   |cons=>rfl
  refine EY (by rw[za];simp;omega) ?_
  rw[List.nil_append,this]
  exact EZ (by simp[xN,e])
theorem v6 (xs:List Step)(hm:xs.length<=12):∀(r:List Step) (i:Nat) (v:Nat),xs.drop i=r->v<=i->Ev (fun k=>wt k (v:Int) xs (xs.length:Int) (i:Int)) ((v:Int)+countK (·==2) r)
 | [],i,v,h,hv=>by
   have q:=zu h
   refine ES (fun k=>eG k ..) ?_
   simp only[q.g,zgK]
   exact EZ (by simp[countK])
 |s::r,i,v,h,hv=>by
  have q:=zh h (by rw[zc];omega)
  have:=q.lt
  refine ES (fun k=>eG k ..) ?_
  simp only[q.g,q.z,q.get,q.w,zgJ]
  rw[gq]
  refine EI (fun h=> ?_) (fun h=> ?_)
  ·rw[ze (by omega) (by omega)]
   refine(v6 xs hm r (i+1) (v+1) q.next (by omega)).to ?_
   rw[zgG h];omega
  ·refine(v6 xs hm r (i+1) v q.next (by omega)).to ?_
   rw[h];simp
theorem ub (xs:List Step)(hm:xs.length<=12):∀(r:List Step) (i:Nat) (v:Nat),xs.drop i=r->v<=i->Ev (fun k=>wz k (v:Int) xs (xs.length:Int) (i:Int)) ((v:Int)+countK (·==2) r)
 | [],i,v,h,hv=>by
   have q:=zu h
   refine ES (fun k=>eL k ..) ?_
   simp only[q.g,zgK]
   exact EZ (by simp[countK])
 |s::r,i,v,h,hv=>by
  have q:=zh h (by rw[zc];omega)
  have:=q.lt
  refine ES (fun k=>eL k ..) ?_
  simp only[q.g,q.z,q.get,q.w,zgJ]
  rw[gq]
  refine EI (fun h=> ?_) (fun h=> ?_)
  ·rw[ze (by omega) (by omega)]
   refine(ub xs hm r (i+1) (v+1) q.next (by omega)).to ?_
   rw[zgG h];omega
  ·refine(ub xs hm r (i+1) v q.next (by omega)).to ?_
   rw[h];simp
def xb (t:Trick):Int:=if zi t then(countK (·==2) t.2.1:Int)else-1
theorem Pk (t:Trick)(a1:t.1.length<=maxLen)(a2:t.2.1.length<=maxLen):Ev (fun k=>Zg k t) (xb t):=by
 refine ES (fun k=>Pl k t) (EB (wC t a1 a2) (EI (fun h=>EZ ?_) (fun h=> ?_)))
 ·have:zi t=false:=by simpa using h
  simp[xb,this]
 ·have e:zi t=true:=by simpa using h
  refine(v6 t.2.1 (zk e).1 t.2.1 0 0 rfl (by omega)).to ?_
  simp[xb,e]
theorem PP (t:Trick)(a1:t.1.length<=maxLen)(ai:Ins t.1)(a2:t.2.1.length<=maxLen):Ev (fun k=>Zp k t) (xb t):=by
 refine ES (fun k=>PQ k t) (EB (xX t a1 ai a2) (EI (fun h=>EZ ?_) (fun h=> ?_)))
 ·have:zi t=false:=by simpa using h
  simp[xb,this]
 ·have e:zi t=true:=by simpa using h
  refine(ub t.2.1 (zk e).1 t.2.1 0 0 rfl (by omega)).to ?_
  simp[xb,e]
def runL:List Step->Scene->List Int->List Int×Int×Bool
 | [],c,_=>(c.1,c.2,true)
 |s::r,c,ps=>
  let k:=if s.1=2 then ps.getD 0 0 else 0
  if 0<=k/\k<(zw c s).length then runL r ((zw c s).getD k.toNat ([],0)) (if s.1=2 then ps.drop 1 else ps)else([],0,false)
def xr (t:Trick)(ps:List Int):List Int×Int×Bool:=
 if zi t=true/\(ps.length:Int)=xb t then runL t.2.1 (t.1,-1) ps else([],0,false)
theorem zb5 {n:Int}{l:List Step}(h:jX n l=true):∀s∈l,zS n s=true:=fun s hs=>zgS.1 h s hs
theorem Qk {α:Type}{l:List α}{k:Int}{d:α}(h0:0<=k)(h1:k<l.length):l.getD k.toNat d∈l:=by
 have:k.toNat<l.length:=by omega
 rw[List.getD,zgD this]
 exact zg2 this
theorem XQ {n:Nat}(xs:List Step)(hm:xs.length<=12)(z:Int):∀(r:List Step) (i:Nat) (c:Scene) (ps:List Int),xs.drop i=r->(∀s∈r,zS (n:Int) s=true)->SceneOk n c->ps.length=countK (·==2) r->
 Ev (fun k=>jF k ps xs (xs.length:Int) (i:Int) z c.2 c.1) (runL r c ps)
 | [],i,c,ps,h,hs,hc,hp=>by
   have a:=zu h
   refine ES (fun k=>XR k ..) ?_
   simp only[a.g,zgK]
   exact EZ rfl
 |s::r,i,c,ps,h,hs,hc,hp=>by
  have a:=zh h (by rw[zc];omega)
  have hlt:=a.lt
  have hso:=hs s (by simp)
  have hn:=jI hc hso
  obtain⟨l1,l2⟩:=YQ hc hso
  have hok:=fR hc hso
  have ih:=fun(d:Scene) (hd:d∈zw c s) ps hps=>XQ xs hm z r (i+1) d ps a.next (fun q hq=>hs q (by simp[hq])) (hok d hd) hps
  rw[gq]at hp
  refine ES (fun k=>XR k ..) ?_
  simp only[a.g,a.z,a.get,a.w,zgJ]
  unfold runL
  refine EI (fun h2=> ?_) (fun h2=> ?_)
  ·have e2:s.1=2:=by simpa using h2
   rw[zgG (by simp[e2])]at hp
   have hp1:1<=ps.length:=by omega
   have et:(ps.take ((ps.length:Int)).toNat).drop 1=ps.drop 1:=by simp
   simp only[zgG e2,et]
   refine EY (by simp;omega) (EY (by simp;omega) (EY (by simp) (EB hn (EI (fun h3=>EZ ?_) (fun h3=>EI (fun h4=>EZ ?_) (fun h4=> ?_))))))
   ·rw[zgH (by have:ps.getD 0 0<0:=by simpa using h3
               omega)]
   ·rw[zgH (by have:ps.getD 0 0>=((zw c s).length:Int):=by simpa using h4
               omega)]
   ·have g3:¬ps.getD 0 0<0:=by simpa using h3
    have g4:¬ps.getD 0 0>=((zw c s).length:Int):=by simpa using h4
    rw[zgG (by omega)]
    refine EY (zgu (by omega)) (EY (zgu (by omega)) (EY (zgu (by omega)) ?_))
    exact ih _ (Qk (by omega) (by omega)) _ (by simp;omega)
  ·have e2:¬s.1=2:=by simpa using h2
   rw[zgH (by simpa using e2)]at hp
   simp only[zgH e2]
   refine EB hn (EN (zgv (by omega)) (EY (zgu (by omega)) (EY (zgu (by omega)) ?_)))
   rw[zgG (by omega)]
   exact ih _ (Qk (k:=0) (by omega) (by omega)) _ (by omega)
theorem Xx {n:Nat}(xs:List Step)(hm:xs.length<=12)(z:Int)(ps:List Int)(hp12:ps.length<=12):∀(r:List Step) (i:Nat) (c:Scene) (j:Nat),xs.drop i=r->(∀s∈r,zS (n:Int) s=true)->SceneOk n c->ps.length=j+countK (·==2) r->
 Ev (fun k=>jj k ps (j:Int) xs (xs.length:Int) (i:Int) z c.1 c.2) (runL r c (ps.drop j))
 | [],i,c,j,h,hs,hc,hp=>by
   have a:=zu h
   refine ES (fun k=>Xy k ..) ?_
   simp only[a.g,zgK]
   exact EZ rfl
 |s::r,i,c,j,h,hs,hc,hp=>by
  have a:=zh h (by rw[zc];omega)
  have hlt:=a.lt
  have hso:=hs s (by simp)
  have hn:=Nr hc hso
  obtain⟨l1,l2⟩:=YQ hc hso
  have hok:=fR hc hso
  have ih:=fun(d:Scene) (hd:d∈zw c s) j hps=>Xx xs hm z ps hp12 r (i+1) d j a.next (fun q hq=>hs q (by simp[hq])) (hok d hd) hps
  rw[gq]at hp
  have ew:IntKind.i64.wrap (((zw c s).length:Int)-1)=((zw c s).length:Int)-1:=ze (by omega) (by omega)
  refine ES (fun k=>Xy k ..) ?_
  simp only[a.g,a.z,a.get,a.w,zgJ]
  unfold runL
  refine EB hn (EI (fun h2=> ?_) (fun h2=> ?_))
  ·have e2:s.1=2:=by simpa using h2
   rw[zgG (by simp[e2])]at hp
   have hj:j<ps.length:=by omega
   have ej:(ps.drop j).getD 0 0=ps.getD (j:Int).toNat 0:=by simp[List.getD]
   have ejw:IntKind.i64.wrap ((j:Int)+1)=((j+1:Nat):Int):=by rw[ze (by omega) (by omega)];omega
   simp only[zgG e2,ej,ew,ejw]
   refine EY (by simp) (EY (by simp;omega) (EB (z8 _ _ _) (EI (fun h3=>EZ ?_) (fun h3=> ?_))))
   ·have g3:¬(0<=ps.getD (j:Int).toNat 0/\ps.getD (j:Int).toNat 0<=((zw c s).length:Int)-1):=by
     intro h;rw[zgu h.1,zgu h.2]at h3;cases h3
    rw[zgH (by omega)]
   ·have g3:0<=ps.getD (j:Int).toNat 0/\ps.getD (j:Int).toNat 0<=((zw c s).length:Int)-1:=by simpa using h3
    rw[zgG (by omega)]
    refine EY (zgu (by omega)) (EY (zgu (by omega)) (EY (zgu (by omega)) ?_))
    refine(ih _ (Qk (by omega) (by omega)) (j+1) (by omega)).to ?_
    rw[List.drop_drop]
  ·have e2:¬s.1=2:=by simpa using h2
   rw[zgH (by simpa using e2)]at hp
   simp only[zgH e2,ew]
   refine EB (z8 _ _ _) (EN (by rw[Bool.not_eq_false',zgx];exact⟨zgu (by omega),zgu (by omega)⟩) (EY (zgu (by omega)) (EY (zgu (by omega)) ?_)))
   rw[zgG (by omega)]
   exact ih _ (Qk (k:=0) (by omega) (by omega)) j (by omega)
theorem SL {t:Trick}(h:zi t=true):SceneOk t.1.length (t.1,-1)/\(∀s∈t.2.1,zS (t.1.length:Int) s=true):=by
 refine⟨⟨(zk h).2.2.2,rfl,by show(-1:Int)<=-1;decide,by show(-1:Int)<12;decide⟩, ?_⟩
 unfold zi at h
 simp only[zgx]at h
 exact zb5 h.2.2.2.1
theorem F6 (t:Trick)(ps:List Int)(a1:t.1.length<=maxLen)(ai:Ins t.1)(a2:t.2.1.length<=maxLen)(a3:ps.length<=1048576):Ev (fun k=>PJ k (t,ps)) (xr t ps):=by
 refine ES (fun k=>F7 k t ps) (EB (cx t a1 ai a2) ?_)
 unfold xr xN
 by_cases e:zi t=true
 ·rw[zgG e]
  refine EN rfl (EB (PP t a1 ai a2) (EI (fun h=>EZ ?_) (fun h=> ?_)))
  ·rw[zgH (fun hc=>by rw[hc.2]at h;simp at h)]
  ·have hl:(ps.length:Int)=xb t:=by simpa using h
   rw[zgG ⟨e,hl⟩]
   have hl2:ps.length=countK (·==2) t.2.1:=by unfold xb at hl;rw[zgG e]at hl;omega
   obtain⟨s1,s2⟩:=SL e
   exact XQ t.2.1 (zk e).1 0 t.2.1 0 (t.1,-1) ps rfl s2 s1 hl2
 ·rw[zgH e,zgH (fun hc=>e hc.1)]
  exact EY rfl (EP _)
theorem Fp (t:Trick)(ps:List Int)(a1:t.1.length<=maxLen)(a2:t.2.1.length<=maxLen)(a3:ps.length<=1048576):Ev (fun k=>Pa k (t,ps)) (xr t ps):=by
 refine ES (fun k=>Fq k t ps) (EB (WT t a1 a2) ?_)
 unfold xr xN
 by_cases e:zi t=true
 ·rw[zgG e]
  refine EN rfl (EB (Pk t a1 a2) (EI (fun h=>EZ ?_) (fun h=> ?_)))
  ·rw[zgH (fun hc=>by rw[hc.2]at h;simp at h)]
  ·have hl:(ps.length:Int)=xb t:=by simpa using h
   rw[zgG ⟨e,hl⟩]
   have hl2:ps.length=countK (·==2) t.2.1:=by unfold xb at hl;rw[zgG e]at hl;omega
   have hle:=zdl (·==2) t.2.1
   have h12:=(zk e).1
   obtain⟨s1,s2⟩:=SL e
   exact Xx t.2.1 (zk e).1 0 ps (by omega) t.2.1 0 (t.1,-1) 0 rfl s2 s1 (by omega)
 ·rw[zgH e,zgH (fun hc=>e hc.1)]
  exact EY rfl (EP _)
def gW (c:Scene):ByteArray:=if zp c.1 then(if 0<=c.2/\c.2<=11 then(zG c.1++T8)++yk c.2 else zG c.1)else T0
theorem zeo (n:Int):1<=(Lib.itoa n).length:=by
 have h:∀u:Nat,1<=(Lib.decDigits u).length:=by
  intro u
  by_cases h:u<10
  ·rw[um h];simp
  ·rw[Xi h];simp
 unfold Lib.itoa
 split
 ·simp
 ·exact h _
theorem zeM (x:Int):1<=(fI x).size:=by
 have:=zeo (card x)
 unfold fI
 split
 ·rw[zg4,yk,zj];omega
 ·rw[yk,zj];exact this
theorem JF {p:List Int}(h:zp p=true):1<=(zG p).size:=by
 unfold zG
 rw[zgG h]
 cases p with
 |nil=>rw[zgG rfl];decide
 |cons x r=>
  rw[zgH (by simp),xe,zj,Mu,List.map_cons,List.map_cons,Lib.join_cons,zgA,xm]
  have:=zeM x
  omega
theorem Zb (c:Scene)(b1:c.1.length<=maxLen):Ev (fun k=>cT k c) (gW c):=by
 unfold gW
 refine ES (fun k=>Ho k c) (EB (eW c.1 b1) (EI (fun h=>EZ ?_) (fun h=> ?_)))
 ·have:zp c.1=false:=by simpa using h
  rw[this];rfl
 ·have e:zp c.1=true:=by simpa using h
  rw[zgG e]
  have sp:=xF c.1
  refine EB (ga c.1 b1) (EB (z8 _ _ _) (EI (fun h=> ?_) (fun h=>EZ ?_)))
  ·have hc:0<=c.2/\c.2<=11:=by simpa using h
   rw[zgG hc]
   have hin:In c.2:=by unfold In;omega
   exact EY (vq sp (n:=7) (by decide) (by decide)) (EB (zY _ hin) (EY (vq (xn sp (n:=7) (by decide)) (zN _ hin) (by decide)) (EP _)))
  ·rw[zgH (by simp at h;omega)]
theorem Tq (c:Scene)(b1:c.1.length<=maxLen)(bi:Ins c.1):Ev (fun k=>Y4 k c) (gW c):=by
 unfold gW
 have sp:=xF c.1
 refine ES (fun k=>HJ k c) (EB (Z1 c.1 b1 bi) (EI (fun h=> ?_) (fun h=>EZ ?_)))
 ·have e:zp c.1=true:=by
   cases hp:zp c.1 with
   |true=>rfl
   |false=>
    unfold zG at h
    rw[hp]at h
    simp at h
  rw[zgG e]
  refine EI (fun h1=>EI (fun h2=> ?_) (fun h2=>EZ ?_)) (fun h1=>EZ ?_)
  ·have hc:0<=c.2/\c.2<=11:=by simp at h1 h2;omega
   rw[zgG hc]
   have hin:In c.2:=by unfold In;omega
   have s1:=zN _ hin
   refine EB (yf _ hin) (EY (vq (m:=7) (by decide) s1 (by decide)) (EY (vq sp (xn (m:=7) (by decide) s1) (by decide)) (EZ ?_)))
   rw[ByteArray.append_assoc]
  ·rw[zgH (by simp at h1 h2;omega)]
  ·rw[zgH (by simp at h1;omega)]
 ·cases hp:zp c.1 with
  |true=>
   have h1:=JF hp
   have h2:(zG c.1).toList=T0.toList:=by simpa using h
   rw[ByteArray.toList_eq,ByteArray.toList_eq]at h2
   have h3:(zx (zG c.1)).length=0:=by unfold zx;rw[h2];rfl
   rw[xm]at h3
   omega
  |false=>
   unfold zG
   rw[hp];rfl
def vo (a:List Int):Bool:=decide (a.length<=12)&&bq a.length [] a
theorem Bf {xs:List Int}{i:Nat}{x:Int}{r:List Int}(a:AtCons xs i x r):xs.take (i+1)=xs.take i++[x]:=by
 have hlt:=a.lt
 have e:xs[i]=x:=by have:=a.get 0;rw[zgy,List.getD,zgD hlt]at this;exact this
 rw[List.take_succ_eq_append_getElem hlt,e]
theorem UZ (xs:List Int)(hm:xs.length<=12):∀(r:List Int) (i:Nat),xs.drop i=r->Ev (fun k=>YA k xs xs (xs.length:Int) (i:Int)) (bq xs.length (xs.take i) r)
 | [],i,h=>by
   have a:=zu h
   refine ES (fun k=>U0 k ..) ?_
   simp only[a.g,zgK]
   exact EP _
 |x::r,i,h=>by
  have a:=zh h (by rw[zc];omega)
  have hlt:=a.lt
  have ih:=UZ xs hm r (i+1) a.next
  rw[Bf a]at ih
  refine ES (fun k=>U0 k ..) ?_
  simp only[a.g,a.z,a.get,a.w,zgJ]
  rw[ze (x:=(xs.length:Int)-1) (by omega) (by omega)]
  unfold bq
  refine EB (z8 _ _ _) (EI (fun h=>EZ ?_) (fun h=> ?_))
  ·rcases Int.lt_or_le x 0 with h1|h1
   ·have:¬0<=x:=by omega
    simp[this]
   ·have:¬x<(xs.length:Int):=by simp at h;omega
    simp[this]
  ·have hx:0<=x/\x<=(xs.length:Int)-1:=by simpa using h
   refine EY (by simp;omega) ?_
   rw[List.drop_zero,zgy]
   have e1:decide (0<=x)=true:=by simp[hx.1]
   have e2:decide (x<(xs.length:Int))=true:=by simp;omega
   rw[e1,e2]
   refine EB (Vl _ x (by rw[zc,zgL];omega)) (EI (fun h=>EZ ?_) (fun h=>ih.to ?_))
   ·rw[h];rfl
   ·rw[h];rfl
theorem LY (a:List Int)(hm:a.length<=maxLen):Ev (fun k=>MR k a) (vo a):=by
 unfold vo
 refine ES (fun k=>Br k a) (EI (fun h=>EZ ?_) (fun h=> ?_))
 ·have:¬a.length<=12:=by simp at h;omega
  simp[this]
 ·have:a.length<=12:=by simp at h;omega
  rw[zgu this]
  exact UZ a this a 0 rfl
theorem Ts (xs:List Int)(hm:xs.length<=maxLen):∀(r:List Int) (i:Nat),xs.drop i=r->Ev (fun k=>Y6 k xs xs (xs.length:Int) (i:Int)) (decide (xs.length<=12)&&bq xs.length (xs.take i) r)
 | [],i,h=>by
   have a:=zu h
   refine ES (fun k=>Tt k ..) ?_
   simp only[a.g,zgK]
   exact EZ (by unfold bq;rw[Bool.and_true,Bool.eq_iff_iff];simp;omega)
 |x::r,i,h=>by
  have a:=zh h hm
  have hlt:=a.lt
  have ih:=Ts xs hm r (i+1) a.next
  rw[Bf a]at ih
  refine ES (fun k=>Tt k ..) ?_
  simp only[a.g,a.z,a.get,a.w,zgJ]
  unfold bq
  refine EI (fun h=>EZ ?_) (fun h=>EI (fun h2=>EZ ?_) (fun h2=> ?_))
  ·have:¬0<=x:=by simp at h;omega
   simp[this]
  ·have:¬x<(xs.length:Int):=by simp at h2;omega
   simp[this]
  ·have hx:0<=x/\x<(xs.length:Int):=by simp at h h2;omega
   refine EY (by simp;omega) ?_
   rw[List.drop_zero,zgy]
   have e1:decide (0<=x)=true:=by simp[hx.1]
   have e2:decide (x<(xs.length:Int))=true:=by simp[hx.2]
   rw[e1,e2]
   refine EB (V6 _ x (zg1 (by rw[zgL];omega) hm)) (EI (fun h=>EZ ?_) (fun h=>ih.to ?_))
   ·rw[h];simp
   ·rw[h];rfl
theorem Jk (a:List Int)(hm:a.length<=maxLen):Ev (fun k=>M4 k a) (vo a):=
 ES (fun k=>BR k a) (Ts a hm a 0 rfl)
theorem jw {a:List Int}(h:vo a=true):a.length<=12/\a.Nodup/\(∀x∈a,0<=x/\x<(a.length:Int)):=by
 unfold vo at h
 rw[zgx,zgI]at h
 obtain⟨k1,k2⟩:=Sf a.length a [] List.nodup_nil h.2
 exact⟨h.1,by simpa using k1,k2⟩
def cycF (a:List Int):Nat->Nat->List Bool->List Int->List Bool×List Int
 |0,_,met,c=>(met,c)
 |f+1,x,met,c=>if met.getD x false=true then(met,c)else cycF a f (a.getD x 0).toNat (met.set x true) (c++[(x:Int)])
def outF (a:List Int):Nat->Nat->List (List Int)->List Bool->List (List Int)
 |0,_,out,_=>out
 |d+1,i,out,met=>if met.getD i false=true then outF a d (i+1) out met else outF a d (i+1) (out++[(cycF a a.length i met []).2]) (cycF a a.length i met []).1
theorem CP {a:List Int}{f x:Nat}{met:List Bool}{c:List Int}(hm:met.getD x false=true):cycF a f x met c=(met,c):=by
 cases f with
 |zero=>rfl
 |succ f=>show(if met.getD x false=true then _ else _)=_;rw[zgG hm]
theorem zdh {a:List Int}{f x:Nat}{met:List Bool}{c:List Int}(hm:met.getD x false=false):cycF a (f+1) x met c=cycF a f (a.getD x 0).toNat (met.set x true) (c++[(x:Int)]):=by
 show(if met.getD x false=true then _ else _)=_
 rw[hm];rfl
theorem zcu {a:List Int}{d i:Nat}{out:List (List Int)}{met:List Bool}(hm:met.getD i false=true):outF a (d+1) i out met=outF a d (i+1) out met:=by
 show(if met.getD i false=true then _ else _)=_
 rw[zgG hm]
theorem AO {a:List Int}{d i:Nat}{out:List (List Int)}{met:List Bool}(hm:met.getD i false=false):outF a (d+1) i out met=outF a d (i+1) (out++[(cycF a a.length i met []).2]) (cycF a a.length i met []).1:=by
 show(if met.getD i false=true then _ else _)=_
 rw[hm];rfl
def jU (a:List Int):List (List Int):=if vo a then outF a a.length 0 [] (List.replicate a.length false)else []
theorem Le:∀(met:List Bool) (x:Nat),x<met.length->met.getD x false=false->(met.set x true).countP (fun b=> !b)+1=met.countP (fun b=> !b)
 | [],x,h,_=>by simp at h
 |b::r,0,h,e=>by
  have:b=false:=by simpa using e
  subst this
  simp[List.countP_cons]
 |b::r,x+1,h,e=>by
  have:=Le r x (by simpa using h) (by simpa using e)
  rw[List.set_cons_succ,List.countP_cons,List.countP_cons]
  omega
theorem H4 {met:List Bool}{x:Nat}(h:met.countP (fun b=> !b)=0)(hx:x<met.length):met.getD x false=true:=by
 rw[List.countP_eq_zero]at h
 have:=h met[x] (zg2 hx)
 rw[List.getD,zgD hx]
 simpa using this
structure CycFit (a:List Int)(n:Nat)(p:List Bool×List Int):Prop where
 len:p.1.length=a.length
 clen:p.2.length<=n
 ins:Ins p.2
theorem UD {a:List Int}(h:vo a=true):∀(f x:Nat) (met:List Bool) (c:List Int),met.length=a.length->x<a.length->Ins c->CycFit a (c.length+f) (cycF a f x met c)/\c.length<=(cycF a f x met c).2.length
 |0,x,met,c,hl,hx,hc=>⟨⟨hl,zgC _,hc⟩,zgC _⟩
 |f+1,x,met,c,hl,hx,hc=>by
  obtain⟨h1,_,h3⟩:=jw h
  unfold cycF
  split
  ·exact⟨⟨hl,by show c.length<=_;omega,hc⟩,zgC _⟩
  ·have hax:0<=a.getD x 0/\a.getD x 0<(a.length:Int):=by
    rw[List.getD,zgD hx];exact h3 _ (zg2 hx)
   obtain⟨⟨k1,k2,k3⟩,k4⟩:=UD h f (a.getD x 0).toNat (met.set x true) (c++[(x:Int)]) (by rw[List.length_set];exact hl) (by omega) (fun y hy=>by
    rcases zgz.1 hy with hy|hy
    ·exact hc y hy
    ·simp at hy;subst hy;unfold In;omega)
   rw[zgA,List.length_singleton]at k2 k4
   exact⟨⟨k1,by omega,k3⟩,by omega⟩
theorem zdg {a:List Int}(h:vo a=true){i:Nat}{met:List Bool}(hl:met.length=a.length)(hi:i<a.length)(hm:¬met.getD i false=true):1<=(cycF a a.length i met []).2.length:=by
 obtain⟨h1,_,h3⟩:=jw h
 obtain⟨n,hn⟩:∃n,a.length=n+1:=⟨a.length-1,by omega⟩
 rw[hn]
 unfold cycF
 rw[zgH hm]
 have hax:0<=a.getD i 0/\a.getD i 0<(a.length:Int):=by
  rw[List.getD,zgD hi];exact h3 _ (zg2 hi)
 have:=(UD h n (a.getD i 0).toNat (met.set i true) ([]++[(i:Int)]) (by rw[List.length_set];exact hl) (by omega) (fun y hy=>by simp at hy;subst hy;unfold In;omega)).2
 simpa using this
theorem zd0 {a:List Int}(h:vo a=true)(y:List (List Int))(i:Nat)(out:List (List Int))(ho:out.length<=12):∀(f x:Nat) (met:List Bool) (c:List Int),met.length=a.length->x<a.length->met.countP (fun b=> !b)<=f->c.length<=1000->
 Ev (fun k=>vS k a (a.length:Int) ((i+1:Nat):Int) (out++[(cycF a f x met c).2]) (cycF a f x met c).1) y->i<a.length->c.length+f<=1000->
 Ev (fun k=>gI k a (x:Int) (a.length:Int) (i:Int) out met c) y:=by
 obtain⟨h1,_,h3⟩:=jw h
 intro f
 induction f with
 |zero=>
  intro x met c hl hx hu hc hy hi hcf
  have hm:=H4 (met:=met) (x:=x) (by omega) (by omega)
  refine ES (fun k=>ZI k ..) ?_
  rw[zgy,hm,ze (x:=(i:Int)+1) (by omega) (by omega)]
  refine EY (by simp) (EY (by rw[hl];simp;omega) (EY (by rw[hl];simp;omega) (EN rfl (EY (by rw[za];simp;omega) ?_))))
  exact_mod_cast hy
 |succ f ih=>
  intro x met c hl hx hu hc hy hi hcf
  have hax:0<=a.getD x 0/\a.getD x 0<(a.length:Int):=by
   rw[List.getD,zgD hx];exact h3 _ (zg2 hx)
  refine ES (fun k=>ZI k ..) ?_
  rw[zgy,ze (x:=(i:Int)+1) (by omega) (by omega)]
  refine EY (by simp) (EY (by rw[hl];simp;omega) (EY (by rw[hl];simp;omega) ?_))
  unfold cycF at hy
  cases hm:met.getD x false with
  |true=>
   rw[hm,zgG rfl]at hy
   refine EN rfl (EY (by rw[za];simp;omega) ?_)
   exact_mod_cast hy
  |false=>
   rw[hm,zgH (by simp)]at hy
   refine EY rfl (EY (by simp) (EY (by rw[hl];simp;omega) (EY (by rw[hl];simp;omega) (EY (by rw[za];simp;omega) (EY (by simp) (EY (by simp;omega) ?_))))))
   have hu' :=Le met x (by omega) hm
   have:=ih (a.getD x 0).toNat (met.set x true) (c++[(x:Int)]) (by rw[List.length_set];exact hl) (by omega) (by omega) (by simp;omega) hy hi (by simp;omega)
   have e:(((a.getD x 0).toNat:Nat):Int)=a.getD x 0:=by omega
   rw[e]at this
   exact this
theorem zeq {a:List Int}(h:vo a=true)(y:List (List Int))(i:Nat)(out:List (List Int))(ho:out.length<=12):∀(f x:Nat) (met:List Bool) (c:List Int),met.length=a.length->x<a.length->met.countP (fun b=> !b)<=f->c.length<=1000->
 Ev (fun k=>wQ k a (a.length:Int) ((i+1:Nat):Int) (if(cycF a f x met c).2=[]then out else out++[(cycF a f x met c).2]) (cycF a f x met c).1) y->i<a.length->c.length+f<=1000->
 Ev (fun k=>uk k a (x:Int) (a.length:Int) (i:Int) out met c) y:=by
 obtain⟨h1,_,h3⟩:=jw h
 intro f
 have fin:∀(x:Nat) (met:List Bool) (c:List Int),met.length=a.length->x<a.length->met.getD x false=true->
  Ev (fun k=>wQ k a (a.length:Int) ((i+1:Nat):Int) (if c=[]then out else out++[c]) met) y->i<a.length->Ev (fun k=>uk k a (x:Int) (a.length:Int) (i:Int) out met c) y:=by
  intro x met c hl hx hm hy hi
  refine ES (fun k=>Z2 k ..) ?_
  rw[zgy,hm,ze (x:=(i:Int)+1) (by omega) (by omega)]
  refine EY (by simp) (EY (by rw[hl];simp;omega) (EY (by rw[hl];simp;omega) (EN rfl ?_)))
  cases c with
  |nil=>
   rw[zgG rfl]at hy
   exact EN rfl (by exact_mod_cast hy)
  |cons z r=>
   rw[zgH (by simp)]at hy
   exact EY rfl (EY (by rw[za];simp;omega) (by exact_mod_cast hy))
 induction f with
 |zero=>
  intro x met c hl hx hu hc hy hi hcf
  exact fin x met c hl hx (H4 (met:=met) (x:=x) (by omega) (by omega)) hy hi
 |succ f ih=>
  intro x met c hl hx hu hc hy hi hcf
  have hax:0<=a.getD x 0/\a.getD x 0<(a.length:Int):=by
   rw[List.getD,zgD hx];exact h3 _ (zg2 hx)
  cases hm:met.getD x false with
  |true=>
   rw[CP hm]at hy
   exact fin x met c hl hx hm hy hi
  |false=>
   rw[zdh hm]at hy
   refine ES (fun k=>Z2 k ..) ?_
   rw[zgy,hm]
   refine EY (by simp) (EY (by rw[hl];simp;omega) (EY (by rw[hl];simp;omega) ?_))
   refine EY rfl (EY (by simp) (EY (by rw[hl];simp;omega) (EY (by rw[hl];simp;omega) (EY (by rw[za];simp;omega) (EY (by simp) (EY (by simp;omega) ?_))))))
   have hu' :=Le met x (by omega) hm
   have:=ih (a.getD x 0).toNat (met.set x true) (c++[(x:Int)]) (by rw[List.length_set];exact hl) (by omega) (by omega) (by simp;omega) hy hi (by simp;omega)
   have e:(((a.getD x 0).toNat:Nat):Int)=a.getD x 0:=by omega
   rw[e]at this
   exact this
theorem G8 {a:List Int}(h:vo a=true):∀(d i:Nat) (out:List (List Int)) (met:List Bool),i+d=a.length->out.length<=i->met.length=a.length->Ev (fun k=>vS k a (a.length:Int) (i:Int) out met) (outF a d i out met)
 |0,i,out,met,hd,ho,hl=>by
  refine ES (fun k=>XI k ..) ?_
  rw[JY (by omega)]
  exact EP _
 |d+1,i,out,met,hd,ho,hl=>by
  obtain⟨h1,_,h3⟩:=jw h
  have u:=Ag (n:=(a.length:Int)) (i:=i) (by omega) (by omega)
  refine ES (fun k=>XI k ..) ?_
  simp only[u.g,u.z,u.w,zgJ]
  rw[zgy]
  unfold outF
  refine EY (by rw[hl];simp;omega) (EY (by rw[hl];simp;omega) (EI (fun hm=> ?_) (fun hm=> ?_)))
  ·rw[zgG hm]
   exact G8 h d (i+1) out met (by omega) (by omega) hl
  ·have hm' :¬met.getD i false=true:=by rw[hm];simp
   rw[zgH hm']
   obtain⟨⟨k1,k2,k3⟩,_⟩:=UD h a.length i met [] hl (by omega) (fun x hx=>by cases hx)
   exact zd0 h _ i out (by omega) a.length i met [] hl (by omega) (by rw[<-hl];exact List.countP_le_length) (by simp) (G8 h d (i+1) _ _ (by omega) (by simp;omega) k1) (by omega) (by simp;omega)
theorem FX {a:List Int}(h:vo a=true):∀(d i:Nat) (out:List (List Int)) (met:List Bool),i+d=a.length->out.length<=i->met.length=a.length->Ev (fun k=>wQ k a (a.length:Int) (i:Int) out met) (outF a d i out met)
 |0,i,out,met,hd,ho,hl=>by
  refine ES (fun k=>XZ k ..) ?_
  rw[JY (by omega)]
  exact EP _
 |d+1,i,out,met,hd,ho,hl=>by
  obtain⟨h1,_,h3⟩:=jw h
  have u:=Ag (n:=(a.length:Int)) (i:=i) (by omega) (by omega)
  refine ES (fun k=>XZ k ..) (EY u.g ?_)
  obtain⟨⟨k1,k2,k3⟩,_⟩:=UD h a.length i met [] hl (by omega) (fun x hx=>by cases hx)
  refine zeq h _ i out (by omega) a.length i met [] hl (by omega) (by rw[<-hl];exact List.countP_le_length) (by simp) ?_ (by omega) (by simp;omega)
  cases hm:met.getD i false with
  |true=>
   rw[CP hm,zcu hm,zgG rfl]
   exact FX h d (i+1) out met (by omega) (by omega) hl
  |false=>
   have hf:=zdg h hl (by omega:i<a.length) (by rw[hm];exact Bool.false_ne_true)
   have hne:¬(cycF a a.length i met []).2=[]:=by intro e;rw[e]at hf;simp at hf
   rw[AO hm,zgH hne]
   exact FX h d (i+1) _ _ (by omega) (by simp;omega) k1
theorem FC (a:List Int)(hm:a.length<=maxLen):Ev (fun k=>Pj k a) (jU a):=by
 unfold jU
 refine ES (fun k=>FD k a) (EB (LY a hm) (EI (fun h=>EZ ?_) (fun h=> ?_)))
 ·have:vo a=false:=by simpa using h
  rw[this];rfl
 ·have e:vo a=true:=by simpa using h
  have h1:=(jw e).1
  rw[zgG e]
  refine EY (by simp) (EY (by rw[za];simp;omega) (EY (by simp) ?_))
  rw[zgy]
  exact G8 e a.length 0 [] _ (by omega) (by simp) (by simp)
theorem Ee (a:List Int)(hm:a.length<=maxLen):Ev (fun k=>PO k a) (jU a):=by
 unfold jU
 refine ES (fun k=>Ef k a) (EB (Jk a hm) (EI (fun h=>EZ ?_) (fun h=> ?_)))
 ·have:vo a=false:=by simpa using h
  rw[this];rfl
 ·have e:vo a=true:=by simpa using h
  have h1:=(jw e).1
  rw[zgG e]
  refine EY (by simp) (EY (by rw[za];simp;omega) (EY (by simp) ?_))
  rw[zgy]
  exact FX e a.length 0 [] _ (by omega) (by simp) (by simp)
theorem MY {a:List Int}(h:vo a=true):∀(d i:Nat) (out:List (List Int)) (met:List Bool),i+d=a.length->out.length<=i->met.length=a.length->(∀c∈out,c.length<=12/\Ins c)->
 (outF a d i out met).length<=a.length/\out.length<=(outF a d i out met).length/\∀c∈outF a d i out met,c.length<=12/\Ins c
 |0,i,out,met,hd,ho,hl,hg=>⟨by show out.length<=_;omega,zgC _,hg⟩
 |d+1,i,out,met,hd,ho,hl,hg=>by
  obtain⟨h1,_,h3⟩:=jw h
  unfold outF
  split
  ·exact MY h d (i+1) out met (by omega) (by omega) hl hg
  ·obtain⟨⟨k1,k2,k3⟩,_⟩:=UD h a.length i met [] hl (by omega) (fun x hx=>by cases hx)
   obtain⟨q1,q2,q3⟩:=MY h d (i+1) (out++[(cycF a a.length i met []).2]) _ (by omega) (by simp;omega) k1 (fun c hc=>by
    rcases zgz.1 hc with hc|hc
    ·exact hg c hc
    ·simp at hc;subst hc;exact⟨by simp at k2;omega,k3⟩)
   rw[zgA,List.length_singleton]at q2
   exact⟨q1,by omega,q3⟩
theorem P3 (a:List Int):(jU a).length<=12/\∀c∈jU a,c.length<=12/\Ins c:=by
 unfold jU
 split
 ·rename_i h
  have h1:=(jw h).1
  obtain⟨q1,_,q3⟩:=MY h a.length 0 [] (List.replicate a.length false) (by omega) (by simp) (by simp) (fun c hc=>by cases hc)
  exact⟨by omega,q3⟩
 ·exact⟨by simp,fun c hc=>by cases hc⟩
theorem zde {a:List Int}(h:vo a=true)(hn:1<=a.length):1<=(jU a).length:=by
 unfold jU
 rw[zgG h]
 obtain⟨n,hn'⟩:∃n,a.length=n+1:=⟨a.length-1,by omega⟩
 have hm0:(List.replicate a.length false).getD 0 false=false:=by rw[hn'];rfl
 have hu:outF a a.length 0 [] (List.replicate a.length false)=outF a n 1 ([]++[(cycF a a.length 0 (List.replicate a.length false) []).2]) (cycF a a.length 0 (List.replicate a.length false) []).1:=
  (congrArg (fun d=>outF a d 0 [] (List.replicate a.length false)) hn').trans (AO hm0)
 rw[hu]
 obtain⟨⟨k1,k2,k3⟩,_⟩:=UD h a.length 0 (List.replicate a.length false) [] (by simp) (by omega) (fun x hx=>by cases hx)
 have h1:=(jw h).1
 have:=(MY h n 1 ([]++[(cycF a a.length 0 (List.replicate a.length false) []).2]) _ (by omega) (by simp) k1 (fun c hc=>by
  simp at hc;subst hc;exact⟨by simp at k2;omega,k3⟩)).2.1
 simpa using this
def cycB (c:List Int):ByteArray:=(T22++xe (c.map yk) T4)++T35
def Sg:List (List Int)->ByteArray->ByteArray
 | [],acc=>acc
 |c::r,acc=>Sg r (acc++cycB c)
theorem Pv {c:List Int}(h:c.length<=12/\Ins c):(xe (c.map yk) T4).size<=264:=by
 have:=Uq (B:=21) (S:=1) T4 (by decide) (c.map yk) (x9 h.2)
 rw[zgN]at this
 rw[xe,zj]
 omega
theorem JP {c:List Int}(h:c.length<=12/\Ins c):(cycB c).size<=266:=by
 have h1:=xn (a:=T22) (m:=1) (by decide) (Pv h)
 exact xn h1 (n:=1) (by decide)
theorem zcc (y:ByteArray)(acc:ByteArray)(cs:List (List Int))(n i:Nat)(c:List Int)(hc:c.length<=12/\Ins c)(hs:acc.size<=100000)
 (hy:Ev (fun k=>vu k (acc++cycB c) (n:Int) ((i+1:Nat):Int) cs) y) (hi:(i:Int)+1<=1000):∀(r:List Int) (j:Nat),c.drop j=r->Ev (fun k=>jq k acc (n:Int) (i:Int) c (c.length:Int) (j:Int) ((c.take j).map yk) cs) y
 | [],j,h=>by
   have q:=zu h
   have sj:=Pv hc
   refine ES (fun k=>aw k ..) ?_
   simp only[q.g,zgK]
   rw[zgT q.ge,ze (x:=(i:Int)+1) (by omega) (by omega)]
   have s1:=xn (b:=T22) (n:=1) hs (by decide)
   have s2:=xn s1 sj
   have e:((acc++T22)++xe (c.map yk) T4)++T35=acc++cycB c:=by
    unfold cycB
    rw[ByteArray.append_assoc,ByteArray.append_assoc,ByteArray.append_assoc]
   refine EY (vq hs (n:=1) (by decide) (by decide)) (EB (L7 _ _ 21 (by simp;omega) (x9 hc.2) (by omega) (by decide)) (EY (vq s1 sj (by decide)) (EY (vq s2 (n:=1) (by decide) (by decide)) ?_)))
   rw[e]
   exact_mod_cast hy
 |x::r,j,h=>by
  have q:=zh h (by rw[zc];omega)
  have hlt:=q.lt
  have hx:In x:=hc.2 x (List.mem_of_mem_drop (h▸List.mem_cons_self))
  have ih:=zcc y acc cs n i c hc hs hy hi r (j+1) q.next
  rw[Bf q,List.map_append]at ih
  refine ES (fun k=>aw k ..) ?_
  simp only[q.g,q.z,q.get,q.w,zgJ]
  exact EB (zY x hx) (EY (by rw[za];simp;omega) ih)
theorem E4 (cs:List (List Int))(hl:cs.length<=12)(hg:∀c∈cs,c.length<=12/\Ins c)(y:ByteArray):∀(r:List (List Int)) (i:Nat) (acc:ByteArray),cs.drop i=r->acc.size<=300*i->
 y=(if(Sg r acc).toList=T0.toList then⟨#[40,41]⟩else Sg r acc)->Ev (fun k=>vu k acc (cs.length:Int) (i:Int) cs) y
 | [],i,acc,h,hs,hy=>by
   have q:=zu h
   refine ES (fun k=>ax k ..) ?_
   simp only[q.g,zgK]
   subst hy
   refine EI (fun c=>EZ ?_) (fun c=>EZ ?_)
   ·have:acc.toList=T0.toList:=by simpa using c
    rw[show Sg [] acc=acc from rfl,zgG this]
   ·have:¬acc.toList=T0.toList:=by simpa using c
    rw[show Sg [] acc=acc from rfl,zgH this]
 |c::r,i,acc,h,hs,hy=>by
  have q:=zh h (by rw[zc];omega)
  have hlt:=q.lt
  have hc:=hg c (List.mem_of_mem_drop (h▸List.mem_cons_self))
  refine ES (fun k=>ax k ..) ?_
  simp only[q.g,q.z,q.n,q.get,zgJ]
  have s1:=xn hs (JP hc)
  exact zcc y acc cs cs.length i c hc (by omega) (E4 cs hl hg y r (i+1) (acc++cycB c) q.next (by omega) hy) (by omega) c 0 rfl
theorem Cd (cs:List (List Int))(hl:cs.length<=12)(hg:∀c∈cs,c.length<=12/\Ins c):∀(r:List (List Int)) (i:Nat) (acc:ByteArray),cs.drop i=r->acc.size<=300*i->Ev (fun k=>jK k acc (cs.length:Int) (i:Int) cs) (Sg r acc)
 | [],i,acc,h,hs=>by
   have q:=zu h
   refine ES (fun k=>aQ k ..) ?_
   simp only[q.g,zgK]
   exact EP _
 |c::r,i,acc,h,hs=>by
  have q:=zh h (by rw[zc];omega)
  have hlt:=q.lt
  have hc:=hg c (List.mem_of_mem_drop (h▸List.mem_cons_self))
  have sj:=Pv hc
  have sc:=JP hc
  have s0:=xn (a:=T22) (m:=1) (by decide) sj
  have s1:=xn hs sc
  refine ES (fun k=>aQ k ..) ?_
  simp only[q.g,q.z,q.n,q.get,q.w,zgJ]
  refine EB (NC c (by omega) hc.2) (EB (Jt _ _ 21 (by simp;omega) (x9 hc.2) (by omega) (by decide)) (EY (vq (m:=1) (by decide) sj (by decide)) (EY (vq s0 (n:=1) (by decide) (by decide)) (EY (vq hs sc (by omega)) ?_))))
  exact Cd cs hl hg r (i+1) (acc++cycB c) q.next (by omega)
def vb (a:List Int):ByteArray:=if vo a then(if a=[]then⟨#[40,41]⟩else Sg (jU a) T0)else T0
theorem Gx:∀(r:List (List Int)) (acc:ByteArray),acc.size<=(Sg r acc).size
 | [],acc=>zgC _
 |c::r,acc=>by
  have:=Gx r (acc++cycB c)
  rw[zg4]at this
  show _<=(Sg r (acc++cycB c)).size
  omega
theorem Kb (a:List Int)(hm:a.length<=maxLen):Ev (fun k=>W9 k a) (vb a):=by
 unfold vb
 obtain⟨f1,f2⟩:=P3 a
 refine ES (fun k=>Kc k a) (EB (LY a hm) (EI (fun h=>EZ ?_) (fun h=>EB (FC a hm) ?_)))
 ·have:vo a=false:=by simpa using h
  rw[this];rfl
 ·have e:vo a=true:=by simpa using h
  rw[zgG e]
  refine E4 (jU a) f1 f2 _ (jU a) 0 T0 rfl (by decide) ?_
  cases a with
  |nil=>
   have e0:jU []=[]:=by unfold jU;split<;>rfl
   rw[zgG rfl,e0,show Sg [] T0=T0 from rfl,zgG rfl]
  |cons x r=>
   rw[zgH (by simp),zgH]
   intro hh
   have h1:=zde e (by simp)
   cases hc:jU (x::r)with
   |nil=>rw[hc]at h1;simp at h1
   |cons c0 r0=>
    rw[hc,ByteArray.toList_eq,ByteArray.toList_eq]at hh
    have h2:=Gx r0 (T0++cycB c0)
    have h3:(zx (Sg (c0::r0) T0)).length=0:=by unfold zx;rw[hh];rfl
    rw[xm]at h3
    have h4:1<=(cycB c0).size:=by unfold cycB;rw[zg4,zg4];show 1<=1+_+_;omega
    rw[zg4]at h2
    have h5:(Sg (c0::r0) T0).size=(Sg r0 (T0++cycB c0)).size:=rfl
    omega
theorem Jx (a:List Int)(hm:a.length<=maxLen):Ev (fun k=>VL k a) (vb a):=by
 unfold vb
 obtain⟨f1,f2⟩:=P3 a
 refine ES (fun k=>Jy k a) (EB (Jk a hm) (EI (fun h=>EZ ?_) (fun h=>EI (fun h2=>EZ ?_) (fun h2=> ?_))))
 ·have:vo a=false:=by simpa using h
  rw[this];rfl
 ·have e:vo a=true:=by simpa using h
  have:a=[]:=by simp at h2;exact h2
  rw[zgG e,zgG this]
 ·have e:vo a=true:=by simpa using h
  have:¬a=[]:=by simp at h2;exact h2
  rw[zgG e,zgH this]
  exact EB (Ee a hm) (Cd (jU a) f1 f2 (jU a) 0 T0 rfl (by decide))
def xz (xs:List Int):ByteArray:=if xs=[]then T28 else xe (xs.map yk) ⟨#[44]⟩
theorem bf (xs:List Int)(hm:xs.length<=1048576)(hi:Ins xs):∀(r:List Int) (i:Nat),xs.drop i=r->Ev (fun k=>uv k xs (xs.length:Int) (i:Int) ((xs.take i).map yk)) (xz xs)
 | [],i,h=>by
   have a:=zu h
   refine ES (fun k=>bg k ..) ?_
   simp only[a.g,zgK]
   rw[zgT a.ge]
   unfold xz
   refine EI (fun h=>EZ ?_) (fun h=> ?_)
   ·have:xs=[]:=by simp at h;exact h
    rw[zgG this]
   ·have:¬xs=[]:=by simp at h;exact h
    rw[zgH this]
    exact EB (L7 _ _ 21 (by simpa using hm) (x9 hi) (by omega) (by show(1:Nat)<=_;omega)) (EP _)
 |x::r,i,h=>by
  have a:=zh h (by rw[zc];omega)
  have hlt:=a.lt
  have hx:In x:=hi x (List.mem_of_mem_drop (h▸List.mem_cons_self))
  refine ES (fun k=>bg k ..) ?_
  simp only[a.g,a.z,a.get,a.w,zgJ]
  refine EB (zY x hx) (EY (by rw[za];simp;omega) ?_)
  have:=bf xs hm hi r (i+1) a.next
  rw[List.take_succ_eq_append_getElem hlt,List.map_append]at this
  have e:xs[i]=x:=by have:=a.get 0;rw[zgy,List.getD,zgD hlt]at this;exact this
  rw[e]at this
  exact this
theorem XW (xs:List Int)(hm:xs.length<=1048576)(hi:Ins xs):Ev (fun k=>cj k xs) (xz xs):=by
 refine ES (fun k=>MG k xs) ?_
 unfold xz
 refine EI (fun h=>EZ ?_) (fun h=> ?_)
 ·have:xs=[]:=by simp at h;exact h
  rw[zgG this]
 ·have:¬xs=[]:=by simp at h;exact h
  rw[zgH this]
  exact EB (NC xs hm hi) (EB (Jt _ _ 21 (by simpa using hm) (x9 hi) (by omega) (by show(1:Nat)<=_;omega)) (EP _))
def numB (l:List UInt8):Nat:=l.foldl (fun a c=>a*10+(c.toNat-48)) 0
theorem byte48 {d:Nat}(h:d<10):(UInt8.ofNat (48+d)).toNat=48+d:=by
 rw[UInt8.toNat_ofNat'];omega
theorem Z9:∀(n u:Nat),u<=n->numB (Lib.decDigits u)=u/\(∀c∈Lib.decDigits u,48<=c.toNat/\c.toNat<=57)/\Lib.decDigits u≠[]
 |n,u,h=>by
  by_cases hu:u<10
  ·rw[um hu]
   refine⟨by simp only[numB,List.foldl_cons,List.foldl_nil,byte48 hu];omega,fun c hc=> ?_,by simp⟩
   have:c=UInt8.ofNat (48+u):=by simpa using hc
   rw[this,byte48 hu];omega
  ·match n,h with
   |0,h=>omega
   |n+1,h=>
   have hd:u % 10<10:=Nat.mod_lt _ (by omega)
   obtain⟨h1,h2,h3⟩:=Z9 n (u/10) (by omega)
   rw[Xi hu]
   refine⟨?_,fun c hc=> ?_,by simp⟩
   ·unfold numB at h1⊢
    rw[List.foldl_append,h1]
    simp only[List.foldl_cons,List.foldl_nil,byte48 hd]
    omega
   ·rcases zgz.1 hc with hc|hc
    ·exact h2 c hc
    ·have:c=UInt8.ofNat (48+u % 10):=by simpa using hc
     rw[this,byte48 hd];omega
theorem D3 (n:Int):∀c∈Lib.itoa n,c≠44/\c≠47:=by
 intro c hc
 have key:c=45\/(48<=c.toNat/\c.toNat<=57):=by
  unfold Lib.itoa at hc
  split at hc
  ·rcases zgO.1 hc with rfl|hc
   ·exact .inl rfl
   ·exact .inr ((Z9 _ _ (zgC _)).2.1 c hc)
  ·exact .inr ((Z9 _ _ (zgC _)).2.1 c hc)
 refine⟨fun e=> ?_,fun e=> ?_⟩
 ·subst e
  rcases key with h|h
  ·exact absurd h (by decide)
  ·have:(44:UInt8).toNat=44:=rfl
   omega
 ·subst e
  rcases key with h|h
  ·exact absurd h (by decide)
  ·have:(47:UInt8).toNat=47:=rfl
   omega
theorem A0 {a b:Int}(h:Lib.itoa a=Lib.itoa b):a=b:=by
 have pos:∀(u:Nat) (l:List UInt8),Lib.decDigits u=45::l->False:=fun u l e=>by
  have:=((Z9 _ u (zgC _)).2.1 45 (by rw[e];simp)).1
  exact absurd this (by decide)
 have val:∀u v:Nat,Lib.decDigits u=Lib.decDigits v->u=v:=fun u v e=>by
  rw[<-(Z9 _ u (zgC _)).1,<-(Z9 _ v (zgC _)).1,e]
 unfold Lib.itoa at h
 split at h
 ·split at h
  ·have:=val _ _ (List.cons.inj h).2
   omega
  ·exact(pos _ _ h.symm).elim
 ·split at h
  ·exact(pos _ _ h).elim
  ·have:=val _ _ h
   omega
theorem zdj {s:UInt8}:∀ {A A' B B' :List UInt8},s∉A->s∉A' ->A++s::B=A' ++s::B' ->A=A' /\B=B'
 | [],[],B,B',_,_,h=>⟨rfl,(List.cons.inj h).2⟩
 | [],y::A',B,B',_,h2,h=>(h2 (by rw[(List.cons.inj h).1];simp)).elim
 |x::A,[],B,B',h1,_,h=>(h1 (by rw[<-(List.cons.inj h).1];simp)).elim
 |x::A,y::A',B,B',h1,h2,h=>by
  have e:=List.cons.inj h
  obtain⟨e1,e2⟩:=zdj (A:=A) (A' :=A') (fun hm=>h1 (by simp[hm])) (fun hm=>h2 (by simp[hm])) e.2
  exact⟨by rw[e.1,e1],e2⟩
theorem tail_cons (s:UInt8)(x:List UInt8)(r:List (List UInt8)):Lib.joinTail [s] (x::r)=s::(x++Lib.joinTail [s] r):=by simp[Lib.joinTail]
theorem AZ {s:UInt8}:∀ {x y:List UInt8} {r q:List (List UInt8)},(∀z∈x::r,s∉z)->(∀z∈y::q,s∉z)->x++Lib.joinTail [s] r=y++Lib.joinTail [s] q->x::r=y::q
 |x,y,[],[],_,_,h=>by simpa[Lib.joinTail]using h
 |x,y,[],z::q,h1,_,h=>by
  rw[tail_cons]at h
  exact(h1 x (by simp) (by have:s∈x++Lib.joinTail [s] []:=by rw[h];simp
                           simpa[Lib.joinTail]using this)).elim
 |x,y,z::r,[],_,h2,h=>by
  rw[tail_cons]at h
  exact(h2 y (by simp) (by have:s∈y++Lib.joinTail [s] []:=by rw[<-h];simp
                           simpa[Lib.joinTail]using this)).elim
 |x,y,z::r,u::q,h1,h2,h=>by
  rw[tail_cons,tail_cons]at h
  obtain⟨e1,e2⟩:=zdj (h1 x (by simp)) (h2 y (by simp)) h
  rw[e1,AZ (fun w hw=>h1 w (by simp[hw])) (fun w hw=>h2 w (by simp[hw])) e2]
def keyB (c:Scene):ByteArray:=(xz c.1++T53)++yk c.2
theorem GD (c:Scene)(h:c.1≠[]):keyB c=strB (Lib.join (c.1.map Lib.itoa) [44]++47::Lib.itoa c.2):=by
 unfold keyB xz yk
 rw[zgH h]
 have e1:xe (c.1.map yk) ⟨#[44]⟩=strB (Lib.join (c.1.map Lib.itoa) [44]):=by
  unfold xe Mu
  rw[List.map_map]
  congr 2
 have e2:T53=strB [47]:=rfl
 show xe (c.1.map yk) ⟨#[44]⟩++T53++strB (Lib.itoa c.2)=_
 rw[e1,e2,eN,eN]
 congr 1
 simp
theorem KZ {s:UInt8}(hs:s≠44):∀ {x:List UInt8} {r:List (List UInt8)},(∀z∈x::r,s∉z)->s∉x++Lib.joinTail [44] r
 |x,[],h=>by simpa[Lib.joinTail]using h x (by simp)
 |x,y::r,h=>by
  rw[tail_cons]
  intro hm
  rcases zgz.1 hm with hm|hm
  ·exact h x (by simp) hm
  ·rcases zgO.1 hm with hm|hm
   ·exact hs hm
   ·exact KZ hs (x:=y) (r:=r) (fun z hz=>h z (by simp at hz⊢;exact .inr hz)) hm
theorem NF:∀ {p q:List Int},p.map Lib.itoa=q.map Lib.itoa->p=q
 | [],[],_=>rfl
 | [],_::_,h=>by simp at h
 |_::_,[],h=>by simp at h
 |x::p,y::q,h=>by
  simp only[List.map_cons,List.cons.injEq]at h
  rw[A0 h.1,NF h.2]
theorem zen {c d:Scene}(hc:c.1≠[])(hd:d.1≠[])(h:keyB c=keyB d):c=d:=by
 rw[GD c hc,GD d hd]at h
 have h' :Lib.join (c.1.map Lib.itoa) [44]++47::Lib.itoa c.2=Lib.join (d.1.map Lib.itoa) [44]++47::Lib.itoa d.2:=by
  have:=congrArg (fun b=>b.data.toList) h
  simpa[strB]using this
 obtain⟨p,n⟩:=c
 obtain⟨q,m⟩:=d
 cases p with
 |nil=>exact(hc rfl).elim
 |cons x p=>
  cases q with
  |nil=>exact(hd rfl).elim
  |cons y q=>
   rw[List.map_cons,List.map_cons,Lib.join_cons,Lib.join_cons]at h'
   have nb:∀(x:Int) (p:List Int),∀z∈Lib.itoa x::p.map Lib.itoa,(47:UInt8)∉z/\(44:UInt8)∉z:=fun x p z hz=>by
    have:∃n,z=Lib.itoa n:=by
     rcases zgO.1 hz with rfl|hz
     ·exact⟨x,rfl⟩
     ·obtain⟨n,_,rfl⟩:=zgY.1 hz
      exact⟨n,rfl⟩
    obtain⟨n,rfl⟩:=this
    exact⟨fun hm=>(D3 n _ hm).2 rfl,fun hm=>(D3 n _ hm).1 rfl⟩
   obtain⟨e1,e2⟩:=zdj (KZ (by decide) fun z hz=>(nb x p z hz).1) (KZ (by decide) fun z hz=>(nb y q z hz).1) h'
   have e3:=AZ (fun z hz=>(nb x p z hz).2) (fun z hz=>(nb y q z hz).2) e1
   have e4:=NF (p:=x::p) (q:=y::q) (by simpa using e3)
   have e5:=A0 e2
   dsimp only at e5
   rw[e4,e5]
theorem KK {l:List Scene}{x:Scene}(hl:∀c∈l,c.1≠[])(hx:x.1≠[]):YR (l.map keyB) (keyB x)=decide (x∈l):=by
 rw[Bool.eq_iff_iff,zgI]
 unfold YR
 rw[List.any_eq_true]
 constructor
 ·rintro⟨k,hk,he⟩
  obtain⟨c,hc,rfl⟩:=zgY.1 hk
  rw[zen hx (hl c hc) (beqBA he)]
  exact hc
 ·intro hm
  exact⟨keyB x,zgY.2 ⟨x,hm,rfl⟩,GZ _⟩
theorem GH (c:Scene)(h:c.1.length<=12)(hi:Ins c.1)(hn:In c.2):Ev (fun k=>YW k c) (keyB c):=by
 obtain⟨p,n⟩:=c
 have h1:(xz p).size<=1000:=by
  unfold xz
  split
  ·decide
  ·have:=Uq (B:=21) (S:=1) (⟨#[44]⟩:ByteArray) (by decide) (p.map yk) (x9 hi)
   rw[zgN]at this
   rw[xe,zj]
   have h:p.length<=12:=h
   omega
 have h2:=zN n hn
 have h3:T53.size=1:=rfl
 refine ES (fun k=>zbj k (p,n)) (EB (XW p (by have h:p.length<=12:=h;omega) hi) (EY (zgu (by omega)) (EB (yf n hn) (EY (zgu (by rw[zg4];omega)) (EZ rfl)))))
abbrev Way:Type:=Scene×List Int
def addP (s:z6)(w:List Int):Nat->List Scene->List Way->List Way
 |_,[],acc=>acc
 |j,x::r,acc=>if x∈acc.map Prod.fst then addP s w (j+1) r acc else addP s w (j+1) r (acc++[(x,if s.1=2 then w++[(j:Int)]else w)])
def goP (s:z6):List Way->List Way->List Way
 | [],acc=>acc
 |c::r,acc=>goP s r (addP s c.2 0 (zw c.1 s) acc)
def bV:List z6->List Way->Option (List Way)
 | [],l=>some l
 |s::r,l=>if(goP s l []).length<=3000 then bV r (goP s l [])else none
theorem Ld (s:z6)(w:List Int):∀(r:List Scene) (j:Nat) (acc:List Way),acc.length<=(addP s w j r acc).length
 | [],_,_=>zgC _
 |x::r,j,acc=>by
  unfold addP
  split
  ·exact Ld s w r (j+1) acc
  ·exact zg1 (by simp) (Ld s w r (j+1) _)
theorem zc0 (s:z6):∀(l acc:List Way),acc.length<=(goP s l acc).length
 | [],_=>zgC _
 |c::r,acc=>zg1 (Ld s c.2 _ 0 acc) (zc0 s r _)
def V7 (n:Nat)(l:List Way):Prop:=∀c∈l,SceneOk n c.1
theorem Ah {n:Nat}(s:z6)(w:List Int):∀(r:List Scene) (j:Nat) (acc:List Way),(∀x∈r,SceneOk n x)->V7 n acc->V7 n (addP s w j r acc)
 | [],_,_,_,h=>h
 |x::r,j,acc,hr,h=>by
  unfold addP
  split
  ·exact Ah s w r (j+1) acc (fun y hy=>hr y (by simp[hy])) h
  ·refine Ah s w r (j+1) _ (fun y hy=>hr y (by simp[hy])) (fun c hc=> ?_)
   rcases zgz.1 hc with hc|hc
   ·exact h c hc
   ·have:c=(x,if s.1=2 then w++[(j:Int)]else w):=by simpa using hc
    rw[this];exact hr x (by simp)
theorem zcZ {n:Nat}{s:z6}(hs:zS (n:Int) s=true):∀(l acc:List Way),V7 n l->V7 n acc->V7 n (goP s l acc)
 | [],_,_,h=>h
 |c::r,acc,hl,h=>zcZ hs r _ (fun d hd=>hl d (by simp[hd])) (Ah s c.2 _ 0 acc (fR (hl c (by simp)) hs) h)
def SF (m:Nat)(l:List Way):Prop:=∀c∈l,c.2.length<=m
theorem EG {m:Nat}(s:z6)(w:List Int)(hw:w.length<=m):∀(r:List Scene) (j:Nat) (acc:List Way),SF (m+1) acc->SF (m+1) (addP s w j r acc)
 | [],_,_,h=>h
 |x::r,j,acc,h=>by
  unfold addP
  split
  ·exact EG s w hw r (j+1) acc h
  ·refine EG s w hw r (j+1) _ (fun c hc=> ?_)
   rcases zgz.1 hc with hc|hc
   ·exact h c hc
   ·have:c=(x,if s.1=2 then w++[(j:Int)]else w):=by simpa using hc
    rw[this]
    dsimp only
    split
    ·simp;omega
    ·omega
theorem zcX {m:Nat}{s:z6}:∀(l acc:List Way),SF m l->SF (m+1) acc->SF (m+1) (goP s l acc)
 | [],_,_,h=>h
 |c::r,acc,hl,h=>zcX r _ (fun d hd=>hl d (by simp[hd])) (EG s c.2 (hl c (by simp)) _ 0 acc h)
def outP:Option (List Way)->List Scene×List (List Int)×Bool
 |some l=>(l.map Prod.fst,l.map Prod.snd,true)|none=>([],[],false)
def resP (r:List z6)(A:List Way):List Scene×List (List Int)×Bool:=if A.length<=3000 then outP (bV r A)else outP none
theorem ao (p q:List Int)(hp:p.length<=maxLen)(e:q.length=p.length):∀(r r' :List Int) (i:Nat),p.drop i=r->q.drop i=r' ->Ev (fun k=>vr k q p (p.length:Int) (i:Int)) (decide (r=r'))
 | [],r',i,h,h' =>by
   have a:=zu h
   have:r' =[]:=by rw[<-h',List.drop_eq_nil_iff];have:=a.ge;omega
   refine ES (fun k=>vl k ..) ?_
   simp only[a.g,zgK]
   exact EZ (by simp[this])
 |x::r,[],i,h,h' =>by
  have a:=zh h hp
  have:=a.lt
  rw[List.drop_eq_nil_iff]at h'
  omega
 |x::r,y::r',i,h,h' =>by
  have a:=zh h hp
  have b:=zh h' (by rw[e];exact hp)
  have hlt:=a.lt
  refine ES (fun k=>vl k ..) ?_
  simp only[a.g,a.z,a.get,a.w,b.g,b.get,zgJ]
  refine EI (fun h1=>EZ ?_) (fun h1=> ?_)
  ·have:¬x=y:=by simpa using h1
   simp[this]
  ·have:x=y:=by simpa using h1
   subst this
   refine(ao p q hp e r r' (i+1) a.next b.next).to ?_
   simp
theorem Mg (p q:List Int)(hp:p.length<=maxLen):Ev (fun k=>yx k (p,q)) (decide (p=q)):=by
 refine ES (fun k=>WW k p q) (EI (fun h=>EZ ?_) (fun h=> ?_))
 ·have:¬(p.length:Int)=q.length:=by simpa using h
  have:¬p=q:=fun e=>this (by rw[e])
  simp[this]
 ·have:(p.length:Int)=q.length:=by simpa using h
  exact ao p q hp (by omega) p q 0 rfl rfl
theorem LU (c d:Scene)(hc:c.1.length<=maxLen):Ev (fun k=>TX k (c,d)) (decide (c=d)):=by
 obtain⟨p,n⟩:=c
 obtain⟨q,m⟩:=d
 refine ES (fun k=>Hp k (p,n) (q,m)) (EB (Mg p q hc) (EI (fun h=>EZ ?_) (fun h=>EZ ?_)))
 ·have:p=q:=by simpa using h
  subst this
  rw[Bool.eq_iff_iff];simp
 ·have:¬p=q:=by simpa using h
  simp[this]
theorem Wq (l:List Scene)(x:Scene)(hl:l.length<=16384)(hx:x.1.length<=12):∀(r:List Scene) (i:Nat),l.drop i=r->∃y,Ev (fun k=>ab k l (l.length:Int) (i:Int) x.1 x.2) y/\decide (y>=0)=decide (x∈r)
 | [],i,h=>by
   have a:=zu h
   refine⟨-1,ES (fun k=>cO k ..) ?_,by simp⟩
   simp only[a.g,zgK]
   exact EP _
 |c::r,i,h=>by
  have a:=zh h (by rw[zc];omega)
  obtain⟨y,h1,h2⟩:=Wq l x hl hx r (i+1) a.next
  have hs:=LU x c (by rw[zc];omega)
  by_cases e:x=c
  ·refine⟨(i:Int),ES (fun k=>cO k ..) ?_,by simp[e]⟩
   simp only[a.g,a.z,a.get,a.w,zgJ]
   exact EB hs (EY (by simp[e]) (EP _))
  ·refine⟨y,ES (fun k=>cO k ..) ?_,by rw[h2];simp[e]⟩
   simp only[a.g,a.z,a.get,a.w,zgJ]
   exact EB hs (EN (by simp[e]) h1)
theorem Dc (l:List Scene)(x:Scene)(hl:l.length<=16384)(hx:x.1.length<=12):∃y,Ev (fun k=>LJ k (l,x)) y/\decide (y>=0)=decide (x∈l):=by
 obtain⟨y,h1,h2⟩:=Wq l x hl hx l 0 rfl
 exact⟨y,ES (fun k=>Dd k l x) h1,h2⟩
theorem Xp {n m:Nat}(hn:n<=12)(hm:m<=12)(steps:List z6)(l:List Way)(hl:l.length<=3000)(s:z6)(si:Nat)(ci:Nat)(c:Way)(hci:ci<l.length)(hc:l[ci]=c)(hcm:c.2.length<=m)(rs:List z6)(rc:List Way)(nx:List Scene)(hnx:nx.length<=4096)
 (K:∀acc:List Way,acc.length<=3000->V7 n acc->SF (m+1) acc->Ev (fun k=>gY k steps (steps.length:Int) (si:Int) (l.length:Int) ((ci+1:Nat):Int) (l.map Prod.snd) s.1 s.2.1.1 s.2.1.2 s.2.2 (acc.map Prod.fst) (acc.map Prod.snd) (l.map Prod.fst)) (resP rs (goP s rc acc))):
 ∀(xs:List Scene) (j:Nat) (acc:List Way),nx.drop j=xs->(∀x∈xs,SceneOk n x)->acc.length<=3000->V7 n acc->SF (m+1) acc->
  Ev (fun k=>vL k (ci:Int) steps (steps.length:Int) (si:Int) (l.length:Int) (ci:Int) (nx.length:Int) (j:Int) (l.map Prod.snd) s.1 s.2.1.1 s.2.1.2 s.2.2 (acc.map Prod.fst) (acc.map Prod.snd) (l.map Prod.fst) nx) (resP rs (goP s rc (addP s c.2 j xs acc)))
 | [],j,acc,h,hx,ha,hk,hw=>by
   have a:=zu h
   have ew:IntKind.i64.wrap ((ci:Int)+1)=((ci+1:Nat):Int):=by rw[ze (by omega) (by omega)];omega
   refine ES (fun k=>Xq k ..) ?_
   simp only[a.g,zgK,ew]
   exact K acc ha hk hw
 |x::xs,j,acc,h,hx,ha,hk,hw=>by
  have a:=zh h (by rw[zc];omega)
  have hxo:=hx x (by simp)
  have hx12:x.1.length<=12:=by rw[hxo.len];exact hn
  have ih:=fun acc ha hk hw=>Xp hn hm steps l hl s si ci c hci hc hcm rs rc nx hnx K xs (j+1) acc a.next (fun y hy=>hx y (by simp[hy])) ha hk hw
  obtain⟨y,y1,y2⟩:=Dc (acc.map Prod.fst) x (by rw[zgN];omega) hx12
  refine ES (fun k=>Xq k ..) ?_
  simp only[a.g,a.z,a.n,a.get,a.w,zgJ]
  unfold addP
  refine EB y1 (EI (fun h1=> ?_) (fun h1=> ?_))
  ·rw[y2,zgI]at h1
   rw[zgG h1]
   exact ih acc ha hk hw
  ·rw[y2,decide_eq_false_iff_not]at h1
   rw[zgH h1]
   have hg:(l.map Prod.snd).getD (ci:Int).toNat []=c.2:=by
    rw[zgy,List.getD,List.getElem?_map,zgD hci,hc];rfl
   have hxx:(x,if s.1=2 then c.2++[(j:Int)]else c.2)∈ [(x,if s.1=2 then c.2++[(j:Int)]else c.2)]:=by simp
   have hk2:V7 n (acc++[(x,if s.1=2 then c.2++[(j:Int)]else c.2)]):=fun d hd=>by
    rcases zgz.1 hd with hd|hd
    ·exact hk d hd
    ·have:d=(x,if s.1=2 then c.2++[(j:Int)]else c.2):=by simpa using hd
     rw[this];exact hxo
   have hw2:SF (m+1) (acc++[(x,if s.1=2 then c.2++[(j:Int)]else c.2)]):=fun d hd=>by
    rcases zgz.1 hd with hd|hd
    ·exact hw d hd
    ·have:d=(x,if s.1=2 then c.2++[(j:Int)]else c.2):=by simpa using hd
     rw[this]
     dsimp only
     split
     ·simp;omega
     ·omega
   have big:3000<(acc++[(x,if s.1=2 then c.2++[(j:Int)]else c.2)]).length->resP rs (goP s rc (addP s c.2 (j+1) xs (acc++[(x,if s.1=2 then c.2++[(j:Int)]else c.2)])))=([],[],false):=fun hb=>by
    unfold resP
    rw[zgH]
    ·rfl
    ·have:=Ld s c.2 xs (j+1) (acc++[(x,if s.1=2 then c.2++[(j:Int)]else c.2)])
     have:=zc0 s rc (addP s c.2 (j+1) xs (acc++[(x,if s.1=2 then c.2++[(j:Int)]else c.2)]))
     omega
   have te:=zc
   simp only[hg,List.nil_append]
   refine EY (by rw[za];simp;omega) (EY (by simp) (EY (by simp;omega) (EY (by simp;omega) (EY (by rw[za];simp;omega) (EI (fun h2=> ?_) (fun h2=> ?_))))))
   ·have e2:s.1=2:=by simpa using h2
    simp only[zgG e2]at hk2 hw2 big⊢
    refine EY (by rw[za];simp;omega) (EY (by rw[za];simp;omega) (EI (fun h3=>EZ ?_) (fun h3=> ?_)))
    ·exact(big (by simp at h3⊢;omega)).symm
    ·have:=ih (acc++[(x,c.2++[(j:Int)])]) (by simp at h3⊢;omega) hk2 hw2
     simpa using this
   ·have e2:¬s.1=2:=by simpa using h2
    simp only[zgH e2]at hk2 hw2 big⊢
    refine EY (by rw[za];simp;omega) (EI (fun h3=>EZ ?_) (fun h3=> ?_))
    ·exact(big (by simp at h3⊢;omega)).symm
    ·have:=ih (acc++[(x,c.2)]) (by simp at h3⊢;omega) hk2 hw2
     simpa using this
def canF (bad:Scene->Bool):List z6->Scene->Bool
 | [],c=>bad c
 |s::r,c=>(zw c s).any (canF bad r)
def G6 (F:Scene->Bool)(s:z6)(w:Way):Way:=
 let k:=(zw w.1 s).findIdx F
 ((zw w.1 s).getD k ([],0),if s.1=2 then w.2++[(k:Int)]else w.2)
def firstW (bad:Scene->Bool):List z6->Way->Way
 | [],w=>w
 |s::r,w=>firstW bad r (G6 (canF bad r) s w)
theorem Lc (s:z6)(w:List Int):∀(r:List Scene) (j:Nat) (acc:List Way),∃m,addP s w j r acc=acc++m
 | [],_,acc=>⟨[],by simp[addP]⟩
 |x::r,j,acc=>by
  unfold addP
  split
  ·exact Lc s w r (j+1) acc
  ·obtain⟨m,hm⟩:=Lc s w r (j+1) (acc++[(x,if s.1=2 then w++[(j:Int)]else w)])
   exact⟨_,by rw[hm,zgU]⟩
theorem zcY (s:z6):∀(l acc:List Way),∃m,goP s l acc=acc++m
 | [],acc=>⟨[],by simp[goP]⟩
 |c::r,acc=>by
  unfold goP
  obtain⟨m1,h1⟩:=Lc s c.2 (zw c.1 s) 0 acc
  obtain⟨m2,h2⟩:=zcY s r (addP s c.2 0 (zw c.1 s) acc)
  exact⟨m1++m2,by rw[h2,h1,zgU]⟩
theorem A7 {α:Type}{p:α->Bool}{acc m:List α}{y:α}(h:acc.find? p=some y):(acc++m).find? p=some y:=by rw[List.find?_append,h];rfl
theorem zc6 {α:Type}{p:α->Bool}{acc:List α}(h:∀a∈acc,p a=false):acc.find? p=none:=by
 rw[List.find?_eq_none]
 intro a ha
 rw[h a ha];simp
theorem C7 (F:Scene->Bool)(s:z6)(w:List Int):∀(xs:List Scene) (j:Nat) (acc:List Way),(∀a∈acc,F a.1=false)->
 (xs.any F=true->(addP s w j xs acc).find? (fun a=>F a.1)=some (xs.getD (xs.findIdx F) ([],0),if s.1=2 then w++[((j+xs.findIdx F:Nat):Int)]else w))/\
 (xs.any F=false->∀a∈addP s w j xs acc,F a.1=false)
 | [],j,acc,h=>⟨fun e=>(by simp at e),fun _=>h⟩
 |x::r,j,acc,h=>by
  have jump:∀acc' :List Way,(∀a∈acc',F a.1=false)->F x=false->addP s w j (x::r) acc=addP s w (j+1) r acc' ->
   ((x::r).any F=true->(addP s w j (x::r) acc).find? (fun a=>F a.1)=some ((x::r).getD ((x::r).findIdx F) ([],0),if s.1=2 then w++[((j+(x::r).findIdx F:Nat):Int)]else w))/\
   ((x::r).any F=false->∀a∈addP s w j (x::r) acc,F a.1=false):=fun acc' ha hx e=>by
   obtain⟨i1,i2⟩:=C7 F s w r (j+1) acc' ha
   have ei:(x::r).findIdx F=r.findIdx F+1:=by rw[List.findIdx_cons,hx];rfl
   rw[List.any_cons,hx,Bool.false_or,e,ei]
   refine⟨fun q=> ?_,i2⟩
   rw[i1 q]
   have e1:j+1+r.findIdx F=j+(r.findIdx F+1):=by omega
   rw[e1]
   rfl
  by_cases hm:x∈acc.map Prod.fst
  ·obtain⟨a,ha,rfl⟩:=zgY.1 hm
   exact jump acc h (h a ha) (by rw[addP,zgG hm])
  ·have e:addP s w j (x::r) acc=addP s w (j+1) r (acc++[(x,if s.1=2 then w++[(j:Int)]else w)]):=by rw[addP,zgH hm]
   cases hx:F x with
   |false=>
    refine jump _ (fun a ha=> ?_) hx e
    rcases zgz.1 ha with ha|ha
    ·exact h a ha
    ·have:a=(x,if s.1=2 then w++[(j:Int)]else w):=by simpa using ha
     rw[this];exact hx
   |true=>
    refine⟨fun _=> ?_,fun q=>(by rw[List.any_cons,hx]at q;cases q)⟩
    obtain⟨m,hm2⟩:=Lc s w r (j+1) (acc++[(x,if s.1=2 then w++[(j:Int)]else w)])
    have ei:(x::r).findIdx F=0:=by rw[List.findIdx_cons,hx];rfl
    rw[e,hm2,ei]
    refine A7 ?_
    rw[List.find?_append,zc6 h]
    simp[hx]
theorem A5 (F:Scene->Bool)(s:z6):∀(l acc:List Way),(∀a∈acc,F a.1=false)->
 (goP s l acc).find? (fun a=>F a.1)=(l.find? (fun c=>(zw c.1 s).any F)).map (G6 F s)
 | [],acc,h=>by
   show acc.find? _=none
   exact zc6 h
 |c::r,acc,h=>by
  obtain⟨i1,i2⟩:=C7 F s c.2 (zw c.1 s) 0 acc h
  unfold goP
  rw[List.find?_cons]
  cases hc:(zw c.1 s).any F with
  |true=>
   obtain⟨m,hm⟩:=zcY s r (addP s c.2 0 (zw c.1 s) acc)
   rw[hm,A7 (i1 hc)]
   unfold G6
   simp
  |false=>exact A5 F s r _ (i2 hc)
theorem Cx (bad:Scene->Bool):∀(r:List z6) (l A:List Way),bV r l=some A->A.find? (fun w=>bad w.1)=(l.find? (fun w=>canF bad r w.1)).map (firstW bad r)
 | [],l,A,h=>by
   cases h
   show _=(l.find? (fun w=>bad w.1)).map (fun w=>w)
   simp
 |s::r,l,A,h=>by
  unfold bV at h
  split at h
  ·rw[Cx bad r _ A h,A5 (canF bad r) s l [] (fun a ha=>by cases ha)]
   rw[Option.map_map]
   rfl
  ·cases h
theorem Ws {n m:Nat}(hn:n<=12)(hm:m<=12)(steps:List z6)(l:List Way)(hl:l.length<=3000)(hok:V7 n l)(hway:SF m l)(s:z6)(hs:zS (n:Int) s=true)(si:Nat)(hsi:si<steps.length)(h12:steps.length<=12)(rs:List z6)
 (K:∀acc:List Way,acc.length<=3000->V7 n acc->SF (m+1) acc->Ev (fun k=>gZ k steps (steps.length:Int) ((si+1:Nat):Int) (acc.map Prod.fst) (acc.map Prod.snd)) (outP (bV rs acc))):
 ∀(rc:List Way) (ci:Nat) (acc:List Way),l.drop ci=rc->acc.length<=3000->V7 n acc->SF (m+1) acc->
  Ev (fun k=>gY k steps (steps.length:Int) (si:Int) (l.length:Int) (ci:Int) (l.map Prod.snd) s.1 s.2.1.1 s.2.1.2 s.2.2 (acc.map Prod.fst) (acc.map Prod.snd) (l.map Prod.fst)) (resP rs (goP s rc acc))
 | [],ci,acc,h,ha,hk,hw=>by
   have a:=zu h
   have ew:IntKind.i64.wrap ((si:Int)+1)=((si+1:Nat):Int):=by rw[ze (by omega) (by omega)];omega
   refine ES (fun k=>Wt k ..) ?_
   simp only[a.g,zgK,ew]
   unfold goP resP
   rw[zgG ha]
   exact K acc ha hk hw
 |c::rc,ci,acc,h,ha,hk,hw=>by
  have a:=zh h (by rw[zc];omega)
  have hlt:=a.lt
  have hg:l[ci]=c:=by have:=a.gt ((([],0),[]):Way);simpa[List.getD,hlt]using this
  have hco:=hok c a.mem
  have hgs:(l.map Prod.fst).getD (ci:Int).toNat ([],0)=c.1:=by
   rw[zgy,List.getD,List.getElem?_map,zgD hlt,hg];rfl
  have e1:decide ((ci:Int)<((l.map Prod.fst).length:Int))=true:=zgu (by rw[zgN];omega)
  have e2:decide ((ci:Int).toNat<(l.map Prod.fst).length)=true:=zgu (by rw[zgN];omega)
  refine ES (fun k=>Wt k ..) ?_
  simp only[a.g,a.z,e1,e2,hgs,zgJ]
  refine EB (Nr hco hs) ?_
  unfold goP
  exact Xp hn hm steps l hl s si ci c hlt hg (hway c a.mem) rs rc (zw c.1 s) (YQ hco hs).2
   (fun acc ha hk hw=>Ws hn hm steps l hl hok hway s hs si hsi h12 rs K rc (ci+1) acc a.next ha hk hw)
   (zw c.1 s) 0 acc rfl (fR hco hs) ha hk hw
theorem uZ (s:z6)(r:List z6)(l:List Way):bV (s::r) l=if(goP s l []).length<=3000 then bV r (goP s l [])else none:=rfl
theorem Wu {n:Nat}(hn:n<=12)(steps:List z6)(h12:steps.length<=12):∀(rs:List z6) (si:Nat) (l:List Way),steps.drop si=rs->(∀s∈rs,zS (n:Int) s=true)->l.length<=3000->V7 n l->SF si l->
 Ev (fun k=>gZ k steps (steps.length:Int) (si:Int) (l.map Prod.fst) (l.map Prod.snd)) (outP (bV rs l))
 | [],si,l,h,hs,hl,hok,hw=>by
   have a:=zu h
   refine ES (fun k=>Wv k ..) ?_
   simp only[a.g,zgK]
   exact EZ rfl
 |s::rs,si,l,h,hs,hl,hok,hw=>by
  have a:=zh h (by rw[zc];omega)
  have hlt:=a.lt
  have hso:=hs s (by simp)
  refine ES (fun k=>Wv k ..) ?_
  simp only[a.g,a.z,a.get,zgJ]
  have:=Ws hn (by omega) steps l hl hok hw s hso si hlt h12 rs (fun acc ha hk hw=>Wu hn steps h12 rs (si+1) acc a.next (fun q hq=>hs q (by simp[hq])) ha hk hw)
   l 0 [] rfl (by simp) (fun c hc=>by cases hc) (fun c hc=>by cases hc)
  rw[zgN]
  refine this.to ?_
  rw[uZ]
  unfold resP
  split
  ·rfl
  ·rfl
def yQ (t:Trick):List Way:=[((t.1,-1),[])]
theorem yT {t:Trick}(h:zi t=true):SceneOk t.1.length (t.1,-1)/\(∀s∈t.2.1,zS (t.1.length:Int) s=true):=by
 refine⟨⟨(zk h).2.2.2,rfl,by show(-1:Int)<=-1;decide,by show(-1:Int)<12;decide⟩, ?_⟩
 unfold zi at h
 simp only[zgx]at h
 exact fun s hs=>zgS.1 h.2.2.2.1 s hs
theorem cI {t:Trick}(h:zi t=true):V7 t.1.length (yQ t):=by
 intro c hc
 have e:c=((t.1,-1),[]):=by simpa[yQ]using hc
 rw[e]
 exact(yT h).1
theorem H8 (t:Trick):SF 0 (yQ t):=by
 intro c hc
 have e:c=((t.1,-1),[]):=by simpa[yQ]using hc
 rw[e]
 simp
theorem Nq (t:Trick)(h:zi t=true):Ev (fun k=>Ra k t) (outP (bV t.2.1 (yQ t))):=by
 obtain⟨h1,h2,h3,h4⟩:=zk h
 have hs:=yT h
 refine ES (fun k=>De k t) (EY (by rw[za];simp;omega) ?_)
 rw[List.nil_append]
 exact Wu h3 t.2.1 h1 t.2.1 0 (yQ t) rfl hs.2 (by simp[yQ]) (cI h) (H8 t)
def addU:List Scene->List Scene->List Scene
 | [],acc=>acc|x::r,acc=>if x∈acc then addU r acc else addU r (acc++[x])
def goU (s:z6):List Scene->List Scene->List Scene
 | [],acc=>acc|c::r,acc=>goU s r (addU (zw c s) acc)
theorem EF:∀(r acc:List Scene),acc.length<=(addU r acc).length/\(addU r acc).length<=acc.length+r.length
 | [],_=>⟨zgC _,zgC _⟩
 |x::r,acc=>by
  unfold addU
  split
  ·have:=EF r acc;simp only[zgB];omega
  ·have:=EF r (acc++[x]);simp only[zgB,zgA,List.length_nil]at this⊢;omega
theorem zcW (s:z6):∀(l acc:List Scene),acc.length<=(goU s l acc).length
 | [],_=>zgC _
 |c::r,acc=>zg1 (EF _ acc).1 (zcW s r _)
theorem EH (s:z6)(w:List Int):∀(r:List Scene) (j:Nat) (acc:List Way),(addP s w j r acc).map Prod.fst=addU r (acc.map Prod.fst)
 | [],_,_=>rfl
 |x::r,j,acc=>by
  unfold addP addU
  by_cases h:x∈acc.map Prod.fst
  ·rw[zgG h,zgG h,EH]
  ·rw[zgH h,zgH h,EH,List.map_append];rfl
theorem zc1 (s:z6):∀(l acc:List Way),(goP s l acc).map Prod.fst=goU s (l.map Prod.fst) (acc.map Prod.fst)
 | [],_=>rfl
 |c::r,acc=>by unfold goP goU;rw[zc1,EH];rfl
def SAll (n:Nat)(l:List Scene):Prop:=∀c∈l,SceneOk n c
theorem E0 {t:Trick}(h:zi t=true):SAll t.1.length [(t.1,-1)]:=by
 intro c hc
 have e:c=(t.1,-1):=by simpa using hc
 rw[e]
 exact(yT h).1
def levU:List z6->List Scene->Option (List (List Scene))
 | [],l=>some [l]
 |s::r,l=>if(goU s l []).length<=3000 then(levU r (goU s l [])).map (l::·)else none
theorem KT (s:z6)(r:List z6)(l:List Scene):levU (s::r) l=if(goU s l []).length<=3000 then(levU r (goU s l [])).map (l::·)else none:=rfl
def outU (pre:List (List Scene)):Option (List (List Scene))->List (List Scene)×Bool
 |some l=>(pre++l,true)|none=>([],false)
def resU (pre:List (List Scene))(r:List z6)(A:List Scene):List (List Scene)×Bool:=if A.length<=3000 then outU pre (levU r A)else outU pre none
theorem GC {n:Nat}(h1:1<=n){c:Scene}(hc:SceneOk n c):c.1≠[]:=fun e=>by have:=hc.len;rw[e]at this;simp at this;omega
theorem FQ:∀(r:List z6) (l:List Way),(levU r (l.map Prod.fst)).map (fun L=>L.getLastD [])=(bV r l).map (fun A=>A.map Prod.fst)/\(∀L,levU r (l.map Prod.fst)=some L->L.length=r.length+1)
 | [],l=>⟨rfl,fun L h=>by cases h;rfl⟩
 |s::r,l=>by
  have e:goU s (l.map Prod.fst) []=(goP s l []).map Prod.fst:=by rw[zc1];rfl
  have hlen:(goU s (l.map Prod.fst) []).length=(goP s l []).length:=by rw[e,zgN]
  obtain⟨h1,h2⟩:=FQ r (goP s l [])
  rw[KT,uZ,hlen,e]
  by_cases hc:(goP s l []).length<=3000
  ·rw[zgG hc,zgG hc]
   constructor
   ·rw[<-h1]
    cases hL:levU r ((goP s l []).map Prod.fst)with
    |none=>rfl
    |some L=>
     have:=h2 L hL
     cases L with
     |nil=>simp at this
     |cons a L=>simp[List.getLastD]
   ·intro L hL
    obtain⟨L',hL',rfl⟩:=zgQ.1 hL
    rw[zgB,h2 L' hL',zgB]
  ·rw[zgH hc,zgH hc]
   exact⟨rfl,fun L hL=>by cases hL⟩
def fE (t:Trick):Option (List Way):=bV t.2.1 (yQ t)
def x4 (t:Trick):List Scene×Bool:=
 if zi t then(match fE t with|some A=>(A.map Prod.fst,true)|none=>([],false))else([],false)
theorem Hw (t:Trick)(a1:t.1.length<=maxLen)(a2:t.2.1.length<=maxLen):Ev (fun k=>Sb k t) (x4 t):=by
 refine ES (fun k=>Hx k t) (EB (wC t a1 a2) (EI (fun h=>EZ ?_) (fun h=> ?_)))
 ·have:zi t=false:=by simpa using h
  simp[x4,this]
 ·have e:zi t=true:=by simpa using h
  refine EB (Nq t e) (EZ ?_)
  unfold x4 fE
  rw[zgG e]
  cases bV t.2.1 (yQ t)with
  |none=>rfl
  |some A=>rfl
theorem Xh:∀(r:List z6) (l:List Way) (A:List Way),l.length<=3000->bV r l=some A->A.length<=3000
 | [],l,A,hl,h=>by cases h;exact hl
 |s::r,l,A,hl,h=>by
  rw[uZ]at h
  split at h
  ·rename_i hc;exact Xh r _ A hc h
  ·cases h
theorem UB {n:Nat}:∀(r:List z6) (l:List Way) (A:List Way),(∀s∈r,zS (n:Int) s=true)->V7 n l->bV r l=some A->V7 n A
 | [],l,A,_,hl,h=>by cases h;exact hl
 |s::r,l,A,hs,hl,h=>by
  rw[uZ]at h
  split at h
  ·exact UB r _ A (fun q hq=>hs q (by simp[hq])) (zcZ (hs s (by simp)) l [] hl (fun c hc=>by cases hc)) h
  ·cases h
theorem EC (t:Trick):(x4 t).1.length<=3000/\SAll t.1.length (x4 t).1:=by
 unfold x4
 split
 ·rename_i h
  cases hE:fE t with
  |none=>exact⟨Nat.zero_le _,fun c hc=>by cases hc⟩
  |some A=>
   obtain⟨h1,h2,h3,h4⟩:=zk h
   have hs:=yT h
   refine⟨by show(A.map Prod.fst).length<=_;rw[zgN];exact Xh _ _ A (by simp[yQ]) hE,fun c hc=> ?_⟩
   obtain⟨d,hd,rfl⟩:=zgY.1 (show c∈A.map Prod.fst from hc)
   exact UB t.2.1 (yQ t) A hs.2 (cI h) hE d hd
 ·exact⟨Nat.zero_le _,fun c hc=>by cases hc⟩
end Qq
