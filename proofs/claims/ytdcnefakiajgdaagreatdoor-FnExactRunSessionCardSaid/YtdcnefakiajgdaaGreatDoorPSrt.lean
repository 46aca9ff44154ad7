/-
  What the library's comparisons of rows of numbers come to.
  Conditions: none.
-/
import Derived.Test.YtdcnefakiajgdaaGreatDoorPc
import Derived.Test.YtdcnefakiajgdaaGreatDoorVd
import Derived.Laws.BitsLemmas
set_option linter.unusedSimpArgs false
set_option linter.unusedVariables false
namespace Qc
open Go Go.Vt
theorem zc:maxLen=9223372036854775807:=by unfold maxLen;decide
theorem ze {x:Int}(h1: -9223372036854775808<=x)(h2:x<=9223372036854775807):IntKind.i64.wrap x=x:=by
 rw[IntKind.wrap_i64];omega
structure AtCons {α:Type}(xs:List α)(i:Nat)(y:α)(rest:List α):Prop where
 lt:i<xs.length
 g:decide ((i:Int)<(xs.length:Int))=true
 z:decide ((0:Int)<=(i:Int))=true
 n:decide ((i:Int).toNat<xs.length)=true
 get:∀d,xs.getD (i:Int).toNat d=y
 w:IntKind.i64.wrap ((i:Int)+1)=((i+1:Nat):Int)
 next:xs.drop (i+1)=rest
 mem:y∈xs
 gt:∀d,xs.getD i d=y
 le:decide ((i:Int)<=(xs.length:Int))=true
theorem zh {α:Type}{xs:List α}{i:Nat}{y:α}{rest:List α}(h:xs.drop i=y::rest)(hm:xs.length<=maxLen):AtCons xs i y rest:=by
 rw[zc]at hm
 have lt:i<xs.length:=by
  rcases Nat.lt_or_ge i xs.length with h1|h1
  ·exact h1
  ·rw[List.drop_eq_nil_of_le h1]at h;cases h
 have e:=List.drop_eq_getElem_cons lt
 rw[e]at h
 have hy:xs[i]=y:=by injection h
 refine⟨lt,by simp;omega,by simp,by simp;omega,fun d=>by simp[List.getD,lt,hy],by rw[ze (by omega) (by omega)];simp,by injection h,by rw[<-hy];exact zg2 lt,fun d=>by simp[List.getD,lt,hy],by simp;omega⟩
structure AtNil {α:Type}(xs:List α)(i:Nat):Prop where
 ge:xs.length<=i
 g:decide ((i:Int)<(xs.length:Int))=false
theorem zu {α:Type}{xs:List α}{i:Nat}(h:xs.drop i=[]):AtNil xs i:=by
 have ge:xs.length<=i:=List.drop_eq_nil_iff.1 h
 exact⟨ge,by simp;omega⟩
end Qc
namespace Qc
open Go Go.Vt Pc
theorem vI (xs ys:List Int)(hx:xs.length<=maxLen)(hy:ys.length<=maxLen):∀(r s:List Int) (i:Nat),xs.drop i=r->ys.drop i=s->s.length=r.length->Ev (fun k=>z7 k xs ys (xs.length:Int) (i:Int)) (r==s)
 | [],[],i,h1,h2,hl=>by
   have a:=zu h1
   refine ES (fun k=>xd k xs ys _ i) ?_
   simp only[a.g,zgK]
   exact EP _
 |x::r,y::s,i,h1,h2,hl=>by
  have a:=zh h1 hx
  have b:=zh h2 hy
  refine ES (fun k=>xd k xs ys _ i) ?_
  simp only[a.g,a.z,b.g,a.get,b.get,a.w,zgJ]
  have ih:=vI xs ys hx hy r s (i+1) a.next b.next (by simpa using hl)
  refine EI (fun h=>EZ ?_) (fun h=>ih.to ?_)
  ·have:¬x=y:=by simpa using h
   simp[this]
  ·have:x=y:=by simpa using h
   simp[this]
 | [],_::_,_,_,_,hl=>by simp at hl
 |_::_,[],_,_,_,hl=>by simp at hl
theorem aT (xs ys:List Int)(hx:xs.length<=maxLen)(hy:ys.length<=maxLen):Ev (fun k=>y9 k (xs,ys)) (xs==ys):=by
 refine ES (fun k=>uF k xs ys) (EI (fun h=>EZ ?_) (fun h=>vI xs ys hx hy xs ys 0 rfl rfl ?_))
 ·have h' :¬xs.length=ys.length:=by simp at h;omega
  have:¬xs=ys:=fun e=>h' (by rw[e])
  simp[this]
 ·simp at h;omega
def cmpL:List Int->List Int->Int
 | [],b=>if 0<b.length then-1 else 0
 |_::_,[]=>1
 |x::a,y::b=>if x=y then cmpL a b else if x<y then-1 else 1
theorem En {α:Type}{xs r:List α}{i:Nat}(h:xs.drop i=r):xs.length-i=r.length:=by rw[<-h,zgR]
theorem zbB (x y:Int):Ev (fun k=>b0 k (x,y)) (if x<y then-1 else if x>y then 1 else 0):=by
 have hn:∀z:Int,Ev (fun k=>cr k z) false:=fun z=>ES (fun k=>MN k z) (EZ (by simp))
 refine ES (fun k=>QA k x y) (EB (hn x) (EB (hn y) (EN rfl (EN rfl (EI (fun c=>EZ ?_) (fun c=>EI (fun c2=>EZ ?_) (fun c2=>EZ ?_)))))))
 ·have:x<y:=by simpa using c
  rw[zgG this]
 ·have h1:¬x<y:=by simpa using c
  have h2:x>y:=by simpa using c2
  rw[zgH h1,zgG h2]
 ·have h1:¬x<y:=by simpa using c
  have h2:¬x>y:=by simpa using c2
  rw[zgH h1,zgH h2]
theorem QM (xs ys:List Int)(hm:xs.length<=maxLen)(hy:ys.length<=maxLen):∀(r s:List Int) (i:Nat),i<=xs.length->xs.drop i=r->ys.drop i=s->Ev (fun k=>xS k xs ys xs (xs.length:Int) (i:Int)) (cmpL r s)
 | [],s,i,hi,h,h2=>by
   have a:=zu h
   have:=a.ge
   have hl:=En h2
   refine ES (fun k=>wm k ..) ?_
   simp only[a.g,zgK]
   unfold cmpL
   refine EI (fun c=>EZ ?_) (fun c=>EZ ?_)
   ·rw[zgG (by simp at c;omega)]
   ·rw[zgH (by simp at c;omega)]
 |x::r,[],i,hi,h,h2=>by
  have a:=zh h hm
  have b:=zu h2
  refine ES (fun k=>wm k ..) ?_
  simp only[a.g,a.z,zgJ]
  refine EY (by have:=b.ge;simp;omega) (EZ rfl)
 |x::r,y::s,i,hi,h,h2=>by
  have a:=zh h hm
  have b:=zh h2 hy
  have hlt:=a.lt
  have ih:=QM xs ys hm hy r s (i+1) (by omega) a.next b.next
  refine ES (fun k=>wm k ..) ?_
  simp only[a.g,a.z,a.get,a.w,zgJ]
  refine EN (by have:=b.lt;simp;omega) ?_
  simp only[b.g,b.get,zgJ]
  unfold cmpL
  refine EB (zbB x y) (EI (fun c=>EZ ?_) (fun c=>ih.to ?_))
  ·by_cases h3:x<y
   ·rw[zgG h3,zgH (by omega),zgG h3]
   ·by_cases h4:x>y
    ·rw[zgH h3,zgG h4,zgH (by omega),zgH h3]
    ·rw[zgH h3,zgH h4]at c;simp at c
  ·have:x=y:=by
    by_cases h3:x<y
    ·rw[zgG h3]at c;simp at c
    ·by_cases h4:x>y
     ·rw[zgH h3,zgG h4]at c;simp at c
     ·omega
   rw[zgG this]
theorem zbV (xs ys:List Int)(hm:xs.length<=maxLen)(hy:ys.length<=maxLen):Ev (fun k=>jc k (xs,ys)) (cmpL xs ys):=
 ES (fun k=>Wl k xs ys) (QM xs ys hm hy xs ys 0 (by omega) rfl rfl)
theorem CX:∀a b,cmpL a b=cmpI a b
 | [],_=>rfl
 |_::_,[]=>rfl
 |x::a,y::b=>by unfold cmpL cmpI;rw[CX a b]
theorem zfL (x y:List Int)(hx:x.length<=9223372036854775807)(hy:y.length<=9223372036854775807):∃k,jc k (x,y)=some (cmpI x y):=by
 have h:=zbV x y (by rw[zc];exact hx) (by rw[zc];exact hy)
 rw[CX]at h
 exact h.get
theorem zgh (x y:List Int)(hx:x.length<=9223372036854775807)(hy:y.length<=9223372036854775807):∃k,y9 k (x,y)=some (decide (x=y)):=by
 have h:=aT x y (by rw[zc];exact hx) (by rw[zc];exact hy)
 have e:(x==y)=decide (x=y):=by by_cases e:x=y<;>simp[e]
 rw[e]at h
 exact h.get
end Qc
