/-
  A session comes to what Qco tells.
  Conditions: texts are such as a machine bears.
-/
import Derived.Test.YtdcnefakiajgdaaGreatDoorQcy
set_option linter.unusedSimpArgs false
set_option linter.unusedVariables false
namespace Qq
open Go Go.Vt Pt
theorem JQ:∀(l cur:List UInt8),∀a∈cutN cur l,a.length<=cur.length+l.length
 | [],cur,a,h=>by
   have:a=cur:=by simpa[cutN]using h
   rw[this];omega
 |c::r,cur,a,h=>by
  unfold cutN at h
  split at h
  ·rcases zgO.1 h with e|h
   ·rw[e];omega
   ·have:=JQ r [] a h
    simp at this⊢;omega
  ·have:=JQ r (cur++[c]) a h
   simp at this⊢;omega
theorem Er:∀(l cur:List UInt8),(cutN cur l).length<=l.length+1
 | [],cur=>by simp[cutN]
 |c::r,cur=>by
  unfold cutN
  split
  ·have:=Er r []
   simp;omega
  ·have:=Er r (cur++[c])
   simp;omega
theorem GU (s:ByteArray):∀a∈eh s,a.size<=s.size:=by
 intro a h
 unfold eh at h
 obtain⟨x,hx,rfl⟩:=zgY.1 h
 have:=JQ _ _ x hx
 rw[zj]
 have e:s.data.toList.length=s.size:=by simp
 simp at this;omega
theorem CQ (s:ByteArray):(eh s).length<=s.size+1:=by
 unfold eh
 rw[zgN]
 have:=Er s.data.toList []
 have e:s.data.toList.length=s.size:=by simp
 omega
theorem zae (s:ByteArray):eh s≠[]:=by
 unfold eh
 intro e
 exact zfK _ _ (List.map_eq_nil_iff.1 e)
theorem Lu (s:ByteArray):∀a∈cJ s,a.size<=s.size:=by
 unfold cJ
 split
 ·exact fun a h=>GU s a (List.dropLast_subset _ h)
 ·exact GU s
theorem EO (s:ByteArray)(hm:s.size<=1048576):Ev (fun k=>Vy k s) (cJ s):=by
 have hl:=CQ s
 have hn:0<(eh s).length:=List.length_pos_iff.2 (zae s)
 refine ES (fun k=>Jg k s) (EB (Mz s hm) ?_)
 unfold cJ
 have e1:IntKind.i64.wrap (((eh s).length:Int)-1)=(((eh s).length-1:Nat):Int):=by rw[ze (by omega) (by omega)];omega
 have e2:(eh s).getD ((eh s).length-1) T0=(eh s).getLastD T0:=by
  rw[List.getLastD_eq_getLast?,List.getLast?_eq_getElem?];rfl
 simp only[zn,e1,zgy,e2]
 refine EY (zgu (by omega)) (EY (zgu (by omega)) (EY (zgu (by omega)) ?_))
 by_cases h:(eh s).getLastD T0=T0
 ·rw[zgG h]
  refine EY (zgu h) (EY (zgu (by omega)) (EY (zgu (by omega)) (EZ ?_)))
  rw[List.drop_zero,List.dropLast_eq_take]
 ·rw[zgH h]
  exact EN (zgv h) (EP _)
theorem QV (ls:List ByteArray)(h40:ls.length<=40)(hz:∀a∈ls,a.size<=1048576):∀(r:List ByteArray) (i:Nat) (c:Cn) (acc:ByteArray),ls.drop i=r->CnOk c->acc.size<=30001*i->
 Ev (fun k=>vD k ls acc ls (ls.length:Int) (i:Int) c.1.1 c.1.2.1 c.1.2.2.1 c.1.2.2.2.1 c.1.2.2.2.2 c.2.1 c.2.2) ((runLs reF r c acc).2,(ls.length:Int))
 | [],i,c,acc,h,hc,ha=>by
   have a:=zu h
   exact ES (fun k=>aJ k ..) (EN a.g (EP _))
 |x::r,i,c,acc,h,hc,ha=>by
  have a:=zh h (zJ (by omega))
  have lt:=a.lt
  refine ES (fun k=>aJ k ..) ?_
  simp only[a.g,a.z,a.get,a.w,zgJ,zn]
  have hs:=Gk hc x
  have hk:=AG hc x
  refine EB (zbR hc x (hz x a.mem)) ?_
  show Ev _ ((runLs reF r (ju reF c x).1 (if(ju reF c x).2=T0 then acc else acc++((ju reF c x).2++nl))).2,(ls.length:Int))
  have e2:(fl (ju reF c x)).2.2.2.2.2.2.2=(ju reF c x).2:=rfl
  have en:T25.size=1:=rfl
  rw[e2]
  by_cases e:(ju reF c x).2=T0
  ·rw[zgG e]
   refine EN (by simp[e]) ?_
   exact QV ls h40 hz r (i+1) (ju reF c x).1 acc a.next hk (by omega)
  ·rw[zgH e]
   refine EY (by simp[e]) (EY (zgu (by omega)) (EY (zgu (by rw[zg4];omega)) ?_))
   exact QV ls h40 hz r (i+1) (ju reF c x).1 (acc++((ju reF c x).2++nl)) a.next hk (by
    have:nl.size=1:=rfl
    rw[zg4,zg4];omega)
theorem EQ (s:ByteArray)(hm:s.size<=1048576):Ev (fun k=>Vz k s) (sessionF reF s):=by
 refine ES (fun k=>Jh k s) (EB (EO s hm) ?_)
 unfold sessionF
 by_cases h:(cJ s).length>40
 ·rw[zgG h];exact EY (zgu (by omega)) (EP _)
 ·rw[zgH h]
  refine EN (zgv (by omega)) (EB Jq ?_)
  exact QV (cJ s) (by omega) (fun a ha=>by have:=Lu s a ha;omega) (cJ s) 0 con1 T0 rfl zdn (Nat.zero_le _)
end Qq
