/-
  The plain machine's telling of functions of the program. Printed by gen.py.
  Conditions: none; these are definitions and equations that the kernel checks.
-/
import Derived.Test.YtdcnefakiajgdaaGreatDoorVd
import Derived.Test.YtdcnefakiajgdaaGreatDoorProg
set_option linter.unusedVariables false
namespace Pc
open Go Go.Vt
set_option maxRecDepth 100000
noncomputable def tyL:List (Nat×TI):=[(3, .one (.int .i64)),
 (25, .one (.slice (.int .i64)))]
noncomputable def V1:Code:=(Go.Proofs.Tryz.f293.body).getD .skip
noncomputable def JR:Nat->Option (List Hint)
 |_=>none
noncomputable def cmp_isNaN_int_fi:Fi:=⟨[.v (.int .i64) false],[(false,[⟨.bool,none⟩])],none,V1,Go.Proofs.Tryz.f293.results.toList,6,JR⟩
noncomputable def Yb:Code:=(Go.Proofs.Tryz.f281.body).getD .skip
noncomputable def P5:Nat->Option (List Hint)
 |_=>none
noncomputable def cmp_Compare_int_fi:Fi:=⟨[.v (.int .i64) false, .v (.int .i64) false],[(false,[⟨.int .i64,none⟩])],none,Yb,Go.Proofs.Tryz.f281.results.toList,20,P5⟩
noncomputable def yZ:Code:=(Go.Proofs.Tryz.f271.body).getD .skip
noncomputable def UI:Nat->Option (List Hint)
 |2=>some [.keep 0, .keep 1, .keep 9, .keep 10, .keep 11]
 |_=>none
noncomputable def slices_Compare_int_fi:Fi:=⟨[.v (.slice (.int .i64)) false, .v (.slice (.int .i64)) false],[(false,[⟨.int .i64,none⟩])],none,yZ,Go.Proofs.Tryz.f271.results.toList,36,UI⟩
noncomputable def xp:Code:=(Go.Proofs.Tryz.f258.body).getD .skip
noncomputable def SP:Nat->Option (List Hint)
 |4=>some [.keep 0, .keep 1, .keep 12, .keep 13]
 |_=>none
noncomputable def slices_Equal_int_fi:Fi:=⟨[.v (.slice (.int .i64)) false, .v (.slice (.int .i64)) false],[(false,[⟨.bool,none⟩])],none,xp,Go.Proofs.Tryz.f258.results.toList,26,SP⟩
noncomputable def fnL:List (Nat×List Nat×Fi):=[(293,[],cmp_isNaN_int_fi),
 (281,[],cmp_Compare_int_fi),
 (271,[],slices_Compare_int_fi),
 (258,[],slices_Equal_int_fi)]
noncomputable def E:Env:=⟨lookT tyL,lookF fnL⟩
noncomputable def cr (k:Nat)(x:Int):Option (Bool):=aFn E cmp_isNaN_int_fi k x
noncomputable def b0 (k:Nat)(x:Int×Int):Option (Int):=aFn E cmp_Compare_int_fi k x
noncomputable def jc (k:Nat)(x:(List Int)×List Int):Option (Int):=aFn E slices_Compare_int_fi k x
noncomputable def xS (k:Nat)(v0:List Int)(v1:List Int)(v9:List Int)(v10:Int)(v11:Int):Option (Int):=aRun E k slices_Compare_int_fi.rs (ioOf slices_Compare_int_fi.ps) slices_Compare_int_fi.res slices_Compare_int_fi.hints [.code (sub yZ [1,0,1,0,0,0]), .code (sub yZ [1,0,1,0,0,1]), .inLoop (sub yZ [1,0,1,0,0]), .inBlock 0, .code (sub yZ [1,1])] ⟨[.cv (.val (.slice (.int .i64)) v0), .cv (.val (.slice (.int .i64)) v1), .cv .dead, .cv .dead, .cv .dead, .cv .dead, .cv .dead, .cv .dead, .cv .dead, .cv (.val (.slice (.int .i64)) v9), .cv (.val (.int .i64) v10), .cv (.val (.int .i64) v11), .cv .dead, .cv .dead, .cv .dead, .cv .dead, .cv .dead, .cv .dead, .cv .dead, .cv .dead, .cv .dead, .cv .dead, .cv .dead, .cv .dead, .cv .dead, .cv .dead, .cv .dead, .cv .dead, .cv .dead, .cv .dead, .cv .dead, .cv .dead, .cv .dead, .cv .dead, .cv .dead, .cv .dead],[],true⟩
noncomputable def y9 (k:Nat)(x:(List Int)×List Int):Option (Bool):=aFn E slices_Equal_int_fi k x
noncomputable def z7 (k:Nat)(v0:List Int)(v1:List Int)(v12:Int)(v13:Int):Option (Bool):=aRun E k slices_Equal_int_fi.rs (ioOf slices_Equal_int_fi.ps) slices_Equal_int_fi.res slices_Equal_int_fi.hints [.code (sub xp [1,1,0,1,0,0,0]), .code (sub xp [1,1,0,1,0,0,1]), .inLoop (sub xp [1,1,0,1,0,0]), .inBlock 0, .code (sub xp [1,1,1])] ⟨[.cv (.val (.slice (.int .i64)) v0), .cv (.val (.slice (.int .i64)) v1), .cv .dead, .cv .dead, .cv .dead, .cv .dead, .cv .dead, .cv .dead, .cv .dead, .cv .dead, .cv .dead, .cv .dead, .cv (.val (.int .i64) v12), .cv (.val (.int .i64) v13), .cv .dead, .cv .dead, .cv .dead, .cv .dead, .cv .dead, .cv .dead, .cv .dead, .cv .dead, .cv .dead, .cv .dead, .cv .dead, .cv .dead],[],true⟩
theorem MN (k:Nat)(x0:Int):cr (k+1) x0=
 some (!(x0==x0)):=by kernel_rfl
theorem QA (k:Nat)(x0:Int)(x1:Int):b0 (k+1) (x0,x1)=
 (cr k x0).bind fun y1=>
 (cr k x1).bind fun y2=>
 bif y1 then
  (bif y2 then
    (some (0:Int))
  else(some (-1:Int)))
 else(bif y2 then
  (some (1:Int))
  else(bif decide (x0<x1)then
   (some (-1:Int))
   else(bif decide (x0>x1)then
    (some (1:Int))
    else(some (0:Int))))):=by kernel_rfl
theorem Wl (k:Nat)(x0:List Int)(x1:List Int):jc (k+1) (x0,x1)=
 xS k x0 x1 x0 (x0.length:Int) (0:Int):=by kernel_rfl
theorem wm (k:Nat)(v0:List Int)(v1:List Int)(v9:List Int)(v10:Int)(v11:Int):xS (k+1) v0 v1 v9 v10 v11=
 bif decide (v11<v10)then
  (bif decide (0<=v11)then
    (bif decide (v11<(v9.length:Int))then
      (bif decide (v11>=(v1.length:Int))then
        (some (1:Int))
      else(bif decide (0<=v11)then
       (bif decide (v11<(v1.length:Int))then
         ((b0 k ((v9.getD v11.toNat (0:Int)),(v1.getD v11.toNat (0:Int)))).bind fun y1=>
         bif(!(y1==(0:Int)))then
          (some y1)
         else(xS k v0 v1 v9 v10 (IntKind.i64.wrap (v11+(1:Int)))))
       else(none))
       else(none)))
    else(none))
  else(none))
 else(bif decide ((v0.length:Int)<(v1.length:Int))then
  (some (-1:Int))
  else(some (0:Int))):=by kernel_rfl
theorem uF (k:Nat)(x0:List Int)(x1:List Int):y9 (k+1) (x0,x1)=
 bif(!((x0.length:Int)==(x1.length:Int)))then
  (some false)
 else(z7 k x0 x1 (x0.length:Int) (0:Int)):=by kernel_rfl
theorem xd (k:Nat)(v0:List Int)(v1:List Int)(v12:Int)(v13:Int):z7 (k+1) v0 v1 v12 v13=
 bif decide (v13<v12)then
  (bif decide (0<=v13)then
    (bif decide (v13<(v0.length:Int))then
      (bif decide (0<=v13)then
        (bif decide (v13<(v1.length:Int))then
          (bif(!((v0.getD v13.toNat (0:Int))==(v1.getD v13.toNat (0:Int))))then
            (some false)
          else(z7 k v0 v1 v12 (IntKind.i64.wrap (v13+(1:Int)))))
        else(none))
      else(none))
    else(none))
  else(none))
 else(some true):=by kernel_rfl
abbrev gw:Gw:=⟨fun w=>True,true⟩
theorem ty_3:TyOk Go.Proofs.Tryz.prog 3 (.one (.int .i64)):=G4 (by kernel_rfl) (by kernel_rfl) (by kernel_rfl)
theorem zff:TyOk Go.Proofs.Tryz.prog 25 (.one (.slice (.int .i64))):=w7 (e:=3) (by kernel_rfl) (by kernel_rfl) (by kernel_rfl) (vF (by kernel_rfl) (by kernel_rfl) (by kernel_rfl))
theorem hE:∀T ti,E.ty T=some ti->TyOk Go.Proofs.Tryz.prog T ti:=FO (l:=tyL) ⟨ty_3,zff,trivial⟩
theorem MM:OneF Go.Proofs.Tryz.prog gw 293 cmp_isNaN_int_fi:=JH (fn:=Go.Proofs.Tryz.f293) (c:=V1) Go.Proofs.Tryz.func293 (by kernel_rfl) (by kernel_rfl) rfl rfl (by kernel_rfl) (by kernel_rfl) rfl
theorem Qz:OneF Go.Proofs.Tryz.prog gw 281 cmp_Compare_int_fi:=JH (fn:=Go.Proofs.Tryz.f281) (c:=Yb) Go.Proofs.Tryz.func281 (by kernel_rfl) (by kernel_rfl) rfl rfl (by kernel_rfl) (by kernel_rfl) rfl
theorem Wk:OneF Go.Proofs.Tryz.prog gw 271 slices_Compare_int_fi:=JH (fn:=Go.Proofs.Tryz.f271) (c:=yZ) Go.Proofs.Tryz.func271 (by kernel_rfl) (by kernel_rfl) rfl rfl (by kernel_rfl) (by kernel_rfl) rfl
theorem TQ:OneF Go.Proofs.Tryz.prog gw 258 slices_Equal_int_fi:=JH (fn:=Go.Proofs.Tryz.f258) (c:=xp) Go.Proofs.Tryz.func258 (by kernel_rfl) (by kernel_rfl) rfl rfl (by kernel_rfl) (by kernel_rfl) rfl
theorem hF:FnOk Go.Proofs.Tryz.prog gw E:=FP (l:=fnL) ⟨MM,Qz,Wk,TQ,trivial⟩
end Pc
