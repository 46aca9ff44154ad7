/-
  slices.SortFunc, slices.CompactFunc, slices.Reverse of the seat's program, as functions of the library.
  Conditions: none.
-/
import Derived.Test.YtdcnefakiajgdaaGreatDoorLyt
import Derived.Test.YtdcnefakiajgdaaGreatDoorVd
import Derived.Test.YtdcnefakiajgdaaGreatDoorCmf
import Derived.Test.YtdcnefakiajgdaaGreatDoorPSrt
namespace Go.Proofs
open Go.Shelf Go.Vt
set_option maxRecDepth 100000
theorem Tryz.cmpGives (x y:List Int)(hx:x.length<=9223372036854775807)(hy:y.length<=9223372036854775807):GivesO Tryz.prog g1 271 Pc.slices_Compare_int_fi (x,y) (cmpI x y):=by
 obtain⟨k,hk⟩:=Qc.zfL x y hx hy
 exact(gives (P:=Tryz.prog) (gw:=Pc.gw) Tryz.checked.mixed Pc.hE Pc.hF (f:=271) (ids:=[]) (by kernel_rfl) hk).o rfl
theorem Tryz.eqGives (x y:List Int)(hx:x.length<=9223372036854775807)(hy:y.length<=9223372036854775807):GivesO Tryz.prog g1 258 Pc.slices_Equal_int_fi (x,y) (decide (x=y)):=by
 obtain⟨k,hk⟩:=Qc.zgh x y hx hy
 exact(gives (P:=Tryz.prog) (gw:=Pc.gw) Tryz.checked.mixed Pc.hE Pc.hF (f:=258) (ids:=[]) (by kernel_rfl) hk).o rfl
theorem Tryz.sortOne {gw:Gw}:OneF Tryz.prog gw 270 (sortFi 271):=
 zfl (ρ:=Tryz.laysSort_ren) Tryz.laysSort (fn:=Tryz.f270) Tryz.func270 (by kernel_rfl) (by kernel_rfl) (enters_of Tryz.func271 (by kernel_rfl) rfl) Tryz.cmpGives
theorem Tryz.compactOne {gw:Gw}:OneF Tryz.prog gw 272 compactFi:=zbA Tryz.eqGives
theorem Tryz.revOne {gw:Gw}:OneF Tryz.prog gw 245 reverseFi:=za4 (ρ:=Tryz.laysRev_ren) Tryz.laysRev (fn:=Tryz.f245) Tryz.func245 (by kernel_rfl) (by kernel_rfl)
theorem Tryz.growOne {gw:Gw}:OneF Tryz.prog gw 244 growFi:=
 zfC (ρ:=Tryz.laysGrow_ren) Tryz.laysGrow _ (.int .i64 0) rfl rfl rfl rfl (fun n=>by simp[Builtin.zeroCells,Value.cells]) (fn:=Tryz.f244) Tryz.func244 (by kernel_rfl) (by kernel_rfl)
#print axioms Tryz.growOne
#print axioms Tryz.sortOne
#print axioms Tryz.compactOne
#print axioms Tryz.revOne
end Go.Proofs
