/-
  The plain machine's telling of functions of the program. Printed by gen.py.
  Conditions: none; these are definitions and equations that the kernel checks.
-/
import Derived.Test.YtgbbdagfjenmeaaGreatDoorVd
import Derived.Test.YtgbbdagfjenmeaaGreatDoorProg
namespace Pc
open Go Go.Vt
set_option linter.unusedVariables false
set_option maxRecDepth 100000
noncomputable def tyL : List (Nat × TI) := [(3, .one (.int .i64)),
 (23, .one (.slice (.int .i64)))]
noncomputable def bK : Code := (Go.Proofs.Tryz.f243.body).getD .skip
noncomputable def UD : Nat → Option (List Hint)
 | _ => none
noncomputable def cmp_isNaN_int_fi : Fi := ⟨[.v (.int .i64) false], [(false, [⟨.bool, none⟩])], none, bK, Go.Proofs.Tryz.f243.results.toList, 6, UD⟩
noncomputable def gQ : Code := (Go.Proofs.Tryz.f223.body).getD .skip
noncomputable def Xr : Nat → Option (List Hint)
 | _ => none
noncomputable def cmp_Compare_int_fi : Fi := ⟨[.v (.int .i64) false, .v (.int .i64) false], [(false, [⟨.int .i64, none⟩])], none, gQ, Go.Proofs.Tryz.f223.results.toList, 20, Xr⟩
noncomputable def yr : Code := (Go.Proofs.Tryz.f209.body).getD .skip
noncomputable def ak : Nat → Option (List Hint)
 | 2 => some [.keep 0, .keep 1, .keep 9, .keep 10, .keep 11]
 | _ => none
noncomputable def slices_Compare_int_fi : Fi := ⟨[.v (.slice (.int .i64)) false, .v (.slice (.int .i64)) false], [(false, [⟨.int .i64, none⟩])], none, yr, Go.Proofs.Tryz.f209.results.toList, 36, ak⟩
noncomputable def yF : Code := (Go.Proofs.Tryz.f65.body).getD .skip
noncomputable def ZJ : Nat → Option (List Hint)
 | 4 => some [.keep 0, .keep 1, .keep 12, .keep 13]
 | _ => none
noncomputable def slices_Equal_int_fi : Fi := ⟨[.v (.slice (.int .i64)) false, .v (.slice (.int .i64)) false], [(false, [⟨.bool, none⟩])], none, yF, Go.Proofs.Tryz.f65.results.toList, 26, ZJ⟩
noncomputable def fnL : List (Nat × List Nat × Fi) := [(243, [], cmp_isNaN_int_fi),
 (223, [], cmp_Compare_int_fi),
 (209, [], slices_Compare_int_fi),
 (65, [], slices_Equal_int_fi)]
noncomputable def E : Env := ⟨lookT tyL, lookF fnL⟩
noncomputable def uM (k : Nat) (x : Int) : Option (Bool) := aFn E cmp_isNaN_int_fi k x
noncomputable def jz (k : Nat) (x : Int × Int) : Option (Int) := aFn E cmp_Compare_int_fi k x
noncomputable def wV (k : Nat) (x : (List Int) × List Int) : Option (Int) := aFn E slices_Compare_int_fi k x
noncomputable def yX (k : Nat) (v0 : List Int) (v1 : List Int) (v9 : List Int) (v10 : Int) (v11 : Int) : Option (Int) := aRun E k slices_Compare_int_fi.rs (ioOf slices_Compare_int_fi.ps) slices_Compare_int_fi.res slices_Compare_int_fi.hints [.code (sub yr [1, 0, 1, 0, 0, 0]), .code (sub yr [1, 0, 1, 0, 0, 1]), .inLoop (sub yr [1, 0, 1, 0, 0]), .inBlock 0, .code (sub yr [1, 1])] ⟨[.cv (.val (.slice (.int .i64)) v0), .cv (.val (.slice (.int .i64)) v1), .cv .dead, .cv .dead, .cv .dead, .cv .dead, .cv .dead, .cv .dead, .cv .dead, .cv (.val (.slice (.int .i64)) v9), .cv (.val (.int .i64) v10), .cv (.val (.int .i64) v11), .cv .dead, .cv .dead, .cv .dead, .cv .dead, .cv .dead, .cv .dead, .cv .dead, .cv .dead, .cv .dead, .cv .dead, .cv .dead, .cv .dead, .cv .dead, .cv .dead, .cv .dead, .cv .dead, .cv .dead, .cv .dead, .cv .dead, .cv .dead, .cv .dead, .cv .dead, .cv .dead, .cv .dead], [], true⟩
noncomputable def yb (k : Nat) (x : (List Int) × List Int) : Option (Bool) := aFn E slices_Equal_int_fi k x
noncomputable def zG (k : Nat) (v0 : List Int) (v1 : List Int) (v12 : Int) (v13 : Int) : Option (Bool) := aRun E k slices_Equal_int_fi.rs (ioOf slices_Equal_int_fi.ps) slices_Equal_int_fi.res slices_Equal_int_fi.hints [.code (sub yF [1, 1, 0, 1, 0, 0, 0]), .code (sub yF [1, 1, 0, 1, 0, 0, 1]), .inLoop (sub yF [1, 1, 0, 1, 0, 0]), .inBlock 0, .code (sub yF [1, 1, 1])] ⟨[.cv (.val (.slice (.int .i64)) v0), .cv (.val (.slice (.int .i64)) v1), .cv .dead, .cv .dead, .cv .dead, .cv .dead, .cv .dead, .cv .dead, .cv .dead, .cv .dead, .cv .dead, .cv .dead, .cv (.val (.int .i64) v12), .cv (.val (.int .i64) v13), .cv .dead, .cv .dead, .cv .dead, .cv .dead, .cv .dead, .cv .dead, .cv .dead, .cv .dead, .cv .dead, .cv .dead, .cv .dead, .cv .dead], [], true⟩
theorem Wz (k : Nat) (x0 : Int) : uM (k + 1) x0 =
 some (!(x0 == x0)) := by kernel_rfl
theorem YM (k : Nat) (x0 : Int) (x1 : Int) : jz (k + 1) (x0, x1) =
 (uM k x0).bind fun y1 =>
 (uM k x1).bind fun y2 =>
 bif y1 then
  (bif y2 then
    (some (0 : Int))
  else (some (-1 : Int)))
 else (bif y2 then
  (some (1 : Int))
  else (bif decide (x0 < x1) then
   (some (-1 : Int))
   else (bif decide (x0 > x1) then
    (some (1 : Int))
    else (some (0 : Int))))) := by kernel_rfl
theorem eP (k : Nat) (x0 : List Int) (x1 : List Int) : wV (k + 1) (x0, x1) =
 yX k x0 x1 x0 (x0.length : Int) (0 : Int) := by kernel_rfl
theorem xo (k : Nat) (v0 : List Int) (v1 : List Int) (v9 : List Int) (v10 : Int) (v11 : Int) : yX (k + 1) v0 v1 v9 v10 v11 =
 bif decide (v11 < v10) then
  (bif decide (0 ≤ v11) then
    (bif decide (v11 < (v9.length : Int)) then
      (bif decide (v11 ≥ (v1.length : Int)) then
        (some (1 : Int))
      else (bif decide (0 ≤ v11) then
       (bif decide (v11 < (v1.length : Int)) then
         ((jz k ((v9.getD v11.toNat (0 : Int)), (v1.getD v11.toNat (0 : Int)))).bind fun y1 =>
         bif (!(y1 == (0 : Int))) then
          (some y1)
         else (yX k v0 v1 v9 v10 (IntKind.i64.wrap (v11 + (1 : Int)))))
       else (none))
       else (none)))
    else (none))
  else (none))
 else (bif decide ((v0.length : Int) < (v1.length : Int)) then
  (some (-1 : Int))
  else (some (0 : Int))) := by kernel_rfl
theorem wE (k : Nat) (x0 : List Int) (x1 : List Int) : yb (k + 1) (x0, x1) =
 bif (!((x0.length : Int) == (x1.length : Int))) then
  (some false)
 else (zG k x0 x1 (x0.length : Int) (0 : Int)) := by kernel_rfl
theorem yy (k : Nat) (v0 : List Int) (v1 : List Int) (v12 : Int) (v13 : Int) : zG (k + 1) v0 v1 v12 v13 =
 bif decide (v13 < v12) then
  (bif decide (0 ≤ v13) then
    (bif decide (v13 < (v0.length : Int)) then
      (bif decide (0 ≤ v13) then
        (bif decide (v13 < (v1.length : Int)) then
          (bif (!((v0.getD v13.toNat (0 : Int)) == (v1.getD v13.toNat (0 : Int)))) then
            (some false)
          else (zG k v0 v1 v12 (IntKind.i64.wrap (v13 + (1 : Int)))))
        else (none))
      else (none))
    else (none))
  else (none))
 else (some true) := by kernel_rfl
abbrev gw : Gw := ⟨fun w => True, true⟩
theorem ty_3 : TyOk Go.Proofs.Tryz.prog 3 (.one (.int .i64)) := T6 (by kernel_rfl) (by kernel_rfl) (by kernel_rfl)
theorem JF : TyOk Go.Proofs.Tryz.prog 23 (.one (.slice (.int .i64))) := x9 (e := 3) (by kernel_rfl) (by kernel_rfl) (by kernel_rfl) (ww (by kernel_rfl) (by kernel_rfl) (by kernel_rfl))
theorem hE : ∀ T ti, E.ty T = some ti → TyOk Go.Proofs.Tryz.prog T ti := Sz (l := tyL) ⟨ty_3, JF, trivial⟩
theorem Wy : OneF Go.Proofs.Tryz.prog gw 243 cmp_isNaN_int_fi := Ut (fn := Go.Proofs.Tryz.f243) (c := bK) Go.Proofs.Tryz.func243 (by kernel_rfl) (by kernel_rfl) rfl rfl (by kernel_rfl) (by kernel_rfl) rfl
theorem YL : OneF Go.Proofs.Tryz.prog gw 223 cmp_Compare_int_fi := Ut (fn := Go.Proofs.Tryz.f223) (c := gQ) Go.Proofs.Tryz.func223 (by kernel_rfl) (by kernel_rfl) rfl rfl (by kernel_rfl) (by kernel_rfl) rfl
theorem eO : OneF Go.Proofs.Tryz.prog gw 209 slices_Compare_int_fi := Ut (fn := Go.Proofs.Tryz.f209) (c := yr) Go.Proofs.Tryz.func209 (by kernel_rfl) (by kernel_rfl) rfl rfl (by kernel_rfl) (by kernel_rfl) rfl
theorem Ze : OneF Go.Proofs.Tryz.prog gw 65 slices_Equal_int_fi := Ut (fn := Go.Proofs.Tryz.f65) (c := yF) Go.Proofs.Tryz.func65 (by kernel_rfl) (by kernel_rfl) rfl rfl (by kernel_rfl) (by kernel_rfl) rfl
theorem hF : FnOk Go.Proofs.Tryz.prog gw E := SA (l := fnL) ⟨Wy, YL, eO, Ze, trivial⟩
end Pc
