/-
  The plain machine's telling of functions of the program. Printed by gen.py.
  Conditions: none; these are definitions and equations that the kernel checks.
-/
import Derived.Test.YtgbbdagfjenmeaaGreatDoorVd
import Derived.Test.YtgbbdagfjenmeaaGreatDoorProg
namespace Pc
open Go Go.Vt
set_option linter.unusedVariables false
set_option maxRecDepth 100000
noncomputable def tyL : List (Nat × TI) := [(3, .one (.int .i64)),
 (23, .one (.slice (.int .i64)))]
noncomputable def f7 : Code := (Go.Proofs.Tryz.f243.body).getD .skip
noncomputable def Wu : Nat → Option (List Hint)
 | _ => none
noncomputable def cmp_isNaN_int_fi : Fi := ⟨[.v (.int .i64) false], [(false, [⟨.bool, none⟩])], none, f7, Go.Proofs.Tryz.f243.results.toList, 6, Wu⟩
noncomputable def jm : Code := (Go.Proofs.Tryz.f223.body).getD .skip
noncomputable def Zz : Nat → Option (List Hint)
 | _ => none
noncomputable def cmp_Compare_int_fi : Fi := ⟨[.v (.int .i64) false, .v (.int .i64) false], [(false, [⟨.int .i64, none⟩])], none, jm, Go.Proofs.Tryz.f223.results.toList, 20, Zz⟩
noncomputable def yf : Code := (Go.Proofs.Tryz.f209.body).getD .skip
noncomputable def eU : Nat → Option (List Hint)
 | 2 => some [.keep 0, .keep 1, .keep 9, .keep 10, .keep 11]
 | _ => none
noncomputable def slices_Compare_int_fi : Fi := ⟨[.v (.slice (.int .i64)) false, .v (.slice (.int .i64)) false], [(false, [⟨.int .i64, none⟩])], none, yf, Go.Proofs.Tryz.f209.results.toList, 36, eU⟩
noncomputable def yr : Code := (Go.Proofs.Tryz.f65.body).getD .skip
noncomputable def bS : Nat → Option (List Hint)
 | 4 => some [.keep 0, .keep 1, .keep 12, .keep 13]
 | _ => none
noncomputable def slices_Equal_int_fi : Fi := ⟨[.v (.slice (.int .i64)) false, .v (.slice (.int .i64)) false], [(false, [⟨.bool, none⟩])], none, yr, Go.Proofs.Tryz.f65.results.toList, 26, bS⟩
noncomputable def fnL : List (Nat × List Nat × Fi) := [(243, [], cmp_isNaN_int_fi),
 (223, [], cmp_Compare_int_fi),
 (209, [], slices_Compare_int_fi),
 (65, [], slices_Equal_int_fi)]
noncomputable def E : Env := ⟨lookT tyL, lookF fnL⟩
noncomputable def vz (k : Nat) (x : Int) : Option (Bool) := aFn E cmp_isNaN_int_fi k x
noncomputable def ul (k : Nat) (x : Int × Int) : Option (Int) := aFn E cmp_Compare_int_fi k x
noncomputable def we (k : Nat) (x : (List Int) × List Int) : Option (Int) := aFn E slices_Compare_int_fi k x
noncomputable def yG (k : Nat) (v0 : List Int) (v1 : List Int) (v9 : List Int) (v10 : Int) (v11 : Int) : Option (Int) := aRun E k slices_Compare_int_fi.rs (ioOf slices_Compare_int_fi.ps) slices_Compare_int_fi.res slices_Compare_int_fi.hints [.code (sub yf [1, 0, 1, 0, 0, 0]), .code (sub yf [1, 0, 1, 0, 0, 1]), .inLoop (sub yf [1, 0, 1, 0, 0]), .inBlock 0, .code (sub yf [1, 1])] ⟨[.cv (.val (.slice (.int .i64)) v0), .cv (.val (.slice (.int .i64)) v1), .cv .dead, .cv .dead, .cv .dead, .cv .dead, .cv .dead, .cv .dead, .cv .dead, .cv (.val (.slice (.int .i64)) v9), .cv (.val (.int .i64) v10), .cv (.val (.int .i64) v11), .cv .dead, .cv .dead, .cv .dead, .cv .dead, .cv .dead, .cv .dead, .cv .dead, .cv .dead, .cv .dead, .cv .dead, .cv .dead, .cv .dead, .cv .dead, .cv .dead, .cv .dead, .cv .dead, .cv .dead, .cv .dead, .cv .dead, .cv .dead, .cv .dead, .cv .dead, .cv .dead, .cv .dead], [], true⟩
noncomputable def yv (k : Nat) (x : (List Int) × List Int) : Option (Bool) := aFn E slices_Equal_int_fi k x
noncomputable def zy (k : Nat) (v0 : List Int) (v1 : List Int) (v12 : Int) (v13 : Int) : Option (Bool) := aRun E k slices_Equal_int_fi.rs (ioOf slices_Equal_int_fi.ps) slices_Equal_int_fi.res slices_Equal_int_fi.hints [.code (sub yr [1, 1, 0, 1, 0, 0, 0]), .code (sub yr [1, 1, 0, 1, 0, 0, 1]), .inLoop (sub yr [1, 1, 0, 1, 0, 0]), .inBlock 0, .code (sub yr [1, 1, 1])] ⟨[.cv (.val (.slice (.int .i64)) v0), .cv (.val (.slice (.int .i64)) v1), .cv .dead, .cv .dead, .cv .dead, .cv .dead, .cv .dead, .cv .dead, .cv .dead, .cv .dead, .cv .dead, .cv .dead, .cv (.val (.int .i64) v12), .cv (.val (.int .i64) v13), .cv .dead, .cv .dead, .cv .dead, .cv .dead, .cv .dead, .cv .dead, .cv .dead, .cv .dead, .cv .dead, .cv .dead, .cv .dead, .cv .dead], [], true⟩
theorem Yy (k : Nat) (x0 : Int) : vz (k + 1) x0 =
 some (!(x0 == x0)) := by kernel_rfl
theorem aT (k : Nat) (x0 : Int) (x1 : Int) : ul (k + 1) (x0, x1) =
 (vz k x0).bind fun y1 =>
 (vz k x1).bind fun y2 =>
 bif y1 then
  (bif y2 then
    (some (0 : Int))
  else (some (-1 : Int)))
 else (bif y2 then
  (some (1 : Int))
  else (bif decide (x0 < x1) then
   (some (-1 : Int))
   else (bif decide (x0 > x1) then
    (some (1 : Int))
    else (some (0 : Int))))) := by kernel_rfl
theorem gJ (k : Nat) (x0 : List Int) (x1 : List Int) : we (k + 1) (x0, x1) =
 yG k x0 x1 x0 (x0.length : Int) (0 : Int) := by kernel_rfl
theorem yU (k : Nat) (v0 : List Int) (v1 : List Int) (v9 : List Int) (v10 : Int) (v11 : Int) : yG (k + 1) v0 v1 v9 v10 v11 =
 bif decide (v11 < v10) then
  (bif decide (0 ≤ v11) then
    (bif decide (v11 < (v9.length : Int)) then
      (bif decide (v11 ≥ (v1.length : Int)) then
        (some (1 : Int))
      else (bif decide (0 ≤ v11) then
       (bif decide (v11 < (v1.length : Int)) then
         ((ul k ((v9.getD v11.toNat (0 : Int)), (v1.getD v11.toNat (0 : Int)))).bind fun y1 =>
         bif (!(y1 == (0 : Int))) then
          (some y1)
         else (yG k v0 v1 v9 v10 (IntKind.i64.wrap (v11 + (1 : Int)))))
       else (none))
       else (none)))
    else (none))
  else (none))
 else (bif decide ((v0.length : Int) < (v1.length : Int)) then
  (some (-1 : Int))
  else (some (0 : Int))) := by kernel_rfl
theorem xY (k : Nat) (x0 : List Int) (x1 : List Int) : yv (k + 1) (x0, x1) =
 bif (!((x0.length : Int) == (x1.length : Int))) then
  (some false)
 else (zy k x0 x1 (x0.length : Int) (0 : Int)) := by kernel_rfl
theorem yk (k : Nat) (v0 : List Int) (v1 : List Int) (v12 : Int) (v13 : Int) : zy (k + 1) v0 v1 v12 v13 =
 bif decide (v13 < v12) then
  (bif decide (0 ≤ v13) then
    (bif decide (v13 < (v0.length : Int)) then
      (bif decide (0 ≤ v13) then
        (bif decide (v13 < (v1.length : Int)) then
          (bif (!((v0.getD v13.toNat (0 : Int)) == (v1.getD v13.toNat (0 : Int)))) then
            (some false)
          else (zy k v0 v1 v12 (IntKind.i64.wrap (v13 + (1 : Int)))))
        else (none))
      else (none))
    else (none))
  else (none))
 else (some true) := by kernel_rfl
abbrev gw : Gw := ⟨fun w => True, true⟩
theorem ty_3 : TyOk Go.Proofs.Tryz.prog 3 (.one (.int .i64)) := Rt (by kernel_rfl) (by kernel_rfl) (by kernel_rfl)
theorem Mw : TyOk Go.Proofs.Tryz.prog 23 (.one (.slice (.int .i64))) := xD (e := 3) (by kernel_rfl) (by kernel_rfl) (by kernel_rfl) (xP (by kernel_rfl) (by kernel_rfl) (by kernel_rfl))
theorem hE : ∀ T ti, E.ty T = some ti → TyOk Go.Proofs.Tryz.prog T ti := Ud (l := tyL) ⟨ty_3, Mw, trivial⟩
theorem Yx : OneF Go.Proofs.Tryz.prog gw 243 cmp_isNaN_int_fi := Wl (fn := Go.Proofs.Tryz.f243) (c := f7) Go.Proofs.Tryz.func243 (by kernel_rfl) (by kernel_rfl) rfl rfl (by kernel_rfl) (by kernel_rfl) rfl
theorem aS : OneF Go.Proofs.Tryz.prog gw 223 cmp_Compare_int_fi := Wl (fn := Go.Proofs.Tryz.f223) (c := jm) Go.Proofs.Tryz.func223 (by kernel_rfl) (by kernel_rfl) rfl rfl (by kernel_rfl) (by kernel_rfl) rfl
theorem gI : OneF Go.Proofs.Tryz.prog gw 209 slices_Compare_int_fi := Wl (fn := Go.Proofs.Tryz.f209) (c := yf) Go.Proofs.Tryz.func209 (by kernel_rfl) (by kernel_rfl) rfl rfl (by kernel_rfl) (by kernel_rfl) rfl
theorem bg : OneF Go.Proofs.Tryz.prog gw 65 slices_Equal_int_fi := Wl (fn := Go.Proofs.Tryz.f65) (c := yr) Go.Proofs.Tryz.func65 (by kernel_rfl) (by kernel_rfl) rfl rfl (by kernel_rfl) (by kernel_rfl) rfl
theorem hF : FnOk Go.Proofs.Tryz.prog gw E := Ue (l := fnL) ⟨Yx, aS, gI, bg, trivial⟩
end Pc
