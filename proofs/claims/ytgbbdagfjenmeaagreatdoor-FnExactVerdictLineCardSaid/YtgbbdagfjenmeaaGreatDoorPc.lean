/-
  The plain machine's telling of functions of the program. Printed by gen.py.
  Conditions: none; these are definitions and equations that the kernel checks.
-/
import Derived.Test.YtgbbdagfjenmeaaGreatDoorVd
import Derived.Test.YtgbbdagfjenmeaaGreatDoorProg
namespace Pc
open Go Go.Vt
set_option linter.unusedVariables false
set_option maxRecDepth 100000
noncomputable def tyL : List (Nat × TI) := [(3, .one (.int .i64)),
 (23, .one (.slice (.int .i64)))]
noncomputable def ZT : Code := (Go.Proofs.Tryz.f243.body).getD .skip
noncomputable def R2 : Nat → Option (List Hint)
 | _ => none
noncomputable def cmp_isNaN_int_fi : Fi := ⟨[.v (.int .i64) false], [(false, [⟨.bool, none⟩])], none, ZT, Go.Proofs.Tryz.f243.results.toList, 6, R2⟩
noncomputable def cf : Code := (Go.Proofs.Tryz.f223.body).getD .skip
noncomputable def Um : Nat → Option (List Hint)
 | _ => none
noncomputable def cmp_Compare_int_fi : Fi := ⟨[.v (.int .i64) false, .v (.int .i64) false], [(false, [⟨.int .i64, none⟩])], none, cf, Go.Proofs.Tryz.f223.results.toList, 20, Um⟩
noncomputable def yx : Code := (Go.Proofs.Tryz.f209.body).getD .skip
noncomputable def Yw : Nat → Option (List Hint)
 | 2 => some [.keep 0, .keep 1, .keep 9, .keep 10, .keep 11]
 | _ => none
noncomputable def slices_Compare_int_fi : Fi := ⟨[.v (.slice (.int .i64)) false, .v (.slice (.int .i64)) false], [(false, [⟨.int .i64, none⟩])], none, yx, Go.Proofs.Tryz.f209.results.toList, 36, Yw⟩
noncomputable def yQ : Code := (Go.Proofs.Tryz.f65.body).getD .skip
noncomputable def X4 : Nat → Option (List Hint)
 | 4 => some [.keep 0, .keep 1, .keep 12, .keep 13]
 | _ => none
noncomputable def slices_Equal_int_fi : Fi := ⟨[.v (.slice (.int .i64)) false, .v (.slice (.int .i64)) false], [(false, [⟨.bool, none⟩])], none, yQ, Go.Proofs.Tryz.f65.results.toList, 26, X4⟩
noncomputable def fnL : List (Nat × List Nat × Fi) := [(243, [], cmp_isNaN_int_fi),
 (223, [], cmp_Compare_int_fi),
 (209, [], slices_Compare_int_fi),
 (65, [], slices_Equal_int_fi)]
noncomputable def E : Env := ⟨lookT tyL, lookF fnL⟩
noncomputable def jR (k : Nat) (x : Int) : Option (Bool) := aFn E cmp_isNaN_int_fi k x
noncomputable def gQ (k : Nat) (x : Int × Int) : Option (Int) := aFn E cmp_Compare_int_fi k x
noncomputable def vB (k : Nat) (x : (List Int) × List Int) : Option (Int) := aFn E slices_Compare_int_fi k x
noncomputable def xl (k : Nat) (v0 : List Int) (v1 : List Int) (v9 : List Int) (v10 : Int) (v11 : Int) : Option (Int) := aRun E k slices_Compare_int_fi.rs (ioOf slices_Compare_int_fi.ps) slices_Compare_int_fi.res slices_Compare_int_fi.hints [.code (sub yx [1, 0, 1, 0, 0, 0]), .code (sub yx [1, 0, 1, 0, 0, 1]), .inLoop (sub yx [1, 0, 1, 0, 0]), .inBlock 0, .code (sub yx [1, 1])] ⟨[.cv (.val (.slice (.int .i64)) v0), .cv (.val (.slice (.int .i64)) v1), .cv .dead, .cv .dead, .cv .dead, .cv .dead, .cv .dead, .cv .dead, .cv .dead, .cv (.val (.slice (.int .i64)) v9), .cv (.val (.int .i64) v10), .cv (.val (.int .i64) v11), .cv .dead, .cv .dead, .cv .dead, .cv .dead, .cv .dead, .cv .dead, .cv .dead, .cv .dead, .cv .dead, .cv .dead, .cv .dead, .cv .dead, .cv .dead, .cv .dead, .cv .dead, .cv .dead, .cv .dead, .cv .dead, .cv .dead, .cv .dead, .cv .dead, .cv .dead, .cv .dead, .cv .dead], [], true⟩
noncomputable def yA (k : Nat) (x : (List Int) × List Int) : Option (Bool) := aFn E slices_Equal_int_fi k x
noncomputable def zJ (k : Nat) (v0 : List Int) (v1 : List Int) (v12 : Int) (v13 : Int) : Option (Bool) := aRun E k slices_Equal_int_fi.rs (ioOf slices_Equal_int_fi.ps) slices_Equal_int_fi.res slices_Equal_int_fi.hints [.code (sub yQ [1, 1, 0, 1, 0, 0, 0]), .code (sub yQ [1, 1, 0, 1, 0, 0, 1]), .inLoop (sub yQ [1, 1, 0, 1, 0, 0]), .inBlock 0, .code (sub yQ [1, 1, 1])] ⟨[.cv (.val (.slice (.int .i64)) v0), .cv (.val (.slice (.int .i64)) v1), .cv .dead, .cv .dead, .cv .dead, .cv .dead, .cv .dead, .cv .dead, .cv .dead, .cv .dead, .cv .dead, .cv .dead, .cv (.val (.int .i64) v12), .cv (.val (.int .i64) v13), .cv .dead, .cv .dead, .cv .dead, .cv .dead, .cv .dead, .cv .dead, .cv .dead, .cv .dead, .cv .dead, .cv .dead, .cv .dead, .cv .dead], [], true⟩
theorem TK (k : Nat) (x0 : Int) : jR (k + 1) x0 =
 some (!(x0 == x0)) := by kernel_rfl
theorem Vk (k : Nat) (x0 : Int) (x1 : Int) : gQ (k + 1) (x0, x1) =
 (jR k x0).bind fun y1 =>
 (jR k x1).bind fun y2 =>
 bif y1 then
  (bif y2 then
    (some (0 : Int))
  else (some (-1 : Int)))
 else (bif y2 then
  (some (1 : Int))
  else (bif decide (x0 < x1) then
   (some (-1 : Int))
   else (bif decide (x0 > x1) then
    (some (1 : Int))
    else (some (0 : Int))))) := by kernel_rfl
theorem ay (k : Nat) (x0 : List Int) (x1 : List Int) : vB (k + 1) (x0, x1) =
 xl k x0 x1 x0 (x0.length : Int) (0 : Int) := by kernel_rfl
theorem xA (k : Nat) (v0 : List Int) (v1 : List Int) (v9 : List Int) (v10 : Int) (v11 : Int) : xl (k + 1) v0 v1 v9 v10 v11 =
 bif decide (v11 < v10) then
  (bif decide (0 ≤ v11) then
    (bif decide (v11 < (v9.length : Int)) then
      (bif decide (v11 ≥ (v1.length : Int)) then
        (some (1 : Int))
      else (bif decide (0 ≤ v11) then
       (bif decide (v11 < (v1.length : Int)) then
         ((gQ k ((v9.getD v11.toNat (0 : Int)), (v1.getD v11.toNat (0 : Int)))).bind fun y1 =>
         bif (!(y1 == (0 : Int))) then
          (some y1)
         else (xl k v0 v1 v9 v10 (IntKind.i64.wrap (v11 + (1 : Int)))))
       else (none))
       else (none)))
    else (none))
  else (none))
 else (bif decide ((v0.length : Int) < (v1.length : Int)) then
  (some (-1 : Int))
  else (some (0 : Int))) := by kernel_rfl
theorem ve (k : Nat) (x0 : List Int) (x1 : List Int) : yA (k + 1) (x0, x1) =
 bif (!((x0.length : Int) == (x1.length : Int))) then
  (some false)
 else (zJ k x0 x1 (x0.length : Int) (0 : Int)) := by kernel_rfl
theorem yE (k : Nat) (v0 : List Int) (v1 : List Int) (v12 : Int) (v13 : Int) : zJ (k + 1) v0 v1 v12 v13 =
 bif decide (v13 < v12) then
  (bif decide (0 ≤ v13) then
    (bif decide (v13 < (v0.length : Int)) then
      (bif decide (0 ≤ v13) then
        (bif decide (v13 < (v1.length : Int)) then
          (bif (!((v0.getD v13.toNat (0 : Int)) == (v1.getD v13.toNat (0 : Int)))) then
            (some false)
          else (zJ k v0 v1 v12 (IntKind.i64.wrap (v13 + (1 : Int)))))
        else (none))
      else (none))
    else (none))
  else (none))
 else (some true) := by kernel_rfl
abbrev gw : Gw := ⟨fun w => True, true⟩
theorem ty_3 : TyOk Go.Proofs.Tryz.prog 3 (.one (.int .i64)) := PS (by kernel_rfl) (by kernel_rfl) (by kernel_rfl)
theorem EF : TyOk Go.Proofs.Tryz.prog 23 (.one (.slice (.int .i64))) := x7 (e := 3) (by kernel_rfl) (by kernel_rfl) (by kernel_rfl) (wz (by kernel_rfl) (by kernel_rfl) (by kernel_rfl))
theorem hE : ∀ T ti, E.ty T = some ti → TyOk Go.Proofs.Tryz.prog T ti := Nk (l := tyL) ⟨ty_3, EF, trivial⟩
theorem TJ : OneF Go.Proofs.Tryz.prog gw 243 cmp_isNaN_int_fi := RU (fn := Go.Proofs.Tryz.f243) (c := ZT) Go.Proofs.Tryz.func243 (by kernel_rfl) (by kernel_rfl) rfl rfl (by kernel_rfl) (by kernel_rfl) rfl
theorem Vj : OneF Go.Proofs.Tryz.prog gw 223 cmp_Compare_int_fi := RU (fn := Go.Proofs.Tryz.f223) (c := cf) Go.Proofs.Tryz.func223 (by kernel_rfl) (by kernel_rfl) rfl rfl (by kernel_rfl) (by kernel_rfl) rfl
theorem ax : OneF Go.Proofs.Tryz.prog gw 209 slices_Compare_int_fi := RU (fn := Go.Proofs.Tryz.f209) (c := yx) Go.Proofs.Tryz.func209 (by kernel_rfl) (by kernel_rfl) rfl rfl (by kernel_rfl) (by kernel_rfl) rfl
theorem Xs : OneF Go.Proofs.Tryz.prog gw 65 slices_Equal_int_fi := RU (fn := Go.Proofs.Tryz.f65) (c := yQ) Go.Proofs.Tryz.func65 (by kernel_rfl) (by kernel_rfl) rfl rfl (by kernel_rfl) (by kernel_rfl) rfl
theorem hF : FnOk Go.Proofs.Tryz.prog gw E := Nl (l := fnL) ⟨TJ, Vj, ax, Xs, trivial⟩
end Pc
