/-
  The plain machine's telling of functions of the program. Printed by gen.py.
  Conditions: none; these are definitions and equations that the kernel checks.
-/
import Derived.Test.YtgbbdagfjenmeaaGreatDoorVd
import Derived.Test.YtgbbdagfjenmeaaGreatDoorProg
namespace Pc
open Go Go.Vt
set_option linter.unusedVariables false
set_option maxRecDepth 100000
noncomputable def tyL : List (Nat × TI) := [(3, .one (.int .i64)),
 (23, .one (.slice (.int .i64)))]
noncomputable def fS : Code := (Go.Proofs.Tryz.f243.body).getD .skip
noncomputable def Wu : Nat → Option (List Hint)
 | _ => none
noncomputable def cmp_isNaN_int_fi : Fi := ⟨[.v (.int .i64) false], [(false, [⟨.bool, none⟩])], none, fS, Go.Proofs.Tryz.f243.results.toList, 6, Wu⟩
noncomputable def jH : Code := (Go.Proofs.Tryz.f223.body).getD .skip
noncomputable def Zv : Nat → Option (List Hint)
 | _ => none
noncomputable def cmp_Compare_int_fi : Fi := ⟨[.v (.int .i64) false, .v (.int .i64) false], [(false, [⟨.int .i64, none⟩])], none, jH, Go.Proofs.Tryz.f223.results.toList, 20, Zv⟩
noncomputable def yl : Code := (Go.Proofs.Tryz.f209.body).getD .skip
noncomputable def eO : Nat → Option (List Hint)
 | 2 => some [.keep 0, .keep 1, .keep 9, .keep 10, .keep 11]
 | _ => none
noncomputable def slices_Compare_int_fi : Fi := ⟨[.v (.slice (.int .i64)) false, .v (.slice (.int .i64)) false], [(false, [⟨.int .i64, none⟩])], none, yl, Go.Proofs.Tryz.f209.results.toList, 36, eO⟩
noncomputable def yB : Code := (Go.Proofs.Tryz.f65.body).getD .skip
noncomputable def bG : Nat → Option (List Hint)
 | 4 => some [.keep 0, .keep 1, .keep 12, .keep 13]
 | _ => none
noncomputable def slices_Equal_int_fi : Fi := ⟨[.v (.slice (.int .i64)) false, .v (.slice (.int .i64)) false], [(false, [⟨.bool, none⟩])], none, yB, Go.Proofs.Tryz.f65.results.toList, 26, bG⟩
noncomputable def fnL : List (Nat × List Nat × Fi) := [(243, [], cmp_isNaN_int_fi),
 (223, [], cmp_Compare_int_fi),
 (209, [], slices_Compare_int_fi),
 (65, [], slices_Equal_int_fi)]
noncomputable def E : Env := ⟨lookT tyL, lookF fnL⟩
noncomputable def vT (k : Nat) (x : Int) : Option (Bool) := aFn E cmp_isNaN_int_fi k x
noncomputable def uH (k : Nat) (x : Int × Int) : Option (Int) := aFn E cmp_Compare_int_fi k x
noncomputable def wz (k : Nat) (x : (List Int) × List Int) : Option (Int) := aFn E slices_Compare_int_fi k x
noncomputable def yX (k : Nat) (v0 : List Int) (v1 : List Int) (v9 : List Int) (v10 : Int) (v11 : Int) : Option (Int) := aRun E k slices_Compare_int_fi.rs (ioOf slices_Compare_int_fi.ps) slices_Compare_int_fi.res slices_Compare_int_fi.hints [.code (sub yl [1, 0, 1, 0, 0, 0]), .code (sub yl [1, 0, 1, 0, 0, 1]), .inLoop (sub yl [1, 0, 1, 0, 0]), .inBlock 0, .code (sub yl [1, 1])] ⟨[.cv (.val (.slice (.int .i64)) v0), .cv (.val (.slice (.int .i64)) v1), .cv .dead, .cv .dead, .cv .dead, .cv .dead, .cv .dead, .cv .dead, .cv .dead, .cv (.val (.slice (.int .i64)) v9), .cv (.val (.int .i64) v10), .cv (.val (.int .i64) v11), .cv .dead, .cv .dead, .cv .dead, .cv .dead, .cv .dead, .cv .dead, .cv .dead, .cv .dead, .cv .dead, .cv .dead, .cv .dead, .cv .dead, .cv .dead, .cv .dead, .cv .dead, .cv .dead, .cv .dead, .cv .dead, .cv .dead, .cv .dead, .cv .dead, .cv .dead, .cv .dead, .cv .dead], [], true⟩
noncomputable def yF (k : Nat) (x : (List Int) × List Int) : Option (Bool) := aFn E slices_Equal_int_fi k x
noncomputable def zA (k : Nat) (v0 : List Int) (v1 : List Int) (v12 : Int) (v13 : Int) : Option (Bool) := aRun E k slices_Equal_int_fi.rs (ioOf slices_Equal_int_fi.ps) slices_Equal_int_fi.res slices_Equal_int_fi.hints [.code (sub yB [1, 1, 0, 1, 0, 0, 0]), .code (sub yB [1, 1, 0, 1, 0, 0, 1]), .inLoop (sub yB [1, 1, 0, 1, 0, 0]), .inBlock 0, .code (sub yB [1, 1, 1])] ⟨[.cv (.val (.slice (.int .i64)) v0), .cv (.val (.slice (.int .i64)) v1), .cv .dead, .cv .dead, .cv .dead, .cv .dead, .cv .dead, .cv .dead, .cv .dead, .cv .dead, .cv .dead, .cv .dead, .cv (.val (.int .i64) v12), .cv (.val (.int .i64) v13), .cv .dead, .cv .dead, .cv .dead, .cv .dead, .cv .dead, .cv .dead, .cv .dead, .cv .dead, .cv .dead, .cv .dead, .cv .dead, .cv .dead], [], true⟩
theorem YE (k : Nat) (x0 : Int) : vT (k + 1) x0 =
 some (!(x0 == x0)) := by kernel_rfl
theorem aL (k : Nat) (x0 : Int) (x1 : Int) : uH (k + 1) (x0, x1) =
 (vT k x0).bind fun y1 =>
 (vT k x1).bind fun y2 =>
 bif y1 then
  (bif y2 then
    (some (0 : Int))
  else (some (-1 : Int)))
 else (bif y2 then
  (some (1 : Int))
  else (bif decide (x0 < x1) then
   (some (-1 : Int))
   else (bif decide (x0 > x1) then
    (some (1 : Int))
    else (some (0 : Int))))) := by kernel_rfl
theorem gS (k : Nat) (x0 : List Int) (x1 : List Int) : wz (k + 1) (x0, x1) =
 yX k x0 x1 x0 (x0.length : Int) (0 : Int) := by kernel_rfl
theorem xm (k : Nat) (v0 : List Int) (v1 : List Int) (v9 : List Int) (v10 : Int) (v11 : Int) : yX (k + 1) v0 v1 v9 v10 v11 =
 bif decide (v11 < v10) then
  (bif decide (0 ≤ v11) then
    (bif decide (v11 < (v9.length : Int)) then
      (bif decide (v11 ≥ (v1.length : Int)) then
        (some (1 : Int))
      else (bif decide (0 ≤ v11) then
       (bif decide (v11 < (v1.length : Int)) then
         ((uH k ((v9.getD v11.toNat (0 : Int)), (v1.getD v11.toNat (0 : Int)))).bind fun y1 =>
         bif (!(y1 == (0 : Int))) then
          (some y1)
         else (yX k v0 v1 v9 v10 (IntKind.i64.wrap (v11 + (1 : Int)))))
       else (none))
       else (none)))
    else (none))
  else (none))
 else (bif decide ((v0.length : Int) < (v1.length : Int)) then
  (some (-1 : Int))
  else (some (0 : Int))) := by kernel_rfl
theorem wh (k : Nat) (x0 : List Int) (x1 : List Int) : yF (k + 1) (x0, x1) =
 bif (!((x0.length : Int) == (x1.length : Int))) then
  (some false)
 else (zA k x0 x1 (x0.length : Int) (0 : Int)) := by kernel_rfl
theorem yr (k : Nat) (v0 : List Int) (v1 : List Int) (v12 : Int) (v13 : Int) : zA (k + 1) v0 v1 v12 v13 =
 bif decide (v13 < v12) then
  (bif decide (0 ≤ v13) then
    (bif decide (v13 < (v0.length : Int)) then
      (bif decide (0 ≤ v13) then
        (bif decide (v13 < (v1.length : Int)) then
          (bif (!((v0.getD v13.toNat (0 : Int)) == (v1.getD v13.toNat (0 : Int)))) then
            (some false)
          else (zA k v0 v1 v12 (IntKind.i64.wrap (v13 + (1 : Int)))))
        else (none))
      else (none))
    else (none))
  else (none))
 else (some true) := by kernel_rfl
abbrev gw : Gw := ⟨fun w => True, true⟩
theorem ty_3 : TyOk Go.Proofs.Tryz.prog 3 (.one (.int .i64)) := VU (by kernel_rfl) (by kernel_rfl) (by kernel_rfl)
theorem Mz : TyOk Go.Proofs.Tryz.prog 23 (.one (.slice (.int .i64))) := xR (e := 3) (by kernel_rfl) (by kernel_rfl) (by kernel_rfl) (x9 (by kernel_rfl) (by kernel_rfl) (by kernel_rfl))
theorem hE : ∀ T ti, E.ty T = some ti → TyOk Go.Proofs.Tryz.prog T ti := V6 (l := tyL) ⟨ty_3, Mz, trivial⟩
theorem YD : OneF Go.Proofs.Tryz.prog gw 243 cmp_isNaN_int_fi := Wj (fn := Go.Proofs.Tryz.f243) (c := fS) Go.Proofs.Tryz.func243 (by kernel_rfl) (by kernel_rfl) rfl rfl (by kernel_rfl) (by kernel_rfl) rfl
theorem aK : OneF Go.Proofs.Tryz.prog gw 223 cmp_Compare_int_fi := Wj (fn := Go.Proofs.Tryz.f223) (c := jH) Go.Proofs.Tryz.func223 (by kernel_rfl) (by kernel_rfl) rfl rfl (by kernel_rfl) (by kernel_rfl) rfl
theorem gR : OneF Go.Proofs.Tryz.prog gw 209 slices_Compare_int_fi := Wj (fn := Go.Proofs.Tryz.f209) (c := yl) Go.Proofs.Tryz.func209 (by kernel_rfl) (by kernel_rfl) rfl rfl (by kernel_rfl) (by kernel_rfl) rfl
theorem cQ : OneF Go.Proofs.Tryz.prog gw 65 slices_Equal_int_fi := Wj (fn := Go.Proofs.Tryz.f65) (c := yB) Go.Proofs.Tryz.func65 (by kernel_rfl) (by kernel_rfl) rfl rfl (by kernel_rfl) (by kernel_rfl) rfl
theorem hF : FnOk Go.Proofs.Tryz.prog gw E := V7 (l := fnL) ⟨YD, aK, gR, cQ, trivial⟩
end Pc
