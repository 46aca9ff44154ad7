/-
  The plain machine's telling of functions of the program. Printed by gen.py.
  Conditions: none; these are definitions and equations that the kernel checks.
-/
import Derived.Test.YtcpfklamgkilnaaGreatDoorVd
import Derived.Test.YtcpfklamgkilnaaGreatDoorProg
namespace Pc
open Go Go.Vt
set_option linter.unusedVariables false
set_option maxRecDepth 100000
noncomputable def tyL : List (Nat × TI) := [(3, .one (.int .i64)),
 (31, .one (.slice (.int .i64)))]
noncomputable def aX : Code := (Go.Proofs.Tryz.f174.body).getD .skip
noncomputable def Sr : Nat → Option (List Hint)
 | _ => none
noncomputable def cmp_isNaN_int_fi : Fi := ⟨[.v (.int .i64) false], [(false, [⟨.bool, none⟩])], none, aX, Go.Proofs.Tryz.f174.results.toList, 6, Sr⟩
noncomputable def eJ : Code := (Go.Proofs.Tryz.f164.body).getD .skip
noncomputable def W3 : Nat → Option (List Hint)
 | _ => none
noncomputable def cmp_Compare_int_fi : Fi := ⟨[.v (.int .i64) false, .v (.int .i64) false], [(false, [⟨.int .i64, none⟩])], none, eJ, Go.Proofs.Tryz.f164.results.toList, 20, W3⟩
noncomputable def yB : Code := (Go.Proofs.Tryz.f160.body).getD .skip
noncomputable def ZB : Nat → Option (List Hint)
 | 2 => some [.keep 0, .keep 1, .keep 9, .keep 10, .keep 11]
 | _ => none
noncomputable def slices_Compare_int_fi : Fi := ⟨[.v (.slice (.int .i64)) false, .v (.slice (.int .i64)) false], [(false, [⟨.int .i64, none⟩])], none, yB, Go.Proofs.Tryz.f160.results.toList, 36, ZB⟩
noncomputable def yQ : Code := (Go.Proofs.Tryz.f153.body).getD .skip
noncomputable def Y4 : Nat → Option (List Hint)
 | 4 => some [.keep 0, .keep 1, .keep 12, .keep 13]
 | _ => none
noncomputable def slices_Equal_int_fi : Fi := ⟨[.v (.slice (.int .i64)) false, .v (.slice (.int .i64)) false], [(false, [⟨.bool, none⟩])], none, yQ, Go.Proofs.Tryz.f153.results.toList, 26, Y4⟩
noncomputable def fnL : List (Nat × List Nat × Fi) := [(174, [], cmp_isNaN_int_fi),
 (164, [], cmp_Compare_int_fi),
 (160, [], slices_Compare_int_fi),
 (153, [], slices_Equal_int_fi)]
noncomputable def E : Env := ⟨lookT tyL, lookF fnL⟩
noncomputable def jS (k : Nat) (x : Int) : Option (Bool) := aFn E cmp_isNaN_int_fi k x
noncomputable def gQ (k : Nat) (x : Int × Int) : Option (Int) := aFn E cmp_Compare_int_fi k x
noncomputable def vM (k : Nat) (x : (List Int) × List Int) : Option (Int) := aFn E slices_Compare_int_fi k x
noncomputable def xo (k : Nat) (v0 : List Int) (v1 : List Int) (v9 : List Int) (v10 : Int) (v11 : Int) : Option (Int) := aRun E k slices_Compare_int_fi.rs (ioOf slices_Compare_int_fi.ps) slices_Compare_int_fi.res slices_Compare_int_fi.hints [.code (sub yB [1, 0, 1, 0, 0, 0]), .code (sub yB [1, 0, 1, 0, 0, 1]), .inLoop (sub yB [1, 0, 1, 0, 0]), .inBlock 0, .code (sub yB [1, 1])] ⟨[.cv (.val (.slice (.int .i64)) v0), .cv (.val (.slice (.int .i64)) v1), .cv .dead, .cv .dead, .cv .dead, .cv .dead, .cv .dead, .cv .dead, .cv .dead, .cv (.val (.slice (.int .i64)) v9), .cv (.val (.int .i64) v10), .cv (.val (.int .i64) v11), .cv .dead, .cv .dead, .cv .dead, .cv .dead, .cv .dead, .cv .dead, .cv .dead, .cv .dead, .cv .dead, .cv .dead, .cv .dead, .cv .dead, .cv .dead, .cv .dead, .cv .dead, .cv .dead, .cv .dead, .cv .dead, .cv .dead, .cv .dead, .cv .dead, .cv .dead, .cv .dead, .cv .dead], [], true⟩
noncomputable def yD (k : Nat) (x : (List Int) × List Int) : Option (Bool) := aFn E slices_Equal_int_fi k x
noncomputable def zM (k : Nat) (v0 : List Int) (v1 : List Int) (v12 : Int) (v13 : Int) : Option (Bool) := aRun E k slices_Equal_int_fi.rs (ioOf slices_Equal_int_fi.ps) slices_Equal_int_fi.res slices_Equal_int_fi.hints [.code (sub yQ [1, 1, 0, 1, 0, 0, 0]), .code (sub yQ [1, 1, 0, 1, 0, 0, 1]), .inLoop (sub yQ [1, 1, 0, 1, 0, 0]), .inBlock 0, .code (sub yQ [1, 1, 1])] ⟨[.cv (.val (.slice (.int .i64)) v0), .cv (.val (.slice (.int .i64)) v1), .cv .dead, .cv .dead, .cv .dead, .cv .dead, .cv .dead, .cv .dead, .cv .dead, .cv .dead, .cv .dead, .cv .dead, .cv (.val (.int .i64) v12), .cv (.val (.int .i64) v13), .cv .dead, .cv .dead, .cv .dead, .cv .dead, .cv .dead, .cv .dead, .cv .dead, .cv .dead, .cv .dead, .cv .dead, .cv .dead, .cv .dead], [], true⟩
theorem Uk (k : Nat) (x0 : Int) : jS (k + 1) x0 =
 some (!(x0 == x0)) := by kernel_rfl
theorem X5 (k : Nat) (x0 : Int) (x1 : Int) : gQ (k + 1) (x0, x1) =
 (jS k x0).bind fun y1 =>
 (jS k x1).bind fun y2 =>
 bif y1 then
  (bif y2 then
    (some (0 : Int))
  else (some (-1 : Int)))
 else (bif y2 then
  (some (1 : Int))
  else (bif decide (x0 < x1) then
   (some (-1 : Int))
   else (bif decide (x0 > x1) then
    (some (1 : Int))
    else (some (0 : Int))))) := by kernel_rfl
theorem bW (k : Nat) (x0 : List Int) (x1 : List Int) : vM (k + 1) (x0, x1) =
 xo k x0 x1 x0 (x0.length : Int) (0 : Int) := by kernel_rfl
theorem xG (k : Nat) (v0 : List Int) (v1 : List Int) (v9 : List Int) (v10 : Int) (v11 : Int) : xo (k + 1) v0 v1 v9 v10 v11 =
 bif decide (v11 < v10) then
  (bif decide (0 ≤ v11) then
    (bif decide (v11 < (v9.length : Int)) then
      (bif decide (v11 ≥ (v1.length : Int)) then
        (some (1 : Int))
      else (bif decide (0 ≤ v11) then
       (bif decide (v11 < (v1.length : Int)) then
         ((gQ k ((v9.getD v11.toNat (0 : Int)), (v1.getD v11.toNat (0 : Int)))).bind fun y1 =>
         bif (!(y1 == (0 : Int))) then
          (some y1)
         else (xo k v0 v1 v9 v10 (IntKind.i64.wrap (v11 + (1 : Int)))))
       else (none))
       else (none)))
    else (none))
  else (none))
 else (bif decide ((v0.length : Int) < (v1.length : Int)) then
  (some (-1 : Int))
  else (some (0 : Int))) := by kernel_rfl
theorem vh (k : Nat) (x0 : List Int) (x1 : List Int) : yD (k + 1) (x0, x1) =
 bif (!((x0.length : Int) == (x1.length : Int))) then
  (some false)
 else (zM k x0 x1 (x0.length : Int) (0 : Int)) := by kernel_rfl
theorem yI (k : Nat) (v0 : List Int) (v1 : List Int) (v12 : Int) (v13 : Int) : zM (k + 1) v0 v1 v12 v13 =
 bif decide (v13 < v12) then
  (bif decide (0 ≤ v13) then
    (bif decide (v13 < (v0.length : Int)) then
      (bif decide (0 ≤ v13) then
        (bif decide (v13 < (v1.length : Int)) then
          (bif (!((v0.getD v13.toNat (0 : Int)) == (v1.getD v13.toNat (0 : Int)))) then
            (some false)
          else (zM k v0 v1 v12 (IntKind.i64.wrap (v13 + (1 : Int)))))
        else (none))
      else (none))
    else (none))
  else (none))
 else (some true) := by kernel_rfl
abbrev gw : Gw := ⟨fun w => True, true⟩
theorem ty_3 : TyOk Go.Proofs.Tryz.prog 3 (.one (.int .i64)) := Qo (by kernel_rfl) (by kernel_rfl) (by kernel_rfl)
theorem FW : TyOk Go.Proofs.Tryz.prog 31 (.one (.slice (.int .i64))) := wd (e := 3) (by kernel_rfl) (by kernel_rfl) (by kernel_rfl) (wB (by kernel_rfl) (by kernel_rfl) (by kernel_rfl))
theorem hE : ∀ T ti, E.ty T = some ti → TyOk Go.Proofs.Tryz.prog T ti := QA (l := tyL) ⟨ty_3, FW, trivial⟩
theorem Uj : OneF Go.Proofs.Tryz.prog gw 174 cmp_isNaN_int_fi := Sg (fn := Go.Proofs.Tryz.f174) (c := aX) Go.Proofs.Tryz.func174 (by kernel_rfl) (by kernel_rfl) rfl rfl (by kernel_rfl) (by kernel_rfl) rfl
theorem X4 : OneF Go.Proofs.Tryz.prog gw 164 cmp_Compare_int_fi := Sg (fn := Go.Proofs.Tryz.f164) (c := eJ) Go.Proofs.Tryz.func164 (by kernel_rfl) (by kernel_rfl) rfl rfl (by kernel_rfl) (by kernel_rfl) rfl
theorem bV : OneF Go.Proofs.Tryz.prog gw 160 slices_Compare_int_fi := Sg (fn := Go.Proofs.Tryz.f160) (c := yB) Go.Proofs.Tryz.func160 (by kernel_rfl) (by kernel_rfl) rfl rfl (by kernel_rfl) (by kernel_rfl) rfl
theorem Yq : OneF Go.Proofs.Tryz.prog gw 153 slices_Equal_int_fi := Sg (fn := Go.Proofs.Tryz.f153) (c := yQ) Go.Proofs.Tryz.func153 (by kernel_rfl) (by kernel_rfl) rfl rfl (by kernel_rfl) (by kernel_rfl) rfl
theorem hF : FnOk Go.Proofs.Tryz.prog gw E := QB (l := fnL) ⟨Uj, X4, bV, Yq, trivial⟩
end Pc
