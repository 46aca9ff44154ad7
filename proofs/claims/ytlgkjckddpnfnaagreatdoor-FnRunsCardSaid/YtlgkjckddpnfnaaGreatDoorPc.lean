/-
  The plain machine's telling of functions of the program. Printed by gen.py.
  Conditions: none; these are definitions and equations that the kernel checks.
-/
import Derived.Test.YtlgkjckddpnfnaaGreatDoorXvza
import Derived.Test.YtlgkjckddpnfnaaGreatDoorProg
namespace Pc
open Go Go.Vt
set_option linter.unusedVariables false
set_option maxRecDepth 100000

noncomputable def tyL : List (Nat × TI) := [(3, .one (.int .i64)),
  (23, .one (.slice (.int .i64)))]

/-! ### cmp_isNaN_int -/
noncomputable def cmp_isNaN_int_c : Code := (Go.Proofs.Tryz.f86.body).getD .skip
noncomputable def cmp_isNaN_int_h : Nat → Option (List Hint)
  | _ => none
noncomputable def cmp_isNaN_int_fi : Fi := ⟨[.v (.int .i64) false], [(false, [⟨.bool, none⟩])], none, cmp_isNaN_int_c, Go.Proofs.Tryz.f86.results.toList, 6, cmp_isNaN_int_h⟩
/-! ### cmp_Compare_int -/
noncomputable def cmp_Compare_int_c : Code := (Go.Proofs.Tryz.f71.body).getD .skip
noncomputable def cmp_Compare_int_h : Nat → Option (List Hint)
  | _ => none
noncomputable def cmp_Compare_int_fi : Fi := ⟨[.v (.int .i64) false, .v (.int .i64) false], [(false, [⟨.int .i64, none⟩])], none, cmp_Compare_int_c, Go.Proofs.Tryz.f71.results.toList, 20, cmp_Compare_int_h⟩
/-! ### slices_Compare_int -/
noncomputable def slices_Compare_int_c : Code := (Go.Proofs.Tryz.f65.body).getD .skip
noncomputable def slices_Compare_int_h : Nat → Option (List Hint)
  | 2 => some [.keep 0, .keep 1, .keep 9, .keep 10, .keep 11]
  | _ => none
noncomputable def slices_Compare_int_fi : Fi := ⟨[.v (.slice (.int .i64)) false, .v (.slice (.int .i64)) false], [(false, [⟨.int .i64, none⟩])], none, slices_Compare_int_c, Go.Proofs.Tryz.f65.results.toList, 36, slices_Compare_int_h⟩
/-! ### slices_Equal_int -/
noncomputable def slices_Equal_int_c : Code := (Go.Proofs.Tryz.f21.body).getD .skip
noncomputable def slices_Equal_int_h : Nat → Option (List Hint)
  | 4 => some [.keep 0, .keep 1, .keep 12, .keep 13]
  | _ => none
noncomputable def slices_Equal_int_fi : Fi := ⟨[.v (.slice (.int .i64)) false, .v (.slice (.int .i64)) false], [(false, [⟨.bool, none⟩])], none, slices_Equal_int_c, Go.Proofs.Tryz.f21.results.toList, 26, slices_Equal_int_h⟩

noncomputable def fnL : List (Nat × List Nat × Fi) := [(86, [], cmp_isNaN_int_fi),
  (71, [], cmp_Compare_int_fi),
  (65, [], slices_Compare_int_fi),
  (21, [], slices_Equal_int_fi)]
noncomputable def E : Env := ⟨lookT tyL, lookF fnL⟩

noncomputable def cmp_isNaN_int (k : Nat) (x : Int) : Option (Bool) := aFn E cmp_isNaN_int_fi k x
noncomputable def cmp_Compare_int (k : Nat) (x : Int × Int) : Option (Int) := aFn E cmp_Compare_int_fi k x
noncomputable def slices_Compare_int (k : Nat) (x : (List Int) × List Int) : Option (Int) := aFn E slices_Compare_int_fi k x
noncomputable def slices_Compare_int_l2 (k : Nat) (v0 : List Int) (v1 : List Int) (v9 : List Int) (v10 : Int) (v11 : Int) : Option (Int) := aRun E k slices_Compare_int_fi.rs (ioOf slices_Compare_int_fi.ps) slices_Compare_int_fi.res slices_Compare_int_fi.hints [.code (sub slices_Compare_int_c [1, 0, 1, 0, 0, 0]), .code (sub slices_Compare_int_c [1, 0, 1, 0, 0, 1]), .inLoop (sub slices_Compare_int_c [1, 0, 1, 0, 0]), .inBlock 0, .code (sub slices_Compare_int_c [1, 1])] ⟨[.cv (.val (.slice (.int .i64)) v0), .cv (.val (.slice (.int .i64)) v1), .cv .dead, .cv .dead, .cv .dead, .cv .dead, .cv .dead, .cv .dead, .cv .dead, .cv (.val (.slice (.int .i64)) v9), .cv (.val (.int .i64) v10), .cv (.val (.int .i64) v11), .cv .dead, .cv .dead, .cv .dead, .cv .dead, .cv .dead, .cv .dead, .cv .dead, .cv .dead, .cv .dead, .cv .dead, .cv .dead, .cv .dead, .cv .dead, .cv .dead, .cv .dead, .cv .dead, .cv .dead, .cv .dead, .cv .dead, .cv .dead, .cv .dead, .cv .dead, .cv .dead, .cv .dead], [], true⟩
noncomputable def slices_Equal_int (k : Nat) (x : (List Int) × List Int) : Option (Bool) := aFn E slices_Equal_int_fi k x
noncomputable def slices_Equal_int_l4 (k : Nat) (v0 : List Int) (v1 : List Int) (v12 : Int) (v13 : Int) : Option (Bool) := aRun E k slices_Equal_int_fi.rs (ioOf slices_Equal_int_fi.ps) slices_Equal_int_fi.res slices_Equal_int_fi.hints [.code (sub slices_Equal_int_c [1, 1, 0, 1, 0, 0, 0]), .code (sub slices_Equal_int_c [1, 1, 0, 1, 0, 0, 1]), .inLoop (sub slices_Equal_int_c [1, 1, 0, 1, 0, 0]), .inBlock 0, .code (sub slices_Equal_int_c [1, 1, 1])] ⟨[.cv (.val (.slice (.int .i64)) v0), .cv (.val (.slice (.int .i64)) v1), .cv .dead, .cv .dead, .cv .dead, .cv .dead, .cv .dead, .cv .dead, .cv .dead, .cv .dead, .cv .dead, .cv .dead, .cv (.val (.int .i64) v12), .cv (.val (.int .i64) v13), .cv .dead, .cv .dead, .cv .dead, .cv .dead, .cv .dead, .cv .dead, .cv .dead, .cv .dead, .cv .dead, .cv .dead, .cv .dead, .cv .dead], [], true⟩

theorem cmp_isNaN_int_eq (k : Nat) (x0 : Int) : cmp_isNaN_int (k + 1) x0 =
  some (!(x0 == x0)) := by kernel_rfl
theorem cmp_Compare_int_eq (k : Nat) (x0 : Int) (x1 : Int) : cmp_Compare_int (k + 1) (x0, x1) =
  (cmp_isNaN_int k x0).bind fun y1 =>
  (cmp_isNaN_int k x1).bind fun y2 =>
  bif y1 then
    (bif y2 then
      (some (0 : Int))
    else (some (-1 : Int)))
  else (bif y2 then
      (some (1 : Int))
    else (bif decide (x0 < x1) then
        (some (-1 : Int))
      else (bif decide (x0 > x1) then
          (some (1 : Int))
        else (some (0 : Int))))) := by kernel_rfl
theorem slices_Compare_int_eq (k : Nat) (x0 : List Int) (x1 : List Int) : slices_Compare_int (k + 1) (x0, x1) =
  slices_Compare_int_l2 k x0 x1 x0 (x0.length : Int) (0 : Int) := by kernel_rfl
theorem slices_Compare_int_l2_eq (k : Nat) (v0 : List Int) (v1 : List Int) (v9 : List Int) (v10 : Int) (v11 : Int) : slices_Compare_int_l2 (k + 1) v0 v1 v9 v10 v11 =
  bif decide (v11 < v10) then
    (bif decide (0 ≤ v11) then
      (bif decide (v11 < (v9.length : Int)) then
        (bif decide (v11 ≥ (v1.length : Int)) then
          (some (1 : Int))
        else (bif decide (0 ≤ v11) then
            (bif decide (v11 < (v1.length : Int)) then
              ((cmp_Compare_int k ((v9.getD v11.toNat (0 : Int)), (v1.getD v11.toNat (0 : Int)))).bind fun y1 =>
              bif (!(y1 == (0 : Int))) then
                (some y1)
              else (slices_Compare_int_l2 k v0 v1 v9 v10 (IntKind.i64.wrap (v11 + (1 : Int)))))
            else (none))
          else (none)))
      else (none))
    else (none))
  else (bif decide ((v0.length : Int) < (v1.length : Int)) then
      (some (-1 : Int))
    else (some (0 : Int))) := by kernel_rfl
theorem slices_Equal_int_eq (k : Nat) (x0 : List Int) (x1 : List Int) : slices_Equal_int (k + 1) (x0, x1) =
  bif (!((x0.length : Int) == (x1.length : Int))) then
    (some false)
  else (slices_Equal_int_l4 k x0 x1 (x0.length : Int) (0 : Int)) := by kernel_rfl
theorem slices_Equal_int_l4_eq (k : Nat) (v0 : List Int) (v1 : List Int) (v12 : Int) (v13 : Int) : slices_Equal_int_l4 (k + 1) v0 v1 v12 v13 =
  bif decide (v13 < v12) then
    (bif decide (0 ≤ v13) then
      (bif decide (v13 < (v0.length : Int)) then
        (bif decide (0 ≤ v13) then
          (bif decide (v13 < (v1.length : Int)) then
            (bif (!((v0.getD v13.toNat (0 : Int)) == (v1.getD v13.toNat (0 : Int)))) then
              (some false)
            else (slices_Equal_int_l4 k v0 v1 v12 (IntKind.i64.wrap (v13 + (1 : Int)))))
          else (none))
        else (none))
      else (none))
    else (none))
  else (some true) := by kernel_rfl

/-! ### the tables are right -/
/-- What holds of the world throughout. -/
abbrev gw : Gw := ⟨fun w => True, true⟩
theorem ty_3 : TyOk Go.Proofs.Tryz.prog 3 (.one (.int .i64)) := tyOk_int (by kernel_rfl) (by kernel_rfl) (by kernel_rfl)
theorem ty_23 : TyOk Go.Proofs.Tryz.prog 23 (.one (.slice (.int .i64))) := tyOk_slice (e := 3) (by kernel_rfl) (by kernel_rfl) (by kernel_rfl) (elemOk_of (by kernel_rfl) (by kernel_rfl) (by kernel_rfl))
theorem hE : ∀ T ti, E.ty T = some ti → TyOk Go.Proofs.Tryz.prog T ti := lookT_ok (l := tyL) ⟨ty_3, ty_23, trivial⟩
theorem cmp_isNaN_int_ok : OneF Go.Proofs.Tryz.prog gw 86 cmp_isNaN_int_fi := fnOk_of (fn := Go.Proofs.Tryz.f86) (c := cmp_isNaN_int_c) Go.Proofs.Tryz.func86 (by kernel_rfl) (by kernel_rfl) rfl rfl (by kernel_rfl) (by kernel_rfl) rfl
theorem cmp_Compare_int_ok : OneF Go.Proofs.Tryz.prog gw 71 cmp_Compare_int_fi := fnOk_of (fn := Go.Proofs.Tryz.f71) (c := cmp_Compare_int_c) Go.Proofs.Tryz.func71 (by kernel_rfl) (by kernel_rfl) rfl rfl (by kernel_rfl) (by kernel_rfl) rfl
theorem slices_Compare_int_ok : OneF Go.Proofs.Tryz.prog gw 65 slices_Compare_int_fi := fnOk_of (fn := Go.Proofs.Tryz.f65) (c := slices_Compare_int_c) Go.Proofs.Tryz.func65 (by kernel_rfl) (by kernel_rfl) rfl rfl (by kernel_rfl) (by kernel_rfl) rfl
theorem slices_Equal_int_ok : OneF Go.Proofs.Tryz.prog gw 21 slices_Equal_int_fi := fnOk_of (fn := Go.Proofs.Tryz.f21) (c := slices_Equal_int_c) Go.Proofs.Tryz.func21 (by kernel_rfl) (by kernel_rfl) rfl rfl (by kernel_rfl) (by kernel_rfl) rfl
theorem hF : FnOk Go.Proofs.Tryz.prog gw E := lookF_ok (l := fnL) ⟨cmp_isNaN_int_ok, cmp_Compare_int_ok, slices_Compare_int_ok, slices_Equal_int_ok, trivial⟩
end Pc
