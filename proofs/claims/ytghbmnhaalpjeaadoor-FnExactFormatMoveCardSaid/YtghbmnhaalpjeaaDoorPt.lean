/-
  The plain machine's telling of functions of the program. Printed by gen.py.
  Conditions: none; these are definitions and equations that the kernel checks.
-/
import Derived.Test.YtghbmnhaalpjeaaDoorXvze
import Derived.Test.YtghbmnhaalpjeaaDoorProg
import Derived.Test.YtghbmnhaalpjeaaDoorShelf
namespace Pt
open Go Go.Vt
set_option linter.unusedVariables false
set_option maxRecDepth 100000

noncomputable def tyL : List (Nat × TI) := [(3, .one (.int .i64)),
  (5, .one (.int .u8)),
  (9, .one (.str)),
  (23, .struct [(0, 3), (1, 3)] [.int .i64, .int .i64] true),
  (25, .struct [(0, 3), (1, 3)] [.int .i64, .int .i64] true),
  (31, .one (.slice (.str))),
  (33, .one (.slice (.int .u8))),
  (1000033, .bytes)]

/-! ### w_toMove -/
noncomputable def w_toMove_c : Code := (Go.Proofs.Tryd.f5.body).getD .skip
noncomputable def w_toMove_h : Nat → Option (List Hint)
  | _ => none
noncomputable def w_toMove_fi : Fi := ⟨[.v (.pair (.int .i64) (.int .i64)) true], [(true, [⟨.int .i64, none⟩, ⟨.int .i64, none⟩])], none, w_toMove_c, Go.Proofs.Tryd.f5.results.toList, 11, w_toMove_h⟩
/-! ### s_l01In -/
noncomputable def s_l01In_c : Code := (Go.Proofs.Tryd.f13.body).getD .skip
noncomputable def s_l01In_h : Nat → Option (List Hint)
  | _ => none
noncomputable def s_l01In_fi : Fi := ⟨[.v (.int .i64) false, .v (.int .i64) false, .v (.int .i64) false], [(false, [⟨.bool, none⟩])], none, s_l01In_c, Go.Proofs.Tryd.f13.results.toList, 15, s_l01In_h⟩
/-! ### s_MoveOk -/
noncomputable def s_MoveOk_c : Code := (Go.Proofs.Tryd.f7.body).getD .skip
noncomputable def s_MoveOk_h : Nat → Option (List Hint)
  | _ => none
noncomputable def s_MoveOk_fi : Fi := ⟨[.v (.int .i64) false, .v (.pair (.int .i64) (.int .i64)) true], [(false, [⟨.bool, none⟩])], none, s_MoveOk_c, Go.Proofs.Tryd.f7.results.toList, 38, s_MoveOk_h⟩
/-! ### s_l04Names -/
noncomputable def s_l04Names_c : Code := (Go.Proofs.Tryd.f14.body).getD .skip
noncomputable def s_l04Names_h : Nat → Option (List Hint)
  | _ => none
noncomputable def s_l04Names_fi : Fi := ⟨[], [(false, [⟨.slice (.str), some (true, false)⟩])], none, s_l04Names_c, Go.Proofs.Tryd.f14.results.toList, 2, s_l04Names_h⟩
/-! ### s_MoveName -/
noncomputable def s_MoveName_c : Code := (Go.Proofs.Tryd.f8.body).getD .skip
noncomputable def s_MoveName_h : Nat → Option (List Hint)
  | _ => none
noncomputable def s_MoveName_fi : Fi := ⟨[.v (.int .i64) false], [(false, [⟨.str, none⟩])], none, s_MoveName_c, Go.Proofs.Tryd.f8.results.toList, 10, s_MoveName_h⟩
/-! ### s_FormatInt -/
noncomputable def s_FormatInt_c : Code := (Go.Proofs.Tryd.f9.body).getD .skip
noncomputable def s_FormatInt_h : Nat → Option (List Hint)
  | 6 => some [.keep 0, .keep 3]
  | _ => none
noncomputable def s_FormatInt_fi : Fi := ⟨[.v (.int .i64) false], [(false, [⟨.str, none⟩])], none, s_FormatInt_c, Go.Proofs.Tryd.f9.results.toList, 44, s_FormatInt_h⟩
/-! ### s_FormatMove -/
noncomputable def s_FormatMove_c : Code := (Go.Proofs.Tryd.f4.body).getD .skip
noncomputable def s_FormatMove_h : Nat → Option (List Hint)
  | _ => none
noncomputable def s_FormatMove_fi : Fi := ⟨[.v (.pair (.int .i64) (.int .i64)) true], [(false, [⟨.str, none⟩])], none, s_FormatMove_c, Go.Proofs.Tryd.f4.results.toList, 14, s_FormatMove_h⟩
/-! ### i_MoveOk -/
noncomputable def i_MoveOk_c : Code := (Go.Proofs.Tryd.f10.body).getD .skip
noncomputable def i_MoveOk_h : Nat → Option (List Hint)
  | _ => none
noncomputable def i_MoveOk_fi : Fi := ⟨[.v (.int .i64) false, .v (.pair (.int .i64) (.int .i64)) true], [(false, [⟨.bool, none⟩])], none, i_MoveOk_c, Go.Proofs.Tryd.f10.results.toList, 45, i_MoveOk_h⟩
/-! ### i_moveNames -/
noncomputable def i_moveNames_c : Code := (Go.Proofs.Tryd.f15.body).getD .skip
noncomputable def i_moveNames_h : Nat → Option (List Hint)
  | _ => none
noncomputable def i_moveNames_fi : Fi := ⟨[], [(false, [⟨.slice (.str), some (true, false)⟩])], none, i_moveNames_c, Go.Proofs.Tryd.f15.results.toList, 2, i_moveNames_h⟩
/-! ### i_MoveName -/
noncomputable def i_MoveName_c : Code := (Go.Proofs.Tryd.f11.body).getD .skip
noncomputable def i_MoveName_h : Nat → Option (List Hint)
  | _ => none
noncomputable def i_MoveName_fi : Fi := ⟨[.v (.int .i64) false], [(false, [⟨.str, none⟩])], none, i_MoveName_c, Go.Proofs.Tryd.f11.results.toList, 14, i_MoveName_h⟩
/-! ### strconv_Itoa -/
noncomputable abbrev strconv_Itoa_fi : Fi := itoaFi
/-! ### i_FormatInt -/
noncomputable def i_FormatInt_c : Code := (Go.Proofs.Tryd.f12.body).getD .skip
noncomputable def i_FormatInt_h : Nat → Option (List Hint)
  | _ => none
noncomputable def i_FormatInt_fi : Fi := ⟨[.v (.int .i64) false], [(false, [⟨.str, none⟩])], none, i_FormatInt_c, Go.Proofs.Tryd.f12.results.toList, 5, i_FormatInt_h⟩
/-! ### i_FormatMove -/
noncomputable def i_FormatMove_c : Code := (Go.Proofs.Tryd.f6.body).getD .skip
noncomputable def i_FormatMove_h : Nat → Option (List Hint)
  | _ => none
noncomputable def i_FormatMove_fi : Fi := ⟨[.v (.pair (.int .i64) (.int .i64)) true], [(false, [⟨.str, none⟩])], none, i_FormatMove_c, Go.Proofs.Tryd.f6.results.toList, 14, i_FormatMove_h⟩
/-! ### w_FnExactFormatMove -/
noncomputable def w_FnExactFormatMove_c : Code := (Go.Proofs.Tryd.f3.body).getD .skip
noncomputable def w_FnExactFormatMove_h : Nat → Option (List Hint)
  | _ => none
noncomputable def w_FnExactFormatMove_fi : Fi := ⟨[.v (.pair (.int .i64) (.int .i64)) true], [(false, [⟨.bool, none⟩])], none, w_FnExactFormatMove_c, Go.Proofs.Tryd.f3.results.toList, 14, w_FnExactFormatMove_h⟩

noncomputable def fnL : List (Nat × List Nat × Fi) := [(5, [], w_toMove_fi),
  (13, [], s_l01In_fi),
  (7, [], s_MoveOk_fi),
  (14, [], s_l04Names_fi),
  (8, [], s_MoveName_fi),
  (9, [], s_FormatInt_fi),
  (4, [], s_FormatMove_fi),
  (10, [], i_MoveOk_fi),
  (15, [], i_moveNames_fi),
  (11, [], i_MoveName_fi),
  (16, [], strconv_Itoa_fi),
  (12, [], i_FormatInt_fi),
  (6, [], i_FormatMove_fi),
  (3, [], w_FnExactFormatMove_fi)]
noncomputable def E : Env := ⟨lookT tyL, lookF fnL⟩

noncomputable def w_toMove (k : Nat) (x : Int × Int) : Option (Int × Int) := aFn E w_toMove_fi k x
noncomputable def s_l01In (k : Nat) (x : Int × Int × Int) : Option (Bool) := aFn E s_l01In_fi k x
noncomputable def s_MoveOk (k : Nat) (x : Int × Int × Int) : Option (Bool) := aFn E s_MoveOk_fi k x
noncomputable def s_l04Names (k : Nat) (x : Unit) : Option (List ByteArray) := aFn E s_l04Names_fi k x
noncomputable def s_MoveName (k : Nat) (x : Int) : Option (ByteArray) := aFn E s_MoveName_fi k x
noncomputable def s_FormatInt (k : Nat) (x : Int) : Option (ByteArray) := aFn E s_FormatInt_fi k x
noncomputable def s_FormatInt_l6 (k : Nat) (v0 : Int) (v3 : ByteArray) : Option (ByteArray) := aRun E k s_FormatInt_fi.rs (ioOf s_FormatInt_fi.ps) s_FormatInt_fi.res s_FormatInt_fi.hints [.code (sub s_FormatInt_c [1, 1, 1, 0, 0, 0, 0, 0]), .code (sub s_FormatInt_c [1, 1, 1, 0, 0, 0, 0, 1]), .code (sub s_FormatInt_c [1, 1, 1, 0, 0, 0, 1]), .inLoop (sub s_FormatInt_c [1, 1, 1, 0, 0, 0]), .inBlock 0, .code (sub s_FormatInt_c [1, 1, 1, 1])] ⟨[.cv (.val (.int .i64) v0), .cv .dead, .cv .dead, .cv (.val (.str) v3), .cv .dead, .cv .dead, .cv .dead, .cv .dead, .cv .dead, .cv .dead, .cv .dead, .cv .dead, .cv .dead, .cv .dead, .cv .dead, .cv .dead, .cv .dead, .cv .dead, .cv .dead, .cv .dead, .cv .dead, .cv .dead, .cv .dead, .cv .dead, .cv .dead, .cv .dead, .cv .dead, .cv .dead, .cv .dead, .cv .dead, .cv .dead, .cv .dead, .cv .dead, .cv .dead, .cv .dead, .cv .dead, .cv .dead, .cv .dead, .cv .dead, .cv .dead, .cv .dead, .cv .dead, .cv .dead, .cv .dead], [], true⟩
noncomputable def s_FormatMove (k : Nat) (x : Int × Int) : Option (ByteArray) := aFn E s_FormatMove_fi k x
noncomputable def i_MoveOk (k : Nat) (x : Int × Int × Int) : Option (Bool) := aFn E i_MoveOk_fi k x
noncomputable def i_moveNames (k : Nat) (x : Unit) : Option (List ByteArray) := aFn E i_moveNames_fi k x
noncomputable def i_MoveName (k : Nat) (x : Int) : Option (ByteArray) := aFn E i_MoveName_fi k x
noncomputable def strconv_Itoa (k : Nat) (x : Int) : Option (ByteArray) := aFn E strconv_Itoa_fi k x
noncomputable def i_FormatInt (k : Nat) (x : Int) : Option (ByteArray) := aFn E i_FormatInt_fi k x
noncomputable def i_FormatMove (k : Nat) (x : Int × Int) : Option (ByteArray) := aFn E i_FormatMove_fi k x
noncomputable def w_FnExactFormatMove (k : Nat) (x : Int × Int) : Option (Bool) := aFn E w_FnExactFormatMove_fi k x

theorem w_toMove_eq (k : Nat) (x0 : Int × Int) : w_toMove (k + 1) x0 =
  some x0 := by kernel_rfl
theorem s_l01In_eq (k : Nat) (x0 : Int) (x1 : Int) (x2 : Int) : s_l01In (k + 1) (x0, x1, x2) =
  bif decide (x0 ≥ x1) then
    (some (decide (x0 ≤ x2)))
  else (some false) := by kernel_rfl
theorem s_MoveOk_eq (k : Nat) (x0 : Int) (x1 : Int × Int) : s_MoveOk (k + 1) (x0, x1) =
  (s_l01In k (x0, ((1 : Int), (12 : Int)))).bind fun y1 =>
  bif (!y1) then
    (some false)
  else (bif (x1.1 == (1 : Int)) then
      ((s_l01In k (x1.2, ((0 : Int), x0))).bind fun y2 =>
      some y2)
    else (bif (x1.1 == (2 : Int)) then
        ((s_l01In k (x1.2, ((0 : Int), x0))).bind fun y3 =>
        some y3)
      else (bif (x1.1 == (3 : Int)) then
          ((s_l01In k (x1.2, ((0 : Int), x0))).bind fun y4 =>
          some y4)
        else (bif (x1.1 == (4 : Int)) then
            ((s_l01In k (x1.2, ((0 : Int), (1 : Int)))).bind fun y5 =>
            some y5)
          else (bif (x1.1 == (5 : Int)) then
              ((s_l01In k (x1.2, ((0 : Int), (1 : Int)))).bind fun y6 =>
              some y6)
            else (bif (x1.1 == (7 : Int)) then
                ((s_l01In k (x1.2, ((0 : Int), (1 : Int)))).bind fun y7 =>
                some y7)
              else (bif (x1.1 == (6 : Int)) then
                  (some (x1.2 == (0 : Int)))
                else (bif (x1.1 == (8 : Int)) then
                    ((s_l01In k (x1.2, ((0 : Int), (IntKind.i64.wrap (x0 - (1 : Int)))))).bind fun y8 =>
                    some y8)
                  else (bif (x1.1 == (9 : Int)) then
                      ((s_l01In k (x1.2, ((0 : Int), (IntKind.i64.wrap (x0 - (1 : Int)))))).bind fun y9 =>
                      some y9)
                    else (some false)))))))))) := by kernel_rfl
theorem s_l04Names_eq (k : Nat) : s_l04Names (k + 1) () =
  some ([(⟨#[]⟩ : ByteArray), (⟨#[99, 117, 116]⟩ : ByteArray), (⟨#[100, 101, 97, 108]⟩ : ByteArray), (⟨#[102, 108, 105, 112]⟩ : ByteArray), (⟨#[102, 97, 114, 111]⟩ : ByteArray), (⟨#[109, 111, 110, 103, 101]⟩ : ByteArray), (⟨#[109, 105, 108, 107]⟩ : ByteArray), (⟨#[100, 117, 99, 107]⟩ : ByteArray), (⟨#[116, 117, 114, 110]⟩ : ByteArray), (⟨#[117, 110, 100, 101, 114]⟩ : ByteArray)]) := by kernel_rfl
theorem s_MoveName_eq (k : Nat) (x0 : Int) : s_MoveName (k + 1) x0 =
  (s_l01In k (x0, ((1 : Int), (9 : Int)))).bind fun y1 =>
  bif (!y1) then
    (some (⟨#[]⟩ : ByteArray))
  else ((s_l04Names k ()).bind fun y2 =>
    bif decide (0 ≤ x0) then
      (bif decide (x0 < (y2.length : Int)) then
        (bif decide (x0.toNat < y2.length) then
          (some (y2.getD x0.toNat (⟨#[]⟩ : ByteArray)))
        else (none))
      else (none))
    else (none)) := by kernel_rfl
theorem s_FormatInt_eq (k : Nat) (x0 : Int) : s_FormatInt (k + 1) x0 =
  bif decide (x0 < (0 : Int)) then
    (bif ((IntKind.i64.wrap (x0.tdiv (10 : Int))) == (0 : Int)) then
      (bif decide ((⟨#[45]⟩ : ByteArray).size + (bytesStr [(IntKind.u8.wrap (IntKind.i64.wrap ((48 : Int) - x0)))]).size ≤ 9223372036854775807) then
        (some ((⟨#[45]⟩ : ByteArray) ++ (bytesStr [(IntKind.u8.wrap (IntKind.i64.wrap ((48 : Int) - x0)))])))
      else (none))
    else ((s_FormatInt k (IntKind.i64.wrap (x0.tdiv (10 : Int)))).bind fun y1 =>
      bif decide (y1.size + (bytesStr [(IntKind.u8.wrap (IntKind.i64.wrap ((48 : Int) - (x0.tmod (10 : Int)))))]).size ≤ 9223372036854775807) then
        (some (y1 ++ (bytesStr [(IntKind.u8.wrap (IntKind.i64.wrap ((48 : Int) - (x0.tmod (10 : Int)))))])))
      else (none)))
  else (s_FormatInt_l6 k x0 (⟨#[]⟩ : ByteArray)) := by kernel_rfl
theorem s_FormatInt_l6_eq (k : Nat) (v0 : Int) (v3 : ByteArray) : s_FormatInt_l6 (k + 1) v0 v3 =
  bif decide (v0 > (9 : Int)) then
    (bif decide ((bytesStr [(IntKind.u8.wrap (IntKind.i64.wrap ((48 : Int) + (v0.tmod (10 : Int)))))]).size + v3.size ≤ 9223372036854775807) then
      (s_FormatInt_l6 k (IntKind.i64.wrap (v0.tdiv (10 : Int))) ((bytesStr [(IntKind.u8.wrap (IntKind.i64.wrap ((48 : Int) + (v0.tmod (10 : Int)))))]) ++ v3))
    else (none))
  else (bif decide ((bytesStr [(IntKind.u8.wrap (IntKind.i64.wrap ((48 : Int) + v0)))]).size + v3.size ≤ 9223372036854775807) then
      (some ((bytesStr [(IntKind.u8.wrap (IntKind.i64.wrap ((48 : Int) + v0)))]) ++ v3))
    else (none)) := by kernel_rfl
theorem s_FormatMove_eq (k : Nat) (x0 : Int × Int) : s_FormatMove (k + 1) x0 =
  (s_MoveOk k ((12 : Int), x0)).bind fun y1 =>
  bif (!y1) then
    (some (⟨#[]⟩ : ByteArray))
  else ((s_MoveName k x0.1).bind fun y2 =>
    bif decide (y2.size + (⟨#[32]⟩ : ByteArray).size ≤ 9223372036854775807) then
      ((s_FormatInt k x0.2).bind fun y3 =>
      bif decide ((y2 ++ (⟨#[32]⟩ : ByteArray)).size + y3.size ≤ 9223372036854775807) then
        (some ((y2 ++ (⟨#[32]⟩ : ByteArray)) ++ y3))
      else (none))
    else (none)) := by kernel_rfl
theorem i_MoveOk_eq (k : Nat) (x0 : Int) (x1 : Int × Int) : i_MoveOk (k + 1) (x0, x1) =
  bif decide (x0 < (1 : Int)) then
    (some false)
  else (bif decide (x0 > (12 : Int)) then
      (some false)
    else (bif decide (x1.2 < (0 : Int)) then
        (some false)
      else (bif (x1.1 == (1 : Int)) then
          (some (decide (x1.2 ≤ x0)))
        else (bif (x1.1 == (2 : Int)) then
            (some (decide (x1.2 ≤ x0)))
          else (bif (x1.1 == (3 : Int)) then
              (some (decide (x1.2 ≤ x0)))
            else (bif (x1.1 == (4 : Int)) then
                (some (decide (x1.2 ≤ (1 : Int))))
              else (bif (x1.1 == (5 : Int)) then
                  (some (decide (x1.2 ≤ (1 : Int))))
                else (bif (x1.1 == (7 : Int)) then
                    (some (decide (x1.2 ≤ (1 : Int))))
                  else (bif (x1.1 == (6 : Int)) then
                      (some (x1.2 == (0 : Int)))
                    else (bif (x1.1 == (8 : Int)) then
                        (some (decide (x1.2 < x0)))
                      else (bif (x1.1 == (9 : Int)) then
                          (some (decide (x1.2 < x0)))
                        else (some false)))))))))))) := by kernel_rfl
theorem i_moveNames_eq (k : Nat) : i_moveNames (k + 1) () =
  some ([(⟨#[99, 117, 116]⟩ : ByteArray), (⟨#[100, 101, 97, 108]⟩ : ByteArray), (⟨#[102, 108, 105, 112]⟩ : ByteArray), (⟨#[102, 97, 114, 111]⟩ : ByteArray), (⟨#[109, 111, 110, 103, 101]⟩ : ByteArray), (⟨#[109, 105, 108, 107]⟩ : ByteArray), (⟨#[100, 117, 99, 107]⟩ : ByteArray), (⟨#[116, 117, 114, 110]⟩ : ByteArray), (⟨#[117, 110, 100, 101, 114]⟩ : ByteArray)]) := by kernel_rfl
theorem i_MoveName_eq (k : Nat) (x0 : Int) : i_MoveName (k + 1) x0 =
  bif decide (x0 < (1 : Int)) then
    (some (⟨#[]⟩ : ByteArray))
  else (bif decide (x0 > (9 : Int)) then
      (some (⟨#[]⟩ : ByteArray))
    else ((i_moveNames k ()).bind fun y1 =>
      bif decide (0 ≤ (IntKind.i64.wrap (x0 - (1 : Int)))) then
        (bif decide ((IntKind.i64.wrap (x0 - (1 : Int))) < (y1.length : Int)) then
          (bif decide ((IntKind.i64.wrap (x0 - (1 : Int))).toNat < y1.length) then
            (some (y1.getD (IntKind.i64.wrap (x0 - (1 : Int))).toNat (⟨#[]⟩ : ByteArray)))
          else (none))
        else (none))
      else (none))) := by kernel_rfl
theorem strconv_Itoa_eq (k : Nat) (x0 : Int) : strconv_Itoa k x0 = itoaF x0 := by kernel_rfl
theorem i_FormatInt_eq (k : Nat) (x0 : Int) : i_FormatInt (k + 1) x0 =
  (strconv_Itoa k x0).bind fun y1 =>
  some y1 := by kernel_rfl
theorem i_FormatMove_eq (k : Nat) (x0 : Int × Int) : i_FormatMove (k + 1) x0 =
  (i_MoveOk k ((12 : Int), x0)).bind fun y1 =>
  bif (!y1) then
    (some (⟨#[]⟩ : ByteArray))
  else ((i_MoveName k x0.1).bind fun y2 =>
    bif decide (y2.size + (⟨#[32]⟩ : ByteArray).size ≤ 9223372036854775807) then
      ((i_FormatInt k x0.2).bind fun y3 =>
      bif decide ((y2 ++ (⟨#[32]⟩ : ByteArray)).size + y3.size ≤ 9223372036854775807) then
        (some ((y2 ++ (⟨#[32]⟩ : ByteArray)) ++ y3))
      else (none))
    else (none)) := by kernel_rfl
theorem w_FnExactFormatMove_eq (k : Nat) (x0 : Int × Int) : w_FnExactFormatMove (k + 1) x0 =
  (w_toMove k x0).bind fun y1 =>
  (s_FormatMove k y1).bind fun y2 =>
  (w_toMove k x0).bind fun y3 =>
  (i_FormatMove k y3).bind fun y4 =>
  bif (!(y4.toList == y2.toList)) then
    (some false)
  else (some true) := by kernel_rfl

/-! ### the tables are right -/
/-- What holds of the world throughout. -/
abbrev gw : World → Prop := fun w => Go.Lib.TabIs Go.Proofs.Tryd.prog w "internal/strconv.uint64pow10" .u64 Go.Lib.pow10Tab
theorem ty_3 : TyOk Go.Proofs.Tryd.prog 3 (.one (.int .i64)) := tyOk_int (by kernel_rfl) (by kernel_rfl) (by kernel_rfl)
theorem ty_5 : TyOk Go.Proofs.Tryd.prog 5 (.one (.int .u8)) := tyOk_int (by kernel_rfl) (by kernel_rfl) (by kernel_rfl)
theorem ty_9 : TyOk Go.Proofs.Tryd.prog 9 (.one (.str)) := tyOk_str (by kernel_rfl) (by kernel_rfl) (by kernel_rfl)
theorem ty_23 : TyOk Go.Proofs.Tryd.prog 23 (.struct [(0, 3), (1, 3)] [.int .i64, .int .i64] true) := tyOk_struct (fields := Go.Proofs.Tryd.prog.fieldsOf 23) (by kernel_rfl) (by kernel_rfl) (by kernel_rfl) (by kernel_rfl) (by kernel_rfl) (by kernel_rfl) (fun _ => structEq_ok (d := 20) (fields := Go.Proofs.Tryd.prog.fieldsOf 23) (by kernel_rfl) (by kernel_rfl) (by decide) (by kernel_rfl))
theorem ty_25 : TyOk Go.Proofs.Tryd.prog 25 (.struct [(0, 3), (1, 3)] [.int .i64, .int .i64] true) := tyOk_struct (fields := Go.Proofs.Tryd.prog.fieldsOf 25) (by kernel_rfl) (by kernel_rfl) (by kernel_rfl) (by kernel_rfl) (by kernel_rfl) (by kernel_rfl) (fun _ => structEq_ok (d := 20) (fields := Go.Proofs.Tryd.prog.fieldsOf 25) (by kernel_rfl) (by kernel_rfl) (by decide) (by kernel_rfl))
theorem ty_31 : TyOk Go.Proofs.Tryd.prog 31 (.one (.slice (.str))) := tyOk_slice (e := 9) (by kernel_rfl) (by kernel_rfl) (by kernel_rfl) (elemOk_of (by kernel_rfl) (by kernel_rfl) (by kernel_rfl))
theorem ty_33 : TyOk Go.Proofs.Tryd.prog 33 (.one (.slice (.int .u8))) := tyOk_slice (e := 5) (by kernel_rfl) (by kernel_rfl) (by kernel_rfl) (elemOk_of (by kernel_rfl) (by kernel_rfl) (by kernel_rfl))
theorem ty_1000033 : TyOk Go.Proofs.Tryd.prog 1000033 (.bytes) := tyOk_bytes (e := 5) (by kernel_rfl) (by kernel_rfl)
theorem hE : ∀ T ti, E.ty T = some ti → TyOk Go.Proofs.Tryd.prog T ti := lookT_ok (l := tyL) ⟨ty_3, ty_5, ty_9, ty_23, ty_25, ty_31, ty_33, ty_1000033, trivial⟩
theorem w_toMove_ok : OneF Go.Proofs.Tryd.prog gw 5 w_toMove_fi := fnOk_of (fn := Go.Proofs.Tryd.f5) (c := w_toMove_c) Go.Proofs.Tryd.func5 (by kernel_rfl) (by kernel_rfl) rfl rfl (by kernel_rfl) (by kernel_rfl) rfl
theorem s_l01In_ok : OneF Go.Proofs.Tryd.prog gw 13 s_l01In_fi := fnOk_of (fn := Go.Proofs.Tryd.f13) (c := s_l01In_c) Go.Proofs.Tryd.func13 (by kernel_rfl) (by kernel_rfl) rfl rfl (by kernel_rfl) (by kernel_rfl) rfl
theorem s_MoveOk_ok : OneF Go.Proofs.Tryd.prog gw 7 s_MoveOk_fi := fnOk_of (fn := Go.Proofs.Tryd.f7) (c := s_MoveOk_c) Go.Proofs.Tryd.func7 (by kernel_rfl) (by kernel_rfl) rfl rfl (by kernel_rfl) (by kernel_rfl) rfl
theorem s_l04Names_ok : OneF Go.Proofs.Tryd.prog gw 14 s_l04Names_fi := fnOk_of (fn := Go.Proofs.Tryd.f14) (c := s_l04Names_c) Go.Proofs.Tryd.func14 (by kernel_rfl) (by kernel_rfl) rfl rfl (by kernel_rfl) (by kernel_rfl) rfl
theorem s_MoveName_ok : OneF Go.Proofs.Tryd.prog gw 8 s_MoveName_fi := fnOk_of (fn := Go.Proofs.Tryd.f8) (c := s_MoveName_c) Go.Proofs.Tryd.func8 (by kernel_rfl) (by kernel_rfl) rfl rfl (by kernel_rfl) (by kernel_rfl) rfl
theorem s_FormatInt_ok : OneF Go.Proofs.Tryd.prog gw 9 s_FormatInt_fi := fnOk_of (fn := Go.Proofs.Tryd.f9) (c := s_FormatInt_c) Go.Proofs.Tryd.func9 (by kernel_rfl) (by kernel_rfl) rfl rfl (by kernel_rfl) (by kernel_rfl) rfl
theorem s_FormatMove_ok : OneF Go.Proofs.Tryd.prog gw 4 s_FormatMove_fi := fnOk_of (fn := Go.Proofs.Tryd.f4) (c := s_FormatMove_c) Go.Proofs.Tryd.func4 (by kernel_rfl) (by kernel_rfl) rfl rfl (by kernel_rfl) (by kernel_rfl) rfl
theorem i_MoveOk_ok : OneF Go.Proofs.Tryd.prog gw 10 i_MoveOk_fi := fnOk_of (fn := Go.Proofs.Tryd.f10) (c := i_MoveOk_c) Go.Proofs.Tryd.func10 (by kernel_rfl) (by kernel_rfl) rfl rfl (by kernel_rfl) (by kernel_rfl) rfl
theorem i_moveNames_ok : OneF Go.Proofs.Tryd.prog gw 15 i_moveNames_fi := fnOk_of (fn := Go.Proofs.Tryd.f15) (c := i_moveNames_c) Go.Proofs.Tryd.func15 (by kernel_rfl) (by kernel_rfl) rfl rfl (by kernel_rfl) (by kernel_rfl) rfl
theorem i_MoveName_ok : OneF Go.Proofs.Tryd.prog gw 11 i_MoveName_fi := fnOk_of (fn := Go.Proofs.Tryd.f11) (c := i_MoveName_c) Go.Proofs.Tryd.func11 (by kernel_rfl) (by kernel_rfl) rfl rfl (by kernel_rfl) (by kernel_rfl) rfl
theorem strconv_Itoa_ok : OneF Go.Proofs.Tryd.prog gw 16 strconv_Itoa_fi := itoa_ok Go.Proofs.Tryd.func16 (by kernel_rfl) (by kernel_rfl) (fun n w hw h0 h1 => Go.Proofs.Tryd.strconv_Itoa n h0 h1 w hw)
theorem i_FormatInt_ok : OneF Go.Proofs.Tryd.prog gw 12 i_FormatInt_fi := fnOk_of (fn := Go.Proofs.Tryd.f12) (c := i_FormatInt_c) Go.Proofs.Tryd.func12 (by kernel_rfl) (by kernel_rfl) rfl rfl (by kernel_rfl) (by kernel_rfl) rfl
theorem i_FormatMove_ok : OneF Go.Proofs.Tryd.prog gw 6 i_FormatMove_fi := fnOk_of (fn := Go.Proofs.Tryd.f6) (c := i_FormatMove_c) Go.Proofs.Tryd.func6 (by kernel_rfl) (by kernel_rfl) rfl rfl (by kernel_rfl) (by kernel_rfl) rfl
theorem w_FnExactFormatMove_ok : OneF Go.Proofs.Tryd.prog gw 3 w_FnExactFormatMove_fi := fnOk_of (fn := Go.Proofs.Tryd.f3) (c := w_FnExactFormatMove_c) Go.Proofs.Tryd.func3 (by kernel_rfl) (by kernel_rfl) rfl rfl (by kernel_rfl) (by kernel_rfl) rfl
theorem hF : FnOk Go.Proofs.Tryd.prog gw E := lookF_ok (l := fnL) ⟨w_toMove_ok, s_l01In_ok, s_MoveOk_ok, s_l04Names_ok, s_MoveName_ok, s_FormatInt_ok, s_FormatMove_ok, i_MoveOk_ok, i_moveNames_ok, i_MoveName_ok, strconv_Itoa_ok, i_FormatInt_ok, i_FormatMove_ok, w_FnExactFormatMove_ok, trivial⟩
end Pt
