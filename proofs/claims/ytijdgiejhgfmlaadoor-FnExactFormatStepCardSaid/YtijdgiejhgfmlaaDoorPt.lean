/-
  The plain machine's telling of functions of the program. Printed by gen.py.
  Conditions: none; these are definitions and equations that the kernel checks.
-/
import Derived.Test.YtijdgiejhgfmlaaDoorXvze
import Derived.Test.YtijdgiejhgfmlaaDoorProg
import Derived.Test.YtijdgiejhgfmlaaDoorShelf
namespace Pt
open Go Go.Vt
set_option linter.unusedVariables false
set_option maxRecDepth 100000

noncomputable def tyL : List (Nat × TI) := [(3, .one (.int .i64)),
  (5, .one (.int .u8)),
  (9, .one (.str)),
  (22, .one (.slice (.int .i64))),
  (28, .struct [(0, 3), (1, 3)] [.int .i64, .int .i64] true),
  (30, .struct [(0, 3), (1, 28), (3, 3)] [.int .i64, .int .i64, .int .i64, .int .i64] true),
  (32, .struct [(0, 3), (1, 3)] [.int .i64, .int .i64] true),
  (34, .struct [(0, 3), (1, 32), (3, 3)] [.int .i64, .int .i64, .int .i64, .int .i64] true),
  (37, .one (.slice (.str))),
  (44, .one (.slice (.int .u8))),
  (1000044, .bytes)]

/-! ### w_toIntS -/
noncomputable def w_toIntS_c : Code := (Go.Proofs.Tryd.f6.body).getD .skip
noncomputable def w_toIntS_h : Nat → Option (List Hint)
  | 3 => some [.keep 0, .cell 3 (.row 100003 (.int .i64) true false), .keep 4]
  | _ => none
noncomputable def w_toIntS_fi : Fi := ⟨[.v (.slice (.int .i64)) false], [(false, [⟨.slice (.int .i64), some (true, false)⟩])], none, w_toIntS_c, Go.Proofs.Tryd.f6.results.toList, 22, w_toIntS_h⟩
/-! ### s_FormatInt -/
noncomputable def s_FormatInt_c : Code := (Go.Proofs.Tryd.f12.body).getD .skip
noncomputable def s_FormatInt_h : Nat → Option (List Hint)
  | 6 => some [.keep 0, .keep 3]
  | _ => none
noncomputable def s_FormatInt_fi : Fi := ⟨[.v (.int .i64) false], [(false, [⟨.str, none⟩])], none, s_FormatInt_c, Go.Proofs.Tryd.f12.results.toList, 44, s_FormatInt_h⟩
/-! ### s_Join -/
noncomputable def s_Join_c : Code := (Go.Proofs.Tryd.f13.body).getD .skip
noncomputable def s_Join_h : Nat → Option (List Hint)
  | 3 => some [.keep 1, .keep 5, .keep 8, .keep 9, .keep 10]
  | _ => none
noncomputable def s_Join_fi : Fi := ⟨[.v (.slice (.str)) false, .v (.str) false], [(false, [⟨.str, none⟩])], none, s_Join_c, Go.Proofs.Tryd.f13.results.toList, 25, s_Join_h⟩
/-! ### s_FormatPicks -/
noncomputable def s_FormatPicks_c : Code := (Go.Proofs.Tryd.f5.body).getD .skip
noncomputable def s_FormatPicks_h : Nat → Option (List Hint)
  | 3 => some [.cell 3 (.row 100003 (.str) true false), .keep 7, .keep 8, .keep 9]
  | _ => none
noncomputable def s_FormatPicks_fi : Fi := ⟨[.v (.slice (.int .i64)) false], [(false, [⟨.str, none⟩])], none, s_FormatPicks_c, Go.Proofs.Tryd.f5.results.toList, 24, s_FormatPicks_h⟩
/-! ### strconv_Itoa -/
noncomputable abbrev strconv_Itoa_fi : Fi := itoaFi
/-! ### i_FormatInt -/
noncomputable def i_FormatInt_c : Code := (Go.Proofs.Tryd.f23.body).getD .skip
noncomputable def i_FormatInt_h : Nat → Option (List Hint)
  | _ => none
noncomputable def i_FormatInt_fi : Fi := ⟨[.v (.int .i64) false], [(false, [⟨.str, none⟩])], none, i_FormatInt_c, Go.Proofs.Tryd.f23.results.toList, 5, i_FormatInt_h⟩
/-! ### i_numbersOf -/
noncomputable def i_numbersOf_c : Code := (Go.Proofs.Tryd.f15.body).getD .skip
noncomputable def i_numbersOf_h : Nat → Option (List Hint)
  | 3 => some [.cell 3 (.row 100003 (.str) true true), .keep 6, .keep 7, .keep 8]
  | _ => none
noncomputable def i_numbersOf_fi : Fi := ⟨[.v (.slice (.int .i64)) false], [(false, [⟨.slice (.str), some (true, true)⟩])], none, i_numbersOf_c, Go.Proofs.Tryd.f15.results.toList, 19, i_numbersOf_h⟩
/-! ### strings_Join -/
noncomputable abbrev strings_Join_fi : Fi := joinFi
/-! ### i_Join -/
noncomputable def i_Join_c : Code := (Go.Proofs.Tryd.f14.body).getD .skip
noncomputable def i_Join_h : Nat → Option (List Hint)
  | _ => none
noncomputable def i_Join_fi : Fi := ⟨[.v (.slice (.str)) false, .v (.str) false], [(false, [⟨.str, none⟩])], none, i_Join_c, Go.Proofs.Tryd.f14.results.toList, 8, i_Join_h⟩
/-! ### i_FormatPicks -/
noncomputable def i_FormatPicks_c : Code := (Go.Proofs.Tryd.f7.body).getD .skip
noncomputable def i_FormatPicks_h : Nat → Option (List Hint)
  | _ => none
noncomputable def i_FormatPicks_fi : Fi := ⟨[.v (.slice (.int .i64)) false], [(false, [⟨.str, none⟩])], none, i_FormatPicks_c, Go.Proofs.Tryd.f7.results.toList, 9, i_FormatPicks_h⟩
/-! ### w_eqIntS -/
noncomputable def w_eqIntS_c : Code := (Go.Proofs.Tryd.f8.body).getD .skip
noncomputable def w_eqIntS_h : Nat → Option (List Hint)
  | 4 => some [.keep 0, .keep 1, .keep 5]
  | _ => none
noncomputable def w_eqIntS_fi : Fi := ⟨[.v (.slice (.int .i64)) false, .v (.slice (.int .i64)) false], [(false, [⟨.bool, none⟩])], none, w_eqIntS_c, Go.Proofs.Tryd.f8.results.toList, 26, w_eqIntS_h⟩
/-! ### w_FnExactFormatPicks -/
noncomputable def w_FnExactFormatPicks_c : Code := (Go.Proofs.Tryd.f3.body).getD .skip
noncomputable def w_FnExactFormatPicks_h : Nat → Option (List Hint)
  | _ => none
noncomputable def w_FnExactFormatPicks_fi : Fi := ⟨[.v (.slice (.int .i64)) false], [(false, [⟨.bool, none⟩])], none, w_FnExactFormatPicks_c, Go.Proofs.Tryd.f3.results.toList, 24, w_FnExactFormatPicks_h⟩
/-! ### w_toMove -/
noncomputable def w_toMove_c : Code := (Go.Proofs.Tryd.f19.body).getD .skip
noncomputable def w_toMove_h : Nat → Option (List Hint)
  | _ => none
noncomputable def w_toMove_fi : Fi := ⟨[.v (.pair (.int .i64) (.int .i64)) true], [(true, [⟨.int .i64, none⟩, ⟨.int .i64, none⟩])], none, w_toMove_c, Go.Proofs.Tryd.f19.results.toList, 11, w_toMove_h⟩
/-! ### w_toStep -/
noncomputable def w_toStep_c : Code := (Go.Proofs.Tryd.f10.body).getD .skip
noncomputable def w_toStep_h : Nat → Option (List Hint)
  | _ => none
noncomputable def w_toStep_fi : Fi := ⟨[.v (.pair (.int .i64) (.pair (.pair (.int .i64) (.int .i64)) (.int .i64))) true], [(true, [⟨.int .i64, none⟩, ⟨.int .i64, none⟩, ⟨.int .i64, none⟩, ⟨.int .i64, none⟩])], none, w_toStep_c, Go.Proofs.Tryd.f10.results.toList, 15, w_toStep_h⟩
/-! ### s_l01In -/
noncomputable def s_l01In_c : Code := (Go.Proofs.Tryd.f25.body).getD .skip
noncomputable def s_l01In_h : Nat → Option (List Hint)
  | _ => none
noncomputable def s_l01In_fi : Fi := ⟨[.v (.int .i64) false, .v (.int .i64) false, .v (.int .i64) false], [(false, [⟨.bool, none⟩])], none, s_l01In_c, Go.Proofs.Tryd.f25.results.toList, 15, s_l01In_h⟩
/-! ### s_ChoiceName -/
noncomputable def s_ChoiceName_c : Code := (Go.Proofs.Tryd.f16.body).getD .skip
noncomputable def s_ChoiceName_h : Nat → Option (List Hint)
  | _ => none
noncomputable def s_ChoiceName_fi : Fi := ⟨[.v (.int .i64) false], [(false, [⟨.str, none⟩])], none, s_ChoiceName_c, Go.Proofs.Tryd.f16.results.toList, 10, s_ChoiceName_h⟩
/-! ### s_MoveOk -/
noncomputable def s_MoveOk_c : Code := (Go.Proofs.Tryd.f26.body).getD .skip
noncomputable def s_MoveOk_h : Nat → Option (List Hint)
  | _ => none
noncomputable def s_MoveOk_fi : Fi := ⟨[.v (.int .i64) false, .v (.pair (.int .i64) (.int .i64)) true], [(false, [⟨.bool, none⟩])], none, s_MoveOk_c, Go.Proofs.Tryd.f26.results.toList, 38, s_MoveOk_h⟩
/-! ### s_l16Choice -/
noncomputable def s_l16Choice_c : Code := (Go.Proofs.Tryd.f27.body).getD .skip
noncomputable def s_l16Choice_h : Nat → Option (List Hint)
  | _ => none
noncomputable def s_l16Choice_fi : Fi := ⟨[.v (.int .i64) false, .v (.int .i64) false], [(false, [⟨.bool, none⟩])], none, s_l16Choice_c, Go.Proofs.Tryd.f27.results.toList, 23, s_l16Choice_h⟩
/-! ### s_StepOk -/
noncomputable def s_StepOk_c : Code := (Go.Proofs.Tryd.f17.body).getD .skip
noncomputable def s_StepOk_h : Nat → Option (List Hint)
  | _ => none
noncomputable def s_StepOk_fi : Fi := ⟨[.v (.int .i64) false, .v (.pair (.int .i64) (.pair (.pair (.int .i64) (.int .i64)) (.int .i64))) true], [(false, [⟨.bool, none⟩])], none, s_StepOk_c, Go.Proofs.Tryd.f17.results.toList, 46, s_StepOk_h⟩
/-! ### s_l04Names -/
noncomputable def s_l04Names_c : Code := (Go.Proofs.Tryd.f35.body).getD .skip
noncomputable def s_l04Names_h : Nat → Option (List Hint)
  | _ => none
noncomputable def s_l04Names_fi : Fi := ⟨[], [(false, [⟨.slice (.str), some (true, false)⟩])], none, s_l04Names_c, Go.Proofs.Tryd.f35.results.toList, 2, s_l04Names_h⟩
/-! ### s_MoveName -/
noncomputable def s_MoveName_c : Code := (Go.Proofs.Tryd.f28.body).getD .skip
noncomputable def s_MoveName_h : Nat → Option (List Hint)
  | _ => none
noncomputable def s_MoveName_fi : Fi := ⟨[.v (.int .i64) false], [(false, [⟨.str, none⟩])], none, s_MoveName_c, Go.Proofs.Tryd.f28.results.toList, 10, s_MoveName_h⟩
/-! ### s_FormatMove -/
noncomputable def s_FormatMove_c : Code := (Go.Proofs.Tryd.f18.body).getD .skip
noncomputable def s_FormatMove_h : Nat → Option (List Hint)
  | _ => none
noncomputable def s_FormatMove_fi : Fi := ⟨[.v (.pair (.int .i64) (.int .i64)) true], [(false, [⟨.str, none⟩])], none, s_FormatMove_c, Go.Proofs.Tryd.f18.results.toList, 14, s_FormatMove_h⟩
/-! ### s_FormatStep -/
noncomputable def s_FormatStep_c : Code := (Go.Proofs.Tryd.f9.body).getD .skip
noncomputable def s_FormatStep_h : Nat → Option (List Hint)
  | _ => none
noncomputable def s_FormatStep_fi : Fi := ⟨[.v (.pair (.int .i64) (.pair (.pair (.int .i64) (.int .i64)) (.int .i64))) true], [(false, [⟨.str, none⟩])], none, s_FormatStep_c, Go.Proofs.Tryd.f9.results.toList, 39, s_FormatStep_h⟩
/-! ### i_MoveOk -/
noncomputable def i_MoveOk_c : Code := (Go.Proofs.Tryd.f29.body).getD .skip
noncomputable def i_MoveOk_h : Nat → Option (List Hint)
  | _ => none
noncomputable def i_MoveOk_fi : Fi := ⟨[.v (.int .i64) false, .v (.pair (.int .i64) (.int .i64)) true], [(false, [⟨.bool, none⟩])], none, i_MoveOk_c, Go.Proofs.Tryd.f29.results.toList, 45, i_MoveOk_h⟩
/-! ### i_StepOk -/
noncomputable def i_StepOk_c : Code := (Go.Proofs.Tryd.f20.body).getD .skip
noncomputable def i_StepOk_h : Nat → Option (List Hint)
  | _ => none
noncomputable def i_StepOk_fi : Fi := ⟨[.v (.int .i64) false, .v (.pair (.int .i64) (.pair (.pair (.int .i64) (.int .i64)) (.int .i64))) true], [(false, [⟨.bool, none⟩])], none, i_StepOk_c, Go.Proofs.Tryd.f20.results.toList, 75, i_StepOk_h⟩
/-! ### i_moveNames -/
noncomputable def i_moveNames_c : Code := (Go.Proofs.Tryd.f36.body).getD .skip
noncomputable def i_moveNames_h : Nat → Option (List Hint)
  | _ => none
noncomputable def i_moveNames_fi : Fi := ⟨[], [(false, [⟨.slice (.str), some (true, false)⟩])], none, i_moveNames_c, Go.Proofs.Tryd.f36.results.toList, 2, i_moveNames_h⟩
/-! ### i_MoveName -/
noncomputable def i_MoveName_c : Code := (Go.Proofs.Tryd.f30.body).getD .skip
noncomputable def i_MoveName_h : Nat → Option (List Hint)
  | _ => none
noncomputable def i_MoveName_fi : Fi := ⟨[.v (.int .i64) false], [(false, [⟨.str, none⟩])], none, i_MoveName_c, Go.Proofs.Tryd.f30.results.toList, 14, i_MoveName_h⟩
/-! ### i_FormatMove -/
noncomputable def i_FormatMove_c : Code := (Go.Proofs.Tryd.f21.body).getD .skip
noncomputable def i_FormatMove_h : Nat → Option (List Hint)
  | _ => none
noncomputable def i_FormatMove_fi : Fi := ⟨[.v (.pair (.int .i64) (.int .i64)) true], [(false, [⟨.str, none⟩])], none, i_FormatMove_c, Go.Proofs.Tryd.f21.results.toList, 14, i_FormatMove_h⟩
/-! ### i_ChoiceName -/
noncomputable def i_ChoiceName_c : Code := (Go.Proofs.Tryd.f22.body).getD .skip
noncomputable def i_ChoiceName_h : Nat → Option (List Hint)
  | _ => none
noncomputable def i_ChoiceName_fi : Fi := ⟨[.v (.int .i64) false], [(false, [⟨.str, none⟩])], none, i_ChoiceName_c, Go.Proofs.Tryd.f22.results.toList, 13, i_ChoiceName_h⟩
/-! ### i_FormatStep -/
noncomputable def i_FormatStep_c : Code := (Go.Proofs.Tryd.f11.body).getD .skip
noncomputable def i_FormatStep_h : Nat → Option (List Hint)
  | _ => none
noncomputable def i_FormatStep_fi : Fi := ⟨[.v (.pair (.int .i64) (.pair (.pair (.int .i64) (.int .i64)) (.int .i64))) true], [(false, [⟨.str, none⟩])], none, i_FormatStep_c, Go.Proofs.Tryd.f11.results.toList, 29, i_FormatStep_h⟩
/-! ### w_FnExactFormatStep -/
noncomputable def w_FnExactFormatStep_c : Code := (Go.Proofs.Tryd.f4.body).getD .skip
noncomputable def w_FnExactFormatStep_h : Nat → Option (List Hint)
  | _ => none
noncomputable def w_FnExactFormatStep_fi : Fi := ⟨[.v (.pair (.int .i64) (.pair (.pair (.int .i64) (.int .i64)) (.int .i64))) true], [(false, [⟨.bool, none⟩])], none, w_FnExactFormatStep_c, Go.Proofs.Tryd.f4.results.toList, 14, w_FnExactFormatStep_h⟩

noncomputable def fnL : List (Nat × List Nat × Fi) := [(6, [], w_toIntS_fi),
  (12, [], s_FormatInt_fi),
  (13, [], s_Join_fi),
  (5, [], s_FormatPicks_fi),
  (31, [], strconv_Itoa_fi),
  (23, [], i_FormatInt_fi),
  (15, [], i_numbersOf_fi),
  (24, [], strings_Join_fi),
  (14, [], i_Join_fi),
  (7, [], i_FormatPicks_fi),
  (8, [], w_eqIntS_fi),
  (3, [], w_FnExactFormatPicks_fi),
  (19, [], w_toMove_fi),
  (10, [], w_toStep_fi),
  (25, [], s_l01In_fi),
  (16, [], s_ChoiceName_fi),
  (26, [], s_MoveOk_fi),
  (27, [], s_l16Choice_fi),
  (17, [], s_StepOk_fi),
  (35, [], s_l04Names_fi),
  (28, [], s_MoveName_fi),
  (18, [], s_FormatMove_fi),
  (9, [], s_FormatStep_fi),
  (29, [], i_MoveOk_fi),
  (20, [], i_StepOk_fi),
  (36, [], i_moveNames_fi),
  (30, [], i_MoveName_fi),
  (21, [], i_FormatMove_fi),
  (22, [], i_ChoiceName_fi),
  (11, [], i_FormatStep_fi),
  (4, [], w_FnExactFormatStep_fi)]
noncomputable def E : Env := ⟨lookT tyL, lookF fnL⟩

noncomputable def w_toIntS (k : Nat) (x : List Int) : Option (List Int) := aFn E w_toIntS_fi k x
noncomputable def w_toIntS_l3 (k : Nat) (v0 : List Int) (v4 : Int) (o100003 : List Int) : Option (List Int) := aRun E k w_toIntS_fi.rs (ioOf w_toIntS_fi.ps) w_toIntS_fi.res w_toIntS_fi.hints [.code (sub w_toIntS_c [1, 1, 0, 1, 0, 0, 0, 0]), .code (sub w_toIntS_c [1, 1, 0, 1, 0, 0, 0, 1]), .code (sub w_toIntS_c [1, 1, 0, 1, 0, 0, 1]), .inLoop (sub w_toIntS_c [1, 1, 0, 1, 0, 0]), .inBlock 0, .code (sub w_toIntS_c [1, 1, 1])] ⟨[.cv (.val (.slice (.int .i64)) v0), .cv .dead, .cv .dead, .cv (.own 100003), .cv (.val (.int .i64) v4), .cv .dead, .cv .dead, .cv .dead, .cv .dead, .cv .dead, .cv .dead, .cv .dead, .cv .dead, .cv .dead, .cv .dead, .cv .dead, .cv .dead, .cv .dead, .cv .dead, .cv .dead, .cv .dead, .cv .dead], [(100003, .row (.int .i64) o100003 true false)], true⟩
noncomputable def s_FormatInt (k : Nat) (x : Int) : Option (ByteArray) := aFn E s_FormatInt_fi k x
noncomputable def s_FormatInt_l6 (k : Nat) (v0 : Int) (v3 : ByteArray) : Option (ByteArray) := aRun E k s_FormatInt_fi.rs (ioOf s_FormatInt_fi.ps) s_FormatInt_fi.res s_FormatInt_fi.hints [.code (sub s_FormatInt_c [1, 1, 1, 0, 0, 0, 0, 0]), .code (sub s_FormatInt_c [1, 1, 1, 0, 0, 0, 0, 1]), .code (sub s_FormatInt_c [1, 1, 1, 0, 0, 0, 1]), .inLoop (sub s_FormatInt_c [1, 1, 1, 0, 0, 0]), .inBlock 0, .code (sub s_FormatInt_c [1, 1, 1, 1])] ⟨[.cv (.val (.int .i64) v0), .cv .dead, .cv .dead, .cv (.val (.str) v3), .cv .dead, .cv .dead, .cv .dead, .cv .dead, .cv .dead, .cv .dead, .cv .dead, .cv .dead, .cv .dead, .cv .dead, .cv .dead, .cv .dead, .cv .dead, .cv .dead, .cv .dead, .cv .dead, .cv .dead, .cv .dead, .cv .dead, .cv .dead, .cv .dead, .cv .dead, .cv .dead, .cv .dead, .cv .dead, .cv .dead, .cv .dead, .cv .dead, .cv .dead, .cv .dead, .cv .dead, .cv .dead, .cv .dead, .cv .dead, .cv .dead, .cv .dead, .cv .dead, .cv .dead, .cv .dead, .cv .dead], [], true⟩
noncomputable def s_Join (k : Nat) (x : (List ByteArray) × ByteArray) : Option (ByteArray) := aFn E s_Join_fi k x
noncomputable def s_Join_l3 (k : Nat) (v1 : ByteArray) (v5 : ByteArray) (v8 : List ByteArray) (v9 : Int) (v10 : Int) : Option (ByteArray) := aRun E k s_Join_fi.rs (ioOf s_Join_fi.ps) s_Join_fi.res s_Join_fi.hints [.code (sub s_Join_c [1, 1, 0, 1, 0, 0, 0]), .code (sub s_Join_c [1, 1, 0, 1, 0, 0, 1]), .inLoop (sub s_Join_c [1, 1, 0, 1, 0, 0]), .inBlock 0, .code (sub s_Join_c [1, 1, 1])] ⟨[.cv .dead, .cv (.val (.str) v1), .cv .dead, .cv .dead, .cv .dead, .cv (.val (.str) v5), .cv .dead, .cv .dead, .cv (.val (.slice (.str)) v8), .cv (.val (.int .i64) v9), .cv (.val (.int .i64) v10), .cv .dead, .cv .dead, .cv .dead, .cv .dead, .cv .dead, .cv .dead, .cv .dead, .cv .dead, .cv .dead, .cv .dead, .cv .dead, .cv .dead, .cv .dead, .cv .dead], [], true⟩
noncomputable def s_FormatPicks (k : Nat) (x : List Int) : Option (ByteArray) := aFn E s_FormatPicks_fi k x
noncomputable def s_FormatPicks_l3 (k : Nat) (v7 : List Int) (v8 : Int) (v9 : Int) (o100003 : List ByteArray) : Option (ByteArray) := aRun E k s_FormatPicks_fi.rs (ioOf s_FormatPicks_fi.ps) s_FormatPicks_fi.res s_FormatPicks_fi.hints [.code (sub s_FormatPicks_c [1, 1, 0, 1, 0, 0, 0]), .code (sub s_FormatPicks_c [1, 1, 0, 1, 0, 0, 1]), .inLoop (sub s_FormatPicks_c [1, 1, 0, 1, 0, 0]), .inBlock 0, .code (sub s_FormatPicks_c [1, 1, 1])] ⟨[.cv .dead, .cv .dead, .cv .dead, .cv (.own 100003), .cv .dead, .cv .dead, .cv .dead, .cv (.val (.slice (.int .i64)) v7), .cv (.val (.int .i64) v8), .cv (.val (.int .i64) v9), .cv .dead, .cv .dead, .cv .dead, .cv .dead, .cv .dead, .cv .dead, .cv .dead, .cv .dead, .cv .dead, .cv .dead, .cv .dead, .cv .dead, .cv .dead, .cv .dead], [(100003, .row (.str) o100003 true false)], true⟩
noncomputable def strconv_Itoa (k : Nat) (x : Int) : Option (ByteArray) := aFn E strconv_Itoa_fi k x
noncomputable def i_FormatInt (k : Nat) (x : Int) : Option (ByteArray) := aFn E i_FormatInt_fi k x
noncomputable def i_numbersOf (k : Nat) (x : List Int) : Option (List ByteArray) := aFn E i_numbersOf_fi k x
noncomputable def i_numbersOf_l3 (k : Nat) (v6 : List Int) (v7 : Int) (v8 : Int) (o100003 : List ByteArray) : Option (List ByteArray) := aRun E k i_numbersOf_fi.rs (ioOf i_numbersOf_fi.ps) i_numbersOf_fi.res i_numbersOf_fi.hints [.code (sub i_numbersOf_c [1, 1, 0, 1, 0, 0, 0]), .code (sub i_numbersOf_c [1, 1, 0, 1, 0, 0, 1]), .inLoop (sub i_numbersOf_c [1, 1, 0, 1, 0, 0]), .inBlock 0, .code (sub i_numbersOf_c [1, 1, 1])] ⟨[.cv .dead, .cv .dead, .cv .dead, .cv (.own 100003), .cv .dead, .cv .dead, .cv (.val (.slice (.int .i64)) v6), .cv (.val (.int .i64) v7), .cv (.val (.int .i64) v8), .cv .dead, .cv .dead, .cv .dead, .cv .dead, .cv .dead, .cv .dead, .cv .dead, .cv .dead, .cv .dead, .cv .dead], [(100003, .row (.str) o100003 true true)], true⟩
noncomputable def strings_Join (k : Nat) (x : (List ByteArray) × ByteArray) : Option (ByteArray) := aFn E strings_Join_fi k x
noncomputable def i_Join (k : Nat) (x : (List ByteArray) × ByteArray) : Option (ByteArray) := aFn E i_Join_fi k x
noncomputable def i_FormatPicks (k : Nat) (x : List Int) : Option (ByteArray) := aFn E i_FormatPicks_fi k x
noncomputable def w_eqIntS (k : Nat) (x : (List Int) × List Int) : Option (Bool) := aFn E w_eqIntS_fi k x
noncomputable def w_eqIntS_l4 (k : Nat) (v0 : List Int) (v1 : List Int) (v5 : Int) : Option (Bool) := aRun E k w_eqIntS_fi.rs (ioOf w_eqIntS_fi.ps) w_eqIntS_fi.res w_eqIntS_fi.hints [.code (sub w_eqIntS_c [1, 1, 0, 1, 0, 0, 0, 0]), .code (sub w_eqIntS_c [1, 1, 0, 1, 0, 0, 0, 1]), .code (sub w_eqIntS_c [1, 1, 0, 1, 0, 0, 1]), .inLoop (sub w_eqIntS_c [1, 1, 0, 1, 0, 0]), .inBlock 0, .code (sub w_eqIntS_c [1, 1, 1])] ⟨[.cv (.val (.slice (.int .i64)) v0), .cv (.val (.slice (.int .i64)) v1), .cv .dead, .cv .dead, .cv .dead, .cv (.val (.int .i64) v5), .cv .dead, .cv .dead, .cv .dead, .cv .dead, .cv .dead, .cv .dead, .cv .dead, .cv .dead, .cv .dead, .cv .dead, .cv .dead, .cv .dead, .cv .dead, .cv .dead, .cv .dead, .cv .dead, .cv .dead, .cv .dead, .cv .dead, .cv .dead], [], true⟩
noncomputable def w_FnExactFormatPicks (k : Nat) (x : List Int) : Option (Bool) := aFn E w_FnExactFormatPicks_fi k x
noncomputable def w_toMove (k : Nat) (x : Int × Int) : Option (Int × Int) := aFn E w_toMove_fi k x
noncomputable def w_toStep (k : Nat) (x : Int × (Int × Int) × Int) : Option (Int × Int × Int × Int) := aFn E w_toStep_fi k x
noncomputable def s_l01In (k : Nat) (x : Int × Int × Int) : Option (Bool) := aFn E s_l01In_fi k x
noncomputable def s_ChoiceName (k : Nat) (x : Int) : Option (ByteArray) := aFn E s_ChoiceName_fi k x
noncomputable def s_MoveOk (k : Nat) (x : Int × Int × Int) : Option (Bool) := aFn E s_MoveOk_fi k x
noncomputable def s_l16Choice (k : Nat) (x : Int × Int) : Option (Bool) := aFn E s_l16Choice_fi k x
noncomputable def s_StepOk (k : Nat) (x : Int × Int × (Int × Int) × Int) : Option (Bool) := aFn E s_StepOk_fi k x
noncomputable def s_l04Names (k : Nat) (x : Unit) : Option (List ByteArray) := aFn E s_l04Names_fi k x
noncomputable def s_MoveName (k : Nat) (x : Int) : Option (ByteArray) := aFn E s_MoveName_fi k x
noncomputable def s_FormatMove (k : Nat) (x : Int × Int) : Option (ByteArray) := aFn E s_FormatMove_fi k x
noncomputable def s_FormatStep (k : Nat) (x : Int × (Int × Int) × Int) : Option (ByteArray) := aFn E s_FormatStep_fi k x
noncomputable def i_MoveOk (k : Nat) (x : Int × Int × Int) : Option (Bool) := aFn E i_MoveOk_fi k x
noncomputable def i_StepOk (k : Nat) (x : Int × Int × (Int × Int) × Int) : Option (Bool) := aFn E i_StepOk_fi k x
noncomputable def i_moveNames (k : Nat) (x : Unit) : Option (List ByteArray) := aFn E i_moveNames_fi k x
noncomputable def i_MoveName (k : Nat) (x : Int) : Option (ByteArray) := aFn E i_MoveName_fi k x
noncomputable def i_FormatMove (k : Nat) (x : Int × Int) : Option (ByteArray) := aFn E i_FormatMove_fi k x
noncomputable def i_ChoiceName (k : Nat) (x : Int) : Option (ByteArray) := aFn E i_ChoiceName_fi k x
noncomputable def i_FormatStep (k : Nat) (x : Int × (Int × Int) × Int) : Option (ByteArray) := aFn E i_FormatStep_fi k x
noncomputable def w_FnExactFormatStep (k : Nat) (x : Int × (Int × Int) × Int) : Option (Bool) := aFn E w_FnExactFormatStep_fi k x

theorem w_toIntS_eq (k : Nat) (x0 : List Int) : w_toIntS (k + 1) x0 =
  bif decide (0 ≤ (x0.length : Int)) then
    (bif decide ((x0.length : Int) ≤ (rowMax : Int)) then
      (bif ((x0.length : Int) == (x0.length : Int)) then
        (w_toIntS_l3 k x0 (0 : Int) (List.replicate (x0.length : Int).toNat (0 : Int)))
      else (none))
    else (none))
  else (none) := by kernel_rfl
theorem w_toIntS_l3_eq (k : Nat) (v0 : List Int) (v4 : Int) (o100003 : List Int) : w_toIntS_l3 (k + 1) v0 v4 o100003 =
  bif decide (v4 < (v0.length : Int)) then
    (bif decide (0 ≤ v4) then
      (bif decide (v4 < (v0.length : Int)) then
        (bif decide (0 ≤ v4) then
          (bif decide (v4 < (o100003.length : Int)) then
            (bif decide (v4.toNat < o100003.length) then
              (w_toIntS_l3 k v0 (IntKind.i64.wrap (v4 + (1 : Int))) (o100003.set v4.toNat (v0.getD v4.toNat (0 : Int))))
            else (none))
          else (none))
        else (none))
      else (none))
    else (none))
  else (some o100003) := by kernel_rfl
theorem s_FormatInt_eq (k : Nat) (x0 : Int) : s_FormatInt (k + 1) x0 =
  bif decide (x0 < (0 : Int)) then
    (bif ((IntKind.i64.wrap (x0.tdiv (10 : Int))) == (0 : Int)) then
      (bif decide ((⟨#[45]⟩ : ByteArray).size + (bytesStr [(IntKind.u8.wrap (IntKind.i64.wrap ((48 : Int) - x0)))]).size ≤ 9223372036854775807) then
        (some ((⟨#[45]⟩ : ByteArray) ++ (bytesStr [(IntKind.u8.wrap (IntKind.i64.wrap ((48 : Int) - x0)))])))
      else (none))
    else ((s_FormatInt k (IntKind.i64.wrap (x0.tdiv (10 : Int)))).bind fun y1 =>
      bif decide (y1.size + (bytesStr [(IntKind.u8.wrap (IntKind.i64.wrap ((48 : Int) - (x0.tmod (10 : Int)))))]).size ≤ 9223372036854775807) then
        (some (y1 ++ (bytesStr [(IntKind.u8.wrap (IntKind.i64.wrap ((48 : Int) - (x0.tmod (10 : Int)))))])))
      else (none)))
  else (s_FormatInt_l6 k x0 (⟨#[]⟩ : ByteArray)) := by kernel_rfl
theorem s_FormatInt_l6_eq (k : Nat) (v0 : Int) (v3 : ByteArray) : s_FormatInt_l6 (k + 1) v0 v3 =
  bif decide (v0 > (9 : Int)) then
    (bif decide ((bytesStr [(IntKind.u8.wrap (IntKind.i64.wrap ((48 : Int) + (v0.tmod (10 : Int)))))]).size + v3.size ≤ 9223372036854775807) then
      (s_FormatInt_l6 k (IntKind.i64.wrap (v0.tdiv (10 : Int))) ((bytesStr [(IntKind.u8.wrap (IntKind.i64.wrap ((48 : Int) + (v0.tmod (10 : Int)))))]) ++ v3))
    else (none))
  else (bif decide ((bytesStr [(IntKind.u8.wrap (IntKind.i64.wrap ((48 : Int) + v0)))]).size + v3.size ≤ 9223372036854775807) then
      (some ((bytesStr [(IntKind.u8.wrap (IntKind.i64.wrap ((48 : Int) + v0)))]) ++ v3))
    else (none)) := by kernel_rfl
theorem s_Join_eq (k : Nat) (x0 : List ByteArray) (x1 : ByteArray) : s_Join (k + 1) (x0, x1) =
  s_Join_l3 k x1 (⟨#[]⟩ : ByteArray) x0 (x0.length : Int) (0 : Int) := by kernel_rfl
theorem s_Join_l3_eq (k : Nat) (v1 : ByteArray) (v5 : ByteArray) (v8 : List ByteArray) (v9 : Int) (v10 : Int) : s_Join_l3 (k + 1) v1 v5 v8 v9 v10 =
  bif decide (v10 < v9) then
    (bif decide (0 ≤ v10) then
      (bif decide (v10 < (v8.length : Int)) then
        (bif decide (v10 > (0 : Int)) then
          (bif decide (v5.size + v1.size ≤ 9223372036854775807) then
            (bif decide ((v5 ++ v1).size + (v8.getD v10.toNat (⟨#[]⟩ : ByteArray)).size ≤ 9223372036854775807) then
              (s_Join_l3 k v1 ((v5 ++ v1) ++ (v8.getD v10.toNat (⟨#[]⟩ : ByteArray))) v8 v9 (IntKind.i64.wrap (v10 + (1 : Int))))
            else (none))
          else (none))
        else (bif decide (v5.size + (v8.getD v10.toNat (⟨#[]⟩ : ByteArray)).size ≤ 9223372036854775807) then
            (s_Join_l3 k v1 (v5 ++ (v8.getD v10.toNat (⟨#[]⟩ : ByteArray))) v8 v9 (IntKind.i64.wrap (v10 + (1 : Int))))
          else (none)))
      else (none))
    else (none))
  else (some v5) := by kernel_rfl
theorem s_FormatPicks_eq (k : Nat) (x0 : List Int) : s_FormatPicks (k + 1) x0 =
  s_FormatPicks_l3 k x0 (x0.length : Int) (0 : Int) ([] : List ByteArray) := by kernel_rfl
theorem s_FormatPicks_l3_eq (k : Nat) (v7 : List Int) (v8 : Int) (v9 : Int) (o100003 : List ByteArray) : s_FormatPicks_l3 (k + 1) v7 v8 v9 o100003 =
  bif decide (v9 < v8) then
    (bif decide (0 ≤ v9) then
      (bif decide (v9 < (v7.length : Int)) then
        ((s_FormatInt k (v7.getD v9.toNat (0 : Int))).bind fun y1 =>
        bif decide (o100003.length + [y1].length ≤ rowMax) then
          (s_FormatPicks_l3 k v7 v8 (IntKind.i64.wrap (v9 + (1 : Int))) (o100003 ++ [y1]))
        else (none))
      else (none))
    else (none))
  else (bif ((o100003.length : Int) == (0 : Int)) then
      (some (⟨#[45]⟩ : ByteArray))
    else ((s_Join k (o100003, (⟨#[44]⟩ : ByteArray))).bind fun y2 =>
      some y2)) := by kernel_rfl
theorem strconv_Itoa_eq (k : Nat) (x0 : Int) : strconv_Itoa k x0 = itoaF x0 := by kernel_rfl
theorem i_FormatInt_eq (k : Nat) (x0 : Int) : i_FormatInt (k + 1) x0 =
  (strconv_Itoa k x0).bind fun y1 =>
  some y1 := by kernel_rfl
theorem i_numbersOf_eq (k : Nat) (x0 : List Int) : i_numbersOf (k + 1) x0 =
  i_numbersOf_l3 k x0 (x0.length : Int) (0 : Int) [] := by kernel_rfl
theorem i_numbersOf_l3_eq (k : Nat) (v6 : List Int) (v7 : Int) (v8 : Int) (o100003 : List ByteArray) : i_numbersOf_l3 (k + 1) v6 v7 v8 o100003 =
  bif decide (v8 < v7) then
    (bif decide (0 ≤ v8) then
      (bif decide (v8 < (v6.length : Int)) then
        ((i_FormatInt k (v6.getD v8.toNat (0 : Int))).bind fun y1 =>
        bif decide (o100003.length + [y1].length ≤ rowMax) then
          (i_numbersOf_l3 k v6 v7 (IntKind.i64.wrap (v8 + (1 : Int))) (o100003 ++ [y1]))
        else (none))
      else (none))
    else (none))
  else (some o100003) := by kernel_rfl
theorem strings_Join_eq (k : Nat) (x0 : List ByteArray) (x1 : ByteArray) : strings_Join k (x0, x1) = joinF x0 x1 := by kernel_rfl
theorem i_Join_eq (k : Nat) (x0 : List ByteArray) (x1 : ByteArray) : i_Join (k + 1) (x0, x1) =
  (strings_Join k (x0, x1)).bind fun y1 =>
  some y1 := by kernel_rfl
theorem i_FormatPicks_eq (k : Nat) (x0 : List Int) : i_FormatPicks (k + 1) x0 =
  bif ((x0.length : Int) == (0 : Int)) then
    (some (⟨#[45]⟩ : ByteArray))
  else ((i_numbersOf k x0).bind fun y1 =>
    (i_Join k (y1, (⟨#[44]⟩ : ByteArray))).bind fun y2 =>
    some y2) := by kernel_rfl
theorem w_eqIntS_eq (k : Nat) (x0 : List Int) (x1 : List Int) : w_eqIntS (k + 1) (x0, x1) =
  bif (!((x0.length : Int) == (x1.length : Int))) then
    (some false)
  else (w_eqIntS_l4 k x0 x1 (0 : Int)) := by kernel_rfl
theorem w_eqIntS_l4_eq (k : Nat) (v0 : List Int) (v1 : List Int) (v5 : Int) : w_eqIntS_l4 (k + 1) v0 v1 v5 =
  bif decide (v5 < (v0.length : Int)) then
    (bif decide (0 ≤ v5) then
      (bif decide (v5 < (v0.length : Int)) then
        (bif decide (0 ≤ v5) then
          (bif decide (v5 < (v1.length : Int)) then
            (bif (!((v0.getD v5.toNat (0 : Int)) == (v1.getD v5.toNat (0 : Int)))) then
              (some false)
            else (w_eqIntS_l4 k v0 v1 (IntKind.i64.wrap (v5 + (1 : Int)))))
          else (none))
        else (none))
      else (none))
    else (none))
  else (some true) := by kernel_rfl
theorem w_FnExactFormatPicks_eq (k : Nat) (x0 : List Int) : w_FnExactFormatPicks (k + 1) x0 =
  bif decide ((x0.length : Int) > (1048576 : Int)) then
    (some true)
  else ((w_toIntS k x0).bind fun y1 =>
    (s_FormatPicks k y1).bind fun y2 =>
    (w_toIntS k x0).bind fun y3 =>
    (i_FormatPicks k y3).bind fun y4 =>
    bif (!(y4.toList == y2.toList)) then
      (some false)
    else ((w_toIntS k x0).bind fun y5 =>
      (w_eqIntS k (y3, y5)).bind fun y6 =>
      bif (!y6) then
        (some false)
      else (some true))) := by kernel_rfl
theorem w_toMove_eq (k : Nat) (x0 : Int × Int) : w_toMove (k + 1) x0 =
  some x0 := by kernel_rfl
theorem w_toStep_eq (k : Nat) (x0 : Int × (Int × Int) × Int) : w_toStep (k + 1) x0 =
  (w_toMove k x0.2.1).bind fun y1 =>
  some (x0.1, (y1.1, (y1.2, x0.2.2))) := by kernel_rfl
theorem s_l01In_eq (k : Nat) (x0 : Int) (x1 : Int) (x2 : Int) : s_l01In (k + 1) (x0, x1, x2) =
  bif decide (x0 ≥ x1) then
    (some (decide (x0 ≤ x2)))
  else (some false) := by kernel_rfl
theorem s_ChoiceName_eq (k : Nat) (x0 : Int) : s_ChoiceName (k + 1) x0 =
  (s_l01In k (x0, ((0 : Int), (4 : Int)))).bind fun y1 =>
  bif (!y1) then
    (some (⟨#[]⟩ : ByteArray))
  else (bif decide (0 ≤ x0) then
      (bif decide (x0 < (([(⟨#[102, 105, 120, 101, 100]⟩ : ByteArray), (⟨#[97, 110, 121, 99, 117, 116]⟩ : ByteArray), (⟨#[114, 105, 102, 102, 108, 101]⟩ : ByteArray), (⟨#[97, 110, 121, 112, 97, 105, 114]⟩ : ByteArray), (⟨#[112, 105, 99, 107]⟩ : ByteArray)]).length : Int)) then
        (bif decide (x0.toNat < ([(⟨#[102, 105, 120, 101, 100]⟩ : ByteArray), (⟨#[97, 110, 121, 99, 117, 116]⟩ : ByteArray), (⟨#[114, 105, 102, 102, 108, 101]⟩ : ByteArray), (⟨#[97, 110, 121, 112, 97, 105, 114]⟩ : ByteArray), (⟨#[112, 105, 99, 107]⟩ : ByteArray)]).length) then
          (some (([(⟨#[102, 105, 120, 101, 100]⟩ : ByteArray), (⟨#[97, 110, 121, 99, 117, 116]⟩ : ByteArray), (⟨#[114, 105, 102, 102, 108, 101]⟩ : ByteArray), (⟨#[97, 110, 121, 112, 97, 105, 114]⟩ : ByteArray), (⟨#[112, 105, 99, 107]⟩ : ByteArray)]).getD x0.toNat (⟨#[]⟩ : ByteArray)))
        else (none))
      else (none))
    else (none)) := by kernel_rfl
theorem s_MoveOk_eq (k : Nat) (x0 : Int) (x1 : Int × Int) : s_MoveOk (k + 1) (x0, x1) =
  (s_l01In k (x0, ((1 : Int), (12 : Int)))).bind fun y1 =>
  bif (!y1) then
    (some false)
  else (bif (x1.1 == (1 : Int)) then
      ((s_l01In k (x1.2, ((0 : Int), x0))).bind fun y2 =>
      some y2)
    else (bif (x1.1 == (2 : Int)) then
        ((s_l01In k (x1.2, ((0 : Int), x0))).bind fun y3 =>
        some y3)
      else (bif (x1.1 == (3 : Int)) then
          ((s_l01In k (x1.2, ((0 : Int), x0))).bind fun y4 =>
          some y4)
        else (bif (x1.1 == (4 : Int)) then
            ((s_l01In k (x1.2, ((0 : Int), (1 : Int)))).bind fun y5 =>
            some y5)
          else (bif (x1.1 == (5 : Int)) then
              ((s_l01In k (x1.2, ((0 : Int), (1 : Int)))).bind fun y6 =>
              some y6)
            else (bif (x1.1 == (7 : Int)) then
                ((s_l01In k (x1.2, ((0 : Int), (1 : Int)))).bind fun y7 =>
                some y7)
              else (bif (x1.1 == (6 : Int)) then
                  (some (x1.2 == (0 : Int)))
                else (bif (x1.1 == (8 : Int)) then
                    ((s_l01In k (x1.2, ((0 : Int), (IntKind.i64.wrap (x0 - (1 : Int)))))).bind fun y8 =>
                    some y8)
                  else (bif (x1.1 == (9 : Int)) then
                      ((s_l01In k (x1.2, ((0 : Int), (IntKind.i64.wrap (x0 - (1 : Int)))))).bind fun y9 =>
                      some y9)
                    else (some false)))))))))) := by kernel_rfl
theorem s_l16Choice_eq (k : Nat) (x0 : Int) (x1 : Int) : s_l16Choice (k + 1) (x0, x1) =
  (s_l01In k (x1, ((0 : Int), (4 : Int)))).bind fun y1 =>
  bif y1 then
    (bif (!(x1 == (3 : Int))) then
      (bif (!(x1 == (2 : Int))) then
        (some true)
      else (some (decide (x0 ≤ (7 : Int)))))
    else (bif decide (x0 ≥ (2 : Int)) then
        (bif (!(x1 == (2 : Int))) then
          (some true)
        else (some (decide (x0 ≤ (7 : Int)))))
      else (some false)))
  else (some false) := by kernel_rfl
theorem s_StepOk_eq (k : Nat) (x0 : Int) (x1 : Int × (Int × Int) × Int) : s_StepOk (k + 1) (x0, x1) =
  (s_l01In k (x0, ((1 : Int), (12 : Int)))).bind fun y1 =>
  bif (!y1) then
    (some false)
  else (bif (x1.1 == (1 : Int)) then
      ((s_MoveOk k (x0, x1.2.1)).bind fun y2 =>
      bif y2 then
        (some (x1.2.2 == (0 : Int)))
      else (some false))
    else (bif (x1.1 == (2 : Int)) then
        (bif ((x1.2.1.1 == (0 : Int)) && ((x1.2.1.2 == (0 : Int)) && true)) then
          ((s_l16Choice k (x0, x1.2.2)).bind fun y3 =>
          some y3)
        else (some false))
      else (bif (x1.1 == (3 : Int)) then
          (bif ((x1.2.1.1 == (0 : Int)) && ((x1.2.1.2 == (0 : Int)) && true)) then
            ((s_l01In k (x1.2.2, ((0 : Int), (IntKind.i64.wrap (x0 - (1 : Int)))))).bind fun y4 =>
            some y4)
          else (some false))
        else (some false)))) := by kernel_rfl
theorem s_l04Names_eq (k : Nat) : s_l04Names (k + 1) () =
  some ([(⟨#[]⟩ : ByteArray), (⟨#[99, 117, 116]⟩ : ByteArray), (⟨#[100, 101, 97, 108]⟩ : ByteArray), (⟨#[102, 108, 105, 112]⟩ : ByteArray), (⟨#[102, 97, 114, 111]⟩ : ByteArray), (⟨#[109, 111, 110, 103, 101]⟩ : ByteArray), (⟨#[109, 105, 108, 107]⟩ : ByteArray), (⟨#[100, 117, 99, 107]⟩ : ByteArray), (⟨#[116, 117, 114, 110]⟩ : ByteArray), (⟨#[117, 110, 100, 101, 114]⟩ : ByteArray)]) := by kernel_rfl
theorem s_MoveName_eq (k : Nat) (x0 : Int) : s_MoveName (k + 1) x0 =
  (s_l01In k (x0, ((1 : Int), (9 : Int)))).bind fun y1 =>
  bif (!y1) then
    (some (⟨#[]⟩ : ByteArray))
  else ((s_l04Names k ()).bind fun y2 =>
    bif decide (0 ≤ x0) then
      (bif decide (x0 < (y2.length : Int)) then
        (bif decide (x0.toNat < y2.length) then
          (some (y2.getD x0.toNat (⟨#[]⟩ : ByteArray)))
        else (none))
      else (none))
    else (none)) := by kernel_rfl
theorem s_FormatMove_eq (k : Nat) (x0 : Int × Int) : s_FormatMove (k + 1) x0 =
  (s_MoveOk k ((12 : Int), x0)).bind fun y1 =>
  bif (!y1) then
    (some (⟨#[]⟩ : ByteArray))
  else ((s_MoveName k x0.1).bind fun y2 =>
    bif decide (y2.size + (⟨#[32]⟩ : ByteArray).size ≤ 9223372036854775807) then
      ((s_FormatInt k x0.2).bind fun y3 =>
      bif decide ((y2 ++ (⟨#[32]⟩ : ByteArray)).size + y3.size ≤ 9223372036854775807) then
        (some ((y2 ++ (⟨#[32]⟩ : ByteArray)) ++ y3))
      else (none))
    else (none)) := by kernel_rfl
theorem s_FormatStep_eq (k : Nat) (x0 : Int × (Int × Int) × Int) : s_FormatStep (k + 1) x0 =
  bif (x0.1 == (2 : Int)) then
    (bif (x0.2.2 == (2 : Int)) then
      (bif ((x0.2.1.1 == (0 : Int)) && ((x0.2.1.2 == (0 : Int)) && true)) then
        ((s_ChoiceName k x0.2.2).bind fun y1 =>
        some y1)
      else ((s_StepOk k ((12 : Int), x0)).bind fun y2 =>
        bif (!y2) then
          (some (⟨#[]⟩ : ByteArray))
        else (bif (x0.1 == (1 : Int)) then
            ((s_FormatMove k x0.2.1).bind fun y3 =>
            some y3)
          else (bif (x0.1 == (2 : Int)) then
              ((s_ChoiceName k x0.2.2).bind fun y4 =>
              some y4)
            else ((s_FormatInt k x0.2.2).bind fun y5 =>
              bif decide ((⟨#[110, 111, 116, 101, 32]⟩ : ByteArray).size + y5.size ≤ 9223372036854775807) then
                (some ((⟨#[110, 111, 116, 101, 32]⟩ : ByteArray) ++ y5))
              else (none))))))
    else ((s_StepOk k ((12 : Int), x0)).bind fun y6 =>
      bif (!y6) then
        (some (⟨#[]⟩ : ByteArray))
      else (bif (x0.1 == (1 : Int)) then
          ((s_FormatMove k x0.2.1).bind fun y7 =>
          some y7)
        else (bif (x0.1 == (2 : Int)) then
            ((s_ChoiceName k x0.2.2).bind fun y8 =>
            some y8)
          else ((s_FormatInt k x0.2.2).bind fun y9 =>
            bif decide ((⟨#[110, 111, 116, 101, 32]⟩ : ByteArray).size + y9.size ≤ 9223372036854775807) then
              (some ((⟨#[110, 111, 116, 101, 32]⟩ : ByteArray) ++ y9))
            else (none))))))
  else ((s_StepOk k ((12 : Int), x0)).bind fun y10 =>
    bif (!y10) then
      (some (⟨#[]⟩ : ByteArray))
    else (bif (x0.1 == (1 : Int)) then
        ((s_FormatMove k x0.2.1).bind fun y11 =>
        some y11)
      else (bif (x0.1 == (2 : Int)) then
          ((s_ChoiceName k x0.2.2).bind fun y12 =>
          some y12)
        else ((s_FormatInt k x0.2.2).bind fun y13 =>
          bif decide ((⟨#[110, 111, 116, 101, 32]⟩ : ByteArray).size + y13.size ≤ 9223372036854775807) then
            (some ((⟨#[110, 111, 116, 101, 32]⟩ : ByteArray) ++ y13))
          else (none))))) := by kernel_rfl
theorem i_MoveOk_eq (k : Nat) (x0 : Int) (x1 : Int × Int) : i_MoveOk (k + 1) (x0, x1) =
  bif decide (x0 < (1 : Int)) then
    (some false)
  else (bif decide (x0 > (12 : Int)) then
      (some false)
    else (bif decide (x1.2 < (0 : Int)) then
        (some false)
      else (bif (x1.1 == (1 : Int)) then
          (some (decide (x1.2 ≤ x0)))
        else (bif (x1.1 == (2 : Int)) then
            (some (decide (x1.2 ≤ x0)))
          else (bif (x1.1 == (3 : Int)) then
              (some (decide (x1.2 ≤ x0)))
            else (bif (x1.1 == (4 : Int)) then
                (some (decide (x1.2 ≤ (1 : Int))))
              else (bif (x1.1 == (5 : Int)) then
                  (some (decide (x1.2 ≤ (1 : Int))))
                else (bif (x1.1 == (7 : Int)) then
                    (some (decide (x1.2 ≤ (1 : Int))))
                  else (bif (x1.1 == (6 : Int)) then
                      (some (x1.2 == (0 : Int)))
                    else (bif (x1.1 == (8 : Int)) then
                        (some (decide (x1.2 < x0)))
                      else (bif (x1.1 == (9 : Int)) then
                          (some (decide (x1.2 < x0)))
                        else (some false)))))))))))) := by kernel_rfl
theorem i_StepOk_eq (k : Nat) (x0 : Int) (x1 : Int × (Int × Int) × Int) : i_StepOk (k + 1) (x0, x1) =
  bif decide (x0 < (1 : Int)) then
    (some false)
  else (bif decide (x0 > (12 : Int)) then
      (some false)
    else (bif (x1.1 == (1 : Int)) then
        ((i_MoveOk k (x0, x1.2.1)).bind fun y1 =>
        bif y1 then
          (some (x1.2.2 == (0 : Int)))
        else (some false))
      else (bif (x1.1 == (2 : Int)) then
          (bif ((x1.2.1.1 == (0 : Int)) && ((x1.2.1.2 == (0 : Int)) && true)) then
            (bif decide (x1.2.2 ≥ (0 : Int)) then
              (bif decide (x1.2.2 ≤ (4 : Int)) then
                (bif (!(x1.2.2 == (3 : Int))) then
                  (bif (!(x1.2.2 == (2 : Int))) then
                    (some true)
                  else (some (decide (x0 ≤ (7 : Int)))))
                else (bif decide (x0 ≥ (2 : Int)) then
                    (bif (!(x1.2.2 == (2 : Int))) then
                      (some true)
                    else (some (decide (x0 ≤ (7 : Int)))))
                  else (some false)))
              else (some false))
            else (some false))
          else (some false))
        else (bif (x1.1 == (3 : Int)) then
            (bif ((x1.2.1.1 == (0 : Int)) && ((x1.2.1.2 == (0 : Int)) && true)) then
              (bif decide (x1.2.2 ≥ (0 : Int)) then
                (some (decide (x1.2.2 < x0)))
              else (some false))
            else (some false))
          else (some false))))) := by kernel_rfl
theorem i_moveNames_eq (k : Nat) : i_moveNames (k + 1) () =
  some ([(⟨#[99, 117, 116]⟩ : ByteArray), (⟨#[100, 101, 97, 108]⟩ : ByteArray), (⟨#[102, 108, 105, 112]⟩ : ByteArray), (⟨#[102, 97, 114, 111]⟩ : ByteArray), (⟨#[109, 111, 110, 103, 101]⟩ : ByteArray), (⟨#[109, 105, 108, 107]⟩ : ByteArray), (⟨#[100, 117, 99, 107]⟩ : ByteArray), (⟨#[116, 117, 114, 110]⟩ : ByteArray), (⟨#[117, 110, 100, 101, 114]⟩ : ByteArray)]) := by kernel_rfl
theorem i_MoveName_eq (k : Nat) (x0 : Int) : i_MoveName (k + 1) x0 =
  bif decide (x0 < (1 : Int)) then
    (some (⟨#[]⟩ : ByteArray))
  else (bif decide (x0 > (9 : Int)) then
      (some (⟨#[]⟩ : ByteArray))
    else ((i_moveNames k ()).bind fun y1 =>
      bif decide (0 ≤ (IntKind.i64.wrap (x0 - (1 : Int)))) then
        (bif decide ((IntKind.i64.wrap (x0 - (1 : Int))) < (y1.length : Int)) then
          (bif decide ((IntKind.i64.wrap (x0 - (1 : Int))).toNat < y1.length) then
            (some (y1.getD (IntKind.i64.wrap (x0 - (1 : Int))).toNat (⟨#[]⟩ : ByteArray)))
          else (none))
        else (none))
      else (none))) := by kernel_rfl
theorem i_FormatMove_eq (k : Nat) (x0 : Int × Int) : i_FormatMove (k + 1) x0 =
  (i_MoveOk k ((12 : Int), x0)).bind fun y1 =>
  bif (!y1) then
    (some (⟨#[]⟩ : ByteArray))
  else ((i_MoveName k x0.1).bind fun y2 =>
    bif decide (y2.size + (⟨#[32]⟩ : ByteArray).size ≤ 9223372036854775807) then
      ((i_FormatInt k x0.2).bind fun y3 =>
      bif decide ((y2 ++ (⟨#[32]⟩ : ByteArray)).size + y3.size ≤ 9223372036854775807) then
        (some ((y2 ++ (⟨#[32]⟩ : ByteArray)) ++ y3))
      else (none))
    else (none)) := by kernel_rfl
theorem i_ChoiceName_eq (k : Nat) (x0 : Int) : i_ChoiceName (k + 1) x0 =
  bif decide (x0 < (0 : Int)) then
    (some (⟨#[]⟩ : ByteArray))
  else (bif decide (x0 > (4 : Int)) then
      (some (⟨#[]⟩ : ByteArray))
    else (bif decide (0 ≤ x0) then
        (bif decide (x0 < (([(⟨#[102, 105, 120, 101, 100]⟩ : ByteArray), (⟨#[97, 110, 121, 99, 117, 116]⟩ : ByteArray), (⟨#[114, 105, 102, 102, 108, 101]⟩ : ByteArray), (⟨#[97, 110, 121, 112, 97, 105, 114]⟩ : ByteArray), (⟨#[112, 105, 99, 107]⟩ : ByteArray)]).length : Int)) then
          (bif decide (x0.toNat < ([(⟨#[102, 105, 120, 101, 100]⟩ : ByteArray), (⟨#[97, 110, 121, 99, 117, 116]⟩ : ByteArray), (⟨#[114, 105, 102, 102, 108, 101]⟩ : ByteArray), (⟨#[97, 110, 121, 112, 97, 105, 114]⟩ : ByteArray), (⟨#[112, 105, 99, 107]⟩ : ByteArray)]).length) then
            (some (([(⟨#[102, 105, 120, 101, 100]⟩ : ByteArray), (⟨#[97, 110, 121, 99, 117, 116]⟩ : ByteArray), (⟨#[114, 105, 102, 102, 108, 101]⟩ : ByteArray), (⟨#[97, 110, 121, 112, 97, 105, 114]⟩ : ByteArray), (⟨#[112, 105, 99, 107]⟩ : ByteArray)]).getD x0.toNat (⟨#[]⟩ : ByteArray)))
          else (none))
        else (none))
      else (none))) := by kernel_rfl
theorem i_FormatStep_eq (k : Nat) (x0 : Int × (Int × Int) × Int) : i_FormatStep (k + 1) x0 =
  (i_StepOk k ((12 : Int), x0)).bind fun y1 =>
  bif (!y1) then
    (bif (!((x0.1 == (2 : Int)) && ((x0.2.1.1 == (0 : Int)) && ((x0.2.1.2 == (0 : Int)) && ((x0.2.2 == (2 : Int)) && true))))) then
      (some (⟨#[]⟩ : ByteArray))
    else (bif (x0.1 == (1 : Int)) then
        ((i_FormatMove k x0.2.1).bind fun y2 =>
        some y2)
      else (bif (x0.1 == (2 : Int)) then
          ((i_ChoiceName k x0.2.2).bind fun y3 =>
          some y3)
        else ((i_FormatInt k x0.2.2).bind fun y4 =>
          bif decide ((⟨#[110, 111, 116, 101, 32]⟩ : ByteArray).size + y4.size ≤ 9223372036854775807) then
            (some ((⟨#[110, 111, 116, 101, 32]⟩ : ByteArray) ++ y4))
          else (none)))))
  else (bif (x0.1 == (1 : Int)) then
      ((i_FormatMove k x0.2.1).bind fun y5 =>
      some y5)
    else (bif (x0.1 == (2 : Int)) then
        ((i_ChoiceName k x0.2.2).bind fun y6 =>
        some y6)
      else ((i_FormatInt k x0.2.2).bind fun y7 =>
        bif decide ((⟨#[110, 111, 116, 101, 32]⟩ : ByteArray).size + y7.size ≤ 9223372036854775807) then
          (some ((⟨#[110, 111, 116, 101, 32]⟩ : ByteArray) ++ y7))
        else (none)))) := by kernel_rfl
theorem w_FnExactFormatStep_eq (k : Nat) (x0 : Int × (Int × Int) × Int) : w_FnExactFormatStep (k + 1) x0 =
  (w_toStep k x0).bind fun y1 =>
  (s_FormatStep k (y1.1, ((y1.2.1, y1.2.2.1), y1.2.2.2))).bind fun y2 =>
  (w_toStep k x0).bind fun y3 =>
  (i_FormatStep k (y3.1, ((y3.2.1, y3.2.2.1), y3.2.2.2))).bind fun y4 =>
  bif (!(y4.toList == y2.toList)) then
    (some false)
  else (some true) := by kernel_rfl

/-! ### the tables are right -/
/-- What holds of the world throughout. -/
abbrev gw : World → Prop := fun w => Go.Lib.TabIs Go.Proofs.Tryd.prog w "internal/strconv.uint64pow10" .u64 Go.Lib.pow10Tab
theorem ty_3 : TyOk Go.Proofs.Tryd.prog 3 (.one (.int .i64)) := tyOk_int (by kernel_rfl) (by kernel_rfl) (by kernel_rfl)
theorem ty_5 : TyOk Go.Proofs.Tryd.prog 5 (.one (.int .u8)) := tyOk_int (by kernel_rfl) (by kernel_rfl) (by kernel_rfl)
theorem ty_9 : TyOk Go.Proofs.Tryd.prog 9 (.one (.str)) := tyOk_str (by kernel_rfl) (by kernel_rfl) (by kernel_rfl)
theorem ty_22 : TyOk Go.Proofs.Tryd.prog 22 (.one (.slice (.int .i64))) := tyOk_slice (e := 3) (by kernel_rfl) (by kernel_rfl) (by kernel_rfl) (elemOk_of (by kernel_rfl) (by kernel_rfl) (by kernel_rfl))
theorem ty_28 : TyOk Go.Proofs.Tryd.prog 28 (.struct [(0, 3), (1, 3)] [.int .i64, .int .i64] true) := tyOk_struct (fields := Go.Proofs.Tryd.prog.fieldsOf 28) (by kernel_rfl) (by kernel_rfl) (by kernel_rfl) (by kernel_rfl) (by kernel_rfl) (by kernel_rfl) (fun _ => structEq_ok (d := 20) (fields := Go.Proofs.Tryd.prog.fieldsOf 28) (by kernel_rfl) (by kernel_rfl) (by decide) (by kernel_rfl))
theorem ty_30 : TyOk Go.Proofs.Tryd.prog 30 (.struct [(0, 3), (1, 28), (3, 3)] [.int .i64, .int .i64, .int .i64, .int .i64] true) := tyOk_struct (fields := Go.Proofs.Tryd.prog.fieldsOf 30) (by kernel_rfl) (by kernel_rfl) (by kernel_rfl) (by kernel_rfl) (by kernel_rfl) (by kernel_rfl) (fun _ => structEq_ok (d := 20) (fields := Go.Proofs.Tryd.prog.fieldsOf 30) (by kernel_rfl) (by kernel_rfl) (by decide) (by kernel_rfl))
theorem ty_32 : TyOk Go.Proofs.Tryd.prog 32 (.struct [(0, 3), (1, 3)] [.int .i64, .int .i64] true) := tyOk_struct (fields := Go.Proofs.Tryd.prog.fieldsOf 32) (by kernel_rfl) (by kernel_rfl) (by kernel_rfl) (by kernel_rfl) (by kernel_rfl) (by kernel_rfl) (fun _ => structEq_ok (d := 20) (fields := Go.Proofs.Tryd.prog.fieldsOf 32) (by kernel_rfl) (by kernel_rfl) (by decide) (by kernel_rfl))
theorem ty_34 : TyOk Go.Proofs.Tryd.prog 34 (.struct [(0, 3), (1, 32), (3, 3)] [.int .i64, .int .i64, .int .i64, .int .i64] true) := tyOk_struct (fields := Go.Proofs.Tryd.prog.fieldsOf 34) (by kernel_rfl) (by kernel_rfl) (by kernel_rfl) (by kernel_rfl) (by kernel_rfl) (by kernel_rfl) (fun _ => structEq_ok (d := 20) (fields := Go.Proofs.Tryd.prog.fieldsOf 34) (by kernel_rfl) (by kernel_rfl) (by decide) (by kernel_rfl))
theorem ty_37 : TyOk Go.Proofs.Tryd.prog 37 (.one (.slice (.str))) := tyOk_slice (e := 9) (by kernel_rfl) (by kernel_rfl) (by kernel_rfl) (elemOk_of (by kernel_rfl) (by kernel_rfl) (by kernel_rfl))
theorem ty_44 : TyOk Go.Proofs.Tryd.prog 44 (.one (.slice (.int .u8))) := tyOk_slice (e := 5) (by kernel_rfl) (by kernel_rfl) (by kernel_rfl) (elemOk_of (by kernel_rfl) (by kernel_rfl) (by kernel_rfl))
theorem ty_1000044 : TyOk Go.Proofs.Tryd.prog 1000044 (.bytes) := tyOk_bytes (e := 5) (by kernel_rfl) (by kernel_rfl)
theorem hE : ∀ T ti, E.ty T = some ti → TyOk Go.Proofs.Tryd.prog T ti := lookT_ok (l := tyL) ⟨ty_3, ty_5, ty_9, ty_22, ty_28, ty_30, ty_32, ty_34, ty_37, ty_44, ty_1000044, trivial⟩
theorem w_toIntS_ok : OneF Go.Proofs.Tryd.prog gw 6 w_toIntS_fi := fnOk_of (fn := Go.Proofs.Tryd.f6) (c := w_toIntS_c) Go.Proofs.Tryd.func6 (by kernel_rfl) (by kernel_rfl) rfl rfl (by kernel_rfl) (by kernel_rfl) rfl
theorem s_FormatInt_ok : OneF Go.Proofs.Tryd.prog gw 12 s_FormatInt_fi := fnOk_of (fn := Go.Proofs.Tryd.f12) (c := s_FormatInt_c) Go.Proofs.Tryd.func12 (by kernel_rfl) (by kernel_rfl) rfl rfl (by kernel_rfl) (by kernel_rfl) rfl
theorem s_Join_ok : OneF Go.Proofs.Tryd.prog gw 13 s_Join_fi := fnOk_of (fn := Go.Proofs.Tryd.f13) (c := s_Join_c) Go.Proofs.Tryd.func13 (by kernel_rfl) (by kernel_rfl) rfl rfl (by kernel_rfl) (by kernel_rfl) rfl
theorem s_FormatPicks_ok : OneF Go.Proofs.Tryd.prog gw 5 s_FormatPicks_fi := fnOk_of (fn := Go.Proofs.Tryd.f5) (c := s_FormatPicks_c) Go.Proofs.Tryd.func5 (by kernel_rfl) (by kernel_rfl) rfl rfl (by kernel_rfl) (by kernel_rfl) rfl
theorem strconv_Itoa_ok : OneF Go.Proofs.Tryd.prog gw 31 strconv_Itoa_fi := itoa_ok Go.Proofs.Tryd.func31 (by kernel_rfl) (by kernel_rfl) (fun n w hw h0 h1 => Go.Proofs.Tryd.strconv_Itoa n h0 h1 w hw)
theorem i_FormatInt_ok : OneF Go.Proofs.Tryd.prog gw 23 i_FormatInt_fi := fnOk_of (fn := Go.Proofs.Tryd.f23) (c := i_FormatInt_c) Go.Proofs.Tryd.func23 (by kernel_rfl) (by kernel_rfl) rfl rfl (by kernel_rfl) (by kernel_rfl) rfl
theorem i_numbersOf_ok : OneF Go.Proofs.Tryd.prog gw 15 i_numbersOf_fi := fnOk_of (fn := Go.Proofs.Tryd.f15) (c := i_numbersOf_c) Go.Proofs.Tryd.func15 (by kernel_rfl) (by kernel_rfl) rfl rfl (by kernel_rfl) (by kernel_rfl) rfl
theorem strings_Join_ok : OneF Go.Proofs.Tryd.prog gw 24 strings_Join_fi := join_ok Go.Proofs.Tryd.func24 (by kernel_rfl) (by kernel_rfl) (fun a c sep w => Go.Proofs.Tryd.strings_Join_none a c sep w) (fun bk o c xs sep w hc hb hN hcap hl => Go.Proofs.Tryd.strings_Join bk o c xs sep w hc hb hN hcap hl)
theorem i_Join_ok : OneF Go.Proofs.Tryd.prog gw 14 i_Join_fi := fnOk_of (fn := Go.Proofs.Tryd.f14) (c := i_Join_c) Go.Proofs.Tryd.func14 (by kernel_rfl) (by kernel_rfl) rfl rfl (by kernel_rfl) (by kernel_rfl) rfl
theorem i_FormatPicks_ok : OneF Go.Proofs.Tryd.prog gw 7 i_FormatPicks_fi := fnOk_of (fn := Go.Proofs.Tryd.f7) (c := i_FormatPicks_c) Go.Proofs.Tryd.func7 (by kernel_rfl) (by kernel_rfl) rfl rfl (by kernel_rfl) (by kernel_rfl) rfl
theorem w_eqIntS_ok : OneF Go.Proofs.Tryd.prog gw 8 w_eqIntS_fi := fnOk_of (fn := Go.Proofs.Tryd.f8) (c := w_eqIntS_c) Go.Proofs.Tryd.func8 (by kernel_rfl) (by kernel_rfl) rfl rfl (by kernel_rfl) (by kernel_rfl) rfl
theorem w_FnExactFormatPicks_ok : OneF Go.Proofs.Tryd.prog gw 3 w_FnExactFormatPicks_fi := fnOk_of (fn := Go.Proofs.Tryd.f3) (c := w_FnExactFormatPicks_c) Go.Proofs.Tryd.func3 (by kernel_rfl) (by kernel_rfl) rfl rfl (by kernel_rfl) (by kernel_rfl) rfl
theorem w_toMove_ok : OneF Go.Proofs.Tryd.prog gw 19 w_toMove_fi := fnOk_of (fn := Go.Proofs.Tryd.f19) (c := w_toMove_c) Go.Proofs.Tryd.func19 (by kernel_rfl) (by kernel_rfl) rfl rfl (by kernel_rfl) (by kernel_rfl) rfl
theorem w_toStep_ok : OneF Go.Proofs.Tryd.prog gw 10 w_toStep_fi := fnOk_of (fn := Go.Proofs.Tryd.f10) (c := w_toStep_c) Go.Proofs.Tryd.func10 (by kernel_rfl) (by kernel_rfl) rfl rfl (by kernel_rfl) (by kernel_rfl) rfl
theorem s_l01In_ok : OneF Go.Proofs.Tryd.prog gw 25 s_l01In_fi := fnOk_of (fn := Go.Proofs.Tryd.f25) (c := s_l01In_c) Go.Proofs.Tryd.func25 (by kernel_rfl) (by kernel_rfl) rfl rfl (by kernel_rfl) (by kernel_rfl) rfl
theorem s_ChoiceName_ok : OneF Go.Proofs.Tryd.prog gw 16 s_ChoiceName_fi := fnOk_of (fn := Go.Proofs.Tryd.f16) (c := s_ChoiceName_c) Go.Proofs.Tryd.func16 (by kernel_rfl) (by kernel_rfl) rfl rfl (by kernel_rfl) (by kernel_rfl) rfl
theorem s_MoveOk_ok : OneF Go.Proofs.Tryd.prog gw 26 s_MoveOk_fi := fnOk_of (fn := Go.Proofs.Tryd.f26) (c := s_MoveOk_c) Go.Proofs.Tryd.func26 (by kernel_rfl) (by kernel_rfl) rfl rfl (by kernel_rfl) (by kernel_rfl) rfl
theorem s_l16Choice_ok : OneF Go.Proofs.Tryd.prog gw 27 s_l16Choice_fi := fnOk_of (fn := Go.Proofs.Tryd.f27) (c := s_l16Choice_c) Go.Proofs.Tryd.func27 (by kernel_rfl) (by kernel_rfl) rfl rfl (by kernel_rfl) (by kernel_rfl) rfl
theorem s_StepOk_ok : OneF Go.Proofs.Tryd.prog gw 17 s_StepOk_fi := fnOk_of (fn := Go.Proofs.Tryd.f17) (c := s_StepOk_c) Go.Proofs.Tryd.func17 (by kernel_rfl) (by kernel_rfl) rfl rfl (by kernel_rfl) (by kernel_rfl) rfl
theorem s_l04Names_ok : OneF Go.Proofs.Tryd.prog gw 35 s_l04Names_fi := fnOk_of (fn := Go.Proofs.Tryd.f35) (c := s_l04Names_c) Go.Proofs.Tryd.func35 (by kernel_rfl) (by kernel_rfl) rfl rfl (by kernel_rfl) (by kernel_rfl) rfl
theorem s_MoveName_ok : OneF Go.Proofs.Tryd.prog gw 28 s_MoveName_fi := fnOk_of (fn := Go.Proofs.Tryd.f28) (c := s_MoveName_c) Go.Proofs.Tryd.func28 (by kernel_rfl) (by kernel_rfl) rfl rfl (by kernel_rfl) (by kernel_rfl) rfl
theorem s_FormatMove_ok : OneF Go.Proofs.Tryd.prog gw 18 s_FormatMove_fi := fnOk_of (fn := Go.Proofs.Tryd.f18) (c := s_FormatMove_c) Go.Proofs.Tryd.func18 (by kernel_rfl) (by kernel_rfl) rfl rfl (by kernel_rfl) (by kernel_rfl) rfl
theorem s_FormatStep_ok : OneF Go.Proofs.Tryd.prog gw 9 s_FormatStep_fi := fnOk_of (fn := Go.Proofs.Tryd.f9) (c := s_FormatStep_c) Go.Proofs.Tryd.func9 (by kernel_rfl) (by kernel_rfl) rfl rfl (by kernel_rfl) (by kernel_rfl) rfl
theorem i_MoveOk_ok : OneF Go.Proofs.Tryd.prog gw 29 i_MoveOk_fi := fnOk_of (fn := Go.Proofs.Tryd.f29) (c := i_MoveOk_c) Go.Proofs.Tryd.func29 (by kernel_rfl) (by kernel_rfl) rfl rfl (by kernel_rfl) (by kernel_rfl) rfl
theorem i_StepOk_ok : OneF Go.Proofs.Tryd.prog gw 20 i_StepOk_fi := fnOk_of (fn := Go.Proofs.Tryd.f20) (c := i_StepOk_c) Go.Proofs.Tryd.func20 (by kernel_rfl) (by kernel_rfl) rfl rfl (by kernel_rfl) (by kernel_rfl) rfl
theorem i_moveNames_ok : OneF Go.Proofs.Tryd.prog gw 36 i_moveNames_fi := fnOk_of (fn := Go.Proofs.Tryd.f36) (c := i_moveNames_c) Go.Proofs.Tryd.func36 (by kernel_rfl) (by kernel_rfl) rfl rfl (by kernel_rfl) (by kernel_rfl) rfl
theorem i_MoveName_ok : OneF Go.Proofs.Tryd.prog gw 30 i_MoveName_fi := fnOk_of (fn := Go.Proofs.Tryd.f30) (c := i_MoveName_c) Go.Proofs.Tryd.func30 (by kernel_rfl) (by kernel_rfl) rfl rfl (by kernel_rfl) (by kernel_rfl) rfl
theorem i_FormatMove_ok : OneF Go.Proofs.Tryd.prog gw 21 i_FormatMove_fi := fnOk_of (fn := Go.Proofs.Tryd.f21) (c := i_FormatMove_c) Go.Proofs.Tryd.func21 (by kernel_rfl) (by kernel_rfl) rfl rfl (by kernel_rfl) (by kernel_rfl) rfl
theorem i_ChoiceName_ok : OneF Go.Proofs.Tryd.prog gw 22 i_ChoiceName_fi := fnOk_of (fn := Go.Proofs.Tryd.f22) (c := i_ChoiceName_c) Go.Proofs.Tryd.func22 (by kernel_rfl) (by kernel_rfl) rfl rfl (by kernel_rfl) (by kernel_rfl) rfl
theorem i_FormatStep_ok : OneF Go.Proofs.Tryd.prog gw 11 i_FormatStep_fi := fnOk_of (fn := Go.Proofs.Tryd.f11) (c := i_FormatStep_c) Go.Proofs.Tryd.func11 (by kernel_rfl) (by kernel_rfl) rfl rfl (by kernel_rfl) (by kernel_rfl) rfl
theorem w_FnExactFormatStep_ok : OneF Go.Proofs.Tryd.prog gw 4 w_FnExactFormatStep_fi := fnOk_of (fn := Go.Proofs.Tryd.f4) (c := w_FnExactFormatStep_c) Go.Proofs.Tryd.func4 (by kernel_rfl) (by kernel_rfl) rfl rfl (by kernel_rfl) (by kernel_rfl) rfl
theorem hF : FnOk Go.Proofs.Tryd.prog gw E := lookF_ok (l := fnL) ⟨w_toIntS_ok, s_FormatInt_ok, s_Join_ok, s_FormatPicks_ok, strconv_Itoa_ok, i_FormatInt_ok, i_numbersOf_ok, strings_Join_ok, i_Join_ok, i_FormatPicks_ok, w_eqIntS_ok, w_FnExactFormatPicks_ok, w_toMove_ok, w_toStep_ok, s_l01In_ok, s_ChoiceName_ok, s_MoveOk_ok, s_l16Choice_ok, s_StepOk_ok, s_l04Names_ok, s_MoveName_ok, s_FormatMove_ok, s_FormatStep_ok, i_MoveOk_ok, i_StepOk_ok, i_moveNames_ok, i_MoveName_ok, i_FormatMove_ok, i_ChoiceName_ok, i_FormatStep_ok, w_FnExactFormatStep_ok, trivial⟩
end Pt
