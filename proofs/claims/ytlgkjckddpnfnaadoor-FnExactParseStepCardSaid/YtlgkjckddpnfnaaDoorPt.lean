/-
  The plain machine's telling of functions of the program. Printed by gen.py.
  Conditions: none; these are definitions and equations that the kernel checks.
-/
import Derived.Test.YtlgkjckddpnfnaaDoorXvza
import Derived.Test.YtlgkjckddpnfnaaDoorXvzl
import Derived.Test.YtlgkjckddpnfnaaDoorProg
import Derived.Test.YtlgkjckddpnfnaaDoorShelf
namespace Pt
open Go Go.Vt
set_option linter.unusedVariables false
set_option maxRecDepth 100000

noncomputable def tyL : List (Nat × TI) := [(3, .one (.int .i64)),
  (4, .one (.bool)),
  (5, .one (.int .u8)),
  (9, .one (.str)),
  (22, .one (.slice (.int .u8))),
  (25, .one (.slice (.int .i64))),
  (34, .struct [(0, 3), (1, 3)] [.int .i64, .int .i64] true),
  (44, .struct [(0, 3), (1, 34), (3, 3)] [.int .i64, .int .i64, .int .i64, .int .i64] true),
  (61, .one (.slice (.str))),
  (86, .one (.err)),
  (91, .arr 12 (.bool)),
  (1000022, .bytes)]

/-! ### s_SplitAny -/
noncomputable def s_SplitAny_c : Code := (Go.Proofs.Tryd.f42.body).getD .skip
noncomputable def s_SplitAny_h : Nat → Option (List Hint)
  | 4 => some [.keep 0, .keep 1, .cell 5 (.row 100005 (.str) true false), .keep 6, .keep 7]
  | 7 => some [.keep 0, .keep 1, .cell 5 (.row 100005 (.str) true false), .keep 6, .keep 7, .keep 8]
  | _ => none
noncomputable def s_SplitAny_fi : Fi := ⟨[.v (.str) false, .v (.str) false], [(false, [⟨.slice (.str), some (true, false)⟩])], none, s_SplitAny_c, Go.Proofs.Tryd.f42.results.toList, 44, s_SplitAny_h⟩
/-! ### s_IsDigits -/
noncomputable def s_IsDigits_c : Code := (Go.Proofs.Tryd.f67.body).getD .skip
noncomputable def s_IsDigits_h : Nat → Option (List Hint)
  | 2 => some [.keep 0, .keep 3]
  | _ => none
noncomputable def s_IsDigits_fi : Fi := ⟨[.v (.str) false], [(false, [⟨.bool, none⟩])], none, s_IsDigits_c, Go.Proofs.Tryd.f67.results.toList, 23, s_IsDigits_h⟩
/-! ### s_FormatInt -/
noncomputable def s_FormatInt_c : Code := (Go.Proofs.Tryd.f68.body).getD .skip
noncomputable def s_FormatInt_h : Nat → Option (List Hint)
  | 6 => some [.keep 0, .keep 3]
  | _ => none
noncomputable def s_FormatInt_fi : Fi := ⟨[.v (.int .i64) false], [(false, [⟨.str, none⟩])], none, s_FormatInt_c, Go.Proofs.Tryd.f68.results.toList, 44, s_FormatInt_h⟩
/-! ### s_ParseInt -/
noncomputable def s_ParseInt_c : Code := (Go.Proofs.Tryd.f43.body).getD .skip
noncomputable def s_ParseInt_h : Nat → Option (List Hint)
  | 9 => some [.keep 0, .keep 4, .keep 5, .keep 6, .keep 7]
  | _ => none
noncomputable def s_ParseInt_fi : Fi := ⟨[.v (.str) false], [(false, [⟨.int .i64, none⟩]), (false, [⟨.bool, none⟩])], none, s_ParseInt_c, Go.Proofs.Tryd.f43.results.toList, 60, s_ParseInt_h⟩
/-! ### s_l04Names -/
noncomputable def s_l04Names_c : Code := (Go.Proofs.Tryd.f69.body).getD .skip
noncomputable def s_l04Names_h : Nat → Option (List Hint)
  | _ => none
noncomputable def s_l04Names_fi : Fi := ⟨[], [(false, [⟨.slice (.str), some (true, false)⟩])], none, s_l04Names_c, Go.Proofs.Tryd.f69.results.toList, 2, s_l04Names_h⟩
/-! ### s_MoveNamed -/
noncomputable def s_MoveNamed_c : Code := (Go.Proofs.Tryd.f44.body).getD .skip
noncomputable def s_MoveNamed_h : Nat → Option (List Hint)
  | 2 => some [.keep 0, .cell 5 (.row 100005 (.str) true false), .keep 6, .keep 7]
  | _ => none
noncomputable def s_MoveNamed_fi : Fi := ⟨[.v (.str) false], [(false, [⟨.int .i64, none⟩])], none, s_MoveNamed_c, Go.Proofs.Tryd.f44.results.toList, 17, s_MoveNamed_h⟩
/-! ### s_l01In -/
noncomputable def s_l01In_c : Code := (Go.Proofs.Tryd.f50.body).getD .skip
noncomputable def s_l01In_h : Nat → Option (List Hint)
  | _ => none
noncomputable def s_l01In_fi : Fi := ⟨[.v (.int .i64) false, .v (.int .i64) false, .v (.int .i64) false], [(false, [⟨.bool, none⟩])], none, s_l01In_c, Go.Proofs.Tryd.f50.results.toList, 15, s_l01In_h⟩
/-! ### s_MoveOk -/
noncomputable def s_MoveOk_c : Code := (Go.Proofs.Tryd.f70.body).getD .skip
noncomputable def s_MoveOk_h : Nat → Option (List Hint)
  | _ => none
noncomputable def s_MoveOk_fi : Fi := ⟨[.v (.int .i64) false, .v (.pair (.int .i64) (.int .i64)) true], [(false, [⟨.bool, none⟩])], none, s_MoveOk_c, Go.Proofs.Tryd.f70.results.toList, 38, s_MoveOk_h⟩
/-! ### s_MoveName -/
noncomputable def s_MoveName_c : Code := (Go.Proofs.Tryd.f71.body).getD .skip
noncomputable def s_MoveName_h : Nat → Option (List Hint)
  | _ => none
noncomputable def s_MoveName_fi : Fi := ⟨[.v (.int .i64) false], [(false, [⟨.str, none⟩])], none, s_MoveName_c, Go.Proofs.Tryd.f71.results.toList, 10, s_MoveName_h⟩
/-! ### s_FormatMove -/
noncomputable def s_FormatMove_c : Code := (Go.Proofs.Tryd.f45.body).getD .skip
noncomputable def s_FormatMove_h : Nat → Option (List Hint)
  | _ => none
noncomputable def s_FormatMove_fi : Fi := ⟨[.v (.pair (.int .i64) (.int .i64)) true], [(false, [⟨.str, none⟩])], none, s_FormatMove_c, Go.Proofs.Tryd.f45.results.toList, 14, s_FormatMove_h⟩
/-! ### s_ParseMove -/
noncomputable def s_ParseMove_c : Code := (Go.Proofs.Tryd.f16.body).getD .skip
noncomputable def s_ParseMove_h : Nat → Option (List Hint)
  | _ => none
noncomputable def s_ParseMove_fi : Fi := ⟨[.v (.str) false], [(true, [⟨.int .i64, none⟩, ⟨.int .i64, none⟩]), (false, [⟨.bool, none⟩])], none, s_ParseMove_c, Go.Proofs.Tryd.f16.results.toList, 37, s_ParseMove_h⟩
/-! ### strings_IndexByte -/
noncomputable abbrev strings_IndexByte_fi : Fi := indexByteFi
/-! ### i_SplitAny -/
noncomputable def i_SplitAny_c : Code := (Go.Proofs.Tryd.f46.body).getD .skip
noncomputable def i_SplitAny_h : Nat → Option (List Hint)
  | 4 => some [.keep 0, .keep 1, .cell 5 (.row 100005 (.str) true true), .keep 6, .keep 7]
  | _ => none
noncomputable def i_SplitAny_fi : Fi := ⟨[.v (.str) false, .v (.str) false], [(false, [⟨.slice (.str), some (true, true)⟩])], none, i_SplitAny_c, Go.Proofs.Tryd.f46.results.toList, 35, i_SplitAny_h⟩
/-! ### strconv_Atoi -/
noncomputable abbrev strconv_Atoi_fi : Fi := atoiFi
/-! ### strconv_Itoa -/
noncomputable abbrev strconv_Itoa_fi : Fi := itoaFi
/-! ### i_FormatInt -/
noncomputable def i_FormatInt_c : Code := (Go.Proofs.Tryd.f41.body).getD .skip
noncomputable def i_FormatInt_h : Nat → Option (List Hint)
  | _ => none
noncomputable def i_FormatInt_fi : Fi := ⟨[.v (.int .i64) false], [(false, [⟨.str, none⟩])], none, i_FormatInt_c, Go.Proofs.Tryd.f41.results.toList, 5, i_FormatInt_h⟩
/-! ### i_ParseInt -/
noncomputable def i_ParseInt_c : Code := (Go.Proofs.Tryd.f47.body).getD .skip
noncomputable def i_ParseInt_h : Nat → Option (List Hint)
  | _ => none
noncomputable def i_ParseInt_fi : Fi := ⟨[.v (.str) false], [(false, [⟨.int .i64, none⟩]), (false, [⟨.bool, none⟩])], none, i_ParseInt_c, Go.Proofs.Tryd.f47.results.toList, 20, i_ParseInt_h⟩
/-! ### i_moveNames -/
noncomputable def i_moveNames_c : Code := (Go.Proofs.Tryd.f75.body).getD .skip
noncomputable def i_moveNames_h : Nat → Option (List Hint)
  | _ => none
noncomputable def i_moveNames_fi : Fi := ⟨[], [(false, [⟨.slice (.str), some (true, false)⟩])], none, i_moveNames_c, Go.Proofs.Tryd.f75.results.toList, 2, i_moveNames_h⟩
/-! ### slices_Index_string -/
noncomputable def slices_Index_string_c : Code := (Go.Proofs.Tryd.f74.body).getD .skip
noncomputable def slices_Index_string_h : Nat → Option (List Hint)
  | 2 => some [.keep 0, .keep 1, .keep 7, .keep 8]
  | _ => none
noncomputable def slices_Index_string_fi : Fi := ⟨[.v (.slice (.str)) false, .v (.str) false], [(false, [⟨.int .i64, none⟩])], none, slices_Index_string_c, Go.Proofs.Tryd.f74.results.toList, 19, slices_Index_string_h⟩
/-! ### i_MoveNamed -/
noncomputable def i_MoveNamed_c : Code := (Go.Proofs.Tryd.f48.body).getD .skip
noncomputable def i_MoveNamed_h : Nat → Option (List Hint)
  | _ => none
noncomputable def i_MoveNamed_fi : Fi := ⟨[.v (.str) false], [(false, [⟨.int .i64, none⟩])], none, i_MoveNamed_c, Go.Proofs.Tryd.f48.results.toList, 7, i_MoveNamed_h⟩
/-! ### i_MoveOk -/
noncomputable def i_MoveOk_c : Code := (Go.Proofs.Tryd.f76.body).getD .skip
noncomputable def i_MoveOk_h : Nat → Option (List Hint)
  | _ => none
noncomputable def i_MoveOk_fi : Fi := ⟨[.v (.int .i64) false, .v (.pair (.int .i64) (.int .i64)) true], [(false, [⟨.bool, none⟩])], none, i_MoveOk_c, Go.Proofs.Tryd.f76.results.toList, 45, i_MoveOk_h⟩
/-! ### i_MoveName -/
noncomputable def i_MoveName_c : Code := (Go.Proofs.Tryd.f77.body).getD .skip
noncomputable def i_MoveName_h : Nat → Option (List Hint)
  | _ => none
noncomputable def i_MoveName_fi : Fi := ⟨[.v (.int .i64) false], [(false, [⟨.str, none⟩])], none, i_MoveName_c, Go.Proofs.Tryd.f77.results.toList, 14, i_MoveName_h⟩
/-! ### i_FormatMove -/
noncomputable def i_FormatMove_c : Code := (Go.Proofs.Tryd.f49.body).getD .skip
noncomputable def i_FormatMove_h : Nat → Option (List Hint)
  | _ => none
noncomputable def i_FormatMove_fi : Fi := ⟨[.v (.pair (.int .i64) (.int .i64)) true], [(false, [⟨.str, none⟩])], none, i_FormatMove_c, Go.Proofs.Tryd.f49.results.toList, 14, i_FormatMove_h⟩
/-! ### i_ParseMove -/
noncomputable def i_ParseMove_c : Code := (Go.Proofs.Tryd.f17.body).getD .skip
noncomputable def i_ParseMove_h : Nat → Option (List Hint)
  | _ => none
noncomputable def i_ParseMove_fi : Fi := ⟨[.v (.str) false], [(true, [⟨.int .i64, none⟩, ⟨.int .i64, none⟩]), (false, [⟨.bool, none⟩])], none, i_ParseMove_c, Go.Proofs.Tryd.f17.results.toList, 37, i_ParseMove_h⟩
/-! ### w_eqMove -/
noncomputable def w_eqMove_c : Code := (Go.Proofs.Tryd.f18.body).getD .skip
noncomputable def w_eqMove_h : Nat → Option (List Hint)
  | _ => none
noncomputable def w_eqMove_fi : Fi := ⟨[.v (.pair (.int .i64) (.int .i64)) true, .v (.pair (.int .i64) (.int .i64)) true], [(false, [⟨.bool, none⟩])], none, w_eqMove_c, Go.Proofs.Tryd.f18.results.toList, 15, w_eqMove_h⟩
/-! ### w_FnExactParseMove -/
noncomputable def w_FnExactParseMove_c : Code := (Go.Proofs.Tryd.f4.body).getD .skip
noncomputable def w_FnExactParseMove_h : Nat → Option (List Hint)
  | _ => none
noncomputable def w_FnExactParseMove_fi : Fi := ⟨[.v (.str) false], [(false, [⟨.bool, none⟩])], none, w_FnExactParseMove_c, Go.Proofs.Tryd.f4.results.toList, 29, w_FnExactParseMove_h⟩
/-! ### s_CardOf -/
noncomputable def s_CardOf_c : Code := (Go.Proofs.Tryd.f79.body).getD .skip
noncomputable def s_CardOf_h : Nat → Option (List Hint)
  | _ => none
noncomputable def s_CardOf_fi : Fi := ⟨[.v (.int .i64) false], [(false, [⟨.int .i64, none⟩])], none, s_CardOf_c, Go.Proofs.Tryd.f79.results.toList, 10, s_CardOf_h⟩
/-! ### s_l02Has -/
noncomputable def s_l02Has_c : Code := (Go.Proofs.Tryd.f95.body).getD .skip
noncomputable def s_l02Has_h : Nat → Option (List Hint)
  | 2 => some [.keep 1, .keep 7, .keep 8, .keep 9]
  | _ => none
noncomputable def s_l02Has_fi : Fi := ⟨[.v (.slice (.int .i64)) false, .v (.int .i64) false], [(false, [⟨.bool, none⟩])], none, s_l02Has_c, Go.Proofs.Tryd.f95.results.toList, 17, s_l02Has_h⟩
/-! ### s_PacketOk -/
noncomputable def s_PacketOk_c : Code := (Go.Proofs.Tryd.f78.body).getD .skip
noncomputable def s_PacketOk_h : Nat → Option (List Hint)
  | 5 => some [.cell 3 (.row 100003 (.int .i64) true false), .keep 11, .keep 12, .keep 13]
  | _ => none
noncomputable def s_PacketOk_fi : Fi := ⟨[.v (.slice (.int .i64)) false], [(false, [⟨.bool, none⟩])], none, s_PacketOk_c, Go.Proofs.Tryd.f78.results.toList, 31, s_PacketOk_h⟩
/-! ### s_IsUp -/
noncomputable def s_IsUp_c : Code := (Go.Proofs.Tryd.f80.body).getD .skip
noncomputable def s_IsUp_h : Nat → Option (List Hint)
  | _ => none
noncomputable def s_IsUp_fi : Fi := ⟨[.v (.int .i64) false], [(false, [⟨.bool, none⟩])], none, s_IsUp_c, Go.Proofs.Tryd.f80.results.toList, 5, s_IsUp_h⟩
/-! ### s_Join -/
noncomputable def s_Join_c : Code := (Go.Proofs.Tryd.f81.body).getD .skip
noncomputable def s_Join_h : Nat → Option (List Hint)
  | 3 => some [.keep 1, .keep 5, .keep 8, .keep 9, .keep 10]
  | _ => none
noncomputable def s_Join_fi : Fi := ⟨[.v (.slice (.str)) false, .v (.str) false], [(false, [⟨.str, none⟩])], none, s_Join_c, Go.Proofs.Tryd.f81.results.toList, 25, s_Join_h⟩
/-! ### s_FormatPacket -/
noncomputable def s_FormatPacket_c : Code := (Go.Proofs.Tryd.f51.body).getD .skip
noncomputable def s_FormatPacket_h : Nat → Option (List Hint)
  | 5 => some [.cell 3 (.row 100003 (.str) true false), .keep 11, .keep 12, .keep 13]
  | _ => none
noncomputable def s_FormatPacket_fi : Fi := ⟨[.v (.slice (.int .i64)) false], [(false, [⟨.str, none⟩])], none, s_FormatPacket_c, Go.Proofs.Tryd.f51.results.toList, 34, s_FormatPacket_h⟩
/-! ### s_ParsePacket -/
noncomputable def s_ParsePacket_c : Code := (Go.Proofs.Tryd.f19.body).getD .skip
noncomputable def s_ParsePacket_h : Nat → Option (List Hint)
  | 5 => some [.keep 0, .cell 4 (.row 100004 (.int .i64) true false), .cell 14 (.row 100014 (.str) true false), .keep 15, .keep 16]
  | _ => none
noncomputable def s_ParsePacket_fi : Fi := ⟨[.v (.str) false], [(false, [⟨.slice (.int .i64), some (true, false)⟩]), (false, [⟨.bool, none⟩])], none, s_ParsePacket_c, Go.Proofs.Tryd.f19.results.toList, 62, s_ParsePacket_h⟩
/-! ### i_CardOf -/
noncomputable def i_CardOf_c : Code := (Go.Proofs.Tryd.f33.body).getD .skip
noncomputable def i_CardOf_h : Nat → Option (List Hint)
  | _ => none
noncomputable def i_CardOf_fi : Fi := ⟨[.v (.int .i64) false], [(false, [⟨.int .i64, none⟩])], none, i_CardOf_c, Go.Proofs.Tryd.f33.results.toList, 10, i_CardOf_h⟩
/-! ### i_PacketOk -/
noncomputable def i_PacketOk_c : Code := (Go.Proofs.Tryd.f52.body).getD .skip
noncomputable def i_PacketOk_h : Nat → Option (List Hint)
  | 3 => some [.arr 3 400003, .keep 7, .keep 8, .keep 9]
  | _ => none
noncomputable def i_PacketOk_fi : Fi := ⟨[.v (.slice (.int .i64)) false], [(false, [⟨.bool, none⟩])], none, i_PacketOk_c, Go.Proofs.Tryd.f52.results.toList, 25, i_PacketOk_h⟩
/-! ### i_ParsePacket -/
noncomputable def i_ParsePacket_c : Code := (Go.Proofs.Tryd.f20.body).getD .skip
noncomputable def i_ParsePacket_h : Nat → Option (List Hint)
  | 5 => some [.cell 4 (.row 100004 (.int .i64) true true), .cell 13 (.row 100013 (.str) true true), .keep 14, .keep 15]
  | _ => none
noncomputable def i_ParsePacket_fi : Fi := ⟨[.v (.str) false], [(false, [⟨.slice (.int .i64), some (true, true)⟩]), (false, [⟨.bool, none⟩])], none, i_ParsePacket_c, Go.Proofs.Tryd.f20.results.toList, 58, i_ParsePacket_h⟩
/-! ### w_eqIntS -/
noncomputable def w_eqIntS_c : Code := (Go.Proofs.Tryd.f21.body).getD .skip
noncomputable def w_eqIntS_h : Nat → Option (List Hint)
  | 4 => some [.keep 0, .keep 1, .keep 5]
  | _ => none
noncomputable def w_eqIntS_fi : Fi := ⟨[.v (.slice (.int .i64)) false, .v (.slice (.int .i64)) false], [(false, [⟨.bool, none⟩])], none, w_eqIntS_c, Go.Proofs.Tryd.f21.results.toList, 26, w_eqIntS_h⟩
/-! ### w_markIntS -/
noncomputable def w_markIntS_c : Code := (Go.Proofs.Tryd.f22.body).getD .skip
noncomputable def w_markIntS_h : Nat → Option (List Hint)
  | 2 => some [.cell 0 (.row 500000 (.int .i64) true false), .keep 1, .keep 5]
  | _ => none
noncomputable def w_markIntS_fi : Fi := ⟨[.o [.o (.int .i64) true] false, .v (.int .i64) false], [(false, [⟨.int .i64, none⟩])], none, w_markIntS_c, Go.Proofs.Tryd.f22.results.toList, 19, w_markIntS_h⟩
/-! ### w_heldIntS -/
noncomputable def w_heldIntS_c : Code := (Go.Proofs.Tryd.f23.body).getD .skip
noncomputable def w_heldIntS_h : Nat → Option (List Hint)
  | 2 => some [.keep 0, .keep 1, .keep 5]
  | _ => none
noncomputable def w_heldIntS_fi : Fi := ⟨[.v (.slice (.int .i64)) false, .v (.int .i64) false], [(false, [⟨.int .i64, none⟩])], none, w_heldIntS_c, Go.Proofs.Tryd.f23.results.toList, 21, w_heldIntS_h⟩
/-! ### w_FnExactParsePacket -/
noncomputable def w_FnExactParsePacket_c : Code := (Go.Proofs.Tryd.f5.body).getD .skip
noncomputable def w_FnExactParsePacket_h : Nat → Option (List Hint)
  | _ => none
noncomputable def w_FnExactParsePacket_fi : Fi := ⟨[.v (.str) false], [(false, [⟨.bool, none⟩])], none, w_FnExactParsePacket_c, Go.Proofs.Tryd.f5.results.toList, 66, w_FnExactParsePacket_h⟩
/-! ### s_ChoiceName -/
noncomputable def s_ChoiceName_c : Code := (Go.Proofs.Tryd.f53.body).getD .skip
noncomputable def s_ChoiceName_h : Nat → Option (List Hint)
  | _ => none
noncomputable def s_ChoiceName_fi : Fi := ⟨[.v (.int .i64) false], [(false, [⟨.str, none⟩])], none, s_ChoiceName_c, Go.Proofs.Tryd.f53.results.toList, 10, s_ChoiceName_h⟩
/-! ### s_l16Choice -/
noncomputable def s_l16Choice_c : Code := (Go.Proofs.Tryd.f96.body).getD .skip
noncomputable def s_l16Choice_h : Nat → Option (List Hint)
  | _ => none
noncomputable def s_l16Choice_fi : Fi := ⟨[.v (.int .i64) false, .v (.int .i64) false], [(false, [⟨.bool, none⟩])], none, s_l16Choice_c, Go.Proofs.Tryd.f96.results.toList, 23, s_l16Choice_h⟩
/-! ### s_StepOk -/
noncomputable def s_StepOk_c : Code := (Go.Proofs.Tryd.f82.body).getD .skip
noncomputable def s_StepOk_h : Nat → Option (List Hint)
  | _ => none
noncomputable def s_StepOk_fi : Fi := ⟨[.v (.int .i64) false, .v (.pair (.int .i64) (.pair (.pair (.int .i64) (.int .i64)) (.int .i64))) true], [(false, [⟨.bool, none⟩])], none, s_StepOk_c, Go.Proofs.Tryd.f82.results.toList, 46, s_StepOk_h⟩
/-! ### s_FormatStep -/
noncomputable def s_FormatStep_c : Code := (Go.Proofs.Tryd.f54.body).getD .skip
noncomputable def s_FormatStep_h : Nat → Option (List Hint)
  | _ => none
noncomputable def s_FormatStep_fi : Fi := ⟨[.v (.pair (.int .i64) (.pair (.pair (.int .i64) (.int .i64)) (.int .i64))) true], [(false, [⟨.str, none⟩])], none, s_FormatStep_c, Go.Proofs.Tryd.f54.results.toList, 39, s_FormatStep_h⟩
/-! ### s_ParseStep -/
noncomputable def s_ParseStep_c : Code := (Go.Proofs.Tryd.f24.body).getD .skip
noncomputable def s_ParseStep_h : Nat → Option (List Hint)
  | 2 => some [.keep 0, .box 2 200002 [.keep, .keep, .keep, .keep], .keep 4]
  | _ => none
noncomputable def s_ParseStep_fi : Fi := ⟨[.v (.str) false], [(true, [⟨.int .i64, none⟩, ⟨.int .i64, none⟩, ⟨.int .i64, none⟩, ⟨.int .i64, none⟩]), (false, [⟨.bool, none⟩])], none, s_ParseStep_c, Go.Proofs.Tryd.f24.results.toList, 54, s_ParseStep_h⟩
/-! ### i_ChoiceName -/
noncomputable def i_ChoiceName_c : Code := (Go.Proofs.Tryd.f55.body).getD .skip
noncomputable def i_ChoiceName_h : Nat → Option (List Hint)
  | _ => none
noncomputable def i_ChoiceName_fi : Fi := ⟨[.v (.int .i64) false], [(false, [⟨.str, none⟩])], none, i_ChoiceName_c, Go.Proofs.Tryd.f55.results.toList, 13, i_ChoiceName_h⟩
/-! ### i_StepOk -/
noncomputable def i_StepOk_c : Code := (Go.Proofs.Tryd.f83.body).getD .skip
noncomputable def i_StepOk_h : Nat → Option (List Hint)
  | _ => none
noncomputable def i_StepOk_fi : Fi := ⟨[.v (.int .i64) false, .v (.pair (.int .i64) (.pair (.pair (.int .i64) (.int .i64)) (.int .i64))) true], [(false, [⟨.bool, none⟩])], none, i_StepOk_c, Go.Proofs.Tryd.f83.results.toList, 75, i_StepOk_h⟩
/-! ### i_FormatStep -/
noncomputable def i_FormatStep_c : Code := (Go.Proofs.Tryd.f56.body).getD .skip
noncomputable def i_FormatStep_h : Nat → Option (List Hint)
  | _ => none
noncomputable def i_FormatStep_fi : Fi := ⟨[.v (.pair (.int .i64) (.pair (.pair (.int .i64) (.int .i64)) (.int .i64))) true], [(false, [⟨.str, none⟩])], none, i_FormatStep_c, Go.Proofs.Tryd.f56.results.toList, 29, i_FormatStep_h⟩
/-! ### i_ParseStep -/
noncomputable def i_ParseStep_c : Code := (Go.Proofs.Tryd.f25.body).getD .skip
noncomputable def i_ParseStep_h : Nat → Option (List Hint)
  | 5 => some [.keep 0, .box 2 200002 [.keep, .keep, .keep, .keep], .keep 6]
  | 10 => some [.keep 0, .box 2 200002 [.keep, .keep, .keep, .keep], .keep 7]
  | _ => none
noncomputable def i_ParseStep_fi : Fi := ⟨[.v (.str) false], [(true, [⟨.int .i64, none⟩, ⟨.int .i64, none⟩, ⟨.int .i64, none⟩, ⟨.int .i64, none⟩]), (false, [⟨.bool, none⟩])], none, i_ParseStep_c, Go.Proofs.Tryd.f25.results.toList, 39, i_ParseStep_h⟩
/-! ### w_eqStep -/
noncomputable def w_eqStep_c : Code := (Go.Proofs.Tryd.f26.body).getD .skip
noncomputable def w_eqStep_h : Nat → Option (List Hint)
  | _ => none
noncomputable def w_eqStep_fi : Fi := ⟨[.v (.pair (.int .i64) (.pair (.pair (.int .i64) (.int .i64)) (.int .i64))) true, .v (.pair (.int .i64) (.pair (.pair (.int .i64) (.int .i64)) (.int .i64))) true], [(false, [⟨.bool, none⟩])], none, w_eqStep_c, Go.Proofs.Tryd.f26.results.toList, 21, w_eqStep_h⟩
/-! ### w_FnExactParseStep -/
noncomputable def w_FnExactParseStep_c : Code := (Go.Proofs.Tryd.f6.body).getD .skip
noncomputable def w_FnExactParseStep_h : Nat → Option (List Hint)
  | _ => none
noncomputable def w_FnExactParseStep_fi : Fi := ⟨[.v (.str) false], [(false, [⟨.bool, none⟩])], none, w_FnExactParseStep_c, Go.Proofs.Tryd.f6.results.toList, 29, w_FnExactParseStep_h⟩

noncomputable def fnL : List (Nat × List Nat × Fi) := [(42, [], s_SplitAny_fi),
  (67, [], s_IsDigits_fi),
  (68, [], s_FormatInt_fi),
  (43, [], s_ParseInt_fi),
  (69, [], s_l04Names_fi),
  (44, [], s_MoveNamed_fi),
  (50, [], s_l01In_fi),
  (70, [], s_MoveOk_fi),
  (71, [], s_MoveName_fi),
  (45, [], s_FormatMove_fi),
  (16, [], s_ParseMove_fi),
  (72, [], strings_IndexByte_fi),
  (46, [], i_SplitAny_fi),
  (73, [], strconv_Atoi_fi),
  (66, [], strconv_Itoa_fi),
  (41, [], i_FormatInt_fi),
  (47, [], i_ParseInt_fi),
  (75, [], i_moveNames_fi),
  (74, [], slices_Index_string_fi),
  (48, [], i_MoveNamed_fi),
  (76, [], i_MoveOk_fi),
  (77, [], i_MoveName_fi),
  (49, [], i_FormatMove_fi),
  (17, [], i_ParseMove_fi),
  (18, [], w_eqMove_fi),
  (4, [], w_FnExactParseMove_fi),
  (79, [], s_CardOf_fi),
  (95, [], s_l02Has_fi),
  (78, [], s_PacketOk_fi),
  (80, [], s_IsUp_fi),
  (81, [], s_Join_fi),
  (51, [], s_FormatPacket_fi),
  (19, [], s_ParsePacket_fi),
  (33, [], i_CardOf_fi),
  (52, [], i_PacketOk_fi),
  (20, [], i_ParsePacket_fi),
  (21, [], w_eqIntS_fi),
  (22, [], w_markIntS_fi),
  (23, [], w_heldIntS_fi),
  (5, [], w_FnExactParsePacket_fi),
  (53, [], s_ChoiceName_fi),
  (96, [], s_l16Choice_fi),
  (82, [], s_StepOk_fi),
  (54, [], s_FormatStep_fi),
  (24, [], s_ParseStep_fi),
  (55, [], i_ChoiceName_fi),
  (83, [], i_StepOk_fi),
  (56, [], i_FormatStep_fi),
  (25, [], i_ParseStep_fi),
  (26, [], w_eqStep_fi),
  (6, [], w_FnExactParseStep_fi)]
noncomputable def E : Env := ⟨lookT tyL, lookF fnL⟩

noncomputable def s_SplitAny (k : Nat) (x : ByteArray × ByteArray) : Option (List ByteArray) := aFn E s_SplitAny_fi k x
noncomputable def s_SplitAny_l4 (k : Nat) (v0 : ByteArray) (v1 : ByteArray) (v6 : Int) (v7 : Int) (o100005 : List ByteArray) : Option (List ByteArray) := aRun E k s_SplitAny_fi.rs (ioOf s_SplitAny_fi.ps) s_SplitAny_fi.res s_SplitAny_fi.hints [.code (sub s_SplitAny_c [1, 1, 1, 0, 1, 0, 0, 0, 0]), .code (sub s_SplitAny_c [1, 1, 1, 0, 1, 0, 0, 0, 1]), .code (sub s_SplitAny_c [1, 1, 1, 0, 1, 0, 0, 1]), .inLoop (sub s_SplitAny_c [1, 1, 1, 0, 1, 0, 0]), .inBlock 0, .code (sub s_SplitAny_c [1, 1, 1, 1])] ⟨[.cv (.val (.str) v0), .cv (.val (.str) v1), .cv .dead, .cv .dead, .cv .dead, .cv (.own 100005), .cv (.val (.int .i64) v6), .cv (.val (.int .i64) v7), .cv .dead, .cv .dead, .cv .dead, .cv .dead, .cv .dead, .cv .dead, .cv .dead, .cv .dead, .cv .dead, .cv .dead, .cv .dead, .cv .dead, .cv .dead, .cv .dead, .cv .dead, .cv .dead, .cv .dead, .cv .dead, .cv .dead, .cv .dead, .cv .dead, .cv .dead, .cv .dead, .cv .dead, .cv .dead, .cv .dead, .cv .dead, .cv .dead, .cv .dead, .cv .dead, .cv .dead, .cv .dead, .cv .dead, .cv .dead, .cv .dead, .cv .dead], [(100005, .row (.str) o100005 true false)], true⟩
noncomputable def s_SplitAny_l7 (k : Nat) (v0 : ByteArray) (v1 : ByteArray) (v6 : Int) (v7 : Int) (v8 : Int) (o100005 : List ByteArray) : Option (List ByteArray) := aRun E k s_SplitAny_fi.rs (ioOf s_SplitAny_fi.ps) s_SplitAny_fi.res s_SplitAny_fi.hints [.code (sub s_SplitAny_c [1, 1, 1, 0, 1, 0, 0, 1, 0, 0, 1, 0, 0, 0, 0]), .code (sub s_SplitAny_c [1, 1, 1, 0, 1, 0, 0, 1, 0, 0, 1, 0, 0, 0, 1]), .code (sub s_SplitAny_c [1, 1, 1, 0, 1, 0, 0, 1, 0, 0, 1, 0, 0, 1]), .inLoop (sub s_SplitAny_c [1, 1, 1, 0, 1, 0, 0, 1, 0, 0, 1, 0, 0]), .inBlock 2, .inBlock 1, .code (sub s_SplitAny_c [1, 1, 1, 0, 1, 0, 0, 1, 1]), .inLoop (sub s_SplitAny_c [1, 1, 1, 0, 1, 0, 0]), .inBlock 0, .code (sub s_SplitAny_c [1, 1, 1, 1])] ⟨[.cv (.val (.str) v0), .cv (.val (.str) v1), .cv .dead, .cv .dead, .cv .dead, .cv (.own 100005), .cv (.val (.int .i64) v6), .cv (.val (.int .i64) v7), .cv (.val (.int .i64) v8), .cv .dead, .cv .dead, .cv .dead, .cv .dead, .cv .dead, .cv .dead, .cv .dead, .cv .dead, .cv .dead, .cv .dead, .cv .dead, .cv .dead, .cv .dead, .cv .dead, .cv .dead, .cv .dead, .cv .dead, .cv .dead, .cv .dead, .cv .dead, .cv .dead, .cv .dead, .cv .dead, .cv .dead, .cv .dead, .cv .dead, .cv .dead, .cv .dead, .cv .dead, .cv .dead, .cv .dead, .cv .dead, .cv .dead, .cv .dead, .cv .dead], [(100005, .row (.str) o100005 true false)], true⟩
noncomputable def s_IsDigits (k : Nat) (x : ByteArray) : Option (Bool) := aFn E s_IsDigits_fi k x
noncomputable def s_IsDigits_l2 (k : Nat) (v0 : ByteArray) (v3 : Int) : Option (Bool) := aRun E k s_IsDigits_fi.rs (ioOf s_IsDigits_fi.ps) s_IsDigits_fi.res s_IsDigits_fi.hints [.code (sub s_IsDigits_c [1, 0, 1, 0, 0, 0, 0]), .code (sub s_IsDigits_c [1, 0, 1, 0, 0, 0, 1]), .code (sub s_IsDigits_c [1, 0, 1, 0, 0, 1]), .inLoop (sub s_IsDigits_c [1, 0, 1, 0, 0]), .inBlock 0, .code (sub s_IsDigits_c [1, 1])] ⟨[.cv (.val (.str) v0), .cv .dead, .cv .dead, .cv (.val (.int .i64) v3), .cv .dead, .cv .dead, .cv .dead, .cv .dead, .cv .dead, .cv .dead, .cv .dead, .cv .dead, .cv .dead, .cv .dead, .cv .dead, .cv .dead, .cv .dead, .cv .dead, .cv .dead, .cv .dead, .cv .dead, .cv .dead, .cv .dead], [], true⟩
noncomputable def s_FormatInt (k : Nat) (x : Int) : Option (ByteArray) := aFn E s_FormatInt_fi k x
noncomputable def s_FormatInt_l6 (k : Nat) (v0 : Int) (v3 : ByteArray) : Option (ByteArray) := aRun E k s_FormatInt_fi.rs (ioOf s_FormatInt_fi.ps) s_FormatInt_fi.res s_FormatInt_fi.hints [.code (sub s_FormatInt_c [1, 1, 1, 0, 0, 0, 0, 0]), .code (sub s_FormatInt_c [1, 1, 1, 0, 0, 0, 0, 1]), .code (sub s_FormatInt_c [1, 1, 1, 0, 0, 0, 1]), .inLoop (sub s_FormatInt_c [1, 1, 1, 0, 0, 0]), .inBlock 0, .code (sub s_FormatInt_c [1, 1, 1, 1])] ⟨[.cv (.val (.int .i64) v0), .cv .dead, .cv .dead, .cv (.val (.str) v3), .cv .dead, .cv .dead, .cv .dead, .cv .dead, .cv .dead, .cv .dead, .cv .dead, .cv .dead, .cv .dead, .cv .dead, .cv .dead, .cv .dead, .cv .dead, .cv .dead, .cv .dead, .cv .dead, .cv .dead, .cv .dead, .cv .dead, .cv .dead, .cv .dead, .cv .dead, .cv .dead, .cv .dead, .cv .dead, .cv .dead, .cv .dead, .cv .dead, .cv .dead, .cv .dead, .cv .dead, .cv .dead, .cv .dead, .cv .dead, .cv .dead, .cv .dead, .cv .dead, .cv .dead, .cv .dead, .cv .dead], [], true⟩
noncomputable def s_ParseInt (k : Nat) (x : ByteArray) : Option (Int × Bool) := aFn E s_ParseInt_fi k x
noncomputable def s_ParseInt_l9 (k : Nat) (v0 : ByteArray) (v4 : Bool) (v5 : ByteArray) (v6 : Int) (v7 : Int) : Option (Int × Bool) := aRun E k s_ParseInt_fi.rs (ioOf s_ParseInt_fi.ps) s_ParseInt_fi.res s_ParseInt_fi.hints [.code (sub s_ParseInt_c [1, 1, 1, 1, 1, 1, 0, 1, 0, 0, 0, 0]), .code (sub s_ParseInt_c [1, 1, 1, 1, 1, 1, 0, 1, 0, 0, 0, 1]), .code (sub s_ParseInt_c [1, 1, 1, 1, 1, 1, 0, 1, 0, 0, 1]), .inLoop (sub s_ParseInt_c [1, 1, 1, 1, 1, 1, 0, 1, 0, 0]), .inBlock 0, .code (sub s_ParseInt_c [1, 1, 1, 1, 1, 1, 1])] ⟨[.cv (.val (.str) v0), .cv .dead, .cv .dead, .cv .dead, .cv (.val (.bool) v4), .cv (.val (.str) v5), .cv (.val (.int .i64) v6), .cv (.val (.int .i64) v7), .cv .dead, .cv .dead, .cv .dead, .cv .dead, .cv .dead, .cv .dead, .cv .dead, .cv .dead, .cv .dead, .cv .dead, .cv .dead, .cv .dead, .cv .dead, .cv .dead, .cv .dead, .cv .dead, .cv .dead, .cv .dead, .cv .dead, .cv .dead, .cv .dead, .cv .dead, .cv .dead, .cv .dead, .cv .dead, .cv .dead, .cv .dead, .cv .dead, .cv .dead, .cv .dead, .cv .dead, .cv .dead, .cv .dead, .cv .dead, .cv .dead, .cv .dead, .cv .dead, .cv .dead, .cv .dead, .cv .dead, .cv .dead, .cv .dead, .cv .dead, .cv .dead, .cv .dead, .cv .dead, .cv .dead, .cv .dead, .cv .dead, .cv .dead, .cv .dead, .cv .dead], [], true⟩
noncomputable def s_l04Names (k : Nat) (x : Unit) : Option (List ByteArray) := aFn E s_l04Names_fi k x
noncomputable def s_MoveNamed (k : Nat) (x : ByteArray) : Option (Int) := aFn E s_MoveNamed_fi k x
noncomputable def s_MoveNamed_l2 (k : Nat) (v0 : ByteArray) (v6 : Int) (v7 : Int) (o100005 : List ByteArray) : Option (Int) := aRun E k s_MoveNamed_fi.rs (ioOf s_MoveNamed_fi.ps) s_MoveNamed_fi.res s_MoveNamed_fi.hints [.code (sub s_MoveNamed_c [1, 0, 1, 0, 0, 0]), .code (sub s_MoveNamed_c [1, 0, 1, 0, 0, 1]), .inLoop (sub s_MoveNamed_c [1, 0, 1, 0, 0]), .inBlock 0, .code (sub s_MoveNamed_c [1, 1])] ⟨[.cv (.val (.str) v0), .cv .dead, .cv .dead, .cv .dead, .cv .dead, .cv (.own 100005), .cv (.val (.int .i64) v6), .cv (.val (.int .i64) v7), .cv .dead, .cv .dead, .cv .dead, .cv .dead, .cv .dead, .cv .dead, .cv .dead, .cv .dead, .cv .dead], [(100005, .row (.str) o100005 true false)], true⟩
noncomputable def s_l01In (k : Nat) (x : Int × Int × Int) : Option (Bool) := aFn E s_l01In_fi k x
noncomputable def s_MoveOk (k : Nat) (x : Int × Int × Int) : Option (Bool) := aFn E s_MoveOk_fi k x
noncomputable def s_MoveName (k : Nat) (x : Int) : Option (ByteArray) := aFn E s_MoveName_fi k x
noncomputable def s_FormatMove (k : Nat) (x : Int × Int) : Option (ByteArray) := aFn E s_FormatMove_fi k x
noncomputable def s_ParseMove (k : Nat) (x : ByteArray) : Option (Int × Int × Bool) := aFn E s_ParseMove_fi k x
noncomputable def strings_IndexByte (k : Nat) (x : ByteArray × Int) : Option (Int) := aFn E strings_IndexByte_fi k x
noncomputable def i_SplitAny (k : Nat) (x : ByteArray × ByteArray) : Option (List ByteArray) := aFn E i_SplitAny_fi k x
noncomputable def i_SplitAny_l4 (k : Nat) (v0 : ByteArray) (v1 : ByteArray) (v6 : Int) (v7 : Int) (o100005 : List ByteArray) : Option (List ByteArray) := aRun E k i_SplitAny_fi.rs (ioOf i_SplitAny_fi.ps) i_SplitAny_fi.res i_SplitAny_fi.hints [.code (sub i_SplitAny_c [1, 1, 1, 0, 1, 0, 0, 0, 0]), .code (sub i_SplitAny_c [1, 1, 1, 0, 1, 0, 0, 0, 1]), .code (sub i_SplitAny_c [1, 1, 1, 0, 1, 0, 0, 1]), .inLoop (sub i_SplitAny_c [1, 1, 1, 0, 1, 0, 0]), .inBlock 0, .code (sub i_SplitAny_c [1, 1, 1, 1])] ⟨[.cv (.val (.str) v0), .cv (.val (.str) v1), .cv .dead, .cv .dead, .cv .dead, .cv (.own 100005), .cv (.val (.int .i64) v6), .cv (.val (.int .i64) v7), .cv .dead, .cv .dead, .cv .dead, .cv .dead, .cv .dead, .cv .dead, .cv .dead, .cv .dead, .cv .dead, .cv .dead, .cv .dead, .cv .dead, .cv .dead, .cv .dead, .cv .dead, .cv .dead, .cv .dead, .cv .dead, .cv .dead, .cv .dead, .cv .dead, .cv .dead, .cv .dead, .cv .dead, .cv .dead, .cv .dead, .cv .dead], [(100005, .row (.str) o100005 true true)], true⟩
noncomputable def strconv_Atoi (k : Nat) (x : ByteArray) : Option (Int × Bool) := aFn E strconv_Atoi_fi k x
noncomputable def strconv_Itoa (k : Nat) (x : Int) : Option (ByteArray) := aFn E strconv_Itoa_fi k x
noncomputable def i_FormatInt (k : Nat) (x : Int) : Option (ByteArray) := aFn E i_FormatInt_fi k x
noncomputable def i_ParseInt (k : Nat) (x : ByteArray) : Option (Int × Bool) := aFn E i_ParseInt_fi k x
noncomputable def i_moveNames (k : Nat) (x : Unit) : Option (List ByteArray) := aFn E i_moveNames_fi k x
noncomputable def slices_Index_string (k : Nat) (x : (List ByteArray) × ByteArray) : Option (Int) := aFn E slices_Index_string_fi k x
noncomputable def slices_Index_string_l2 (k : Nat) (v0 : List ByteArray) (v1 : ByteArray) (v7 : Int) (v8 : Int) : Option (Int) := aRun E k slices_Index_string_fi.rs (ioOf slices_Index_string_fi.ps) slices_Index_string_fi.res slices_Index_string_fi.hints [.code (sub slices_Index_string_c [1, 0, 1, 0, 0, 0]), .code (sub slices_Index_string_c [1, 0, 1, 0, 0, 1]), .inLoop (sub slices_Index_string_c [1, 0, 1, 0, 0]), .inBlock 0, .code (sub slices_Index_string_c [1, 1])] ⟨[.cv (.val (.slice (.str)) v0), .cv (.val (.str) v1), .cv .dead, .cv .dead, .cv .dead, .cv .dead, .cv .dead, .cv (.val (.int .i64) v7), .cv (.val (.int .i64) v8), .cv .dead, .cv .dead, .cv .dead, .cv .dead, .cv .dead, .cv .dead, .cv .dead, .cv .dead, .cv .dead, .cv .dead], [], true⟩
noncomputable def i_MoveNamed (k : Nat) (x : ByteArray) : Option (Int) := aFn E i_MoveNamed_fi k x
noncomputable def i_MoveOk (k : Nat) (x : Int × Int × Int) : Option (Bool) := aFn E i_MoveOk_fi k x
noncomputable def i_MoveName (k : Nat) (x : Int) : Option (ByteArray) := aFn E i_MoveName_fi k x
noncomputable def i_FormatMove (k : Nat) (x : Int × Int) : Option (ByteArray) := aFn E i_FormatMove_fi k x
noncomputable def i_ParseMove (k : Nat) (x : ByteArray) : Option (Int × Int × Bool) := aFn E i_ParseMove_fi k x
noncomputable def w_eqMove (k : Nat) (x : (Int × Int) × Int × Int) : Option (Bool) := aFn E w_eqMove_fi k x
noncomputable def w_FnExactParseMove (k : Nat) (x : ByteArray) : Option (Bool) := aFn E w_FnExactParseMove_fi k x
noncomputable def s_CardOf (k : Nat) (x : Int) : Option (Int) := aFn E s_CardOf_fi k x
noncomputable def s_l02Has (k : Nat) (x : (List Int) × Int) : Option (Bool) := aFn E s_l02Has_fi k x
noncomputable def s_l02Has_l2 (k : Nat) (v1 : Int) (v7 : List Int) (v8 : Int) (v9 : Int) : Option (Bool) := aRun E k s_l02Has_fi.rs (ioOf s_l02Has_fi.ps) s_l02Has_fi.res s_l02Has_fi.hints [.code (sub s_l02Has_c [1, 0, 1, 0, 0, 0]), .code (sub s_l02Has_c [1, 0, 1, 0, 0, 1]), .inLoop (sub s_l02Has_c [1, 0, 1, 0, 0]), .inBlock 0, .code (sub s_l02Has_c [1, 1])] ⟨[.cv .dead, .cv (.val (.int .i64) v1), .cv .dead, .cv .dead, .cv .dead, .cv .dead, .cv .dead, .cv (.val (.slice (.int .i64)) v7), .cv (.val (.int .i64) v8), .cv (.val (.int .i64) v9), .cv .dead, .cv .dead, .cv .dead, .cv .dead, .cv .dead, .cv .dead, .cv .dead], [], true⟩
noncomputable def s_PacketOk (k : Nat) (x : List Int) : Option (Bool) := aFn E s_PacketOk_fi k x
noncomputable def s_PacketOk_l5 (k : Nat) (v11 : List Int) (v12 : Int) (v13 : Int) (o100003 : List Int) : Option (Bool) := aRun E k s_PacketOk_fi.rs (ioOf s_PacketOk_fi.ps) s_PacketOk_fi.res s_PacketOk_fi.hints [.code (sub s_PacketOk_c [1, 1, 1, 0, 1, 0, 0, 0]), .code (sub s_PacketOk_c [1, 1, 1, 0, 1, 0, 0, 1]), .inLoop (sub s_PacketOk_c [1, 1, 1, 0, 1, 0, 0]), .inBlock 0, .code (sub s_PacketOk_c [1, 1, 1, 1])] ⟨[.cv .dead, .cv .dead, .cv .dead, .cv (.own 100003), .cv .dead, .cv .dead, .cv .dead, .cv .dead, .cv .dead, .cv .dead, .cv .dead, .cv (.val (.slice (.int .i64)) v11), .cv (.val (.int .i64) v12), .cv (.val (.int .i64) v13), .cv .dead, .cv .dead, .cv .dead, .cv .dead, .cv .dead, .cv .dead, .cv .dead, .cv .dead, .cv .dead, .cv .dead, .cv .dead, .cv .dead, .cv .dead, .cv .dead, .cv .dead, .cv .dead, .cv .dead], [(100003, .row (.int .i64) o100003 true false)], true⟩
noncomputable def s_IsUp (k : Nat) (x : Int) : Option (Bool) := aFn E s_IsUp_fi k x
noncomputable def s_Join (k : Nat) (x : (List ByteArray) × ByteArray) : Option (ByteArray) := aFn E s_Join_fi k x
noncomputable def s_Join_l3 (k : Nat) (v1 : ByteArray) (v5 : ByteArray) (v8 : List ByteArray) (v9 : Int) (v10 : Int) : Option (ByteArray) := aRun E k s_Join_fi.rs (ioOf s_Join_fi.ps) s_Join_fi.res s_Join_fi.hints [.code (sub s_Join_c [1, 1, 0, 1, 0, 0, 0]), .code (sub s_Join_c [1, 1, 0, 1, 0, 0, 1]), .inLoop (sub s_Join_c [1, 1, 0, 1, 0, 0]), .inBlock 0, .code (sub s_Join_c [1, 1, 1])] ⟨[.cv .dead, .cv (.val (.str) v1), .cv .dead, .cv .dead, .cv .dead, .cv (.val (.str) v5), .cv .dead, .cv .dead, .cv (.val (.slice (.str)) v8), .cv (.val (.int .i64) v9), .cv (.val (.int .i64) v10), .cv .dead, .cv .dead, .cv .dead, .cv .dead, .cv .dead, .cv .dead, .cv .dead, .cv .dead, .cv .dead, .cv .dead, .cv .dead, .cv .dead, .cv .dead, .cv .dead], [], true⟩
noncomputable def s_FormatPacket (k : Nat) (x : List Int) : Option (ByteArray) := aFn E s_FormatPacket_fi k x
noncomputable def s_FormatPacket_l5 (k : Nat) (v11 : List Int) (v12 : Int) (v13 : Int) (o100003 : List ByteArray) : Option (ByteArray) := aRun E k s_FormatPacket_fi.rs (ioOf s_FormatPacket_fi.ps) s_FormatPacket_fi.res s_FormatPacket_fi.hints [.code (sub s_FormatPacket_c [1, 1, 1, 0, 1, 0, 0, 0]), .code (sub s_FormatPacket_c [1, 1, 1, 0, 1, 0, 0, 1]), .inLoop (sub s_FormatPacket_c [1, 1, 1, 0, 1, 0, 0]), .inBlock 0, .code (sub s_FormatPacket_c [1, 1, 1, 1])] ⟨[.cv .dead, .cv .dead, .cv .dead, .cv (.own 100003), .cv .dead, .cv .dead, .cv .dead, .cv .dead, .cv .dead, .cv .dead, .cv .dead, .cv (.val (.slice (.int .i64)) v11), .cv (.val (.int .i64) v12), .cv (.val (.int .i64) v13), .cv .dead, .cv .dead, .cv .dead, .cv .dead, .cv .dead, .cv .dead, .cv .dead, .cv .dead, .cv .dead, .cv .dead, .cv .dead, .cv .dead, .cv .dead, .cv .dead, .cv .dead, .cv .dead, .cv .dead, .cv .dead, .cv .dead, .cv .dead], [(100003, .row (.str) o100003 true false)], true⟩
noncomputable def s_ParsePacket (k : Nat) (x : ByteArray) : Option ((List Int) × Bool) := aFn E s_ParsePacket_fi k x
noncomputable def s_ParsePacket_l5 (k : Nat) (v0 : ByteArray) (v15 : Int) (v16 : Int) (o100004 : List Int) (o100014 : List ByteArray) : Option ((List Int) × Bool) := aRun E k s_ParsePacket_fi.rs (ioOf s_ParsePacket_fi.ps) s_ParsePacket_fi.res s_ParsePacket_fi.hints [.code (sub s_ParsePacket_c [1, 1, 1, 0, 1, 0, 0, 0]), .code (sub s_ParsePacket_c [1, 1, 1, 0, 1, 0, 0, 1]), .inLoop (sub s_ParsePacket_c [1, 1, 1, 0, 1, 0, 0]), .inBlock 0, .code (sub s_ParsePacket_c [1, 1, 1, 1])] ⟨[.cv (.val (.str) v0), .cv .dead, .cv .dead, .cv .dead, .cv (.own 100004), .cv .dead, .cv .dead, .cv .dead, .cv .dead, .cv .dead, .cv .dead, .cv .dead, .cv .dead, .cv .dead, .cv (.own 100014), .cv (.val (.int .i64) v15), .cv (.val (.int .i64) v16), .cv .dead, .cv .dead, .cv .dead, .cv .dead, .cv .dead, .cv .dead, .cv .dead, .cv .dead, .cv .dead, .cv .dead, .cv .dead, .cv .dead, .cv .dead, .cv .dead, .cv .dead, .cv .dead, .cv .dead, .cv .dead, .cv .dead, .cv .dead, .cv .dead, .cv .dead, .cv .dead, .cv .dead, .cv .dead, .cv .dead, .cv .dead, .cv .dead, .cv .dead, .cv .dead, .cv .dead, .cv .dead, .cv .dead, .cv .dead, .cv .dead, .cv .dead, .cv .dead, .cv .dead, .cv .dead, .cv .dead, .cv .dead, .cv .dead, .cv .dead, .cv .dead, .cv .dead], [(100004, .row (.int .i64) o100004 true false), (100014, .row (.str) o100014 true false)], true⟩
noncomputable def i_CardOf (k : Nat) (x : Int) : Option (Int) := aFn E i_CardOf_fi k x
noncomputable def i_PacketOk (k : Nat) (x : List Int) : Option (Bool) := aFn E i_PacketOk_fi k x
noncomputable def i_PacketOk_l3 (k : Nat) (v7 : List Int) (v8 : Int) (v9 : Int) (o400003 : List Bool) : Option (Bool) := aRun E k i_PacketOk_fi.rs (ioOf i_PacketOk_fi.ps) i_PacketOk_fi.res i_PacketOk_fi.hints [.code (sub i_PacketOk_c [1, 1, 0, 1, 0, 0, 0]), .code (sub i_PacketOk_c [1, 1, 0, 1, 0, 0, 1]), .inLoop (sub i_PacketOk_c [1, 1, 0, 1, 0, 0]), .inBlock 0, .code (sub i_PacketOk_c [1, 1, 1])] ⟨[.cv .dead, .cv .dead, .cv .dead, .adr 400003 0, .cv .dead, .cv .dead, .cv .dead, .cv (.val (.slice (.int .i64)) v7), .cv (.val (.int .i64) v8), .cv (.val (.int .i64) v9), .cv .dead, .cv .dead, .cv .dead, .cv .dead, .cv .dead, .cv .dead, .cv .dead, .cv .dead, .cv .dead, .cv .dead, .cv .dead, .cv .dead, .cv .dead, .cv .dead, .cv .dead], [(400003, .arr (.bool) o400003)], true⟩
noncomputable def i_ParsePacket (k : Nat) (x : ByteArray) : Option ((List Int) × Bool) := aFn E i_ParsePacket_fi k x
noncomputable def i_ParsePacket_l5 (k : Nat) (v14 : Int) (v15 : Int) (o100004 : List Int) (o100013 : List ByteArray) : Option ((List Int) × Bool) := aRun E k i_ParsePacket_fi.rs (ioOf i_ParsePacket_fi.ps) i_ParsePacket_fi.res i_ParsePacket_fi.hints [.code (sub i_ParsePacket_c [1, 1, 1, 0, 1, 0, 0, 0]), .code (sub i_ParsePacket_c [1, 1, 1, 0, 1, 0, 0, 1]), .inLoop (sub i_ParsePacket_c [1, 1, 1, 0, 1, 0, 0]), .inBlock 0, .code (sub i_ParsePacket_c [1, 1, 1, 1])] ⟨[.cv .dead, .cv .dead, .cv .dead, .cv .dead, .cv (.own 100004), .cv .dead, .cv .dead, .cv .dead, .cv .dead, .cv .dead, .cv .dead, .cv .dead, .cv .dead, .cv (.own 100013), .cv (.val (.int .i64) v14), .cv (.val (.int .i64) v15), .cv .dead, .cv .dead, .cv .dead, .cv .dead, .cv .dead, .cv .dead, .cv .dead, .cv .dead, .cv .dead, .cv .dead, .cv .dead, .cv .dead, .cv .dead, .cv .dead, .cv .dead, .cv .dead, .cv .dead, .cv .dead, .cv .dead, .cv .dead, .cv .dead, .cv .dead, .cv .dead, .cv .dead, .cv .dead, .cv .dead, .cv .dead, .cv .dead, .cv .dead, .cv .dead, .cv .dead, .cv .dead, .cv .dead, .cv .dead, .cv .dead, .cv .dead, .cv .dead, .cv .dead, .cv .dead, .cv .dead, .cv .dead, .cv .dead], [(100004, .row (.int .i64) o100004 true true), (100013, .row (.str) o100013 true true)], true⟩
noncomputable def w_eqIntS (k : Nat) (x : (List Int) × List Int) : Option (Bool) := aFn E w_eqIntS_fi k x
noncomputable def w_eqIntS_l4 (k : Nat) (v0 : List Int) (v1 : List Int) (v5 : Int) : Option (Bool) := aRun E k w_eqIntS_fi.rs (ioOf w_eqIntS_fi.ps) w_eqIntS_fi.res w_eqIntS_fi.hints [.code (sub w_eqIntS_c [1, 1, 0, 1, 0, 0, 0, 0]), .code (sub w_eqIntS_c [1, 1, 0, 1, 0, 0, 0, 1]), .code (sub w_eqIntS_c [1, 1, 0, 1, 0, 0, 1]), .inLoop (sub w_eqIntS_c [1, 1, 0, 1, 0, 0]), .inBlock 0, .code (sub w_eqIntS_c [1, 1, 1])] ⟨[.cv (.val (.slice (.int .i64)) v0), .cv (.val (.slice (.int .i64)) v1), .cv .dead, .cv .dead, .cv .dead, .cv (.val (.int .i64) v5), .cv .dead, .cv .dead, .cv .dead, .cv .dead, .cv .dead, .cv .dead, .cv .dead, .cv .dead, .cv .dead, .cv .dead, .cv .dead, .cv .dead, .cv .dead, .cv .dead, .cv .dead, .cv .dead, .cv .dead, .cv .dead, .cv .dead, .cv .dead], [], true⟩
noncomputable def w_markIntS (k : Nat) (x : (List Int) × Int) : Option ((Int) × List Int) := aFn E w_markIntS_fi k x
noncomputable def w_markIntS_l2 (k : Nat) (v1 : Int) (v5 : Int) (o500000 : List Int) : Option ((Int) × List Int) := aRun E k w_markIntS_fi.rs (ioOf w_markIntS_fi.ps) w_markIntS_fi.res w_markIntS_fi.hints [.code (sub w_markIntS_c [1, 0, 1, 0, 0, 0, 0]), .code (sub w_markIntS_c [1, 0, 1, 0, 0, 0, 1]), .code (sub w_markIntS_c [1, 0, 1, 0, 0, 1]), .inLoop (sub w_markIntS_c [1, 0, 1, 0, 0]), .inBlock 0, .code (sub w_markIntS_c [1, 1])] ⟨[.cv (.own 500000), .cv (.val (.int .i64) v1), .cv .dead, .cv .dead, .cv .dead, .cv (.val (.int .i64) v5), .cv .dead, .cv .dead, .cv .dead, .cv .dead, .cv .dead, .cv .dead, .cv .dead, .cv .dead, .cv .dead, .cv .dead, .cv .dead, .cv .dead, .cv .dead], [(500000, .row (.int .i64) o500000 true false)], true⟩
noncomputable def w_heldIntS (k : Nat) (x : (List Int) × Int) : Option (Int) := aFn E w_heldIntS_fi k x
noncomputable def w_heldIntS_l2 (k : Nat) (v0 : List Int) (v1 : Int) (v5 : Int) : Option (Int) := aRun E k w_heldIntS_fi.rs (ioOf w_heldIntS_fi.ps) w_heldIntS_fi.res w_heldIntS_fi.hints [.code (sub w_heldIntS_c [1, 0, 1, 0, 0, 0, 0]), .code (sub w_heldIntS_c [1, 0, 1, 0, 0, 0, 1]), .code (sub w_heldIntS_c [1, 0, 1, 0, 0, 1]), .inLoop (sub w_heldIntS_c [1, 0, 1, 0, 0]), .inBlock 0, .code (sub w_heldIntS_c [1, 1])] ⟨[.cv (.val (.slice (.int .i64)) v0), .cv (.val (.int .i64) v1), .cv .dead, .cv .dead, .cv .dead, .cv (.val (.int .i64) v5), .cv .dead, .cv .dead, .cv .dead, .cv .dead, .cv .dead, .cv .dead, .cv .dead, .cv .dead, .cv .dead, .cv .dead, .cv .dead, .cv .dead, .cv .dead, .cv .dead, .cv .dead], [], true⟩
noncomputable def w_FnExactParsePacket (k : Nat) (x : ByteArray) : Option (Bool) := aFn E w_FnExactParsePacket_fi k x
noncomputable def s_ChoiceName (k : Nat) (x : Int) : Option (ByteArray) := aFn E s_ChoiceName_fi k x
noncomputable def s_l16Choice (k : Nat) (x : Int × Int) : Option (Bool) := aFn E s_l16Choice_fi k x
noncomputable def s_StepOk (k : Nat) (x : Int × Int × (Int × Int) × Int) : Option (Bool) := aFn E s_StepOk_fi k x
noncomputable def s_FormatStep (k : Nat) (x : Int × (Int × Int) × Int) : Option (ByteArray) := aFn E s_FormatStep_fi k x
noncomputable def s_ParseStep (k : Nat) (x : ByteArray) : Option (Int × Int × Int × Int × Bool) := aFn E s_ParseStep_fi k x
noncomputable def s_ParseStep_l2 (k : Nat) (v0 : ByteArray) (v4 : Int) (o200002_0 : Int) (o200002_1 : Int) (o200002_2 : Int) (o200002_3 : Int) : Option (Int × Int × Int × Int × Bool) := aRun E k s_ParseStep_fi.rs (ioOf s_ParseStep_fi.ps) s_ParseStep_fi.res s_ParseStep_fi.hints [.code (sub s_ParseStep_c [1, 0, 1, 0, 0, 0, 0]), .code (sub s_ParseStep_c [1, 0, 1, 0, 0, 0, 1]), .code (sub s_ParseStep_c [1, 0, 1, 0, 0, 1]), .inLoop (sub s_ParseStep_c [1, 0, 1, 0, 0]), .inBlock 0, .code (sub s_ParseStep_c [1, 1])] ⟨[.cv (.val (.str) v0), .cv .dead, .adr 200002 0, .cv .dead, .cv (.val (.int .i64) v4), .cv .dead, .cv .dead, .cv .dead, .cv .dead, .cv .dead, .cv .dead, .cv .dead, .cv .dead, .cv .dead, .cv .dead, .cv .dead, .cv .dead, .cv .dead, .cv .dead, .cv .dead, .cv .dead, .cv .dead, .cv .dead, .cv .dead, .cv .dead, .cv .dead, .cv .dead, .cv .dead, .cv .dead, .cv .dead, .cv .dead, .cv .dead, .cv .dead, .cv .dead, .cv .dead, .cv .dead, .cv .dead, .cv .dead, .cv .dead, .cv .dead, .cv .dead, .cv .dead, .cv .dead, .cv .dead, .cv .dead, .cv .dead, .cv .dead, .cv .dead, .cv .dead, .cv .dead, .cv .dead, .cv .dead, .cv .dead, .cv .dead], [(200002, .box [.val (.int .i64) o200002_0, .val (.int .i64) o200002_1, .val (.int .i64) o200002_2, .val (.int .i64) o200002_3])], true⟩
noncomputable def i_ChoiceName (k : Nat) (x : Int) : Option (ByteArray) := aFn E i_ChoiceName_fi k x
noncomputable def i_StepOk (k : Nat) (x : Int × Int × (Int × Int) × Int) : Option (Bool) := aFn E i_StepOk_fi k x
noncomputable def i_FormatStep (k : Nat) (x : Int × (Int × Int) × Int) : Option (ByteArray) := aFn E i_FormatStep_fi k x
noncomputable def i_ParseStep (k : Nat) (x : ByteArray) : Option (Int × Int × Int × Int × Bool) := aFn E i_ParseStep_fi k x
noncomputable def i_ParseStep_l5 (k : Nat) (v0 : ByteArray) (v6 : Int) (o200002_0 : Int) (o200002_1 : Int) (o200002_2 : Int) (o200002_3 : Int) : Option (Int × Int × Int × Int × Bool) := aRun E k i_ParseStep_fi.rs (ioOf i_ParseStep_fi.ps) i_ParseStep_fi.res i_ParseStep_fi.hints [.code (sub i_ParseStep_c [1, 1, 0, 1, 0, 0, 0, 0]), .code (sub i_ParseStep_c [1, 1, 0, 1, 0, 0, 0, 1]), .code (sub i_ParseStep_c [1, 1, 0, 1, 0, 0, 1]), .inLoop (sub i_ParseStep_c [1, 1, 0, 1, 0, 0]), .inBlock 0, .code (sub i_ParseStep_c [1, 1, 1])] ⟨[.cv (.val (.str) v0), .cv .dead, .adr 200002 0, .cv .dead, .cv .dead, .cv .dead, .cv (.val (.int .i64) v6), .cv .dead, .cv .dead, .cv .dead, .cv .dead, .cv .dead, .cv .dead, .cv .dead, .cv .dead, .cv .dead, .cv .dead, .cv .dead, .cv .dead, .cv .dead, .cv .dead, .cv .dead, .cv .dead, .cv .dead, .cv .dead, .cv .dead, .cv .dead, .cv .dead, .cv .dead, .cv .dead, .cv .dead, .cv .dead, .cv .dead, .cv .dead, .cv .dead, .cv .dead, .cv .dead, .cv .dead, .cv .dead], [(200002, .box [.val (.int .i64) o200002_0, .val (.int .i64) o200002_1, .val (.int .i64) o200002_2, .val (.int .i64) o200002_3])], true⟩
noncomputable def i_ParseStep_l10 (k : Nat) (v0 : ByteArray) (v7 : Int) (o200002_0 : Int) (o200002_1 : Int) (o200002_2 : Int) (o200002_3 : Int) : Option (Int × Int × Int × Int × Bool) := aRun E k i_ParseStep_fi.rs (ioOf i_ParseStep_fi.ps) i_ParseStep_fi.res i_ParseStep_fi.hints [.code (sub i_ParseStep_c [1, 1, 1, 0, 1, 0, 0, 0, 0]), .code (sub i_ParseStep_c [1, 1, 1, 0, 1, 0, 0, 0, 1]), .code (sub i_ParseStep_c [1, 1, 1, 0, 1, 0, 0, 1]), .inLoop (sub i_ParseStep_c [1, 1, 1, 0, 1, 0, 0]), .inBlock 2, .code (sub i_ParseStep_c [1, 1, 1, 1])] ⟨[.cv (.val (.str) v0), .cv .dead, .adr 200002 0, .cv .dead, .cv .dead, .cv .dead, .cv .dead, .cv (.val (.int .i64) v7), .cv .dead, .cv .dead, .cv .dead, .cv .dead, .cv .dead, .cv .dead, .cv .dead, .cv .dead, .cv .dead, .cv .dead, .cv .dead, .cv .dead, .cv .dead, .cv .dead, .cv .dead, .cv .dead, .cv .dead, .cv .dead, .cv .dead, .cv .dead, .cv .dead, .cv .dead, .cv .dead, .cv .dead, .cv .dead, .cv .dead, .cv .dead, .cv .dead, .cv .dead, .cv .dead, .cv .dead], [(200002, .box [.val (.int .i64) o200002_0, .val (.int .i64) o200002_1, .val (.int .i64) o200002_2, .val (.int .i64) o200002_3])], true⟩
noncomputable def w_eqStep (k : Nat) (x : (Int × (Int × Int) × Int) × Int × (Int × Int) × Int) : Option (Bool) := aFn E w_eqStep_fi k x
noncomputable def w_FnExactParseStep (k : Nat) (x : ByteArray) : Option (Bool) := aFn E w_FnExactParseStep_fi k x

theorem s_SplitAny_eq (k : Nat) (x0 : ByteArray) (x1 : ByteArray) : s_SplitAny (k + 1) (x0, x1) =
  s_SplitAny_l4 k x0 x1 (0 : Int) (0 : Int) ([] : List ByteArray) := by kernel_rfl
theorem s_SplitAny_l4_eq (k : Nat) (v0 : ByteArray) (v1 : ByteArray) (v6 : Int) (v7 : Int) (o100005 : List ByteArray) : s_SplitAny_l4 (k + 1) v0 v1 v6 v7 o100005 =
  bif decide (v7 < (v0.size : Int)) then
    (s_SplitAny_l7 k v0 v1 v6 v7 (0 : Int) o100005)
  else (bif decide (0 ≤ v6) then
      (bif decide (v6 ≤ (v0.size : Int)) then
        (bif decide ((v0.size : Int) ≤ (v0.size : Int)) then
          (bif decide (o100005.length + [(v0.extract v6.toNat ((v0.size : Int)).toNat)].length ≤ rowMax) then
            (some (o100005 ++ [(v0.extract v6.toNat ((v0.size : Int)).toNat)]))
          else (none))
        else (none))
      else (none))
    else (none)) := by kernel_rfl
theorem s_SplitAny_l7_eq (k : Nat) (v0 : ByteArray) (v1 : ByteArray) (v6 : Int) (v7 : Int) (v8 : Int) (o100005 : List ByteArray) : s_SplitAny_l7 (k + 1) v0 v1 v6 v7 v8 o100005 =
  bif decide (v8 < (v1.size : Int)) then
    (bif decide (0 ≤ v7) then
      (bif decide (v7 < (v0.size : Int)) then
        (bif decide (0 ≤ v8) then
          (bif decide (v8 < (v1.size : Int)) then
            (bif (((v0.data.toList.getD v7.toNat 0).toNat : Int) == ((v1.data.toList.getD v8.toNat 0).toNat : Int)) then
              (bif decide (0 ≤ v6) then
                (bif decide (v6 ≤ v7) then
                  (bif decide (v7 ≤ (v0.size : Int)) then
                    (bif decide (o100005.length + [(v0.extract v6.toNat v7.toNat)].length ≤ rowMax) then
                      (s_SplitAny_l4 k v0 v1 (IntKind.i64.wrap (v7 + (1 : Int))) (IntKind.i64.wrap (v7 + (1 : Int))) (o100005 ++ [(v0.extract v6.toNat v7.toNat)]))
                    else (none))
                  else (none))
                else (none))
              else (none))
            else (s_SplitAny_l7 k v0 v1 v6 v7 (IntKind.i64.wrap (v8 + (1 : Int))) o100005))
          else (none))
        else (none))
      else (none))
    else (none))
  else (s_SplitAny_l4 k v0 v1 v6 (IntKind.i64.wrap (v7 + (1 : Int))) o100005) := by kernel_rfl
theorem s_IsDigits_eq (k : Nat) (x0 : ByteArray) : s_IsDigits (k + 1) x0 =
  s_IsDigits_l2 k x0 (0 : Int) := by kernel_rfl
theorem s_IsDigits_l2_eq (k : Nat) (v0 : ByteArray) (v3 : Int) : s_IsDigits_l2 (k + 1) v0 v3 =
  bif decide (v3 < (v0.size : Int)) then
    (bif decide (0 ≤ v3) then
      (bif decide (v3 < (v0.size : Int)) then
        (bif decide (((v0.data.toList.getD v3.toNat 0).toNat : Int) < (48 : Int)) then
          (some false)
        else (bif decide (0 ≤ v3) then
            (bif decide (v3 < (v0.size : Int)) then
              (bif decide (((v0.data.toList.getD v3.toNat 0).toNat : Int) > (57 : Int)) then
                (some false)
              else (s_IsDigits_l2 k v0 (IntKind.i64.wrap (v3 + (1 : Int)))))
            else (none))
          else (none)))
      else (none))
    else (none))
  else (some (decide ((v0.size : Int) > (0 : Int)))) := by kernel_rfl
theorem s_FormatInt_eq (k : Nat) (x0 : Int) : s_FormatInt (k + 1) x0 =
  bif decide (x0 < (0 : Int)) then
    (bif ((IntKind.i64.wrap (x0.tdiv (10 : Int))) == (0 : Int)) then
      (bif decide ((⟨#[45]⟩ : ByteArray).size + (bytesStr [(IntKind.u8.wrap (IntKind.i64.wrap ((48 : Int) - x0)))]).size ≤ 9223372036854775807) then
        (some ((⟨#[45]⟩ : ByteArray) ++ (bytesStr [(IntKind.u8.wrap (IntKind.i64.wrap ((48 : Int) - x0)))])))
      else (none))
    else ((s_FormatInt k (IntKind.i64.wrap (x0.tdiv (10 : Int)))).bind fun y1 =>
      bif decide (y1.size + (bytesStr [(IntKind.u8.wrap (IntKind.i64.wrap ((48 : Int) - (x0.tmod (10 : Int)))))]).size ≤ 9223372036854775807) then
        (some (y1 ++ (bytesStr [(IntKind.u8.wrap (IntKind.i64.wrap ((48 : Int) - (x0.tmod (10 : Int)))))])))
      else (none)))
  else (s_FormatInt_l6 k x0 (⟨#[]⟩ : ByteArray)) := by kernel_rfl
theorem s_FormatInt_l6_eq (k : Nat) (v0 : Int) (v3 : ByteArray) : s_FormatInt_l6 (k + 1) v0 v3 =
  bif decide (v0 > (9 : Int)) then
    (bif decide ((bytesStr [(IntKind.u8.wrap (IntKind.i64.wrap ((48 : Int) + (v0.tmod (10 : Int)))))]).size + v3.size ≤ 9223372036854775807) then
      (s_FormatInt_l6 k (IntKind.i64.wrap (v0.tdiv (10 : Int))) ((bytesStr [(IntKind.u8.wrap (IntKind.i64.wrap ((48 : Int) + (v0.tmod (10 : Int)))))]) ++ v3))
    else (none))
  else (bif decide ((bytesStr [(IntKind.u8.wrap (IntKind.i64.wrap ((48 : Int) + v0)))]).size + v3.size ≤ 9223372036854775807) then
      (some ((bytesStr [(IntKind.u8.wrap (IntKind.i64.wrap ((48 : Int) + v0)))]) ++ v3))
    else (none)) := by kernel_rfl
theorem s_ParseInt_eq (k : Nat) (x0 : ByteArray) : s_ParseInt (k + 1) x0 =
  bif decide ((x0.size : Int) > (0 : Int)) then
    (bif decide ((0 : Int) < (x0.size : Int)) then
      (bif (((x0.data.toList.getD 0 0).toNat : Int) == (45 : Int)) then
        (bif decide ((1 : Int) ≤ (x0.size : Int)) then
          (bif decide ((x0.size : Int) ≤ (x0.size : Int)) then
            ((s_IsDigits k (x0.extract 1 ((x0.size : Int)).toNat)).bind fun y1 =>
            bif (!y1) then
              (some ((0 : Int), false))
            else (bif decide (((x0.extract 1 ((x0.size : Int)).toNat).size : Int) > (19 : Int)) then
                (some ((0 : Int), false))
              else (s_ParseInt_l9 k x0 (((x0.data.toList.getD 0 0).toNat : Int) == (45 : Int)) (x0.extract 1 ((x0.size : Int)).toNat) (0 : Int) (0 : Int))))
          else (none))
        else (none))
      else ((s_IsDigits k x0).bind fun y2 =>
        bif (!y2) then
          (some ((0 : Int), false))
        else (bif decide ((x0.size : Int) > (19 : Int)) then
            (some ((0 : Int), false))
          else (s_ParseInt_l9 k x0 (((x0.data.toList.getD 0 0).toNat : Int) == (45 : Int)) x0 (0 : Int) (0 : Int)))))
    else (none))
  else ((s_IsDigits k x0).bind fun y3 =>
    bif (!y3) then
      (some ((0 : Int), false))
    else (bif decide ((x0.size : Int) > (19 : Int)) then
        (some ((0 : Int), false))
      else (s_ParseInt_l9 k x0 false x0 (0 : Int) (0 : Int)))) := by kernel_rfl
theorem s_ParseInt_l9_eq (k : Nat) (v0 : ByteArray) (v4 : Bool) (v5 : ByteArray) (v6 : Int) (v7 : Int) : s_ParseInt_l9 (k + 1) v0 v4 v5 v6 v7 =
  bif decide (v7 < (v5.size : Int)) then
    (bif decide (0 ≤ v7) then
      (bif decide (v7 < (v5.size : Int)) then
        (bif decide (v6 < (IntKind.i64.wrap ((IntKind.i64.wrap ((-9223372036854775808 : Int) + (IntKind.i64.wrap ((IntKind.i64.wrap ((v5.data.toList.getD v7.toNat 0).toNat : Int)) - (48 : Int))))).tdiv (10 : Int)))) then
          (some ((0 : Int), false))
        else (s_ParseInt_l9 k v0 v4 v5 (IntKind.i64.wrap ((IntKind.i64.wrap (v6 * (10 : Int))) - (IntKind.i64.wrap ((IntKind.i64.wrap ((v5.data.toList.getD v7.toNat 0).toNat : Int)) - (48 : Int))))) (IntKind.i64.wrap (v7 + (1 : Int)))))
      else (none))
    else (none))
  else (bif (!v4) then
      (bif (v6 == (-9223372036854775808 : Int)) then
        (some ((0 : Int), false))
      else ((s_FormatInt k (IntKind.i64.wrap (0 - v6))).bind fun y1 =>
        bif (!(y1.toList == v0.toList)) then
          (some ((0 : Int), false))
        else (some ((IntKind.i64.wrap (0 - v6)), true))))
    else ((s_FormatInt k v6).bind fun y2 =>
      bif (!(y2.toList == v0.toList)) then
        (some ((0 : Int), false))
      else (some (v6, true)))) := by kernel_rfl
theorem s_l04Names_eq (k : Nat) : s_l04Names (k + 1) () =
  some ([(⟨#[]⟩ : ByteArray), (⟨#[99, 117, 116]⟩ : ByteArray), (⟨#[100, 101, 97, 108]⟩ : ByteArray), (⟨#[102, 108, 105, 112]⟩ : ByteArray), (⟨#[102, 97, 114, 111]⟩ : ByteArray), (⟨#[109, 111, 110, 103, 101]⟩ : ByteArray), (⟨#[109, 105, 108, 107]⟩ : ByteArray), (⟨#[100, 117, 99, 107]⟩ : ByteArray), (⟨#[116, 117, 114, 110]⟩ : ByteArray), (⟨#[117, 110, 100, 101, 114]⟩ : ByteArray)]) := by kernel_rfl
theorem s_MoveNamed_eq (k : Nat) (x0 : ByteArray) : s_MoveNamed (k + 1) x0 =
  (s_l04Names k ()).bind fun y1 =>
  s_MoveNamed_l2 k x0 (y1.length : Int) (0 : Int) y1 := by kernel_rfl
theorem s_MoveNamed_l2_eq (k : Nat) (v0 : ByteArray) (v6 : Int) (v7 : Int) (o100005 : List ByteArray) : s_MoveNamed_l2 (k + 1) v0 v6 v7 o100005 =
  bif decide (v7 < v6) then
    (bif decide (0 ≤ v7) then
      (bif decide (v7 < (o100005.length : Int)) then
        (bif decide (v7.toNat < o100005.length) then
          (bif ((o100005.getD v7.toNat (⟨#[]⟩ : ByteArray)).toList == v0.toList) then
            (some v7)
          else (s_MoveNamed_l2 k v0 v6 (IntKind.i64.wrap (v7 + (1 : Int))) o100005))
        else (none))
      else (none))
    else (none))
  else (some (0 : Int)) := by kernel_rfl
theorem s_l01In_eq (k : Nat) (x0 : Int) (x1 : Int) (x2 : Int) : s_l01In (k + 1) (x0, x1, x2) =
  bif decide (x0 ≥ x1) then
    (some (decide (x0 ≤ x2)))
  else (some false) := by kernel_rfl
theorem s_MoveOk_eq (k : Nat) (x0 : Int) (x1 : Int × Int) : s_MoveOk (k + 1) (x0, x1) =
  (s_l01In k (x0, ((1 : Int), (12 : Int)))).bind fun y1 =>
  bif (!y1) then
    (some false)
  else (bif (x1.1 == (1 : Int)) then
      ((s_l01In k (x1.2, ((0 : Int), x0))).bind fun y2 =>
      some y2)
    else (bif (x1.1 == (2 : Int)) then
        ((s_l01In k (x1.2, ((0 : Int), x0))).bind fun y3 =>
        some y3)
      else (bif (x1.1 == (3 : Int)) then
          ((s_l01In k (x1.2, ((0 : Int), x0))).bind fun y4 =>
          some y4)
        else (bif (x1.1 == (4 : Int)) then
            ((s_l01In k (x1.2, ((0 : Int), (1 : Int)))).bind fun y5 =>
            some y5)
          else (bif (x1.1 == (5 : Int)) then
              ((s_l01In k (x1.2, ((0 : Int), (1 : Int)))).bind fun y6 =>
              some y6)
            else (bif (x1.1 == (7 : Int)) then
                ((s_l01In k (x1.2, ((0 : Int), (1 : Int)))).bind fun y7 =>
                some y7)
              else (bif (x1.1 == (6 : Int)) then
                  (some (x1.2 == (0 : Int)))
                else (bif (x1.1 == (8 : Int)) then
                    ((s_l01In k (x1.2, ((0 : Int), (IntKind.i64.wrap (x0 - (1 : Int)))))).bind fun y8 =>
                    some y8)
                  else (bif (x1.1 == (9 : Int)) then
                      ((s_l01In k (x1.2, ((0 : Int), (IntKind.i64.wrap (x0 - (1 : Int)))))).bind fun y9 =>
                      some y9)
                    else (some false)))))))))) := by kernel_rfl
theorem s_MoveName_eq (k : Nat) (x0 : Int) : s_MoveName (k + 1) x0 =
  (s_l01In k (x0, ((1 : Int), (9 : Int)))).bind fun y1 =>
  bif (!y1) then
    (some (⟨#[]⟩ : ByteArray))
  else ((s_l04Names k ()).bind fun y2 =>
    bif decide (0 ≤ x0) then
      (bif decide (x0 < (y2.length : Int)) then
        (bif decide (x0.toNat < y2.length) then
          (some (y2.getD x0.toNat (⟨#[]⟩ : ByteArray)))
        else (none))
      else (none))
    else (none)) := by kernel_rfl
theorem s_FormatMove_eq (k : Nat) (x0 : Int × Int) : s_FormatMove (k + 1) x0 =
  (s_MoveOk k ((12 : Int), x0)).bind fun y1 =>
  bif (!y1) then
    (some (⟨#[]⟩ : ByteArray))
  else ((s_MoveName k x0.1).bind fun y2 =>
    bif decide (y2.size + (⟨#[32]⟩ : ByteArray).size ≤ 9223372036854775807) then
      ((s_FormatInt k x0.2).bind fun y3 =>
      bif decide ((y2 ++ (⟨#[32]⟩ : ByteArray)).size + y3.size ≤ 9223372036854775807) then
        (some ((y2 ++ (⟨#[32]⟩ : ByteArray)) ++ y3))
      else (none))
    else (none)) := by kernel_rfl
theorem s_ParseMove_eq (k : Nat) (x0 : ByteArray) : s_ParseMove (k + 1) x0 =
  (s_SplitAny k (x0, (⟨#[32]⟩ : ByteArray))).bind fun y1 =>
  bif (!((y1.length : Int) == (2 : Int))) then
    (some ((0 : Int), ((0 : Int), false)))
  else (bif decide ((1 : Int) < (y1.length : Int)) then
      (bif decide (1 < y1.length) then
        ((s_ParseInt k (y1.getD 1 (⟨#[]⟩ : ByteArray))).bind fun y2 =>
        bif decide ((0 : Int) < (y1.length : Int)) then
          (bif decide (0 < y1.length) then
            ((s_MoveNamed k (y1.getD 0 (⟨#[]⟩ : ByteArray))).bind fun y3 =>
            bif (!y2.2) then
              (some ((0 : Int), ((0 : Int), false)))
            else ((s_FormatMove k (y3, y2.1)).bind fun y4 =>
              bif (!(y4.toList == x0.toList)) then
                (some ((0 : Int), ((0 : Int), false)))
              else (some (y3, (y2.1, true)))))
          else (none))
        else (none))
      else (none))
    else (none)) := by kernel_rfl
theorem strings_IndexByte_eq (k : Nat) (x0 : ByteArray) (x1 : Int) : strings_IndexByte k (x0, x1) = (fun a b => indexByteF a b) x0 x1 := by kernel_rfl
theorem i_SplitAny_eq (k : Nat) (x0 : ByteArray) (x1 : ByteArray) : i_SplitAny (k + 1) (x0, x1) =
  i_SplitAny_l4 k x0 x1 (0 : Int) (0 : Int) [] := by kernel_rfl
theorem i_SplitAny_l4_eq (k : Nat) (v0 : ByteArray) (v1 : ByteArray) (v6 : Int) (v7 : Int) (o100005 : List ByteArray) : i_SplitAny_l4 (k + 1) v0 v1 v6 v7 o100005 =
  bif decide (v7 < (v0.size : Int)) then
    (bif decide (0 ≤ v7) then
      (bif decide (v7 < (v0.size : Int)) then
        ((strings_IndexByte k (v1, ((v0.data.toList.getD v7.toNat 0).toNat : Int))).bind fun y1 =>
        bif decide (y1 ≥ (0 : Int)) then
          (bif decide (0 ≤ v6) then
            (bif decide (v6 ≤ v7) then
              (bif decide (v7 ≤ (v0.size : Int)) then
                (bif decide (o100005.length + [(v0.extract v6.toNat v7.toNat)].length ≤ rowMax) then
                  (i_SplitAny_l4 k v0 v1 (IntKind.i64.wrap (v7 + (1 : Int))) (IntKind.i64.wrap (v7 + (1 : Int))) (o100005 ++ [(v0.extract v6.toNat v7.toNat)]))
                else (none))
              else (none))
            else (none))
          else (none))
        else (i_SplitAny_l4 k v0 v1 v6 (IntKind.i64.wrap (v7 + (1 : Int))) o100005))
      else (none))
    else (none))
  else (bif decide (0 ≤ v6) then
      (bif decide (v6 ≤ (v0.size : Int)) then
        (bif decide ((v0.size : Int) ≤ (v0.size : Int)) then
          (bif decide (o100005.length + [(v0.extract v6.toNat ((v0.size : Int)).toNat)].length ≤ rowMax) then
            (some (o100005 ++ [(v0.extract v6.toNat ((v0.size : Int)).toNat)]))
          else (none))
        else (none))
      else (none))
    else (none)) := by kernel_rfl
theorem strconv_Atoi_eq (k : Nat) (x0 : ByteArray) : strconv_Atoi k x0 = atoiF x0 := by kernel_rfl
theorem strconv_Itoa_eq (k : Nat) (x0 : Int) : strconv_Itoa k x0 = itoaF x0 := by kernel_rfl
theorem i_FormatInt_eq (k : Nat) (x0 : Int) : i_FormatInt (k + 1) x0 =
  (strconv_Itoa k x0).bind fun y1 =>
  some y1 := by kernel_rfl
theorem i_ParseInt_eq (k : Nat) (x0 : ByteArray) : i_ParseInt (k + 1) x0 =
  (strconv_Atoi k x0).bind fun y1 =>
  bif (!y1.2) then
    (some ((0 : Int), false))
  else ((i_FormatInt k y1.1).bind fun y2 =>
    bif (!(y2.toList == x0.toList)) then
      (some ((0 : Int), false))
    else (some (y1.1, true))) := by kernel_rfl
theorem i_moveNames_eq (k : Nat) : i_moveNames (k + 1) () =
  some ([(⟨#[99, 117, 116]⟩ : ByteArray), (⟨#[100, 101, 97, 108]⟩ : ByteArray), (⟨#[102, 108, 105, 112]⟩ : ByteArray), (⟨#[102, 97, 114, 111]⟩ : ByteArray), (⟨#[109, 111, 110, 103, 101]⟩ : ByteArray), (⟨#[109, 105, 108, 107]⟩ : ByteArray), (⟨#[100, 117, 99, 107]⟩ : ByteArray), (⟨#[116, 117, 114, 110]⟩ : ByteArray), (⟨#[117, 110, 100, 101, 114]⟩ : ByteArray)]) := by kernel_rfl
theorem slices_Index_string_eq (k : Nat) (x0 : List ByteArray) (x1 : ByteArray) : slices_Index_string (k + 1) (x0, x1) =
  slices_Index_string_l2 k x0 x1 (x0.length : Int) (0 : Int) := by kernel_rfl
theorem slices_Index_string_l2_eq (k : Nat) (v0 : List ByteArray) (v1 : ByteArray) (v7 : Int) (v8 : Int) : slices_Index_string_l2 (k + 1) v0 v1 v7 v8 =
  bif decide (v8 < v7) then
    (bif decide (0 ≤ v8) then
      (bif decide (v8 < (v0.length : Int)) then
        (bif (v1.toList == (v0.getD v8.toNat (⟨#[]⟩ : ByteArray)).toList) then
          (some v8)
        else (slices_Index_string_l2 k v0 v1 v7 (IntKind.i64.wrap (v8 + (1 : Int)))))
      else (none))
    else (none))
  else (some (-1 : Int)) := by kernel_rfl
theorem i_MoveNamed_eq (k : Nat) (x0 : ByteArray) : i_MoveNamed (k + 1) x0 =
  (i_moveNames k ()).bind fun y1 =>
  (slices_Index_string k (y1, x0)).bind fun y2 =>
  some (IntKind.i64.wrap (y2 + (1 : Int))) := by kernel_rfl
theorem i_MoveOk_eq (k : Nat) (x0 : Int) (x1 : Int × Int) : i_MoveOk (k + 1) (x0, x1) =
  bif decide (x0 < (1 : Int)) then
    (some false)
  else (bif decide (x0 > (12 : Int)) then
      (some false)
    else (bif decide (x1.2 < (0 : Int)) then
        (some false)
      else (bif (x1.1 == (1 : Int)) then
          (some (decide (x1.2 ≤ x0)))
        else (bif (x1.1 == (2 : Int)) then
            (some (decide (x1.2 ≤ x0)))
          else (bif (x1.1 == (3 : Int)) then
              (some (decide (x1.2 ≤ x0)))
            else (bif (x1.1 == (4 : Int)) then
                (some (decide (x1.2 ≤ (1 : Int))))
              else (bif (x1.1 == (5 : Int)) then
                  (some (decide (x1.2 ≤ (1 : Int))))
                else (bif (x1.1 == (7 : Int)) then
                    (some (decide (x1.2 ≤ (1 : Int))))
                  else (bif (x1.1 == (6 : Int)) then
                      (some (x1.2 == (0 : Int)))
                    else (bif (x1.1 == (8 : Int)) then
                        (some (decide (x1.2 < x0)))
                      else (bif (x1.1 == (9 : Int)) then
                          (some (decide (x1.2 < x0)))
                        else (some false)))))))))))) := by kernel_rfl
theorem i_MoveName_eq (k : Nat) (x0 : Int) : i_MoveName (k + 1) x0 =
  bif decide (x0 < (1 : Int)) then
    (some (⟨#[]⟩ : ByteArray))
  else (bif decide (x0 > (9 : Int)) then
      (some (⟨#[]⟩ : ByteArray))
    else ((i_moveNames k ()).bind fun y1 =>
      bif decide (0 ≤ (IntKind.i64.wrap (x0 - (1 : Int)))) then
        (bif decide ((IntKind.i64.wrap (x0 - (1 : Int))) < (y1.length : Int)) then
          (bif decide ((IntKind.i64.wrap (x0 - (1 : Int))).toNat < y1.length) then
            (some (y1.getD (IntKind.i64.wrap (x0 - (1 : Int))).toNat (⟨#[]⟩ : ByteArray)))
          else (none))
        else (none))
      else (none))) := by kernel_rfl
theorem i_FormatMove_eq (k : Nat) (x0 : Int × Int) : i_FormatMove (k + 1) x0 =
  (i_MoveOk k ((12 : Int), x0)).bind fun y1 =>
  bif (!y1) then
    (some (⟨#[]⟩ : ByteArray))
  else ((i_MoveName k x0.1).bind fun y2 =>
    bif decide (y2.size + (⟨#[32]⟩ : ByteArray).size ≤ 9223372036854775807) then
      ((i_FormatInt k x0.2).bind fun y3 =>
      bif decide ((y2 ++ (⟨#[32]⟩ : ByteArray)).size + y3.size ≤ 9223372036854775807) then
        (some ((y2 ++ (⟨#[32]⟩ : ByteArray)) ++ y3))
      else (none))
    else (none)) := by kernel_rfl
theorem i_ParseMove_eq (k : Nat) (x0 : ByteArray) : i_ParseMove (k + 1) x0 =
  (i_SplitAny k (x0, (⟨#[32]⟩ : ByteArray))).bind fun y1 =>
  bif (!((y1.length : Int) == (2 : Int))) then
    (some ((0 : Int), ((0 : Int), false)))
  else (bif decide ((1 : Int) < (y1.length : Int)) then
      (bif decide (1 < y1.length) then
        ((i_ParseInt k (y1.getD 1 (⟨#[]⟩ : ByteArray))).bind fun y2 =>
        bif decide ((0 : Int) < (y1.length : Int)) then
          (bif decide (0 < y1.length) then
            ((i_MoveNamed k (y1.getD 0 (⟨#[]⟩ : ByteArray))).bind fun y3 =>
            bif (x0.toList == (⟨#[]⟩ : ByteArray).toList) then
              (some ((0 : Int), ((0 : Int), false)))
            else ((i_FormatMove k (y3, y2.1)).bind fun y4 =>
              bif (!(y4.toList == x0.toList)) then
                (some ((0 : Int), ((0 : Int), false)))
              else (some (y3, (y2.1, true)))))
          else (none))
        else (none))
      else (none))
    else (none)) := by kernel_rfl
theorem w_eqMove_eq (k : Nat) (x0 : Int × Int) (x1 : Int × Int) : w_eqMove (k + 1) (x0, x1) =
  bif (!(x0.1 == x1.1)) then
    (some false)
  else (bif (!(x0.2 == x1.2)) then
      (some false)
    else (some true)) := by kernel_rfl
theorem w_FnExactParseMove_eq (k : Nat) (x0 : ByteArray) : w_FnExactParseMove (k + 1) x0 =
  bif decide ((x0.size : Int) > (1048576 : Int)) then
    (some true)
  else ((s_ParseMove k x0).bind fun y1 =>
    (i_ParseMove k x0).bind fun y2 =>
    (w_eqMove k ((y2.1, y2.2.1), (y1.1, y1.2.1))).bind fun y3 =>
    bif (!y3) then
      (some false)
    else (bif (!(y2.2.2 == y1.2.2)) then
        (some false)
      else (some true))) := by kernel_rfl
theorem s_CardOf_eq (k : Nat) (x0 : Int) : s_CardOf (k + 1) x0 =
  (s_l01In k (x0, ((0 : Int), (11 : Int)))).bind fun y1 =>
  bif y1 then
    (some x0)
  else ((s_l01In k (x0, ((-12 : Int), (-1 : Int)))).bind fun y2 =>
    bif y2 then
      (some (IntKind.i64.wrap ((-1 : Int) - x0)))
    else (some (-1 : Int))) := by kernel_rfl
theorem s_l02Has_eq (k : Nat) (x0 : List Int) (x1 : Int) : s_l02Has (k + 1) (x0, x1) =
  s_l02Has_l2 k x1 x0 (x0.length : Int) (0 : Int) := by kernel_rfl
theorem s_l02Has_l2_eq (k : Nat) (v1 : Int) (v7 : List Int) (v8 : Int) (v9 : Int) : s_l02Has_l2 (k + 1) v1 v7 v8 v9 =
  bif decide (v9 < v8) then
    (bif decide (0 ≤ v9) then
      (bif decide (v9 < (v7.length : Int)) then
        (bif ((v7.getD v9.toNat (0 : Int)) == v1) then
          (some true)
        else (s_l02Has_l2 k v1 v7 v8 (IntKind.i64.wrap (v9 + (1 : Int)))))
      else (none))
    else (none))
  else (some false) := by kernel_rfl
theorem s_PacketOk_eq (k : Nat) (x0 : List Int) : s_PacketOk (k + 1) x0 =
  bif decide ((x0.length : Int) > (12 : Int)) then
    (some false)
  else (s_PacketOk_l5 k x0 (x0.length : Int) (0 : Int) ([] : List Int)) := by kernel_rfl
theorem s_PacketOk_l5_eq (k : Nat) (v11 : List Int) (v12 : Int) (v13 : Int) (o100003 : List Int) : s_PacketOk_l5 (k + 1) v11 v12 v13 o100003 =
  bif decide (v13 < v12) then
    (bif decide (0 ≤ v13) then
      (bif decide (v13 < (v11.length : Int)) then
        ((s_CardOf k (v11.getD v13.toNat (0 : Int))).bind fun y1 =>
        bif decide (y1 < (0 : Int)) then
          (some false)
        else ((s_l02Has k (o100003, y1)).bind fun y2 =>
          bif y2 then
            (some false)
          else (bif decide (o100003.length + [y1].length ≤ rowMax) then
              (s_PacketOk_l5 k v11 v12 (IntKind.i64.wrap (v13 + (1 : Int))) (o100003 ++ [y1]))
            else (none))))
      else (none))
    else (none))
  else (some true) := by kernel_rfl
theorem s_IsUp_eq (k : Nat) (x0 : Int) : s_IsUp (k + 1) x0 =
  (s_l01In k (x0, ((-12 : Int), (-1 : Int)))).bind fun y1 =>
  some y1 := by kernel_rfl
theorem s_Join_eq (k : Nat) (x0 : List ByteArray) (x1 : ByteArray) : s_Join (k + 1) (x0, x1) =
  s_Join_l3 k x1 (⟨#[]⟩ : ByteArray) x0 (x0.length : Int) (0 : Int) := by kernel_rfl
theorem s_Join_l3_eq (k : Nat) (v1 : ByteArray) (v5 : ByteArray) (v8 : List ByteArray) (v9 : Int) (v10 : Int) : s_Join_l3 (k + 1) v1 v5 v8 v9 v10 =
  bif decide (v10 < v9) then
    (bif decide (0 ≤ v10) then
      (bif decide (v10 < (v8.length : Int)) then
        (bif decide (v10 > (0 : Int)) then
          (bif decide (v5.size + v1.size ≤ 9223372036854775807) then
            (bif decide ((v5 ++ v1).size + (v8.getD v10.toNat (⟨#[]⟩ : ByteArray)).size ≤ 9223372036854775807) then
              (s_Join_l3 k v1 ((v5 ++ v1) ++ (v8.getD v10.toNat (⟨#[]⟩ : ByteArray))) v8 v9 (IntKind.i64.wrap (v10 + (1 : Int))))
            else (none))
          else (none))
        else (bif decide (v5.size + (v8.getD v10.toNat (⟨#[]⟩ : ByteArray)).size ≤ 9223372036854775807) then
            (s_Join_l3 k v1 (v5 ++ (v8.getD v10.toNat (⟨#[]⟩ : ByteArray))) v8 v9 (IntKind.i64.wrap (v10 + (1 : Int))))
          else (none)))
      else (none))
    else (none))
  else (some v5) := by kernel_rfl
theorem s_FormatPacket_eq (k : Nat) (x0 : List Int) : s_FormatPacket (k + 1) x0 =
  (s_PacketOk k x0).bind fun y1 =>
  bif (!y1) then
    (some (⟨#[]⟩ : ByteArray))
  else (s_FormatPacket_l5 k x0 (x0.length : Int) (0 : Int) ([] : List ByteArray)) := by kernel_rfl
theorem s_FormatPacket_l5_eq (k : Nat) (v11 : List Int) (v12 : Int) (v13 : Int) (o100003 : List ByteArray) : s_FormatPacket_l5 (k + 1) v11 v12 v13 o100003 =
  bif decide (v13 < v12) then
    (bif decide (0 ≤ v13) then
      (bif decide (v13 < (v11.length : Int)) then
        ((s_CardOf k (v11.getD v13.toNat (0 : Int))).bind fun y1 =>
        (s_FormatInt k y1).bind fun y2 =>
        (s_IsUp k (v11.getD v13.toNat (0 : Int))).bind fun y3 =>
        bif y3 then
          (bif decide (y2.size + (⟨#[94]⟩ : ByteArray).size ≤ 9223372036854775807) then
            (bif decide (o100003.length + ([(y2 ++ (⟨#[94]⟩ : ByteArray))]).length ≤ rowMax) then
              (s_FormatPacket_l5 k v11 v12 (IntKind.i64.wrap (v13 + (1 : Int))) (o100003 ++ ([(y2 ++ (⟨#[94]⟩ : ByteArray))])))
            else (none))
          else (none))
        else (bif decide (o100003.length + [y2].length ≤ rowMax) then
            (s_FormatPacket_l5 k v11 v12 (IntKind.i64.wrap (v13 + (1 : Int))) (o100003 ++ [y2]))
          else (none)))
      else (none))
    else (none))
  else (bif ((o100003.length : Int) == (0 : Int)) then
      (some (⟨#[101, 109, 112, 116, 121]⟩ : ByteArray))
    else ((s_Join k (o100003, (⟨#[32]⟩ : ByteArray))).bind fun y4 =>
      some y4)) := by kernel_rfl
theorem s_ParsePacket_eq (k : Nat) (x0 : ByteArray) : s_ParsePacket (k + 1) x0 =
  bif (x0.toList == (⟨#[101, 109, 112, 116, 121]⟩ : ByteArray).toList) then
    (some ([], true))
  else ((s_SplitAny k (x0, (⟨#[32]⟩ : ByteArray))).bind fun y1 =>
    s_ParsePacket_l5 k x0 (y1.length : Int) (0 : Int) ([] : List Int) y1) := by kernel_rfl
theorem s_ParsePacket_l5_eq (k : Nat) (v0 : ByteArray) (v15 : Int) (v16 : Int) (o100004 : List Int) (o100014 : List ByteArray) : s_ParsePacket_l5 (k + 1) v0 v15 v16 o100004 o100014 =
  bif decide (v16 < v15) then
    (bif decide (0 ≤ v16) then
      (bif decide (v16 < (o100014.length : Int)) then
        (bif decide (v16.toNat < o100014.length) then
          (bif decide (((o100014.getD v16.toNat (⟨#[]⟩ : ByteArray)).size : Int) > (0 : Int)) then
            (bif decide (0 ≤ (IntKind.i64.wrap (((o100014.getD v16.toNat (⟨#[]⟩ : ByteArray)).size : Int) - (1 : Int)))) then
              (bif decide ((IntKind.i64.wrap (((o100014.getD v16.toNat (⟨#[]⟩ : ByteArray)).size : Int) - (1 : Int))) < ((o100014.getD v16.toNat (⟨#[]⟩ : ByteArray)).size : Int)) then
                (bif ((((o100014.getD v16.toNat (⟨#[]⟩ : ByteArray)).data.toList.getD (IntKind.i64.wrap (((o100014.getD v16.toNat (⟨#[]⟩ : ByteArray)).size : Int) - (1 : Int))).toNat 0).toNat : Int) == (94 : Int)) then
                  (bif decide (0 ≤ (IntKind.i64.wrap (((o100014.getD v16.toNat (⟨#[]⟩ : ByteArray)).size : Int) - (1 : Int)))) then
                    (bif decide ((IntKind.i64.wrap (((o100014.getD v16.toNat (⟨#[]⟩ : ByteArray)).size : Int) - (1 : Int))) ≤ ((o100014.getD v16.toNat (⟨#[]⟩ : ByteArray)).size : Int)) then
                      ((s_ParseInt k ((o100014.getD v16.toNat (⟨#[]⟩ : ByteArray)).extract 0 (IntKind.i64.wrap (((o100014.getD v16.toNat (⟨#[]⟩ : ByteArray)).size : Int) - (1 : Int))).toNat)).bind fun y1 =>
                      bif (!y1.2) then
                        (some ([], false))
                      else ((s_l01In k (y1.1, ((0 : Int), (11 : Int)))).bind fun y2 =>
                        bif (!y2) then
                          (some ([], false))
                        else (bif ((((o100014.getD v16.toNat (⟨#[]⟩ : ByteArray)).data.toList.getD (IntKind.i64.wrap (((o100014.getD v16.toNat (⟨#[]⟩ : ByteArray)).size : Int) - (1 : Int))).toNat 0).toNat : Int) == (94 : Int)) then
                            (bif decide (o100004.length + [(IntKind.i64.wrap ((-1 : Int) - y1.1))].length ≤ rowMax) then
                              (s_ParsePacket_l5 k v0 v15 (IntKind.i64.wrap (v16 + (1 : Int))) (o100004 ++ [(IntKind.i64.wrap ((-1 : Int) - y1.1))]) o100014)
                            else (none))
                          else (bif decide (o100004.length + [y1.1].length ≤ rowMax) then
                              (s_ParsePacket_l5 k v0 v15 (IntKind.i64.wrap (v16 + (1 : Int))) (o100004 ++ [y1.1]) o100014)
                            else (none)))))
                    else (none))
                  else (none))
                else ((s_ParseInt k (o100014.getD v16.toNat (⟨#[]⟩ : ByteArray))).bind fun y3 =>
                  bif (!y3.2) then
                    (some ([], false))
                  else ((s_l01In k (y3.1, ((0 : Int), (11 : Int)))).bind fun y4 =>
                    bif (!y4) then
                      (some ([], false))
                    else (bif ((((o100014.getD v16.toNat (⟨#[]⟩ : ByteArray)).data.toList.getD (IntKind.i64.wrap (((o100014.getD v16.toNat (⟨#[]⟩ : ByteArray)).size : Int) - (1 : Int))).toNat 0).toNat : Int) == (94 : Int)) then
                        (bif decide (o100004.length + [(IntKind.i64.wrap ((-1 : Int) - y3.1))].length ≤ rowMax) then
                          (s_ParsePacket_l5 k v0 v15 (IntKind.i64.wrap (v16 + (1 : Int))) (o100004 ++ [(IntKind.i64.wrap ((-1 : Int) - y3.1))]) o100014)
                        else (none))
                      else (bif decide (o100004.length + [y3.1].length ≤ rowMax) then
                          (s_ParsePacket_l5 k v0 v15 (IntKind.i64.wrap (v16 + (1 : Int))) (o100004 ++ [y3.1]) o100014)
                        else (none))))))
              else (none))
            else (none))
          else ((s_ParseInt k (o100014.getD v16.toNat (⟨#[]⟩ : ByteArray))).bind fun y5 =>
            bif (!y5.2) then
              (some ([], false))
            else ((s_l01In k (y5.1, ((0 : Int), (11 : Int)))).bind fun y6 =>
              bif (!y6) then
                (some ([], false))
              else (bif decide (o100004.length + [y5.1].length ≤ rowMax) then
                  (s_ParsePacket_l5 k v0 v15 (IntKind.i64.wrap (v16 + (1 : Int))) (o100004 ++ [y5.1]) o100014)
                else (none)))))
        else (none))
      else (none))
    else (none))
  else ((s_FormatPacket k o100004).bind fun y7 =>
    bif (!(y7.toList == v0.toList)) then
      (some ([], false))
    else (some (o100004, true))) := by kernel_rfl
theorem i_CardOf_eq (k : Nat) (x0 : Int) : i_CardOf (k + 1) x0 =
  bif decide (x0 < (0 : Int)) then
    (bif decide ((IntKind.i64.wrap ((-1 : Int) - x0)) ≥ (12 : Int)) then
      (some (-1 : Int))
    else (some (IntKind.i64.wrap ((-1 : Int) - x0))))
  else (bif decide (x0 ≥ (12 : Int)) then
      (some (-1 : Int))
    else (some x0)) := by kernel_rfl
theorem i_PacketOk_eq (k : Nat) (x0 : List Int) : i_PacketOk (k + 1) x0 =
  i_PacketOk_l3 k x0 (x0.length : Int) (0 : Int) (List.replicate 12 false) := by kernel_rfl
theorem i_PacketOk_l3_eq (k : Nat) (v7 : List Int) (v8 : Int) (v9 : Int) (o400003 : List Bool) : i_PacketOk_l3 (k + 1) v7 v8 v9 o400003 =
  bif decide (v9 < v8) then
    (bif decide (0 ≤ v9) then
      (bif decide (v9 < (v7.length : Int)) then
        ((i_CardOf k (v7.getD v9.toNat (0 : Int))).bind fun y1 =>
        bif decide (y1 < (0 : Int)) then
          (some false)
        else (bif (Nat.beq o400003.length 12 && true) then
            (bif decide (0 ≤ y1) then
              (bif decide (y1 < (o400003.length : Int)) then
                (bif decide (y1.toNat < o400003.length) then
                  (bif (o400003.getD y1.toNat false) then
                    (some false)
                  else (bif (Nat.beq o400003.length 12 && true) then
                      (bif decide (0 ≤ y1) then
                        (bif decide (y1 < (o400003.length : Int)) then
                          (bif decide (y1.toNat < o400003.length) then
                            (i_PacketOk_l3 k v7 v8 (IntKind.i64.wrap (v9 + (1 : Int))) (o400003.set y1.toNat true))
                          else (none))
                        else (none))
                      else (none))
                    else (none)))
                else (none))
              else (none))
            else (none))
          else (none)))
      else (none))
    else (none))
  else (some true) := by kernel_rfl
theorem i_ParsePacket_eq (k : Nat) (x0 : ByteArray) : i_ParsePacket (k + 1) x0 =
  bif (x0.toList == (⟨#[101, 109, 112, 116, 121]⟩ : ByteArray).toList) then
    (some ([], true))
  else ((i_SplitAny k (x0, (⟨#[32]⟩ : ByteArray))).bind fun y1 =>
    i_ParsePacket_l5 k (y1.length : Int) (0 : Int) [] y1) := by kernel_rfl
theorem i_ParsePacket_l5_eq (k : Nat) (v14 : Int) (v15 : Int) (o100004 : List Int) (o100013 : List ByteArray) : i_ParsePacket_l5 (k + 1) v14 v15 o100004 o100013 =
  bif decide (v15 < v14) then
    (bif decide (0 ≤ v15) then
      (bif decide (v15 < (o100013.length : Int)) then
        (bif decide (v15.toNat < o100013.length) then
          (bif (!((o100013.getD v15.toNat (⟨#[]⟩ : ByteArray)).toList == (⟨#[]⟩ : ByteArray).toList)) then
            (bif decide (0 ≤ (IntKind.i64.wrap (((o100013.getD v15.toNat (⟨#[]⟩ : ByteArray)).size : Int) - (1 : Int)))) then
              (bif decide ((IntKind.i64.wrap (((o100013.getD v15.toNat (⟨#[]⟩ : ByteArray)).size : Int) - (1 : Int))) < ((o100013.getD v15.toNat (⟨#[]⟩ : ByteArray)).size : Int)) then
                (bif ((((o100013.getD v15.toNat (⟨#[]⟩ : ByteArray)).data.toList.getD (IntKind.i64.wrap (((o100013.getD v15.toNat (⟨#[]⟩ : ByteArray)).size : Int) - (1 : Int))).toNat 0).toNat : Int) == (94 : Int)) then
                  (bif decide (0 ≤ (IntKind.i64.wrap (((o100013.getD v15.toNat (⟨#[]⟩ : ByteArray)).size : Int) - (1 : Int)))) then
                    (bif decide ((IntKind.i64.wrap (((o100013.getD v15.toNat (⟨#[]⟩ : ByteArray)).size : Int) - (1 : Int))) ≤ ((o100013.getD v15.toNat (⟨#[]⟩ : ByteArray)).size : Int)) then
                      ((i_ParseInt k ((o100013.getD v15.toNat (⟨#[]⟩ : ByteArray)).extract 0 (IntKind.i64.wrap (((o100013.getD v15.toNat (⟨#[]⟩ : ByteArray)).size : Int) - (1 : Int))).toNat)).bind fun y1 =>
                      bif (!y1.2) then
                        (some ([], false))
                      else (bif decide (y1.1 < (0 : Int)) then
                          (some ([], false))
                        else (bif ((((o100013.getD v15.toNat (⟨#[]⟩ : ByteArray)).data.toList.getD (IntKind.i64.wrap (((o100013.getD v15.toNat (⟨#[]⟩ : ByteArray)).size : Int) - (1 : Int))).toNat 0).toNat : Int) == (94 : Int)) then
                            (bif decide (o100004.length + [(IntKind.i64.wrap ((-1 : Int) - y1.1))].length ≤ rowMax) then
                              (i_ParsePacket_l5 k v14 (IntKind.i64.wrap (v15 + (1 : Int))) (o100004 ++ [(IntKind.i64.wrap ((-1 : Int) - y1.1))]) o100013)
                            else (none))
                          else (bif decide (o100004.length + [y1.1].length ≤ rowMax) then
                              (i_ParsePacket_l5 k v14 (IntKind.i64.wrap (v15 + (1 : Int))) (o100004 ++ [y1.1]) o100013)
                            else (none)))))
                    else (none))
                  else (none))
                else ((i_ParseInt k (o100013.getD v15.toNat (⟨#[]⟩ : ByteArray))).bind fun y2 =>
                  bif (!y2.2) then
                    (some ([], false))
                  else (bif decide (y2.1 < (0 : Int)) then
                      (some ([], false))
                    else (bif ((((o100013.getD v15.toNat (⟨#[]⟩ : ByteArray)).data.toList.getD (IntKind.i64.wrap (((o100013.getD v15.toNat (⟨#[]⟩ : ByteArray)).size : Int) - (1 : Int))).toNat 0).toNat : Int) == (94 : Int)) then
                        (bif decide (o100004.length + [(IntKind.i64.wrap ((-1 : Int) - y2.1))].length ≤ rowMax) then
                          (i_ParsePacket_l5 k v14 (IntKind.i64.wrap (v15 + (1 : Int))) (o100004 ++ [(IntKind.i64.wrap ((-1 : Int) - y2.1))]) o100013)
                        else (none))
                      else (bif decide (o100004.length + [y2.1].length ≤ rowMax) then
                          (i_ParsePacket_l5 k v14 (IntKind.i64.wrap (v15 + (1 : Int))) (o100004 ++ [y2.1]) o100013)
                        else (none))))))
              else (none))
            else (none))
          else ((i_ParseInt k (o100013.getD v15.toNat (⟨#[]⟩ : ByteArray))).bind fun y3 =>
            bif (!y3.2) then
              (some ([], false))
            else (bif decide (y3.1 < (0 : Int)) then
                (some ([], false))
              else (bif decide (o100004.length + [y3.1].length ≤ rowMax) then
                  (i_ParsePacket_l5 k v14 (IntKind.i64.wrap (v15 + (1 : Int))) (o100004 ++ [y3.1]) o100013)
                else (none)))))
        else (none))
      else (none))
    else (none))
  else ((i_PacketOk k o100004).bind fun y4 =>
    bif (!y4) then
      (some ([], false))
    else (some (o100004, true))) := by kernel_rfl
theorem w_eqIntS_eq (k : Nat) (x0 : List Int) (x1 : List Int) : w_eqIntS (k + 1) (x0, x1) =
  bif (!((x0.length : Int) == (x1.length : Int))) then
    (some false)
  else (w_eqIntS_l4 k x0 x1 (0 : Int)) := by kernel_rfl
theorem w_eqIntS_l4_eq (k : Nat) (v0 : List Int) (v1 : List Int) (v5 : Int) : w_eqIntS_l4 (k + 1) v0 v1 v5 =
  bif decide (v5 < (v0.length : Int)) then
    (bif decide (0 ≤ v5) then
      (bif decide (v5 < (v0.length : Int)) then
        (bif decide (0 ≤ v5) then
          (bif decide (v5 < (v1.length : Int)) then
            (bif (!((v0.getD v5.toNat (0 : Int)) == (v1.getD v5.toNat (0 : Int)))) then
              (some false)
            else (w_eqIntS_l4 k v0 v1 (IntKind.i64.wrap (v5 + (1 : Int)))))
          else (none))
        else (none))
      else (none))
    else (none))
  else (some true) := by kernel_rfl
theorem w_markIntS_eq (k : Nat) (x0 : List Int) (x1 : Int) : w_markIntS (k + 1) (x0, x1) =
  w_markIntS_l2 k x1 (0 : Int) x0 := by kernel_rfl
theorem w_markIntS_l2_eq (k : Nat) (v1 : Int) (v5 : Int) (o500000 : List Int) : w_markIntS_l2 (k + 1) v1 v5 o500000 =
  bif decide (v5 < (o500000.length : Int)) then
    (bif decide (0 ≤ v5) then
      (bif decide (v5 < (o500000.length : Int)) then
        (bif decide (v5.toNat < o500000.length) then
          (w_markIntS_l2 k (IntKind.i64.wrap (v1 + (1 : Int))) (IntKind.i64.wrap (v5 + (1 : Int))) (o500000.set v5.toNat v1))
        else (none))
      else (none))
    else (none))
  else (some (v1, o500000)) := by kernel_rfl
theorem w_heldIntS_eq (k : Nat) (x0 : List Int) (x1 : Int) : w_heldIntS (k + 1) (x0, x1) =
  w_heldIntS_l2 k x0 x1 (0 : Int) := by kernel_rfl
theorem w_heldIntS_l2_eq (k : Nat) (v0 : List Int) (v1 : Int) (v5 : Int) : w_heldIntS_l2 (k + 1) v0 v1 v5 =
  bif decide (v5 < (v0.length : Int)) then
    (bif decide (0 ≤ v5) then
      (bif decide (v5 < (v0.length : Int)) then
        (bif (!((v0.getD v5.toNat (0 : Int)) == v1)) then
          (some (-1 : Int))
        else (w_heldIntS_l2 k v0 (IntKind.i64.wrap (v1 + (1 : Int))) (IntKind.i64.wrap (v5 + (1 : Int)))))
      else (none))
    else (none))
  else (some v1) := by kernel_rfl
theorem w_FnExactParsePacket_eq (k : Nat) (x0 : ByteArray) : w_FnExactParsePacket (k + 1) x0 =
  bif decide ((x0.size : Int) > (1048576 : Int)) then
    (some true)
  else ((s_ParsePacket k x0).bind fun y1 =>
    (i_ParsePacket k x0).bind fun y2 =>
    (w_eqIntS k (y2.1, y1.1)).bind fun y3 =>
    bif (!y3) then
      (some false)
    else (bif (!(y2.2 == y1.2)) then
        (some false)
      else ((w_markIntS k (y2.1, (1 : Int))).bind fun y4 =>
        (w_heldIntS k (y4.2, (1 : Int))).bind fun y5 =>
        bif decide (y5 < (0 : Int)) then
          (some false)
        else (bif (!(y5 == y4.1)) then
            (some false)
          else ((i_ParsePacket k x0).bind fun y6 =>
            (w_eqIntS k (y6.1, y1.1)).bind fun y7 =>
            bif (!y7) then
              (some false)
            else (bif (!(y6.2 == y1.2)) then
                (some false)
              else ((w_heldIntS k (y4.2, (1 : Int))).bind fun y8 =>
                bif decide (y8 < (0 : Int)) then
                  (some false)
                else (bif (!(y8 == y4.1)) then
                    (some false)
                  else (some true))))))))) := by kernel_rfl
theorem s_ChoiceName_eq (k : Nat) (x0 : Int) : s_ChoiceName (k + 1) x0 =
  (s_l01In k (x0, ((0 : Int), (4 : Int)))).bind fun y1 =>
  bif (!y1) then
    (some (⟨#[]⟩ : ByteArray))
  else (bif decide (0 ≤ x0) then
      (bif decide (x0 < (([(⟨#[102, 105, 120, 101, 100]⟩ : ByteArray), (⟨#[97, 110, 121, 99, 117, 116]⟩ : ByteArray), (⟨#[114, 105, 102, 102, 108, 101]⟩ : ByteArray), (⟨#[97, 110, 121, 112, 97, 105, 114]⟩ : ByteArray), (⟨#[112, 105, 99, 107]⟩ : ByteArray)]).length : Int)) then
        (bif decide (x0.toNat < ([(⟨#[102, 105, 120, 101, 100]⟩ : ByteArray), (⟨#[97, 110, 121, 99, 117, 116]⟩ : ByteArray), (⟨#[114, 105, 102, 102, 108, 101]⟩ : ByteArray), (⟨#[97, 110, 121, 112, 97, 105, 114]⟩ : ByteArray), (⟨#[112, 105, 99, 107]⟩ : ByteArray)]).length) then
          (some (([(⟨#[102, 105, 120, 101, 100]⟩ : ByteArray), (⟨#[97, 110, 121, 99, 117, 116]⟩ : ByteArray), (⟨#[114, 105, 102, 102, 108, 101]⟩ : ByteArray), (⟨#[97, 110, 121, 112, 97, 105, 114]⟩ : ByteArray), (⟨#[112, 105, 99, 107]⟩ : ByteArray)]).getD x0.toNat (⟨#[]⟩ : ByteArray)))
        else (none))
      else (none))
    else (none)) := by kernel_rfl
theorem s_l16Choice_eq (k : Nat) (x0 : Int) (x1 : Int) : s_l16Choice (k + 1) (x0, x1) =
  (s_l01In k (x1, ((0 : Int), (4 : Int)))).bind fun y1 =>
  bif y1 then
    (bif (!(x1 == (3 : Int))) then
      (bif (!(x1 == (2 : Int))) then
        (some true)
      else (some (decide (x0 ≤ (7 : Int)))))
    else (bif decide (x0 ≥ (2 : Int)) then
        (bif (!(x1 == (2 : Int))) then
          (some true)
        else (some (decide (x0 ≤ (7 : Int)))))
      else (some false)))
  else (some false) := by kernel_rfl
theorem s_StepOk_eq (k : Nat) (x0 : Int) (x1 : Int × (Int × Int) × Int) : s_StepOk (k + 1) (x0, x1) =
  (s_l01In k (x0, ((1 : Int), (12 : Int)))).bind fun y1 =>
  bif (!y1) then
    (some false)
  else (bif (x1.1 == (1 : Int)) then
      ((s_MoveOk k (x0, x1.2.1)).bind fun y2 =>
      bif y2 then
        (some (x1.2.2 == (0 : Int)))
      else (some false))
    else (bif (x1.1 == (2 : Int)) then
        (bif ((x1.2.1.1 == (0 : Int)) && ((x1.2.1.2 == (0 : Int)) && true)) then
          ((s_l16Choice k (x0, x1.2.2)).bind fun y3 =>
          some y3)
        else (some false))
      else (bif (x1.1 == (3 : Int)) then
          (bif ((x1.2.1.1 == (0 : Int)) && ((x1.2.1.2 == (0 : Int)) && true)) then
            ((s_l01In k (x1.2.2, ((0 : Int), (IntKind.i64.wrap (x0 - (1 : Int)))))).bind fun y4 =>
            some y4)
          else (some false))
        else (some false)))) := by kernel_rfl
theorem s_FormatStep_eq (k : Nat) (x0 : Int × (Int × Int) × Int) : s_FormatStep (k + 1) x0 =
  bif (x0.1 == (2 : Int)) then
    (bif (x0.2.2 == (2 : Int)) then
      (bif ((x0.2.1.1 == (0 : Int)) && ((x0.2.1.2 == (0 : Int)) && true)) then
        ((s_ChoiceName k x0.2.2).bind fun y1 =>
        some y1)
      else ((s_StepOk k ((12 : Int), x0)).bind fun y2 =>
        bif (!y2) then
          (some (⟨#[]⟩ : ByteArray))
        else (bif (x0.1 == (1 : Int)) then
            ((s_FormatMove k x0.2.1).bind fun y3 =>
            some y3)
          else (bif (x0.1 == (2 : Int)) then
              ((s_ChoiceName k x0.2.2).bind fun y4 =>
              some y4)
            else ((s_FormatInt k x0.2.2).bind fun y5 =>
              bif decide ((⟨#[110, 111, 116, 101, 32]⟩ : ByteArray).size + y5.size ≤ 9223372036854775807) then
                (some ((⟨#[110, 111, 116, 101, 32]⟩ : ByteArray) ++ y5))
              else (none))))))
    else ((s_StepOk k ((12 : Int), x0)).bind fun y6 =>
      bif (!y6) then
        (some (⟨#[]⟩ : ByteArray))
      else (bif (x0.1 == (1 : Int)) then
          ((s_FormatMove k x0.2.1).bind fun y7 =>
          some y7)
        else (bif (x0.1 == (2 : Int)) then
            ((s_ChoiceName k x0.2.2).bind fun y8 =>
            some y8)
          else ((s_FormatInt k x0.2.2).bind fun y9 =>
            bif decide ((⟨#[110, 111, 116, 101, 32]⟩ : ByteArray).size + y9.size ≤ 9223372036854775807) then
              (some ((⟨#[110, 111, 116, 101, 32]⟩ : ByteArray) ++ y9))
            else (none))))))
  else ((s_StepOk k ((12 : Int), x0)).bind fun y10 =>
    bif (!y10) then
      (some (⟨#[]⟩ : ByteArray))
    else (bif (x0.1 == (1 : Int)) then
        ((s_FormatMove k x0.2.1).bind fun y11 =>
        some y11)
      else (bif (x0.1 == (2 : Int)) then
          ((s_ChoiceName k x0.2.2).bind fun y12 =>
          some y12)
        else ((s_FormatInt k x0.2.2).bind fun y13 =>
          bif decide ((⟨#[110, 111, 116, 101, 32]⟩ : ByteArray).size + y13.size ≤ 9223372036854775807) then
            (some ((⟨#[110, 111, 116, 101, 32]⟩ : ByteArray) ++ y13))
          else (none))))) := by kernel_rfl
theorem s_ParseStep_eq (k : Nat) (x0 : ByteArray) : s_ParseStep (k + 1) x0 =
  s_ParseStep_l2 k x0 (0 : Int) (0 : Int) (0 : Int) (0 : Int) (0 : Int) := by kernel_rfl
theorem s_ParseStep_l2_eq (k : Nat) (v0 : ByteArray) (v4 : Int) (o200002_0 : Int) (o200002_1 : Int) (o200002_2 : Int) (o200002_3 : Int) : s_ParseStep_l2 (k + 1) v0 v4 o200002_0 o200002_1 o200002_2 o200002_3 =
  bif decide (v4 ≤ (4 : Int)) then
    ((s_ChoiceName k v4).bind fun y1 =>
    bif (y1.toList == v0.toList) then
      (some ((2 : Int), ((0 : Int), ((0 : Int), (v4, true)))))
    else (s_ParseStep_l2 k v0 (IntKind.i64.wrap (v4 + (1 : Int))) o200002_0 o200002_1 o200002_2 o200002_3))
  else ((s_ParseMove k v0).bind fun y2 =>
    bif y2.2.2 then
      (some ((1 : Int), (y2.1, (y2.2.1, ((0 : Int), true)))))
    else ((s_SplitAny k (v0, (⟨#[32]⟩ : ByteArray))).bind fun y3 =>
      bif (!((y3.length : Int) == (2 : Int))) then
        (some ((0 : Int), ((0 : Int), ((0 : Int), ((0 : Int), false)))))
      else (bif decide ((1 : Int) < (y3.length : Int)) then
          (bif decide (1 < y3.length) then
            ((s_ParseInt k (y3.getD 1 (⟨#[]⟩ : ByteArray))).bind fun y4 =>
            bif (!y4.2) then
              (some ((0 : Int), ((0 : Int), ((0 : Int), ((0 : Int), false)))))
            else ((s_FormatStep k ((3 : Int), (((0 : Int), (0 : Int)), y4.1))).bind fun y5 =>
              bif (!(y5.toList == v0.toList)) then
                (some ((0 : Int), ((0 : Int), ((0 : Int), ((0 : Int), false)))))
              else (some ((3 : Int), ((0 : Int), ((0 : Int), (y4.1, true)))))))
          else (none))
        else (none)))) := by kernel_rfl
theorem i_ChoiceName_eq (k : Nat) (x0 : Int) : i_ChoiceName (k + 1) x0 =
  bif decide (x0 < (0 : Int)) then
    (some (⟨#[]⟩ : ByteArray))
  else (bif decide (x0 > (4 : Int)) then
      (some (⟨#[]⟩ : ByteArray))
    else (bif decide (0 ≤ x0) then
        (bif decide (x0 < (([(⟨#[102, 105, 120, 101, 100]⟩ : ByteArray), (⟨#[97, 110, 121, 99, 117, 116]⟩ : ByteArray), (⟨#[114, 105, 102, 102, 108, 101]⟩ : ByteArray), (⟨#[97, 110, 121, 112, 97, 105, 114]⟩ : ByteArray), (⟨#[112, 105, 99, 107]⟩ : ByteArray)]).length : Int)) then
          (bif decide (x0.toNat < ([(⟨#[102, 105, 120, 101, 100]⟩ : ByteArray), (⟨#[97, 110, 121, 99, 117, 116]⟩ : ByteArray), (⟨#[114, 105, 102, 102, 108, 101]⟩ : ByteArray), (⟨#[97, 110, 121, 112, 97, 105, 114]⟩ : ByteArray), (⟨#[112, 105, 99, 107]⟩ : ByteArray)]).length) then
            (some (([(⟨#[102, 105, 120, 101, 100]⟩ : ByteArray), (⟨#[97, 110, 121, 99, 117, 116]⟩ : ByteArray), (⟨#[114, 105, 102, 102, 108, 101]⟩ : ByteArray), (⟨#[97, 110, 121, 112, 97, 105, 114]⟩ : ByteArray), (⟨#[112, 105, 99, 107]⟩ : ByteArray)]).getD x0.toNat (⟨#[]⟩ : ByteArray)))
          else (none))
        else (none))
      else (none))) := by kernel_rfl
theorem i_StepOk_eq (k : Nat) (x0 : Int) (x1 : Int × (Int × Int) × Int) : i_StepOk (k + 1) (x0, x1) =
  bif decide (x0 < (1 : Int)) then
    (some false)
  else (bif decide (x0 > (12 : Int)) then
      (some false)
    else (bif (x1.1 == (1 : Int)) then
        ((i_MoveOk k (x0, x1.2.1)).bind fun y1 =>
        bif y1 then
          (some (x1.2.2 == (0 : Int)))
        else (some false))
      else (bif (x1.1 == (2 : Int)) then
          (bif ((x1.2.1.1 == (0 : Int)) && ((x1.2.1.2 == (0 : Int)) && true)) then
            (bif decide (x1.2.2 ≥ (0 : Int)) then
              (bif decide (x1.2.2 ≤ (4 : Int)) then
                (bif (!(x1.2.2 == (3 : Int))) then
                  (bif (!(x1.2.2 == (2 : Int))) then
                    (some true)
                  else (some (decide (x0 ≤ (7 : Int)))))
                else (bif decide (x0 ≥ (2 : Int)) then
                    (bif (!(x1.2.2 == (2 : Int))) then
                      (some true)
                    else (some (decide (x0 ≤ (7 : Int)))))
                  else (some false)))
              else (some false))
            else (some false))
          else (some false))
        else (bif (x1.1 == (3 : Int)) then
            (bif ((x1.2.1.1 == (0 : Int)) && ((x1.2.1.2 == (0 : Int)) && true)) then
              (bif decide (x1.2.2 ≥ (0 : Int)) then
                (some (decide (x1.2.2 < x0)))
              else (some false))
            else (some false))
          else (some false))))) := by kernel_rfl
theorem i_FormatStep_eq (k : Nat) (x0 : Int × (Int × Int) × Int) : i_FormatStep (k + 1) x0 =
  (i_StepOk k ((12 : Int), x0)).bind fun y1 =>
  bif (!y1) then
    (bif (!((x0.1 == (2 : Int)) && ((x0.2.1.1 == (0 : Int)) && ((x0.2.1.2 == (0 : Int)) && ((x0.2.2 == (2 : Int)) && true))))) then
      (some (⟨#[]⟩ : ByteArray))
    else (bif (x0.1 == (1 : Int)) then
        ((i_FormatMove k x0.2.1).bind fun y2 =>
        some y2)
      else (bif (x0.1 == (2 : Int)) then
          ((i_ChoiceName k x0.2.2).bind fun y3 =>
          some y3)
        else ((i_FormatInt k x0.2.2).bind fun y4 =>
          bif decide ((⟨#[110, 111, 116, 101, 32]⟩ : ByteArray).size + y4.size ≤ 9223372036854775807) then
            (some ((⟨#[110, 111, 116, 101, 32]⟩ : ByteArray) ++ y4))
          else (none)))))
  else (bif (x0.1 == (1 : Int)) then
      ((i_FormatMove k x0.2.1).bind fun y5 =>
      some y5)
    else (bif (x0.1 == (2 : Int)) then
        ((i_ChoiceName k x0.2.2).bind fun y6 =>
        some y6)
      else ((i_FormatInt k x0.2.2).bind fun y7 =>
        bif decide ((⟨#[110, 111, 116, 101, 32]⟩ : ByteArray).size + y7.size ≤ 9223372036854775807) then
          (some ((⟨#[110, 111, 116, 101, 32]⟩ : ByteArray) ++ y7))
        else (none)))) := by kernel_rfl
theorem i_ParseStep_eq (k : Nat) (x0 : ByteArray) : i_ParseStep (k + 1) x0 =
  (i_ParseMove k x0).bind fun y1 =>
  bif y1.2.2 then
    (some ((1 : Int), (y1.1, (y1.2.1, ((0 : Int), true)))))
  else (i_ParseStep_l5 k x0 (0 : Int) (0 : Int) (0 : Int) (0 : Int) (0 : Int)) := by kernel_rfl
theorem i_ParseStep_l5_eq (k : Nat) (v0 : ByteArray) (v6 : Int) (o200002_0 : Int) (o200002_1 : Int) (o200002_2 : Int) (o200002_3 : Int) : i_ParseStep_l5 (k + 1) v0 v6 o200002_0 o200002_1 o200002_2 o200002_3 =
  bif decide (v6 ≤ (4 : Int)) then
    ((i_ChoiceName k v6).bind fun y1 =>
    bif (y1.toList == v0.toList) then
      (some ((2 : Int), ((0 : Int), ((0 : Int), (v6, true)))))
    else (i_ParseStep_l5 k v0 (IntKind.i64.wrap (v6 + (1 : Int))) o200002_0 o200002_1 o200002_2 o200002_3))
  else (i_ParseStep_l10 k v0 (0 : Int) o200002_0 o200002_1 o200002_2 o200002_3) := by kernel_rfl
theorem i_ParseStep_l10_eq (k : Nat) (v0 : ByteArray) (v7 : Int) (o200002_0 : Int) (o200002_1 : Int) (o200002_2 : Int) (o200002_3 : Int) : i_ParseStep_l10 (k + 1) v0 v7 o200002_0 o200002_1 o200002_2 o200002_3 =
  bif decide (v7 < (12 : Int)) then
    ((i_FormatStep k ((3 : Int), (((0 : Int), (0 : Int)), v7))).bind fun y1 =>
    bif (y1.toList == v0.toList) then
      (some ((3 : Int), ((0 : Int), ((0 : Int), (v7, true)))))
    else (i_ParseStep_l10 k v0 (IntKind.i64.wrap (v7 + (1 : Int))) o200002_0 o200002_1 o200002_2 o200002_3))
  else (some ((0 : Int), ((0 : Int), ((0 : Int), ((0 : Int), false))))) := by kernel_rfl
theorem w_eqStep_eq (k : Nat) (x0 : Int × (Int × Int) × Int) (x1 : Int × (Int × Int) × Int) : w_eqStep (k + 1) (x0, x1) =
  bif (!(x0.1 == x1.1)) then
    (some false)
  else ((w_eqMove k (x0.2.1, x1.2.1)).bind fun y1 =>
    bif (!y1) then
      (some false)
    else (bif (!(x0.2.2 == x1.2.2)) then
        (some false)
      else (some true))) := by kernel_rfl
theorem w_FnExactParseStep_eq (k : Nat) (x0 : ByteArray) : w_FnExactParseStep (k + 1) x0 =
  bif decide ((x0.size : Int) > (1048576 : Int)) then
    (some true)
  else ((s_ParseStep k x0).bind fun y1 =>
    (i_ParseStep k x0).bind fun y2 =>
    (w_eqStep k ((y2.1, ((y2.2.1, y2.2.2.1), y2.2.2.2.1)), (y1.1, ((y1.2.1, y1.2.2.1), y1.2.2.2.1)))).bind fun y3 =>
    bif (!y3) then
      (some false)
    else (bif (!(y2.2.2.2.2 == y1.2.2.2.2)) then
        (some false)
      else (some true))) := by kernel_rfl

/-! ### the tables are right -/
/-- What holds of the world throughout. -/
abbrev gw : Gw := ⟨fun w => Go.Lib.TabIs Go.Proofs.Tryd.prog w "internal/strconv.uint64pow10" .u64 Go.Lib.pow10Tab ∧ (∃ tp p, w.var? Go.Proofs.Tryd.prog "strconv.ErrSyntax" = some #[.iface tp p]) ∧ ∃ tp p, w.var? Go.Proofs.Tryd.prog "strconv.ErrRange" = some #[.iface tp p], false⟩
theorem ty_3 : TyOk Go.Proofs.Tryd.prog 3 (.one (.int .i64)) := tyOk_int (by kernel_rfl) (by kernel_rfl) (by kernel_rfl)
theorem ty_4 : TyOk Go.Proofs.Tryd.prog 4 (.one (.bool)) := tyOk_bool (by kernel_rfl) (by kernel_rfl) (by kernel_rfl)
theorem ty_5 : TyOk Go.Proofs.Tryd.prog 5 (.one (.int .u8)) := tyOk_int (by kernel_rfl) (by kernel_rfl) (by kernel_rfl)
theorem ty_9 : TyOk Go.Proofs.Tryd.prog 9 (.one (.str)) := tyOk_str (by kernel_rfl) (by kernel_rfl) (by kernel_rfl)
theorem ty_22 : TyOk Go.Proofs.Tryd.prog 22 (.one (.slice (.int .u8))) := tyOk_slice (e := 5) (by kernel_rfl) (by kernel_rfl) (by kernel_rfl) (elemOk_of (by kernel_rfl) (by kernel_rfl) (by kernel_rfl))
theorem ty_25 : TyOk Go.Proofs.Tryd.prog 25 (.one (.slice (.int .i64))) := tyOk_slice (e := 3) (by kernel_rfl) (by kernel_rfl) (by kernel_rfl) (elemOk_of (by kernel_rfl) (by kernel_rfl) (by kernel_rfl))
theorem ty_34 : TyOk Go.Proofs.Tryd.prog 34 (.struct [(0, 3), (1, 3)] [.int .i64, .int .i64] true) := tyOk_struct (fields := Go.Proofs.Tryd.prog.fieldsOf 34) (by kernel_rfl) (by kernel_rfl) (by kernel_rfl) (by kernel_rfl) (by kernel_rfl) (by kernel_rfl) (fun _ => structEq_ok (d := 20) (fields := Go.Proofs.Tryd.prog.fieldsOf 34) (by kernel_rfl) (by kernel_rfl) (by decide) (by kernel_rfl))
theorem ty_44 : TyOk Go.Proofs.Tryd.prog 44 (.struct [(0, 3), (1, 34), (3, 3)] [.int .i64, .int .i64, .int .i64, .int .i64] true) := tyOk_struct (fields := Go.Proofs.Tryd.prog.fieldsOf 44) (by kernel_rfl) (by kernel_rfl) (by kernel_rfl) (by kernel_rfl) (by kernel_rfl) (by kernel_rfl) (fun _ => structEq_ok (d := 20) (fields := Go.Proofs.Tryd.prog.fieldsOf 44) (by kernel_rfl) (by kernel_rfl) (by decide) (by kernel_rfl))
theorem ty_61 : TyOk Go.Proofs.Tryd.prog 61 (.one (.slice (.str))) := tyOk_slice (e := 9) (by kernel_rfl) (by kernel_rfl) (by kernel_rfl) (elemOk_of (by kernel_rfl) (by kernel_rfl) (by kernel_rfl))
theorem ty_86 : TyOk Go.Proofs.Tryd.prog 86 (.one (.err)) := tyOk_errB (by kernel_rfl) (by kernel_rfl) (by kernel_rfl)
theorem ty_91 : TyOk Go.Proofs.Tryd.prog 91 (.arr 12 (.bool)) := tyOk_arr (e := 4) (by kernel_rfl) (elemOk_of (by kernel_rfl) (by kernel_rfl) (by kernel_rfl)) (by kernel_rfl) (by kernel_rfl)
theorem ty_1000022 : TyOk Go.Proofs.Tryd.prog 1000022 (.bytes) := tyOk_bytes (e := 5) (by kernel_rfl) (by kernel_rfl)
theorem hE : ∀ T ti, E.ty T = some ti → TyOk Go.Proofs.Tryd.prog T ti := lookT_ok (l := tyL) ⟨ty_3, ty_4, ty_5, ty_9, ty_22, ty_25, ty_34, ty_44, ty_61, ty_86, ty_91, ty_1000022, trivial⟩
theorem s_SplitAny_ok : OneF Go.Proofs.Tryd.prog gw 42 s_SplitAny_fi := fnOk_of (fn := Go.Proofs.Tryd.f42) (c := s_SplitAny_c) Go.Proofs.Tryd.func42 (by kernel_rfl) (by kernel_rfl) rfl rfl (by kernel_rfl) (by kernel_rfl) rfl
theorem s_IsDigits_ok : OneF Go.Proofs.Tryd.prog gw 67 s_IsDigits_fi := fnOk_of (fn := Go.Proofs.Tryd.f67) (c := s_IsDigits_c) Go.Proofs.Tryd.func67 (by kernel_rfl) (by kernel_rfl) rfl rfl (by kernel_rfl) (by kernel_rfl) rfl
theorem s_FormatInt_ok : OneF Go.Proofs.Tryd.prog gw 68 s_FormatInt_fi := fnOk_of (fn := Go.Proofs.Tryd.f68) (c := s_FormatInt_c) Go.Proofs.Tryd.func68 (by kernel_rfl) (by kernel_rfl) rfl rfl (by kernel_rfl) (by kernel_rfl) rfl
theorem s_ParseInt_ok : OneF Go.Proofs.Tryd.prog gw 43 s_ParseInt_fi := fnOk_of (fn := Go.Proofs.Tryd.f43) (c := s_ParseInt_c) Go.Proofs.Tryd.func43 (by kernel_rfl) (by kernel_rfl) rfl rfl (by kernel_rfl) (by kernel_rfl) rfl
theorem s_l04Names_ok : OneF Go.Proofs.Tryd.prog gw 69 s_l04Names_fi := fnOk_of (fn := Go.Proofs.Tryd.f69) (c := s_l04Names_c) Go.Proofs.Tryd.func69 (by kernel_rfl) (by kernel_rfl) rfl rfl (by kernel_rfl) (by kernel_rfl) rfl
theorem s_MoveNamed_ok : OneF Go.Proofs.Tryd.prog gw 44 s_MoveNamed_fi := fnOk_of (fn := Go.Proofs.Tryd.f44) (c := s_MoveNamed_c) Go.Proofs.Tryd.func44 (by kernel_rfl) (by kernel_rfl) rfl rfl (by kernel_rfl) (by kernel_rfl) rfl
theorem s_l01In_ok : OneF Go.Proofs.Tryd.prog gw 50 s_l01In_fi := fnOk_of (fn := Go.Proofs.Tryd.f50) (c := s_l01In_c) Go.Proofs.Tryd.func50 (by kernel_rfl) (by kernel_rfl) rfl rfl (by kernel_rfl) (by kernel_rfl) rfl
theorem s_MoveOk_ok : OneF Go.Proofs.Tryd.prog gw 70 s_MoveOk_fi := fnOk_of (fn := Go.Proofs.Tryd.f70) (c := s_MoveOk_c) Go.Proofs.Tryd.func70 (by kernel_rfl) (by kernel_rfl) rfl rfl (by kernel_rfl) (by kernel_rfl) rfl
theorem s_MoveName_ok : OneF Go.Proofs.Tryd.prog gw 71 s_MoveName_fi := fnOk_of (fn := Go.Proofs.Tryd.f71) (c := s_MoveName_c) Go.Proofs.Tryd.func71 (by kernel_rfl) (by kernel_rfl) rfl rfl (by kernel_rfl) (by kernel_rfl) rfl
theorem s_FormatMove_ok : OneF Go.Proofs.Tryd.prog gw 45 s_FormatMove_fi := fnOk_of (fn := Go.Proofs.Tryd.f45) (c := s_FormatMove_c) Go.Proofs.Tryd.func45 (by kernel_rfl) (by kernel_rfl) rfl rfl (by kernel_rfl) (by kernel_rfl) rfl
theorem s_ParseMove_ok : OneF Go.Proofs.Tryd.prog gw 16 s_ParseMove_fi := fnOk_of (fn := Go.Proofs.Tryd.f16) (c := s_ParseMove_c) Go.Proofs.Tryd.func16 (by kernel_rfl) (by kernel_rfl) rfl rfl (by kernel_rfl) (by kernel_rfl) rfl
theorem strings_IndexByte_ok : OneF Go.Proofs.Tryd.prog gw 72 strings_IndexByte_fi := indexByte_ok Go.Proofs.Tryd.func72 (by kernel_rfl) (by kernel_rfl) (fun s c w => Go.Proofs.Any.strings_IndexByte Go.Proofs.Tryd.lays137 s c w)
theorem i_SplitAny_ok : OneF Go.Proofs.Tryd.prog gw 46 i_SplitAny_fi := fnOk_of (fn := Go.Proofs.Tryd.f46) (c := i_SplitAny_c) Go.Proofs.Tryd.func46 (by kernel_rfl) (by kernel_rfl) rfl rfl (by kernel_rfl) (by kernel_rfl) rfl
theorem strconv_Atoi_ok : OneF Go.Proofs.Tryd.prog gw 73 strconv_Atoi_fi := atoi_ok Go.Proofs.Tryd.func73 (by kernel_rfl) (by kernel_rfl) rfl (atoiDoes_of Go.Proofs.Tryd.laysC172 (fun w hw => hw.2))
theorem strconv_Itoa_ok : OneF Go.Proofs.Tryd.prog gw 66 strconv_Itoa_fi := itoa_ok Go.Proofs.Tryd.func66 (by kernel_rfl) (by kernel_rfl) (fun n w hw h0 h1 => Go.Proofs.Tryd.strconv_Itoa n h0 h1 w hw.1)
theorem i_FormatInt_ok : OneF Go.Proofs.Tryd.prog gw 41 i_FormatInt_fi := fnOk_of (fn := Go.Proofs.Tryd.f41) (c := i_FormatInt_c) Go.Proofs.Tryd.func41 (by kernel_rfl) (by kernel_rfl) rfl rfl (by kernel_rfl) (by kernel_rfl) rfl
theorem i_ParseInt_ok : OneF Go.Proofs.Tryd.prog gw 47 i_ParseInt_fi := fnOk_of (fn := Go.Proofs.Tryd.f47) (c := i_ParseInt_c) Go.Proofs.Tryd.func47 (by kernel_rfl) (by kernel_rfl) rfl rfl (by kernel_rfl) (by kernel_rfl) rfl
theorem i_moveNames_ok : OneF Go.Proofs.Tryd.prog gw 75 i_moveNames_fi := fnOk_of (fn := Go.Proofs.Tryd.f75) (c := i_moveNames_c) Go.Proofs.Tryd.func75 (by kernel_rfl) (by kernel_rfl) rfl rfl (by kernel_rfl) (by kernel_rfl) rfl
theorem slices_Index_string_ok : OneF Go.Proofs.Tryd.prog gw 74 slices_Index_string_fi := fnOk_of (fn := Go.Proofs.Tryd.f74) (c := slices_Index_string_c) Go.Proofs.Tryd.func74 (by kernel_rfl) (by kernel_rfl) rfl rfl (by kernel_rfl) (by kernel_rfl) rfl
theorem i_MoveNamed_ok : OneF Go.Proofs.Tryd.prog gw 48 i_MoveNamed_fi := fnOk_of (fn := Go.Proofs.Tryd.f48) (c := i_MoveNamed_c) Go.Proofs.Tryd.func48 (by kernel_rfl) (by kernel_rfl) rfl rfl (by kernel_rfl) (by kernel_rfl) rfl
theorem i_MoveOk_ok : OneF Go.Proofs.Tryd.prog gw 76 i_MoveOk_fi := fnOk_of (fn := Go.Proofs.Tryd.f76) (c := i_MoveOk_c) Go.Proofs.Tryd.func76 (by kernel_rfl) (by kernel_rfl) rfl rfl (by kernel_rfl) (by kernel_rfl) rfl
theorem i_MoveName_ok : OneF Go.Proofs.Tryd.prog gw 77 i_MoveName_fi := fnOk_of (fn := Go.Proofs.Tryd.f77) (c := i_MoveName_c) Go.Proofs.Tryd.func77 (by kernel_rfl) (by kernel_rfl) rfl rfl (by kernel_rfl) (by kernel_rfl) rfl
theorem i_FormatMove_ok : OneF Go.Proofs.Tryd.prog gw 49 i_FormatMove_fi := fnOk_of (fn := Go.Proofs.Tryd.f49) (c := i_FormatMove_c) Go.Proofs.Tryd.func49 (by kernel_rfl) (by kernel_rfl) rfl rfl (by kernel_rfl) (by kernel_rfl) rfl
theorem i_ParseMove_ok : OneF Go.Proofs.Tryd.prog gw 17 i_ParseMove_fi := fnOk_of (fn := Go.Proofs.Tryd.f17) (c := i_ParseMove_c) Go.Proofs.Tryd.func17 (by kernel_rfl) (by kernel_rfl) rfl rfl (by kernel_rfl) (by kernel_rfl) rfl
theorem w_eqMove_ok : OneF Go.Proofs.Tryd.prog gw 18 w_eqMove_fi := fnOk_of (fn := Go.Proofs.Tryd.f18) (c := w_eqMove_c) Go.Proofs.Tryd.func18 (by kernel_rfl) (by kernel_rfl) rfl rfl (by kernel_rfl) (by kernel_rfl) rfl
theorem w_FnExactParseMove_ok : OneF Go.Proofs.Tryd.prog gw 4 w_FnExactParseMove_fi := fnOk_of (fn := Go.Proofs.Tryd.f4) (c := w_FnExactParseMove_c) Go.Proofs.Tryd.func4 (by kernel_rfl) (by kernel_rfl) rfl rfl (by kernel_rfl) (by kernel_rfl) rfl
theorem s_CardOf_ok : OneF Go.Proofs.Tryd.prog gw 79 s_CardOf_fi := fnOk_of (fn := Go.Proofs.Tryd.f79) (c := s_CardOf_c) Go.Proofs.Tryd.func79 (by kernel_rfl) (by kernel_rfl) rfl rfl (by kernel_rfl) (by kernel_rfl) rfl
theorem s_l02Has_ok : OneF Go.Proofs.Tryd.prog gw 95 s_l02Has_fi := fnOk_of (fn := Go.Proofs.Tryd.f95) (c := s_l02Has_c) Go.Proofs.Tryd.func95 (by kernel_rfl) (by kernel_rfl) rfl rfl (by kernel_rfl) (by kernel_rfl) rfl
theorem s_PacketOk_ok : OneF Go.Proofs.Tryd.prog gw 78 s_PacketOk_fi := fnOk_of (fn := Go.Proofs.Tryd.f78) (c := s_PacketOk_c) Go.Proofs.Tryd.func78 (by kernel_rfl) (by kernel_rfl) rfl rfl (by kernel_rfl) (by kernel_rfl) rfl
theorem s_IsUp_ok : OneF Go.Proofs.Tryd.prog gw 80 s_IsUp_fi := fnOk_of (fn := Go.Proofs.Tryd.f80) (c := s_IsUp_c) Go.Proofs.Tryd.func80 (by kernel_rfl) (by kernel_rfl) rfl rfl (by kernel_rfl) (by kernel_rfl) rfl
theorem s_Join_ok : OneF Go.Proofs.Tryd.prog gw 81 s_Join_fi := fnOk_of (fn := Go.Proofs.Tryd.f81) (c := s_Join_c) Go.Proofs.Tryd.func81 (by kernel_rfl) (by kernel_rfl) rfl rfl (by kernel_rfl) (by kernel_rfl) rfl
theorem s_FormatPacket_ok : OneF Go.Proofs.Tryd.prog gw 51 s_FormatPacket_fi := fnOk_of (fn := Go.Proofs.Tryd.f51) (c := s_FormatPacket_c) Go.Proofs.Tryd.func51 (by kernel_rfl) (by kernel_rfl) rfl rfl (by kernel_rfl) (by kernel_rfl) rfl
theorem s_ParsePacket_ok : OneF Go.Proofs.Tryd.prog gw 19 s_ParsePacket_fi := fnOk_of (fn := Go.Proofs.Tryd.f19) (c := s_ParsePacket_c) Go.Proofs.Tryd.func19 (by kernel_rfl) (by kernel_rfl) rfl rfl (by kernel_rfl) (by kernel_rfl) rfl
theorem i_CardOf_ok : OneF Go.Proofs.Tryd.prog gw 33 i_CardOf_fi := fnOk_of (fn := Go.Proofs.Tryd.f33) (c := i_CardOf_c) Go.Proofs.Tryd.func33 (by kernel_rfl) (by kernel_rfl) rfl rfl (by kernel_rfl) (by kernel_rfl) rfl
theorem i_PacketOk_ok : OneF Go.Proofs.Tryd.prog gw 52 i_PacketOk_fi := fnOk_of (fn := Go.Proofs.Tryd.f52) (c := i_PacketOk_c) Go.Proofs.Tryd.func52 (by kernel_rfl) (by kernel_rfl) rfl rfl (by kernel_rfl) (by kernel_rfl) rfl
theorem i_ParsePacket_ok : OneF Go.Proofs.Tryd.prog gw 20 i_ParsePacket_fi := fnOk_of (fn := Go.Proofs.Tryd.f20) (c := i_ParsePacket_c) Go.Proofs.Tryd.func20 (by kernel_rfl) (by kernel_rfl) rfl rfl (by kernel_rfl) (by kernel_rfl) rfl
theorem w_eqIntS_ok : OneF Go.Proofs.Tryd.prog gw 21 w_eqIntS_fi := fnOk_of (fn := Go.Proofs.Tryd.f21) (c := w_eqIntS_c) Go.Proofs.Tryd.func21 (by kernel_rfl) (by kernel_rfl) rfl rfl (by kernel_rfl) (by kernel_rfl) rfl
theorem w_markIntS_ok : OneF Go.Proofs.Tryd.prog gw 22 w_markIntS_fi := fnOk_of (fn := Go.Proofs.Tryd.f22) (c := w_markIntS_c) Go.Proofs.Tryd.func22 (by kernel_rfl) (by kernel_rfl) rfl rfl (by kernel_rfl) (by kernel_rfl) rfl
theorem w_heldIntS_ok : OneF Go.Proofs.Tryd.prog gw 23 w_heldIntS_fi := fnOk_of (fn := Go.Proofs.Tryd.f23) (c := w_heldIntS_c) Go.Proofs.Tryd.func23 (by kernel_rfl) (by kernel_rfl) rfl rfl (by kernel_rfl) (by kernel_rfl) rfl
theorem w_FnExactParsePacket_ok : OneF Go.Proofs.Tryd.prog gw 5 w_FnExactParsePacket_fi := fnOk_of (fn := Go.Proofs.Tryd.f5) (c := w_FnExactParsePacket_c) Go.Proofs.Tryd.func5 (by kernel_rfl) (by kernel_rfl) rfl rfl (by kernel_rfl) (by kernel_rfl) rfl
theorem s_ChoiceName_ok : OneF Go.Proofs.Tryd.prog gw 53 s_ChoiceName_fi := fnOk_of (fn := Go.Proofs.Tryd.f53) (c := s_ChoiceName_c) Go.Proofs.Tryd.func53 (by kernel_rfl) (by kernel_rfl) rfl rfl (by kernel_rfl) (by kernel_rfl) rfl
theorem s_l16Choice_ok : OneF Go.Proofs.Tryd.prog gw 96 s_l16Choice_fi := fnOk_of (fn := Go.Proofs.Tryd.f96) (c := s_l16Choice_c) Go.Proofs.Tryd.func96 (by kernel_rfl) (by kernel_rfl) rfl rfl (by kernel_rfl) (by kernel_rfl) rfl
theorem s_StepOk_ok : OneF Go.Proofs.Tryd.prog gw 82 s_StepOk_fi := fnOk_of (fn := Go.Proofs.Tryd.f82) (c := s_StepOk_c) Go.Proofs.Tryd.func82 (by kernel_rfl) (by kernel_rfl) rfl rfl (by kernel_rfl) (by kernel_rfl) rfl
theorem s_FormatStep_ok : OneF Go.Proofs.Tryd.prog gw 54 s_FormatStep_fi := fnOk_of (fn := Go.Proofs.Tryd.f54) (c := s_FormatStep_c) Go.Proofs.Tryd.func54 (by kernel_rfl) (by kernel_rfl) rfl rfl (by kernel_rfl) (by kernel_rfl) rfl
theorem s_ParseStep_ok : OneF Go.Proofs.Tryd.prog gw 24 s_ParseStep_fi := fnOk_of (fn := Go.Proofs.Tryd.f24) (c := s_ParseStep_c) Go.Proofs.Tryd.func24 (by kernel_rfl) (by kernel_rfl) rfl rfl (by kernel_rfl) (by kernel_rfl) rfl
theorem i_ChoiceName_ok : OneF Go.Proofs.Tryd.prog gw 55 i_ChoiceName_fi := fnOk_of (fn := Go.Proofs.Tryd.f55) (c := i_ChoiceName_c) Go.Proofs.Tryd.func55 (by kernel_rfl) (by kernel_rfl) rfl rfl (by kernel_rfl) (by kernel_rfl) rfl
theorem i_StepOk_ok : OneF Go.Proofs.Tryd.prog gw 83 i_StepOk_fi := fnOk_of (fn := Go.Proofs.Tryd.f83) (c := i_StepOk_c) Go.Proofs.Tryd.func83 (by kernel_rfl) (by kernel_rfl) rfl rfl (by kernel_rfl) (by kernel_rfl) rfl
theorem i_FormatStep_ok : OneF Go.Proofs.Tryd.prog gw 56 i_FormatStep_fi := fnOk_of (fn := Go.Proofs.Tryd.f56) (c := i_FormatStep_c) Go.Proofs.Tryd.func56 (by kernel_rfl) (by kernel_rfl) rfl rfl (by kernel_rfl) (by kernel_rfl) rfl
theorem i_ParseStep_ok : OneF Go.Proofs.Tryd.prog gw 25 i_ParseStep_fi := fnOk_of (fn := Go.Proofs.Tryd.f25) (c := i_ParseStep_c) Go.Proofs.Tryd.func25 (by kernel_rfl) (by kernel_rfl) rfl rfl (by kernel_rfl) (by kernel_rfl) rfl
theorem w_eqStep_ok : OneF Go.Proofs.Tryd.prog gw 26 w_eqStep_fi := fnOk_of (fn := Go.Proofs.Tryd.f26) (c := w_eqStep_c) Go.Proofs.Tryd.func26 (by kernel_rfl) (by kernel_rfl) rfl rfl (by kernel_rfl) (by kernel_rfl) rfl
theorem w_FnExactParseStep_ok : OneF Go.Proofs.Tryd.prog gw 6 w_FnExactParseStep_fi := fnOk_of (fn := Go.Proofs.Tryd.f6) (c := w_FnExactParseStep_c) Go.Proofs.Tryd.func6 (by kernel_rfl) (by kernel_rfl) rfl rfl (by kernel_rfl) (by kernel_rfl) rfl
theorem hF : FnOk Go.Proofs.Tryd.prog gw E := lookF_ok (l := fnL) ⟨s_SplitAny_ok, s_IsDigits_ok, s_FormatInt_ok, s_ParseInt_ok, s_l04Names_ok, s_MoveNamed_ok, s_l01In_ok, s_MoveOk_ok, s_MoveName_ok, s_FormatMove_ok, s_ParseMove_ok, strings_IndexByte_ok, i_SplitAny_ok, strconv_Atoi_ok, strconv_Itoa_ok, i_FormatInt_ok, i_ParseInt_ok, i_moveNames_ok, slices_Index_string_ok, i_MoveNamed_ok, i_MoveOk_ok, i_MoveName_ok, i_FormatMove_ok, i_ParseMove_ok, w_eqMove_ok, w_FnExactParseMove_ok, s_CardOf_ok, s_l02Has_ok, s_PacketOk_ok, s_IsUp_ok, s_Join_ok, s_FormatPacket_ok, s_ParsePacket_ok, i_CardOf_ok, i_PacketOk_ok, i_ParsePacket_ok, w_eqIntS_ok, w_markIntS_ok, w_heldIntS_ok, w_FnExactParsePacket_ok, s_ChoiceName_ok, s_l16Choice_ok, s_StepOk_ok, s_FormatStep_ok, s_ParseStep_ok, i_ChoiceName_ok, i_StepOk_ok, i_FormatStep_ok, i_ParseStep_ok, w_eqStep_ok, w_FnExactParseStep_ok, trivial⟩
end Pt
