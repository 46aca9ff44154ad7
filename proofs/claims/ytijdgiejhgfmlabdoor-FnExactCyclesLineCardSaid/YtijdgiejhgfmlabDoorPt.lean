/-
  The plain machine's telling of functions of the program. Printed by gen.py.
  Conditions: none; these are definitions and equations that the kernel checks.
-/
import Derived.Test.YtijdgiejhgfmlabDoorXvze
import Derived.Test.YtijdgiejhgfmlabDoorProg
import Derived.Test.YtijdgiejhgfmlabDoorShelf
namespace Pt
open Go Go.Vt
set_option linter.unusedVariables false
set_option maxRecDepth 100000

noncomputable def tyL : List (Nat × TI) := [(3, .one (.int .i64)),
  (4, .one (.bool)),
  (5, .one (.int .u8)),
  (9, .one (.str)),
  (22, .one (.slice (.int .i64))),
  (23, .one (.slice (.pair (.int .i64) (.pair (.pair (.int .i64) (.int .i64)) (.int .i64))))),
  (25, .struct [(0, 22), (1, 23), (2, 3), (3, 3), (4, 3)] [.slice (.int .i64), .slice (.pair (.int .i64) (.pair (.pair (.int .i64) (.int .i64)) (.int .i64))), .int .i64, .int .i64, .int .i64] false),
  (28, .one (.slice (.pair (.int .i64) (.pair (.pair (.int .i64) (.int .i64)) (.int .i64))))),
  (30, .struct [(0, 22), (1, 28), (2, 3), (3, 3), (4, 3)] [.slice (.int .i64), .slice (.pair (.int .i64) (.pair (.pair (.int .i64) (.int .i64)) (.int .i64))), .int .i64, .int .i64, .int .i64] false),
  (39, .struct [(0, 22), (1, 3)] [.slice (.int .i64), .int .i64] false),
  (42, .struct [(0, 22), (1, 3)] [.slice (.int .i64), .int .i64] false),
  (46, .one (.slice (.int .u8))),
  (49, .one (.slice (.slice (.int .i64)))),
  (63, .struct [(0, 3), (1, 3)] [.int .i64, .int .i64] true),
  (73, .one (.slice (.str))),
  (85, .one (.slice (.bool))),
  (98, .struct [(0, 3), (1, 63), (3, 3)] [.int .i64, .int .i64, .int .i64, .int .i64] true),
  (100, .struct [(0, 3), (1, 3)] [.int .i64, .int .i64] true),
  (102, .struct [(0, 3), (1, 100), (3, 3)] [.int .i64, .int .i64, .int .i64, .int .i64] true),
  (105, .arr 12 (.bool)),
  (1000046, .bytes)]

/-! ### w_szIntS -/
noncomputable def w_szIntS_c : Code := (Go.Proofs.Tryd.f44.body).getD .skip
noncomputable def w_szIntS_h : Nat → Option (List Hint)
  | _ => none
noncomputable def w_szIntS_fi : Fi := ⟨[.v (.slice (.int .i64)) false, .v (.int .i64) false], [(false, [⟨.int .i64, none⟩])], none, w_szIntS_c, Go.Proofs.Tryd.f44.results.toList, 12, w_szIntS_h⟩
/-! ### w_szStepS -/
noncomputable def w_szStepS_c : Code := (Go.Proofs.Tryd.f45.body).getD .skip
noncomputable def w_szStepS_h : Nat → Option (List Hint)
  | _ => none
noncomputable def w_szStepS_fi : Fi := ⟨[.v (.slice (.pair (.int .i64) (.pair (.pair (.int .i64) (.int .i64)) (.int .i64)))) false, .v (.int .i64) false], [(false, [⟨.int .i64, none⟩])], none, w_szStepS_c, Go.Proofs.Tryd.f45.results.toList, 12, w_szStepS_h⟩
/-! ### w_szTrick -/
noncomputable def w_szTrick_c : Code := (Go.Proofs.Tryd.f11.body).getD .skip
noncomputable def w_szTrick_h : Nat → Option (List Hint)
  | _ => none
noncomputable def w_szTrick_fi : Fi := ⟨[.v (.pair (.slice (.int .i64)) (.pair (.slice (.pair (.int .i64) (.pair (.pair (.int .i64) (.int .i64)) (.int .i64)))) (.pair (.int .i64) (.pair (.int .i64) (.int .i64))))) true, .v (.int .i64) false], [(false, [⟨.int .i64, none⟩])], none, w_szTrick_c, Go.Proofs.Tryd.f11.results.toList, 18, w_szTrick_h⟩
/-! ### w_toIntS -/
noncomputable def w_toIntS_c : Code := (Go.Proofs.Tryd.f17.body).getD .skip
noncomputable def w_toIntS_h : Nat → Option (List Hint)
  | 3 => some [.keep 0, .cell 3 (.row 100003 (.int .i64) true false), .keep 4]
  | _ => none
noncomputable def w_toIntS_fi : Fi := ⟨[.v (.slice (.int .i64)) false], [(false, [⟨.slice (.int .i64), some (true, false)⟩])], none, w_toIntS_c, Go.Proofs.Tryd.f17.results.toList, 22, w_toIntS_h⟩
/-! ### w_toMove -/
noncomputable def w_toMove_c : Code := (Go.Proofs.Tryd.f120.body).getD .skip
noncomputable def w_toMove_h : Nat → Option (List Hint)
  | _ => none
noncomputable def w_toMove_fi : Fi := ⟨[.v (.pair (.int .i64) (.int .i64)) true], [(true, [⟨.int .i64, none⟩, ⟨.int .i64, none⟩])], none, w_toMove_c, Go.Proofs.Tryd.f120.results.toList, 11, w_toMove_h⟩
/-! ### w_toStep -/
noncomputable def w_toStep_c : Code := (Go.Proofs.Tryd.f86.body).getD .skip
noncomputable def w_toStep_h : Nat → Option (List Hint)
  | _ => none
noncomputable def w_toStep_fi : Fi := ⟨[.v (.pair (.int .i64) (.pair (.pair (.int .i64) (.int .i64)) (.int .i64))) true], [(true, [⟨.int .i64, none⟩, ⟨.int .i64, none⟩, ⟨.int .i64, none⟩, ⟨.int .i64, none⟩])], none, w_toStep_c, Go.Proofs.Tryd.f86.results.toList, 15, w_toStep_h⟩
/-! ### w_toStepS -/
noncomputable def w_toStepS_c : Code := (Go.Proofs.Tryd.f47.body).getD .skip
noncomputable def w_toStepS_h : Nat → Option (List Hint)
  | 3 => some [.keep 0, .cell 3 (.row 100003 (.pair (.int .i64) (.pair (.pair (.int .i64) (.int .i64)) (.int .i64))) true false), .keep 4]
  | _ => none
noncomputable def w_toStepS_fi : Fi := ⟨[.v (.slice (.pair (.int .i64) (.pair (.pair (.int .i64) (.int .i64)) (.int .i64)))) false], [(false, [⟨.slice (.pair (.int .i64) (.pair (.pair (.int .i64) (.int .i64)) (.int .i64))), some (true, false)⟩])], none, w_toStepS_c, Go.Proofs.Tryd.f47.results.toList, 23, w_toStepS_h⟩
/-! ### w_toTrick -/
noncomputable def w_toTrick_c : Code := (Go.Proofs.Tryd.f13.body).getD .skip
noncomputable def w_toTrick_h : Nat → Option (List Hint)
  | _ => none
noncomputable def w_toTrick_fi : Fi := ⟨[.v (.pair (.slice (.int .i64)) (.pair (.slice (.pair (.int .i64) (.pair (.pair (.int .i64) (.int .i64)) (.int .i64)))) (.pair (.int .i64) (.pair (.int .i64) (.int .i64))))) true], [(true, [⟨.slice (.int .i64), some (true, false)⟩, ⟨.slice (.pair (.int .i64) (.pair (.pair (.int .i64) (.int .i64)) (.int .i64))), some (true, false)⟩, ⟨.int .i64, none⟩, ⟨.int .i64, none⟩, ⟨.int .i64, none⟩])], none, w_toTrick_c, Go.Proofs.Tryd.f13.results.toList, 22, w_toTrick_h⟩
/-! ### s_FormatInt -/
noncomputable def s_FormatInt_c : Code := (Go.Proofs.Tryd.f46.body).getD .skip
noncomputable def s_FormatInt_h : Nat → Option (List Hint)
  | 6 => some [.keep 0, .keep 3]
  | _ => none
noncomputable def s_FormatInt_fi : Fi := ⟨[.v (.int .i64) false], [(false, [⟨.str, none⟩])], none, s_FormatInt_c, Go.Proofs.Tryd.f46.results.toList, 44, s_FormatInt_h⟩
/-! ### s_FormatClaim -/
noncomputable def s_FormatClaim_c : Code := (Go.Proofs.Tryd.f12.body).getD .skip
noncomputable def s_FormatClaim_h : Nat → Option (List Hint)
  | _ => none
noncomputable def s_FormatClaim_fi : Fi := ⟨[.v (.pair (.slice (.int .i64)) (.pair (.slice (.pair (.int .i64) (.pair (.pair (.int .i64) (.int .i64)) (.int .i64)))) (.pair (.int .i64) (.pair (.int .i64) (.int .i64))))) true], [(false, [⟨.str, none⟩])], none, s_FormatClaim_c, Go.Proofs.Tryd.f12.results.toList, 32, s_FormatClaim_h⟩
/-! ### strconv_Itoa -/
noncomputable abbrev strconv_Itoa_fi : Fi := itoaFi
/-! ### i_FormatInt -/
noncomputable def i_FormatInt_c : Code := (Go.Proofs.Tryd.f48.body).getD .skip
noncomputable def i_FormatInt_h : Nat → Option (List Hint)
  | _ => none
noncomputable def i_FormatInt_fi : Fi := ⟨[.v (.int .i64) false], [(false, [⟨.str, none⟩])], none, i_FormatInt_c, Go.Proofs.Tryd.f48.results.toList, 5, i_FormatInt_h⟩
/-! ### i_FormatClaim -/
noncomputable def i_FormatClaim_c : Code := (Go.Proofs.Tryd.f14.body).getD .skip
noncomputable def i_FormatClaim_h : Nat → Option (List Hint)
  | _ => none
noncomputable def i_FormatClaim_fi : Fi := ⟨[.v (.pair (.slice (.int .i64)) (.pair (.slice (.pair (.int .i64) (.pair (.pair (.int .i64) (.int .i64)) (.int .i64)))) (.pair (.int .i64) (.pair (.int .i64) (.int .i64))))) true], [(false, [⟨.str, none⟩])], none, i_FormatClaim_c, Go.Proofs.Tryd.f14.results.toList, 32, i_FormatClaim_h⟩
/-! ### w_eqIntS -/
noncomputable def w_eqIntS_c : Code := (Go.Proofs.Tryd.f19.body).getD .skip
noncomputable def w_eqIntS_h : Nat → Option (List Hint)
  | 4 => some [.keep 0, .keep 1, .keep 5]
  | _ => none
noncomputable def w_eqIntS_fi : Fi := ⟨[.v (.slice (.int .i64)) false, .v (.slice (.int .i64)) false], [(false, [⟨.bool, none⟩])], none, w_eqIntS_c, Go.Proofs.Tryd.f19.results.toList, 26, w_eqIntS_h⟩
/-! ### w_eqMove -/
noncomputable def w_eqMove_c : Code := (Go.Proofs.Tryd.f43.body).getD .skip
noncomputable def w_eqMove_h : Nat → Option (List Hint)
  | _ => none
noncomputable def w_eqMove_fi : Fi := ⟨[.v (.pair (.int .i64) (.int .i64)) true, .v (.pair (.int .i64) (.int .i64)) true], [(false, [⟨.bool, none⟩])], none, w_eqMove_c, Go.Proofs.Tryd.f43.results.toList, 15, w_eqMove_h⟩
/-! ### w_eqStep -/
noncomputable def w_eqStep_c : Code := (Go.Proofs.Tryd.f88.body).getD .skip
noncomputable def w_eqStep_h : Nat → Option (List Hint)
  | _ => none
noncomputable def w_eqStep_fi : Fi := ⟨[.v (.pair (.int .i64) (.pair (.pair (.int .i64) (.int .i64)) (.int .i64))) true, .v (.pair (.int .i64) (.pair (.pair (.int .i64) (.int .i64)) (.int .i64))) true], [(false, [⟨.bool, none⟩])], none, w_eqStep_c, Go.Proofs.Tryd.f88.results.toList, 21, w_eqStep_h⟩
/-! ### w_eqStepS -/
noncomputable def w_eqStepS_c : Code := (Go.Proofs.Tryd.f49.body).getD .skip
noncomputable def w_eqStepS_h : Nat → Option (List Hint)
  | 4 => some [.keep 0, .keep 1, .keep 5]
  | _ => none
noncomputable def w_eqStepS_fi : Fi := ⟨[.v (.slice (.pair (.int .i64) (.pair (.pair (.int .i64) (.int .i64)) (.int .i64)))) false, .v (.slice (.pair (.int .i64) (.pair (.pair (.int .i64) (.int .i64)) (.int .i64)))) false], [(false, [⟨.bool, none⟩])], none, w_eqStepS_c, Go.Proofs.Tryd.f49.results.toList, 27, w_eqStepS_h⟩
/-! ### w_eqTrick -/
noncomputable def w_eqTrick_c : Code := (Go.Proofs.Tryd.f15.body).getD .skip
noncomputable def w_eqTrick_h : Nat → Option (List Hint)
  | _ => none
noncomputable def w_eqTrick_fi : Fi := ⟨[.v (.pair (.slice (.int .i64)) (.pair (.slice (.pair (.int .i64) (.pair (.pair (.int .i64) (.int .i64)) (.int .i64)))) (.pair (.int .i64) (.pair (.int .i64) (.int .i64))))) true, .v (.pair (.slice (.int .i64)) (.pair (.slice (.pair (.int .i64) (.pair (.pair (.int .i64) (.int .i64)) (.int .i64)))) (.pair (.int .i64) (.pair (.int .i64) (.int .i64))))) true], [(false, [⟨.bool, none⟩])], none, w_eqTrick_c, Go.Proofs.Tryd.f15.results.toList, 32, w_eqTrick_h⟩
/-! ### w_FnExactFormatClaim -/
noncomputable def w_FnExactFormatClaim_c : Code := (Go.Proofs.Tryd.f3.body).getD .skip
noncomputable def w_FnExactFormatClaim_h : Nat → Option (List Hint)
  | _ => none
noncomputable def w_FnExactFormatClaim_fi : Fi := ⟨[.v (.pair (.slice (.int .i64)) (.pair (.slice (.pair (.int .i64) (.pair (.pair (.int .i64) (.int .i64)) (.int .i64)))) (.pair (.int .i64) (.pair (.int .i64) (.int .i64))))) true], [(false, [⟨.bool, none⟩])], none, w_FnExactFormatClaim_c, Go.Proofs.Tryd.f3.results.toList, 27, w_FnExactFormatClaim_h⟩
/-! ### s_l01In -/
noncomputable def s_l01In_c : Code := (Go.Proofs.Tryd.f63.body).getD .skip
noncomputable def s_l01In_h : Nat → Option (List Hint)
  | _ => none
noncomputable def s_l01In_fi : Fi := ⟨[.v (.int .i64) false, .v (.int .i64) false, .v (.int .i64) false], [(false, [⟨.bool, none⟩])], none, s_l01In_c, Go.Proofs.Tryd.f63.results.toList, 15, s_l01In_h⟩
/-! ### s_CardOf -/
noncomputable def s_CardOf_c : Code := (Go.Proofs.Tryd.f51.body).getD .skip
noncomputable def s_CardOf_h : Nat → Option (List Hint)
  | _ => none
noncomputable def s_CardOf_fi : Fi := ⟨[.v (.int .i64) false], [(false, [⟨.int .i64, none⟩])], none, s_CardOf_c, Go.Proofs.Tryd.f51.results.toList, 10, s_CardOf_h⟩
/-! ### s_l02Has -/
noncomputable def s_l02Has_c : Code := (Go.Proofs.Tryd.f89.body).getD .skip
noncomputable def s_l02Has_h : Nat → Option (List Hint)
  | 2 => some [.keep 1, .keep 7, .keep 8, .keep 9]
  | _ => none
noncomputable def s_l02Has_fi : Fi := ⟨[.v (.slice (.int .i64)) false, .v (.int .i64) false], [(false, [⟨.bool, none⟩])], none, s_l02Has_c, Go.Proofs.Tryd.f89.results.toList, 17, s_l02Has_h⟩
/-! ### s_PacketOk -/
noncomputable def s_PacketOk_c : Code := (Go.Proofs.Tryd.f50.body).getD .skip
noncomputable def s_PacketOk_h : Nat → Option (List Hint)
  | 5 => some [.cell 3 (.row 100003 (.int .i64) true false), .keep 11, .keep 12, .keep 13]
  | _ => none
noncomputable def s_PacketOk_fi : Fi := ⟨[.v (.slice (.int .i64)) false], [(false, [⟨.bool, none⟩])], none, s_PacketOk_c, Go.Proofs.Tryd.f50.results.toList, 31, s_PacketOk_h⟩
/-! ### s_IsUp -/
noncomputable def s_IsUp_c : Code := (Go.Proofs.Tryd.f52.body).getD .skip
noncomputable def s_IsUp_h : Nat → Option (List Hint)
  | _ => none
noncomputable def s_IsUp_fi : Fi := ⟨[.v (.int .i64) false], [(false, [⟨.bool, none⟩])], none, s_IsUp_c, Go.Proofs.Tryd.f52.results.toList, 5, s_IsUp_h⟩
/-! ### s_Join -/
noncomputable def s_Join_c : Code := (Go.Proofs.Tryd.f53.body).getD .skip
noncomputable def s_Join_h : Nat → Option (List Hint)
  | 3 => some [.keep 1, .keep 5, .keep 8, .keep 9, .keep 10]
  | _ => none
noncomputable def s_Join_fi : Fi := ⟨[.v (.slice (.str)) false, .v (.str) false], [(false, [⟨.str, none⟩])], none, s_Join_c, Go.Proofs.Tryd.f53.results.toList, 25, s_Join_h⟩
/-! ### s_FormatPacket -/
noncomputable def s_FormatPacket_c : Code := (Go.Proofs.Tryd.f16.body).getD .skip
noncomputable def s_FormatPacket_h : Nat → Option (List Hint)
  | 5 => some [.cell 3 (.row 100003 (.str) true false), .keep 11, .keep 12, .keep 13]
  | _ => none
noncomputable def s_FormatPacket_fi : Fi := ⟨[.v (.slice (.int .i64)) false], [(false, [⟨.str, none⟩])], none, s_FormatPacket_c, Go.Proofs.Tryd.f16.results.toList, 34, s_FormatPacket_h⟩
/-! ### i_CardOf -/
noncomputable def i_CardOf_c : Code := (Go.Proofs.Tryd.f55.body).getD .skip
noncomputable def i_CardOf_h : Nat → Option (List Hint)
  | _ => none
noncomputable def i_CardOf_fi : Fi := ⟨[.v (.int .i64) false], [(false, [⟨.int .i64, none⟩])], none, i_CardOf_c, Go.Proofs.Tryd.f55.results.toList, 10, i_CardOf_h⟩
/-! ### i_PacketOk -/
noncomputable def i_PacketOk_c : Code := (Go.Proofs.Tryd.f54.body).getD .skip
noncomputable def i_PacketOk_h : Nat → Option (List Hint)
  | 3 => some [.arr 3 400003, .keep 7, .keep 8, .keep 9]
  | _ => none
noncomputable def i_PacketOk_fi : Fi := ⟨[.v (.slice (.int .i64)) false], [(false, [⟨.bool, none⟩])], none, i_PacketOk_c, Go.Proofs.Tryd.f54.results.toList, 25, i_PacketOk_h⟩
/-! ### i_IsUp -/
noncomputable def i_IsUp_c : Code := (Go.Proofs.Tryd.f56.body).getD .skip
noncomputable def i_IsUp_h : Nat → Option (List Hint)
  | _ => none
noncomputable def i_IsUp_fi : Fi := ⟨[.v (.int .i64) false], [(false, [⟨.bool, none⟩])], none, i_IsUp_c, Go.Proofs.Tryd.f56.results.toList, 10, i_IsUp_h⟩
/-! ### strings_Join -/
noncomputable abbrev strings_Join_fi : Fi := joinFi
/-! ### i_Join -/
noncomputable def i_Join_c : Code := (Go.Proofs.Tryd.f57.body).getD .skip
noncomputable def i_Join_h : Nat → Option (List Hint)
  | _ => none
noncomputable def i_Join_fi : Fi := ⟨[.v (.slice (.str)) false, .v (.str) false], [(false, [⟨.str, none⟩])], none, i_Join_c, Go.Proofs.Tryd.f57.results.toList, 8, i_Join_h⟩
/-! ### i_FormatPacket -/
noncomputable def i_FormatPacket_c : Code := (Go.Proofs.Tryd.f18.body).getD .skip
noncomputable def i_FormatPacket_h : Nat → Option (List Hint)
  | 7 => some [.cell 3 (.row 100003 (.str) true true), .keep 13, .keep 14, .keep 15]
  | _ => none
noncomputable def i_FormatPacket_fi : Fi := ⟨[.v (.slice (.int .i64)) false], [(false, [⟨.str, none⟩])], none, i_FormatPacket_c, Go.Proofs.Tryd.f18.results.toList, 33, i_FormatPacket_h⟩
/-! ### w_FnExactFormatPacket -/
noncomputable def w_FnExactFormatPacket_c : Code := (Go.Proofs.Tryd.f4.body).getD .skip
noncomputable def w_FnExactFormatPacket_h : Nat → Option (List Hint)
  | _ => none
noncomputable def w_FnExactFormatPacket_fi : Fi := ⟨[.v (.slice (.int .i64)) false], [(false, [⟨.bool, none⟩])], none, w_FnExactFormatPacket_c, Go.Proofs.Tryd.f4.results.toList, 24, w_FnExactFormatPacket_h⟩
/-! ### s_PermOk -/
noncomputable def s_PermOk_c : Code := (Go.Proofs.Tryd.f58.body).getD .skip
noncomputable def s_PermOk_h : Nat → Option (List Hint)
  | 4 => some [.keep 0, .keep 8, .keep 9, .keep 10]
  | _ => none
noncomputable def s_PermOk_fi : Fi := ⟨[.v (.slice (.int .i64)) false], [(false, [⟨.bool, none⟩])], none, s_PermOk_c, Go.Proofs.Tryd.f58.results.toList, 29, s_PermOk_h⟩
/-! ### s_CyclesOf -/
noncomputable def s_CyclesOf_c : Code := (Go.Proofs.Tryd.f59.body).getD .skip
noncomputable def s_CyclesOf_h : Nat → Option (List Hint)
  | 6 => some [.keep 0, .cell 3 (.row 100003 (.slice (.int .i64)) true false), .cell 4 (.row 100004 (.bool) true false), .keep 16, .keep 17]
  | 11 => some [.keep 0, .cell 3 (.row 100003 (.slice (.int .i64)) true false), .cell 4 (.row 100004 (.bool) true false), .cell 6 (.row 100006 (.int .i64) true false), .keep 7, .keep 16, .keep 17]
  | _ => none
noncomputable def s_CyclesOf_fi : Fi := ⟨[.v (.slice (.int .i64)) false], [(false, [⟨.slice (.slice (.int .i64)), some (true, false)⟩])], none, s_CyclesOf_c, Go.Proofs.Tryd.f59.results.toList, 48, s_CyclesOf_h⟩
/-! ### s_CyclesLine -/
noncomputable def s_CyclesLine_c : Code := (Go.Proofs.Tryd.f20.body).getD .skip
noncomputable def s_CyclesLine_h : Nat → Option (List Hint)
  | 5 => some [.keep 3, .cell 13 (.row 100013 (.slice (.int .i64)) false false), .keep 14, .keep 15]
  | 9 => some [.keep 3, .cell 6 (.row 100006 (.str) true false), .cell 13 (.row 100013 (.slice (.int .i64)) false false), .keep 14, .keep 15, .keep 20, .keep 21, .keep 22]
  | _ => none
noncomputable def s_CyclesLine_fi : Fi := ⟨[.v (.slice (.int .i64)) false], [(false, [⟨.str, none⟩])], none, s_CyclesLine_c, Go.Proofs.Tryd.f20.results.toList, 42, s_CyclesLine_h⟩
/-! ### slices_Index_int -/
noncomputable def slices_Index_int_c : Code := (Go.Proofs.Tryd.f125.body).getD .skip
noncomputable def slices_Index_int_h : Nat → Option (List Hint)
  | 2 => some [.keep 0, .keep 1, .keep 7, .keep 8]
  | _ => none
noncomputable def slices_Index_int_fi : Fi := ⟨[.v (.slice (.int .i64)) false, .v (.int .i64) false], [(false, [⟨.int .i64, none⟩])], none, slices_Index_int_c, Go.Proofs.Tryd.f125.results.toList, 19, slices_Index_int_h⟩
/-! ### slices_Contains_int -/
noncomputable def slices_Contains_int_c : Code := (Go.Proofs.Tryd.f91.body).getD .skip
noncomputable def slices_Contains_int_h : Nat → Option (List Hint)
  | _ => none
noncomputable def slices_Contains_int_fi : Fi := ⟨[.v (.slice (.int .i64)) false, .v (.int .i64) false], [(false, [⟨.bool, none⟩])], none, slices_Contains_int_c, Go.Proofs.Tryd.f91.results.toList, 9, slices_Contains_int_h⟩
/-! ### i_PermOk -/
noncomputable def i_PermOk_c : Code := (Go.Proofs.Tryd.f60.body).getD .skip
noncomputable def i_PermOk_h : Nat → Option (List Hint)
  | 2 => some [.keep 0, .keep 5, .keep 6, .keep 7]
  | _ => none
noncomputable def i_PermOk_fi : Fi := ⟨[.v (.slice (.int .i64)) false], [(false, [⟨.bool, none⟩])], none, i_PermOk_c, Go.Proofs.Tryd.f60.results.toList, 31, i_PermOk_h⟩
/-! ### i_CyclesOf -/
noncomputable def i_CyclesOf_c : Code := (Go.Proofs.Tryd.f61.body).getD .skip
noncomputable def i_CyclesOf_h : Nat → Option (List Hint)
  | 6 => some [.keep 0, .cell 3 (.row 100003 (.slice (.int .i64)) true true), .cell 4 (.row 100004 (.bool) true false), .keep 15, .keep 16]
  | 10 => some [.keep 0, .cell 3 (.row 100003 (.slice (.int .i64)) true true), .cell 4 (.row 100004 (.bool) true false), .cell 6 (.row 100006 (.int .i64) true true), .keep 7, .keep 15, .keep 16]
  | _ => none
noncomputable def i_CyclesOf_fi : Fi := ⟨[.v (.slice (.int .i64)) false], [(false, [⟨.slice (.slice (.int .i64)), some (true, true)⟩])], none, i_CyclesOf_c, Go.Proofs.Tryd.f61.results.toList, 44, i_CyclesOf_h⟩
/-! ### i_numbersOf -/
noncomputable def i_numbersOf_c : Code := (Go.Proofs.Tryd.f62.body).getD .skip
noncomputable def i_numbersOf_h : Nat → Option (List Hint)
  | 3 => some [.cell 3 (.row 100003 (.str) true true), .keep 6, .keep 7, .keep 8]
  | _ => none
noncomputable def i_numbersOf_fi : Fi := ⟨[.v (.slice (.int .i64)) false], [(false, [⟨.slice (.str), some (true, true)⟩])], none, i_numbersOf_c, Go.Proofs.Tryd.f62.results.toList, 19, i_numbersOf_h⟩
/-! ### i_CyclesLine -/
noncomputable def i_CyclesLine_c : Code := (Go.Proofs.Tryd.f21.body).getD .skip
noncomputable def i_CyclesLine_h : Nat → Option (List Hint)
  | 7 => some [.keep 3, .cell 13 (.row 100013 (.slice (.int .i64)) false true), .keep 14, .keep 15]
  | _ => none
noncomputable def i_CyclesLine_fi : Fi := ⟨[.v (.slice (.int .i64)) false], [(false, [⟨.str, none⟩])], none, i_CyclesLine_c, Go.Proofs.Tryd.f21.results.toList, 28, i_CyclesLine_h⟩
/-! ### w_FnExactCyclesLine -/
noncomputable def w_FnExactCyclesLine_c : Code := (Go.Proofs.Tryd.f5.body).getD .skip
noncomputable def w_FnExactCyclesLine_h : Nat → Option (List Hint)
  | _ => none
noncomputable def w_FnExactCyclesLine_fi : Fi := ⟨[.v (.slice (.int .i64)) false], [(false, [⟨.bool, none⟩])], none, w_FnExactCyclesLine_c, Go.Proofs.Tryd.f5.results.toList, 24, w_FnExactCyclesLine_h⟩
/-! ### w_szScene -/
noncomputable def w_szScene_c : Code := (Go.Proofs.Tryd.f22.body).getD .skip
noncomputable def w_szScene_h : Nat → Option (List Hint)
  | _ => none
noncomputable def w_szScene_fi : Fi := ⟨[.v (.pair (.slice (.int .i64)) (.int .i64)) true, .v (.int .i64) false], [(false, [⟨.int .i64, none⟩])], none, w_szScene_c, Go.Proofs.Tryd.f22.results.toList, 12, w_szScene_h⟩
/-! ### w_toScene -/
noncomputable def w_toScene_c : Code := (Go.Proofs.Tryd.f24.body).getD .skip
noncomputable def w_toScene_h : Nat → Option (List Hint)
  | _ => none
noncomputable def w_toScene_fi : Fi := ⟨[.v (.pair (.slice (.int .i64)) (.int .i64)) true], [(true, [⟨.slice (.int .i64), some (true, false)⟩, ⟨.int .i64, none⟩])], none, w_toScene_c, Go.Proofs.Tryd.f24.results.toList, 12, w_toScene_h⟩
/-! ### s_SceneLine -/
noncomputable def s_SceneLine_c : Code := (Go.Proofs.Tryd.f23.body).getD .skip
noncomputable def s_SceneLine_h : Nat → Option (List Hint)
  | _ => none
noncomputable def s_SceneLine_fi : Fi := ⟨[.v (.pair (.slice (.int .i64)) (.int .i64)) true], [(false, [⟨.str, none⟩])], none, s_SceneLine_c, Go.Proofs.Tryd.f23.results.toList, 21, s_SceneLine_h⟩
/-! ### i_SceneLine -/
noncomputable def i_SceneLine_c : Code := (Go.Proofs.Tryd.f25.body).getD .skip
noncomputable def i_SceneLine_h : Nat → Option (List Hint)
  | _ => none
noncomputable def i_SceneLine_fi : Fi := ⟨[.v (.pair (.slice (.int .i64)) (.int .i64)) true], [(false, [⟨.str, none⟩])], none, i_SceneLine_c, Go.Proofs.Tryd.f25.results.toList, 26, i_SceneLine_h⟩
/-! ### w_eqScene -/
noncomputable def w_eqScene_c : Code := (Go.Proofs.Tryd.f26.body).getD .skip
noncomputable def w_eqScene_h : Nat → Option (List Hint)
  | _ => none
noncomputable def w_eqScene_fi : Fi := ⟨[.v (.pair (.slice (.int .i64)) (.int .i64)) true, .v (.pair (.slice (.int .i64)) (.int .i64)) true], [(false, [⟨.bool, none⟩])], none, w_eqScene_c, Go.Proofs.Tryd.f26.results.toList, 16, w_eqScene_h⟩
/-! ### w_FnExactSceneLine -/
noncomputable def w_FnExactSceneLine_c : Code := (Go.Proofs.Tryd.f6.body).getD .skip
noncomputable def w_FnExactSceneLine_h : Nat → Option (List Hint)
  | _ => none
noncomputable def w_FnExactSceneLine_fi : Fi := ⟨[.v (.pair (.slice (.int .i64)) (.int .i64)) true], [(false, [⟨.bool, none⟩])], none, w_FnExactSceneLine_c, Go.Proofs.Tryd.f6.results.toList, 27, w_FnExactSceneLine_h⟩
/-! ### w_szIntSS -/
noncomputable def w_szIntSS_c : Code := (Go.Proofs.Tryd.f31.body).getD .skip
noncomputable def w_szIntSS_h : Nat → Option (List Hint)
  | 5 => some [.keep 0, .keep 1, .keep 5]
  | _ => none
noncomputable def w_szIntSS_fi : Fi := ⟨[.v (.slice (.slice (.int .i64))) false, .v (.int .i64) false], [(false, [⟨.int .i64, none⟩])], none, w_szIntSS_c, Go.Proofs.Tryd.f31.results.toList, 27, w_szIntSS_h⟩
/-! ### w_toIntSS -/
noncomputable def w_toIntSS_c : Code := (Go.Proofs.Tryd.f33.body).getD .skip
noncomputable def w_toIntSS_h : Nat → Option (List Hint)
  | 3 => some [.keep 0, .cell 3 (.row 100003 (.slice (.int .i64)) true false), .keep 4]
  | _ => none
noncomputable def w_toIntSS_fi : Fi := ⟨[.v (.slice (.slice (.int .i64))) false], [(false, [⟨.slice (.slice (.int .i64)), some (true, false)⟩])], none, w_toIntSS_c, Go.Proofs.Tryd.f33.results.toList, 23, w_toIntSS_h⟩
/-! ### s_PositionOf -/
noncomputable def s_PositionOf_c : Code := (Go.Proofs.Tryd.f126.body).getD .skip
noncomputable def s_PositionOf_h : Nat → Option (List Hint)
  | 2 => some [.keep 1, .keep 7, .keep 8, .keep 9]
  | _ => none
noncomputable def s_PositionOf_fi : Fi := ⟨[.v (.slice (.int .i64)) false, .v (.int .i64) false], [(false, [⟨.int .i64, none⟩])], none, s_PositionOf_c, Go.Proofs.Tryd.f126.results.toList, 24, s_PositionOf_h⟩
/-! ### s_IsArrangement -/
noncomputable def s_IsArrangement_c : Code := (Go.Proofs.Tryd.f96.body).getD .skip
noncomputable def s_IsArrangement_h : Nat → Option (List Hint)
  | 4 => some [.keep 1, .keep 22, .keep 23, .keep 24]
  | _ => none
noncomputable def s_IsArrangement_fi : Fi := ⟨[.v (.slice (.int .i64)) false, .v (.slice (.int .i64)) false], [(false, [⟨.bool, none⟩])], none, s_IsArrangement_c, Go.Proofs.Tryd.f96.results.toList, 34, s_IsArrangement_h⟩
/-! ### s_l05Less -/
noncomputable def s_l05Less_c : Code := (Go.Proofs.Tryd.f97.body).getD .skip
noncomputable def s_l05Less_h : Nat → Option (List Hint)
  | 2 => some [.keep 0, .keep 1, .keep 7, .keep 8, .keep 9]
  | _ => none
noncomputable def s_l05Less_fi : Fi := ⟨[.v (.slice (.int .i64)) false, .v (.slice (.int .i64)) false], [(false, [⟨.bool, none⟩])], none, s_l05Less_c, Go.Proofs.Tryd.f97.results.toList, 36, s_l05Less_h⟩
/-! ### s_KnowOk -/
noncomputable def s_KnowOk_c : Code := (Go.Proofs.Tryd.f67.body).getD .skip
noncomputable def s_KnowOk_h : Nat → Option (List Hint)
  | 4 => some [.keep 0, .keep 16, .keep 17, .keep 18]
  | _ => none
noncomputable def s_KnowOk_fi : Fi := ⟨[.v (.slice (.slice (.int .i64))) false], [(false, [⟨.bool, none⟩])], none, s_KnowOk_c, Go.Proofs.Tryd.f67.results.toList, 44, s_KnowOk_h⟩
/-! ### s_KnownAt -/
noncomputable def s_KnownAt_c : Code := (Go.Proofs.Tryd.f68.body).getD .skip
noncomputable def s_KnownAt_h : Nat → Option (List Hint)
  | 4 => some [.keep 0, .keep 1, .keep 20, .keep 21, .keep 22]
  | _ => none
noncomputable def s_KnownAt_fi : Fi := ⟨[.v (.slice (.slice (.int .i64))) false, .v (.int .i64) false], [(false, [⟨.int .i64, none⟩])], none, s_KnownAt_c, Go.Proofs.Tryd.f68.results.toList, 47, s_KnownAt_h⟩
/-! ### s_KnowLine -/
noncomputable def s_KnowLine_c : Code := (Go.Proofs.Tryd.f32.body).getD .skip
noncomputable def s_KnowLine_h : Nat → Option (List Hint)
  | 5 => some [.keep 0, .keep 3, .keep 16, .keep 17]
  | _ => none
noncomputable def s_KnowLine_fi : Fi := ⟨[.v (.slice (.slice (.int .i64))) false], [(false, [⟨.str, none⟩])], none, s_KnowLine_c, Go.Proofs.Tryd.f32.results.toList, 34, s_KnowLine_h⟩
/-! ### i_PositionOf_1 -/
noncomputable def i_PositionOf_1_c : Code := (Go.Proofs.Tryd.f140.body).getD .skip
noncomputable def i_PositionOf_1_h : Nat → Option (List Hint)
  | _ => none
noncomputable def i_PositionOf_1_fi : Fi := ⟨[.v (.int .i64) false, .r (.int .i64)], [(false, [⟨.bool, none⟩])], none, i_PositionOf_1_c, Go.Proofs.Tryd.f140.results.toList, 8, i_PositionOf_1_h⟩
/-! ### slices_IndexFunc_int_of_i_PositionOf_1 -/
noncomputable def slices_IndexFunc_int_of_i_PositionOf_1_c : Code := (Go.Proofs.Tryd.f139.body).getD .skip
noncomputable def slices_IndexFunc_int_of_i_PositionOf_1_h : Nat → Option (List Hint)
  | 2 => some [.keep 0, .keep 1, .keep 7, .keep 8]
  | _ => none
noncomputable def slices_IndexFunc_int_of_i_PositionOf_1_fi : Fi := ⟨[.v (.slice (.int .i64)) false, .fn 140 [.int .i64]], [(false, [⟨.int .i64, none⟩])], none, slices_IndexFunc_int_of_i_PositionOf_1_c, Go.Proofs.Tryd.f139.results.toList, 19, slices_IndexFunc_int_of_i_PositionOf_1_h⟩
/-! ### i_PositionOf -/
noncomputable def i_PositionOf_c : Code := (Go.Proofs.Tryd.f129.body).getD .skip
noncomputable def i_PositionOf_h : Nat → Option (List Hint)
  | _ => none
noncomputable def i_PositionOf_fi : Fi := ⟨[.v (.slice (.int .i64)) false, .v (.int .i64) false], [(false, [⟨.int .i64, none⟩])], none, i_PositionOf_c, Go.Proofs.Tryd.f129.results.toList, 10, i_PositionOf_h⟩
/-! ### i_IsArrangement_1 -/
noncomputable def i_IsArrangement_1_c : Code := (Go.Proofs.Tryd.f128.body).getD .skip
noncomputable def i_IsArrangement_1_h : Nat → Option (List Hint)
  | _ => none
noncomputable def i_IsArrangement_1_fi : Fi := ⟨[.v (.int .i64) false, .r (.slice (.int .i64))], [(false, [⟨.bool, none⟩])], none, i_IsArrangement_1_c, Go.Proofs.Tryd.f128.results.toList, 9, i_IsArrangement_1_h⟩
/-! ### slices_IndexFunc_int_of_i_IsArrangement_1 -/
noncomputable def slices_IndexFunc_int_of_i_IsArrangement_1_c : Code := (Go.Proofs.Tryd.f139.body).getD .skip
noncomputable def slices_IndexFunc_int_of_i_IsArrangement_1_h : Nat → Option (List Hint)
  | 2 => some [.keep 0, .keep 1, .keep 7, .keep 8]
  | _ => none
noncomputable def slices_IndexFunc_int_of_i_IsArrangement_1_fi : Fi := ⟨[.v (.slice (.int .i64)) false, .fn 128 [.slice (.int .i64)]], [(false, [⟨.int .i64, none⟩])], none, slices_IndexFunc_int_of_i_IsArrangement_1_c, Go.Proofs.Tryd.f139.results.toList, 19, slices_IndexFunc_int_of_i_IsArrangement_1_h⟩
/-! ### slices_ContainsFunc_int_of_i_IsArrangement_1 -/
noncomputable def slices_ContainsFunc_int_of_i_IsArrangement_1_c : Code := (Go.Proofs.Tryd.f127.body).getD .skip
noncomputable def slices_ContainsFunc_int_of_i_IsArrangement_1_h : Nat → Option (List Hint)
  | _ => none
noncomputable def slices_ContainsFunc_int_of_i_IsArrangement_1_fi : Fi := ⟨[.v (.slice (.int .i64)) false, .fn 128 [.slice (.int .i64)]], [(false, [⟨.bool, none⟩])], none, slices_ContainsFunc_int_of_i_IsArrangement_1_c, Go.Proofs.Tryd.f127.results.toList, 9, slices_ContainsFunc_int_of_i_IsArrangement_1_h⟩
/-! ### i_IsArrangement -/
noncomputable def i_IsArrangement_c : Code := (Go.Proofs.Tryd.f98.body).getD .skip
noncomputable def i_IsArrangement_h : Nat → Option (List Hint)
  | _ => none
noncomputable def i_IsArrangement_fi : Fi := ⟨[.v (.slice (.int .i64)) false, .v (.slice (.int .i64)) false], [(false, [⟨.bool, none⟩])], none, i_IsArrangement_c, Go.Proofs.Tryd.f98.results.toList, 24, i_IsArrangement_h⟩
/-! ### cmp_isNaN_int -/
noncomputable def cmp_isNaN_int_c : Code := (Go.Proofs.Tryd.f141.body).getD .skip
noncomputable def cmp_isNaN_int_h : Nat → Option (List Hint)
  | _ => none
noncomputable def cmp_isNaN_int_fi : Fi := ⟨[.v (.int .i64) false], [(false, [⟨.bool, none⟩])], none, cmp_isNaN_int_c, Go.Proofs.Tryd.f141.results.toList, 6, cmp_isNaN_int_h⟩
/-! ### cmp_Compare_int -/
noncomputable def cmp_Compare_int_c : Code := (Go.Proofs.Tryd.f130.body).getD .skip
noncomputable def cmp_Compare_int_h : Nat → Option (List Hint)
  | _ => none
noncomputable def cmp_Compare_int_fi : Fi := ⟨[.v (.int .i64) false, .v (.int .i64) false], [(false, [⟨.int .i64, none⟩])], none, cmp_Compare_int_c, Go.Proofs.Tryd.f130.results.toList, 20, cmp_Compare_int_h⟩
/-! ### slices_Compare_int -/
noncomputable def slices_Compare_int_c : Code := (Go.Proofs.Tryd.f99.body).getD .skip
noncomputable def slices_Compare_int_h : Nat → Option (List Hint)
  | 2 => some [.keep 0, .keep 1, .keep 9, .keep 10, .keep 11]
  | _ => none
noncomputable def slices_Compare_int_fi : Fi := ⟨[.v (.slice (.int .i64)) false, .v (.slice (.int .i64)) false], [(false, [⟨.int .i64, none⟩])], none, slices_Compare_int_c, Go.Proofs.Tryd.f99.results.toList, 36, slices_Compare_int_h⟩
/-! ### i_KnowOk -/
noncomputable def i_KnowOk_c : Code := (Go.Proofs.Tryd.f69.body).getD .skip
noncomputable def i_KnowOk_h : Nat → Option (List Hint)
  | 4 => some [.keep 0, .keep 20, .keep 21, .keep 22]
  | _ => none
noncomputable def i_KnowOk_fi : Fi := ⟨[.v (.slice (.slice (.int .i64))) false], [(false, [⟨.bool, none⟩])], none, i_KnowOk_c, Go.Proofs.Tryd.f69.results.toList, 48, i_KnowOk_h⟩
/-! ### i_KnownAt_1 -/
noncomputable def i_KnownAt_1_c : Code := (Go.Proofs.Tryd.f101.body).getD .skip
noncomputable def i_KnownAt_1_h : Nat → Option (List Hint)
  | _ => none
noncomputable def i_KnownAt_1_fi : Fi := ⟨[.v (.slice (.int .i64)) false, .r (.int .i64)], [(false, [⟨.int .i64, none⟩])], none, i_KnownAt_1_c, Go.Proofs.Tryd.f101.results.toList, 17, i_KnownAt_1_h⟩
/-! ### i_common_of_i_KnownAt_1 -/
noncomputable def i_common_of_i_KnownAt_1_c : Code := (Go.Proofs.Tryd.f100.body).getD .skip
noncomputable def i_common_of_i_KnownAt_1_h : Nat → Option (List Hint)
  | 5 => some [.keep 1, .keep 5, .keep 16, .keep 17, .keep 18]
  | _ => none
noncomputable def i_common_of_i_KnownAt_1_fi : Fi := ⟨[.v (.slice (.slice (.int .i64))) false, .fn 101 [.int .i64]], [(false, [⟨.int .i64, none⟩])], none, i_common_of_i_KnownAt_1_c, Go.Proofs.Tryd.f100.results.toList, 29, i_common_of_i_KnownAt_1_h⟩
/-! ### i_KnownAt -/
noncomputable def i_KnownAt_c : Code := (Go.Proofs.Tryd.f70.body).getD .skip
noncomputable def i_KnownAt_h : Nat → Option (List Hint)
  | _ => none
noncomputable def i_KnownAt_fi : Fi := ⟨[.v (.slice (.slice (.int .i64))) false, .v (.int .i64) false], [(false, [⟨.int .i64, none⟩])], none, i_KnownAt_c, Go.Proofs.Tryd.f70.results.toList, 8, i_KnownAt_h⟩
/-! ### i_KnowLine -/
noncomputable def i_KnowLine_c : Code := (Go.Proofs.Tryd.f34.body).getD .skip
noncomputable def i_KnowLine_h : Nat → Option (List Hint)
  | 5 => some [.keep 0, .keep 3, .keep 16, .keep 17]
  | _ => none
noncomputable def i_KnowLine_fi : Fi := ⟨[.v (.slice (.slice (.int .i64))) false], [(false, [⟨.str, none⟩])], none, i_KnowLine_c, Go.Proofs.Tryd.f34.results.toList, 34, i_KnowLine_h⟩
/-! ### w_eqIntSS -/
noncomputable def w_eqIntSS_c : Code := (Go.Proofs.Tryd.f35.body).getD .skip
noncomputable def w_eqIntSS_h : Nat → Option (List Hint)
  | 4 => some [.keep 0, .keep 1, .keep 5]
  | _ => none
noncomputable def w_eqIntSS_fi : Fi := ⟨[.v (.slice (.slice (.int .i64))) false, .v (.slice (.slice (.int .i64))) false], [(false, [⟨.bool, none⟩])], none, w_eqIntSS_c, Go.Proofs.Tryd.f35.results.toList, 27, w_eqIntSS_h⟩
/-! ### w_FnExactKnowLine -/
noncomputable def w_FnExactKnowLine_c : Code := (Go.Proofs.Tryd.f8.body).getD .skip
noncomputable def w_FnExactKnowLine_h : Nat → Option (List Hint)
  | _ => none
noncomputable def w_FnExactKnowLine_fi : Fi := ⟨[.v (.slice (.slice (.int .i64))) false], [(false, [⟨.bool, none⟩])], none, w_FnExactKnowLine_c, Go.Proofs.Tryd.f8.results.toList, 27, w_FnExactKnowLine_h⟩

noncomputable def fnL : List (Nat × List Nat × Fi) := [(44, [], w_szIntS_fi),
  (45, [], w_szStepS_fi),
  (11, [], w_szTrick_fi),
  (17, [], w_toIntS_fi),
  (120, [], w_toMove_fi),
  (86, [], w_toStep_fi),
  (47, [], w_toStepS_fi),
  (13, [], w_toTrick_fi),
  (46, [], s_FormatInt_fi),
  (12, [], s_FormatClaim_fi),
  (87, [], strconv_Itoa_fi),
  (48, [], i_FormatInt_fi),
  (14, [], i_FormatClaim_fi),
  (19, [], w_eqIntS_fi),
  (43, [], w_eqMove_fi),
  (88, [], w_eqStep_fi),
  (49, [], w_eqStepS_fi),
  (15, [], w_eqTrick_fi),
  (3, [], w_FnExactFormatClaim_fi),
  (63, [], s_l01In_fi),
  (51, [], s_CardOf_fi),
  (89, [], s_l02Has_fi),
  (50, [], s_PacketOk_fi),
  (52, [], s_IsUp_fi),
  (53, [], s_Join_fi),
  (16, [], s_FormatPacket_fi),
  (55, [], i_CardOf_fi),
  (54, [], i_PacketOk_fi),
  (56, [], i_IsUp_fi),
  (90, [], strings_Join_fi),
  (57, [], i_Join_fi),
  (18, [], i_FormatPacket_fi),
  (4, [], w_FnExactFormatPacket_fi),
  (58, [], s_PermOk_fi),
  (59, [], s_CyclesOf_fi),
  (20, [], s_CyclesLine_fi),
  (125, [], slices_Index_int_fi),
  (91, [], slices_Contains_int_fi),
  (60, [], i_PermOk_fi),
  (61, [], i_CyclesOf_fi),
  (62, [], i_numbersOf_fi),
  (21, [], i_CyclesLine_fi),
  (5, [], w_FnExactCyclesLine_fi),
  (22, [], w_szScene_fi),
  (24, [], w_toScene_fi),
  (23, [], s_SceneLine_fi),
  (25, [], i_SceneLine_fi),
  (26, [], w_eqScene_fi),
  (6, [], w_FnExactSceneLine_fi),
  (31, [], w_szIntSS_fi),
  (33, [], w_toIntSS_fi),
  (126, [], s_PositionOf_fi),
  (96, [], s_IsArrangement_fi),
  (97, [], s_l05Less_fi),
  (67, [], s_KnowOk_fi),
  (68, [], s_KnownAt_fi),
  (32, [], s_KnowLine_fi),
  (140, [], i_PositionOf_1_fi),
  (139, [140], slices_IndexFunc_int_of_i_PositionOf_1_fi),
  (129, [], i_PositionOf_fi),
  (128, [], i_IsArrangement_1_fi),
  (139, [128], slices_IndexFunc_int_of_i_IsArrangement_1_fi),
  (127, [128], slices_ContainsFunc_int_of_i_IsArrangement_1_fi),
  (98, [], i_IsArrangement_fi),
  (141, [], cmp_isNaN_int_fi),
  (130, [], cmp_Compare_int_fi),
  (99, [], slices_Compare_int_fi),
  (69, [], i_KnowOk_fi),
  (101, [], i_KnownAt_1_fi),
  (100, [101], i_common_of_i_KnownAt_1_fi),
  (70, [], i_KnownAt_fi),
  (34, [], i_KnowLine_fi),
  (35, [], w_eqIntSS_fi),
  (8, [], w_FnExactKnowLine_fi)]
noncomputable def E : Env := ⟨lookT tyL, lookF fnL⟩

noncomputable def w_szIntS (k : Nat) (x : (List Int) × Int) : Option (Int) := aFn E w_szIntS_fi k x
noncomputable def w_szStepS (k : Nat) (x : (List (Int × (Int × Int) × Int)) × Int) : Option (Int) := aFn E w_szStepS_fi k x
noncomputable def w_szTrick (k : Nat) (x : ((List Int) × (List (Int × (Int × Int) × Int)) × Int × Int × Int) × Int) : Option (Int) := aFn E w_szTrick_fi k x
noncomputable def w_toIntS (k : Nat) (x : List Int) : Option (List Int) := aFn E w_toIntS_fi k x
noncomputable def w_toIntS_l3 (k : Nat) (v0 : List Int) (v4 : Int) (o100003 : List Int) : Option (List Int) := aRun E k w_toIntS_fi.rs (ioOf w_toIntS_fi.ps) w_toIntS_fi.res w_toIntS_fi.hints [.code (sub w_toIntS_c [1, 1, 0, 1, 0, 0, 0, 0]), .code (sub w_toIntS_c [1, 1, 0, 1, 0, 0, 0, 1]), .code (sub w_toIntS_c [1, 1, 0, 1, 0, 0, 1]), .inLoop (sub w_toIntS_c [1, 1, 0, 1, 0, 0]), .inBlock 0, .code (sub w_toIntS_c [1, 1, 1])] ⟨[.cv (.val (.slice (.int .i64)) v0), .cv .dead, .cv .dead, .cv (.own 100003), .cv (.val (.int .i64) v4), .cv .dead, .cv .dead, .cv .dead, .cv .dead, .cv .dead, .cv .dead, .cv .dead, .cv .dead, .cv .dead, .cv .dead, .cv .dead, .cv .dead, .cv .dead, .cv .dead, .cv .dead, .cv .dead, .cv .dead], [(100003, .row (.int .i64) o100003 true false)], true⟩
noncomputable def w_toMove (k : Nat) (x : Int × Int) : Option (Int × Int) := aFn E w_toMove_fi k x
noncomputable def w_toStep (k : Nat) (x : Int × (Int × Int) × Int) : Option (Int × Int × Int × Int) := aFn E w_toStep_fi k x
noncomputable def w_toStepS (k : Nat) (x : List (Int × (Int × Int) × Int)) : Option (List (Int × (Int × Int) × Int)) := aFn E w_toStepS_fi k x
noncomputable def w_toStepS_l3 (k : Nat) (v0 : List (Int × (Int × Int) × Int)) (v4 : Int) (o100003 : List (Int × (Int × Int) × Int)) : Option (List (Int × (Int × Int) × Int)) := aRun E k w_toStepS_fi.rs (ioOf w_toStepS_fi.ps) w_toStepS_fi.res w_toStepS_fi.hints [.code (sub w_toStepS_c [1, 1, 0, 1, 0, 0, 0, 0]), .code (sub w_toStepS_c [1, 1, 0, 1, 0, 0, 0, 1]), .code (sub w_toStepS_c [1, 1, 0, 1, 0, 0, 1]), .inLoop (sub w_toStepS_c [1, 1, 0, 1, 0, 0]), .inBlock 0, .code (sub w_toStepS_c [1, 1, 1])] ⟨[.cv (.val (.slice (.pair (.int .i64) (.pair (.pair (.int .i64) (.int .i64)) (.int .i64)))) v0), .cv .dead, .cv .dead, .cv (.own 100003), .cv (.val (.int .i64) v4), .cv .dead, .cv .dead, .cv .dead, .cv .dead, .cv .dead, .cv .dead, .cv .dead, .cv .dead, .cv .dead, .cv .dead, .cv .dead, .cv .dead, .cv .dead, .cv .dead, .cv .dead, .cv .dead, .cv .dead, .cv .dead], [(100003, .row (.pair (.int .i64) (.pair (.pair (.int .i64) (.int .i64)) (.int .i64))) o100003 true false)], true⟩
noncomputable def w_toTrick (k : Nat) (x : (List Int) × (List (Int × (Int × Int) × Int)) × Int × Int × Int) : Option ((List Int) × (List (Int × (Int × Int) × Int)) × Int × Int × Int) := aFn E w_toTrick_fi k x
noncomputable def s_FormatInt (k : Nat) (x : Int) : Option (ByteArray) := aFn E s_FormatInt_fi k x
noncomputable def s_FormatInt_l6 (k : Nat) (v0 : Int) (v3 : ByteArray) : Option (ByteArray) := aRun E k s_FormatInt_fi.rs (ioOf s_FormatInt_fi.ps) s_FormatInt_fi.res s_FormatInt_fi.hints [.code (sub s_FormatInt_c [1, 1, 1, 0, 0, 0, 0, 0]), .code (sub s_FormatInt_c [1, 1, 1, 0, 0, 0, 0, 1]), .code (sub s_FormatInt_c [1, 1, 1, 0, 0, 0, 1]), .inLoop (sub s_FormatInt_c [1, 1, 1, 0, 0, 0]), .inBlock 0, .code (sub s_FormatInt_c [1, 1, 1, 1])] ⟨[.cv (.val (.int .i64) v0), .cv .dead, .cv .dead, .cv (.val (.str) v3), .cv .dead, .cv .dead, .cv .dead, .cv .dead, .cv .dead, .cv .dead, .cv .dead, .cv .dead, .cv .dead, .cv .dead, .cv .dead, .cv .dead, .cv .dead, .cv .dead, .cv .dead, .cv .dead, .cv .dead, .cv .dead, .cv .dead, .cv .dead, .cv .dead, .cv .dead, .cv .dead, .cv .dead, .cv .dead, .cv .dead, .cv .dead, .cv .dead, .cv .dead, .cv .dead, .cv .dead, .cv .dead, .cv .dead, .cv .dead, .cv .dead, .cv .dead, .cv .dead, .cv .dead, .cv .dead, .cv .dead], [], true⟩
noncomputable def s_FormatClaim (k : Nat) (x : (List Int) × (List (Int × (Int × Int) × Int)) × Int × Int × Int) : Option (ByteArray) := aFn E s_FormatClaim_fi k x
noncomputable def strconv_Itoa (k : Nat) (x : Int) : Option (ByteArray) := aFn E strconv_Itoa_fi k x
noncomputable def i_FormatInt (k : Nat) (x : Int) : Option (ByteArray) := aFn E i_FormatInt_fi k x
noncomputable def i_FormatClaim (k : Nat) (x : (List Int) × (List (Int × (Int × Int) × Int)) × Int × Int × Int) : Option (ByteArray) := aFn E i_FormatClaim_fi k x
noncomputable def w_eqIntS (k : Nat) (x : (List Int) × List Int) : Option (Bool) := aFn E w_eqIntS_fi k x
noncomputable def w_eqIntS_l4 (k : Nat) (v0 : List Int) (v1 : List Int) (v5 : Int) : Option (Bool) := aRun E k w_eqIntS_fi.rs (ioOf w_eqIntS_fi.ps) w_eqIntS_fi.res w_eqIntS_fi.hints [.code (sub w_eqIntS_c [1, 1, 0, 1, 0, 0, 0, 0]), .code (sub w_eqIntS_c [1, 1, 0, 1, 0, 0, 0, 1]), .code (sub w_eqIntS_c [1, 1, 0, 1, 0, 0, 1]), .inLoop (sub w_eqIntS_c [1, 1, 0, 1, 0, 0]), .inBlock 0, .code (sub w_eqIntS_c [1, 1, 1])] ⟨[.cv (.val (.slice (.int .i64)) v0), .cv (.val (.slice (.int .i64)) v1), .cv .dead, .cv .dead, .cv .dead, .cv (.val (.int .i64) v5), .cv .dead, .cv .dead, .cv .dead, .cv .dead, .cv .dead, .cv .dead, .cv .dead, .cv .dead, .cv .dead, .cv .dead, .cv .dead, .cv .dead, .cv .dead, .cv .dead, .cv .dead, .cv .dead, .cv .dead, .cv .dead, .cv .dead, .cv .dead], [], true⟩
noncomputable def w_eqMove (k : Nat) (x : (Int × Int) × Int × Int) : Option (Bool) := aFn E w_eqMove_fi k x
noncomputable def w_eqStep (k : Nat) (x : (Int × (Int × Int) × Int) × Int × (Int × Int) × Int) : Option (Bool) := aFn E w_eqStep_fi k x
noncomputable def w_eqStepS (k : Nat) (x : (List (Int × (Int × Int) × Int)) × List (Int × (Int × Int) × Int)) : Option (Bool) := aFn E w_eqStepS_fi k x
noncomputable def w_eqStepS_l4 (k : Nat) (v0 : List (Int × (Int × Int) × Int)) (v1 : List (Int × (Int × Int) × Int)) (v5 : Int) : Option (Bool) := aRun E k w_eqStepS_fi.rs (ioOf w_eqStepS_fi.ps) w_eqStepS_fi.res w_eqStepS_fi.hints [.code (sub w_eqStepS_c [1, 1, 0, 1, 0, 0, 0, 0]), .code (sub w_eqStepS_c [1, 1, 0, 1, 0, 0, 0, 1]), .code (sub w_eqStepS_c [1, 1, 0, 1, 0, 0, 1]), .inLoop (sub w_eqStepS_c [1, 1, 0, 1, 0, 0]), .inBlock 0, .code (sub w_eqStepS_c [1, 1, 1])] ⟨[.cv (.val (.slice (.pair (.int .i64) (.pair (.pair (.int .i64) (.int .i64)) (.int .i64)))) v0), .cv (.val (.slice (.pair (.int .i64) (.pair (.pair (.int .i64) (.int .i64)) (.int .i64)))) v1), .cv .dead, .cv .dead, .cv .dead, .cv (.val (.int .i64) v5), .cv .dead, .cv .dead, .cv .dead, .cv .dead, .cv .dead, .cv .dead, .cv .dead, .cv .dead, .cv .dead, .cv .dead, .cv .dead, .cv .dead, .cv .dead, .cv .dead, .cv .dead, .cv .dead, .cv .dead, .cv .dead, .cv .dead, .cv .dead, .cv .dead], [], true⟩
noncomputable def w_eqTrick (k : Nat) (x : ((List Int) × (List (Int × (Int × Int) × Int)) × Int × Int × Int) × (List Int) × (List (Int × (Int × Int) × Int)) × Int × Int × Int) : Option (Bool) := aFn E w_eqTrick_fi k x
noncomputable def w_FnExactFormatClaim (k : Nat) (x : (List Int) × (List (Int × (Int × Int) × Int)) × Int × Int × Int) : Option (Bool) := aFn E w_FnExactFormatClaim_fi k x
noncomputable def s_l01In (k : Nat) (x : Int × Int × Int) : Option (Bool) := aFn E s_l01In_fi k x
noncomputable def s_CardOf (k : Nat) (x : Int) : Option (Int) := aFn E s_CardOf_fi k x
noncomputable def s_l02Has (k : Nat) (x : (List Int) × Int) : Option (Bool) := aFn E s_l02Has_fi k x
noncomputable def s_l02Has_l2 (k : Nat) (v1 : Int) (v7 : List Int) (v8 : Int) (v9 : Int) : Option (Bool) := aRun E k s_l02Has_fi.rs (ioOf s_l02Has_fi.ps) s_l02Has_fi.res s_l02Has_fi.hints [.code (sub s_l02Has_c [1, 0, 1, 0, 0, 0]), .code (sub s_l02Has_c [1, 0, 1, 0, 0, 1]), .inLoop (sub s_l02Has_c [1, 0, 1, 0, 0]), .inBlock 0, .code (sub s_l02Has_c [1, 1])] ⟨[.cv .dead, .cv (.val (.int .i64) v1), .cv .dead, .cv .dead, .cv .dead, .cv .dead, .cv .dead, .cv (.val (.slice (.int .i64)) v7), .cv (.val (.int .i64) v8), .cv (.val (.int .i64) v9), .cv .dead, .cv .dead, .cv .dead, .cv .dead, .cv .dead, .cv .dead, .cv .dead], [], true⟩
noncomputable def s_PacketOk (k : Nat) (x : List Int) : Option (Bool) := aFn E s_PacketOk_fi k x
noncomputable def s_PacketOk_l5 (k : Nat) (v11 : List Int) (v12 : Int) (v13 : Int) (o100003 : List Int) : Option (Bool) := aRun E k s_PacketOk_fi.rs (ioOf s_PacketOk_fi.ps) s_PacketOk_fi.res s_PacketOk_fi.hints [.code (sub s_PacketOk_c [1, 1, 1, 0, 1, 0, 0, 0]), .code (sub s_PacketOk_c [1, 1, 1, 0, 1, 0, 0, 1]), .inLoop (sub s_PacketOk_c [1, 1, 1, 0, 1, 0, 0]), .inBlock 0, .code (sub s_PacketOk_c [1, 1, 1, 1])] ⟨[.cv .dead, .cv .dead, .cv .dead, .cv (.own 100003), .cv .dead, .cv .dead, .cv .dead, .cv .dead, .cv .dead, .cv .dead, .cv .dead, .cv (.val (.slice (.int .i64)) v11), .cv (.val (.int .i64) v12), .cv (.val (.int .i64) v13), .cv .dead, .cv .dead, .cv .dead, .cv .dead, .cv .dead, .cv .dead, .cv .dead, .cv .dead, .cv .dead, .cv .dead, .cv .dead, .cv .dead, .cv .dead, .cv .dead, .cv .dead, .cv .dead, .cv .dead], [(100003, .row (.int .i64) o100003 true false)], true⟩
noncomputable def s_IsUp (k : Nat) (x : Int) : Option (Bool) := aFn E s_IsUp_fi k x
noncomputable def s_Join (k : Nat) (x : (List ByteArray) × ByteArray) : Option (ByteArray) := aFn E s_Join_fi k x
noncomputable def s_Join_l3 (k : Nat) (v1 : ByteArray) (v5 : ByteArray) (v8 : List ByteArray) (v9 : Int) (v10 : Int) : Option (ByteArray) := aRun E k s_Join_fi.rs (ioOf s_Join_fi.ps) s_Join_fi.res s_Join_fi.hints [.code (sub s_Join_c [1, 1, 0, 1, 0, 0, 0]), .code (sub s_Join_c [1, 1, 0, 1, 0, 0, 1]), .inLoop (sub s_Join_c [1, 1, 0, 1, 0, 0]), .inBlock 0, .code (sub s_Join_c [1, 1, 1])] ⟨[.cv .dead, .cv (.val (.str) v1), .cv .dead, .cv .dead, .cv .dead, .cv (.val (.str) v5), .cv .dead, .cv .dead, .cv (.val (.slice (.str)) v8), .cv (.val (.int .i64) v9), .cv (.val (.int .i64) v10), .cv .dead, .cv .dead, .cv .dead, .cv .dead, .cv .dead, .cv .dead, .cv .dead, .cv .dead, .cv .dead, .cv .dead, .cv .dead, .cv .dead, .cv .dead, .cv .dead], [], true⟩
noncomputable def s_FormatPacket (k : Nat) (x : List Int) : Option (ByteArray) := aFn E s_FormatPacket_fi k x
noncomputable def s_FormatPacket_l5 (k : Nat) (v11 : List Int) (v12 : Int) (v13 : Int) (o100003 : List ByteArray) : Option (ByteArray) := aRun E k s_FormatPacket_fi.rs (ioOf s_FormatPacket_fi.ps) s_FormatPacket_fi.res s_FormatPacket_fi.hints [.code (sub s_FormatPacket_c [1, 1, 1, 0, 1, 0, 0, 0]), .code (sub s_FormatPacket_c [1, 1, 1, 0, 1, 0, 0, 1]), .inLoop (sub s_FormatPacket_c [1, 1, 1, 0, 1, 0, 0]), .inBlock 0, .code (sub s_FormatPacket_c [1, 1, 1, 1])] ⟨[.cv .dead, .cv .dead, .cv .dead, .cv (.own 100003), .cv .dead, .cv .dead, .cv .dead, .cv .dead, .cv .dead, .cv .dead, .cv .dead, .cv (.val (.slice (.int .i64)) v11), .cv (.val (.int .i64) v12), .cv (.val (.int .i64) v13), .cv .dead, .cv .dead, .cv .dead, .cv .dead, .cv .dead, .cv .dead, .cv .dead, .cv .dead, .cv .dead, .cv .dead, .cv .dead, .cv .dead, .cv .dead, .cv .dead, .cv .dead, .cv .dead, .cv .dead, .cv .dead, .cv .dead, .cv .dead], [(100003, .row (.str) o100003 true false)], true⟩
noncomputable def i_CardOf (k : Nat) (x : Int) : Option (Int) := aFn E i_CardOf_fi k x
noncomputable def i_PacketOk (k : Nat) (x : List Int) : Option (Bool) := aFn E i_PacketOk_fi k x
noncomputable def i_PacketOk_l3 (k : Nat) (v7 : List Int) (v8 : Int) (v9 : Int) (o400003 : List Bool) : Option (Bool) := aRun E k i_PacketOk_fi.rs (ioOf i_PacketOk_fi.ps) i_PacketOk_fi.res i_PacketOk_fi.hints [.code (sub i_PacketOk_c [1, 1, 0, 1, 0, 0, 0]), .code (sub i_PacketOk_c [1, 1, 0, 1, 0, 0, 1]), .inLoop (sub i_PacketOk_c [1, 1, 0, 1, 0, 0]), .inBlock 0, .code (sub i_PacketOk_c [1, 1, 1])] ⟨[.cv .dead, .cv .dead, .cv .dead, .adr 400003 0, .cv .dead, .cv .dead, .cv .dead, .cv (.val (.slice (.int .i64)) v7), .cv (.val (.int .i64) v8), .cv (.val (.int .i64) v9), .cv .dead, .cv .dead, .cv .dead, .cv .dead, .cv .dead, .cv .dead, .cv .dead, .cv .dead, .cv .dead, .cv .dead, .cv .dead, .cv .dead, .cv .dead, .cv .dead, .cv .dead], [(400003, .arr (.bool) o400003)], true⟩
noncomputable def i_IsUp (k : Nat) (x : Int) : Option (Bool) := aFn E i_IsUp_fi k x
noncomputable def strings_Join (k : Nat) (x : (List ByteArray) × ByteArray) : Option (ByteArray) := aFn E strings_Join_fi k x
noncomputable def i_Join (k : Nat) (x : (List ByteArray) × ByteArray) : Option (ByteArray) := aFn E i_Join_fi k x
noncomputable def i_FormatPacket (k : Nat) (x : List Int) : Option (ByteArray) := aFn E i_FormatPacket_fi k x
noncomputable def i_FormatPacket_l7 (k : Nat) (v13 : List Int) (v14 : Int) (v15 : Int) (o100003 : List ByteArray) : Option (ByteArray) := aRun E k i_FormatPacket_fi.rs (ioOf i_FormatPacket_fi.ps) i_FormatPacket_fi.res i_FormatPacket_fi.hints [.code (sub i_FormatPacket_c [1, 1, 1, 1, 0, 1, 0, 0, 0]), .code (sub i_FormatPacket_c [1, 1, 1, 1, 0, 1, 0, 0, 1]), .inLoop (sub i_FormatPacket_c [1, 1, 1, 1, 0, 1, 0, 0]), .inBlock 0, .code (sub i_FormatPacket_c [1, 1, 1, 1, 1])] ⟨[.cv .dead, .cv .dead, .cv .dead, .cv (.own 100003), .cv .dead, .cv .dead, .cv .dead, .cv .dead, .cv .dead, .cv .dead, .cv .dead, .cv .dead, .cv .dead, .cv (.val (.slice (.int .i64)) v13), .cv (.val (.int .i64) v14), .cv (.val (.int .i64) v15), .cv .dead, .cv .dead, .cv .dead, .cv .dead, .cv .dead, .cv .dead, .cv .dead, .cv .dead, .cv .dead, .cv .dead, .cv .dead, .cv .dead, .cv .dead, .cv .dead, .cv .dead, .cv .dead, .cv .dead], [(100003, .row (.str) o100003 true true)], true⟩
noncomputable def w_FnExactFormatPacket (k : Nat) (x : List Int) : Option (Bool) := aFn E w_FnExactFormatPacket_fi k x
noncomputable def s_PermOk (k : Nat) (x : List Int) : Option (Bool) := aFn E s_PermOk_fi k x
noncomputable def s_PermOk_l4 (k : Nat) (v0 : List Int) (v8 : List Int) (v9 : Int) (v10 : Int) : Option (Bool) := aRun E k s_PermOk_fi.rs (ioOf s_PermOk_fi.ps) s_PermOk_fi.res s_PermOk_fi.hints [.code (sub s_PermOk_c [1, 1, 0, 1, 0, 0, 0]), .code (sub s_PermOk_c [1, 1, 0, 1, 0, 0, 1]), .inLoop (sub s_PermOk_c [1, 1, 0, 1, 0, 0]), .inBlock 0, .code (sub s_PermOk_c [1, 1, 1])] ⟨[.cv (.val (.slice (.int .i64)) v0), .cv .dead, .cv .dead, .cv .dead, .cv .dead, .cv .dead, .cv .dead, .cv .dead, .cv (.val (.slice (.int .i64)) v8), .cv (.val (.int .i64) v9), .cv (.val (.int .i64) v10), .cv .dead, .cv .dead, .cv .dead, .cv .dead, .cv .dead, .cv .dead, .cv .dead, .cv .dead, .cv .dead, .cv .dead, .cv .dead, .cv .dead, .cv .dead, .cv .dead, .cv .dead, .cv .dead, .cv .dead, .cv .dead], [], true⟩
noncomputable def s_CyclesOf (k : Nat) (x : List Int) : Option (List (List Int)) := aFn E s_CyclesOf_fi k x
noncomputable def s_CyclesOf_l6 (k : Nat) (v0 : List Int) (v16 : Int) (v17 : Int) (o100003 : List (List Int)) (o100004 : List Bool) : Option (List (List Int)) := aRun E k s_CyclesOf_fi.rs (ioOf s_CyclesOf_fi.ps) s_CyclesOf_fi.res s_CyclesOf_fi.hints [.code (sub s_CyclesOf_c [1, 1, 1, 1, 0, 1, 0, 0, 0]), .code (sub s_CyclesOf_c [1, 1, 1, 1, 0, 1, 0, 0, 1]), .inLoop (sub s_CyclesOf_c [1, 1, 1, 1, 0, 1, 0, 0]), .inBlock 0, .code (sub s_CyclesOf_c [1, 1, 1, 1, 1])] ⟨[.cv (.val (.slice (.int .i64)) v0), .cv .dead, .cv .dead, .cv (.own 100003), .cv (.own 100004), .cv .dead, .cv .dead, .cv .dead, .cv .dead, .cv .dead, .cv .dead, .cv .dead, .cv .dead, .cv .dead, .cv .dead, .cv .dead, .cv (.val (.int .i64) v16), .cv (.val (.int .i64) v17), .cv .dead, .cv .dead, .cv .dead, .cv .dead, .cv .dead, .cv .dead, .cv .dead, .cv .dead, .cv .dead, .cv .dead, .cv .dead, .cv .dead, .cv .dead, .cv .dead, .cv .dead, .cv .dead, .cv .dead, .cv .dead, .cv .dead, .cv .dead, .cv .dead, .cv .dead, .cv .dead, .cv .dead, .cv .dead, .cv .dead, .cv .dead, .cv .dead, .cv .dead, .cv .dead], [(100003, .row (.slice (.int .i64)) o100003 true false), (100004, .row (.bool) o100004 true false)], true⟩
noncomputable def s_CyclesOf_l11 (k : Nat) (v0 : List Int) (v7 : Int) (v16 : Int) (v17 : Int) (o100003 : List (List Int)) (o100004 : List Bool) (o100006 : List Int) : Option (List (List Int)) := aRun E k s_CyclesOf_fi.rs (ioOf s_CyclesOf_fi.ps) s_CyclesOf_fi.res s_CyclesOf_fi.hints [.code (sub s_CyclesOf_c [1, 1, 1, 1, 0, 1, 0, 0, 1, 1, 0, 0, 1, 1, 1, 0, 1, 0, 0, 0, 0]), .code (sub s_CyclesOf_c [1, 1, 1, 1, 0, 1, 0, 0, 1, 1, 0, 0, 1, 1, 1, 0, 1, 0, 0, 0, 1]), .code (sub s_CyclesOf_c [1, 1, 1, 1, 0, 1, 0, 0, 1, 1, 0, 0, 1, 1, 1, 0, 1, 0, 0, 1]), .inLoop (sub s_CyclesOf_c [1, 1, 1, 1, 0, 1, 0, 0, 1, 1, 0, 0, 1, 1, 1, 0, 1, 0, 0]), .inBlock 2, .code (sub s_CyclesOf_c [1, 1, 1, 1, 0, 1, 0, 0, 1, 1, 0, 0, 1, 1, 1, 1]), .inBlock 1, .code (sub s_CyclesOf_c [1, 1, 1, 1, 0, 1, 0, 0, 1, 1, 1]), .inLoop (sub s_CyclesOf_c [1, 1, 1, 1, 0, 1, 0, 0]), .inBlock 0, .code (sub s_CyclesOf_c [1, 1, 1, 1, 1])] ⟨[.cv (.val (.slice (.int .i64)) v0), .cv .dead, .cv .dead, .cv (.own 100003), .cv (.own 100004), .cv .dead, .cv (.own 100006), .cv (.val (.int .i64) v7), .cv .dead, .cv .dead, .cv .dead, .cv .dead, .cv .dead, .cv .dead, .cv .dead, .cv .dead, .cv (.val (.int .i64) v16), .cv (.val (.int .i64) v17), .cv .dead, .cv .dead, .cv .dead, .cv .dead, .cv .dead, .cv .dead, .cv .dead, .cv .dead, .cv .dead, .cv .dead, .cv .dead, .cv .dead, .cv .dead, .cv .dead, .cv .dead, .cv .dead, .cv .dead, .cv .dead, .cv .dead, .cv .dead, .cv .dead, .cv .dead, .cv .dead, .cv .dead, .cv .dead, .cv .dead, .cv .dead, .cv .dead, .cv .dead, .cv .dead], [(100003, .row (.slice (.int .i64)) o100003 true false), (100004, .row (.bool) o100004 true false), (100006, .row (.int .i64) o100006 true false)], true⟩
noncomputable def s_CyclesLine (k : Nat) (x : List Int) : Option (ByteArray) := aFn E s_CyclesLine_fi k x
noncomputable def s_CyclesLine_l5 (k : Nat) (v3 : ByteArray) (v14 : Int) (v15 : Int) (o100013 : List (List Int)) : Option (ByteArray) := aRun E k s_CyclesLine_fi.rs (ioOf s_CyclesLine_fi.ps) s_CyclesLine_fi.res s_CyclesLine_fi.hints [.code (sub s_CyclesLine_c [1, 1, 1, 0, 1, 0, 0, 0]), .code (sub s_CyclesLine_c [1, 1, 1, 0, 1, 0, 0, 1]), .inLoop (sub s_CyclesLine_c [1, 1, 1, 0, 1, 0, 0]), .inBlock 0, .code (sub s_CyclesLine_c [1, 1, 1, 1])] ⟨[.cv .dead, .cv .dead, .cv .dead, .cv (.val (.str) v3), .cv .dead, .cv .dead, .cv .dead, .cv .dead, .cv .dead, .cv .dead, .cv .dead, .cv .dead, .cv .dead, .cv (.own 100013), .cv (.val (.int .i64) v14), .cv (.val (.int .i64) v15), .cv .dead, .cv .dead, .cv .dead, .cv .dead, .cv .dead, .cv .dead, .cv .dead, .cv .dead, .cv .dead, .cv .dead, .cv .dead, .cv .dead, .cv .dead, .cv .dead, .cv .dead, .cv .dead, .cv .dead, .cv .dead, .cv .dead, .cv .dead, .cv .dead, .cv .dead, .cv .dead, .cv .dead, .cv .dead, .cv .dead], [(100013, .row (.slice (.int .i64)) o100013 false false)], true⟩
noncomputable def s_CyclesLine_l9 (k : Nat) (v3 : ByteArray) (v14 : Int) (v15 : Int) (v20 : List Int) (v21 : Int) (v22 : Int) (o100006 : List ByteArray) (o100013 : List (List Int)) : Option (ByteArray) := aRun E k s_CyclesLine_fi.rs (ioOf s_CyclesLine_fi.ps) s_CyclesLine_fi.res s_CyclesLine_fi.hints [.code (sub s_CyclesLine_c [1, 1, 1, 0, 1, 0, 0, 1, 1, 0, 0, 1, 1, 0, 1, 0, 0, 0]), .code (sub s_CyclesLine_c [1, 1, 1, 0, 1, 0, 0, 1, 1, 0, 0, 1, 1, 0, 1, 0, 0, 1]), .inLoop (sub s_CyclesLine_c [1, 1, 1, 0, 1, 0, 0, 1, 1, 0, 0, 1, 1, 0, 1, 0, 0]), .inBlock 2, .code (sub s_CyclesLine_c [1, 1, 1, 0, 1, 0, 0, 1, 1, 0, 0, 1, 1, 1]), .inBlock 1, .code (sub s_CyclesLine_c [1, 1, 1, 0, 1, 0, 0, 1, 1, 1]), .inLoop (sub s_CyclesLine_c [1, 1, 1, 0, 1, 0, 0]), .inBlock 0, .code (sub s_CyclesLine_c [1, 1, 1, 1])] ⟨[.cv .dead, .cv .dead, .cv .dead, .cv (.val (.str) v3), .cv .dead, .cv .dead, .cv (.own 100006), .cv .dead, .cv .dead, .cv .dead, .cv .dead, .cv .dead, .cv .dead, .cv (.own 100013), .cv (.val (.int .i64) v14), .cv (.val (.int .i64) v15), .cv .dead, .cv .dead, .cv .dead, .cv .dead, .cv (.val (.slice (.int .i64)) v20), .cv (.val (.int .i64) v21), .cv (.val (.int .i64) v22), .cv .dead, .cv .dead, .cv .dead, .cv .dead, .cv .dead, .cv .dead, .cv .dead, .cv .dead, .cv .dead, .cv .dead, .cv .dead, .cv .dead, .cv .dead, .cv .dead, .cv .dead, .cv .dead, .cv .dead, .cv .dead, .cv .dead], [(100006, .row (.str) o100006 true false), (100013, .row (.slice (.int .i64)) o100013 false false)], true⟩
noncomputable def slices_Index_int (k : Nat) (x : (List Int) × Int) : Option (Int) := aFn E slices_Index_int_fi k x
noncomputable def slices_Index_int_l2 (k : Nat) (v0 : List Int) (v1 : Int) (v7 : Int) (v8 : Int) : Option (Int) := aRun E k slices_Index_int_fi.rs (ioOf slices_Index_int_fi.ps) slices_Index_int_fi.res slices_Index_int_fi.hints [.code (sub slices_Index_int_c [1, 0, 1, 0, 0, 0]), .code (sub slices_Index_int_c [1, 0, 1, 0, 0, 1]), .inLoop (sub slices_Index_int_c [1, 0, 1, 0, 0]), .inBlock 0, .code (sub slices_Index_int_c [1, 1])] ⟨[.cv (.val (.slice (.int .i64)) v0), .cv (.val (.int .i64) v1), .cv .dead, .cv .dead, .cv .dead, .cv .dead, .cv .dead, .cv (.val (.int .i64) v7), .cv (.val (.int .i64) v8), .cv .dead, .cv .dead, .cv .dead, .cv .dead, .cv .dead, .cv .dead, .cv .dead, .cv .dead, .cv .dead, .cv .dead], [], true⟩
noncomputable def slices_Contains_int (k : Nat) (x : (List Int) × Int) : Option (Bool) := aFn E slices_Contains_int_fi k x
noncomputable def i_PermOk (k : Nat) (x : List Int) : Option (Bool) := aFn E i_PermOk_fi k x
noncomputable def i_PermOk_l2 (k : Nat) (v0 : List Int) (v5 : List Int) (v6 : Int) (v7 : Int) : Option (Bool) := aRun E k i_PermOk_fi.rs (ioOf i_PermOk_fi.ps) i_PermOk_fi.res i_PermOk_fi.hints [.code (sub i_PermOk_c [1, 0, 1, 0, 0, 0]), .code (sub i_PermOk_c [1, 0, 1, 0, 0, 1]), .inLoop (sub i_PermOk_c [1, 0, 1, 0, 0]), .inBlock 0, .code (sub i_PermOk_c [1, 1])] ⟨[.cv (.val (.slice (.int .i64)) v0), .cv .dead, .cv .dead, .cv .dead, .cv .dead, .cv (.val (.slice (.int .i64)) v5), .cv (.val (.int .i64) v6), .cv (.val (.int .i64) v7), .cv .dead, .cv .dead, .cv .dead, .cv .dead, .cv .dead, .cv .dead, .cv .dead, .cv .dead, .cv .dead, .cv .dead, .cv .dead, .cv .dead, .cv .dead, .cv .dead, .cv .dead, .cv .dead, .cv .dead, .cv .dead, .cv .dead, .cv .dead, .cv .dead, .cv .dead, .cv .dead], [], true⟩
noncomputable def i_CyclesOf (k : Nat) (x : List Int) : Option (List (List Int)) := aFn E i_CyclesOf_fi k x
noncomputable def i_CyclesOf_l6 (k : Nat) (v0 : List Int) (v15 : Int) (v16 : Int) (o100003 : List (List Int)) (o100004 : List Bool) : Option (List (List Int)) := aRun E k i_CyclesOf_fi.rs (ioOf i_CyclesOf_fi.ps) i_CyclesOf_fi.res i_CyclesOf_fi.hints [.code (sub i_CyclesOf_c [1, 1, 1, 1, 0, 1, 0, 0, 0]), .code (sub i_CyclesOf_c [1, 1, 1, 1, 0, 1, 0, 0, 1]), .inLoop (sub i_CyclesOf_c [1, 1, 1, 1, 0, 1, 0, 0]), .inBlock 0, .code (sub i_CyclesOf_c [1, 1, 1, 1, 1])] ⟨[.cv (.val (.slice (.int .i64)) v0), .cv .dead, .cv .dead, .cv (.own 100003), .cv (.own 100004), .cv .dead, .cv .dead, .cv .dead, .cv .dead, .cv .dead, .cv .dead, .cv .dead, .cv .dead, .cv .dead, .cv .dead, .cv (.val (.int .i64) v15), .cv (.val (.int .i64) v16), .cv .dead, .cv .dead, .cv .dead, .cv .dead, .cv .dead, .cv .dead, .cv .dead, .cv .dead, .cv .dead, .cv .dead, .cv .dead, .cv .dead, .cv .dead, .cv .dead, .cv .dead, .cv .dead, .cv .dead, .cv .dead, .cv .dead, .cv .dead, .cv .dead, .cv .dead, .cv .dead, .cv .dead, .cv .dead, .cv .dead, .cv .dead], [(100003, .row (.slice (.int .i64)) o100003 true true), (100004, .row (.bool) o100004 true false)], true⟩
noncomputable def i_CyclesOf_l10 (k : Nat) (v0 : List Int) (v7 : Int) (v15 : Int) (v16 : Int) (o100003 : List (List Int)) (o100004 : List Bool) (o100006 : List Int) : Option (List (List Int)) := aRun E k i_CyclesOf_fi.rs (ioOf i_CyclesOf_fi.ps) i_CyclesOf_fi.res i_CyclesOf_fi.hints [.code (sub i_CyclesOf_c [1, 1, 1, 1, 0, 1, 0, 0, 1, 1, 0, 0, 1, 1, 0, 1, 0, 0, 0, 0]), .code (sub i_CyclesOf_c [1, 1, 1, 1, 0, 1, 0, 0, 1, 1, 0, 0, 1, 1, 0, 1, 0, 0, 0, 1]), .code (sub i_CyclesOf_c [1, 1, 1, 1, 0, 1, 0, 0, 1, 1, 0, 0, 1, 1, 0, 1, 0, 0, 1]), .inLoop (sub i_CyclesOf_c [1, 1, 1, 1, 0, 1, 0, 0, 1, 1, 0, 0, 1, 1, 0, 1, 0, 0]), .inBlock 2, .code (sub i_CyclesOf_c [1, 1, 1, 1, 0, 1, 0, 0, 1, 1, 0, 0, 1, 1, 1]), .inBlock 1, .code (sub i_CyclesOf_c [1, 1, 1, 1, 0, 1, 0, 0, 1, 1, 1]), .inLoop (sub i_CyclesOf_c [1, 1, 1, 1, 0, 1, 0, 0]), .inBlock 0, .code (sub i_CyclesOf_c [1, 1, 1, 1, 1])] ⟨[.cv (.val (.slice (.int .i64)) v0), .cv .dead, .cv .dead, .cv (.own 100003), .cv (.own 100004), .cv .dead, .cv (.own 100006), .cv (.val (.int .i64) v7), .cv .dead, .cv .dead, .cv .dead, .cv .dead, .cv .dead, .cv .dead, .cv .dead, .cv (.val (.int .i64) v15), .cv (.val (.int .i64) v16), .cv .dead, .cv .dead, .cv .dead, .cv .dead, .cv .dead, .cv .dead, .cv .dead, .cv .dead, .cv .dead, .cv .dead, .cv .dead, .cv .dead, .cv .dead, .cv .dead, .cv .dead, .cv .dead, .cv .dead, .cv .dead, .cv .dead, .cv .dead, .cv .dead, .cv .dead, .cv .dead, .cv .dead, .cv .dead, .cv .dead, .cv .dead], [(100003, .row (.slice (.int .i64)) o100003 true true), (100004, .row (.bool) o100004 true false), (100006, .row (.int .i64) o100006 true true)], true⟩
noncomputable def i_numbersOf (k : Nat) (x : List Int) : Option (List ByteArray) := aFn E i_numbersOf_fi k x
noncomputable def i_numbersOf_l3 (k : Nat) (v6 : List Int) (v7 : Int) (v8 : Int) (o100003 : List ByteArray) : Option (List ByteArray) := aRun E k i_numbersOf_fi.rs (ioOf i_numbersOf_fi.ps) i_numbersOf_fi.res i_numbersOf_fi.hints [.code (sub i_numbersOf_c [1, 1, 0, 1, 0, 0, 0]), .code (sub i_numbersOf_c [1, 1, 0, 1, 0, 0, 1]), .inLoop (sub i_numbersOf_c [1, 1, 0, 1, 0, 0]), .inBlock 0, .code (sub i_numbersOf_c [1, 1, 1])] ⟨[.cv .dead, .cv .dead, .cv .dead, .cv (.own 100003), .cv .dead, .cv .dead, .cv (.val (.slice (.int .i64)) v6), .cv (.val (.int .i64) v7), .cv (.val (.int .i64) v8), .cv .dead, .cv .dead, .cv .dead, .cv .dead, .cv .dead, .cv .dead, .cv .dead, .cv .dead, .cv .dead, .cv .dead], [(100003, .row (.str) o100003 true true)], true⟩
noncomputable def i_CyclesLine (k : Nat) (x : List Int) : Option (ByteArray) := aFn E i_CyclesLine_fi k x
noncomputable def i_CyclesLine_l7 (k : Nat) (v3 : ByteArray) (v14 : Int) (v15 : Int) (o100013 : List (List Int)) : Option (ByteArray) := aRun E k i_CyclesLine_fi.rs (ioOf i_CyclesLine_fi.ps) i_CyclesLine_fi.res i_CyclesLine_fi.hints [.code (sub i_CyclesLine_c [1, 1, 1, 1, 0, 1, 0, 0, 0]), .code (sub i_CyclesLine_c [1, 1, 1, 1, 0, 1, 0, 0, 1]), .inLoop (sub i_CyclesLine_c [1, 1, 1, 1, 0, 1, 0, 0]), .inBlock 0, .code (sub i_CyclesLine_c [1, 1, 1, 1, 1])] ⟨[.cv .dead, .cv .dead, .cv .dead, .cv (.val (.str) v3), .cv .dead, .cv .dead, .cv .dead, .cv .dead, .cv .dead, .cv .dead, .cv .dead, .cv .dead, .cv .dead, .cv (.own 100013), .cv (.val (.int .i64) v14), .cv (.val (.int .i64) v15), .cv .dead, .cv .dead, .cv .dead, .cv .dead, .cv .dead, .cv .dead, .cv .dead, .cv .dead, .cv .dead, .cv .dead, .cv .dead, .cv .dead], [(100013, .row (.slice (.int .i64)) o100013 false true)], true⟩
noncomputable def w_FnExactCyclesLine (k : Nat) (x : List Int) : Option (Bool) := aFn E w_FnExactCyclesLine_fi k x
noncomputable def w_szScene (k : Nat) (x : ((List Int) × Int) × Int) : Option (Int) := aFn E w_szScene_fi k x
noncomputable def w_toScene (k : Nat) (x : (List Int) × Int) : Option ((List Int) × Int) := aFn E w_toScene_fi k x
noncomputable def s_SceneLine (k : Nat) (x : (List Int) × Int) : Option (ByteArray) := aFn E s_SceneLine_fi k x
noncomputable def i_SceneLine (k : Nat) (x : (List Int) × Int) : Option (ByteArray) := aFn E i_SceneLine_fi k x
noncomputable def w_eqScene (k : Nat) (x : ((List Int) × Int) × (List Int) × Int) : Option (Bool) := aFn E w_eqScene_fi k x
noncomputable def w_FnExactSceneLine (k : Nat) (x : (List Int) × Int) : Option (Bool) := aFn E w_FnExactSceneLine_fi k x
noncomputable def w_szIntSS (k : Nat) (x : (List (List Int)) × Int) : Option (Int) := aFn E w_szIntSS_fi k x
noncomputable def w_szIntSS_l5 (k : Nat) (v0 : List (List Int)) (v1 : Int) (v5 : Int) : Option (Int) := aRun E k w_szIntSS_fi.rs (ioOf w_szIntSS_fi.ps) w_szIntSS_fi.res w_szIntSS_fi.hints [.code (sub w_szIntSS_c [1, 1, 1, 0, 1, 0, 0, 0, 0]), .code (sub w_szIntSS_c [1, 1, 1, 0, 1, 0, 0, 0, 1]), .code (sub w_szIntSS_c [1, 1, 1, 0, 1, 0, 0, 1]), .inLoop (sub w_szIntSS_c [1, 1, 1, 0, 1, 0, 0]), .inBlock 0, .code (sub w_szIntSS_c [1, 1, 1, 1])] ⟨[.cv (.val (.slice (.slice (.int .i64))) v0), .cv (.val (.int .i64) v1), .cv .dead, .cv .dead, .cv .dead, .cv (.val (.int .i64) v5), .cv .dead, .cv .dead, .cv .dead, .cv .dead, .cv .dead, .cv .dead, .cv .dead, .cv .dead, .cv .dead, .cv .dead, .cv .dead, .cv .dead, .cv .dead, .cv .dead, .cv .dead, .cv .dead, .cv .dead, .cv .dead, .cv .dead, .cv .dead, .cv .dead], [], true⟩
noncomputable def w_toIntSS (k : Nat) (x : List (List Int)) : Option (List (List Int)) := aFn E w_toIntSS_fi k x
noncomputable def w_toIntSS_l3 (k : Nat) (v0 : List (List Int)) (v4 : Int) (o100003 : List (List Int)) : Option (List (List Int)) := aRun E k w_toIntSS_fi.rs (ioOf w_toIntSS_fi.ps) w_toIntSS_fi.res w_toIntSS_fi.hints [.code (sub w_toIntSS_c [1, 1, 0, 1, 0, 0, 0, 0]), .code (sub w_toIntSS_c [1, 1, 0, 1, 0, 0, 0, 1]), .code (sub w_toIntSS_c [1, 1, 0, 1, 0, 0, 1]), .inLoop (sub w_toIntSS_c [1, 1, 0, 1, 0, 0]), .inBlock 0, .code (sub w_toIntSS_c [1, 1, 1])] ⟨[.cv (.val (.slice (.slice (.int .i64))) v0), .cv .dead, .cv .dead, .cv (.own 100003), .cv (.val (.int .i64) v4), .cv .dead, .cv .dead, .cv .dead, .cv .dead, .cv .dead, .cv .dead, .cv .dead, .cv .dead, .cv .dead, .cv .dead, .cv .dead, .cv .dead, .cv .dead, .cv .dead, .cv .dead, .cv .dead, .cv .dead, .cv .dead], [(100003, .row (.slice (.int .i64)) o100003 true false)], true⟩
noncomputable def s_PositionOf (k : Nat) (x : (List Int) × Int) : Option (Int) := aFn E s_PositionOf_fi k x
noncomputable def s_PositionOf_l2 (k : Nat) (v1 : Int) (v7 : List Int) (v8 : Int) (v9 : Int) : Option (Int) := aRun E k s_PositionOf_fi.rs (ioOf s_PositionOf_fi.ps) s_PositionOf_fi.res s_PositionOf_fi.hints [.code (sub s_PositionOf_c [1, 0, 1, 0, 0, 0]), .code (sub s_PositionOf_c [1, 0, 1, 0, 0, 1]), .inLoop (sub s_PositionOf_c [1, 0, 1, 0, 0]), .inBlock 0, .code (sub s_PositionOf_c [1, 1])] ⟨[.cv .dead, .cv (.val (.int .i64) v1), .cv .dead, .cv .dead, .cv .dead, .cv .dead, .cv .dead, .cv (.val (.slice (.int .i64)) v7), .cv (.val (.int .i64) v8), .cv (.val (.int .i64) v9), .cv .dead, .cv .dead, .cv .dead, .cv .dead, .cv .dead, .cv .dead, .cv .dead, .cv .dead, .cv .dead, .cv .dead, .cv .dead, .cv .dead, .cv .dead, .cv .dead], [], true⟩
noncomputable def s_IsArrangement (k : Nat) (x : (List Int) × List Int) : Option (Bool) := aFn E s_IsArrangement_fi k x
noncomputable def s_IsArrangement_l4 (k : Nat) (v1 : List Int) (v22 : List Int) (v23 : Int) (v24 : Int) : Option (Bool) := aRun E k s_IsArrangement_fi.rs (ioOf s_IsArrangement_fi.ps) s_IsArrangement_fi.res s_IsArrangement_fi.hints [.code (sub s_IsArrangement_c [1, 1, 0, 1, 0, 0, 0]), .code (sub s_IsArrangement_c [1, 1, 0, 1, 0, 0, 1]), .inLoop (sub s_IsArrangement_c [1, 1, 0, 1, 0, 0]), .inBlock 0, .code (sub s_IsArrangement_c [1, 1, 1])] ⟨[.cv .dead, .cv (.val (.slice (.int .i64)) v1), .cv .dead, .cv .dead, .cv .dead, .cv .dead, .cv .dead, .cv .dead, .cv .dead, .cv .dead, .cv .dead, .cv .dead, .cv .dead, .cv .dead, .cv .dead, .cv .dead, .cv .dead, .cv .dead, .cv .dead, .cv .dead, .cv .dead, .cv .dead, .cv (.val (.slice (.int .i64)) v22), .cv (.val (.int .i64) v23), .cv (.val (.int .i64) v24), .cv .dead, .cv .dead, .cv .dead, .cv .dead, .cv .dead, .cv .dead, .cv .dead, .cv .dead, .cv .dead], [], true⟩
noncomputable def s_l05Less (k : Nat) (x : (List Int) × List Int) : Option (Bool) := aFn E s_l05Less_fi k x
noncomputable def s_l05Less_l2 (k : Nat) (v0 : List Int) (v1 : List Int) (v7 : List Int) (v8 : Int) (v9 : Int) : Option (Bool) := aRun E k s_l05Less_fi.rs (ioOf s_l05Less_fi.ps) s_l05Less_fi.res s_l05Less_fi.hints [.code (sub s_l05Less_c [1, 0, 1, 0, 0, 0]), .code (sub s_l05Less_c [1, 0, 1, 0, 0, 1]), .inLoop (sub s_l05Less_c [1, 0, 1, 0, 0]), .inBlock 0, .code (sub s_l05Less_c [1, 1])] ⟨[.cv (.val (.slice (.int .i64)) v0), .cv (.val (.slice (.int .i64)) v1), .cv .dead, .cv .dead, .cv .dead, .cv .dead, .cv .dead, .cv (.val (.slice (.int .i64)) v7), .cv (.val (.int .i64) v8), .cv (.val (.int .i64) v9), .cv .dead, .cv .dead, .cv .dead, .cv .dead, .cv .dead, .cv .dead, .cv .dead, .cv .dead, .cv .dead, .cv .dead, .cv .dead, .cv .dead, .cv .dead, .cv .dead, .cv .dead, .cv .dead, .cv .dead, .cv .dead, .cv .dead, .cv .dead, .cv .dead, .cv .dead, .cv .dead, .cv .dead, .cv .dead, .cv .dead], [], true⟩
noncomputable def s_KnowOk (k : Nat) (x : List (List Int)) : Option (Bool) := aFn E s_KnowOk_fi k x
noncomputable def s_KnowOk_l4 (k : Nat) (v0 : List (List Int)) (v16 : List (List Int)) (v17 : Int) (v18 : Int) : Option (Bool) := aRun E k s_KnowOk_fi.rs (ioOf s_KnowOk_fi.ps) s_KnowOk_fi.res s_KnowOk_fi.hints [.code (sub s_KnowOk_c [1, 1, 0, 1, 0, 0, 0]), .code (sub s_KnowOk_c [1, 1, 0, 1, 0, 0, 1]), .inLoop (sub s_KnowOk_c [1, 1, 0, 1, 0, 0]), .inBlock 0, .code (sub s_KnowOk_c [1, 1, 1])] ⟨[.cv (.val (.slice (.slice (.int .i64))) v0), .cv .dead, .cv .dead, .cv .dead, .cv .dead, .cv .dead, .cv .dead, .cv .dead, .cv .dead, .cv .dead, .cv .dead, .cv .dead, .cv .dead, .cv .dead, .cv .dead, .cv .dead, .cv (.val (.slice (.slice (.int .i64))) v16), .cv (.val (.int .i64) v17), .cv (.val (.int .i64) v18), .cv .dead, .cv .dead, .cv .dead, .cv .dead, .cv .dead, .cv .dead, .cv .dead, .cv .dead, .cv .dead, .cv .dead, .cv .dead, .cv .dead, .cv .dead, .cv .dead, .cv .dead, .cv .dead, .cv .dead, .cv .dead, .cv .dead, .cv .dead, .cv .dead, .cv .dead, .cv .dead, .cv .dead, .cv .dead], [], true⟩
noncomputable def s_KnownAt (k : Nat) (x : (List (List Int)) × Int) : Option (Int) := aFn E s_KnownAt_fi k x
noncomputable def s_KnownAt_l4 (k : Nat) (v0 : List (List Int)) (v1 : Int) (v20 : List (List Int)) (v21 : Int) (v22 : Int) : Option (Int) := aRun E k s_KnownAt_fi.rs (ioOf s_KnownAt_fi.ps) s_KnownAt_fi.res s_KnownAt_fi.hints [.code (sub s_KnownAt_c [1, 1, 0, 1, 0, 0, 0]), .code (sub s_KnownAt_c [1, 1, 0, 1, 0, 0, 1]), .inLoop (sub s_KnownAt_c [1, 1, 0, 1, 0, 0]), .inBlock 0, .code (sub s_KnownAt_c [1, 1, 1])] ⟨[.cv (.val (.slice (.slice (.int .i64))) v0), .cv (.val (.int .i64) v1), .cv .dead, .cv .dead, .cv .dead, .cv .dead, .cv .dead, .cv .dead, .cv .dead, .cv .dead, .cv .dead, .cv .dead, .cv .dead, .cv .dead, .cv .dead, .cv .dead, .cv .dead, .cv .dead, .cv .dead, .cv .dead, .cv (.val (.slice (.slice (.int .i64))) v20), .cv (.val (.int .i64) v21), .cv (.val (.int .i64) v22), .cv .dead, .cv .dead, .cv .dead, .cv .dead, .cv .dead, .cv .dead, .cv .dead, .cv .dead, .cv .dead, .cv .dead, .cv .dead, .cv .dead, .cv .dead, .cv .dead, .cv .dead, .cv .dead, .cv .dead, .cv .dead, .cv .dead, .cv .dead, .cv .dead, .cv .dead, .cv .dead, .cv .dead], [], true⟩
noncomputable def s_KnowLine (k : Nat) (x : List (List Int)) : Option (ByteArray) := aFn E s_KnowLine_fi k x
noncomputable def s_KnowLine_l5 (k : Nat) (v0 : List (List Int)) (v3 : ByteArray) (v16 : Int) (v17 : Int) : Option (ByteArray) := aRun E k s_KnowLine_fi.rs (ioOf s_KnowLine_fi.ps) s_KnowLine_fi.res s_KnowLine_fi.hints [.code (sub s_KnowLine_c [1, 1, 1, 0, 1, 0, 0, 0]), .code (sub s_KnowLine_c [1, 1, 1, 0, 1, 0, 0, 1]), .inLoop (sub s_KnowLine_c [1, 1, 1, 0, 1, 0, 0]), .inBlock 0, .code (sub s_KnowLine_c [1, 1, 1, 1])] ⟨[.cv (.val (.slice (.slice (.int .i64))) v0), .cv .dead, .cv .dead, .cv (.val (.str) v3), .cv .dead, .cv .dead, .cv .dead, .cv .dead, .cv .dead, .cv .dead, .cv .dead, .cv .dead, .cv .dead, .cv .dead, .cv .dead, .cv .dead, .cv (.val (.int .i64) v16), .cv (.val (.int .i64) v17), .cv .dead, .cv .dead, .cv .dead, .cv .dead, .cv .dead, .cv .dead, .cv .dead, .cv .dead, .cv .dead, .cv .dead, .cv .dead, .cv .dead, .cv .dead, .cv .dead, .cv .dead, .cv .dead], [], true⟩
noncomputable def i_PositionOf_1 (k : Nat) (x : Int × Int) : Option (Bool) := aFn E i_PositionOf_1_fi k x
noncomputable def slices_IndexFunc_int_of_i_PositionOf_1 (k : Nat) (x : (List Int) × Int) : Option (Int) := aFn E slices_IndexFunc_int_of_i_PositionOf_1_fi k x
noncomputable def slices_IndexFunc_int_of_i_PositionOf_1_l2 (k : Nat) (v0 : List Int) (v1_0_0 : Int) (v7 : Int) (v8 : Int) : Option (Int) := aRun E k slices_IndexFunc_int_of_i_PositionOf_1_fi.rs (ioOf slices_IndexFunc_int_of_i_PositionOf_1_fi.ps) slices_IndexFunc_int_of_i_PositionOf_1_fi.res slices_IndexFunc_int_of_i_PositionOf_1_fi.hints [.code (sub slices_IndexFunc_int_of_i_PositionOf_1_c [1, 0, 1, 0, 0, 0]), .code (sub slices_IndexFunc_int_of_i_PositionOf_1_c [1, 0, 1, 0, 0, 1]), .inLoop (sub slices_IndexFunc_int_of_i_PositionOf_1_c [1, 0, 1, 0, 0]), .inBlock 0, .code (sub slices_IndexFunc_int_of_i_PositionOf_1_c [1, 1])] ⟨[.cv (.val (.slice (.int .i64)) v0), .fn 140 [[.val (.int .i64) v1_0_0]], .cv .dead, .cv .dead, .cv .dead, .cv .dead, .cv .dead, .cv (.val (.int .i64) v7), .cv (.val (.int .i64) v8), .cv .dead, .cv .dead, .cv .dead, .cv .dead, .cv .dead, .cv .dead, .cv .dead, .cv .dead, .cv .dead, .cv .dead], [], true⟩
noncomputable def i_PositionOf (k : Nat) (x : (List Int) × Int) : Option (Int) := aFn E i_PositionOf_fi k x
noncomputable def i_IsArrangement_1 (k : Nat) (x : Int × List Int) : Option (Bool) := aFn E i_IsArrangement_1_fi k x
noncomputable def slices_IndexFunc_int_of_i_IsArrangement_1 (k : Nat) (x : (List Int) × List Int) : Option (Int) := aFn E slices_IndexFunc_int_of_i_IsArrangement_1_fi k x
noncomputable def slices_IndexFunc_int_of_i_IsArrangement_1_l2 (k : Nat) (v0 : List Int) (v1_0_0 : List Int) (v7 : Int) (v8 : Int) : Option (Int) := aRun E k slices_IndexFunc_int_of_i_IsArrangement_1_fi.rs (ioOf slices_IndexFunc_int_of_i_IsArrangement_1_fi.ps) slices_IndexFunc_int_of_i_IsArrangement_1_fi.res slices_IndexFunc_int_of_i_IsArrangement_1_fi.hints [.code (sub slices_IndexFunc_int_of_i_IsArrangement_1_c [1, 0, 1, 0, 0, 0]), .code (sub slices_IndexFunc_int_of_i_IsArrangement_1_c [1, 0, 1, 0, 0, 1]), .inLoop (sub slices_IndexFunc_int_of_i_IsArrangement_1_c [1, 0, 1, 0, 0]), .inBlock 0, .code (sub slices_IndexFunc_int_of_i_IsArrangement_1_c [1, 1])] ⟨[.cv (.val (.slice (.int .i64)) v0), .fn 128 [[.val (.slice (.int .i64)) v1_0_0]], .cv .dead, .cv .dead, .cv .dead, .cv .dead, .cv .dead, .cv (.val (.int .i64) v7), .cv (.val (.int .i64) v8), .cv .dead, .cv .dead, .cv .dead, .cv .dead, .cv .dead, .cv .dead, .cv .dead, .cv .dead, .cv .dead, .cv .dead], [], true⟩
noncomputable def slices_ContainsFunc_int_of_i_IsArrangement_1 (k : Nat) (x : (List Int) × List Int) : Option (Bool) := aFn E slices_ContainsFunc_int_of_i_IsArrangement_1_fi k x
noncomputable def i_IsArrangement (k : Nat) (x : (List Int) × List Int) : Option (Bool) := aFn E i_IsArrangement_fi k x
noncomputable def cmp_isNaN_int (k : Nat) (x : Int) : Option (Bool) := aFn E cmp_isNaN_int_fi k x
noncomputable def cmp_Compare_int (k : Nat) (x : Int × Int) : Option (Int) := aFn E cmp_Compare_int_fi k x
noncomputable def slices_Compare_int (k : Nat) (x : (List Int) × List Int) : Option (Int) := aFn E slices_Compare_int_fi k x
noncomputable def slices_Compare_int_l2 (k : Nat) (v0 : List Int) (v1 : List Int) (v9 : List Int) (v10 : Int) (v11 : Int) : Option (Int) := aRun E k slices_Compare_int_fi.rs (ioOf slices_Compare_int_fi.ps) slices_Compare_int_fi.res slices_Compare_int_fi.hints [.code (sub slices_Compare_int_c [1, 0, 1, 0, 0, 0]), .code (sub slices_Compare_int_c [1, 0, 1, 0, 0, 1]), .inLoop (sub slices_Compare_int_c [1, 0, 1, 0, 0]), .inBlock 0, .code (sub slices_Compare_int_c [1, 1])] ⟨[.cv (.val (.slice (.int .i64)) v0), .cv (.val (.slice (.int .i64)) v1), .cv .dead, .cv .dead, .cv .dead, .cv .dead, .cv .dead, .cv .dead, .cv .dead, .cv (.val (.slice (.int .i64)) v9), .cv (.val (.int .i64) v10), .cv (.val (.int .i64) v11), .cv .dead, .cv .dead, .cv .dead, .cv .dead, .cv .dead, .cv .dead, .cv .dead, .cv .dead, .cv .dead, .cv .dead, .cv .dead, .cv .dead, .cv .dead, .cv .dead, .cv .dead, .cv .dead, .cv .dead, .cv .dead, .cv .dead, .cv .dead, .cv .dead, .cv .dead, .cv .dead, .cv .dead], [], true⟩
noncomputable def i_KnowOk (k : Nat) (x : List (List Int)) : Option (Bool) := aFn E i_KnowOk_fi k x
noncomputable def i_KnowOk_l4 (k : Nat) (v0 : List (List Int)) (v20 : List (List Int)) (v21 : Int) (v22 : Int) : Option (Bool) := aRun E k i_KnowOk_fi.rs (ioOf i_KnowOk_fi.ps) i_KnowOk_fi.res i_KnowOk_fi.hints [.code (sub i_KnowOk_c [1, 1, 0, 1, 0, 0, 0]), .code (sub i_KnowOk_c [1, 1, 0, 1, 0, 0, 1]), .inLoop (sub i_KnowOk_c [1, 1, 0, 1, 0, 0]), .inBlock 0, .code (sub i_KnowOk_c [1, 1, 1])] ⟨[.cv (.val (.slice (.slice (.int .i64))) v0), .cv .dead, .cv .dead, .cv .dead, .cv .dead, .cv .dead, .cv .dead, .cv .dead, .cv .dead, .cv .dead, .cv .dead, .cv .dead, .cv .dead, .cv .dead, .cv .dead, .cv .dead, .cv .dead, .cv .dead, .cv .dead, .cv .dead, .cv (.val (.slice (.slice (.int .i64))) v20), .cv (.val (.int .i64) v21), .cv (.val (.int .i64) v22), .cv .dead, .cv .dead, .cv .dead, .cv .dead, .cv .dead, .cv .dead, .cv .dead, .cv .dead, .cv .dead, .cv .dead, .cv .dead, .cv .dead, .cv .dead, .cv .dead, .cv .dead, .cv .dead, .cv .dead, .cv .dead, .cv .dead, .cv .dead, .cv .dead, .cv .dead, .cv .dead, .cv .dead, .cv .dead], [], true⟩
noncomputable def i_KnownAt_1 (k : Nat) (x : (List Int) × Int) : Option (Int) := aFn E i_KnownAt_1_fi k x
noncomputable def i_common_of_i_KnownAt_1 (k : Nat) (x : (List (List Int)) × Int) : Option (Int) := aFn E i_common_of_i_KnownAt_1_fi k x
noncomputable def i_common_of_i_KnownAt_1_l5 (k : Nat) (v1_0_0 : Int) (v5 : Int) (v16 : List (List Int)) (v17 : Int) (v18 : Int) : Option (Int) := aRun E k i_common_of_i_KnownAt_1_fi.rs (ioOf i_common_of_i_KnownAt_1_fi.ps) i_common_of_i_KnownAt_1_fi.res i_common_of_i_KnownAt_1_fi.hints [.code (sub i_common_of_i_KnownAt_1_c [1, 1, 1, 0, 1, 0, 0, 0]), .code (sub i_common_of_i_KnownAt_1_c [1, 1, 1, 0, 1, 0, 0, 1]), .inLoop (sub i_common_of_i_KnownAt_1_c [1, 1, 1, 0, 1, 0, 0]), .inBlock 0, .code (sub i_common_of_i_KnownAt_1_c [1, 1, 1, 1])] ⟨[.cv .dead, .fn 101 [[.val (.int .i64) v1_0_0]], .cv .dead, .cv .dead, .cv .dead, .cv (.val (.int .i64) v5), .cv .dead, .cv .dead, .cv .dead, .cv .dead, .cv .dead, .cv .dead, .cv .dead, .cv .dead, .cv .dead, .cv .dead, .cv (.val (.slice (.slice (.int .i64))) v16), .cv (.val (.int .i64) v17), .cv (.val (.int .i64) v18), .cv .dead, .cv .dead, .cv .dead, .cv .dead, .cv .dead, .cv .dead, .cv .dead, .cv .dead, .cv .dead, .cv .dead], [], true⟩
noncomputable def i_KnownAt (k : Nat) (x : (List (List Int)) × Int) : Option (Int) := aFn E i_KnownAt_fi k x
noncomputable def i_KnowLine (k : Nat) (x : List (List Int)) : Option (ByteArray) := aFn E i_KnowLine_fi k x
noncomputable def i_KnowLine_l5 (k : Nat) (v0 : List (List Int)) (v3 : ByteArray) (v16 : Int) (v17 : Int) : Option (ByteArray) := aRun E k i_KnowLine_fi.rs (ioOf i_KnowLine_fi.ps) i_KnowLine_fi.res i_KnowLine_fi.hints [.code (sub i_KnowLine_c [1, 1, 1, 0, 1, 0, 0, 0]), .code (sub i_KnowLine_c [1, 1, 1, 0, 1, 0, 0, 1]), .inLoop (sub i_KnowLine_c [1, 1, 1, 0, 1, 0, 0]), .inBlock 0, .code (sub i_KnowLine_c [1, 1, 1, 1])] ⟨[.cv (.val (.slice (.slice (.int .i64))) v0), .cv .dead, .cv .dead, .cv (.val (.str) v3), .cv .dead, .cv .dead, .cv .dead, .cv .dead, .cv .dead, .cv .dead, .cv .dead, .cv .dead, .cv .dead, .cv .dead, .cv .dead, .cv .dead, .cv (.val (.int .i64) v16), .cv (.val (.int .i64) v17), .cv .dead, .cv .dead, .cv .dead, .cv .dead, .cv .dead, .cv .dead, .cv .dead, .cv .dead, .cv .dead, .cv .dead, .cv .dead, .cv .dead, .cv .dead, .cv .dead, .cv .dead, .cv .dead], [], true⟩
noncomputable def w_eqIntSS (k : Nat) (x : (List (List Int)) × List (List Int)) : Option (Bool) := aFn E w_eqIntSS_fi k x
noncomputable def w_eqIntSS_l4 (k : Nat) (v0 : List (List Int)) (v1 : List (List Int)) (v5 : Int) : Option (Bool) := aRun E k w_eqIntSS_fi.rs (ioOf w_eqIntSS_fi.ps) w_eqIntSS_fi.res w_eqIntSS_fi.hints [.code (sub w_eqIntSS_c [1, 1, 0, 1, 0, 0, 0, 0]), .code (sub w_eqIntSS_c [1, 1, 0, 1, 0, 0, 0, 1]), .code (sub w_eqIntSS_c [1, 1, 0, 1, 0, 0, 1]), .inLoop (sub w_eqIntSS_c [1, 1, 0, 1, 0, 0]), .inBlock 0, .code (sub w_eqIntSS_c [1, 1, 1])] ⟨[.cv (.val (.slice (.slice (.int .i64))) v0), .cv (.val (.slice (.slice (.int .i64))) v1), .cv .dead, .cv .dead, .cv .dead, .cv (.val (.int .i64) v5), .cv .dead, .cv .dead, .cv .dead, .cv .dead, .cv .dead, .cv .dead, .cv .dead, .cv .dead, .cv .dead, .cv .dead, .cv .dead, .cv .dead, .cv .dead, .cv .dead, .cv .dead, .cv .dead, .cv .dead, .cv .dead, .cv .dead, .cv .dead, .cv .dead], [], true⟩
noncomputable def w_FnExactKnowLine (k : Nat) (x : List (List Int)) : Option (Bool) := aFn E w_FnExactKnowLine_fi k x

theorem w_szIntS_eq (k : Nat) (x0 : List Int) (x1 : Int) : w_szIntS (k + 1) (x0, x1) =
  bif decide ((IntKind.i64.wrap (x1 - (x0.length : Int))) < (0 : Int)) then
    (some (-1 : Int))
  else (some (IntKind.i64.wrap (x1 - (x0.length : Int)))) := by kernel_rfl
theorem w_szStepS_eq (k : Nat) (x0 : List (Int × (Int × Int) × Int)) (x1 : Int) : w_szStepS (k + 1) (x0, x1) =
  bif decide ((IntKind.i64.wrap (x1 - (x0.length : Int))) < (0 : Int)) then
    (some (-1 : Int))
  else (some (IntKind.i64.wrap (x1 - (x0.length : Int)))) := by kernel_rfl
theorem w_szTrick_eq (k : Nat) (x0 : (List Int) × (List (Int × (Int × Int) × Int)) × Int × Int × Int) (x1 : Int) : w_szTrick (k + 1) (x0, x1) =
  (w_szIntS k (x0.1, x1)).bind fun y1 =>
  bif decide (y1 < (0 : Int)) then
    (some (-1 : Int))
  else ((w_szStepS k (x0.2.1, y1)).bind fun y2 =>
    bif decide (y2 < (0 : Int)) then
      (some (-1 : Int))
    else (some y2)) := by kernel_rfl
theorem w_toIntS_eq (k : Nat) (x0 : List Int) : w_toIntS (k + 1) x0 =
  bif decide (0 ≤ (x0.length : Int)) then
    (bif decide ((x0.length : Int) ≤ (rowMax : Int)) then
      (bif ((x0.length : Int) == (x0.length : Int)) then
        (w_toIntS_l3 k x0 (0 : Int) (List.replicate (x0.length : Int).toNat (0 : Int)))
      else (none))
    else (none))
  else (none) := by kernel_rfl
theorem w_toIntS_l3_eq (k : Nat) (v0 : List Int) (v4 : Int) (o100003 : List Int) : w_toIntS_l3 (k + 1) v0 v4 o100003 =
  bif decide (v4 < (v0.length : Int)) then
    (bif decide (0 ≤ v4) then
      (bif decide (v4 < (v0.length : Int)) then
        (bif decide (0 ≤ v4) then
          (bif decide (v4 < (o100003.length : Int)) then
            (bif decide (v4.toNat < o100003.length) then
              (w_toIntS_l3 k v0 (IntKind.i64.wrap (v4 + (1 : Int))) (o100003.set v4.toNat (v0.getD v4.toNat (0 : Int))))
            else (none))
          else (none))
        else (none))
      else (none))
    else (none))
  else (some o100003) := by kernel_rfl
theorem w_toMove_eq (k : Nat) (x0 : Int × Int) : w_toMove (k + 1) x0 =
  some x0 := by kernel_rfl
theorem w_toStep_eq (k : Nat) (x0 : Int × (Int × Int) × Int) : w_toStep (k + 1) x0 =
  (w_toMove k x0.2.1).bind fun y1 =>
  some (x0.1, (y1.1, (y1.2, x0.2.2))) := by kernel_rfl
theorem w_toStepS_eq (k : Nat) (x0 : List (Int × (Int × Int) × Int)) : w_toStepS (k + 1) x0 =
  bif decide (0 ≤ (x0.length : Int)) then
    (bif decide ((x0.length : Int) ≤ (rowMax : Int)) then
      (bif ((x0.length : Int) == (x0.length : Int)) then
        (w_toStepS_l3 k x0 (0 : Int) (List.replicate (x0.length : Int).toNat ((0 : Int), (((0 : Int), (0 : Int)), (0 : Int)))))
      else (none))
    else (none))
  else (none) := by kernel_rfl
theorem w_toStepS_l3_eq (k : Nat) (v0 : List (Int × (Int × Int) × Int)) (v4 : Int) (o100003 : List (Int × (Int × Int) × Int)) : w_toStepS_l3 (k + 1) v0 v4 o100003 =
  bif decide (v4 < (v0.length : Int)) then
    (bif decide (0 ≤ v4) then
      (bif decide (v4 < (v0.length : Int)) then
        ((w_toStep k ((v0.getD v4.toNat ((0 : Int), (((0 : Int), (0 : Int)), (0 : Int)))).1, ((((v0.getD v4.toNat ((0 : Int), (((0 : Int), (0 : Int)), (0 : Int)))).2).1), ((v0.getD v4.toNat ((0 : Int), (((0 : Int), (0 : Int)), (0 : Int)))).2).2))).bind fun y1 =>
        bif decide (0 ≤ v4) then
          (bif decide (v4 < (o100003.length : Int)) then
            (bif decide (v4.toNat < o100003.length) then
              (w_toStepS_l3 k v0 (IntKind.i64.wrap (v4 + (1 : Int))) (o100003.set v4.toNat (y1.1, ((y1.2.1, y1.2.2.1), y1.2.2.2))))
            else (none))
          else (none))
        else (none))
      else (none))
    else (none))
  else (some o100003) := by kernel_rfl
theorem w_toTrick_eq (k : Nat) (x0 : (List Int) × (List (Int × (Int × Int) × Int)) × Int × Int × Int) : w_toTrick (k + 1) x0 =
  (w_toIntS k x0.1).bind fun y1 =>
  (w_toStepS k x0.2.1).bind fun y2 =>
  some (y1, (y2, x0.2.2)) := by kernel_rfl
theorem s_FormatInt_eq (k : Nat) (x0 : Int) : s_FormatInt (k + 1) x0 =
  bif decide (x0 < (0 : Int)) then
    (bif ((IntKind.i64.wrap (x0.tdiv (10 : Int))) == (0 : Int)) then
      (bif decide ((⟨#[45]⟩ : ByteArray).size + (bytesStr [(IntKind.u8.wrap (IntKind.i64.wrap ((48 : Int) - x0)))]).size ≤ 9223372036854775807) then
        (some ((⟨#[45]⟩ : ByteArray) ++ (bytesStr [(IntKind.u8.wrap (IntKind.i64.wrap ((48 : Int) - x0)))])))
      else (none))
    else ((s_FormatInt k (IntKind.i64.wrap (x0.tdiv (10 : Int)))).bind fun y1 =>
      bif decide (y1.size + (bytesStr [(IntKind.u8.wrap (IntKind.i64.wrap ((48 : Int) - (x0.tmod (10 : Int)))))]).size ≤ 9223372036854775807) then
        (some (y1 ++ (bytesStr [(IntKind.u8.wrap (IntKind.i64.wrap ((48 : Int) - (x0.tmod (10 : Int)))))])))
      else (none)))
  else (s_FormatInt_l6 k x0 (⟨#[]⟩ : ByteArray)) := by kernel_rfl
theorem s_FormatInt_l6_eq (k : Nat) (v0 : Int) (v3 : ByteArray) : s_FormatInt_l6 (k + 1) v0 v3 =
  bif decide (v0 > (9 : Int)) then
    (bif decide ((bytesStr [(IntKind.u8.wrap (IntKind.i64.wrap ((48 : Int) + (v0.tmod (10 : Int)))))]).size + v3.size ≤ 9223372036854775807) then
      (s_FormatInt_l6 k (IntKind.i64.wrap (v0.tdiv (10 : Int))) ((bytesStr [(IntKind.u8.wrap (IntKind.i64.wrap ((48 : Int) + (v0.tmod (10 : Int)))))]) ++ v3))
    else (none))
  else (bif decide ((bytesStr [(IntKind.u8.wrap (IntKind.i64.wrap ((48 : Int) + v0)))]).size + v3.size ≤ 9223372036854775807) then
      (some ((bytesStr [(IntKind.u8.wrap (IntKind.i64.wrap ((48 : Int) + v0)))]) ++ v3))
    else (none)) := by kernel_rfl
theorem s_FormatClaim_eq (k : Nat) (x0 : (List Int) × (List (Int × (Int × Int) × Int)) × Int × Int × Int) : s_FormatClaim (k + 1) x0 =
  bif (x0.2.2.1 == (0 : Int)) then
    (some (⟨#[110, 111, 116, 104, 105, 110, 103]⟩ : ByteArray))
  else (bif (x0.2.2.1 == (1 : Int)) then
      ((s_FormatInt k x0.2.2.2.1).bind fun y1 =>
      bif decide ((⟨#[110, 111, 116, 101, 100, 32, 97, 116, 32]⟩ : ByteArray).size + y1.size ≤ 9223372036854775807) then
        (some ((⟨#[110, 111, 116, 101, 100, 32, 97, 116, 32]⟩ : ByteArray) ++ y1))
      else (none))
    else (bif (x0.2.2.1 == (2 : Int)) then
        ((s_FormatInt k x0.2.2.2.1).bind fun y2 =>
        bif decide ((⟨#[117, 112, 32]⟩ : ByteArray).size + y2.size ≤ 9223372036854775807) then
          (some ((⟨#[117, 112, 32]⟩ : ByteArray) ++ y2))
        else (none))
      else (bif (x0.2.2.1 == (3 : Int)) then
          ((s_FormatInt k x0.2.2.2.1).bind fun y3 =>
          bif decide ((⟨#[99, 97, 114, 100, 32]⟩ : ByteArray).size + y3.size ≤ 9223372036854775807) then
            (bif decide (((⟨#[99, 97, 114, 100, 32]⟩ : ByteArray) ++ y3).size + (⟨#[32, 97, 116, 32]⟩ : ByteArray).size ≤ 9223372036854775807) then
              ((s_FormatInt k x0.2.2.2.2).bind fun y4 =>
              bif decide ((((⟨#[99, 97, 114, 100, 32]⟩ : ByteArray) ++ y3) ++ (⟨#[32, 97, 116, 32]⟩ : ByteArray)).size + y4.size ≤ 9223372036854775807) then
                (some ((((⟨#[99, 97, 114, 100, 32]⟩ : ByteArray) ++ y3) ++ (⟨#[32, 97, 116, 32]⟩ : ByteArray)) ++ y4))
              else (none))
            else (none))
          else (none))
        else (bif (x0.2.2.1 == (4 : Int)) then
            (some (⟨#[111, 114, 100, 101, 114]⟩ : ByteArray))
          else (some (⟨#[]⟩ : ByteArray)))))) := by kernel_rfl
theorem strconv_Itoa_eq (k : Nat) (x0 : Int) : strconv_Itoa k x0 = itoaF x0 := by kernel_rfl
theorem i_FormatInt_eq (k : Nat) (x0 : Int) : i_FormatInt (k + 1) x0 =
  (strconv_Itoa k x0).bind fun y1 =>
  some y1 := by kernel_rfl
theorem i_FormatClaim_eq (k : Nat) (x0 : (List Int) × (List (Int × (Int × Int) × Int)) × Int × Int × Int) : i_FormatClaim (k + 1) x0 =
  bif (x0.2.2.1 == (0 : Int)) then
    (some (⟨#[110, 111, 116, 104, 105, 110, 103]⟩ : ByteArray))
  else (bif (x0.2.2.1 == (1 : Int)) then
      ((i_FormatInt k x0.2.2.2.1).bind fun y1 =>
      bif decide ((⟨#[110, 111, 116, 101, 100, 32, 97, 116, 32]⟩ : ByteArray).size + y1.size ≤ 9223372036854775807) then
        (some ((⟨#[110, 111, 116, 101, 100, 32, 97, 116, 32]⟩ : ByteArray) ++ y1))
      else (none))
    else (bif (x0.2.2.1 == (2 : Int)) then
        ((i_FormatInt k x0.2.2.2.1).bind fun y2 =>
        bif decide ((⟨#[117, 112, 32]⟩ : ByteArray).size + y2.size ≤ 9223372036854775807) then
          (some ((⟨#[117, 112, 32]⟩ : ByteArray) ++ y2))
        else (none))
      else (bif (x0.2.2.1 == (3 : Int)) then
          ((i_FormatInt k x0.2.2.2.1).bind fun y3 =>
          bif decide ((⟨#[99, 97, 114, 100, 32]⟩ : ByteArray).size + y3.size ≤ 9223372036854775807) then
            (bif decide (((⟨#[99, 97, 114, 100, 32]⟩ : ByteArray) ++ y3).size + (⟨#[32, 97, 116, 32]⟩ : ByteArray).size ≤ 9223372036854775807) then
              ((i_FormatInt k x0.2.2.2.2).bind fun y4 =>
              bif decide ((((⟨#[99, 97, 114, 100, 32]⟩ : ByteArray) ++ y3) ++ (⟨#[32, 97, 116, 32]⟩ : ByteArray)).size + y4.size ≤ 9223372036854775807) then
                (some ((((⟨#[99, 97, 114, 100, 32]⟩ : ByteArray) ++ y3) ++ (⟨#[32, 97, 116, 32]⟩ : ByteArray)) ++ y4))
              else (none))
            else (none))
          else (none))
        else (bif (x0.2.2.1 == (4 : Int)) then
            (some (⟨#[111, 114, 100, 101, 114]⟩ : ByteArray))
          else (some (⟨#[]⟩ : ByteArray)))))) := by kernel_rfl
theorem w_eqIntS_eq (k : Nat) (x0 : List Int) (x1 : List Int) : w_eqIntS (k + 1) (x0, x1) =
  bif (!((x0.length : Int) == (x1.length : Int))) then
    (some false)
  else (w_eqIntS_l4 k x0 x1 (0 : Int)) := by kernel_rfl
theorem w_eqIntS_l4_eq (k : Nat) (v0 : List Int) (v1 : List Int) (v5 : Int) : w_eqIntS_l4 (k + 1) v0 v1 v5 =
  bif decide (v5 < (v0.length : Int)) then
    (bif decide (0 ≤ v5) then
      (bif decide (v5 < (v0.length : Int)) then
        (bif decide (0 ≤ v5) then
          (bif decide (v5 < (v1.length : Int)) then
            (bif (!((v0.getD v5.toNat (0 : Int)) == (v1.getD v5.toNat (0 : Int)))) then
              (some false)
            else (w_eqIntS_l4 k v0 v1 (IntKind.i64.wrap (v5 + (1 : Int)))))
          else (none))
        else (none))
      else (none))
    else (none))
  else (some true) := by kernel_rfl
theorem w_eqMove_eq (k : Nat) (x0 : Int × Int) (x1 : Int × Int) : w_eqMove (k + 1) (x0, x1) =
  bif (!(x0.1 == x1.1)) then
    (some false)
  else (bif (!(x0.2 == x1.2)) then
      (some false)
    else (some true)) := by kernel_rfl
theorem w_eqStep_eq (k : Nat) (x0 : Int × (Int × Int) × Int) (x1 : Int × (Int × Int) × Int) : w_eqStep (k + 1) (x0, x1) =
  bif (!(x0.1 == x1.1)) then
    (some false)
  else ((w_eqMove k (x0.2.1, x1.2.1)).bind fun y1 =>
    bif (!y1) then
      (some false)
    else (bif (!(x0.2.2 == x1.2.2)) then
        (some false)
      else (some true))) := by kernel_rfl
theorem w_eqStepS_eq (k : Nat) (x0 : List (Int × (Int × Int) × Int)) (x1 : List (Int × (Int × Int) × Int)) : w_eqStepS (k + 1) (x0, x1) =
  bif (!((x0.length : Int) == (x1.length : Int))) then
    (some false)
  else (w_eqStepS_l4 k x0 x1 (0 : Int)) := by kernel_rfl
theorem w_eqStepS_l4_eq (k : Nat) (v0 : List (Int × (Int × Int) × Int)) (v1 : List (Int × (Int × Int) × Int)) (v5 : Int) : w_eqStepS_l4 (k + 1) v0 v1 v5 =
  bif decide (v5 < (v0.length : Int)) then
    (bif decide (0 ≤ v5) then
      (bif decide (v5 < (v0.length : Int)) then
        (bif decide (0 ≤ v5) then
          (bif decide (v5 < (v1.length : Int)) then
            ((w_eqStep k (((v0.getD v5.toNat ((0 : Int), (((0 : Int), (0 : Int)), (0 : Int)))).1, ((((v0.getD v5.toNat ((0 : Int), (((0 : Int), (0 : Int)), (0 : Int)))).2).1), ((v0.getD v5.toNat ((0 : Int), (((0 : Int), (0 : Int)), (0 : Int)))).2).2)), ((v1.getD v5.toNat ((0 : Int), (((0 : Int), (0 : Int)), (0 : Int)))).1, ((((v1.getD v5.toNat ((0 : Int), (((0 : Int), (0 : Int)), (0 : Int)))).2).1), ((v1.getD v5.toNat ((0 : Int), (((0 : Int), (0 : Int)), (0 : Int)))).2).2)))).bind fun y1 =>
            bif (!y1) then
              (some false)
            else (w_eqStepS_l4 k v0 v1 (IntKind.i64.wrap (v5 + (1 : Int)))))
          else (none))
        else (none))
      else (none))
    else (none))
  else (some true) := by kernel_rfl
theorem w_eqTrick_eq (k : Nat) (x0 : (List Int) × (List (Int × (Int × Int) × Int)) × Int × Int × Int) (x1 : (List Int) × (List (Int × (Int × Int) × Int)) × Int × Int × Int) : w_eqTrick (k + 1) (x0, x1) =
  (w_eqIntS k (x0.1, x1.1)).bind fun y1 =>
  bif (!y1) then
    (some false)
  else ((w_eqStepS k (x0.2.1, x1.2.1)).bind fun y2 =>
    bif (!y2) then
      (some false)
    else (bif (!(x0.2.2.1 == x1.2.2.1)) then
        (some false)
      else (bif (!(x0.2.2.2.1 == x1.2.2.2.1)) then
          (some false)
        else (bif (!(x0.2.2.2.2 == x1.2.2.2.2)) then
            (some false)
          else (some true))))) := by kernel_rfl
theorem w_FnExactFormatClaim_eq (k : Nat) (x0 : (List Int) × (List (Int × (Int × Int) × Int)) × Int × Int × Int) : w_FnExactFormatClaim (k + 1) x0 =
  (w_szTrick k (x0, (1048576 : Int))).bind fun y1 =>
  bif decide (y1 < (0 : Int)) then
    (some true)
  else ((w_toTrick k x0).bind fun y2 =>
    (s_FormatClaim k y2).bind fun y3 =>
    (w_toTrick k x0).bind fun y4 =>
    (i_FormatClaim k y4).bind fun y5 =>
    bif (!(y5.toList == y3.toList)) then
      (some false)
    else ((w_toTrick k x0).bind fun y6 =>
      (w_eqTrick k (y4, y6)).bind fun y7 =>
      bif (!y7) then
        (some false)
      else (some true))) := by kernel_rfl
theorem s_l01In_eq (k : Nat) (x0 : Int) (x1 : Int) (x2 : Int) : s_l01In (k + 1) (x0, x1, x2) =
  bif decide (x0 ≥ x1) then
    (some (decide (x0 ≤ x2)))
  else (some false) := by kernel_rfl
theorem s_CardOf_eq (k : Nat) (x0 : Int) : s_CardOf (k + 1) x0 =
  (s_l01In k (x0, ((0 : Int), (11 : Int)))).bind fun y1 =>
  bif y1 then
    (some x0)
  else ((s_l01In k (x0, ((-12 : Int), (-1 : Int)))).bind fun y2 =>
    bif y2 then
      (some (IntKind.i64.wrap ((-1 : Int) - x0)))
    else (some (-1 : Int))) := by kernel_rfl
theorem s_l02Has_eq (k : Nat) (x0 : List Int) (x1 : Int) : s_l02Has (k + 1) (x0, x1) =
  s_l02Has_l2 k x1 x0 (x0.length : Int) (0 : Int) := by kernel_rfl
theorem s_l02Has_l2_eq (k : Nat) (v1 : Int) (v7 : List Int) (v8 : Int) (v9 : Int) : s_l02Has_l2 (k + 1) v1 v7 v8 v9 =
  bif decide (v9 < v8) then
    (bif decide (0 ≤ v9) then
      (bif decide (v9 < (v7.length : Int)) then
        (bif ((v7.getD v9.toNat (0 : Int)) == v1) then
          (some true)
        else (s_l02Has_l2 k v1 v7 v8 (IntKind.i64.wrap (v9 + (1 : Int)))))
      else (none))
    else (none))
  else (some false) := by kernel_rfl
theorem s_PacketOk_eq (k : Nat) (x0 : List Int) : s_PacketOk (k + 1) x0 =
  bif decide ((x0.length : Int) > (12 : Int)) then
    (some false)
  else (s_PacketOk_l5 k x0 (x0.length : Int) (0 : Int) ([] : List Int)) := by kernel_rfl
theorem s_PacketOk_l5_eq (k : Nat) (v11 : List Int) (v12 : Int) (v13 : Int) (o100003 : List Int) : s_PacketOk_l5 (k + 1) v11 v12 v13 o100003 =
  bif decide (v13 < v12) then
    (bif decide (0 ≤ v13) then
      (bif decide (v13 < (v11.length : Int)) then
        ((s_CardOf k (v11.getD v13.toNat (0 : Int))).bind fun y1 =>
        bif decide (y1 < (0 : Int)) then
          (some false)
        else ((s_l02Has k (o100003, y1)).bind fun y2 =>
          bif y2 then
            (some false)
          else (bif decide (o100003.length + [y1].length ≤ rowMax) then
              (s_PacketOk_l5 k v11 v12 (IntKind.i64.wrap (v13 + (1 : Int))) (o100003 ++ [y1]))
            else (none))))
      else (none))
    else (none))
  else (some true) := by kernel_rfl
theorem s_IsUp_eq (k : Nat) (x0 : Int) : s_IsUp (k + 1) x0 =
  (s_l01In k (x0, ((-12 : Int), (-1 : Int)))).bind fun y1 =>
  some y1 := by kernel_rfl
theorem s_Join_eq (k : Nat) (x0 : List ByteArray) (x1 : ByteArray) : s_Join (k + 1) (x0, x1) =
  s_Join_l3 k x1 (⟨#[]⟩ : ByteArray) x0 (x0.length : Int) (0 : Int) := by kernel_rfl
theorem s_Join_l3_eq (k : Nat) (v1 : ByteArray) (v5 : ByteArray) (v8 : List ByteArray) (v9 : Int) (v10 : Int) : s_Join_l3 (k + 1) v1 v5 v8 v9 v10 =
  bif decide (v10 < v9) then
    (bif decide (0 ≤ v10) then
      (bif decide (v10 < (v8.length : Int)) then
        (bif decide (v10 > (0 : Int)) then
          (bif decide (v5.size + v1.size ≤ 9223372036854775807) then
            (bif decide ((v5 ++ v1).size + (v8.getD v10.toNat (⟨#[]⟩ : ByteArray)).size ≤ 9223372036854775807) then
              (s_Join_l3 k v1 ((v5 ++ v1) ++ (v8.getD v10.toNat (⟨#[]⟩ : ByteArray))) v8 v9 (IntKind.i64.wrap (v10 + (1 : Int))))
            else (none))
          else (none))
        else (bif decide (v5.size + (v8.getD v10.toNat (⟨#[]⟩ : ByteArray)).size ≤ 9223372036854775807) then
            (s_Join_l3 k v1 (v5 ++ (v8.getD v10.toNat (⟨#[]⟩ : ByteArray))) v8 v9 (IntKind.i64.wrap (v10 + (1 : Int))))
          else (none)))
      else (none))
    else (none))
  else (some v5) := by kernel_rfl
theorem s_FormatPacket_eq (k : Nat) (x0 : List Int) : s_FormatPacket (k + 1) x0 =
  (s_PacketOk k x0).bind fun y1 =>
  bif (!y1) then
    (some (⟨#[]⟩ : ByteArray))
  else (s_FormatPacket_l5 k x0 (x0.length : Int) (0 : Int) ([] : List ByteArray)) := by kernel_rfl
theorem s_FormatPacket_l5_eq (k : Nat) (v11 : List Int) (v12 : Int) (v13 : Int) (o100003 : List ByteArray) : s_FormatPacket_l5 (k + 1) v11 v12 v13 o100003 =
  bif decide (v13 < v12) then
    (bif decide (0 ≤ v13) then
      (bif decide (v13 < (v11.length : Int)) then
        ((s_CardOf k (v11.getD v13.toNat (0 : Int))).bind fun y1 =>
        (s_FormatInt k y1).bind fun y2 =>
        (s_IsUp k (v11.getD v13.toNat (0 : Int))).bind fun y3 =>
        bif y3 then
          (bif decide (y2.size + (⟨#[94]⟩ : ByteArray).size ≤ 9223372036854775807) then
            (bif decide (o100003.length + ([(y2 ++ (⟨#[94]⟩ : ByteArray))]).length ≤ rowMax) then
              (s_FormatPacket_l5 k v11 v12 (IntKind.i64.wrap (v13 + (1 : Int))) (o100003 ++ ([(y2 ++ (⟨#[94]⟩ : ByteArray))])))
            else (none))
          else (none))
        else (bif decide (o100003.length + [y2].length ≤ rowMax) then
            (s_FormatPacket_l5 k v11 v12 (IntKind.i64.wrap (v13 + (1 : Int))) (o100003 ++ [y2]))
          else (none)))
      else (none))
    else (none))
  else (bif ((o100003.length : Int) == (0 : Int)) then
      (some (⟨#[101, 109, 112, 116, 121]⟩ : ByteArray))
    else ((s_Join k (o100003, (⟨#[32]⟩ : ByteArray))).bind fun y4 =>
      some y4)) := by kernel_rfl
theorem i_CardOf_eq (k : Nat) (x0 : Int) : i_CardOf (k + 1) x0 =
  bif decide (x0 < (0 : Int)) then
    (bif decide ((IntKind.i64.wrap ((-1 : Int) - x0)) ≥ (12 : Int)) then
      (some (-1 : Int))
    else (some (IntKind.i64.wrap ((-1 : Int) - x0))))
  else (bif decide (x0 ≥ (12 : Int)) then
      (some (-1 : Int))
    else (some x0)) := by kernel_rfl
theorem i_PacketOk_eq (k : Nat) (x0 : List Int) : i_PacketOk (k + 1) x0 =
  i_PacketOk_l3 k x0 (x0.length : Int) (0 : Int) (List.replicate 12 false) := by kernel_rfl
theorem i_PacketOk_l3_eq (k : Nat) (v7 : List Int) (v8 : Int) (v9 : Int) (o400003 : List Bool) : i_PacketOk_l3 (k + 1) v7 v8 v9 o400003 =
  bif decide (v9 < v8) then
    (bif decide (0 ≤ v9) then
      (bif decide (v9 < (v7.length : Int)) then
        ((i_CardOf k (v7.getD v9.toNat (0 : Int))).bind fun y1 =>
        bif decide (y1 < (0 : Int)) then
          (some false)
        else (bif (Nat.beq o400003.length 12 && true) then
            (bif decide (0 ≤ y1) then
              (bif decide (y1 < (o400003.length : Int)) then
                (bif decide (y1.toNat < o400003.length) then
                  (bif (o400003.getD y1.toNat false) then
                    (some false)
                  else (bif (Nat.beq o400003.length 12 && true) then
                      (bif decide (0 ≤ y1) then
                        (bif decide (y1 < (o400003.length : Int)) then
                          (bif decide (y1.toNat < o400003.length) then
                            (i_PacketOk_l3 k v7 v8 (IntKind.i64.wrap (v9 + (1 : Int))) (o400003.set y1.toNat true))
                          else (none))
                        else (none))
                      else (none))
                    else (none)))
                else (none))
              else (none))
            else (none))
          else (none)))
      else (none))
    else (none))
  else (some true) := by kernel_rfl
theorem i_IsUp_eq (k : Nat) (x0 : Int) : i_IsUp (k + 1) x0 =
  bif decide (x0 < (0 : Int)) then
    ((i_CardOf k x0).bind fun y1 =>
    some (decide (y1 ≥ (0 : Int))))
  else (some false) := by kernel_rfl
theorem strings_Join_eq (k : Nat) (x0 : List ByteArray) (x1 : ByteArray) : strings_Join k (x0, x1) = joinF x0 x1 := by kernel_rfl
theorem i_Join_eq (k : Nat) (x0 : List ByteArray) (x1 : ByteArray) : i_Join (k + 1) (x0, x1) =
  (strings_Join k (x0, x1)).bind fun y1 =>
  some y1 := by kernel_rfl
theorem i_FormatPacket_eq (k : Nat) (x0 : List Int) : i_FormatPacket (k + 1) x0 =
  (i_PacketOk k x0).bind fun y1 =>
  bif (!y1) then
    (some (⟨#[]⟩ : ByteArray))
  else (bif ((x0.length : Int) == (0 : Int)) then
      (some (⟨#[101, 109, 112, 116, 121]⟩ : ByteArray))
    else (i_FormatPacket_l7 k x0 (x0.length : Int) (0 : Int) [])) := by kernel_rfl
theorem i_FormatPacket_l7_eq (k : Nat) (v13 : List Int) (v14 : Int) (v15 : Int) (o100003 : List ByteArray) : i_FormatPacket_l7 (k + 1) v13 v14 v15 o100003 =
  bif decide (v15 < v14) then
    (bif decide (0 ≤ v15) then
      (bif decide (v15 < (v13.length : Int)) then
        ((i_CardOf k (v13.getD v15.toNat (0 : Int))).bind fun y1 =>
        (i_FormatInt k y1).bind fun y2 =>
        (i_IsUp k (v13.getD v15.toNat (0 : Int))).bind fun y3 =>
        bif y3 then
          (bif decide (y2.size + (⟨#[94]⟩ : ByteArray).size ≤ 9223372036854775807) then
            (bif decide (o100003.length + ([(y2 ++ (⟨#[94]⟩ : ByteArray))]).length ≤ rowMax) then
              (i_FormatPacket_l7 k v13 v14 (IntKind.i64.wrap (v15 + (1 : Int))) (o100003 ++ ([(y2 ++ (⟨#[94]⟩ : ByteArray))])))
            else (none))
          else (none))
        else (bif decide (o100003.length + [y2].length ≤ rowMax) then
            (i_FormatPacket_l7 k v13 v14 (IntKind.i64.wrap (v15 + (1 : Int))) (o100003 ++ [y2]))
          else (none)))
      else (none))
    else (none))
  else ((i_Join k (o100003, (⟨#[32]⟩ : ByteArray))).bind fun y4 =>
    some y4) := by kernel_rfl
theorem w_FnExactFormatPacket_eq (k : Nat) (x0 : List Int) : w_FnExactFormatPacket (k + 1) x0 =
  bif decide ((x0.length : Int) > (1048576 : Int)) then
    (some true)
  else ((w_toIntS k x0).bind fun y1 =>
    (s_FormatPacket k y1).bind fun y2 =>
    (w_toIntS k x0).bind fun y3 =>
    (i_FormatPacket k y3).bind fun y4 =>
    bif (!(y4.toList == y2.toList)) then
      (some false)
    else ((w_toIntS k x0).bind fun y5 =>
      (w_eqIntS k (y3, y5)).bind fun y6 =>
      bif (!y6) then
        (some false)
      else (some true))) := by kernel_rfl
theorem s_PermOk_eq (k : Nat) (x0 : List Int) : s_PermOk (k + 1) x0 =
  bif decide ((x0.length : Int) > (12 : Int)) then
    (some false)
  else (s_PermOk_l4 k x0 x0 (x0.length : Int) (0 : Int)) := by kernel_rfl
theorem s_PermOk_l4_eq (k : Nat) (v0 : List Int) (v8 : List Int) (v9 : Int) (v10 : Int) : s_PermOk_l4 (k + 1) v0 v8 v9 v10 =
  bif decide (v10 < v9) then
    (bif decide (0 ≤ v10) then
      (bif decide (v10 < (v8.length : Int)) then
        ((s_l01In k ((v8.getD v10.toNat (0 : Int)), ((0 : Int), (IntKind.i64.wrap ((v0.length : Int) - (1 : Int)))))).bind fun y1 =>
        bif (!y1) then
          (some false)
        else (bif decide (0 ≤ v10) then
            (bif decide (v10 ≤ (v0.length : Int)) then
              ((s_l02Has k (((v0.take v10.toNat).drop 0), (v8.getD v10.toNat (0 : Int)))).bind fun y2 =>
              bif y2 then
                (some false)
              else (s_PermOk_l4 k v0 v8 v9 (IntKind.i64.wrap (v10 + (1 : Int)))))
            else (none))
          else (none)))
      else (none))
    else (none))
  else (some true) := by kernel_rfl
theorem s_CyclesOf_eq (k : Nat) (x0 : List Int) : s_CyclesOf (k + 1) x0 =
  (s_PermOk k x0).bind fun y1 =>
  bif (!y1) then
    (some [])
  else (bif decide (0 ≤ (x0.length : Int)) then
      (bif decide ((x0.length : Int) ≤ (rowMax : Int)) then
        (bif ((x0.length : Int) == (x0.length : Int)) then
          (s_CyclesOf_l6 k x0 (x0.length : Int) (0 : Int) ([] : List (List Int)) (List.replicate (x0.length : Int).toNat false))
        else (none))
      else (none))
    else (none)) := by kernel_rfl
theorem s_CyclesOf_l6_eq (k : Nat) (v0 : List Int) (v16 : Int) (v17 : Int) (o100003 : List (List Int)) (o100004 : List Bool) : s_CyclesOf_l6 (k + 1) v0 v16 v17 o100003 o100004 =
  bif decide (v17 < v16) then
    (bif decide (0 ≤ v17) then
      (bif decide (v17 < (o100004.length : Int)) then
        (bif decide (v17.toNat < o100004.length) then
          (bif (o100004.getD v17.toNat false) then
            (s_CyclesOf_l6 k v0 v16 (IntKind.i64.wrap (v17 + (1 : Int))) o100003 o100004)
          else (s_CyclesOf_l11 k v0 v17 v16 v17 o100003 o100004 ([] : List Int)))
        else (none))
      else (none))
    else (none))
  else (some o100003) := by kernel_rfl
theorem s_CyclesOf_l11_eq (k : Nat) (v0 : List Int) (v7 : Int) (v16 : Int) (v17 : Int) (o100003 : List (List Int)) (o100004 : List Bool) (o100006 : List Int) : s_CyclesOf_l11 (k + 1) v0 v7 v16 v17 o100003 o100004 o100006 =
  bif decide (0 ≤ v7) then
    (bif decide (v7 < (o100004.length : Int)) then
      (bif decide (v7.toNat < o100004.length) then
        (bif (!(o100004.getD v7.toNat false)) then
          (bif decide (0 ≤ v7) then
            (bif decide (v7 < (o100004.length : Int)) then
              (bif decide (v7.toNat < o100004.length) then
                (bif decide (o100006.length + [v7].length ≤ rowMax) then
                  (bif decide (0 ≤ v7) then
                    (bif decide (v7 < (v0.length : Int)) then
                      (s_CyclesOf_l11 k v0 (v0.getD v7.toNat (0 : Int)) v16 v17 o100003 (o100004.set v7.toNat true) (o100006 ++ [v7]))
                    else (none))
                  else (none))
                else (none))
              else (none))
            else (none))
          else (none))
        else (bif decide (o100003.length + [o100006].length ≤ rowMax) then
            (s_CyclesOf_l6 k v0 v16 (IntKind.i64.wrap (v17 + (1 : Int))) (o100003 ++ [o100006]) o100004)
          else (none)))
      else (none))
    else (none))
  else (none) := by kernel_rfl
theorem s_CyclesLine_eq (k : Nat) (x0 : List Int) : s_CyclesLine (k + 1) x0 =
  (s_PermOk k x0).bind fun y1 =>
  bif (!y1) then
    (some (⟨#[]⟩ : ByteArray))
  else ((s_CyclesOf k x0).bind fun y2 =>
    s_CyclesLine_l5 k (⟨#[]⟩ : ByteArray) (y2.length : Int) (0 : Int) y2) := by kernel_rfl
theorem s_CyclesLine_l5_eq (k : Nat) (v3 : ByteArray) (v14 : Int) (v15 : Int) (o100013 : List (List Int)) : s_CyclesLine_l5 (k + 1) v3 v14 v15 o100013 =
  bif decide (v15 < v14) then
    (bif decide (0 ≤ v15) then
      (bif decide (v15 < (o100013.length : Int)) then
        (bif decide (v15.toNat < o100013.length) then
          (s_CyclesLine_l9 k v3 v14 v15 (o100013.getD v15.toNat []) ((o100013.getD v15.toNat []).length : Int) (0 : Int) ([] : List ByteArray) o100013)
        else (none))
      else (none))
    else (none))
  else (bif (v3.toList == (⟨#[]⟩ : ByteArray).toList) then
      (some (⟨#[40, 41]⟩ : ByteArray))
    else (some v3)) := by kernel_rfl
theorem s_CyclesLine_l9_eq (k : Nat) (v3 : ByteArray) (v14 : Int) (v15 : Int) (v20 : List Int) (v21 : Int) (v22 : Int) (o100006 : List ByteArray) (o100013 : List (List Int)) : s_CyclesLine_l9 (k + 1) v3 v14 v15 v20 v21 v22 o100006 o100013 =
  bif decide (v22 < v21) then
    (bif decide (0 ≤ v22) then
      (bif decide (v22 < (v20.length : Int)) then
        ((s_FormatInt k (v20.getD v22.toNat (0 : Int))).bind fun y1 =>
        bif decide (o100006.length + [y1].length ≤ rowMax) then
          (s_CyclesLine_l9 k v3 v14 v15 v20 v21 (IntKind.i64.wrap (v22 + (1 : Int))) (o100006 ++ [y1]) o100013)
        else (none))
      else (none))
    else (none))
  else (bif decide (v3.size + (⟨#[40]⟩ : ByteArray).size ≤ 9223372036854775807) then
      ((s_Join k (o100006, (⟨#[32]⟩ : ByteArray))).bind fun y2 =>
      bif decide ((v3 ++ (⟨#[40]⟩ : ByteArray)).size + y2.size ≤ 9223372036854775807) then
        (bif decide (((v3 ++ (⟨#[40]⟩ : ByteArray)) ++ y2).size + (⟨#[41]⟩ : ByteArray).size ≤ 9223372036854775807) then
          (s_CyclesLine_l5 k (((v3 ++ (⟨#[40]⟩ : ByteArray)) ++ y2) ++ (⟨#[41]⟩ : ByteArray)) v14 (IntKind.i64.wrap (v15 + (1 : Int))) o100013)
        else (none))
      else (none))
    else (none)) := by kernel_rfl
theorem slices_Index_int_eq (k : Nat) (x0 : List Int) (x1 : Int) : slices_Index_int (k + 1) (x0, x1) =
  slices_Index_int_l2 k x0 x1 (x0.length : Int) (0 : Int) := by kernel_rfl
theorem slices_Index_int_l2_eq (k : Nat) (v0 : List Int) (v1 : Int) (v7 : Int) (v8 : Int) : slices_Index_int_l2 (k + 1) v0 v1 v7 v8 =
  bif decide (v8 < v7) then
    (bif decide (0 ≤ v8) then
      (bif decide (v8 < (v0.length : Int)) then
        (bif (v1 == (v0.getD v8.toNat (0 : Int))) then
          (some v8)
        else (slices_Index_int_l2 k v0 v1 v7 (IntKind.i64.wrap (v8 + (1 : Int)))))
      else (none))
    else (none))
  else (some (-1 : Int)) := by kernel_rfl
theorem slices_Contains_int_eq (k : Nat) (x0 : List Int) (x1 : Int) : slices_Contains_int (k + 1) (x0, x1) =
  (slices_Index_int k (x0, x1)).bind fun y1 =>
  some (decide (y1 ≥ (0 : Int))) := by kernel_rfl
theorem i_PermOk_eq (k : Nat) (x0 : List Int) : i_PermOk (k + 1) x0 =
  i_PermOk_l2 k x0 x0 (x0.length : Int) (0 : Int) := by kernel_rfl
theorem i_PermOk_l2_eq (k : Nat) (v0 : List Int) (v5 : List Int) (v6 : Int) (v7 : Int) : i_PermOk_l2 (k + 1) v0 v5 v6 v7 =
  bif decide (v7 < v6) then
    (bif decide (0 ≤ v7) then
      (bif decide (v7 < (v5.length : Int)) then
        (bif decide ((v5.getD v7.toNat (0 : Int)) < (0 : Int)) then
          (some false)
        else (bif decide ((v5.getD v7.toNat (0 : Int)) ≥ (v0.length : Int)) then
            (some false)
          else (bif decide (0 ≤ v7) then
              (bif decide (v7 ≤ (v0.length : Int)) then
                ((slices_Contains_int k (((v0.take v7.toNat).drop 0), (v5.getD v7.toNat (0 : Int)))).bind fun y1 =>
                bif y1 then
                  (some false)
                else (i_PermOk_l2 k v0 v5 v6 (IntKind.i64.wrap (v7 + (1 : Int)))))
              else (none))
            else (none))))
      else (none))
    else (none))
  else (some (decide ((v0.length : Int) ≤ (12 : Int)))) := by kernel_rfl
theorem i_CyclesOf_eq (k : Nat) (x0 : List Int) : i_CyclesOf (k + 1) x0 =
  (i_PermOk k x0).bind fun y1 =>
  bif (!y1) then
    (some [])
  else (bif decide (0 ≤ (x0.length : Int)) then
      (bif decide ((x0.length : Int) ≤ (rowMax : Int)) then
        (bif ((x0.length : Int) == (x0.length : Int)) then
          (i_CyclesOf_l6 k x0 (x0.length : Int) (0 : Int) [] (List.replicate (x0.length : Int).toNat false))
        else (none))
      else (none))
    else (none)) := by kernel_rfl
theorem i_CyclesOf_l6_eq (k : Nat) (v0 : List Int) (v15 : Int) (v16 : Int) (o100003 : List (List Int)) (o100004 : List Bool) : i_CyclesOf_l6 (k + 1) v0 v15 v16 o100003 o100004 =
  bif decide (v16 < v15) then
    (i_CyclesOf_l10 k v0 v16 v15 v16 o100003 o100004 [])
  else (some o100003) := by kernel_rfl
theorem i_CyclesOf_l10_eq (k : Nat) (v0 : List Int) (v7 : Int) (v15 : Int) (v16 : Int) (o100003 : List (List Int)) (o100004 : List Bool) (o100006 : List Int) : i_CyclesOf_l10 (k + 1) v0 v7 v15 v16 o100003 o100004 o100006 =
  bif decide (0 ≤ v7) then
    (bif decide (v7 < (o100004.length : Int)) then
      (bif decide (v7.toNat < o100004.length) then
        (bif (!(o100004.getD v7.toNat false)) then
          (bif decide (0 ≤ v7) then
            (bif decide (v7 < (o100004.length : Int)) then
              (bif decide (v7.toNat < o100004.length) then
                (bif decide (o100006.length + [v7].length ≤ rowMax) then
                  (bif decide (0 ≤ v7) then
                    (bif decide (v7 < (v0.length : Int)) then
                      (i_CyclesOf_l10 k v0 (v0.getD v7.toNat (0 : Int)) v15 v16 o100003 (o100004.set v7.toNat true) (o100006 ++ [v7]))
                    else (none))
                  else (none))
                else (none))
              else (none))
            else (none))
          else (none))
        else (bif (!o100006.isEmpty) then
            (bif decide (o100003.length + [o100006].length ≤ rowMax) then
              (i_CyclesOf_l6 k v0 v15 (IntKind.i64.wrap (v16 + (1 : Int))) (o100003 ++ [o100006]) o100004)
            else (none))
          else (i_CyclesOf_l6 k v0 v15 (IntKind.i64.wrap (v16 + (1 : Int))) o100003 o100004)))
      else (none))
    else (none))
  else (none) := by kernel_rfl
theorem i_numbersOf_eq (k : Nat) (x0 : List Int) : i_numbersOf (k + 1) x0 =
  i_numbersOf_l3 k x0 (x0.length : Int) (0 : Int) [] := by kernel_rfl
theorem i_numbersOf_l3_eq (k : Nat) (v6 : List Int) (v7 : Int) (v8 : Int) (o100003 : List ByteArray) : i_numbersOf_l3 (k + 1) v6 v7 v8 o100003 =
  bif decide (v8 < v7) then
    (bif decide (0 ≤ v8) then
      (bif decide (v8 < (v6.length : Int)) then
        ((i_FormatInt k (v6.getD v8.toNat (0 : Int))).bind fun y1 =>
        bif decide (o100003.length + [y1].length ≤ rowMax) then
          (i_numbersOf_l3 k v6 v7 (IntKind.i64.wrap (v8 + (1 : Int))) (o100003 ++ [y1]))
        else (none))
      else (none))
    else (none))
  else (some o100003) := by kernel_rfl
theorem i_CyclesLine_eq (k : Nat) (x0 : List Int) : i_CyclesLine (k + 1) x0 =
  (i_PermOk k x0).bind fun y1 =>
  bif (!y1) then
    (some (⟨#[]⟩ : ByteArray))
  else (bif ((x0.length : Int) == (0 : Int)) then
      (some (⟨#[40, 41]⟩ : ByteArray))
    else ((i_CyclesOf k x0).bind fun y2 =>
      i_CyclesLine_l7 k (⟨#[]⟩ : ByteArray) (y2.length : Int) (0 : Int) y2)) := by kernel_rfl
theorem i_CyclesLine_l7_eq (k : Nat) (v3 : ByteArray) (v14 : Int) (v15 : Int) (o100013 : List (List Int)) : i_CyclesLine_l7 (k + 1) v3 v14 v15 o100013 =
  bif decide (v15 < v14) then
    (bif decide (0 ≤ v15) then
      (bif decide (v15 < (o100013.length : Int)) then
        (bif decide (v15.toNat < o100013.length) then
          ((i_numbersOf k (o100013.getD v15.toNat [])).bind fun y1 =>
          (i_Join k (y1, (⟨#[32]⟩ : ByteArray))).bind fun y2 =>
          bif decide ((⟨#[40]⟩ : ByteArray).size + y2.size ≤ 9223372036854775807) then
            (bif decide (((⟨#[40]⟩ : ByteArray) ++ y2).size + (⟨#[41]⟩ : ByteArray).size ≤ 9223372036854775807) then
              (bif decide (v3.size + (((⟨#[40]⟩ : ByteArray) ++ y2) ++ (⟨#[41]⟩ : ByteArray)).size ≤ 9223372036854775807) then
                (i_CyclesLine_l7 k (v3 ++ (((⟨#[40]⟩ : ByteArray) ++ y2) ++ (⟨#[41]⟩ : ByteArray))) v14 (IntKind.i64.wrap (v15 + (1 : Int))) o100013)
              else (none))
            else (none))
          else (none))
        else (none))
      else (none))
    else (none))
  else (some v3) := by kernel_rfl
theorem w_FnExactCyclesLine_eq (k : Nat) (x0 : List Int) : w_FnExactCyclesLine (k + 1) x0 =
  bif decide ((x0.length : Int) > (1048576 : Int)) then
    (some true)
  else ((w_toIntS k x0).bind fun y1 =>
    (s_CyclesLine k y1).bind fun y2 =>
    (w_toIntS k x0).bind fun y3 =>
    (i_CyclesLine k y3).bind fun y4 =>
    bif (!(y4.toList == y2.toList)) then
      (some false)
    else ((w_toIntS k x0).bind fun y5 =>
      (w_eqIntS k (y3, y5)).bind fun y6 =>
      bif (!y6) then
        (some false)
      else (some true))) := by kernel_rfl
theorem w_szScene_eq (k : Nat) (x0 : (List Int) × Int) (x1 : Int) : w_szScene (k + 1) (x0, x1) =
  (w_szIntS k (x0.1, x1)).bind fun y1 =>
  bif decide (y1 < (0 : Int)) then
    (some (-1 : Int))
  else (some y1) := by kernel_rfl
theorem w_toScene_eq (k : Nat) (x0 : (List Int) × Int) : w_toScene (k + 1) x0 =
  (w_toIntS k x0.1).bind fun y1 =>
  some (y1, x0.2) := by kernel_rfl
theorem s_SceneLine_eq (k : Nat) (x0 : (List Int) × Int) : s_SceneLine (k + 1) x0 =
  (s_PacketOk k x0.1).bind fun y1 =>
  bif (!y1) then
    (some (⟨#[]⟩ : ByteArray))
  else ((s_FormatPacket k x0.1).bind fun y2 =>
    (s_l01In k (x0.2, ((0 : Int), (11 : Int)))).bind fun y3 =>
    bif y3 then
      (bif decide (y2.size + (⟨#[32, 110, 111, 116, 101, 100, 32]⟩ : ByteArray).size ≤ 9223372036854775807) then
        ((s_FormatInt k x0.2).bind fun y4 =>
        bif decide ((y2 ++ (⟨#[32, 110, 111, 116, 101, 100, 32]⟩ : ByteArray)).size + y4.size ≤ 9223372036854775807) then
          (some ((y2 ++ (⟨#[32, 110, 111, 116, 101, 100, 32]⟩ : ByteArray)) ++ y4))
        else (none))
      else (none))
    else (some y2)) := by kernel_rfl
theorem i_SceneLine_eq (k : Nat) (x0 : (List Int) × Int) : i_SceneLine (k + 1) x0 =
  (i_FormatPacket k x0.1).bind fun y1 =>
  bif (!(y1.toList == (⟨#[]⟩ : ByteArray).toList)) then
    (bif decide (x0.2 ≥ (0 : Int)) then
      (bif decide (x0.2 < (12 : Int)) then
        ((i_FormatInt k x0.2).bind fun y2 =>
        bif decide ((⟨#[32, 110, 111, 116, 101, 100, 32]⟩ : ByteArray).size + y2.size ≤ 9223372036854775807) then
          (bif decide (y1.size + ((⟨#[32, 110, 111, 116, 101, 100, 32]⟩ : ByteArray) ++ y2).size ≤ 9223372036854775807) then
            (some (y1 ++ ((⟨#[32, 110, 111, 116, 101, 100, 32]⟩ : ByteArray) ++ y2)))
          else (none))
        else (none))
      else (some y1))
    else (some y1))
  else (some y1) := by kernel_rfl
theorem w_eqScene_eq (k : Nat) (x0 : (List Int) × Int) (x1 : (List Int) × Int) : w_eqScene (k + 1) (x0, x1) =
  (w_eqIntS k (x0.1, x1.1)).bind fun y1 =>
  bif (!y1) then
    (some false)
  else (bif (!(x0.2 == x1.2)) then
      (some false)
    else (some true)) := by kernel_rfl
theorem w_FnExactSceneLine_eq (k : Nat) (x0 : (List Int) × Int) : w_FnExactSceneLine (k + 1) x0 =
  (w_szScene k (x0, (1048576 : Int))).bind fun y1 =>
  bif decide (y1 < (0 : Int)) then
    (some true)
  else ((w_toScene k x0).bind fun y2 =>
    (s_SceneLine k y2).bind fun y3 =>
    (w_toScene k x0).bind fun y4 =>
    (i_SceneLine k y4).bind fun y5 =>
    bif (!(y5.toList == y3.toList)) then
      (some false)
    else ((w_toScene k x0).bind fun y6 =>
      (w_eqScene k (y4, y6)).bind fun y7 =>
      bif (!y7) then
        (some false)
      else (some true))) := by kernel_rfl
theorem w_szIntSS_eq (k : Nat) (x0 : List (List Int)) (x1 : Int) : w_szIntSS (k + 1) (x0, x1) =
  bif decide ((IntKind.i64.wrap (x1 - (x0.length : Int))) < (0 : Int)) then
    (some (-1 : Int))
  else (w_szIntSS_l5 k x0 (IntKind.i64.wrap (x1 - (x0.length : Int))) (0 : Int)) := by kernel_rfl
theorem w_szIntSS_l5_eq (k : Nat) (v0 : List (List Int)) (v1 : Int) (v5 : Int) : w_szIntSS_l5 (k + 1) v0 v1 v5 =
  bif decide (v5 < (v0.length : Int)) then
    (bif decide (0 ≤ v5) then
      (bif decide (v5 < (v0.length : Int)) then
        ((w_szIntS k ((v0.getD v5.toNat []), v1)).bind fun y1 =>
        bif decide (y1 < (0 : Int)) then
          (some (-1 : Int))
        else (w_szIntSS_l5 k v0 y1 (IntKind.i64.wrap (v5 + (1 : Int)))))
      else (none))
    else (none))
  else (some v1) := by kernel_rfl
theorem w_toIntSS_eq (k : Nat) (x0 : List (List Int)) : w_toIntSS (k + 1) x0 =
  bif decide (0 ≤ (x0.length : Int)) then
    (bif decide ((x0.length : Int) ≤ (rowMax : Int)) then
      (bif ((x0.length : Int) == (x0.length : Int)) then
        (w_toIntSS_l3 k x0 (0 : Int) (List.replicate (x0.length : Int).toNat []))
      else (none))
    else (none))
  else (none) := by kernel_rfl
theorem w_toIntSS_l3_eq (k : Nat) (v0 : List (List Int)) (v4 : Int) (o100003 : List (List Int)) : w_toIntSS_l3 (k + 1) v0 v4 o100003 =
  bif decide (v4 < (v0.length : Int)) then
    (bif decide (0 ≤ v4) then
      (bif decide (v4 < (v0.length : Int)) then
        ((w_toIntS k (v0.getD v4.toNat [])).bind fun y1 =>
        bif decide (0 ≤ v4) then
          (bif decide (v4 < (o100003.length : Int)) then
            (bif decide (v4.toNat < o100003.length) then
              (w_toIntSS_l3 k v0 (IntKind.i64.wrap (v4 + (1 : Int))) (o100003.set v4.toNat y1))
            else (none))
          else (none))
        else (none))
      else (none))
    else (none))
  else (some o100003) := by kernel_rfl
theorem s_PositionOf_eq (k : Nat) (x0 : List Int) (x1 : Int) : s_PositionOf (k + 1) (x0, x1) =
  s_PositionOf_l2 k x1 x0 (x0.length : Int) (0 : Int) := by kernel_rfl
theorem s_PositionOf_l2_eq (k : Nat) (v1 : Int) (v7 : List Int) (v8 : Int) (v9 : Int) : s_PositionOf_l2 (k + 1) v1 v7 v8 v9 =
  bif decide (v9 < v8) then
    (bif decide (0 ≤ v9) then
      (bif decide (v9 < (v7.length : Int)) then
        ((s_CardOf k (v7.getD v9.toNat (0 : Int))).bind fun y1 =>
        bif (y1 == v1) then
          (bif decide (v1 ≥ (0 : Int)) then
            (some v9)
          else (s_PositionOf_l2 k v1 v7 v8 (IntKind.i64.wrap (v9 + (1 : Int)))))
        else (s_PositionOf_l2 k v1 v7 v8 (IntKind.i64.wrap (v9 + (1 : Int)))))
      else (none))
    else (none))
  else (some (-1 : Int)) := by kernel_rfl
theorem s_IsArrangement_eq (k : Nat) (x0 : List Int) (x1 : List Int) : s_IsArrangement (k + 1) (x0, x1) =
  (s_PacketOk k x0).bind fun y1 =>
  bif (!y1) then
    (some false)
  else ((s_PacketOk k x1).bind fun y2 =>
    bif (!y2) then
      (some false)
    else (bif (!((x0.length : Int) == (x1.length : Int))) then
        (some false)
      else (s_IsArrangement_l4 k x1 x0 (x0.length : Int) (0 : Int)))) := by kernel_rfl
theorem s_IsArrangement_l4_eq (k : Nat) (v1 : List Int) (v22 : List Int) (v23 : Int) (v24 : Int) : s_IsArrangement_l4 (k + 1) v1 v22 v23 v24 =
  bif decide (v24 < v23) then
    (bif decide (0 ≤ v24) then
      (bif decide (v24 < (v22.length : Int)) then
        ((s_CardOf k (v22.getD v24.toNat (0 : Int))).bind fun y1 =>
        (s_PositionOf k (v1, y1)).bind fun y2 =>
        bif decide (y2 < (0 : Int)) then
          (some false)
        else (s_IsArrangement_l4 k v1 v22 v23 (IntKind.i64.wrap (v24 + (1 : Int)))))
      else (none))
    else (none))
  else (some true) := by kernel_rfl
theorem s_l05Less_eq (k : Nat) (x0 : List Int) (x1 : List Int) : s_l05Less (k + 1) (x0, x1) =
  s_l05Less_l2 k x0 x1 x0 (x0.length : Int) (0 : Int) := by kernel_rfl
theorem s_l05Less_l2_eq (k : Nat) (v0 : List Int) (v1 : List Int) (v7 : List Int) (v8 : Int) (v9 : Int) : s_l05Less_l2 (k + 1) v0 v1 v7 v8 v9 =
  bif decide (v9 < v8) then
    (bif decide (0 ≤ v9) then
      (bif decide (v9 < (v7.length : Int)) then
        (bif decide (v9 ≥ (v1.length : Int)) then
          (some false)
        else (bif decide (0 ≤ v9) then
            (bif decide (v9 < (v1.length : Int)) then
              (bif (!((v7.getD v9.toNat (0 : Int)) == (v1.getD v9.toNat (0 : Int)))) then
                (bif decide (0 ≤ v9) then
                  (bif decide (v9 < (v1.length : Int)) then
                    (some (decide ((v7.getD v9.toNat (0 : Int)) < (v1.getD v9.toNat (0 : Int)))))
                  else (none))
                else (none))
              else (s_l05Less_l2 k v0 v1 v7 v8 (IntKind.i64.wrap (v9 + (1 : Int)))))
            else (none))
          else (none)))
      else (none))
    else (none))
  else (some (decide ((v0.length : Int) < (v1.length : Int)))) := by kernel_rfl
theorem s_KnowOk_eq (k : Nat) (x0 : List (List Int)) : s_KnowOk (k + 1) x0 =
  (s_l01In k ((x0.length : Int), ((1 : Int), (3000 : Int)))).bind fun y1 =>
  bif (!y1) then
    (some false)
  else (bif decide ((0 : Int) < (x0.length : Int)) then
      (bif (((x0.getD 0 []).length : Int) == (0 : Int)) then
        (some false)
      else (s_KnowOk_l4 k x0 x0 (x0.length : Int) (0 : Int)))
    else (none)) := by kernel_rfl
theorem s_KnowOk_l4_eq (k : Nat) (v0 : List (List Int)) (v16 : List (List Int)) (v17 : Int) (v18 : Int) : s_KnowOk_l4 (k + 1) v0 v16 v17 v18 =
  bif decide (v18 < v17) then
    (bif decide (0 ≤ v18) then
      (bif decide (v18 < (v16.length : Int)) then
        (bif decide ((0 : Int) < (v0.length : Int)) then
          ((s_IsArrangement k ((v0.getD 0 []), (v16.getD v18.toNat []))).bind fun y1 =>
          bif (!y1) then
            (some false)
          else (bif decide (v18 > (0 : Int)) then
              (bif decide (0 ≤ (IntKind.i64.wrap (v18 - (1 : Int)))) then
                (bif decide ((IntKind.i64.wrap (v18 - (1 : Int))) < (v0.length : Int)) then
                  ((s_l05Less k ((v0.getD (IntKind.i64.wrap (v18 - (1 : Int))).toNat []), (v16.getD v18.toNat []))).bind fun y2 =>
                  bif (!y2) then
                    (some false)
                  else (s_KnowOk_l4 k v0 v16 v17 (IntKind.i64.wrap (v18 + (1 : Int)))))
                else (none))
              else (none))
            else (s_KnowOk_l4 k v0 v16 v17 (IntKind.i64.wrap (v18 + (1 : Int))))))
        else (none))
      else (none))
    else (none))
  else (some true) := by kernel_rfl
theorem s_KnownAt_eq (k : Nat) (x0 : List (List Int)) (x1 : Int) : s_KnownAt (k + 1) (x0, x1) =
  (s_KnowOk k x0).bind fun y1 =>
  bif (!y1) then
    (some (-1 : Int))
  else (bif decide ((0 : Int) < (x0.length : Int)) then
      ((s_l01In k (x1, ((0 : Int), (IntKind.i64.wrap (((x0.getD 0 []).length : Int) - (1 : Int)))))).bind fun y2 =>
      bif (!y2) then
        (some (-1 : Int))
      else (s_KnownAt_l4 k x0 x1 x0 (x0.length : Int) (0 : Int)))
    else (none)) := by kernel_rfl
theorem s_KnownAt_l4_eq (k : Nat) (v0 : List (List Int)) (v1 : Int) (v20 : List (List Int)) (v21 : Int) (v22 : Int) : s_KnownAt_l4 (k + 1) v0 v1 v20 v21 v22 =
  bif decide (v22 < v21) then
    (bif decide (0 ≤ v22) then
      (bif decide (v22 < (v20.length : Int)) then
        (bif decide (0 ≤ v1) then
          (bif decide (v1 < ((v20.getD v22.toNat []).length : Int)) then
            ((s_CardOf k ((v20.getD v22.toNat []).getD v1.toNat (0 : Int))).bind fun y1 =>
            bif decide ((0 : Int) < (v0.length : Int)) then
              (bif decide (0 ≤ v1) then
                (bif decide (v1 < ((v0.getD 0 []).length : Int)) then
                  ((s_CardOf k ((v0.getD 0 []).getD v1.toNat (0 : Int))).bind fun y2 =>
                  bif (!(y1 == y2)) then
                    (some (-1 : Int))
                  else (s_KnownAt_l4 k v0 v1 v20 v21 (IntKind.i64.wrap (v22 + (1 : Int)))))
                else (none))
              else (none))
            else (none))
          else (none))
        else (none))
      else (none))
    else (none))
  else (bif decide ((0 : Int) < (v0.length : Int)) then
      (bif decide (0 ≤ v1) then
        (bif decide (v1 < ((v0.getD 0 []).length : Int)) then
          ((s_CardOf k ((v0.getD 0 []).getD v1.toNat (0 : Int))).bind fun y3 =>
          some y3)
        else (none))
      else (none))
    else (none)) := by kernel_rfl
theorem s_KnowLine_eq (k : Nat) (x0 : List (List Int)) : s_KnowLine (k + 1) x0 =
  (s_KnowOk k x0).bind fun y1 =>
  bif (!y1) then
    (some (⟨#[]⟩ : ByteArray))
  else ((s_FormatInt k (x0.length : Int)).bind fun y2 =>
    bif decide (y2.size + (⟨#[32, 112, 111, 115, 115, 105, 98, 108, 101, 44, 32, 107, 110, 111, 119, 110]⟩ : ByteArray).size ≤ 9223372036854775807) then
      (bif decide ((0 : Int) < (x0.length : Int)) then
        (s_KnowLine_l5 k x0 (y2 ++ (⟨#[32, 112, 111, 115, 115, 105, 98, 108, 101, 44, 32, 107, 110, 111, 119, 110]⟩ : ByteArray)) ((x0.getD 0 []).length : Int) (0 : Int))
      else (none))
    else (none)) := by kernel_rfl
theorem s_KnowLine_l5_eq (k : Nat) (v0 : List (List Int)) (v3 : ByteArray) (v16 : Int) (v17 : Int) : s_KnowLine_l5 (k + 1) v0 v3 v16 v17 =
  bif decide (v17 < v16) then
    ((s_KnownAt k (v0, v17)).bind fun y1 =>
    bif decide (y1 < (0 : Int)) then
      (bif decide (v3.size + (⟨#[32, 63]⟩ : ByteArray).size ≤ 9223372036854775807) then
        (s_KnowLine_l5 k v0 (v3 ++ (⟨#[32, 63]⟩ : ByteArray)) v16 (IntKind.i64.wrap (v17 + (1 : Int))))
      else (none))
    else (bif decide (v3.size + (⟨#[32]⟩ : ByteArray).size ≤ 9223372036854775807) then
        ((s_FormatInt k y1).bind fun y2 =>
        bif decide ((v3 ++ (⟨#[32]⟩ : ByteArray)).size + y2.size ≤ 9223372036854775807) then
          (s_KnowLine_l5 k v0 ((v3 ++ (⟨#[32]⟩ : ByteArray)) ++ y2) v16 (IntKind.i64.wrap (v17 + (1 : Int))))
        else (none))
      else (none)))
  else (some v3) := by kernel_rfl
theorem i_PositionOf_1_eq (k : Nat) (x0 : Int) (x1 : Int) : i_PositionOf_1 (k + 1) (x0, x1) =
  (i_CardOf k x0).bind fun y1 =>
  some (y1 == x1) := by kernel_rfl
theorem slices_IndexFunc_int_of_i_PositionOf_1_eq (k : Nat) (x0 : List Int) (x1 : Int) : slices_IndexFunc_int_of_i_PositionOf_1 (k + 1) (x0, x1) =
  slices_IndexFunc_int_of_i_PositionOf_1_l2 k x0 x1 (x0.length : Int) (0 : Int) := by kernel_rfl
theorem slices_IndexFunc_int_of_i_PositionOf_1_l2_eq (k : Nat) (v0 : List Int) (v1_0_0 : Int) (v7 : Int) (v8 : Int) : slices_IndexFunc_int_of_i_PositionOf_1_l2 (k + 1) v0 v1_0_0 v7 v8 =
  bif decide (v8 < v7) then
    (bif decide (0 ≤ v8) then
      (bif decide (v8 < (v0.length : Int)) then
        ((i_PositionOf_1 k ((v0.getD v8.toNat (0 : Int)), v1_0_0)).bind fun y1 =>
        bif y1 then
          (some v8)
        else (slices_IndexFunc_int_of_i_PositionOf_1_l2 k v0 v1_0_0 v7 (IntKind.i64.wrap (v8 + (1 : Int)))))
      else (none))
    else (none))
  else (some (-1 : Int)) := by kernel_rfl
theorem i_PositionOf_eq (k : Nat) (x0 : List Int) (x1 : Int) : i_PositionOf (k + 1) (x0, x1) =
  bif decide (x1 < (0 : Int)) then
    (some (-1 : Int))
  else ((slices_IndexFunc_int_of_i_PositionOf_1 k (x0, x1)).bind fun y1 =>
    some y1) := by kernel_rfl
theorem i_IsArrangement_1_eq (k : Nat) (x0 : Int) (x1 : List Int) : i_IsArrangement_1 (k + 1) (x0, x1) =
  (i_CardOf k x0).bind fun y1 =>
  (i_PositionOf k (x1, y1)).bind fun y2 =>
  some (decide (y2 < (0 : Int))) := by kernel_rfl
theorem slices_IndexFunc_int_of_i_IsArrangement_1_eq (k : Nat) (x0 : List Int) (x1 : List Int) : slices_IndexFunc_int_of_i_IsArrangement_1 (k + 1) (x0, x1) =
  slices_IndexFunc_int_of_i_IsArrangement_1_l2 k x0 x1 (x0.length : Int) (0 : Int) := by kernel_rfl
theorem slices_IndexFunc_int_of_i_IsArrangement_1_l2_eq (k : Nat) (v0 : List Int) (v1_0_0 : List Int) (v7 : Int) (v8 : Int) : slices_IndexFunc_int_of_i_IsArrangement_1_l2 (k + 1) v0 v1_0_0 v7 v8 =
  bif decide (v8 < v7) then
    (bif decide (0 ≤ v8) then
      (bif decide (v8 < (v0.length : Int)) then
        ((i_IsArrangement_1 k ((v0.getD v8.toNat (0 : Int)), v1_0_0)).bind fun y1 =>
        bif y1 then
          (some v8)
        else (slices_IndexFunc_int_of_i_IsArrangement_1_l2 k v0 v1_0_0 v7 (IntKind.i64.wrap (v8 + (1 : Int)))))
      else (none))
    else (none))
  else (some (-1 : Int)) := by kernel_rfl
theorem slices_ContainsFunc_int_of_i_IsArrangement_1_eq (k : Nat) (x0 : List Int) (x1 : List Int) : slices_ContainsFunc_int_of_i_IsArrangement_1 (k + 1) (x0, x1) =
  (slices_IndexFunc_int_of_i_IsArrangement_1 k (x0, x1)).bind fun y1 =>
  some (decide (y1 ≥ (0 : Int))) := by kernel_rfl
theorem i_IsArrangement_eq (k : Nat) (x0 : List Int) (x1 : List Int) : i_IsArrangement (k + 1) (x0, x1) =
  (i_PacketOk k x0).bind fun y1 =>
  bif (!y1) then
    (some false)
  else ((i_PacketOk k x1).bind fun y2 =>
    bif (!y2) then
      (some false)
    else (bif (!((x0.length : Int) == (x1.length : Int))) then
        (some false)
      else ((slices_ContainsFunc_int_of_i_IsArrangement_1 k (x0, x1)).bind fun y3 =>
        some (!y3)))) := by kernel_rfl
theorem cmp_isNaN_int_eq (k : Nat) (x0 : Int) : cmp_isNaN_int (k + 1) x0 =
  some (!(x0 == x0)) := by kernel_rfl
theorem cmp_Compare_int_eq (k : Nat) (x0 : Int) (x1 : Int) : cmp_Compare_int (k + 1) (x0, x1) =
  (cmp_isNaN_int k x0).bind fun y1 =>
  (cmp_isNaN_int k x1).bind fun y2 =>
  bif y1 then
    (bif y2 then
      (some (0 : Int))
    else (some (-1 : Int)))
  else (bif y2 then
      (some (1 : Int))
    else (bif decide (x0 < x1) then
        (some (-1 : Int))
      else (bif decide (x0 > x1) then
          (some (1 : Int))
        else (some (0 : Int))))) := by kernel_rfl
theorem slices_Compare_int_eq (k : Nat) (x0 : List Int) (x1 : List Int) : slices_Compare_int (k + 1) (x0, x1) =
  slices_Compare_int_l2 k x0 x1 x0 (x0.length : Int) (0 : Int) := by kernel_rfl
theorem slices_Compare_int_l2_eq (k : Nat) (v0 : List Int) (v1 : List Int) (v9 : List Int) (v10 : Int) (v11 : Int) : slices_Compare_int_l2 (k + 1) v0 v1 v9 v10 v11 =
  bif decide (v11 < v10) then
    (bif decide (0 ≤ v11) then
      (bif decide (v11 < (v9.length : Int)) then
        (bif decide (v11 ≥ (v1.length : Int)) then
          (some (1 : Int))
        else (bif decide (0 ≤ v11) then
            (bif decide (v11 < (v1.length : Int)) then
              ((cmp_Compare_int k ((v9.getD v11.toNat (0 : Int)), (v1.getD v11.toNat (0 : Int)))).bind fun y1 =>
              bif (!(y1 == (0 : Int))) then
                (some y1)
              else (slices_Compare_int_l2 k v0 v1 v9 v10 (IntKind.i64.wrap (v11 + (1 : Int)))))
            else (none))
          else (none)))
      else (none))
    else (none))
  else (bif decide ((v0.length : Int) < (v1.length : Int)) then
      (some (-1 : Int))
    else (some (0 : Int))) := by kernel_rfl
theorem i_KnowOk_eq (k : Nat) (x0 : List (List Int)) : i_KnowOk (k + 1) x0 =
  bif decide ((x0.length : Int) < (1 : Int)) then
    (some false)
  else (bif decide ((x0.length : Int) > (3000 : Int)) then
      (some false)
    else (bif decide ((0 : Int) < (x0.length : Int)) then
        (bif (((x0.getD 0 []).length : Int) == (0 : Int)) then
          (some false)
        else (i_KnowOk_l4 k x0 x0 (x0.length : Int) (0 : Int)))
      else (none))) := by kernel_rfl
theorem i_KnowOk_l4_eq (k : Nat) (v0 : List (List Int)) (v20 : List (List Int)) (v21 : Int) (v22 : Int) : i_KnowOk_l4 (k + 1) v0 v20 v21 v22 =
  bif decide (v22 < v21) then
    (bif decide (0 ≤ v22) then
      (bif decide (v22 < (v20.length : Int)) then
        (bif decide ((0 : Int) < (v0.length : Int)) then
          ((i_IsArrangement k ((v0.getD 0 []), (v20.getD v22.toNat []))).bind fun y1 =>
          bif (!y1) then
            (some false)
          else (bif decide (v22 > (0 : Int)) then
              (bif decide (0 ≤ (IntKind.i64.wrap (v22 - (1 : Int)))) then
                (bif decide ((IntKind.i64.wrap (v22 - (1 : Int))) < (v0.length : Int)) then
                  ((slices_Compare_int k ((v0.getD (IntKind.i64.wrap (v22 - (1 : Int))).toNat []), (v20.getD v22.toNat []))).bind fun y2 =>
                  bif decide (y2 ≥ (0 : Int)) then
                    (some false)
                  else (i_KnowOk_l4 k v0 v20 v21 (IntKind.i64.wrap (v22 + (1 : Int)))))
                else (none))
              else (none))
            else (i_KnowOk_l4 k v0 v20 v21 (IntKind.i64.wrap (v22 + (1 : Int))))))
        else (none))
      else (none))
    else (none))
  else (some true) := by kernel_rfl
theorem i_KnownAt_1_eq (k : Nat) (x0 : List Int) (x1 : Int) : i_KnownAt_1 (k + 1) (x0, x1) =
  bif decide (x1 < (0 : Int)) then
    (some (-1 : Int))
  else (bif decide (x1 ≥ (x0.length : Int)) then
      (some (-1 : Int))
    else (bif decide (0 ≤ x1) then
        (bif decide (x1 < (x0.length : Int)) then
          ((i_CardOf k (x0.getD x1.toNat (0 : Int))).bind fun y1 =>
          some y1)
        else (none))
      else (none))) := by kernel_rfl
theorem i_common_of_i_KnownAt_1_eq (k : Nat) (x0 : List (List Int)) (x1 : Int) : i_common_of_i_KnownAt_1 (k + 1) (x0, x1) =
  (i_KnowOk k x0).bind fun y1 =>
  bif (!y1) then
    (some (-1 : Int))
  else (bif decide ((0 : Int) < (x0.length : Int)) then
      ((i_KnownAt_1 k ((x0.getD 0 []), x1)).bind fun y2 =>
      i_common_of_i_KnownAt_1_l5 k x1 y2 x0 (x0.length : Int) (0 : Int))
    else (none)) := by kernel_rfl
theorem i_common_of_i_KnownAt_1_l5_eq (k : Nat) (v1_0_0 : Int) (v5 : Int) (v16 : List (List Int)) (v17 : Int) (v18 : Int) : i_common_of_i_KnownAt_1_l5 (k + 1) v1_0_0 v5 v16 v17 v18 =
  bif decide (v18 < v17) then
    (bif decide (0 ≤ v18) then
      (bif decide (v18 < (v16.length : Int)) then
        ((i_KnownAt_1 k ((v16.getD v18.toNat []), v1_0_0)).bind fun y1 =>
        bif (!(y1 == v5)) then
          (some (-1 : Int))
        else (i_common_of_i_KnownAt_1_l5 k v1_0_0 v5 v16 v17 (IntKind.i64.wrap (v18 + (1 : Int)))))
      else (none))
    else (none))
  else (some v5) := by kernel_rfl
theorem i_KnownAt_eq (k : Nat) (x0 : List (List Int)) (x1 : Int) : i_KnownAt (k + 1) (x0, x1) =
  (i_common_of_i_KnownAt_1 k (x0, x1)).bind fun y1 =>
  some y1 := by kernel_rfl
theorem i_KnowLine_eq (k : Nat) (x0 : List (List Int)) : i_KnowLine (k + 1) x0 =
  (i_KnowOk k x0).bind fun y1 =>
  bif (!y1) then
    (some (⟨#[]⟩ : ByteArray))
  else ((i_FormatInt k (x0.length : Int)).bind fun y2 =>
    bif decide (y2.size + (⟨#[32, 112, 111, 115, 115, 105, 98, 108, 101, 44, 32, 107, 110, 111, 119, 110]⟩ : ByteArray).size ≤ 9223372036854775807) then
      (bif decide ((0 : Int) < (x0.length : Int)) then
        (i_KnowLine_l5 k x0 (y2 ++ (⟨#[32, 112, 111, 115, 115, 105, 98, 108, 101, 44, 32, 107, 110, 111, 119, 110]⟩ : ByteArray)) ((x0.getD 0 []).length : Int) (0 : Int))
      else (none))
    else (none)) := by kernel_rfl
theorem i_KnowLine_l5_eq (k : Nat) (v0 : List (List Int)) (v3 : ByteArray) (v16 : Int) (v17 : Int) : i_KnowLine_l5 (k + 1) v0 v3 v16 v17 =
  bif decide (v17 < v16) then
    ((i_KnownAt k (v0, v17)).bind fun y1 =>
    bif decide (y1 ≥ (0 : Int)) then
      ((i_FormatInt k y1).bind fun y2 =>
      bif decide ((⟨#[32]⟩ : ByteArray).size + y2.size ≤ 9223372036854775807) then
        (bif decide (v3.size + ((⟨#[32]⟩ : ByteArray) ++ y2).size ≤ 9223372036854775807) then
          (i_KnowLine_l5 k v0 (v3 ++ ((⟨#[32]⟩ : ByteArray) ++ y2)) v16 (IntKind.i64.wrap (v17 + (1 : Int))))
        else (none))
      else (none))
    else (bif decide (v3.size + (⟨#[32, 63]⟩ : ByteArray).size ≤ 9223372036854775807) then
        (i_KnowLine_l5 k v0 (v3 ++ (⟨#[32, 63]⟩ : ByteArray)) v16 (IntKind.i64.wrap (v17 + (1 : Int))))
      else (none)))
  else (some v3) := by kernel_rfl
theorem w_eqIntSS_eq (k : Nat) (x0 : List (List Int)) (x1 : List (List Int)) : w_eqIntSS (k + 1) (x0, x1) =
  bif (!((x0.length : Int) == (x1.length : Int))) then
    (some false)
  else (w_eqIntSS_l4 k x0 x1 (0 : Int)) := by kernel_rfl
theorem w_eqIntSS_l4_eq (k : Nat) (v0 : List (List Int)) (v1 : List (List Int)) (v5 : Int) : w_eqIntSS_l4 (k + 1) v0 v1 v5 =
  bif decide (v5 < (v0.length : Int)) then
    (bif decide (0 ≤ v5) then
      (bif decide (v5 < (v0.length : Int)) then
        (bif decide (0 ≤ v5) then
          (bif decide (v5 < (v1.length : Int)) then
            ((w_eqIntS k ((v0.getD v5.toNat []), (v1.getD v5.toNat []))).bind fun y1 =>
            bif (!y1) then
              (some false)
            else (w_eqIntSS_l4 k v0 v1 (IntKind.i64.wrap (v5 + (1 : Int)))))
          else (none))
        else (none))
      else (none))
    else (none))
  else (some true) := by kernel_rfl
theorem w_FnExactKnowLine_eq (k : Nat) (x0 : List (List Int)) : w_FnExactKnowLine (k + 1) x0 =
  (w_szIntSS k (x0, (1048576 : Int))).bind fun y1 =>
  bif decide (y1 < (0 : Int)) then
    (some true)
  else ((w_toIntSS k x0).bind fun y2 =>
    (s_KnowLine k y2).bind fun y3 =>
    (w_toIntSS k x0).bind fun y4 =>
    (i_KnowLine k y4).bind fun y5 =>
    bif (!(y5.toList == y3.toList)) then
      (some false)
    else ((w_toIntSS k x0).bind fun y6 =>
      (w_eqIntSS k (y4, y6)).bind fun y7 =>
      bif (!y7) then
        (some false)
      else (some true))) := by kernel_rfl

/-! ### the tables are right -/
/-- What holds of the world throughout. -/
abbrev gw : World → Prop := fun w => Go.Lib.TabIs Go.Proofs.Tryd.prog w "internal/strconv.uint64pow10" .u64 Go.Lib.pow10Tab
theorem ty_3 : TyOk Go.Proofs.Tryd.prog 3 (.one (.int .i64)) := tyOk_int (by kernel_rfl) (by kernel_rfl) (by kernel_rfl)
theorem ty_4 : TyOk Go.Proofs.Tryd.prog 4 (.one (.bool)) := tyOk_bool (by kernel_rfl) (by kernel_rfl) (by kernel_rfl)
theorem ty_5 : TyOk Go.Proofs.Tryd.prog 5 (.one (.int .u8)) := tyOk_int (by kernel_rfl) (by kernel_rfl) (by kernel_rfl)
theorem ty_9 : TyOk Go.Proofs.Tryd.prog 9 (.one (.str)) := tyOk_str (by kernel_rfl) (by kernel_rfl) (by kernel_rfl)
theorem ty_22 : TyOk Go.Proofs.Tryd.prog 22 (.one (.slice (.int .i64))) := tyOk_slice (e := 3) (by kernel_rfl) (by kernel_rfl) (by kernel_rfl) (elemOk_of (by kernel_rfl) (by kernel_rfl) (by kernel_rfl))
theorem ty_23 : TyOk Go.Proofs.Tryd.prog 23 (.one (.slice (.pair (.int .i64) (.pair (.pair (.int .i64) (.int .i64)) (.int .i64))))) := tyOk_slice (e := 102) (by kernel_rfl) (by kernel_rfl) (by kernel_rfl) (elemOk_of (by kernel_rfl) (by kernel_rfl) (by kernel_rfl))
theorem ty_25 : TyOk Go.Proofs.Tryd.prog 25 (.struct [(0, 22), (1, 23), (2, 3), (3, 3), (4, 3)] [.slice (.int .i64), .slice (.pair (.int .i64) (.pair (.pair (.int .i64) (.int .i64)) (.int .i64))), .int .i64, .int .i64, .int .i64] false) := tyOk_struct (fields := Go.Proofs.Tryd.prog.fieldsOf 25) (by kernel_rfl) (by kernel_rfl) (by kernel_rfl) (by kernel_rfl) (by kernel_rfl) (by kernel_rfl) (fun e => by cases e)
theorem ty_28 : TyOk Go.Proofs.Tryd.prog 28 (.one (.slice (.pair (.int .i64) (.pair (.pair (.int .i64) (.int .i64)) (.int .i64))))) := tyOk_slice (e := 98) (by kernel_rfl) (by kernel_rfl) (by kernel_rfl) (elemOk_of (by kernel_rfl) (by kernel_rfl) (by kernel_rfl))
theorem ty_30 : TyOk Go.Proofs.Tryd.prog 30 (.struct [(0, 22), (1, 28), (2, 3), (3, 3), (4, 3)] [.slice (.int .i64), .slice (.pair (.int .i64) (.pair (.pair (.int .i64) (.int .i64)) (.int .i64))), .int .i64, .int .i64, .int .i64] false) := tyOk_struct (fields := Go.Proofs.Tryd.prog.fieldsOf 30) (by kernel_rfl) (by kernel_rfl) (by kernel_rfl) (by kernel_rfl) (by kernel_rfl) (by kernel_rfl) (fun e => by cases e)
theorem ty_39 : TyOk Go.Proofs.Tryd.prog 39 (.struct [(0, 22), (1, 3)] [.slice (.int .i64), .int .i64] false) := tyOk_struct (fields := Go.Proofs.Tryd.prog.fieldsOf 39) (by kernel_rfl) (by kernel_rfl) (by kernel_rfl) (by kernel_rfl) (by kernel_rfl) (by kernel_rfl) (fun e => by cases e)
theorem ty_42 : TyOk Go.Proofs.Tryd.prog 42 (.struct [(0, 22), (1, 3)] [.slice (.int .i64), .int .i64] false) := tyOk_struct (fields := Go.Proofs.Tryd.prog.fieldsOf 42) (by kernel_rfl) (by kernel_rfl) (by kernel_rfl) (by kernel_rfl) (by kernel_rfl) (by kernel_rfl) (fun e => by cases e)
theorem ty_46 : TyOk Go.Proofs.Tryd.prog 46 (.one (.slice (.int .u8))) := tyOk_slice (e := 5) (by kernel_rfl) (by kernel_rfl) (by kernel_rfl) (elemOk_of (by kernel_rfl) (by kernel_rfl) (by kernel_rfl))
theorem ty_49 : TyOk Go.Proofs.Tryd.prog 49 (.one (.slice (.slice (.int .i64)))) := tyOk_slice (e := 22) (by kernel_rfl) (by kernel_rfl) (by kernel_rfl) (elemOk_of (by kernel_rfl) (by kernel_rfl) (by kernel_rfl))
theorem ty_63 : TyOk Go.Proofs.Tryd.prog 63 (.struct [(0, 3), (1, 3)] [.int .i64, .int .i64] true) := tyOk_struct (fields := Go.Proofs.Tryd.prog.fieldsOf 63) (by kernel_rfl) (by kernel_rfl) (by kernel_rfl) (by kernel_rfl) (by kernel_rfl) (by kernel_rfl) (fun _ => structEq_ok (d := 20) (fields := Go.Proofs.Tryd.prog.fieldsOf 63) (by kernel_rfl) (by kernel_rfl) (by decide) (by kernel_rfl))
theorem ty_73 : TyOk Go.Proofs.Tryd.prog 73 (.one (.slice (.str))) := tyOk_slice (e := 9) (by kernel_rfl) (by kernel_rfl) (by kernel_rfl) (elemOk_of (by kernel_rfl) (by kernel_rfl) (by kernel_rfl))
theorem ty_85 : TyOk Go.Proofs.Tryd.prog 85 (.one (.slice (.bool))) := tyOk_slice (e := 4) (by kernel_rfl) (by kernel_rfl) (by kernel_rfl) (elemOk_of (by kernel_rfl) (by kernel_rfl) (by kernel_rfl))
theorem ty_98 : TyOk Go.Proofs.Tryd.prog 98 (.struct [(0, 3), (1, 63), (3, 3)] [.int .i64, .int .i64, .int .i64, .int .i64] true) := tyOk_struct (fields := Go.Proofs.Tryd.prog.fieldsOf 98) (by kernel_rfl) (by kernel_rfl) (by kernel_rfl) (by kernel_rfl) (by kernel_rfl) (by kernel_rfl) (fun _ => structEq_ok (d := 20) (fields := Go.Proofs.Tryd.prog.fieldsOf 98) (by kernel_rfl) (by kernel_rfl) (by decide) (by kernel_rfl))
theorem ty_100 : TyOk Go.Proofs.Tryd.prog 100 (.struct [(0, 3), (1, 3)] [.int .i64, .int .i64] true) := tyOk_struct (fields := Go.Proofs.Tryd.prog.fieldsOf 100) (by kernel_rfl) (by kernel_rfl) (by kernel_rfl) (by kernel_rfl) (by kernel_rfl) (by kernel_rfl) (fun _ => structEq_ok (d := 20) (fields := Go.Proofs.Tryd.prog.fieldsOf 100) (by kernel_rfl) (by kernel_rfl) (by decide) (by kernel_rfl))
theorem ty_102 : TyOk Go.Proofs.Tryd.prog 102 (.struct [(0, 3), (1, 100), (3, 3)] [.int .i64, .int .i64, .int .i64, .int .i64] true) := tyOk_struct (fields := Go.Proofs.Tryd.prog.fieldsOf 102) (by kernel_rfl) (by kernel_rfl) (by kernel_rfl) (by kernel_rfl) (by kernel_rfl) (by kernel_rfl) (fun _ => structEq_ok (d := 20) (fields := Go.Proofs.Tryd.prog.fieldsOf 102) (by kernel_rfl) (by kernel_rfl) (by decide) (by kernel_rfl))
theorem ty_105 : TyOk Go.Proofs.Tryd.prog 105 (.arr 12 (.bool)) := tyOk_arr (e := 4) (by kernel_rfl) (elemOk_of (by kernel_rfl) (by kernel_rfl) (by kernel_rfl)) (by kernel_rfl) (by kernel_rfl)
theorem ty_1000046 : TyOk Go.Proofs.Tryd.prog 1000046 (.bytes) := tyOk_bytes (e := 5) (by kernel_rfl) (by kernel_rfl)
theorem hE : ∀ T ti, E.ty T = some ti → TyOk Go.Proofs.Tryd.prog T ti := lookT_ok (l := tyL) ⟨ty_3, ty_4, ty_5, ty_9, ty_22, ty_23, ty_25, ty_28, ty_30, ty_39, ty_42, ty_46, ty_49, ty_63, ty_73, ty_85, ty_98, ty_100, ty_102, ty_105, ty_1000046, trivial⟩
theorem w_szIntS_ok : OneF Go.Proofs.Tryd.prog gw 44 w_szIntS_fi := fnOk_of (fn := Go.Proofs.Tryd.f44) (c := w_szIntS_c) Go.Proofs.Tryd.func44 (by kernel_rfl) (by kernel_rfl) rfl rfl (by kernel_rfl) (by kernel_rfl) rfl
theorem w_szStepS_ok : OneF Go.Proofs.Tryd.prog gw 45 w_szStepS_fi := fnOk_of (fn := Go.Proofs.Tryd.f45) (c := w_szStepS_c) Go.Proofs.Tryd.func45 (by kernel_rfl) (by kernel_rfl) rfl rfl (by kernel_rfl) (by kernel_rfl) rfl
theorem w_szTrick_ok : OneF Go.Proofs.Tryd.prog gw 11 w_szTrick_fi := fnOk_of (fn := Go.Proofs.Tryd.f11) (c := w_szTrick_c) Go.Proofs.Tryd.func11 (by kernel_rfl) (by kernel_rfl) rfl rfl (by kernel_rfl) (by kernel_rfl) rfl
theorem w_toIntS_ok : OneF Go.Proofs.Tryd.prog gw 17 w_toIntS_fi := fnOk_of (fn := Go.Proofs.Tryd.f17) (c := w_toIntS_c) Go.Proofs.Tryd.func17 (by kernel_rfl) (by kernel_rfl) rfl rfl (by kernel_rfl) (by kernel_rfl) rfl
theorem w_toMove_ok : OneF Go.Proofs.Tryd.prog gw 120 w_toMove_fi := fnOk_of (fn := Go.Proofs.Tryd.f120) (c := w_toMove_c) Go.Proofs.Tryd.func120 (by kernel_rfl) (by kernel_rfl) rfl rfl (by kernel_rfl) (by kernel_rfl) rfl
theorem w_toStep_ok : OneF Go.Proofs.Tryd.prog gw 86 w_toStep_fi := fnOk_of (fn := Go.Proofs.Tryd.f86) (c := w_toStep_c) Go.Proofs.Tryd.func86 (by kernel_rfl) (by kernel_rfl) rfl rfl (by kernel_rfl) (by kernel_rfl) rfl
theorem w_toStepS_ok : OneF Go.Proofs.Tryd.prog gw 47 w_toStepS_fi := fnOk_of (fn := Go.Proofs.Tryd.f47) (c := w_toStepS_c) Go.Proofs.Tryd.func47 (by kernel_rfl) (by kernel_rfl) rfl rfl (by kernel_rfl) (by kernel_rfl) rfl
theorem w_toTrick_ok : OneF Go.Proofs.Tryd.prog gw 13 w_toTrick_fi := fnOk_of (fn := Go.Proofs.Tryd.f13) (c := w_toTrick_c) Go.Proofs.Tryd.func13 (by kernel_rfl) (by kernel_rfl) rfl rfl (by kernel_rfl) (by kernel_rfl) rfl
theorem s_FormatInt_ok : OneF Go.Proofs.Tryd.prog gw 46 s_FormatInt_fi := fnOk_of (fn := Go.Proofs.Tryd.f46) (c := s_FormatInt_c) Go.Proofs.Tryd.func46 (by kernel_rfl) (by kernel_rfl) rfl rfl (by kernel_rfl) (by kernel_rfl) rfl
theorem s_FormatClaim_ok : OneF Go.Proofs.Tryd.prog gw 12 s_FormatClaim_fi := fnOk_of (fn := Go.Proofs.Tryd.f12) (c := s_FormatClaim_c) Go.Proofs.Tryd.func12 (by kernel_rfl) (by kernel_rfl) rfl rfl (by kernel_rfl) (by kernel_rfl) rfl
theorem strconv_Itoa_ok : OneF Go.Proofs.Tryd.prog gw 87 strconv_Itoa_fi := itoa_ok Go.Proofs.Tryd.func87 (by kernel_rfl) (by kernel_rfl) (fun n w hw h0 h1 => Go.Proofs.Tryd.strconv_Itoa n h0 h1 w hw)
theorem i_FormatInt_ok : OneF Go.Proofs.Tryd.prog gw 48 i_FormatInt_fi := fnOk_of (fn := Go.Proofs.Tryd.f48) (c := i_FormatInt_c) Go.Proofs.Tryd.func48 (by kernel_rfl) (by kernel_rfl) rfl rfl (by kernel_rfl) (by kernel_rfl) rfl
theorem i_FormatClaim_ok : OneF Go.Proofs.Tryd.prog gw 14 i_FormatClaim_fi := fnOk_of (fn := Go.Proofs.Tryd.f14) (c := i_FormatClaim_c) Go.Proofs.Tryd.func14 (by kernel_rfl) (by kernel_rfl) rfl rfl (by kernel_rfl) (by kernel_rfl) rfl
theorem w_eqIntS_ok : OneF Go.Proofs.Tryd.prog gw 19 w_eqIntS_fi := fnOk_of (fn := Go.Proofs.Tryd.f19) (c := w_eqIntS_c) Go.Proofs.Tryd.func19 (by kernel_rfl) (by kernel_rfl) rfl rfl (by kernel_rfl) (by kernel_rfl) rfl
theorem w_eqMove_ok : OneF Go.Proofs.Tryd.prog gw 43 w_eqMove_fi := fnOk_of (fn := Go.Proofs.Tryd.f43) (c := w_eqMove_c) Go.Proofs.Tryd.func43 (by kernel_rfl) (by kernel_rfl) rfl rfl (by kernel_rfl) (by kernel_rfl) rfl
theorem w_eqStep_ok : OneF Go.Proofs.Tryd.prog gw 88 w_eqStep_fi := fnOk_of (fn := Go.Proofs.Tryd.f88) (c := w_eqStep_c) Go.Proofs.Tryd.func88 (by kernel_rfl) (by kernel_rfl) rfl rfl (by kernel_rfl) (by kernel_rfl) rfl
theorem w_eqStepS_ok : OneF Go.Proofs.Tryd.prog gw 49 w_eqStepS_fi := fnOk_of (fn := Go.Proofs.Tryd.f49) (c := w_eqStepS_c) Go.Proofs.Tryd.func49 (by kernel_rfl) (by kernel_rfl) rfl rfl (by kernel_rfl) (by kernel_rfl) rfl
theorem w_eqTrick_ok : OneF Go.Proofs.Tryd.prog gw 15 w_eqTrick_fi := fnOk_of (fn := Go.Proofs.Tryd.f15) (c := w_eqTrick_c) Go.Proofs.Tryd.func15 (by kernel_rfl) (by kernel_rfl) rfl rfl (by kernel_rfl) (by kernel_rfl) rfl
theorem w_FnExactFormatClaim_ok : OneF Go.Proofs.Tryd.prog gw 3 w_FnExactFormatClaim_fi := fnOk_of (fn := Go.Proofs.Tryd.f3) (c := w_FnExactFormatClaim_c) Go.Proofs.Tryd.func3 (by kernel_rfl) (by kernel_rfl) rfl rfl (by kernel_rfl) (by kernel_rfl) rfl
theorem s_l01In_ok : OneF Go.Proofs.Tryd.prog gw 63 s_l01In_fi := fnOk_of (fn := Go.Proofs.Tryd.f63) (c := s_l01In_c) Go.Proofs.Tryd.func63 (by kernel_rfl) (by kernel_rfl) rfl rfl (by kernel_rfl) (by kernel_rfl) rfl
theorem s_CardOf_ok : OneF Go.Proofs.Tryd.prog gw 51 s_CardOf_fi := fnOk_of (fn := Go.Proofs.Tryd.f51) (c := s_CardOf_c) Go.Proofs.Tryd.func51 (by kernel_rfl) (by kernel_rfl) rfl rfl (by kernel_rfl) (by kernel_rfl) rfl
theorem s_l02Has_ok : OneF Go.Proofs.Tryd.prog gw 89 s_l02Has_fi := fnOk_of (fn := Go.Proofs.Tryd.f89) (c := s_l02Has_c) Go.Proofs.Tryd.func89 (by kernel_rfl) (by kernel_rfl) rfl rfl (by kernel_rfl) (by kernel_rfl) rfl
theorem s_PacketOk_ok : OneF Go.Proofs.Tryd.prog gw 50 s_PacketOk_fi := fnOk_of (fn := Go.Proofs.Tryd.f50) (c := s_PacketOk_c) Go.Proofs.Tryd.func50 (by kernel_rfl) (by kernel_rfl) rfl rfl (by kernel_rfl) (by kernel_rfl) rfl
theorem s_IsUp_ok : OneF Go.Proofs.Tryd.prog gw 52 s_IsUp_fi := fnOk_of (fn := Go.Proofs.Tryd.f52) (c := s_IsUp_c) Go.Proofs.Tryd.func52 (by kernel_rfl) (by kernel_rfl) rfl rfl (by kernel_rfl) (by kernel_rfl) rfl
theorem s_Join_ok : OneF Go.Proofs.Tryd.prog gw 53 s_Join_fi := fnOk_of (fn := Go.Proofs.Tryd.f53) (c := s_Join_c) Go.Proofs.Tryd.func53 (by kernel_rfl) (by kernel_rfl) rfl rfl (by kernel_rfl) (by kernel_rfl) rfl
theorem s_FormatPacket_ok : OneF Go.Proofs.Tryd.prog gw 16 s_FormatPacket_fi := fnOk_of (fn := Go.Proofs.Tryd.f16) (c := s_FormatPacket_c) Go.Proofs.Tryd.func16 (by kernel_rfl) (by kernel_rfl) rfl rfl (by kernel_rfl) (by kernel_rfl) rfl
theorem i_CardOf_ok : OneF Go.Proofs.Tryd.prog gw 55 i_CardOf_fi := fnOk_of (fn := Go.Proofs.Tryd.f55) (c := i_CardOf_c) Go.Proofs.Tryd.func55 (by kernel_rfl) (by kernel_rfl) rfl rfl (by kernel_rfl) (by kernel_rfl) rfl
theorem i_PacketOk_ok : OneF Go.Proofs.Tryd.prog gw 54 i_PacketOk_fi := fnOk_of (fn := Go.Proofs.Tryd.f54) (c := i_PacketOk_c) Go.Proofs.Tryd.func54 (by kernel_rfl) (by kernel_rfl) rfl rfl (by kernel_rfl) (by kernel_rfl) rfl
theorem i_IsUp_ok : OneF Go.Proofs.Tryd.prog gw 56 i_IsUp_fi := fnOk_of (fn := Go.Proofs.Tryd.f56) (c := i_IsUp_c) Go.Proofs.Tryd.func56 (by kernel_rfl) (by kernel_rfl) rfl rfl (by kernel_rfl) (by kernel_rfl) rfl
theorem strings_Join_ok : OneF Go.Proofs.Tryd.prog gw 90 strings_Join_fi := join_ok Go.Proofs.Tryd.func90 (by kernel_rfl) (by kernel_rfl) (fun a c sep w => Go.Proofs.Tryd.strings_Join_none a c sep w) (fun bk o c xs sep w hc hb hN hcap hl => Go.Proofs.Tryd.strings_Join bk o c xs sep w hc hb hN hcap hl)
theorem i_Join_ok : OneF Go.Proofs.Tryd.prog gw 57 i_Join_fi := fnOk_of (fn := Go.Proofs.Tryd.f57) (c := i_Join_c) Go.Proofs.Tryd.func57 (by kernel_rfl) (by kernel_rfl) rfl rfl (by kernel_rfl) (by kernel_rfl) rfl
theorem i_FormatPacket_ok : OneF Go.Proofs.Tryd.prog gw 18 i_FormatPacket_fi := fnOk_of (fn := Go.Proofs.Tryd.f18) (c := i_FormatPacket_c) Go.Proofs.Tryd.func18 (by kernel_rfl) (by kernel_rfl) rfl rfl (by kernel_rfl) (by kernel_rfl) rfl
theorem w_FnExactFormatPacket_ok : OneF Go.Proofs.Tryd.prog gw 4 w_FnExactFormatPacket_fi := fnOk_of (fn := Go.Proofs.Tryd.f4) (c := w_FnExactFormatPacket_c) Go.Proofs.Tryd.func4 (by kernel_rfl) (by kernel_rfl) rfl rfl (by kernel_rfl) (by kernel_rfl) rfl
theorem s_PermOk_ok : OneF Go.Proofs.Tryd.prog gw 58 s_PermOk_fi := fnOk_of (fn := Go.Proofs.Tryd.f58) (c := s_PermOk_c) Go.Proofs.Tryd.func58 (by kernel_rfl) (by kernel_rfl) rfl rfl (by kernel_rfl) (by kernel_rfl) rfl
theorem s_CyclesOf_ok : OneF Go.Proofs.Tryd.prog gw 59 s_CyclesOf_fi := fnOk_of (fn := Go.Proofs.Tryd.f59) (c := s_CyclesOf_c) Go.Proofs.Tryd.func59 (by kernel_rfl) (by kernel_rfl) rfl rfl (by kernel_rfl) (by kernel_rfl) rfl
theorem s_CyclesLine_ok : OneF Go.Proofs.Tryd.prog gw 20 s_CyclesLine_fi := fnOk_of (fn := Go.Proofs.Tryd.f20) (c := s_CyclesLine_c) Go.Proofs.Tryd.func20 (by kernel_rfl) (by kernel_rfl) rfl rfl (by kernel_rfl) (by kernel_rfl) rfl
theorem slices_Index_int_ok : OneF Go.Proofs.Tryd.prog gw 125 slices_Index_int_fi := fnOk_of (fn := Go.Proofs.Tryd.f125) (c := slices_Index_int_c) Go.Proofs.Tryd.func125 (by kernel_rfl) (by kernel_rfl) rfl rfl (by kernel_rfl) (by kernel_rfl) rfl
theorem slices_Contains_int_ok : OneF Go.Proofs.Tryd.prog gw 91 slices_Contains_int_fi := fnOk_of (fn := Go.Proofs.Tryd.f91) (c := slices_Contains_int_c) Go.Proofs.Tryd.func91 (by kernel_rfl) (by kernel_rfl) rfl rfl (by kernel_rfl) (by kernel_rfl) rfl
theorem i_PermOk_ok : OneF Go.Proofs.Tryd.prog gw 60 i_PermOk_fi := fnOk_of (fn := Go.Proofs.Tryd.f60) (c := i_PermOk_c) Go.Proofs.Tryd.func60 (by kernel_rfl) (by kernel_rfl) rfl rfl (by kernel_rfl) (by kernel_rfl) rfl
theorem i_CyclesOf_ok : OneF Go.Proofs.Tryd.prog gw 61 i_CyclesOf_fi := fnOk_of (fn := Go.Proofs.Tryd.f61) (c := i_CyclesOf_c) Go.Proofs.Tryd.func61 (by kernel_rfl) (by kernel_rfl) rfl rfl (by kernel_rfl) (by kernel_rfl) rfl
theorem i_numbersOf_ok : OneF Go.Proofs.Tryd.prog gw 62 i_numbersOf_fi := fnOk_of (fn := Go.Proofs.Tryd.f62) (c := i_numbersOf_c) Go.Proofs.Tryd.func62 (by kernel_rfl) (by kernel_rfl) rfl rfl (by kernel_rfl) (by kernel_rfl) rfl
theorem i_CyclesLine_ok : OneF Go.Proofs.Tryd.prog gw 21 i_CyclesLine_fi := fnOk_of (fn := Go.Proofs.Tryd.f21) (c := i_CyclesLine_c) Go.Proofs.Tryd.func21 (by kernel_rfl) (by kernel_rfl) rfl rfl (by kernel_rfl) (by kernel_rfl) rfl
theorem w_FnExactCyclesLine_ok : OneF Go.Proofs.Tryd.prog gw 5 w_FnExactCyclesLine_fi := fnOk_of (fn := Go.Proofs.Tryd.f5) (c := w_FnExactCyclesLine_c) Go.Proofs.Tryd.func5 (by kernel_rfl) (by kernel_rfl) rfl rfl (by kernel_rfl) (by kernel_rfl) rfl
theorem w_szScene_ok : OneF Go.Proofs.Tryd.prog gw 22 w_szScene_fi := fnOk_of (fn := Go.Proofs.Tryd.f22) (c := w_szScene_c) Go.Proofs.Tryd.func22 (by kernel_rfl) (by kernel_rfl) rfl rfl (by kernel_rfl) (by kernel_rfl) rfl
theorem w_toScene_ok : OneF Go.Proofs.Tryd.prog gw 24 w_toScene_fi := fnOk_of (fn := Go.Proofs.Tryd.f24) (c := w_toScene_c) Go.Proofs.Tryd.func24 (by kernel_rfl) (by kernel_rfl) rfl rfl (by kernel_rfl) (by kernel_rfl) rfl
theorem s_SceneLine_ok : OneF Go.Proofs.Tryd.prog gw 23 s_SceneLine_fi := fnOk_of (fn := Go.Proofs.Tryd.f23) (c := s_SceneLine_c) Go.Proofs.Tryd.func23 (by kernel_rfl) (by kernel_rfl) rfl rfl (by kernel_rfl) (by kernel_rfl) rfl
theorem i_SceneLine_ok : OneF Go.Proofs.Tryd.prog gw 25 i_SceneLine_fi := fnOk_of (fn := Go.Proofs.Tryd.f25) (c := i_SceneLine_c) Go.Proofs.Tryd.func25 (by kernel_rfl) (by kernel_rfl) rfl rfl (by kernel_rfl) (by kernel_rfl) rfl
theorem w_eqScene_ok : OneF Go.Proofs.Tryd.prog gw 26 w_eqScene_fi := fnOk_of (fn := Go.Proofs.Tryd.f26) (c := w_eqScene_c) Go.Proofs.Tryd.func26 (by kernel_rfl) (by kernel_rfl) rfl rfl (by kernel_rfl) (by kernel_rfl) rfl
theorem w_FnExactSceneLine_ok : OneF Go.Proofs.Tryd.prog gw 6 w_FnExactSceneLine_fi := fnOk_of (fn := Go.Proofs.Tryd.f6) (c := w_FnExactSceneLine_c) Go.Proofs.Tryd.func6 (by kernel_rfl) (by kernel_rfl) rfl rfl (by kernel_rfl) (by kernel_rfl) rfl
theorem w_szIntSS_ok : OneF Go.Proofs.Tryd.prog gw 31 w_szIntSS_fi := fnOk_of (fn := Go.Proofs.Tryd.f31) (c := w_szIntSS_c) Go.Proofs.Tryd.func31 (by kernel_rfl) (by kernel_rfl) rfl rfl (by kernel_rfl) (by kernel_rfl) rfl
theorem w_toIntSS_ok : OneF Go.Proofs.Tryd.prog gw 33 w_toIntSS_fi := fnOk_of (fn := Go.Proofs.Tryd.f33) (c := w_toIntSS_c) Go.Proofs.Tryd.func33 (by kernel_rfl) (by kernel_rfl) rfl rfl (by kernel_rfl) (by kernel_rfl) rfl
theorem s_PositionOf_ok : OneF Go.Proofs.Tryd.prog gw 126 s_PositionOf_fi := fnOk_of (fn := Go.Proofs.Tryd.f126) (c := s_PositionOf_c) Go.Proofs.Tryd.func126 (by kernel_rfl) (by kernel_rfl) rfl rfl (by kernel_rfl) (by kernel_rfl) rfl
theorem s_IsArrangement_ok : OneF Go.Proofs.Tryd.prog gw 96 s_IsArrangement_fi := fnOk_of (fn := Go.Proofs.Tryd.f96) (c := s_IsArrangement_c) Go.Proofs.Tryd.func96 (by kernel_rfl) (by kernel_rfl) rfl rfl (by kernel_rfl) (by kernel_rfl) rfl
theorem s_l05Less_ok : OneF Go.Proofs.Tryd.prog gw 97 s_l05Less_fi := fnOk_of (fn := Go.Proofs.Tryd.f97) (c := s_l05Less_c) Go.Proofs.Tryd.func97 (by kernel_rfl) (by kernel_rfl) rfl rfl (by kernel_rfl) (by kernel_rfl) rfl
theorem s_KnowOk_ok : OneF Go.Proofs.Tryd.prog gw 67 s_KnowOk_fi := fnOk_of (fn := Go.Proofs.Tryd.f67) (c := s_KnowOk_c) Go.Proofs.Tryd.func67 (by kernel_rfl) (by kernel_rfl) rfl rfl (by kernel_rfl) (by kernel_rfl) rfl
theorem s_KnownAt_ok : OneF Go.Proofs.Tryd.prog gw 68 s_KnownAt_fi := fnOk_of (fn := Go.Proofs.Tryd.f68) (c := s_KnownAt_c) Go.Proofs.Tryd.func68 (by kernel_rfl) (by kernel_rfl) rfl rfl (by kernel_rfl) (by kernel_rfl) rfl
theorem s_KnowLine_ok : OneF Go.Proofs.Tryd.prog gw 32 s_KnowLine_fi := fnOk_of (fn := Go.Proofs.Tryd.f32) (c := s_KnowLine_c) Go.Proofs.Tryd.func32 (by kernel_rfl) (by kernel_rfl) rfl rfl (by kernel_rfl) (by kernel_rfl) rfl
theorem i_PositionOf_1_ok : OneF Go.Proofs.Tryd.prog gw 140 i_PositionOf_1_fi := fnOk_of (fn := Go.Proofs.Tryd.f140) (c := i_PositionOf_1_c) Go.Proofs.Tryd.func140 (by kernel_rfl) (by kernel_rfl) rfl rfl (by kernel_rfl) (by kernel_rfl) rfl
theorem slices_IndexFunc_int_of_i_PositionOf_1_ok : OneF Go.Proofs.Tryd.prog gw 139 slices_IndexFunc_int_of_i_PositionOf_1_fi := fnOk_of (fn := Go.Proofs.Tryd.f139) (c := slices_IndexFunc_int_of_i_PositionOf_1_c) Go.Proofs.Tryd.func139 (by kernel_rfl) (by kernel_rfl) rfl rfl (by kernel_rfl) (by kernel_rfl) rfl
theorem i_PositionOf_ok : OneF Go.Proofs.Tryd.prog gw 129 i_PositionOf_fi := fnOk_of (fn := Go.Proofs.Tryd.f129) (c := i_PositionOf_c) Go.Proofs.Tryd.func129 (by kernel_rfl) (by kernel_rfl) rfl rfl (by kernel_rfl) (by kernel_rfl) rfl
theorem i_IsArrangement_1_ok : OneF Go.Proofs.Tryd.prog gw 128 i_IsArrangement_1_fi := fnOk_of (fn := Go.Proofs.Tryd.f128) (c := i_IsArrangement_1_c) Go.Proofs.Tryd.func128 (by kernel_rfl) (by kernel_rfl) rfl rfl (by kernel_rfl) (by kernel_rfl) rfl
theorem slices_IndexFunc_int_of_i_IsArrangement_1_ok : OneF Go.Proofs.Tryd.prog gw 139 slices_IndexFunc_int_of_i_IsArrangement_1_fi := fnOk_of (fn := Go.Proofs.Tryd.f139) (c := slices_IndexFunc_int_of_i_IsArrangement_1_c) Go.Proofs.Tryd.func139 (by kernel_rfl) (by kernel_rfl) rfl rfl (by kernel_rfl) (by kernel_rfl) rfl
theorem slices_ContainsFunc_int_of_i_IsArrangement_1_ok : OneF Go.Proofs.Tryd.prog gw 127 slices_ContainsFunc_int_of_i_IsArrangement_1_fi := fnOk_of (fn := Go.Proofs.Tryd.f127) (c := slices_ContainsFunc_int_of_i_IsArrangement_1_c) Go.Proofs.Tryd.func127 (by kernel_rfl) (by kernel_rfl) rfl rfl (by kernel_rfl) (by kernel_rfl) rfl
theorem i_IsArrangement_ok : OneF Go.Proofs.Tryd.prog gw 98 i_IsArrangement_fi := fnOk_of (fn := Go.Proofs.Tryd.f98) (c := i_IsArrangement_c) Go.Proofs.Tryd.func98 (by kernel_rfl) (by kernel_rfl) rfl rfl (by kernel_rfl) (by kernel_rfl) rfl
theorem cmp_isNaN_int_ok : OneF Go.Proofs.Tryd.prog gw 141 cmp_isNaN_int_fi := fnOk_of (fn := Go.Proofs.Tryd.f141) (c := cmp_isNaN_int_c) Go.Proofs.Tryd.func141 (by kernel_rfl) (by kernel_rfl) rfl rfl (by kernel_rfl) (by kernel_rfl) rfl
theorem cmp_Compare_int_ok : OneF Go.Proofs.Tryd.prog gw 130 cmp_Compare_int_fi := fnOk_of (fn := Go.Proofs.Tryd.f130) (c := cmp_Compare_int_c) Go.Proofs.Tryd.func130 (by kernel_rfl) (by kernel_rfl) rfl rfl (by kernel_rfl) (by kernel_rfl) rfl
theorem slices_Compare_int_ok : OneF Go.Proofs.Tryd.prog gw 99 slices_Compare_int_fi := fnOk_of (fn := Go.Proofs.Tryd.f99) (c := slices_Compare_int_c) Go.Proofs.Tryd.func99 (by kernel_rfl) (by kernel_rfl) rfl rfl (by kernel_rfl) (by kernel_rfl) rfl
theorem i_KnowOk_ok : OneF Go.Proofs.Tryd.prog gw 69 i_KnowOk_fi := fnOk_of (fn := Go.Proofs.Tryd.f69) (c := i_KnowOk_c) Go.Proofs.Tryd.func69 (by kernel_rfl) (by kernel_rfl) rfl rfl (by kernel_rfl) (by kernel_rfl) rfl
theorem i_KnownAt_1_ok : OneF Go.Proofs.Tryd.prog gw 101 i_KnownAt_1_fi := fnOk_of (fn := Go.Proofs.Tryd.f101) (c := i_KnownAt_1_c) Go.Proofs.Tryd.func101 (by kernel_rfl) (by kernel_rfl) rfl rfl (by kernel_rfl) (by kernel_rfl) rfl
theorem i_common_of_i_KnownAt_1_ok : OneF Go.Proofs.Tryd.prog gw 100 i_common_of_i_KnownAt_1_fi := fnOk_of (fn := Go.Proofs.Tryd.f100) (c := i_common_of_i_KnownAt_1_c) Go.Proofs.Tryd.func100 (by kernel_rfl) (by kernel_rfl) rfl rfl (by kernel_rfl) (by kernel_rfl) rfl
theorem i_KnownAt_ok : OneF Go.Proofs.Tryd.prog gw 70 i_KnownAt_fi := fnOk_of (fn := Go.Proofs.Tryd.f70) (c := i_KnownAt_c) Go.Proofs.Tryd.func70 (by kernel_rfl) (by kernel_rfl) rfl rfl (by kernel_rfl) (by kernel_rfl) rfl
theorem i_KnowLine_ok : OneF Go.Proofs.Tryd.prog gw 34 i_KnowLine_fi := fnOk_of (fn := Go.Proofs.Tryd.f34) (c := i_KnowLine_c) Go.Proofs.Tryd.func34 (by kernel_rfl) (by kernel_rfl) rfl rfl (by kernel_rfl) (by kernel_rfl) rfl
theorem w_eqIntSS_ok : OneF Go.Proofs.Tryd.prog gw 35 w_eqIntSS_fi := fnOk_of (fn := Go.Proofs.Tryd.f35) (c := w_eqIntSS_c) Go.Proofs.Tryd.func35 (by kernel_rfl) (by kernel_rfl) rfl rfl (by kernel_rfl) (by kernel_rfl) rfl
theorem w_FnExactKnowLine_ok : OneF Go.Proofs.Tryd.prog gw 8 w_FnExactKnowLine_fi := fnOk_of (fn := Go.Proofs.Tryd.f8) (c := w_FnExactKnowLine_c) Go.Proofs.Tryd.func8 (by kernel_rfl) (by kernel_rfl) rfl rfl (by kernel_rfl) (by kernel_rfl) rfl
theorem hF : FnOk Go.Proofs.Tryd.prog gw E := lookF_ok (l := fnL) ⟨w_szIntS_ok, w_szStepS_ok, w_szTrick_ok, w_toIntS_ok, w_toMove_ok, w_toStep_ok, w_toStepS_ok, w_toTrick_ok, s_FormatInt_ok, s_FormatClaim_ok, strconv_Itoa_ok, i_FormatInt_ok, i_FormatClaim_ok, w_eqIntS_ok, w_eqMove_ok, w_eqStep_ok, w_eqStepS_ok, w_eqTrick_ok, w_FnExactFormatClaim_ok, s_l01In_ok, s_CardOf_ok, s_l02Has_ok, s_PacketOk_ok, s_IsUp_ok, s_Join_ok, s_FormatPacket_ok, i_CardOf_ok, i_PacketOk_ok, i_IsUp_ok, strings_Join_ok, i_Join_ok, i_FormatPacket_ok, w_FnExactFormatPacket_ok, s_PermOk_ok, s_CyclesOf_ok, s_CyclesLine_ok, slices_Index_int_ok, slices_Contains_int_ok, i_PermOk_ok, i_CyclesOf_ok, i_numbersOf_ok, i_CyclesLine_ok, w_FnExactCyclesLine_ok, w_szScene_ok, w_toScene_ok, s_SceneLine_ok, i_SceneLine_ok, w_eqScene_ok, w_FnExactSceneLine_ok, w_szIntSS_ok, w_toIntSS_ok, s_PositionOf_ok, s_IsArrangement_ok, s_l05Less_ok, s_KnowOk_ok, s_KnownAt_ok, s_KnowLine_ok, i_PositionOf_1_ok, slices_IndexFunc_int_of_i_PositionOf_1_ok, i_PositionOf_ok, i_IsArrangement_1_ok, slices_IndexFunc_int_of_i_IsArrangement_1_ok, slices_ContainsFunc_int_of_i_IsArrangement_1_ok, i_IsArrangement_ok, cmp_isNaN_int_ok, cmp_Compare_int_ok, slices_Compare_int_ok, i_KnowOk_ok, i_KnownAt_1_ok, i_common_of_i_KnownAt_1_ok, i_KnownAt_ok, i_KnowLine_ok, w_eqIntSS_ok, w_FnExactKnowLine_ok, trivial⟩
end Pt
