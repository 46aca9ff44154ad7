/-
  The plain machine's telling of functions of the program. Printed by gen.py.
  Conditions: none; these are definitions and equations that the kernel checks.
-/
import Derived.Test.YtijdgiejhgfmlacDoorXvze
import Derived.Test.YtijdgiejhgfmlacDoorProg
import Derived.Test.YtijdgiejhgfmlacDoorShelf
namespace Pt
open Go Go.Vt
set_option linter.unusedVariables false
set_option maxRecDepth 100000

noncomputable def tyL : List (Nat × TI) := [(3, .one (.int .i64)),
  (4, .one (.bool)),
  (5, .one (.int .u8)),
  (9, .one (.str)),
  (22, .one (.slice (.int .u8))),
  (25, .one (.slice (.int .i64))),
  (39, .struct [(0, 3), (1, 3)] [.int .i64, .int .i64] true),
  (41, .struct [(0, 3), (1, 39), (3, 3)] [.int .i64, .int .i64, .int .i64, .int .i64] true),
  (45, .one (.slice (.pair (.int .i64) (.pair (.pair (.int .i64) (.int .i64)) (.int .i64))))),
  (47, .struct [(0, 25), (1, 45), (2, 3), (3, 3), (4, 3)] [.slice (.int .i64), .slice (.pair (.int .i64) (.pair (.pair (.int .i64) (.int .i64)) (.int .i64))), .int .i64, .int .i64, .int .i64] false),
  (49, .one (.slice (.str))),
  (51, .one (.slice (.pair (.int .i64) (.pair (.pair (.int .i64) (.int .i64)) (.int .i64))))),
  (53, .struct [(0, 25), (1, 51), (2, 3), (3, 3), (4, 3)] [.slice (.int .i64), .slice (.pair (.int .i64) (.pair (.pair (.int .i64) (.int .i64)) (.int .i64))), .int .i64, .int .i64, .int .i64] false),
  (128, .arr 12 (.bool)),
  (134, .struct [(0, 3), (1, 3)] [.int .i64, .int .i64] true),
  (136, .struct [(0, 3), (1, 134), (3, 3)] [.int .i64, .int .i64, .int .i64, .int .i64] true),
  (1000022, .bytes)]

/-! ### w_szIntS -/
noncomputable def w_szIntS_c : Code := (Go.Proofs.Tryd.f72.body).getD .skip
noncomputable def w_szIntS_h : Nat → Option (List Hint)
  | _ => none
noncomputable def w_szIntS_fi : Fi := ⟨[.v (.slice (.int .i64)) false, .v (.int .i64) false], [(false, [⟨.int .i64, none⟩])], none, w_szIntS_c, Go.Proofs.Tryd.f72.results.toList, 12, w_szIntS_h⟩
/-! ### w_szStepS -/
noncomputable def w_szStepS_c : Code := (Go.Proofs.Tryd.f73.body).getD .skip
noncomputable def w_szStepS_h : Nat → Option (List Hint)
  | _ => none
noncomputable def w_szStepS_fi : Fi := ⟨[.v (.slice (.pair (.int .i64) (.pair (.pair (.int .i64) (.int .i64)) (.int .i64)))) false, .v (.int .i64) false], [(false, [⟨.int .i64, none⟩])], none, w_szStepS_c, Go.Proofs.Tryd.f73.results.toList, 12, w_szStepS_h⟩
/-! ### w_szTrick -/
noncomputable def w_szTrick_c : Code := (Go.Proofs.Tryd.f25.body).getD .skip
noncomputable def w_szTrick_h : Nat → Option (List Hint)
  | _ => none
noncomputable def w_szTrick_fi : Fi := ⟨[.v (.pair (.slice (.int .i64)) (.pair (.slice (.pair (.int .i64) (.pair (.pair (.int .i64) (.int .i64)) (.int .i64)))) (.pair (.int .i64) (.pair (.int .i64) (.int .i64))))) true, .v (.int .i64) false], [(false, [⟨.int .i64, none⟩])], none, w_szTrick_c, Go.Proofs.Tryd.f25.results.toList, 18, w_szTrick_h⟩
/-! ### w_toIntS -/
noncomputable def w_toIntS_c : Code := (Go.Proofs.Tryd.f76.body).getD .skip
noncomputable def w_toIntS_h : Nat → Option (List Hint)
  | 3 => some [.keep 0, .cell 3 (.row 100003 (.int .i64) true false), .keep 4]
  | _ => none
noncomputable def w_toIntS_fi : Fi := ⟨[.v (.slice (.int .i64)) false], [(false, [⟨.slice (.int .i64), some (true, false)⟩])], none, w_toIntS_c, Go.Proofs.Tryd.f76.results.toList, 22, w_toIntS_h⟩
/-! ### w_toMove -/
noncomputable def w_toMove_c : Code := (Go.Proofs.Tryd.f150.body).getD .skip
noncomputable def w_toMove_h : Nat → Option (List Hint)
  | _ => none
noncomputable def w_toMove_fi : Fi := ⟨[.v (.pair (.int .i64) (.int .i64)) true], [(true, [⟨.int .i64, none⟩, ⟨.int .i64, none⟩])], none, w_toMove_c, Go.Proofs.Tryd.f150.results.toList, 11, w_toMove_h⟩
/-! ### w_toStep -/
noncomputable def w_toStep_c : Code := (Go.Proofs.Tryd.f121.body).getD .skip
noncomputable def w_toStep_h : Nat → Option (List Hint)
  | _ => none
noncomputable def w_toStep_fi : Fi := ⟨[.v (.pair (.int .i64) (.pair (.pair (.int .i64) (.int .i64)) (.int .i64))) true], [(true, [⟨.int .i64, none⟩, ⟨.int .i64, none⟩, ⟨.int .i64, none⟩, ⟨.int .i64, none⟩])], none, w_toStep_c, Go.Proofs.Tryd.f121.results.toList, 15, w_toStep_h⟩
/-! ### w_toStepS -/
noncomputable def w_toStepS_c : Code := (Go.Proofs.Tryd.f77.body).getD .skip
noncomputable def w_toStepS_h : Nat → Option (List Hint)
  | 3 => some [.keep 0, .cell 3 (.row 100003 (.pair (.int .i64) (.pair (.pair (.int .i64) (.int .i64)) (.int .i64))) true false), .keep 4]
  | _ => none
noncomputable def w_toStepS_fi : Fi := ⟨[.v (.slice (.pair (.int .i64) (.pair (.pair (.int .i64) (.int .i64)) (.int .i64)))) false], [(false, [⟨.slice (.pair (.int .i64) (.pair (.pair (.int .i64) (.int .i64)) (.int .i64))), some (true, false)⟩])], none, w_toStepS_c, Go.Proofs.Tryd.f77.results.toList, 23, w_toStepS_h⟩
/-! ### w_toTrick -/
noncomputable def w_toTrick_c : Code := (Go.Proofs.Tryd.f27.body).getD .skip
noncomputable def w_toTrick_h : Nat → Option (List Hint)
  | _ => none
noncomputable def w_toTrick_fi : Fi := ⟨[.v (.pair (.slice (.int .i64)) (.pair (.slice (.pair (.int .i64) (.pair (.pair (.int .i64) (.int .i64)) (.int .i64)))) (.pair (.int .i64) (.pair (.int .i64) (.int .i64))))) true], [(true, [⟨.slice (.int .i64), some (true, false)⟩, ⟨.slice (.pair (.int .i64) (.pair (.pair (.int .i64) (.int .i64)) (.int .i64))), some (true, false)⟩, ⟨.int .i64, none⟩, ⟨.int .i64, none⟩, ⟨.int .i64, none⟩])], none, w_toTrick_c, Go.Proofs.Tryd.f27.results.toList, 22, w_toTrick_h⟩
/-! ### s_l01In -/
noncomputable def s_l01In_c : Code := (Go.Proofs.Tryd.f60.body).getD .skip
noncomputable def s_l01In_h : Nat → Option (List Hint)
  | _ => none
noncomputable def s_l01In_fi : Fi := ⟨[.v (.int .i64) false, .v (.int .i64) false, .v (.int .i64) false], [(false, [⟨.bool, none⟩])], none, s_l01In_c, Go.Proofs.Tryd.f60.results.toList, 15, s_l01In_h⟩
/-! ### s_CardOf -/
noncomputable def s_CardOf_c : Code := (Go.Proofs.Tryd.f109.body).getD .skip
noncomputable def s_CardOf_h : Nat → Option (List Hint)
  | _ => none
noncomputable def s_CardOf_fi : Fi := ⟨[.v (.int .i64) false], [(false, [⟨.int .i64, none⟩])], none, s_CardOf_c, Go.Proofs.Tryd.f109.results.toList, 10, s_CardOf_h⟩
/-! ### s_l02Has -/
noncomputable def s_l02Has_c : Code := (Go.Proofs.Tryd.f137.body).getD .skip
noncomputable def s_l02Has_h : Nat → Option (List Hint)
  | 2 => some [.keep 1, .keep 7, .keep 8, .keep 9]
  | _ => none
noncomputable def s_l02Has_fi : Fi := ⟨[.v (.slice (.int .i64)) false, .v (.int .i64) false], [(false, [⟨.bool, none⟩])], none, s_l02Has_c, Go.Proofs.Tryd.f137.results.toList, 17, s_l02Has_h⟩
/-! ### s_PacketOk -/
noncomputable def s_PacketOk_c : Code := (Go.Proofs.Tryd.f108.body).getD .skip
noncomputable def s_PacketOk_h : Nat → Option (List Hint)
  | 5 => some [.cell 3 (.row 100003 (.int .i64) true false), .keep 11, .keep 12, .keep 13]
  | _ => none
noncomputable def s_PacketOk_fi : Fi := ⟨[.v (.slice (.int .i64)) false], [(false, [⟨.bool, none⟩])], none, s_PacketOk_c, Go.Proofs.Tryd.f108.results.toList, 31, s_PacketOk_h⟩
/-! ### s_MoveOk -/
noncomputable def s_MoveOk_c : Code := (Go.Proofs.Tryd.f142.body).getD .skip
noncomputable def s_MoveOk_h : Nat → Option (List Hint)
  | _ => none
noncomputable def s_MoveOk_fi : Fi := ⟨[.v (.int .i64) false, .v (.pair (.int .i64) (.int .i64)) true], [(false, [⟨.bool, none⟩])], none, s_MoveOk_c, Go.Proofs.Tryd.f142.results.toList, 38, s_MoveOk_h⟩
/-! ### s_l16Choice -/
noncomputable def s_l16Choice_c : Code := (Go.Proofs.Tryd.f144.body).getD .skip
noncomputable def s_l16Choice_h : Nat → Option (List Hint)
  | _ => none
noncomputable def s_l16Choice_fi : Fi := ⟨[.v (.int .i64) false, .v (.int .i64) false], [(false, [⟨.bool, none⟩])], none, s_l16Choice_c, Go.Proofs.Tryd.f144.results.toList, 23, s_l16Choice_h⟩
/-! ### s_StepOk -/
noncomputable def s_StepOk_c : Code := (Go.Proofs.Tryd.f116.body).getD .skip
noncomputable def s_StepOk_h : Nat → Option (List Hint)
  | _ => none
noncomputable def s_StepOk_fi : Fi := ⟨[.v (.int .i64) false, .v (.pair (.int .i64) (.pair (.pair (.int .i64) (.int .i64)) (.int .i64))) true], [(false, [⟨.bool, none⟩])], none, s_StepOk_c, Go.Proofs.Tryd.f116.results.toList, 46, s_StepOk_h⟩
/-! ### s_PositionOf -/
noncomputable def s_PositionOf_c : Code := (Go.Proofs.Tryd.f149.body).getD .skip
noncomputable def s_PositionOf_h : Nat → Option (List Hint)
  | 2 => some [.keep 1, .keep 7, .keep 8, .keep 9]
  | _ => none
noncomputable def s_PositionOf_fi : Fi := ⟨[.v (.slice (.int .i64)) false, .v (.int .i64) false], [(false, [⟨.int .i64, none⟩])], none, s_PositionOf_c, Go.Proofs.Tryd.f149.results.toList, 24, s_PositionOf_h⟩
/-! ### s_l16Claim -/
noncomputable def s_l16Claim_c : Code := (Go.Proofs.Tryd.f120.body).getD .skip
noncomputable def s_l16Claim_h : Nat → Option (List Hint)
  | _ => none
noncomputable def s_l16Claim_fi : Fi := ⟨[.v (.pair (.slice (.int .i64)) (.pair (.slice (.pair (.int .i64) (.pair (.pair (.int .i64) (.int .i64)) (.int .i64)))) (.pair (.int .i64) (.pair (.int .i64) (.int .i64))))) true, .v (.int .i64) false, .v (.bool) false], [(false, [⟨.bool, none⟩])], none, s_l16Claim_c, Go.Proofs.Tryd.f120.results.toList, 61, s_l16Claim_h⟩
/-! ### s_TrickOk -/
noncomputable def s_TrickOk_c : Code := (Go.Proofs.Tryd.f74.body).getD .skip
noncomputable def s_TrickOk_h : Nat → Option (List Hint)
  | 6 => some [.box 1 200001 [.keep, .keep, .keep, .keep, .keep], .keep 3, .keep 4, .keep 25, .keep 26, .keep 27]
  | _ => none
noncomputable def s_TrickOk_fi : Fi := ⟨[.v (.pair (.slice (.int .i64)) (.pair (.slice (.pair (.int .i64) (.pair (.pair (.int .i64) (.int .i64)) (.int .i64)))) (.pair (.int .i64) (.pair (.int .i64) (.int .i64))))) true], [(false, [⟨.bool, none⟩])], none, s_TrickOk_c, Go.Proofs.Tryd.f74.results.toList, 46, s_TrickOk_h⟩
/-! ### s_FormatInt -/
noncomputable def s_FormatInt_c : Code := (Go.Proofs.Tryd.f107.body).getD .skip
noncomputable def s_FormatInt_h : Nat → Option (List Hint)
  | 6 => some [.keep 0, .keep 3]
  | _ => none
noncomputable def s_FormatInt_fi : Fi := ⟨[.v (.int .i64) false], [(false, [⟨.str, none⟩])], none, s_FormatInt_c, Go.Proofs.Tryd.f107.results.toList, 44, s_FormatInt_h⟩
/-! ### s_IsUp -/
noncomputable def s_IsUp_c : Code := (Go.Proofs.Tryd.f110.body).getD .skip
noncomputable def s_IsUp_h : Nat → Option (List Hint)
  | _ => none
noncomputable def s_IsUp_fi : Fi := ⟨[.v (.int .i64) false], [(false, [⟨.bool, none⟩])], none, s_IsUp_c, Go.Proofs.Tryd.f110.results.toList, 5, s_IsUp_h⟩
/-! ### s_Join -/
noncomputable def s_Join_c : Code := (Go.Proofs.Tryd.f111.body).getD .skip
noncomputable def s_Join_h : Nat → Option (List Hint)
  | 3 => some [.keep 1, .keep 5, .keep 8, .keep 9, .keep 10]
  | _ => none
noncomputable def s_Join_fi : Fi := ⟨[.v (.slice (.str)) false, .v (.str) false], [(false, [⟨.str, none⟩])], none, s_Join_c, Go.Proofs.Tryd.f111.results.toList, 25, s_Join_h⟩
/-! ### s_FormatPacket -/
noncomputable def s_FormatPacket_c : Code := (Go.Proofs.Tryd.f61.body).getD .skip
noncomputable def s_FormatPacket_h : Nat → Option (List Hint)
  | 5 => some [.cell 3 (.row 100003 (.str) true false), .keep 11, .keep 12, .keep 13]
  | _ => none
noncomputable def s_FormatPacket_fi : Fi := ⟨[.v (.slice (.int .i64)) false], [(false, [⟨.str, none⟩])], none, s_FormatPacket_c, Go.Proofs.Tryd.f61.results.toList, 34, s_FormatPacket_h⟩
/-! ### s_ChoiceName -/
noncomputable def s_ChoiceName_c : Code := (Go.Proofs.Tryd.f65.body).getD .skip
noncomputable def s_ChoiceName_h : Nat → Option (List Hint)
  | _ => none
noncomputable def s_ChoiceName_fi : Fi := ⟨[.v (.int .i64) false], [(false, [⟨.str, none⟩])], none, s_ChoiceName_c, Go.Proofs.Tryd.f65.results.toList, 10, s_ChoiceName_h⟩
/-! ### s_l04Names -/
noncomputable def s_l04Names_c : Code := (Go.Proofs.Tryd.f141.body).getD .skip
noncomputable def s_l04Names_h : Nat → Option (List Hint)
  | _ => none
noncomputable def s_l04Names_fi : Fi := ⟨[], [(false, [⟨.slice (.str), some (true, false)⟩])], none, s_l04Names_c, Go.Proofs.Tryd.f141.results.toList, 2, s_l04Names_h⟩
/-! ### s_MoveName -/
noncomputable def s_MoveName_c : Code := (Go.Proofs.Tryd.f143.body).getD .skip
noncomputable def s_MoveName_h : Nat → Option (List Hint)
  | _ => none
noncomputable def s_MoveName_fi : Fi := ⟨[.v (.int .i64) false], [(false, [⟨.str, none⟩])], none, s_MoveName_c, Go.Proofs.Tryd.f143.results.toList, 10, s_MoveName_h⟩
/-! ### s_FormatMove -/
noncomputable def s_FormatMove_c : Code := (Go.Proofs.Tryd.f115.body).getD .skip
noncomputable def s_FormatMove_h : Nat → Option (List Hint)
  | _ => none
noncomputable def s_FormatMove_fi : Fi := ⟨[.v (.pair (.int .i64) (.int .i64)) true], [(false, [⟨.str, none⟩])], none, s_FormatMove_c, Go.Proofs.Tryd.f115.results.toList, 14, s_FormatMove_h⟩
/-! ### s_FormatStep -/
noncomputable def s_FormatStep_c : Code := (Go.Proofs.Tryd.f67.body).getD .skip
noncomputable def s_FormatStep_h : Nat → Option (List Hint)
  | _ => none
noncomputable def s_FormatStep_fi : Fi := ⟨[.v (.pair (.int .i64) (.pair (.pair (.int .i64) (.int .i64)) (.int .i64))) true], [(false, [⟨.str, none⟩])], none, s_FormatStep_c, Go.Proofs.Tryd.f67.results.toList, 39, s_FormatStep_h⟩
/-! ### s_FormatClaim -/
noncomputable def s_FormatClaim_c : Code := (Go.Proofs.Tryd.f75.body).getD .skip
noncomputable def s_FormatClaim_h : Nat → Option (List Hint)
  | _ => none
noncomputable def s_FormatClaim_fi : Fi := ⟨[.v (.pair (.slice (.int .i64)) (.pair (.slice (.pair (.int .i64) (.pair (.pair (.int .i64) (.int .i64)) (.int .i64)))) (.pair (.int .i64) (.pair (.int .i64) (.int .i64))))) true], [(false, [⟨.str, none⟩])], none, s_FormatClaim_c, Go.Proofs.Tryd.f75.results.toList, 32, s_FormatClaim_h⟩
/-! ### s_TrickLines -/
noncomputable def s_TrickLines_c : Code := (Go.Proofs.Tryd.f26.body).getD .skip
noncomputable def s_TrickLines_h : Nat → Option (List Hint)
  | 5 => some [.box 1 200001 [.keep, .keep, .keep, .keep, .keep], .cell 3 (.row 100003 (.str) true false), .keep 15, .keep 16, .keep 17]
  | _ => none
noncomputable def s_TrickLines_fi : Fi := ⟨[.v (.pair (.slice (.int .i64)) (.pair (.slice (.pair (.int .i64) (.pair (.pair (.int .i64) (.int .i64)) (.int .i64)))) (.pair (.int .i64) (.pair (.int .i64) (.int .i64))))) true], [(false, [⟨.slice (.str), some (true, false)⟩])], none, s_TrickLines_c, Go.Proofs.Tryd.f26.results.toList, 33, s_TrickLines_h⟩
/-! ### i_CardOf -/
noncomputable def i_CardOf_c : Code := (Go.Proofs.Tryd.f49.body).getD .skip
noncomputable def i_CardOf_h : Nat → Option (List Hint)
  | _ => none
noncomputable def i_CardOf_fi : Fi := ⟨[.v (.int .i64) false], [(false, [⟨.int .i64, none⟩])], none, i_CardOf_c, Go.Proofs.Tryd.f49.results.toList, 10, i_CardOf_h⟩
/-! ### i_PacketOk -/
noncomputable def i_PacketOk_c : Code := (Go.Proofs.Tryd.f64.body).getD .skip
noncomputable def i_PacketOk_h : Nat → Option (List Hint)
  | 3 => some [.arr 3 400003, .keep 7, .keep 8, .keep 9]
  | _ => none
noncomputable def i_PacketOk_fi : Fi := ⟨[.v (.slice (.int .i64)) false], [(false, [⟨.bool, none⟩])], none, i_PacketOk_c, Go.Proofs.Tryd.f64.results.toList, 25, i_PacketOk_h⟩
/-! ### i_MoveOk -/
noncomputable def i_MoveOk_c : Code := (Go.Proofs.Tryd.f147.body).getD .skip
noncomputable def i_MoveOk_h : Nat → Option (List Hint)
  | _ => none
noncomputable def i_MoveOk_fi : Fi := ⟨[.v (.int .i64) false, .v (.pair (.int .i64) (.int .i64)) true], [(false, [⟨.bool, none⟩])], none, i_MoveOk_c, Go.Proofs.Tryd.f147.results.toList, 45, i_MoveOk_h⟩
/-! ### i_StepOk -/
noncomputable def i_StepOk_c : Code := (Go.Proofs.Tryd.f119.body).getD .skip
noncomputable def i_StepOk_h : Nat → Option (List Hint)
  | _ => none
noncomputable def i_StepOk_fi : Fi := ⟨[.v (.int .i64) false, .v (.pair (.int .i64) (.pair (.pair (.int .i64) (.int .i64)) (.int .i64))) true], [(false, [⟨.bool, none⟩])], none, i_StepOk_c, Go.Proofs.Tryd.f119.results.toList, 75, i_StepOk_h⟩
/-! ### i_PositionOf_1 -/
noncomputable def i_PositionOf_1_c : Code := (Go.Proofs.Tryd.f101.body).getD .skip
noncomputable def i_PositionOf_1_h : Nat → Option (List Hint)
  | _ => none
noncomputable def i_PositionOf_1_fi : Fi := ⟨[.v (.int .i64) false, .r (.int .i64)], [(false, [⟨.bool, none⟩])], none, i_PositionOf_1_c, Go.Proofs.Tryd.f101.results.toList, 8, i_PositionOf_1_h⟩
/-! ### slices_IndexFunc_int_of_i_PositionOf_1 -/
noncomputable def slices_IndexFunc_int_of_i_PositionOf_1_c : Code := (Go.Proofs.Tryd.f100.body).getD .skip
noncomputable def slices_IndexFunc_int_of_i_PositionOf_1_h : Nat → Option (List Hint)
  | 2 => some [.keep 0, .keep 1, .keep 7, .keep 8]
  | _ => none
noncomputable def slices_IndexFunc_int_of_i_PositionOf_1_fi : Fi := ⟨[.v (.slice (.int .i64)) false, .fn 101 [.int .i64]], [(false, [⟨.int .i64, none⟩])], none, slices_IndexFunc_int_of_i_PositionOf_1_c, Go.Proofs.Tryd.f100.results.toList, 19, slices_IndexFunc_int_of_i_PositionOf_1_h⟩
/-! ### i_PositionOf -/
noncomputable def i_PositionOf_c : Code := (Go.Proofs.Tryd.f53.body).getD .skip
noncomputable def i_PositionOf_h : Nat → Option (List Hint)
  | _ => none
noncomputable def i_PositionOf_fi : Fi := ⟨[.v (.slice (.int .i64)) false, .v (.int .i64) false], [(false, [⟨.int .i64, none⟩])], none, i_PositionOf_c, Go.Proofs.Tryd.f53.results.toList, 10, i_PositionOf_h⟩
/-! ### i_TrickOk -/
noncomputable def i_TrickOk_c : Code := (Go.Proofs.Tryd.f78.body).getD .skip
noncomputable def i_TrickOk_h : Nat → Option (List Hint)
  | 6 => some [.box 1 200001 [.keep, .keep, .keep, .keep, .keep], .keep 3, .keep 4, .keep 25, .keep 26, .keep 27]
  | _ => none
noncomputable def i_TrickOk_fi : Fi := ⟨[.v (.pair (.slice (.int .i64)) (.pair (.slice (.pair (.int .i64) (.pair (.pair (.int .i64) (.int .i64)) (.int .i64)))) (.pair (.int .i64) (.pair (.int .i64) (.int .i64))))) true], [(false, [⟨.bool, none⟩])], none, i_TrickOk_c, Go.Proofs.Tryd.f78.results.toList, 109, i_TrickOk_h⟩
/-! ### strconv_Itoa -/
noncomputable abbrev strconv_Itoa_fi : Fi := itoaFi
/-! ### i_FormatInt -/
noncomputable def i_FormatInt_c : Code := (Go.Proofs.Tryd.f57.body).getD .skip
noncomputable def i_FormatInt_h : Nat → Option (List Hint)
  | _ => none
noncomputable def i_FormatInt_fi : Fi := ⟨[.v (.int .i64) false], [(false, [⟨.str, none⟩])], none, i_FormatInt_c, Go.Proofs.Tryd.f57.results.toList, 5, i_FormatInt_h⟩
/-! ### i_IsUp -/
noncomputable def i_IsUp_c : Code := (Go.Proofs.Tryd.f122.body).getD .skip
noncomputable def i_IsUp_h : Nat → Option (List Hint)
  | _ => none
noncomputable def i_IsUp_fi : Fi := ⟨[.v (.int .i64) false], [(false, [⟨.bool, none⟩])], none, i_IsUp_c, Go.Proofs.Tryd.f122.results.toList, 10, i_IsUp_h⟩
/-! ### strings_Join -/
noncomputable abbrev strings_Join_fi : Fi := joinFi
/-! ### i_Join -/
noncomputable def i_Join_c : Code := (Go.Proofs.Tryd.f123.body).getD .skip
noncomputable def i_Join_h : Nat → Option (List Hint)
  | _ => none
noncomputable def i_Join_fi : Fi := ⟨[.v (.slice (.str)) false, .v (.str) false], [(false, [⟨.str, none⟩])], none, i_Join_c, Go.Proofs.Tryd.f123.results.toList, 8, i_Join_h⟩
/-! ### i_FormatPacket -/
noncomputable def i_FormatPacket_c : Code := (Go.Proofs.Tryd.f79.body).getD .skip
noncomputable def i_FormatPacket_h : Nat → Option (List Hint)
  | 7 => some [.cell 3 (.row 100003 (.str) true true), .keep 13, .keep 14, .keep 15]
  | _ => none
noncomputable def i_FormatPacket_fi : Fi := ⟨[.v (.slice (.int .i64)) false], [(false, [⟨.str, none⟩])], none, i_FormatPacket_c, Go.Proofs.Tryd.f79.results.toList, 33, i_FormatPacket_h⟩
/-! ### i_moveNames -/
noncomputable def i_moveNames_c : Code := (Go.Proofs.Tryd.f146.body).getD .skip
noncomputable def i_moveNames_h : Nat → Option (List Hint)
  | _ => none
noncomputable def i_moveNames_fi : Fi := ⟨[], [(false, [⟨.slice (.str), some (true, false)⟩])], none, i_moveNames_c, Go.Proofs.Tryd.f146.results.toList, 2, i_moveNames_h⟩
/-! ### i_MoveName -/
noncomputable def i_MoveName_c : Code := (Go.Proofs.Tryd.f148.body).getD .skip
noncomputable def i_MoveName_h : Nat → Option (List Hint)
  | _ => none
noncomputable def i_MoveName_fi : Fi := ⟨[.v (.int .i64) false], [(false, [⟨.str, none⟩])], none, i_MoveName_c, Go.Proofs.Tryd.f148.results.toList, 14, i_MoveName_h⟩
/-! ### i_FormatMove -/
noncomputable def i_FormatMove_c : Code := (Go.Proofs.Tryd.f118.body).getD .skip
noncomputable def i_FormatMove_h : Nat → Option (List Hint)
  | _ => none
noncomputable def i_FormatMove_fi : Fi := ⟨[.v (.pair (.int .i64) (.int .i64)) true], [(false, [⟨.str, none⟩])], none, i_FormatMove_c, Go.Proofs.Tryd.f118.results.toList, 14, i_FormatMove_h⟩
/-! ### i_ChoiceName -/
noncomputable def i_ChoiceName_c : Code := (Go.Proofs.Tryd.f69.body).getD .skip
noncomputable def i_ChoiceName_h : Nat → Option (List Hint)
  | _ => none
noncomputable def i_ChoiceName_fi : Fi := ⟨[.v (.int .i64) false], [(false, [⟨.str, none⟩])], none, i_ChoiceName_c, Go.Proofs.Tryd.f69.results.toList, 13, i_ChoiceName_h⟩
/-! ### i_FormatStep -/
noncomputable def i_FormatStep_c : Code := (Go.Proofs.Tryd.f70.body).getD .skip
noncomputable def i_FormatStep_h : Nat → Option (List Hint)
  | _ => none
noncomputable def i_FormatStep_fi : Fi := ⟨[.v (.pair (.int .i64) (.pair (.pair (.int .i64) (.int .i64)) (.int .i64))) true], [(false, [⟨.str, none⟩])], none, i_FormatStep_c, Go.Proofs.Tryd.f70.results.toList, 29, i_FormatStep_h⟩
/-! ### i_FormatClaim -/
noncomputable def i_FormatClaim_c : Code := (Go.Proofs.Tryd.f80.body).getD .skip
noncomputable def i_FormatClaim_h : Nat → Option (List Hint)
  | _ => none
noncomputable def i_FormatClaim_fi : Fi := ⟨[.v (.pair (.slice (.int .i64)) (.pair (.slice (.pair (.int .i64) (.pair (.pair (.int .i64) (.int .i64)) (.int .i64)))) (.pair (.int .i64) (.pair (.int .i64) (.int .i64))))) true], [(false, [⟨.str, none⟩])], none, i_FormatClaim_c, Go.Proofs.Tryd.f80.results.toList, 32, i_FormatClaim_h⟩
/-! ### i_TrickLines -/
noncomputable def i_TrickLines_c : Code := (Go.Proofs.Tryd.f28.body).getD .skip
noncomputable def i_TrickLines_h : Nat → Option (List Hint)
  | 5 => some [.box 1 200001 [.keep, .keep, .keep, .keep, .keep], .cell 3 (.row 100003 (.str) true false), .keep 15, .keep 16, .keep 17]
  | _ => none
noncomputable def i_TrickLines_fi : Fi := ⟨[.v (.pair (.slice (.int .i64)) (.pair (.slice (.pair (.int .i64) (.pair (.pair (.int .i64) (.int .i64)) (.int .i64)))) (.pair (.int .i64) (.pair (.int .i64) (.int .i64))))) true], [(false, [⟨.slice (.str), some (true, false)⟩])], none, i_TrickLines_c, Go.Proofs.Tryd.f28.results.toList, 33, i_TrickLines_h⟩
/-! ### w_eqStringS -/
noncomputable def w_eqStringS_c : Code := (Go.Proofs.Tryd.f29.body).getD .skip
noncomputable def w_eqStringS_h : Nat → Option (List Hint)
  | 4 => some [.keep 0, .keep 1, .keep 5]
  | _ => none
noncomputable def w_eqStringS_fi : Fi := ⟨[.v (.slice (.str)) false, .v (.slice (.str)) false], [(false, [⟨.bool, none⟩])], none, w_eqStringS_c, Go.Proofs.Tryd.f29.results.toList, 26, w_eqStringS_h⟩
/-! ### w_eqIntS -/
noncomputable def w_eqIntS_c : Code := (Go.Proofs.Tryd.f19.body).getD .skip
noncomputable def w_eqIntS_h : Nat → Option (List Hint)
  | 4 => some [.keep 0, .keep 1, .keep 5]
  | _ => none
noncomputable def w_eqIntS_fi : Fi := ⟨[.v (.slice (.int .i64)) false, .v (.slice (.int .i64)) false], [(false, [⟨.bool, none⟩])], none, w_eqIntS_c, Go.Proofs.Tryd.f19.results.toList, 26, w_eqIntS_h⟩
/-! ### w_eqMove -/
noncomputable def w_eqMove_c : Code := (Go.Proofs.Tryd.f71.body).getD .skip
noncomputable def w_eqMove_h : Nat → Option (List Hint)
  | _ => none
noncomputable def w_eqMove_fi : Fi := ⟨[.v (.pair (.int .i64) (.int .i64)) true, .v (.pair (.int .i64) (.int .i64)) true], [(false, [⟨.bool, none⟩])], none, w_eqMove_c, Go.Proofs.Tryd.f71.results.toList, 15, w_eqMove_h⟩
/-! ### w_eqStep -/
noncomputable def w_eqStep_c : Code := (Go.Proofs.Tryd.f24.body).getD .skip
noncomputable def w_eqStep_h : Nat → Option (List Hint)
  | _ => none
noncomputable def w_eqStep_fi : Fi := ⟨[.v (.pair (.int .i64) (.pair (.pair (.int .i64) (.int .i64)) (.int .i64))) true, .v (.pair (.int .i64) (.pair (.pair (.int .i64) (.int .i64)) (.int .i64))) true], [(false, [⟨.bool, none⟩])], none, w_eqStep_c, Go.Proofs.Tryd.f24.results.toList, 21, w_eqStep_h⟩
/-! ### w_eqStepS -/
noncomputable def w_eqStepS_c : Code := (Go.Proofs.Tryd.f81.body).getD .skip
noncomputable def w_eqStepS_h : Nat → Option (List Hint)
  | 4 => some [.keep 0, .keep 1, .keep 5]
  | _ => none
noncomputable def w_eqStepS_fi : Fi := ⟨[.v (.slice (.pair (.int .i64) (.pair (.pair (.int .i64) (.int .i64)) (.int .i64)))) false, .v (.slice (.pair (.int .i64) (.pair (.pair (.int .i64) (.int .i64)) (.int .i64)))) false], [(false, [⟨.bool, none⟩])], none, w_eqStepS_c, Go.Proofs.Tryd.f81.results.toList, 27, w_eqStepS_h⟩
/-! ### w_eqTrick -/
noncomputable def w_eqTrick_c : Code := (Go.Proofs.Tryd.f30.body).getD .skip
noncomputable def w_eqTrick_h : Nat → Option (List Hint)
  | _ => none
noncomputable def w_eqTrick_fi : Fi := ⟨[.v (.pair (.slice (.int .i64)) (.pair (.slice (.pair (.int .i64) (.pair (.pair (.int .i64) (.int .i64)) (.int .i64)))) (.pair (.int .i64) (.pair (.int .i64) (.int .i64))))) true, .v (.pair (.slice (.int .i64)) (.pair (.slice (.pair (.int .i64) (.pair (.pair (.int .i64) (.int .i64)) (.int .i64)))) (.pair (.int .i64) (.pair (.int .i64) (.int .i64))))) true], [(false, [⟨.bool, none⟩])], none, w_eqTrick_c, Go.Proofs.Tryd.f30.results.toList, 32, w_eqTrick_h⟩
/-! ### w_markIntS -/
noncomputable def w_markIntS_c : Code := (Go.Proofs.Tryd.f20.body).getD .skip
noncomputable def w_markIntS_h : Nat → Option (List Hint)
  | 2 => some [.cell 0 (.row 500000 (.int .i64) true false), .keep 1, .keep 5]
  | _ => none
noncomputable def w_markIntS_fi : Fi := ⟨[.o [.o (.int .i64) true] false, .v (.int .i64) false], [(false, [⟨.int .i64, none⟩])], none, w_markIntS_c, Go.Proofs.Tryd.f20.results.toList, 19, w_markIntS_h⟩
/-! ### w_markStepS -/
noncomputable def w_markStepS_c : Code := (Go.Proofs.Tryd.f82.body).getD .skip
noncomputable def w_markStepS_h : Nat → Option (List Hint)
  | 2 => some [.cell 0 (.row 500000 (.pair (.int .i64) (.pair (.pair (.int .i64) (.int .i64)) (.int .i64))) true false), .keep 1, .keep 5]
  | _ => none
noncomputable def w_markStepS_fi : Fi := ⟨[.o [.o (.pair (.int .i64) (.pair (.pair (.int .i64) (.int .i64)) (.int .i64))) true] false, .v (.int .i64) false], [(false, [⟨.int .i64, none⟩])], none, w_markStepS_c, Go.Proofs.Tryd.f82.results.toList, 43, w_markStepS_h⟩
/-! ### w_markTrick -/
noncomputable def w_markTrick_c : Code := (Go.Proofs.Tryd.f31.body).getD .skip
noncomputable def w_markTrick_h : Nat → Option (List Hint)
  | _ => none
noncomputable def w_markTrick_fi : Fi := ⟨[.o [.o (.int .i64) true, .o (.pair (.int .i64) (.pair (.pair (.int .i64) (.int .i64)) (.int .i64))) true, .v (.int .i64), .v (.int .i64), .v (.int .i64)] true, .v (.int .i64) false], [(false, [⟨.int .i64, none⟩])], none, w_markTrick_c, Go.Proofs.Tryd.f31.results.toList, 14, w_markTrick_h⟩
/-! ### w_markText -/
noncomputable def w_markText_c : Code := (Go.Proofs.Tryd.f83.body).getD .skip
noncomputable def w_markText_h : Nat → Option (List Hint)
  | 4 => some [.keep 0, .keep 3]
  | _ => none
noncomputable def w_markText_fi : Fi := ⟨[.v (.int .i64) false], [(false, [⟨.str, none⟩])], none, w_markText_c, Go.Proofs.Tryd.f83.results.toList, 20, w_markText_h⟩
/-! ### w_markStringS -/
noncomputable def w_markStringS_c : Code := (Go.Proofs.Tryd.f32.body).getD .skip
noncomputable def w_markStringS_h : Nat → Option (List Hint)
  | 2 => some [.cell 0 (.row 500000 (.str) true false), .keep 1, .keep 5]
  | _ => none
noncomputable def w_markStringS_fi : Fi := ⟨[.o [.o (.str) true] false, .v (.int .i64) false], [(false, [⟨.int .i64, none⟩])], none, w_markStringS_c, Go.Proofs.Tryd.f32.results.toList, 20, w_markStringS_h⟩
/-! ### w_heldStringS -/
noncomputable def w_heldStringS_c : Code := (Go.Proofs.Tryd.f33.body).getD .skip
noncomputable def w_heldStringS_h : Nat → Option (List Hint)
  | 2 => some [.keep 0, .keep 1, .keep 5]
  | _ => none
noncomputable def w_heldStringS_fi : Fi := ⟨[.v (.slice (.str)) false, .v (.int .i64) false], [(false, [⟨.int .i64, none⟩])], none, w_heldStringS_c, Go.Proofs.Tryd.f33.results.toList, 22, w_heldStringS_h⟩
/-! ### w_FnExactTrickLines -/
noncomputable def w_FnExactTrickLines_c : Code := (Go.Proofs.Tryd.f6.body).getD .skip
noncomputable def w_FnExactTrickLines_h : Nat → Option (List Hint)
  | _ => none
noncomputable def w_FnExactTrickLines_fi : Fi := ⟨[.v (.pair (.slice (.int .i64)) (.pair (.slice (.pair (.int .i64) (.pair (.pair (.int .i64) (.int .i64)) (.int .i64)))) (.pair (.int .i64) (.pair (.int .i64) (.int .i64))))) true], [(false, [⟨.bool, none⟩])], none, w_FnExactTrickLines_c, Go.Proofs.Tryd.f6.results.toList, 69, w_FnExactTrickLines_h⟩

noncomputable def fnL : List (Nat × List Nat × Fi) := [(72, [], w_szIntS_fi),
  (73, [], w_szStepS_fi),
  (25, [], w_szTrick_fi),
  (76, [], w_toIntS_fi),
  (150, [], w_toMove_fi),
  (121, [], w_toStep_fi),
  (77, [], w_toStepS_fi),
  (27, [], w_toTrick_fi),
  (60, [], s_l01In_fi),
  (109, [], s_CardOf_fi),
  (137, [], s_l02Has_fi),
  (108, [], s_PacketOk_fi),
  (142, [], s_MoveOk_fi),
  (144, [], s_l16Choice_fi),
  (116, [], s_StepOk_fi),
  (149, [], s_PositionOf_fi),
  (120, [], s_l16Claim_fi),
  (74, [], s_TrickOk_fi),
  (107, [], s_FormatInt_fi),
  (110, [], s_IsUp_fi),
  (111, [], s_Join_fi),
  (61, [], s_FormatPacket_fi),
  (65, [], s_ChoiceName_fi),
  (141, [], s_l04Names_fi),
  (143, [], s_MoveName_fi),
  (115, [], s_FormatMove_fi),
  (67, [], s_FormatStep_fi),
  (75, [], s_FormatClaim_fi),
  (26, [], s_TrickLines_fi),
  (49, [], i_CardOf_fi),
  (64, [], i_PacketOk_fi),
  (147, [], i_MoveOk_fi),
  (119, [], i_StepOk_fi),
  (101, [], i_PositionOf_1_fi),
  (100, [101], slices_IndexFunc_int_of_i_PositionOf_1_fi),
  (53, [], i_PositionOf_fi),
  (78, [], i_TrickOk_fi),
  (105, [], strconv_Itoa_fi),
  (57, [], i_FormatInt_fi),
  (122, [], i_IsUp_fi),
  (151, [], strings_Join_fi),
  (123, [], i_Join_fi),
  (79, [], i_FormatPacket_fi),
  (146, [], i_moveNames_fi),
  (148, [], i_MoveName_fi),
  (118, [], i_FormatMove_fi),
  (69, [], i_ChoiceName_fi),
  (70, [], i_FormatStep_fi),
  (80, [], i_FormatClaim_fi),
  (28, [], i_TrickLines_fi),
  (29, [], w_eqStringS_fi),
  (19, [], w_eqIntS_fi),
  (71, [], w_eqMove_fi),
  (24, [], w_eqStep_fi),
  (81, [], w_eqStepS_fi),
  (30, [], w_eqTrick_fi),
  (20, [], w_markIntS_fi),
  (82, [], w_markStepS_fi),
  (31, [], w_markTrick_fi),
  (83, [], w_markText_fi),
  (32, [], w_markStringS_fi),
  (33, [], w_heldStringS_fi),
  (6, [], w_FnExactTrickLines_fi)]
noncomputable def E : Env := ⟨lookT tyL, lookF fnL⟩

noncomputable def w_szIntS (k : Nat) (x : (List Int) × Int) : Option (Int) := aFn E w_szIntS_fi k x
noncomputable def w_szStepS (k : Nat) (x : (List (Int × (Int × Int) × Int)) × Int) : Option (Int) := aFn E w_szStepS_fi k x
noncomputable def w_szTrick (k : Nat) (x : ((List Int) × (List (Int × (Int × Int) × Int)) × Int × Int × Int) × Int) : Option (Int) := aFn E w_szTrick_fi k x
noncomputable def w_toIntS (k : Nat) (x : List Int) : Option (List Int) := aFn E w_toIntS_fi k x
noncomputable def w_toIntS_l3 (k : Nat) (v0 : List Int) (v4 : Int) (o100003 : List Int) : Option (List Int) := aRun E k w_toIntS_fi.rs (ioOf w_toIntS_fi.ps) w_toIntS_fi.res w_toIntS_fi.hints [.code (sub w_toIntS_c [1, 1, 0, 1, 0, 0, 0, 0]), .code (sub w_toIntS_c [1, 1, 0, 1, 0, 0, 0, 1]), .code (sub w_toIntS_c [1, 1, 0, 1, 0, 0, 1]), .inLoop (sub w_toIntS_c [1, 1, 0, 1, 0, 0]), .inBlock 0, .code (sub w_toIntS_c [1, 1, 1])] ⟨[.cv (.val (.slice (.int .i64)) v0), .cv .dead, .cv .dead, .cv (.own 100003), .cv (.val (.int .i64) v4), .cv .dead, .cv .dead, .cv .dead, .cv .dead, .cv .dead, .cv .dead, .cv .dead, .cv .dead, .cv .dead, .cv .dead, .cv .dead, .cv .dead, .cv .dead, .cv .dead, .cv .dead, .cv .dead, .cv .dead], [(100003, .row (.int .i64) o100003 true false)], true⟩
noncomputable def w_toMove (k : Nat) (x : Int × Int) : Option (Int × Int) := aFn E w_toMove_fi k x
noncomputable def w_toStep (k : Nat) (x : Int × (Int × Int) × Int) : Option (Int × Int × Int × Int) := aFn E w_toStep_fi k x
noncomputable def w_toStepS (k : Nat) (x : List (Int × (Int × Int) × Int)) : Option (List (Int × (Int × Int) × Int)) := aFn E w_toStepS_fi k x
noncomputable def w_toStepS_l3 (k : Nat) (v0 : List (Int × (Int × Int) × Int)) (v4 : Int) (o100003 : List (Int × (Int × Int) × Int)) : Option (List (Int × (Int × Int) × Int)) := aRun E k w_toStepS_fi.rs (ioOf w_toStepS_fi.ps) w_toStepS_fi.res w_toStepS_fi.hints [.code (sub w_toStepS_c [1, 1, 0, 1, 0, 0, 0, 0]), .code (sub w_toStepS_c [1, 1, 0, 1, 0, 0, 0, 1]), .code (sub w_toStepS_c [1, 1, 0, 1, 0, 0, 1]), .inLoop (sub w_toStepS_c [1, 1, 0, 1, 0, 0]), .inBlock 0, .code (sub w_toStepS_c [1, 1, 1])] ⟨[.cv (.val (.slice (.pair (.int .i64) (.pair (.pair (.int .i64) (.int .i64)) (.int .i64)))) v0), .cv .dead, .cv .dead, .cv (.own 100003), .cv (.val (.int .i64) v4), .cv .dead, .cv .dead, .cv .dead, .cv .dead, .cv .dead, .cv .dead, .cv .dead, .cv .dead, .cv .dead, .cv .dead, .cv .dead, .cv .dead, .cv .dead, .cv .dead, .cv .dead, .cv .dead, .cv .dead, .cv .dead], [(100003, .row (.pair (.int .i64) (.pair (.pair (.int .i64) (.int .i64)) (.int .i64))) o100003 true false)], true⟩
noncomputable def w_toTrick (k : Nat) (x : (List Int) × (List (Int × (Int × Int) × Int)) × Int × Int × Int) : Option ((List Int) × (List (Int × (Int × Int) × Int)) × Int × Int × Int) := aFn E w_toTrick_fi k x
noncomputable def s_l01In (k : Nat) (x : Int × Int × Int) : Option (Bool) := aFn E s_l01In_fi k x
noncomputable def s_CardOf (k : Nat) (x : Int) : Option (Int) := aFn E s_CardOf_fi k x
noncomputable def s_l02Has (k : Nat) (x : (List Int) × Int) : Option (Bool) := aFn E s_l02Has_fi k x
noncomputable def s_l02Has_l2 (k : Nat) (v1 : Int) (v7 : List Int) (v8 : Int) (v9 : Int) : Option (Bool) := aRun E k s_l02Has_fi.rs (ioOf s_l02Has_fi.ps) s_l02Has_fi.res s_l02Has_fi.hints [.code (sub s_l02Has_c [1, 0, 1, 0, 0, 0]), .code (sub s_l02Has_c [1, 0, 1, 0, 0, 1]), .inLoop (sub s_l02Has_c [1, 0, 1, 0, 0]), .inBlock 0, .code (sub s_l02Has_c [1, 1])] ⟨[.cv .dead, .cv (.val (.int .i64) v1), .cv .dead, .cv .dead, .cv .dead, .cv .dead, .cv .dead, .cv (.val (.slice (.int .i64)) v7), .cv (.val (.int .i64) v8), .cv (.val (.int .i64) v9), .cv .dead, .cv .dead, .cv .dead, .cv .dead, .cv .dead, .cv .dead, .cv .dead], [], true⟩
noncomputable def s_PacketOk (k : Nat) (x : List Int) : Option (Bool) := aFn E s_PacketOk_fi k x
noncomputable def s_PacketOk_l5 (k : Nat) (v11 : List Int) (v12 : Int) (v13 : Int) (o100003 : List Int) : Option (Bool) := aRun E k s_PacketOk_fi.rs (ioOf s_PacketOk_fi.ps) s_PacketOk_fi.res s_PacketOk_fi.hints [.code (sub s_PacketOk_c [1, 1, 1, 0, 1, 0, 0, 0]), .code (sub s_PacketOk_c [1, 1, 1, 0, 1, 0, 0, 1]), .inLoop (sub s_PacketOk_c [1, 1, 1, 0, 1, 0, 0]), .inBlock 0, .code (sub s_PacketOk_c [1, 1, 1, 1])] ⟨[.cv .dead, .cv .dead, .cv .dead, .cv (.own 100003), .cv .dead, .cv .dead, .cv .dead, .cv .dead, .cv .dead, .cv .dead, .cv .dead, .cv (.val (.slice (.int .i64)) v11), .cv (.val (.int .i64) v12), .cv (.val (.int .i64) v13), .cv .dead, .cv .dead, .cv .dead, .cv .dead, .cv .dead, .cv .dead, .cv .dead, .cv .dead, .cv .dead, .cv .dead, .cv .dead, .cv .dead, .cv .dead, .cv .dead, .cv .dead, .cv .dead, .cv .dead], [(100003, .row (.int .i64) o100003 true false)], true⟩
noncomputable def s_MoveOk (k : Nat) (x : Int × Int × Int) : Option (Bool) := aFn E s_MoveOk_fi k x
noncomputable def s_l16Choice (k : Nat) (x : Int × Int) : Option (Bool) := aFn E s_l16Choice_fi k x
noncomputable def s_StepOk (k : Nat) (x : Int × Int × (Int × Int) × Int) : Option (Bool) := aFn E s_StepOk_fi k x
noncomputable def s_PositionOf (k : Nat) (x : (List Int) × Int) : Option (Int) := aFn E s_PositionOf_fi k x
noncomputable def s_PositionOf_l2 (k : Nat) (v1 : Int) (v7 : List Int) (v8 : Int) (v9 : Int) : Option (Int) := aRun E k s_PositionOf_fi.rs (ioOf s_PositionOf_fi.ps) s_PositionOf_fi.res s_PositionOf_fi.hints [.code (sub s_PositionOf_c [1, 0, 1, 0, 0, 0]), .code (sub s_PositionOf_c [1, 0, 1, 0, 0, 1]), .inLoop (sub s_PositionOf_c [1, 0, 1, 0, 0]), .inBlock 0, .code (sub s_PositionOf_c [1, 1])] ⟨[.cv .dead, .cv (.val (.int .i64) v1), .cv .dead, .cv .dead, .cv .dead, .cv .dead, .cv .dead, .cv (.val (.slice (.int .i64)) v7), .cv (.val (.int .i64) v8), .cv (.val (.int .i64) v9), .cv .dead, .cv .dead, .cv .dead, .cv .dead, .cv .dead, .cv .dead, .cv .dead, .cv .dead, .cv .dead, .cv .dead, .cv .dead, .cv .dead, .cv .dead, .cv .dead], [], true⟩
noncomputable def s_l16Claim (k : Nat) (x : ((List Int) × (List (Int × (Int × Int) × Int)) × Int × Int × Int) × Int × Bool) : Option (Bool) := aFn E s_l16Claim_fi k x
noncomputable def s_TrickOk (k : Nat) (x : (List Int) × (List (Int × (Int × Int) × Int)) × Int × Int × Int) : Option (Bool) := aFn E s_TrickOk_fi k x
noncomputable def s_TrickOk_l6 (k : Nat) (v3 : Int) (v4 : Bool) (v25 : List (Int × (Int × Int) × Int)) (v26 : Int) (v27 : Int) (o200001_0 : List Int) (o200001_1 : List (Int × (Int × Int) × Int)) (o200001_2 : Int) (o200001_3 : Int) (o200001_4 : Int) : Option (Bool) := aRun E k s_TrickOk_fi.rs (ioOf s_TrickOk_fi.ps) s_TrickOk_fi.res s_TrickOk_fi.hints [.code (sub s_TrickOk_c [1, 1, 1, 1, 0, 1, 0, 0, 0]), .code (sub s_TrickOk_c [1, 1, 1, 1, 0, 1, 0, 0, 1]), .inLoop (sub s_TrickOk_c [1, 1, 1, 1, 0, 1, 0, 0]), .inBlock 0, .code (sub s_TrickOk_c [1, 1, 1, 1, 1])] ⟨[.cv .dead, .adr 200001 0, .cv .dead, .cv (.val (.int .i64) v3), .cv (.val (.bool) v4), .cv .dead, .cv .dead, .cv .dead, .cv .dead, .cv .dead, .cv .dead, .cv .dead, .cv .dead, .cv .dead, .cv .dead, .cv .dead, .cv .dead, .cv .dead, .cv .dead, .cv .dead, .cv .dead, .cv .dead, .cv .dead, .cv .dead, .cv .dead, .cv (.val (.slice (.pair (.int .i64) (.pair (.pair (.int .i64) (.int .i64)) (.int .i64)))) v25), .cv (.val (.int .i64) v26), .cv (.val (.int .i64) v27), .cv .dead, .cv .dead, .cv .dead, .cv .dead, .cv .dead, .cv .dead, .cv .dead, .cv .dead, .cv .dead, .cv .dead, .cv .dead, .cv .dead, .cv .dead, .cv .dead, .cv .dead, .cv .dead, .cv .dead, .cv .dead], [(200001, .box [.val (.slice (.int .i64)) o200001_0, .val (.slice (.pair (.int .i64) (.pair (.pair (.int .i64) (.int .i64)) (.int .i64)))) o200001_1, .val (.int .i64) o200001_2, .val (.int .i64) o200001_3, .val (.int .i64) o200001_4])], true⟩
noncomputable def s_FormatInt (k : Nat) (x : Int) : Option (ByteArray) := aFn E s_FormatInt_fi k x
noncomputable def s_FormatInt_l6 (k : Nat) (v0 : Int) (v3 : ByteArray) : Option (ByteArray) := aRun E k s_FormatInt_fi.rs (ioOf s_FormatInt_fi.ps) s_FormatInt_fi.res s_FormatInt_fi.hints [.code (sub s_FormatInt_c [1, 1, 1, 0, 0, 0, 0, 0]), .code (sub s_FormatInt_c [1, 1, 1, 0, 0, 0, 0, 1]), .code (sub s_FormatInt_c [1, 1, 1, 0, 0, 0, 1]), .inLoop (sub s_FormatInt_c [1, 1, 1, 0, 0, 0]), .inBlock 0, .code (sub s_FormatInt_c [1, 1, 1, 1])] ⟨[.cv (.val (.int .i64) v0), .cv .dead, .cv .dead, .cv (.val (.str) v3), .cv .dead, .cv .dead, .cv .dead, .cv .dead, .cv .dead, .cv .dead, .cv .dead, .cv .dead, .cv .dead, .cv .dead, .cv .dead, .cv .dead, .cv .dead, .cv .dead, .cv .dead, .cv .dead, .cv .dead, .cv .dead, .cv .dead, .cv .dead, .cv .dead, .cv .dead, .cv .dead, .cv .dead, .cv .dead, .cv .dead, .cv .dead, .cv .dead, .cv .dead, .cv .dead, .cv .dead, .cv .dead, .cv .dead, .cv .dead, .cv .dead, .cv .dead, .cv .dead, .cv .dead, .cv .dead, .cv .dead], [], true⟩
noncomputable def s_IsUp (k : Nat) (x : Int) : Option (Bool) := aFn E s_IsUp_fi k x
noncomputable def s_Join (k : Nat) (x : (List ByteArray) × ByteArray) : Option (ByteArray) := aFn E s_Join_fi k x
noncomputable def s_Join_l3 (k : Nat) (v1 : ByteArray) (v5 : ByteArray) (v8 : List ByteArray) (v9 : Int) (v10 : Int) : Option (ByteArray) := aRun E k s_Join_fi.rs (ioOf s_Join_fi.ps) s_Join_fi.res s_Join_fi.hints [.code (sub s_Join_c [1, 1, 0, 1, 0, 0, 0]), .code (sub s_Join_c [1, 1, 0, 1, 0, 0, 1]), .inLoop (sub s_Join_c [1, 1, 0, 1, 0, 0]), .inBlock 0, .code (sub s_Join_c [1, 1, 1])] ⟨[.cv .dead, .cv (.val (.str) v1), .cv .dead, .cv .dead, .cv .dead, .cv (.val (.str) v5), .cv .dead, .cv .dead, .cv (.val (.slice (.str)) v8), .cv (.val (.int .i64) v9), .cv (.val (.int .i64) v10), .cv .dead, .cv .dead, .cv .dead, .cv .dead, .cv .dead, .cv .dead, .cv .dead, .cv .dead, .cv .dead, .cv .dead, .cv .dead, .cv .dead, .cv .dead, .cv .dead], [], true⟩
noncomputable def s_FormatPacket (k : Nat) (x : List Int) : Option (ByteArray) := aFn E s_FormatPacket_fi k x
noncomputable def s_FormatPacket_l5 (k : Nat) (v11 : List Int) (v12 : Int) (v13 : Int) (o100003 : List ByteArray) : Option (ByteArray) := aRun E k s_FormatPacket_fi.rs (ioOf s_FormatPacket_fi.ps) s_FormatPacket_fi.res s_FormatPacket_fi.hints [.code (sub s_FormatPacket_c [1, 1, 1, 0, 1, 0, 0, 0]), .code (sub s_FormatPacket_c [1, 1, 1, 0, 1, 0, 0, 1]), .inLoop (sub s_FormatPacket_c [1, 1, 1, 0, 1, 0, 0]), .inBlock 0, .code (sub s_FormatPacket_c [1, 1, 1, 1])] ⟨[.cv .dead, .cv .dead, .cv .dead, .cv (.own 100003), .cv .dead, .cv .dead, .cv .dead, .cv .dead, .cv .dead, .cv .dead, .cv .dead, .cv (.val (.slice (.int .i64)) v11), .cv (.val (.int .i64) v12), .cv (.val (.int .i64) v13), .cv .dead, .cv .dead, .cv .dead, .cv .dead, .cv .dead, .cv .dead, .cv .dead, .cv .dead, .cv .dead, .cv .dead, .cv .dead, .cv .dead, .cv .dead, .cv .dead, .cv .dead, .cv .dead, .cv .dead, .cv .dead, .cv .dead, .cv .dead], [(100003, .row (.str) o100003 true false)], true⟩
noncomputable def s_ChoiceName (k : Nat) (x : Int) : Option (ByteArray) := aFn E s_ChoiceName_fi k x
noncomputable def s_l04Names (k : Nat) (x : Unit) : Option (List ByteArray) := aFn E s_l04Names_fi k x
noncomputable def s_MoveName (k : Nat) (x : Int) : Option (ByteArray) := aFn E s_MoveName_fi k x
noncomputable def s_FormatMove (k : Nat) (x : Int × Int) : Option (ByteArray) := aFn E s_FormatMove_fi k x
noncomputable def s_FormatStep (k : Nat) (x : Int × (Int × Int) × Int) : Option (ByteArray) := aFn E s_FormatStep_fi k x
noncomputable def s_FormatClaim (k : Nat) (x : (List Int) × (List (Int × (Int × Int) × Int)) × Int × Int × Int) : Option (ByteArray) := aFn E s_FormatClaim_fi k x
noncomputable def s_TrickLines (k : Nat) (x : (List Int) × (List (Int × (Int × Int) × Int)) × Int × Int × Int) : Option (List ByteArray) := aFn E s_TrickLines_fi k x
noncomputable def s_TrickLines_l5 (k : Nat) (v15 : List (Int × (Int × Int) × Int)) (v16 : Int) (v17 : Int) (o200001_0 : List Int) (o200001_1 : List (Int × (Int × Int) × Int)) (o200001_2 : Int) (o200001_3 : Int) (o200001_4 : Int) (o100003 : List ByteArray) : Option (List ByteArray) := aRun E k s_TrickLines_fi.rs (ioOf s_TrickLines_fi.ps) s_TrickLines_fi.res s_TrickLines_fi.hints [.code (sub s_TrickLines_c [1, 1, 1, 0, 1, 0, 0, 0]), .code (sub s_TrickLines_c [1, 1, 1, 0, 1, 0, 0, 1]), .inLoop (sub s_TrickLines_c [1, 1, 1, 0, 1, 0, 0]), .inBlock 0, .code (sub s_TrickLines_c [1, 1, 1, 1])] ⟨[.cv .dead, .adr 200001 0, .cv .dead, .cv (.own 100003), .cv .dead, .cv .dead, .cv .dead, .cv .dead, .cv .dead, .cv .dead, .cv .dead, .cv .dead, .cv .dead, .cv .dead, .cv .dead, .cv (.val (.slice (.pair (.int .i64) (.pair (.pair (.int .i64) (.int .i64)) (.int .i64)))) v15), .cv (.val (.int .i64) v16), .cv (.val (.int .i64) v17), .cv .dead, .cv .dead, .cv .dead, .cv .dead, .cv .dead, .cv .dead, .cv .dead, .cv .dead, .cv .dead, .cv .dead, .cv .dead, .cv .dead, .cv .dead, .cv .dead, .cv .dead], [(200001, .box [.val (.slice (.int .i64)) o200001_0, .val (.slice (.pair (.int .i64) (.pair (.pair (.int .i64) (.int .i64)) (.int .i64)))) o200001_1, .val (.int .i64) o200001_2, .val (.int .i64) o200001_3, .val (.int .i64) o200001_4]), (100003, .row (.str) o100003 true false)], true⟩
noncomputable def i_CardOf (k : Nat) (x : Int) : Option (Int) := aFn E i_CardOf_fi k x
noncomputable def i_PacketOk (k : Nat) (x : List Int) : Option (Bool) := aFn E i_PacketOk_fi k x
noncomputable def i_PacketOk_l3 (k : Nat) (v7 : List Int) (v8 : Int) (v9 : Int) (o400003 : List Bool) : Option (Bool) := aRun E k i_PacketOk_fi.rs (ioOf i_PacketOk_fi.ps) i_PacketOk_fi.res i_PacketOk_fi.hints [.code (sub i_PacketOk_c [1, 1, 0, 1, 0, 0, 0]), .code (sub i_PacketOk_c [1, 1, 0, 1, 0, 0, 1]), .inLoop (sub i_PacketOk_c [1, 1, 0, 1, 0, 0]), .inBlock 0, .code (sub i_PacketOk_c [1, 1, 1])] ⟨[.cv .dead, .cv .dead, .cv .dead, .adr 400003 0, .cv .dead, .cv .dead, .cv .dead, .cv (.val (.slice (.int .i64)) v7), .cv (.val (.int .i64) v8), .cv (.val (.int .i64) v9), .cv .dead, .cv .dead, .cv .dead, .cv .dead, .cv .dead, .cv .dead, .cv .dead, .cv .dead, .cv .dead, .cv .dead, .cv .dead, .cv .dead, .cv .dead, .cv .dead, .cv .dead], [(400003, .arr (.bool) o400003)], true⟩
noncomputable def i_MoveOk (k : Nat) (x : Int × Int × Int) : Option (Bool) := aFn E i_MoveOk_fi k x
noncomputable def i_StepOk (k : Nat) (x : Int × Int × (Int × Int) × Int) : Option (Bool) := aFn E i_StepOk_fi k x
noncomputable def i_PositionOf_1 (k : Nat) (x : Int × Int) : Option (Bool) := aFn E i_PositionOf_1_fi k x
noncomputable def slices_IndexFunc_int_of_i_PositionOf_1 (k : Nat) (x : (List Int) × Int) : Option (Int) := aFn E slices_IndexFunc_int_of_i_PositionOf_1_fi k x
noncomputable def slices_IndexFunc_int_of_i_PositionOf_1_l2 (k : Nat) (v0 : List Int) (v1_0_0 : Int) (v7 : Int) (v8 : Int) : Option (Int) := aRun E k slices_IndexFunc_int_of_i_PositionOf_1_fi.rs (ioOf slices_IndexFunc_int_of_i_PositionOf_1_fi.ps) slices_IndexFunc_int_of_i_PositionOf_1_fi.res slices_IndexFunc_int_of_i_PositionOf_1_fi.hints [.code (sub slices_IndexFunc_int_of_i_PositionOf_1_c [1, 0, 1, 0, 0, 0]), .code (sub slices_IndexFunc_int_of_i_PositionOf_1_c [1, 0, 1, 0, 0, 1]), .inLoop (sub slices_IndexFunc_int_of_i_PositionOf_1_c [1, 0, 1, 0, 0]), .inBlock 0, .code (sub slices_IndexFunc_int_of_i_PositionOf_1_c [1, 1])] ⟨[.cv (.val (.slice (.int .i64)) v0), .fn 101 [[.val (.int .i64) v1_0_0]], .cv .dead, .cv .dead, .cv .dead, .cv .dead, .cv .dead, .cv (.val (.int .i64) v7), .cv (.val (.int .i64) v8), .cv .dead, .cv .dead, .cv .dead, .cv .dead, .cv .dead, .cv .dead, .cv .dead, .cv .dead, .cv .dead, .cv .dead], [], true⟩
noncomputable def i_PositionOf (k : Nat) (x : (List Int) × Int) : Option (Int) := aFn E i_PositionOf_fi k x
noncomputable def i_TrickOk (k : Nat) (x : (List Int) × (List (Int × (Int × Int) × Int)) × Int × Int × Int) : Option (Bool) := aFn E i_TrickOk_fi k x
noncomputable def i_TrickOk_l6 (k : Nat) (v3 : Int) (v4 : Bool) (v25 : List (Int × (Int × Int) × Int)) (v26 : Int) (v27 : Int) (o200001_0 : List Int) (o200001_1 : List (Int × (Int × Int) × Int)) (o200001_2 : Int) (o200001_3 : Int) (o200001_4 : Int) : Option (Bool) := aRun E k i_TrickOk_fi.rs (ioOf i_TrickOk_fi.ps) i_TrickOk_fi.res i_TrickOk_fi.hints [.code (sub i_TrickOk_c [1, 1, 1, 1, 0, 1, 0, 0, 0]), .code (sub i_TrickOk_c [1, 1, 1, 1, 0, 1, 0, 0, 1]), .inLoop (sub i_TrickOk_c [1, 1, 1, 1, 0, 1, 0, 0]), .inBlock 0, .code (sub i_TrickOk_c [1, 1, 1, 1, 1])] ⟨[.cv .dead, .adr 200001 0, .cv .dead, .cv (.val (.int .i64) v3), .cv (.val (.bool) v4), .cv .dead, .cv .dead, .cv .dead, .cv .dead, .cv .dead, .cv .dead, .cv .dead, .cv .dead, .cv .dead, .cv .dead, .cv .dead, .cv .dead, .cv .dead, .cv .dead, .cv .dead, .cv .dead, .cv .dead, .cv .dead, .cv .dead, .cv .dead, .cv (.val (.slice (.pair (.int .i64) (.pair (.pair (.int .i64) (.int .i64)) (.int .i64)))) v25), .cv (.val (.int .i64) v26), .cv (.val (.int .i64) v27), .cv .dead, .cv .dead, .cv .dead, .cv .dead, .cv .dead, .cv .dead, .cv .dead, .cv .dead, .cv .dead, .cv .dead, .cv .dead, .cv .dead, .cv .dead, .cv .dead, .cv .dead, .cv .dead, .cv .dead, .cv .dead, .cv .dead, .cv .dead, .cv .dead, .cv .dead, .cv .dead, .cv .dead, .cv .dead, .cv .dead, .cv .dead, .cv .dead, .cv .dead, .cv .dead, .cv .dead, .cv .dead, .cv .dead, .cv .dead, .cv .dead, .cv .dead, .cv .dead, .cv .dead, .cv .dead, .cv .dead, .cv .dead, .cv .dead, .cv .dead, .cv .dead, .cv .dead, .cv .dead, .cv .dead, .cv .dead, .cv .dead, .cv .dead, .cv .dead, .cv .dead, .cv .dead, .cv .dead, .cv .dead, .cv .dead, .cv .dead, .cv .dead, .cv .dead, .cv .dead, .cv .dead, .cv .dead, .cv .dead, .cv .dead, .cv .dead, .cv .dead, .cv .dead, .cv .dead, .cv .dead, .cv .dead, .cv .dead, .cv .dead, .cv .dead, .cv .dead, .cv .dead, .cv .dead, .cv .dead, .cv .dead, .cv .dead, .cv .dead, .cv .dead], [(200001, .box [.val (.slice (.int .i64)) o200001_0, .val (.slice (.pair (.int .i64) (.pair (.pair (.int .i64) (.int .i64)) (.int .i64)))) o200001_1, .val (.int .i64) o200001_2, .val (.int .i64) o200001_3, .val (.int .i64) o200001_4])], true⟩
noncomputable def strconv_Itoa (k : Nat) (x : Int) : Option (ByteArray) := aFn E strconv_Itoa_fi k x
noncomputable def i_FormatInt (k : Nat) (x : Int) : Option (ByteArray) := aFn E i_FormatInt_fi k x
noncomputable def i_IsUp (k : Nat) (x : Int) : Option (Bool) := aFn E i_IsUp_fi k x
noncomputable def strings_Join (k : Nat) (x : (List ByteArray) × ByteArray) : Option (ByteArray) := aFn E strings_Join_fi k x
noncomputable def i_Join (k : Nat) (x : (List ByteArray) × ByteArray) : Option (ByteArray) := aFn E i_Join_fi k x
noncomputable def i_FormatPacket (k : Nat) (x : List Int) : Option (ByteArray) := aFn E i_FormatPacket_fi k x
noncomputable def i_FormatPacket_l7 (k : Nat) (v13 : List Int) (v14 : Int) (v15 : Int) (o100003 : List ByteArray) : Option (ByteArray) := aRun E k i_FormatPacket_fi.rs (ioOf i_FormatPacket_fi.ps) i_FormatPacket_fi.res i_FormatPacket_fi.hints [.code (sub i_FormatPacket_c [1, 1, 1, 1, 0, 1, 0, 0, 0]), .code (sub i_FormatPacket_c [1, 1, 1, 1, 0, 1, 0, 0, 1]), .inLoop (sub i_FormatPacket_c [1, 1, 1, 1, 0, 1, 0, 0]), .inBlock 0, .code (sub i_FormatPacket_c [1, 1, 1, 1, 1])] ⟨[.cv .dead, .cv .dead, .cv .dead, .cv (.own 100003), .cv .dead, .cv .dead, .cv .dead, .cv .dead, .cv .dead, .cv .dead, .cv .dead, .cv .dead, .cv .dead, .cv (.val (.slice (.int .i64)) v13), .cv (.val (.int .i64) v14), .cv (.val (.int .i64) v15), .cv .dead, .cv .dead, .cv .dead, .cv .dead, .cv .dead, .cv .dead, .cv .dead, .cv .dead, .cv .dead, .cv .dead, .cv .dead, .cv .dead, .cv .dead, .cv .dead, .cv .dead, .cv .dead, .cv .dead], [(100003, .row (.str) o100003 true true)], true⟩
noncomputable def i_moveNames (k : Nat) (x : Unit) : Option (List ByteArray) := aFn E i_moveNames_fi k x
noncomputable def i_MoveName (k : Nat) (x : Int) : Option (ByteArray) := aFn E i_MoveName_fi k x
noncomputable def i_FormatMove (k : Nat) (x : Int × Int) : Option (ByteArray) := aFn E i_FormatMove_fi k x
noncomputable def i_ChoiceName (k : Nat) (x : Int) : Option (ByteArray) := aFn E i_ChoiceName_fi k x
noncomputable def i_FormatStep (k : Nat) (x : Int × (Int × Int) × Int) : Option (ByteArray) := aFn E i_FormatStep_fi k x
noncomputable def i_FormatClaim (k : Nat) (x : (List Int) × (List (Int × (Int × Int) × Int)) × Int × Int × Int) : Option (ByteArray) := aFn E i_FormatClaim_fi k x
noncomputable def i_TrickLines (k : Nat) (x : (List Int) × (List (Int × (Int × Int) × Int)) × Int × Int × Int) : Option (List ByteArray) := aFn E i_TrickLines_fi k x
noncomputable def i_TrickLines_l5 (k : Nat) (v15 : List (Int × (Int × Int) × Int)) (v16 : Int) (v17 : Int) (o200001_0 : List Int) (o200001_1 : List (Int × (Int × Int) × Int)) (o200001_2 : Int) (o200001_3 : Int) (o200001_4 : Int) (o100003 : List ByteArray) : Option (List ByteArray) := aRun E k i_TrickLines_fi.rs (ioOf i_TrickLines_fi.ps) i_TrickLines_fi.res i_TrickLines_fi.hints [.code (sub i_TrickLines_c [1, 1, 1, 0, 1, 0, 0, 0]), .code (sub i_TrickLines_c [1, 1, 1, 0, 1, 0, 0, 1]), .inLoop (sub i_TrickLines_c [1, 1, 1, 0, 1, 0, 0]), .inBlock 0, .code (sub i_TrickLines_c [1, 1, 1, 1])] ⟨[.cv .dead, .adr 200001 0, .cv .dead, .cv (.own 100003), .cv .dead, .cv .dead, .cv .dead, .cv .dead, .cv .dead, .cv .dead, .cv .dead, .cv .dead, .cv .dead, .cv .dead, .cv .dead, .cv (.val (.slice (.pair (.int .i64) (.pair (.pair (.int .i64) (.int .i64)) (.int .i64)))) v15), .cv (.val (.int .i64) v16), .cv (.val (.int .i64) v17), .cv .dead, .cv .dead, .cv .dead, .cv .dead, .cv .dead, .cv .dead, .cv .dead, .cv .dead, .cv .dead, .cv .dead, .cv .dead, .cv .dead, .cv .dead, .cv .dead, .cv .dead], [(200001, .box [.val (.slice (.int .i64)) o200001_0, .val (.slice (.pair (.int .i64) (.pair (.pair (.int .i64) (.int .i64)) (.int .i64)))) o200001_1, .val (.int .i64) o200001_2, .val (.int .i64) o200001_3, .val (.int .i64) o200001_4]), (100003, .row (.str) o100003 true false)], true⟩
noncomputable def w_eqStringS (k : Nat) (x : (List ByteArray) × List ByteArray) : Option (Bool) := aFn E w_eqStringS_fi k x
noncomputable def w_eqStringS_l4 (k : Nat) (v0 : List ByteArray) (v1 : List ByteArray) (v5 : Int) : Option (Bool) := aRun E k w_eqStringS_fi.rs (ioOf w_eqStringS_fi.ps) w_eqStringS_fi.res w_eqStringS_fi.hints [.code (sub w_eqStringS_c [1, 1, 0, 1, 0, 0, 0, 0]), .code (sub w_eqStringS_c [1, 1, 0, 1, 0, 0, 0, 1]), .code (sub w_eqStringS_c [1, 1, 0, 1, 0, 0, 1]), .inLoop (sub w_eqStringS_c [1, 1, 0, 1, 0, 0]), .inBlock 0, .code (sub w_eqStringS_c [1, 1, 1])] ⟨[.cv (.val (.slice (.str)) v0), .cv (.val (.slice (.str)) v1), .cv .dead, .cv .dead, .cv .dead, .cv (.val (.int .i64) v5), .cv .dead, .cv .dead, .cv .dead, .cv .dead, .cv .dead, .cv .dead, .cv .dead, .cv .dead, .cv .dead, .cv .dead, .cv .dead, .cv .dead, .cv .dead, .cv .dead, .cv .dead, .cv .dead, .cv .dead, .cv .dead, .cv .dead, .cv .dead], [], true⟩
noncomputable def w_eqIntS (k : Nat) (x : (List Int) × List Int) : Option (Bool) := aFn E w_eqIntS_fi k x
noncomputable def w_eqIntS_l4 (k : Nat) (v0 : List Int) (v1 : List Int) (v5 : Int) : Option (Bool) := aRun E k w_eqIntS_fi.rs (ioOf w_eqIntS_fi.ps) w_eqIntS_fi.res w_eqIntS_fi.hints [.code (sub w_eqIntS_c [1, 1, 0, 1, 0, 0, 0, 0]), .code (sub w_eqIntS_c [1, 1, 0, 1, 0, 0, 0, 1]), .code (sub w_eqIntS_c [1, 1, 0, 1, 0, 0, 1]), .inLoop (sub w_eqIntS_c [1, 1, 0, 1, 0, 0]), .inBlock 0, .code (sub w_eqIntS_c [1, 1, 1])] ⟨[.cv (.val (.slice (.int .i64)) v0), .cv (.val (.slice (.int .i64)) v1), .cv .dead, .cv .dead, .cv .dead, .cv (.val (.int .i64) v5), .cv .dead, .cv .dead, .cv .dead, .cv .dead, .cv .dead, .cv .dead, .cv .dead, .cv .dead, .cv .dead, .cv .dead, .cv .dead, .cv .dead, .cv .dead, .cv .dead, .cv .dead, .cv .dead, .cv .dead, .cv .dead, .cv .dead, .cv .dead], [], true⟩
noncomputable def w_eqMove (k : Nat) (x : (Int × Int) × Int × Int) : Option (Bool) := aFn E w_eqMove_fi k x
noncomputable def w_eqStep (k : Nat) (x : (Int × (Int × Int) × Int) × Int × (Int × Int) × Int) : Option (Bool) := aFn E w_eqStep_fi k x
noncomputable def w_eqStepS (k : Nat) (x : (List (Int × (Int × Int) × Int)) × List (Int × (Int × Int) × Int)) : Option (Bool) := aFn E w_eqStepS_fi k x
noncomputable def w_eqStepS_l4 (k : Nat) (v0 : List (Int × (Int × Int) × Int)) (v1 : List (Int × (Int × Int) × Int)) (v5 : Int) : Option (Bool) := aRun E k w_eqStepS_fi.rs (ioOf w_eqStepS_fi.ps) w_eqStepS_fi.res w_eqStepS_fi.hints [.code (sub w_eqStepS_c [1, 1, 0, 1, 0, 0, 0, 0]), .code (sub w_eqStepS_c [1, 1, 0, 1, 0, 0, 0, 1]), .code (sub w_eqStepS_c [1, 1, 0, 1, 0, 0, 1]), .inLoop (sub w_eqStepS_c [1, 1, 0, 1, 0, 0]), .inBlock 0, .code (sub w_eqStepS_c [1, 1, 1])] ⟨[.cv (.val (.slice (.pair (.int .i64) (.pair (.pair (.int .i64) (.int .i64)) (.int .i64)))) v0), .cv (.val (.slice (.pair (.int .i64) (.pair (.pair (.int .i64) (.int .i64)) (.int .i64)))) v1), .cv .dead, .cv .dead, .cv .dead, .cv (.val (.int .i64) v5), .cv .dead, .cv .dead, .cv .dead, .cv .dead, .cv .dead, .cv .dead, .cv .dead, .cv .dead, .cv .dead, .cv .dead, .cv .dead, .cv .dead, .cv .dead, .cv .dead, .cv .dead, .cv .dead, .cv .dead, .cv .dead, .cv .dead, .cv .dead, .cv .dead], [], true⟩
noncomputable def w_eqTrick (k : Nat) (x : ((List Int) × (List (Int × (Int × Int) × Int)) × Int × Int × Int) × (List Int) × (List (Int × (Int × Int) × Int)) × Int × Int × Int) : Option (Bool) := aFn E w_eqTrick_fi k x
noncomputable def w_markIntS (k : Nat) (x : (List Int) × Int) : Option ((Int) × List Int) := aFn E w_markIntS_fi k x
noncomputable def w_markIntS_l2 (k : Nat) (v1 : Int) (v5 : Int) (o500000 : List Int) : Option ((Int) × List Int) := aRun E k w_markIntS_fi.rs (ioOf w_markIntS_fi.ps) w_markIntS_fi.res w_markIntS_fi.hints [.code (sub w_markIntS_c [1, 0, 1, 0, 0, 0, 0]), .code (sub w_markIntS_c [1, 0, 1, 0, 0, 0, 1]), .code (sub w_markIntS_c [1, 0, 1, 0, 0, 1]), .inLoop (sub w_markIntS_c [1, 0, 1, 0, 0]), .inBlock 0, .code (sub w_markIntS_c [1, 1])] ⟨[.cv (.own 500000), .cv (.val (.int .i64) v1), .cv .dead, .cv .dead, .cv .dead, .cv (.val (.int .i64) v5), .cv .dead, .cv .dead, .cv .dead, .cv .dead, .cv .dead, .cv .dead, .cv .dead, .cv .dead, .cv .dead, .cv .dead, .cv .dead, .cv .dead, .cv .dead], [(500000, .row (.int .i64) o500000 true false)], true⟩
noncomputable def w_markStepS (k : Nat) (x : (List (Int × (Int × Int) × Int)) × Int) : Option ((Int) × List (Int × (Int × Int) × Int)) := aFn E w_markStepS_fi k x
noncomputable def w_markStepS_l2 (k : Nat) (v1 : Int) (v5 : Int) (o500000 : List (Int × (Int × Int) × Int)) : Option ((Int) × List (Int × (Int × Int) × Int)) := aRun E k w_markStepS_fi.rs (ioOf w_markStepS_fi.ps) w_markStepS_fi.res w_markStepS_fi.hints [.code (sub w_markStepS_c [1, 0, 1, 0, 0, 0, 0]), .code (sub w_markStepS_c [1, 0, 1, 0, 0, 0, 1]), .code (sub w_markStepS_c [1, 0, 1, 0, 0, 1]), .inLoop (sub w_markStepS_c [1, 0, 1, 0, 0]), .inBlock 0, .code (sub w_markStepS_c [1, 1])] ⟨[.cv (.own 500000), .cv (.val (.int .i64) v1), .cv .dead, .cv .dead, .cv .dead, .cv (.val (.int .i64) v5), .cv .dead, .cv .dead, .cv .dead, .cv .dead, .cv .dead, .cv .dead, .cv .dead, .cv .dead, .cv .dead, .cv .dead, .cv .dead, .cv .dead, .cv .dead, .cv .dead, .cv .dead, .cv .dead, .cv .dead, .cv .dead, .cv .dead, .cv .dead, .cv .dead, .cv .dead, .cv .dead, .cv .dead, .cv .dead, .cv .dead, .cv .dead, .cv .dead, .cv .dead, .cv .dead, .cv .dead, .cv .dead, .cv .dead, .cv .dead, .cv .dead, .cv .dead, .cv .dead], [(500000, .row (.pair (.int .i64) (.pair (.pair (.int .i64) (.int .i64)) (.int .i64))) o500000 true false)], true⟩
noncomputable def w_markTrick (k : Nat) (x : ((List Int) × (List (Int × (Int × Int) × Int)) × Int × Int × Int) × Int) : Option ((Int) × (List Int) × List (Int × (Int × Int) × Int)) := aFn E w_markTrick_fi k x
noncomputable def w_markText (k : Nat) (x : Int) : Option (ByteArray) := aFn E w_markText_fi k x
noncomputable def w_markText_l4 (k : Nat) (v0 : Int) (v3 : ByteArray) : Option (ByteArray) := aRun E k w_markText_fi.rs (ioOf w_markText_fi.ps) w_markText_fi.res w_markText_fi.hints [.code (sub w_markText_c [1, 1, 1, 0, 0, 0, 0, 0]), .code (sub w_markText_c [1, 1, 1, 0, 0, 0, 0, 1]), .code (sub w_markText_c [1, 1, 1, 0, 0, 0, 1]), .inLoop (sub w_markText_c [1, 1, 1, 0, 0, 0]), .inBlock 0, .code (sub w_markText_c [1, 1, 1, 1])] ⟨[.cv (.val (.int .i64) v0), .cv .dead, .cv .dead, .cv (.val (.str) v3), .cv .dead, .cv .dead, .cv .dead, .cv .dead, .cv .dead, .cv .dead, .cv .dead, .cv .dead, .cv .dead, .cv .dead, .cv .dead, .cv .dead, .cv .dead, .cv .dead, .cv .dead, .cv .dead], [], true⟩
noncomputable def w_markStringS (k : Nat) (x : (List ByteArray) × Int) : Option ((Int) × List ByteArray) := aFn E w_markStringS_fi k x
noncomputable def w_markStringS_l2 (k : Nat) (v1 : Int) (v5 : Int) (o500000 : List ByteArray) : Option ((Int) × List ByteArray) := aRun E k w_markStringS_fi.rs (ioOf w_markStringS_fi.ps) w_markStringS_fi.res w_markStringS_fi.hints [.code (sub w_markStringS_c [1, 0, 1, 0, 0, 0, 0]), .code (sub w_markStringS_c [1, 0, 1, 0, 0, 0, 1]), .code (sub w_markStringS_c [1, 0, 1, 0, 0, 1]), .inLoop (sub w_markStringS_c [1, 0, 1, 0, 0]), .inBlock 0, .code (sub w_markStringS_c [1, 1])] ⟨[.cv (.own 500000), .cv (.val (.int .i64) v1), .cv .dead, .cv .dead, .cv .dead, .cv (.val (.int .i64) v5), .cv .dead, .cv .dead, .cv .dead, .cv .dead, .cv .dead, .cv .dead, .cv .dead, .cv .dead, .cv .dead, .cv .dead, .cv .dead, .cv .dead, .cv .dead, .cv .dead], [(500000, .row (.str) o500000 true false)], true⟩
noncomputable def w_heldStringS (k : Nat) (x : (List ByteArray) × Int) : Option (Int) := aFn E w_heldStringS_fi k x
noncomputable def w_heldStringS_l2 (k : Nat) (v0 : List ByteArray) (v1 : Int) (v5 : Int) : Option (Int) := aRun E k w_heldStringS_fi.rs (ioOf w_heldStringS_fi.ps) w_heldStringS_fi.res w_heldStringS_fi.hints [.code (sub w_heldStringS_c [1, 0, 1, 0, 0, 0, 0]), .code (sub w_heldStringS_c [1, 0, 1, 0, 0, 0, 1]), .code (sub w_heldStringS_c [1, 0, 1, 0, 0, 1]), .inLoop (sub w_heldStringS_c [1, 0, 1, 0, 0]), .inBlock 0, .code (sub w_heldStringS_c [1, 1])] ⟨[.cv (.val (.slice (.str)) v0), .cv (.val (.int .i64) v1), .cv .dead, .cv .dead, .cv .dead, .cv (.val (.int .i64) v5), .cv .dead, .cv .dead, .cv .dead, .cv .dead, .cv .dead, .cv .dead, .cv .dead, .cv .dead, .cv .dead, .cv .dead, .cv .dead, .cv .dead, .cv .dead, .cv .dead, .cv .dead, .cv .dead], [], true⟩
noncomputable def w_FnExactTrickLines (k : Nat) (x : (List Int) × (List (Int × (Int × Int) × Int)) × Int × Int × Int) : Option (Bool) := aFn E w_FnExactTrickLines_fi k x

theorem w_szIntS_eq (k : Nat) (x0 : List Int) (x1 : Int) : w_szIntS (k + 1) (x0, x1) =
  bif decide ((IntKind.i64.wrap (x1 - (x0.length : Int))) < (0 : Int)) then
    (some (-1 : Int))
  else (some (IntKind.i64.wrap (x1 - (x0.length : Int)))) := by kernel_rfl
theorem w_szStepS_eq (k : Nat) (x0 : List (Int × (Int × Int) × Int)) (x1 : Int) : w_szStepS (k + 1) (x0, x1) =
  bif decide ((IntKind.i64.wrap (x1 - (x0.length : Int))) < (0 : Int)) then
    (some (-1 : Int))
  else (some (IntKind.i64.wrap (x1 - (x0.length : Int)))) := by kernel_rfl
theorem w_szTrick_eq (k : Nat) (x0 : (List Int) × (List (Int × (Int × Int) × Int)) × Int × Int × Int) (x1 : Int) : w_szTrick (k + 1) (x0, x1) =
  (w_szIntS k (x0.1, x1)).bind fun y1 =>
  bif decide (y1 < (0 : Int)) then
    (some (-1 : Int))
  else ((w_szStepS k (x0.2.1, y1)).bind fun y2 =>
    bif decide (y2 < (0 : Int)) then
      (some (-1 : Int))
    else (some y2)) := by kernel_rfl
theorem w_toIntS_eq (k : Nat) (x0 : List Int) : w_toIntS (k + 1) x0 =
  bif decide (0 ≤ (x0.length : Int)) then
    (bif decide ((x0.length : Int) ≤ (rowMax : Int)) then
      (bif ((x0.length : Int) == (x0.length : Int)) then
        (w_toIntS_l3 k x0 (0 : Int) (List.replicate (x0.length : Int).toNat (0 : Int)))
      else (none))
    else (none))
  else (none) := by kernel_rfl
theorem w_toIntS_l3_eq (k : Nat) (v0 : List Int) (v4 : Int) (o100003 : List Int) : w_toIntS_l3 (k + 1) v0 v4 o100003 =
  bif decide (v4 < (v0.length : Int)) then
    (bif decide (0 ≤ v4) then
      (bif decide (v4 < (v0.length : Int)) then
        (bif decide (0 ≤ v4) then
          (bif decide (v4 < (o100003.length : Int)) then
            (bif decide (v4.toNat < o100003.length) then
              (w_toIntS_l3 k v0 (IntKind.i64.wrap (v4 + (1 : Int))) (o100003.set v4.toNat (v0.getD v4.toNat (0 : Int))))
            else (none))
          else (none))
        else (none))
      else (none))
    else (none))
  else (some o100003) := by kernel_rfl
theorem w_toMove_eq (k : Nat) (x0 : Int × Int) : w_toMove (k + 1) x0 =
  some x0 := by kernel_rfl
theorem w_toStep_eq (k : Nat) (x0 : Int × (Int × Int) × Int) : w_toStep (k + 1) x0 =
  (w_toMove k x0.2.1).bind fun y1 =>
  some (x0.1, (y1.1, (y1.2, x0.2.2))) := by kernel_rfl
theorem w_toStepS_eq (k : Nat) (x0 : List (Int × (Int × Int) × Int)) : w_toStepS (k + 1) x0 =
  bif decide (0 ≤ (x0.length : Int)) then
    (bif decide ((x0.length : Int) ≤ (rowMax : Int)) then
      (bif ((x0.length : Int) == (x0.length : Int)) then
        (w_toStepS_l3 k x0 (0 : Int) (List.replicate (x0.length : Int).toNat ((0 : Int), (((0 : Int), (0 : Int)), (0 : Int)))))
      else (none))
    else (none))
  else (none) := by kernel_rfl
theorem w_toStepS_l3_eq (k : Nat) (v0 : List (Int × (Int × Int) × Int)) (v4 : Int) (o100003 : List (Int × (Int × Int) × Int)) : w_toStepS_l3 (k + 1) v0 v4 o100003 =
  bif decide (v4 < (v0.length : Int)) then
    (bif decide (0 ≤ v4) then
      (bif decide (v4 < (v0.length : Int)) then
        ((w_toStep k ((v0.getD v4.toNat ((0 : Int), (((0 : Int), (0 : Int)), (0 : Int)))).1, ((((v0.getD v4.toNat ((0 : Int), (((0 : Int), (0 : Int)), (0 : Int)))).2).1), ((v0.getD v4.toNat ((0 : Int), (((0 : Int), (0 : Int)), (0 : Int)))).2).2))).bind fun y1 =>
        bif decide (0 ≤ v4) then
          (bif decide (v4 < (o100003.length : Int)) then
            (bif decide (v4.toNat < o100003.length) then
              (w_toStepS_l3 k v0 (IntKind.i64.wrap (v4 + (1 : Int))) (o100003.set v4.toNat (y1.1, ((y1.2.1, y1.2.2.1), y1.2.2.2))))
            else (none))
          else (none))
        else (none))
      else (none))
    else (none))
  else (some o100003) := by kernel_rfl
theorem w_toTrick_eq (k : Nat) (x0 : (List Int) × (List (Int × (Int × Int) × Int)) × Int × Int × Int) : w_toTrick (k + 1) x0 =
  (w_toIntS k x0.1).bind fun y1 =>
  (w_toStepS k x0.2.1).bind fun y2 =>
  some (y1, (y2, x0.2.2)) := by kernel_rfl
theorem s_l01In_eq (k : Nat) (x0 : Int) (x1 : Int) (x2 : Int) : s_l01In (k + 1) (x0, x1, x2) =
  bif decide (x0 ≥ x1) then
    (some (decide (x0 ≤ x2)))
  else (some false) := by kernel_rfl
theorem s_CardOf_eq (k : Nat) (x0 : Int) : s_CardOf (k + 1) x0 =
  (s_l01In k (x0, ((0 : Int), (11 : Int)))).bind fun y1 =>
  bif y1 then
    (some x0)
  else ((s_l01In k (x0, ((-12 : Int), (-1 : Int)))).bind fun y2 =>
    bif y2 then
      (some (IntKind.i64.wrap ((-1 : Int) - x0)))
    else (some (-1 : Int))) := by kernel_rfl
theorem s_l02Has_eq (k : Nat) (x0 : List Int) (x1 : Int) : s_l02Has (k + 1) (x0, x1) =
  s_l02Has_l2 k x1 x0 (x0.length : Int) (0 : Int) := by kernel_rfl
theorem s_l02Has_l2_eq (k : Nat) (v1 : Int) (v7 : List Int) (v8 : Int) (v9 : Int) : s_l02Has_l2 (k + 1) v1 v7 v8 v9 =
  bif decide (v9 < v8) then
    (bif decide (0 ≤ v9) then
      (bif decide (v9 < (v7.length : Int)) then
        (bif ((v7.getD v9.toNat (0 : Int)) == v1) then
          (some true)
        else (s_l02Has_l2 k v1 v7 v8 (IntKind.i64.wrap (v9 + (1 : Int)))))
      else (none))
    else (none))
  else (some false) := by kernel_rfl
theorem s_PacketOk_eq (k : Nat) (x0 : List Int) : s_PacketOk (k + 1) x0 =
  bif decide ((x0.length : Int) > (12 : Int)) then
    (some false)
  else (s_PacketOk_l5 k x0 (x0.length : Int) (0 : Int) ([] : List Int)) := by kernel_rfl
theorem s_PacketOk_l5_eq (k : Nat) (v11 : List Int) (v12 : Int) (v13 : Int) (o100003 : List Int) : s_PacketOk_l5 (k + 1) v11 v12 v13 o100003 =
  bif decide (v13 < v12) then
    (bif decide (0 ≤ v13) then
      (bif decide (v13 < (v11.length : Int)) then
        ((s_CardOf k (v11.getD v13.toNat (0 : Int))).bind fun y1 =>
        bif decide (y1 < (0 : Int)) then
          (some false)
        else ((s_l02Has k (o100003, y1)).bind fun y2 =>
          bif y2 then
            (some false)
          else (bif decide (o100003.length + [y1].length ≤ rowMax) then
              (s_PacketOk_l5 k v11 v12 (IntKind.i64.wrap (v13 + (1 : Int))) (o100003 ++ [y1]))
            else (none))))
      else (none))
    else (none))
  else (some true) := by kernel_rfl
theorem s_MoveOk_eq (k : Nat) (x0 : Int) (x1 : Int × Int) : s_MoveOk (k + 1) (x0, x1) =
  (s_l01In k (x0, ((1 : Int), (12 : Int)))).bind fun y1 =>
  bif (!y1) then
    (some false)
  else (bif (x1.1 == (1 : Int)) then
      ((s_l01In k (x1.2, ((0 : Int), x0))).bind fun y2 =>
      some y2)
    else (bif (x1.1 == (2 : Int)) then
        ((s_l01In k (x1.2, ((0 : Int), x0))).bind fun y3 =>
        some y3)
      else (bif (x1.1 == (3 : Int)) then
          ((s_l01In k (x1.2, ((0 : Int), x0))).bind fun y4 =>
          some y4)
        else (bif (x1.1 == (4 : Int)) then
            ((s_l01In k (x1.2, ((0 : Int), (1 : Int)))).bind fun y5 =>
            some y5)
          else (bif (x1.1 == (5 : Int)) then
              ((s_l01In k (x1.2, ((0 : Int), (1 : Int)))).bind fun y6 =>
              some y6)
            else (bif (x1.1 == (7 : Int)) then
                ((s_l01In k (x1.2, ((0 : Int), (1 : Int)))).bind fun y7 =>
                some y7)
              else (bif (x1.1 == (6 : Int)) then
                  (some (x1.2 == (0 : Int)))
                else (bif (x1.1 == (8 : Int)) then
                    ((s_l01In k (x1.2, ((0 : Int), (IntKind.i64.wrap (x0 - (1 : Int)))))).bind fun y8 =>
                    some y8)
                  else (bif (x1.1 == (9 : Int)) then
                      ((s_l01In k (x1.2, ((0 : Int), (IntKind.i64.wrap (x0 - (1 : Int)))))).bind fun y9 =>
                      some y9)
                    else (some false)))))))))) := by kernel_rfl
theorem s_l16Choice_eq (k : Nat) (x0 : Int) (x1 : Int) : s_l16Choice (k + 1) (x0, x1) =
  (s_l01In k (x1, ((0 : Int), (4 : Int)))).bind fun y1 =>
  bif y1 then
    (bif (!(x1 == (3 : Int))) then
      (bif (!(x1 == (2 : Int))) then
        (some true)
      else (some (decide (x0 ≤ (7 : Int)))))
    else (bif decide (x0 ≥ (2 : Int)) then
        (bif (!(x1 == (2 : Int))) then
          (some true)
        else (some (decide (x0 ≤ (7 : Int)))))
      else (some false)))
  else (some false) := by kernel_rfl
theorem s_StepOk_eq (k : Nat) (x0 : Int) (x1 : Int × (Int × Int) × Int) : s_StepOk (k + 1) (x0, x1) =
  (s_l01In k (x0, ((1 : Int), (12 : Int)))).bind fun y1 =>
  bif (!y1) then
    (some false)
  else (bif (x1.1 == (1 : Int)) then
      ((s_MoveOk k (x0, x1.2.1)).bind fun y2 =>
      bif y2 then
        (some (x1.2.2 == (0 : Int)))
      else (some false))
    else (bif (x1.1 == (2 : Int)) then
        (bif ((x1.2.1.1 == (0 : Int)) && ((x1.2.1.2 == (0 : Int)) && true)) then
          ((s_l16Choice k (x0, x1.2.2)).bind fun y3 =>
          some y3)
        else (some false))
      else (bif (x1.1 == (3 : Int)) then
          (bif ((x1.2.1.1 == (0 : Int)) && ((x1.2.1.2 == (0 : Int)) && true)) then
            ((s_l01In k (x1.2.2, ((0 : Int), (IntKind.i64.wrap (x0 - (1 : Int)))))).bind fun y4 =>
            some y4)
          else (some false))
        else (some false)))) := by kernel_rfl
theorem s_PositionOf_eq (k : Nat) (x0 : List Int) (x1 : Int) : s_PositionOf (k + 1) (x0, x1) =
  s_PositionOf_l2 k x1 x0 (x0.length : Int) (0 : Int) := by kernel_rfl
theorem s_PositionOf_l2_eq (k : Nat) (v1 : Int) (v7 : List Int) (v8 : Int) (v9 : Int) : s_PositionOf_l2 (k + 1) v1 v7 v8 v9 =
  bif decide (v9 < v8) then
    (bif decide (0 ≤ v9) then
      (bif decide (v9 < (v7.length : Int)) then
        ((s_CardOf k (v7.getD v9.toNat (0 : Int))).bind fun y1 =>
        bif (y1 == v1) then
          (bif decide (v1 ≥ (0 : Int)) then
            (some v9)
          else (s_PositionOf_l2 k v1 v7 v8 (IntKind.i64.wrap (v9 + (1 : Int)))))
        else (s_PositionOf_l2 k v1 v7 v8 (IntKind.i64.wrap (v9 + (1 : Int)))))
      else (none))
    else (none))
  else (some (-1 : Int)) := by kernel_rfl
theorem s_l16Claim_eq (k : Nat) (x0 : (List Int) × (List (Int × (Int × Int) × Int)) × Int × Int × Int) (x1 : Int) (x2 : Bool) : s_l16Claim (k + 1) (x0, x1, x2) =
  bif (x0.2.2.1 == (0 : Int)) then
    (bif (x0.2.2.2.1 == (0 : Int)) then
      (some (x0.2.2.2.2 == (0 : Int)))
    else (some false))
  else (bif (x0.2.2.1 == (4 : Int)) then
      (bif (x0.2.2.2.1 == (0 : Int)) then
        (some (x0.2.2.2.2 == (0 : Int)))
      else (some false))
    else (bif (x0.2.2.1 == (1 : Int)) then
        (bif x2 then
          ((s_l01In k (x0.2.2.2.1, ((0 : Int), (IntKind.i64.wrap (x1 - (1 : Int)))))).bind fun y1 =>
          bif y1 then
            (some (x0.2.2.2.2 == (0 : Int)))
          else (some false))
        else (some false))
      else (bif (x0.2.2.1 == (2 : Int)) then
          ((s_l01In k (x0.2.2.2.1, ((0 : Int), x1))).bind fun y2 =>
          bif y2 then
            (some (x0.2.2.2.2 == (0 : Int)))
          else (some false))
        else (bif (x0.2.2.1 == (3 : Int)) then
            ((s_PositionOf k (x0.1, x0.2.2.2.1)).bind fun y3 =>
            bif decide (y3 ≥ (0 : Int)) then
              ((s_l01In k (x0.2.2.2.2, ((0 : Int), (IntKind.i64.wrap (x1 - (1 : Int)))))).bind fun y4 =>
              some y4)
            else (some false))
          else (some false))))) := by kernel_rfl
theorem s_TrickOk_eq (k : Nat) (x0 : (List Int) × (List (Int × (Int × Int) × Int)) × Int × Int × Int) : s_TrickOk (k + 1) x0 =
  (s_PacketOk k x0.1).bind fun y1 =>
  bif (!y1) then
    (some false)
  else (bif ((x0.1.length : Int) == (0 : Int)) then
      (some false)
    else (bif decide ((x0.2.1.length : Int) > (12 : Int)) then
        (some false)
      else (s_TrickOk_l6 k (x0.1.length : Int) false x0.2.1 (x0.2.1.length : Int) (0 : Int) x0.1 x0.2.1 x0.2.2.1 x0.2.2.2.1 x0.2.2.2.2))) := by kernel_rfl
theorem s_TrickOk_l6_eq (k : Nat) (v3 : Int) (v4 : Bool) (v25 : List (Int × (Int × Int) × Int)) (v26 : Int) (v27 : Int) (o200001_0 : List Int) (o200001_1 : List (Int × (Int × Int) × Int)) (o200001_2 : Int) (o200001_3 : Int) (o200001_4 : Int) : s_TrickOk_l6 (k + 1) v3 v4 v25 v26 v27 o200001_0 o200001_1 o200001_2 o200001_3 o200001_4 =
  bif decide (v27 < v26) then
    (bif decide (0 ≤ v27) then
      (bif decide (v27 < (v25.length : Int)) then
        ((s_StepOk k (v3, ((v25.getD v27.toNat ((0 : Int), (((0 : Int), (0 : Int)), (0 : Int)))).1, ((((v25.getD v27.toNat ((0 : Int), (((0 : Int), (0 : Int)), (0 : Int)))).2).1), ((v25.getD v27.toNat ((0 : Int), (((0 : Int), (0 : Int)), (0 : Int)))).2).2)))).bind fun y1 =>
        bif (!y1) then
          (some false)
        else (bif v4 then
            (s_TrickOk_l6 k v3 true v25 v26 (IntKind.i64.wrap (v27 + (1 : Int))) o200001_0 o200001_1 o200001_2 o200001_3 o200001_4)
          else (s_TrickOk_l6 k v3 (((v25.getD v27.toNat ((0 : Int), (((0 : Int), (0 : Int)), (0 : Int)))).1) == (3 : Int)) v25 v26 (IntKind.i64.wrap (v27 + (1 : Int))) o200001_0 o200001_1 o200001_2 o200001_3 o200001_4)))
      else (none))
    else (none))
  else ((s_l16Claim k ((o200001_0, (o200001_1, (o200001_2, (o200001_3, o200001_4)))), (v3, v4))).bind fun y2 =>
    some y2) := by kernel_rfl
theorem s_FormatInt_eq (k : Nat) (x0 : Int) : s_FormatInt (k + 1) x0 =
  bif decide (x0 < (0 : Int)) then
    (bif ((IntKind.i64.wrap (x0.tdiv (10 : Int))) == (0 : Int)) then
      (bif decide ((⟨#[45]⟩ : ByteArray).size + (bytesStr [(IntKind.u8.wrap (IntKind.i64.wrap ((48 : Int) - x0)))]).size ≤ 9223372036854775807) then
        (some ((⟨#[45]⟩ : ByteArray) ++ (bytesStr [(IntKind.u8.wrap (IntKind.i64.wrap ((48 : Int) - x0)))])))
      else (none))
    else ((s_FormatInt k (IntKind.i64.wrap (x0.tdiv (10 : Int)))).bind fun y1 =>
      bif decide (y1.size + (bytesStr [(IntKind.u8.wrap (IntKind.i64.wrap ((48 : Int) - (x0.tmod (10 : Int)))))]).size ≤ 9223372036854775807) then
        (some (y1 ++ (bytesStr [(IntKind.u8.wrap (IntKind.i64.wrap ((48 : Int) - (x0.tmod (10 : Int)))))])))
      else (none)))
  else (s_FormatInt_l6 k x0 (⟨#[]⟩ : ByteArray)) := by kernel_rfl
theorem s_FormatInt_l6_eq (k : Nat) (v0 : Int) (v3 : ByteArray) : s_FormatInt_l6 (k + 1) v0 v3 =
  bif decide (v0 > (9 : Int)) then
    (bif decide ((bytesStr [(IntKind.u8.wrap (IntKind.i64.wrap ((48 : Int) + (v0.tmod (10 : Int)))))]).size + v3.size ≤ 9223372036854775807) then
      (s_FormatInt_l6 k (IntKind.i64.wrap (v0.tdiv (10 : Int))) ((bytesStr [(IntKind.u8.wrap (IntKind.i64.wrap ((48 : Int) + (v0.tmod (10 : Int)))))]) ++ v3))
    else (none))
  else (bif decide ((bytesStr [(IntKind.u8.wrap (IntKind.i64.wrap ((48 : Int) + v0)))]).size + v3.size ≤ 9223372036854775807) then
      (some ((bytesStr [(IntKind.u8.wrap (IntKind.i64.wrap ((48 : Int) + v0)))]) ++ v3))
    else (none)) := by kernel_rfl
theorem s_IsUp_eq (k : Nat) (x0 : Int) : s_IsUp (k + 1) x0 =
  (s_l01In k (x0, ((-12 : Int), (-1 : Int)))).bind fun y1 =>
  some y1 := by kernel_rfl
theorem s_Join_eq (k : Nat) (x0 : List ByteArray) (x1 : ByteArray) : s_Join (k + 1) (x0, x1) =
  s_Join_l3 k x1 (⟨#[]⟩ : ByteArray) x0 (x0.length : Int) (0 : Int) := by kernel_rfl
theorem s_Join_l3_eq (k : Nat) (v1 : ByteArray) (v5 : ByteArray) (v8 : List ByteArray) (v9 : Int) (v10 : Int) : s_Join_l3 (k + 1) v1 v5 v8 v9 v10 =
  bif decide (v10 < v9) then
    (bif decide (0 ≤ v10) then
      (bif decide (v10 < (v8.length : Int)) then
        (bif decide (v10 > (0 : Int)) then
          (bif decide (v5.size + v1.size ≤ 9223372036854775807) then
            (bif decide ((v5 ++ v1).size + (v8.getD v10.toNat (⟨#[]⟩ : ByteArray)).size ≤ 9223372036854775807) then
              (s_Join_l3 k v1 ((v5 ++ v1) ++ (v8.getD v10.toNat (⟨#[]⟩ : ByteArray))) v8 v9 (IntKind.i64.wrap (v10 + (1 : Int))))
            else (none))
          else (none))
        else (bif decide (v5.size + (v8.getD v10.toNat (⟨#[]⟩ : ByteArray)).size ≤ 9223372036854775807) then
            (s_Join_l3 k v1 (v5 ++ (v8.getD v10.toNat (⟨#[]⟩ : ByteArray))) v8 v9 (IntKind.i64.wrap (v10 + (1 : Int))))
          else (none)))
      else (none))
    else (none))
  else (some v5) := by kernel_rfl
theorem s_FormatPacket_eq (k : Nat) (x0 : List Int) : s_FormatPacket (k + 1) x0 =
  (s_PacketOk k x0).bind fun y1 =>
  bif (!y1) then
    (some (⟨#[]⟩ : ByteArray))
  else (s_FormatPacket_l5 k x0 (x0.length : Int) (0 : Int) ([] : List ByteArray)) := by kernel_rfl
theorem s_FormatPacket_l5_eq (k : Nat) (v11 : List Int) (v12 : Int) (v13 : Int) (o100003 : List ByteArray) : s_FormatPacket_l5 (k + 1) v11 v12 v13 o100003 =
  bif decide (v13 < v12) then
    (bif decide (0 ≤ v13) then
      (bif decide (v13 < (v11.length : Int)) then
        ((s_CardOf k (v11.getD v13.toNat (0 : Int))).bind fun y1 =>
        (s_FormatInt k y1).bind fun y2 =>
        (s_IsUp k (v11.getD v13.toNat (0 : Int))).bind fun y3 =>
        bif y3 then
          (bif decide (y2.size + (⟨#[94]⟩ : ByteArray).size ≤ 9223372036854775807) then
            (bif decide (o100003.length + ([(y2 ++ (⟨#[94]⟩ : ByteArray))]).length ≤ rowMax) then
              (s_FormatPacket_l5 k v11 v12 (IntKind.i64.wrap (v13 + (1 : Int))) (o100003 ++ ([(y2 ++ (⟨#[94]⟩ : ByteArray))])))
            else (none))
          else (none))
        else (bif decide (o100003.length + [y2].length ≤ rowMax) then
            (s_FormatPacket_l5 k v11 v12 (IntKind.i64.wrap (v13 + (1 : Int))) (o100003 ++ [y2]))
          else (none)))
      else (none))
    else (none))
  else (bif ((o100003.length : Int) == (0 : Int)) then
      (some (⟨#[101, 109, 112, 116, 121]⟩ : ByteArray))
    else ((s_Join k (o100003, (⟨#[32]⟩ : ByteArray))).bind fun y4 =>
      some y4)) := by kernel_rfl
theorem s_ChoiceName_eq (k : Nat) (x0 : Int) : s_ChoiceName (k + 1) x0 =
  (s_l01In k (x0, ((0 : Int), (4 : Int)))).bind fun y1 =>
  bif (!y1) then
    (some (⟨#[]⟩ : ByteArray))
  else (bif decide (0 ≤ x0) then
      (bif decide (x0 < (([(⟨#[102, 105, 120, 101, 100]⟩ : ByteArray), (⟨#[97, 110, 121, 99, 117, 116]⟩ : ByteArray), (⟨#[114, 105, 102, 102, 108, 101]⟩ : ByteArray), (⟨#[97, 110, 121, 112, 97, 105, 114]⟩ : ByteArray), (⟨#[112, 105, 99, 107]⟩ : ByteArray)]).length : Int)) then
        (bif decide (x0.toNat < ([(⟨#[102, 105, 120, 101, 100]⟩ : ByteArray), (⟨#[97, 110, 121, 99, 117, 116]⟩ : ByteArray), (⟨#[114, 105, 102, 102, 108, 101]⟩ : ByteArray), (⟨#[97, 110, 121, 112, 97, 105, 114]⟩ : ByteArray), (⟨#[112, 105, 99, 107]⟩ : ByteArray)]).length) then
          (some (([(⟨#[102, 105, 120, 101, 100]⟩ : ByteArray), (⟨#[97, 110, 121, 99, 117, 116]⟩ : ByteArray), (⟨#[114, 105, 102, 102, 108, 101]⟩ : ByteArray), (⟨#[97, 110, 121, 112, 97, 105, 114]⟩ : ByteArray), (⟨#[112, 105, 99, 107]⟩ : ByteArray)]).getD x0.toNat (⟨#[]⟩ : ByteArray)))
        else (none))
      else (none))
    else (none)) := by kernel_rfl
theorem s_l04Names_eq (k : Nat) : s_l04Names (k + 1) () =
  some ([(⟨#[]⟩ : ByteArray), (⟨#[99, 117, 116]⟩ : ByteArray), (⟨#[100, 101, 97, 108]⟩ : ByteArray), (⟨#[102, 108, 105, 112]⟩ : ByteArray), (⟨#[102, 97, 114, 111]⟩ : ByteArray), (⟨#[109, 111, 110, 103, 101]⟩ : ByteArray), (⟨#[109, 105, 108, 107]⟩ : ByteArray), (⟨#[100, 117, 99, 107]⟩ : ByteArray), (⟨#[116, 117, 114, 110]⟩ : ByteArray), (⟨#[117, 110, 100, 101, 114]⟩ : ByteArray)]) := by kernel_rfl
theorem s_MoveName_eq (k : Nat) (x0 : Int) : s_MoveName (k + 1) x0 =
  (s_l01In k (x0, ((1 : Int), (9 : Int)))).bind fun y1 =>
  bif (!y1) then
    (some (⟨#[]⟩ : ByteArray))
  else ((s_l04Names k ()).bind fun y2 =>
    bif decide (0 ≤ x0) then
      (bif decide (x0 < (y2.length : Int)) then
        (bif decide (x0.toNat < y2.length) then
          (some (y2.getD x0.toNat (⟨#[]⟩ : ByteArray)))
        else (none))
      else (none))
    else (none)) := by kernel_rfl
theorem s_FormatMove_eq (k : Nat) (x0 : Int × Int) : s_FormatMove (k + 1) x0 =
  (s_MoveOk k ((12 : Int), x0)).bind fun y1 =>
  bif (!y1) then
    (some (⟨#[]⟩ : ByteArray))
  else ((s_MoveName k x0.1).bind fun y2 =>
    bif decide (y2.size + (⟨#[32]⟩ : ByteArray).size ≤ 9223372036854775807) then
      ((s_FormatInt k x0.2).bind fun y3 =>
      bif decide ((y2 ++ (⟨#[32]⟩ : ByteArray)).size + y3.size ≤ 9223372036854775807) then
        (some ((y2 ++ (⟨#[32]⟩ : ByteArray)) ++ y3))
      else (none))
    else (none)) := by kernel_rfl
theorem s_FormatStep_eq (k : Nat) (x0 : Int × (Int × Int) × Int) : s_FormatStep (k + 1) x0 =
  bif (x0.1 == (2 : Int)) then
    (bif (x0.2.2 == (2 : Int)) then
      (bif ((x0.2.1.1 == (0 : Int)) && ((x0.2.1.2 == (0 : Int)) && true)) then
        ((s_ChoiceName k x0.2.2).bind fun y1 =>
        some y1)
      else ((s_StepOk k ((12 : Int), x0)).bind fun y2 =>
        bif (!y2) then
          (some (⟨#[]⟩ : ByteArray))
        else (bif (x0.1 == (1 : Int)) then
            ((s_FormatMove k x0.2.1).bind fun y3 =>
            some y3)
          else (bif (x0.1 == (2 : Int)) then
              ((s_ChoiceName k x0.2.2).bind fun y4 =>
              some y4)
            else ((s_FormatInt k x0.2.2).bind fun y5 =>
              bif decide ((⟨#[110, 111, 116, 101, 32]⟩ : ByteArray).size + y5.size ≤ 9223372036854775807) then
                (some ((⟨#[110, 111, 116, 101, 32]⟩ : ByteArray) ++ y5))
              else (none))))))
    else ((s_StepOk k ((12 : Int), x0)).bind fun y6 =>
      bif (!y6) then
        (some (⟨#[]⟩ : ByteArray))
      else (bif (x0.1 == (1 : Int)) then
          ((s_FormatMove k x0.2.1).bind fun y7 =>
          some y7)
        else (bif (x0.1 == (2 : Int)) then
            ((s_ChoiceName k x0.2.2).bind fun y8 =>
            some y8)
          else ((s_FormatInt k x0.2.2).bind fun y9 =>
            bif decide ((⟨#[110, 111, 116, 101, 32]⟩ : ByteArray).size + y9.size ≤ 9223372036854775807) then
              (some ((⟨#[110, 111, 116, 101, 32]⟩ : ByteArray) ++ y9))
            else (none))))))
  else ((s_StepOk k ((12 : Int), x0)).bind fun y10 =>
    bif (!y10) then
      (some (⟨#[]⟩ : ByteArray))
    else (bif (x0.1 == (1 : Int)) then
        ((s_FormatMove k x0.2.1).bind fun y11 =>
        some y11)
      else (bif (x0.1 == (2 : Int)) then
          ((s_ChoiceName k x0.2.2).bind fun y12 =>
          some y12)
        else ((s_FormatInt k x0.2.2).bind fun y13 =>
          bif decide ((⟨#[110, 111, 116, 101, 32]⟩ : ByteArray).size + y13.size ≤ 9223372036854775807) then
            (some ((⟨#[110, 111, 116, 101, 32]⟩ : ByteArray) ++ y13))
          else (none))))) := by kernel_rfl
theorem s_FormatClaim_eq (k : Nat) (x0 : (List Int) × (List (Int × (Int × Int) × Int)) × Int × Int × Int) : s_FormatClaim (k + 1) x0 =
  bif (x0.2.2.1 == (0 : Int)) then
    (some (⟨#[110, 111, 116, 104, 105, 110, 103]⟩ : ByteArray))
  else (bif (x0.2.2.1 == (1 : Int)) then
      ((s_FormatInt k x0.2.2.2.1).bind fun y1 =>
      bif decide ((⟨#[110, 111, 116, 101, 100, 32, 97, 116, 32]⟩ : ByteArray).size + y1.size ≤ 9223372036854775807) then
        (some ((⟨#[110, 111, 116, 101, 100, 32, 97, 116, 32]⟩ : ByteArray) ++ y1))
      else (none))
    else (bif (x0.2.2.1 == (2 : Int)) then
        ((s_FormatInt k x0.2.2.2.1).bind fun y2 =>
        bif decide ((⟨#[117, 112, 32]⟩ : ByteArray).size + y2.size ≤ 9223372036854775807) then
          (some ((⟨#[117, 112, 32]⟩ : ByteArray) ++ y2))
        else (none))
      else (bif (x0.2.2.1 == (3 : Int)) then
          ((s_FormatInt k x0.2.2.2.1).bind fun y3 =>
          bif decide ((⟨#[99, 97, 114, 100, 32]⟩ : ByteArray).size + y3.size ≤ 9223372036854775807) then
            (bif decide (((⟨#[99, 97, 114, 100, 32]⟩ : ByteArray) ++ y3).size + (⟨#[32, 97, 116, 32]⟩ : ByteArray).size ≤ 9223372036854775807) then
              ((s_FormatInt k x0.2.2.2.2).bind fun y4 =>
              bif decide ((((⟨#[99, 97, 114, 100, 32]⟩ : ByteArray) ++ y3) ++ (⟨#[32, 97, 116, 32]⟩ : ByteArray)).size + y4.size ≤ 9223372036854775807) then
                (some ((((⟨#[99, 97, 114, 100, 32]⟩ : ByteArray) ++ y3) ++ (⟨#[32, 97, 116, 32]⟩ : ByteArray)) ++ y4))
              else (none))
            else (none))
          else (none))
        else (bif (x0.2.2.1 == (4 : Int)) then
            (some (⟨#[111, 114, 100, 101, 114]⟩ : ByteArray))
          else (some (⟨#[]⟩ : ByteArray)))))) := by kernel_rfl
theorem s_TrickLines_eq (k : Nat) (x0 : (List Int) × (List (Int × (Int × Int) × Int)) × Int × Int × Int) : s_TrickLines (k + 1) x0 =
  (s_TrickOk k x0).bind fun y1 =>
  bif (!y1) then
    (some [])
  else ((s_FormatPacket k x0.1).bind fun y2 =>
    bif decide ((⟨#[115, 116, 97, 114, 116, 32]⟩ : ByteArray).size + y2.size ≤ 9223372036854775807) then
      (s_TrickLines_l5 k x0.2.1 (x0.2.1.length : Int) (0 : Int) x0.1 x0.2.1 x0.2.2.1 x0.2.2.2.1 x0.2.2.2.2 ([((⟨#[115, 116, 97, 114, 116, 32]⟩ : ByteArray) ++ y2)]))
    else (none)) := by kernel_rfl
theorem s_TrickLines_l5_eq (k : Nat) (v15 : List (Int × (Int × Int) × Int)) (v16 : Int) (v17 : Int) (o200001_0 : List Int) (o200001_1 : List (Int × (Int × Int) × Int)) (o200001_2 : Int) (o200001_3 : Int) (o200001_4 : Int) (o100003 : List ByteArray) : s_TrickLines_l5 (k + 1) v15 v16 v17 o200001_0 o200001_1 o200001_2 o200001_3 o200001_4 o100003 =
  bif decide (v17 < v16) then
    (bif decide (0 ≤ v17) then
      (bif decide (v17 < (v15.length : Int)) then
        ((s_FormatStep k ((v15.getD v17.toNat ((0 : Int), (((0 : Int), (0 : Int)), (0 : Int)))).1, ((((v15.getD v17.toNat ((0 : Int), (((0 : Int), (0 : Int)), (0 : Int)))).2).1), ((v15.getD v17.toNat ((0 : Int), (((0 : Int), (0 : Int)), (0 : Int)))).2).2))).bind fun y1 =>
        bif decide (o100003.length + [y1].length ≤ rowMax) then
          (s_TrickLines_l5 k v15 v16 (IntKind.i64.wrap (v17 + (1 : Int))) o200001_0 o200001_1 o200001_2 o200001_3 o200001_4 (o100003 ++ [y1]))
        else (none))
      else (none))
    else (none))
  else ((s_FormatClaim k (o200001_0, (o200001_1, (o200001_2, (o200001_3, o200001_4))))).bind fun y2 =>
    bif decide ((⟨#[99, 108, 97, 105, 109, 32]⟩ : ByteArray).size + y2.size ≤ 9223372036854775807) then
      (bif decide (o100003.length + ([((⟨#[99, 108, 97, 105, 109, 32]⟩ : ByteArray) ++ y2)]).length ≤ rowMax) then
        (some (o100003 ++ ([((⟨#[99, 108, 97, 105, 109, 32]⟩ : ByteArray) ++ y2)])))
      else (none))
    else (none)) := by kernel_rfl
theorem i_CardOf_eq (k : Nat) (x0 : Int) : i_CardOf (k + 1) x0 =
  bif decide (x0 < (0 : Int)) then
    (bif decide ((IntKind.i64.wrap ((-1 : Int) - x0)) ≥ (12 : Int)) then
      (some (-1 : Int))
    else (some (IntKind.i64.wrap ((-1 : Int) - x0))))
  else (bif decide (x0 ≥ (12 : Int)) then
      (some (-1 : Int))
    else (some x0)) := by kernel_rfl
theorem i_PacketOk_eq (k : Nat) (x0 : List Int) : i_PacketOk (k + 1) x0 =
  i_PacketOk_l3 k x0 (x0.length : Int) (0 : Int) (List.replicate 12 false) := by kernel_rfl
theorem i_PacketOk_l3_eq (k : Nat) (v7 : List Int) (v8 : Int) (v9 : Int) (o400003 : List Bool) : i_PacketOk_l3 (k + 1) v7 v8 v9 o400003 =
  bif decide (v9 < v8) then
    (bif decide (0 ≤ v9) then
      (bif decide (v9 < (v7.length : Int)) then
        ((i_CardOf k (v7.getD v9.toNat (0 : Int))).bind fun y1 =>
        bif decide (y1 < (0 : Int)) then
          (some false)
        else (bif (Nat.beq o400003.length 12 && true) then
            (bif decide (0 ≤ y1) then
              (bif decide (y1 < (o400003.length : Int)) then
                (bif decide (y1.toNat < o400003.length) then
                  (bif (o400003.getD y1.toNat false) then
                    (some false)
                  else (bif (Nat.beq o400003.length 12 && true) then
                      (bif decide (0 ≤ y1) then
                        (bif decide (y1 < (o400003.length : Int)) then
                          (bif decide (y1.toNat < o400003.length) then
                            (i_PacketOk_l3 k v7 v8 (IntKind.i64.wrap (v9 + (1 : Int))) (o400003.set y1.toNat true))
                          else (none))
                        else (none))
                      else (none))
                    else (none)))
                else (none))
              else (none))
            else (none))
          else (none)))
      else (none))
    else (none))
  else (some true) := by kernel_rfl
theorem i_MoveOk_eq (k : Nat) (x0 : Int) (x1 : Int × Int) : i_MoveOk (k + 1) (x0, x1) =
  bif decide (x0 < (1 : Int)) then
    (some false)
  else (bif decide (x0 > (12 : Int)) then
      (some false)
    else (bif decide (x1.2 < (0 : Int)) then
        (some false)
      else (bif (x1.1 == (1 : Int)) then
          (some (decide (x1.2 ≤ x0)))
        else (bif (x1.1 == (2 : Int)) then
            (some (decide (x1.2 ≤ x0)))
          else (bif (x1.1 == (3 : Int)) then
              (some (decide (x1.2 ≤ x0)))
            else (bif (x1.1 == (4 : Int)) then
                (some (decide (x1.2 ≤ (1 : Int))))
              else (bif (x1.1 == (5 : Int)) then
                  (some (decide (x1.2 ≤ (1 : Int))))
                else (bif (x1.1 == (7 : Int)) then
                    (some (decide (x1.2 ≤ (1 : Int))))
                  else (bif (x1.1 == (6 : Int)) then
                      (some (x1.2 == (0 : Int)))
                    else (bif (x1.1 == (8 : Int)) then
                        (some (decide (x1.2 < x0)))
                      else (bif (x1.1 == (9 : Int)) then
                          (some (decide (x1.2 < x0)))
                        else (some false)))))))))))) := by kernel_rfl
theorem i_StepOk_eq (k : Nat) (x0 : Int) (x1 : Int × (Int × Int) × Int) : i_StepOk (k + 1) (x0, x1) =
  bif decide (x0 < (1 : Int)) then
    (some false)
  else (bif decide (x0 > (12 : Int)) then
      (some false)
    else (bif (x1.1 == (1 : Int)) then
        ((i_MoveOk k (x0, x1.2.1)).bind fun y1 =>
        bif y1 then
          (some (x1.2.2 == (0 : Int)))
        else (some false))
      else (bif (x1.1 == (2 : Int)) then
          (bif ((x1.2.1.1 == (0 : Int)) && ((x1.2.1.2 == (0 : Int)) && true)) then
            (bif decide (x1.2.2 ≥ (0 : Int)) then
              (bif decide (x1.2.2 ≤ (4 : Int)) then
                (bif (!(x1.2.2 == (3 : Int))) then
                  (bif (!(x1.2.2 == (2 : Int))) then
                    (some true)
                  else (some (decide (x0 ≤ (7 : Int)))))
                else (bif decide (x0 ≥ (2 : Int)) then
                    (bif (!(x1.2.2 == (2 : Int))) then
                      (some true)
                    else (some (decide (x0 ≤ (7 : Int)))))
                  else (some false)))
              else (some false))
            else (some false))
          else (some false))
        else (bif (x1.1 == (3 : Int)) then
            (bif ((x1.2.1.1 == (0 : Int)) && ((x1.2.1.2 == (0 : Int)) && true)) then
              (bif decide (x1.2.2 ≥ (0 : Int)) then
                (some (decide (x1.2.2 < x0)))
              else (some false))
            else (some false))
          else (some false))))) := by kernel_rfl
theorem i_PositionOf_1_eq (k : Nat) (x0 : Int) (x1 : Int) : i_PositionOf_1 (k + 1) (x0, x1) =
  (i_CardOf k x0).bind fun y1 =>
  some (y1 == x1) := by kernel_rfl
theorem slices_IndexFunc_int_of_i_PositionOf_1_eq (k : Nat) (x0 : List Int) (x1 : Int) : slices_IndexFunc_int_of_i_PositionOf_1 (k + 1) (x0, x1) =
  slices_IndexFunc_int_of_i_PositionOf_1_l2 k x0 x1 (x0.length : Int) (0 : Int) := by kernel_rfl
theorem slices_IndexFunc_int_of_i_PositionOf_1_l2_eq (k : Nat) (v0 : List Int) (v1_0_0 : Int) (v7 : Int) (v8 : Int) : slices_IndexFunc_int_of_i_PositionOf_1_l2 (k + 1) v0 v1_0_0 v7 v8 =
  bif decide (v8 < v7) then
    (bif decide (0 ≤ v8) then
      (bif decide (v8 < (v0.length : Int)) then
        ((i_PositionOf_1 k ((v0.getD v8.toNat (0 : Int)), v1_0_0)).bind fun y1 =>
        bif y1 then
          (some v8)
        else (slices_IndexFunc_int_of_i_PositionOf_1_l2 k v0 v1_0_0 v7 (IntKind.i64.wrap (v8 + (1 : Int)))))
      else (none))
    else (none))
  else (some (-1 : Int)) := by kernel_rfl
theorem i_PositionOf_eq (k : Nat) (x0 : List Int) (x1 : Int) : i_PositionOf (k + 1) (x0, x1) =
  bif decide (x1 < (0 : Int)) then
    (some (-1 : Int))
  else ((slices_IndexFunc_int_of_i_PositionOf_1 k (x0, x1)).bind fun y1 =>
    some y1) := by kernel_rfl
theorem i_TrickOk_eq (k : Nat) (x0 : (List Int) × (List (Int × (Int × Int) × Int)) × Int × Int × Int) : i_TrickOk (k + 1) x0 =
  (i_PacketOk k x0.1).bind fun y1 =>
  bif (!y1) then
    (some false)
  else (bif ((x0.1.length : Int) == (0 : Int)) then
      (some false)
    else (bif decide ((x0.2.1.length : Int) > (12 : Int)) then
        (some false)
      else (i_TrickOk_l6 k (x0.1.length : Int) false x0.2.1 (x0.2.1.length : Int) (0 : Int) x0.1 x0.2.1 x0.2.2.1 x0.2.2.2.1 x0.2.2.2.2))) := by kernel_rfl
theorem i_TrickOk_l6_eq (k : Nat) (v3 : Int) (v4 : Bool) (v25 : List (Int × (Int × Int) × Int)) (v26 : Int) (v27 : Int) (o200001_0 : List Int) (o200001_1 : List (Int × (Int × Int) × Int)) (o200001_2 : Int) (o200001_3 : Int) (o200001_4 : Int) : i_TrickOk_l6 (k + 1) v3 v4 v25 v26 v27 o200001_0 o200001_1 o200001_2 o200001_3 o200001_4 =
  bif decide (v27 < v26) then
    (bif decide (0 ≤ v27) then
      (bif decide (v27 < (v25.length : Int)) then
        ((i_StepOk k (v3, ((v25.getD v27.toNat ((0 : Int), (((0 : Int), (0 : Int)), (0 : Int)))).1, ((((v25.getD v27.toNat ((0 : Int), (((0 : Int), (0 : Int)), (0 : Int)))).2).1), ((v25.getD v27.toNat ((0 : Int), (((0 : Int), (0 : Int)), (0 : Int)))).2).2)))).bind fun y1 =>
        bif (!y1) then
          (some false)
        else (bif v4 then
            (i_TrickOk_l6 k v3 true v25 v26 (IntKind.i64.wrap (v27 + (1 : Int))) o200001_0 o200001_1 o200001_2 o200001_3 o200001_4)
          else (i_TrickOk_l6 k v3 (((v25.getD v27.toNat ((0 : Int), (((0 : Int), (0 : Int)), (0 : Int)))).1) == (3 : Int)) v25 v26 (IntKind.i64.wrap (v27 + (1 : Int))) o200001_0 o200001_1 o200001_2 o200001_3 o200001_4)))
      else (none))
    else (none))
  else (bif (o200001_2 == (0 : Int)) then
      (bif (o200001_3 == (0 : Int)) then
        (some (o200001_4 == (0 : Int)))
      else (some false))
    else (bif (o200001_2 == (4 : Int)) then
        (bif (o200001_3 == (0 : Int)) then
          (some (o200001_4 == (0 : Int)))
        else (some false))
      else (bif (o200001_2 == (1 : Int)) then
          (bif v4 then
            (bif decide (o200001_3 ≥ (0 : Int)) then
              (bif decide (o200001_3 < v3) then
                (some (o200001_4 == (0 : Int)))
              else (some false))
            else (some false))
          else (some false))
        else (bif (o200001_2 == (2 : Int)) then
            (bif decide (o200001_3 ≥ (0 : Int)) then
              (bif decide (o200001_3 ≤ v3) then
                (some (o200001_4 == (0 : Int)))
              else (some false))
            else (some false))
          else (bif (o200001_2 == (3 : Int)) then
              ((i_PositionOf k (o200001_0, o200001_3)).bind fun y2 =>
              bif decide (y2 ≥ (0 : Int)) then
                (bif decide (o200001_4 ≥ (0 : Int)) then
                  (some (decide (o200001_4 < v3)))
                else (some false))
              else (some false))
            else (some false)))))) := by kernel_rfl
theorem strconv_Itoa_eq (k : Nat) (x0 : Int) : strconv_Itoa k x0 = itoaF x0 := by kernel_rfl
theorem i_FormatInt_eq (k : Nat) (x0 : Int) : i_FormatInt (k + 1) x0 =
  (strconv_Itoa k x0).bind fun y1 =>
  some y1 := by kernel_rfl
theorem i_IsUp_eq (k : Nat) (x0 : Int) : i_IsUp (k + 1) x0 =
  bif decide (x0 < (0 : Int)) then
    ((i_CardOf k x0).bind fun y1 =>
    some (decide (y1 ≥ (0 : Int))))
  else (some false) := by kernel_rfl
theorem strings_Join_eq (k : Nat) (x0 : List ByteArray) (x1 : ByteArray) : strings_Join k (x0, x1) = joinF x0 x1 := by kernel_rfl
theorem i_Join_eq (k : Nat) (x0 : List ByteArray) (x1 : ByteArray) : i_Join (k + 1) (x0, x1) =
  (strings_Join k (x0, x1)).bind fun y1 =>
  some y1 := by kernel_rfl
theorem i_FormatPacket_eq (k : Nat) (x0 : List Int) : i_FormatPacket (k + 1) x0 =
  (i_PacketOk k x0).bind fun y1 =>
  bif (!y1) then
    (some (⟨#[]⟩ : ByteArray))
  else (bif ((x0.length : Int) == (0 : Int)) then
      (some (⟨#[101, 109, 112, 116, 121]⟩ : ByteArray))
    else (i_FormatPacket_l7 k x0 (x0.length : Int) (0 : Int) [])) := by kernel_rfl
theorem i_FormatPacket_l7_eq (k : Nat) (v13 : List Int) (v14 : Int) (v15 : Int) (o100003 : List ByteArray) : i_FormatPacket_l7 (k + 1) v13 v14 v15 o100003 =
  bif decide (v15 < v14) then
    (bif decide (0 ≤ v15) then
      (bif decide (v15 < (v13.length : Int)) then
        ((i_CardOf k (v13.getD v15.toNat (0 : Int))).bind fun y1 =>
        (i_FormatInt k y1).bind fun y2 =>
        (i_IsUp k (v13.getD v15.toNat (0 : Int))).bind fun y3 =>
        bif y3 then
          (bif decide (y2.size + (⟨#[94]⟩ : ByteArray).size ≤ 9223372036854775807) then
            (bif decide (o100003.length + ([(y2 ++ (⟨#[94]⟩ : ByteArray))]).length ≤ rowMax) then
              (i_FormatPacket_l7 k v13 v14 (IntKind.i64.wrap (v15 + (1 : Int))) (o100003 ++ ([(y2 ++ (⟨#[94]⟩ : ByteArray))])))
            else (none))
          else (none))
        else (bif decide (o100003.length + [y2].length ≤ rowMax) then
            (i_FormatPacket_l7 k v13 v14 (IntKind.i64.wrap (v15 + (1 : Int))) (o100003 ++ [y2]))
          else (none)))
      else (none))
    else (none))
  else ((i_Join k (o100003, (⟨#[32]⟩ : ByteArray))).bind fun y4 =>
    some y4) := by kernel_rfl
theorem i_moveNames_eq (k : Nat) : i_moveNames (k + 1) () =
  some ([(⟨#[99, 117, 116]⟩ : ByteArray), (⟨#[100, 101, 97, 108]⟩ : ByteArray), (⟨#[102, 108, 105, 112]⟩ : ByteArray), (⟨#[102, 97, 114, 111]⟩ : ByteArray), (⟨#[109, 111, 110, 103, 101]⟩ : ByteArray), (⟨#[109, 105, 108, 107]⟩ : ByteArray), (⟨#[100, 117, 99, 107]⟩ : ByteArray), (⟨#[116, 117, 114, 110]⟩ : ByteArray), (⟨#[117, 110, 100, 101, 114]⟩ : ByteArray)]) := by kernel_rfl
theorem i_MoveName_eq (k : Nat) (x0 : Int) : i_MoveName (k + 1) x0 =
  bif decide (x0 < (1 : Int)) then
    (some (⟨#[]⟩ : ByteArray))
  else (bif decide (x0 > (9 : Int)) then
      (some (⟨#[]⟩ : ByteArray))
    else ((i_moveNames k ()).bind fun y1 =>
      bif decide (0 ≤ (IntKind.i64.wrap (x0 - (1 : Int)))) then
        (bif decide ((IntKind.i64.wrap (x0 - (1 : Int))) < (y1.length : Int)) then
          (bif decide ((IntKind.i64.wrap (x0 - (1 : Int))).toNat < y1.length) then
            (some (y1.getD (IntKind.i64.wrap (x0 - (1 : Int))).toNat (⟨#[]⟩ : ByteArray)))
          else (none))
        else (none))
      else (none))) := by kernel_rfl
theorem i_FormatMove_eq (k : Nat) (x0 : Int × Int) : i_FormatMove (k + 1) x0 =
  (i_MoveOk k ((12 : Int), x0)).bind fun y1 =>
  bif (!y1) then
    (some (⟨#[]⟩ : ByteArray))
  else ((i_MoveName k x0.1).bind fun y2 =>
    bif decide (y2.size + (⟨#[32]⟩ : ByteArray).size ≤ 9223372036854775807) then
      ((i_FormatInt k x0.2).bind fun y3 =>
      bif decide ((y2 ++ (⟨#[32]⟩ : ByteArray)).size + y3.size ≤ 9223372036854775807) then
        (some ((y2 ++ (⟨#[32]⟩ : ByteArray)) ++ y3))
      else (none))
    else (none)) := by kernel_rfl
theorem i_ChoiceName_eq (k : Nat) (x0 : Int) : i_ChoiceName (k + 1) x0 =
  bif decide (x0 < (0 : Int)) then
    (some (⟨#[]⟩ : ByteArray))
  else (bif decide (x0 > (4 : Int)) then
      (some (⟨#[]⟩ : ByteArray))
    else (bif decide (0 ≤ x0) then
        (bif decide (x0 < (([(⟨#[102, 105, 120, 101, 100]⟩ : ByteArray), (⟨#[97, 110, 121, 99, 117, 116]⟩ : ByteArray), (⟨#[114, 105, 102, 102, 108, 101]⟩ : ByteArray), (⟨#[97, 110, 121, 112, 97, 105, 114]⟩ : ByteArray), (⟨#[112, 105, 99, 107]⟩ : ByteArray)]).length : Int)) then
          (bif decide (x0.toNat < ([(⟨#[102, 105, 120, 101, 100]⟩ : ByteArray), (⟨#[97, 110, 121, 99, 117, 116]⟩ : ByteArray), (⟨#[114, 105, 102, 102, 108, 101]⟩ : ByteArray), (⟨#[97, 110, 121, 112, 97, 105, 114]⟩ : ByteArray), (⟨#[112, 105, 99, 107]⟩ : ByteArray)]).length) then
            (some (([(⟨#[102, 105, 120, 101, 100]⟩ : ByteArray), (⟨#[97, 110, 121, 99, 117, 116]⟩ : ByteArray), (⟨#[114, 105, 102, 102, 108, 101]⟩ : ByteArray), (⟨#[97, 110, 121, 112, 97, 105, 114]⟩ : ByteArray), (⟨#[112, 105, 99, 107]⟩ : ByteArray)]).getD x0.toNat (⟨#[]⟩ : ByteArray)))
          else (none))
        else (none))
      else (none))) := by kernel_rfl
theorem i_FormatStep_eq (k : Nat) (x0 : Int × (Int × Int) × Int) : i_FormatStep (k + 1) x0 =
  (i_StepOk k ((12 : Int), x0)).bind fun y1 =>
  bif (!y1) then
    (bif (!((x0.1 == (2 : Int)) && ((x0.2.1.1 == (0 : Int)) && ((x0.2.1.2 == (0 : Int)) && ((x0.2.2 == (2 : Int)) && true))))) then
      (some (⟨#[]⟩ : ByteArray))
    else (bif (x0.1 == (1 : Int)) then
        ((i_FormatMove k x0.2.1).bind fun y2 =>
        some y2)
      else (bif (x0.1 == (2 : Int)) then
          ((i_ChoiceName k x0.2.2).bind fun y3 =>
          some y3)
        else ((i_FormatInt k x0.2.2).bind fun y4 =>
          bif decide ((⟨#[110, 111, 116, 101, 32]⟩ : ByteArray).size + y4.size ≤ 9223372036854775807) then
            (some ((⟨#[110, 111, 116, 101, 32]⟩ : ByteArray) ++ y4))
          else (none)))))
  else (bif (x0.1 == (1 : Int)) then
      ((i_FormatMove k x0.2.1).bind fun y5 =>
      some y5)
    else (bif (x0.1 == (2 : Int)) then
        ((i_ChoiceName k x0.2.2).bind fun y6 =>
        some y6)
      else ((i_FormatInt k x0.2.2).bind fun y7 =>
        bif decide ((⟨#[110, 111, 116, 101, 32]⟩ : ByteArray).size + y7.size ≤ 9223372036854775807) then
          (some ((⟨#[110, 111, 116, 101, 32]⟩ : ByteArray) ++ y7))
        else (none)))) := by kernel_rfl
theorem i_FormatClaim_eq (k : Nat) (x0 : (List Int) × (List (Int × (Int × Int) × Int)) × Int × Int × Int) : i_FormatClaim (k + 1) x0 =
  bif (x0.2.2.1 == (0 : Int)) then
    (some (⟨#[110, 111, 116, 104, 105, 110, 103]⟩ : ByteArray))
  else (bif (x0.2.2.1 == (1 : Int)) then
      ((i_FormatInt k x0.2.2.2.1).bind fun y1 =>
      bif decide ((⟨#[110, 111, 116, 101, 100, 32, 97, 116, 32]⟩ : ByteArray).size + y1.size ≤ 9223372036854775807) then
        (some ((⟨#[110, 111, 116, 101, 100, 32, 97, 116, 32]⟩ : ByteArray) ++ y1))
      else (none))
    else (bif (x0.2.2.1 == (2 : Int)) then
        ((i_FormatInt k x0.2.2.2.1).bind fun y2 =>
        bif decide ((⟨#[117, 112, 32]⟩ : ByteArray).size + y2.size ≤ 9223372036854775807) then
          (some ((⟨#[117, 112, 32]⟩ : ByteArray) ++ y2))
        else (none))
      else (bif (x0.2.2.1 == (3 : Int)) then
          ((i_FormatInt k x0.2.2.2.1).bind fun y3 =>
          bif decide ((⟨#[99, 97, 114, 100, 32]⟩ : ByteArray).size + y3.size ≤ 9223372036854775807) then
            (bif decide (((⟨#[99, 97, 114, 100, 32]⟩ : ByteArray) ++ y3).size + (⟨#[32, 97, 116, 32]⟩ : ByteArray).size ≤ 9223372036854775807) then
              ((i_FormatInt k x0.2.2.2.2).bind fun y4 =>
              bif decide ((((⟨#[99, 97, 114, 100, 32]⟩ : ByteArray) ++ y3) ++ (⟨#[32, 97, 116, 32]⟩ : ByteArray)).size + y4.size ≤ 9223372036854775807) then
                (some ((((⟨#[99, 97, 114, 100, 32]⟩ : ByteArray) ++ y3) ++ (⟨#[32, 97, 116, 32]⟩ : ByteArray)) ++ y4))
              else (none))
            else (none))
          else (none))
        else (bif (x0.2.2.1 == (4 : Int)) then
            (some (⟨#[111, 114, 100, 101, 114]⟩ : ByteArray))
          else (some (⟨#[]⟩ : ByteArray)))))) := by kernel_rfl
theorem i_TrickLines_eq (k : Nat) (x0 : (List Int) × (List (Int × (Int × Int) × Int)) × Int × Int × Int) : i_TrickLines (k + 1) x0 =
  (i_TrickOk k x0).bind fun y1 =>
  bif (!y1) then
    (some [])
  else ((i_FormatPacket k x0.1).bind fun y2 =>
    bif decide ((⟨#[115, 116, 97, 114, 116, 32]⟩ : ByteArray).size + y2.size ≤ 9223372036854775807) then
      (i_TrickLines_l5 k x0.2.1 (x0.2.1.length : Int) (0 : Int) x0.1 x0.2.1 x0.2.2.1 x0.2.2.2.1 x0.2.2.2.2 ([((⟨#[115, 116, 97, 114, 116, 32]⟩ : ByteArray) ++ y2)]))
    else (none)) := by kernel_rfl
theorem i_TrickLines_l5_eq (k : Nat) (v15 : List (Int × (Int × Int) × Int)) (v16 : Int) (v17 : Int) (o200001_0 : List Int) (o200001_1 : List (Int × (Int × Int) × Int)) (o200001_2 : Int) (o200001_3 : Int) (o200001_4 : Int) (o100003 : List ByteArray) : i_TrickLines_l5 (k + 1) v15 v16 v17 o200001_0 o200001_1 o200001_2 o200001_3 o200001_4 o100003 =
  bif decide (v17 < v16) then
    (bif decide (0 ≤ v17) then
      (bif decide (v17 < (v15.length : Int)) then
        ((i_FormatStep k ((v15.getD v17.toNat ((0 : Int), (((0 : Int), (0 : Int)), (0 : Int)))).1, ((((v15.getD v17.toNat ((0 : Int), (((0 : Int), (0 : Int)), (0 : Int)))).2).1), ((v15.getD v17.toNat ((0 : Int), (((0 : Int), (0 : Int)), (0 : Int)))).2).2))).bind fun y1 =>
        bif decide (o100003.length + [y1].length ≤ rowMax) then
          (i_TrickLines_l5 k v15 v16 (IntKind.i64.wrap (v17 + (1 : Int))) o200001_0 o200001_1 o200001_2 o200001_3 o200001_4 (o100003 ++ [y1]))
        else (none))
      else (none))
    else (none))
  else ((i_FormatClaim k (o200001_0, (o200001_1, (o200001_2, (o200001_3, o200001_4))))).bind fun y2 =>
    bif decide ((⟨#[99, 108, 97, 105, 109, 32]⟩ : ByteArray).size + y2.size ≤ 9223372036854775807) then
      (bif decide (o100003.length + ([((⟨#[99, 108, 97, 105, 109, 32]⟩ : ByteArray) ++ y2)]).length ≤ rowMax) then
        (some (o100003 ++ ([((⟨#[99, 108, 97, 105, 109, 32]⟩ : ByteArray) ++ y2)])))
      else (none))
    else (none)) := by kernel_rfl
theorem w_eqStringS_eq (k : Nat) (x0 : List ByteArray) (x1 : List ByteArray) : w_eqStringS (k + 1) (x0, x1) =
  bif (!((x0.length : Int) == (x1.length : Int))) then
    (some false)
  else (w_eqStringS_l4 k x0 x1 (0 : Int)) := by kernel_rfl
theorem w_eqStringS_l4_eq (k : Nat) (v0 : List ByteArray) (v1 : List ByteArray) (v5 : Int) : w_eqStringS_l4 (k + 1) v0 v1 v5 =
  bif decide (v5 < (v0.length : Int)) then
    (bif decide (0 ≤ v5) then
      (bif decide (v5 < (v0.length : Int)) then
        (bif decide (0 ≤ v5) then
          (bif decide (v5 < (v1.length : Int)) then
            (bif (!((v0.getD v5.toNat (⟨#[]⟩ : ByteArray)).toList == (v1.getD v5.toNat (⟨#[]⟩ : ByteArray)).toList)) then
              (some false)
            else (w_eqStringS_l4 k v0 v1 (IntKind.i64.wrap (v5 + (1 : Int)))))
          else (none))
        else (none))
      else (none))
    else (none))
  else (some true) := by kernel_rfl
theorem w_eqIntS_eq (k : Nat) (x0 : List Int) (x1 : List Int) : w_eqIntS (k + 1) (x0, x1) =
  bif (!((x0.length : Int) == (x1.length : Int))) then
    (some false)
  else (w_eqIntS_l4 k x0 x1 (0 : Int)) := by kernel_rfl
theorem w_eqIntS_l4_eq (k : Nat) (v0 : List Int) (v1 : List Int) (v5 : Int) : w_eqIntS_l4 (k + 1) v0 v1 v5 =
  bif decide (v5 < (v0.length : Int)) then
    (bif decide (0 ≤ v5) then
      (bif decide (v5 < (v0.length : Int)) then
        (bif decide (0 ≤ v5) then
          (bif decide (v5 < (v1.length : Int)) then
            (bif (!((v0.getD v5.toNat (0 : Int)) == (v1.getD v5.toNat (0 : Int)))) then
              (some false)
            else (w_eqIntS_l4 k v0 v1 (IntKind.i64.wrap (v5 + (1 : Int)))))
          else (none))
        else (none))
      else (none))
    else (none))
  else (some true) := by kernel_rfl
theorem w_eqMove_eq (k : Nat) (x0 : Int × Int) (x1 : Int × Int) : w_eqMove (k + 1) (x0, x1) =
  bif (!(x0.1 == x1.1)) then
    (some false)
  else (bif (!(x0.2 == x1.2)) then
      (some false)
    else (some true)) := by kernel_rfl
theorem w_eqStep_eq (k : Nat) (x0 : Int × (Int × Int) × Int) (x1 : Int × (Int × Int) × Int) : w_eqStep (k + 1) (x0, x1) =
  bif (!(x0.1 == x1.1)) then
    (some false)
  else ((w_eqMove k (x0.2.1, x1.2.1)).bind fun y1 =>
    bif (!y1) then
      (some false)
    else (bif (!(x0.2.2 == x1.2.2)) then
        (some false)
      else (some true))) := by kernel_rfl
theorem w_eqStepS_eq (k : Nat) (x0 : List (Int × (Int × Int) × Int)) (x1 : List (Int × (Int × Int) × Int)) : w_eqStepS (k + 1) (x0, x1) =
  bif (!((x0.length : Int) == (x1.length : Int))) then
    (some false)
  else (w_eqStepS_l4 k x0 x1 (0 : Int)) := by kernel_rfl
theorem w_eqStepS_l4_eq (k : Nat) (v0 : List (Int × (Int × Int) × Int)) (v1 : List (Int × (Int × Int) × Int)) (v5 : Int) : w_eqStepS_l4 (k + 1) v0 v1 v5 =
  bif decide (v5 < (v0.length : Int)) then
    (bif decide (0 ≤ v5) then
      (bif decide (v5 < (v0.length : Int)) then
        (bif decide (0 ≤ v5) then
          (bif decide (v5 < (v1.length : Int)) then
            ((w_eqStep k (((v0.getD v5.toNat ((0 : Int), (((0 : Int), (0 : Int)), (0 : Int)))).1, ((((v0.getD v5.toNat ((0 : Int), (((0 : Int), (0 : Int)), (0 : Int)))).2).1), ((v0.getD v5.toNat ((0 : Int), (((0 : Int), (0 : Int)), (0 : Int)))).2).2)), ((v1.getD v5.toNat ((0 : Int), (((0 : Int), (0 : Int)), (0 : Int)))).1, ((((v1.getD v5.toNat ((0 : Int), (((0 : Int), (0 : Int)), (0 : Int)))).2).1), ((v1.getD v5.toNat ((0 : Int), (((0 : Int), (0 : Int)), (0 : Int)))).2).2)))).bind fun y1 =>
            bif (!y1) then
              (some false)
            else (w_eqStepS_l4 k v0 v1 (IntKind.i64.wrap (v5 + (1 : Int)))))
          else (none))
        else (none))
      else (none))
    else (none))
  else (some true) := by kernel_rfl
theorem w_eqTrick_eq (k : Nat) (x0 : (List Int) × (List (Int × (Int × Int) × Int)) × Int × Int × Int) (x1 : (List Int) × (List (Int × (Int × Int) × Int)) × Int × Int × Int) : w_eqTrick (k + 1) (x0, x1) =
  (w_eqIntS k (x0.1, x1.1)).bind fun y1 =>
  bif (!y1) then
    (some false)
  else ((w_eqStepS k (x0.2.1, x1.2.1)).bind fun y2 =>
    bif (!y2) then
      (some false)
    else (bif (!(x0.2.2.1 == x1.2.2.1)) then
        (some false)
      else (bif (!(x0.2.2.2.1 == x1.2.2.2.1)) then
          (some false)
        else (bif (!(x0.2.2.2.2 == x1.2.2.2.2)) then
            (some false)
          else (some true))))) := by kernel_rfl
theorem w_markIntS_eq (k : Nat) (x0 : List Int) (x1 : Int) : w_markIntS (k + 1) (x0, x1) =
  w_markIntS_l2 k x1 (0 : Int) x0 := by kernel_rfl
theorem w_markIntS_l2_eq (k : Nat) (v1 : Int) (v5 : Int) (o500000 : List Int) : w_markIntS_l2 (k + 1) v1 v5 o500000 =
  bif decide (v5 < (o500000.length : Int)) then
    (bif decide (0 ≤ v5) then
      (bif decide (v5 < (o500000.length : Int)) then
        (bif decide (v5.toNat < o500000.length) then
          (w_markIntS_l2 k (IntKind.i64.wrap (v1 + (1 : Int))) (IntKind.i64.wrap (v5 + (1 : Int))) (o500000.set v5.toNat v1))
        else (none))
      else (none))
    else (none))
  else (some (v1, o500000)) := by kernel_rfl
theorem w_markStepS_eq (k : Nat) (x0 : List (Int × (Int × Int) × Int)) (x1 : Int) : w_markStepS (k + 1) (x0, x1) =
  w_markStepS_l2 k x1 (0 : Int) x0 := by kernel_rfl
theorem w_markStepS_l2_eq (k : Nat) (v1 : Int) (v5 : Int) (o500000 : List (Int × (Int × Int) × Int)) : w_markStepS_l2 (k + 1) v1 v5 o500000 =
  bif decide (v5 < (o500000.length : Int)) then
    (bif decide (0 ≤ v5) then
      (bif decide (v5 < (o500000.length : Int)) then
        (bif decide (v5.toNat < o500000.length) then
          (bif decide (0 ≤ v5) then
            (bif decide (v5 < ((o500000.set v5.toNat (v1, ((((o500000.getD v5.toNat ((0 : Int), (((0 : Int), (0 : Int)), (0 : Int)))).2).1), ((o500000.getD v5.toNat ((0 : Int), (((0 : Int), (0 : Int)), (0 : Int)))).2).2))).length : Int)) then
              (bif decide (v5.toNat < (o500000.set v5.toNat (v1, ((((o500000.getD v5.toNat ((0 : Int), (((0 : Int), (0 : Int)), (0 : Int)))).2).1), ((o500000.getD v5.toNat ((0 : Int), (((0 : Int), (0 : Int)), (0 : Int)))).2).2))).length) then
                (bif decide (0 ≤ v5) then
                  (bif decide (v5 < (((o500000.set v5.toNat (v1, ((((o500000.getD v5.toNat ((0 : Int), (((0 : Int), (0 : Int)), (0 : Int)))).2).1), ((o500000.getD v5.toNat ((0 : Int), (((0 : Int), (0 : Int)), (0 : Int)))).2).2))).set v5.toNat (((o500000.set v5.toNat (v1, ((((o500000.getD v5.toNat ((0 : Int), (((0 : Int), (0 : Int)), (0 : Int)))).2).1), ((o500000.getD v5.toNat ((0 : Int), (((0 : Int), (0 : Int)), (0 : Int)))).2).2))).getD v5.toNat ((0 : Int), (((0 : Int), (0 : Int)), (0 : Int)))).1, (((IntKind.i64.wrap (v1 + (1 : Int))), ((((o500000.set v5.toNat (v1, ((((o500000.getD v5.toNat ((0 : Int), (((0 : Int), (0 : Int)), (0 : Int)))).2).1), ((o500000.getD v5.toNat ((0 : Int), (((0 : Int), (0 : Int)), (0 : Int)))).2).2))).getD v5.toNat ((0 : Int), (((0 : Int), (0 : Int)), (0 : Int)))).2).1).2), (((o500000.set v5.toNat (v1, ((((o500000.getD v5.toNat ((0 : Int), (((0 : Int), (0 : Int)), (0 : Int)))).2).1), ((o500000.getD v5.toNat ((0 : Int), (((0 : Int), (0 : Int)), (0 : Int)))).2).2))).getD v5.toNat ((0 : Int), (((0 : Int), (0 : Int)), (0 : Int)))).2).2))).length : Int)) then
                    (bif decide (v5.toNat < ((o500000.set v5.toNat (v1, ((((o500000.getD v5.toNat ((0 : Int), (((0 : Int), (0 : Int)), (0 : Int)))).2).1), ((o500000.getD v5.toNat ((0 : Int), (((0 : Int), (0 : Int)), (0 : Int)))).2).2))).set v5.toNat (((o500000.set v5.toNat (v1, ((((o500000.getD v5.toNat ((0 : Int), (((0 : Int), (0 : Int)), (0 : Int)))).2).1), ((o500000.getD v5.toNat ((0 : Int), (((0 : Int), (0 : Int)), (0 : Int)))).2).2))).getD v5.toNat ((0 : Int), (((0 : Int), (0 : Int)), (0 : Int)))).1, (((IntKind.i64.wrap (v1 + (1 : Int))), ((((o500000.set v5.toNat (v1, ((((o500000.getD v5.toNat ((0 : Int), (((0 : Int), (0 : Int)), (0 : Int)))).2).1), ((o500000.getD v5.toNat ((0 : Int), (((0 : Int), (0 : Int)), (0 : Int)))).2).2))).getD v5.toNat ((0 : Int), (((0 : Int), (0 : Int)), (0 : Int)))).2).1).2), (((o500000.set v5.toNat (v1, ((((o500000.getD v5.toNat ((0 : Int), (((0 : Int), (0 : Int)), (0 : Int)))).2).1), ((o500000.getD v5.toNat ((0 : Int), (((0 : Int), (0 : Int)), (0 : Int)))).2).2))).getD v5.toNat ((0 : Int), (((0 : Int), (0 : Int)), (0 : Int)))).2).2))).length) then
                      (bif decide (0 ≤ v5) then
                        (bif decide (v5 < ((((o500000.set v5.toNat (v1, ((((o500000.getD v5.toNat ((0 : Int), (((0 : Int), (0 : Int)), (0 : Int)))).2).1), ((o500000.getD v5.toNat ((0 : Int), (((0 : Int), (0 : Int)), (0 : Int)))).2).2))).set v5.toNat (((o500000.set v5.toNat (v1, ((((o500000.getD v5.toNat ((0 : Int), (((0 : Int), (0 : Int)), (0 : Int)))).2).1), ((o500000.getD v5.toNat ((0 : Int), (((0 : Int), (0 : Int)), (0 : Int)))).2).2))).getD v5.toNat ((0 : Int), (((0 : Int), (0 : Int)), (0 : Int)))).1, (((IntKind.i64.wrap (v1 + (1 : Int))), ((((o500000.set v5.toNat (v1, ((((o500000.getD v5.toNat ((0 : Int), (((0 : Int), (0 : Int)), (0 : Int)))).2).1), ((o500000.getD v5.toNat ((0 : Int), (((0 : Int), (0 : Int)), (0 : Int)))).2).2))).getD v5.toNat ((0 : Int), (((0 : Int), (0 : Int)), (0 : Int)))).2).1).2), (((o500000.set v5.toNat (v1, ((((o500000.getD v5.toNat ((0 : Int), (((0 : Int), (0 : Int)), (0 : Int)))).2).1), ((o500000.getD v5.toNat ((0 : Int), (((0 : Int), (0 : Int)), (0 : Int)))).2).2))).getD v5.toNat ((0 : Int), (((0 : Int), (0 : Int)), (0 : Int)))).2).2))).set v5.toNat ((((o500000.set v5.toNat (v1, ((((o500000.getD v5.toNat ((0 : Int), (((0 : Int), (0 : Int)), (0 : Int)))).2).1), ((o500000.getD v5.toNat ((0 : Int), (((0 : Int), (0 : Int)), (0 : Int)))).2).2))).set v5.toNat (((o500000.set v5.toNat (v1, ((((o500000.getD v5.toNat ((0 : Int), (((0 : Int), (0 : Int)), (0 : Int)))).2).1), ((o500000.getD v5.toNat ((0 : Int), (((0 : Int), (0 : Int)), (0 : Int)))).2).2))).getD v5.toNat ((0 : Int), (((0 : Int), (0 : Int)), (0 : Int)))).1, (((IntKind.i64.wrap (v1 + (1 : Int))), ((((o500000.set v5.toNat (v1, ((((o500000.getD v5.toNat ((0 : Int), (((0 : Int), (0 : Int)), (0 : Int)))).2).1), ((o500000.getD v5.toNat ((0 : Int), (((0 : Int), (0 : Int)), (0 : Int)))).2).2))).getD v5.toNat ((0 : Int), (((0 : Int), (0 : Int)), (0 : Int)))).2).1).2), (((o500000.set v5.toNat (v1, ((((o500000.getD v5.toNat ((0 : Int), (((0 : Int), (0 : Int)), (0 : Int)))).2).1), ((o500000.getD v5.toNat ((0 : Int), (((0 : Int), (0 : Int)), (0 : Int)))).2).2))).getD v5.toNat ((0 : Int), (((0 : Int), (0 : Int)), (0 : Int)))).2).2))).getD v5.toNat ((0 : Int), (((0 : Int), (0 : Int)), (0 : Int)))).1, (((((((o500000.set v5.toNat (v1, ((((o500000.getD v5.toNat ((0 : Int), (((0 : Int), (0 : Int)), (0 : Int)))).2).1), ((o500000.getD v5.toNat ((0 : Int), (((0 : Int), (0 : Int)), (0 : Int)))).2).2))).set v5.toNat (((o500000.set v5.toNat (v1, ((((o500000.getD v5.toNat ((0 : Int), (((0 : Int), (0 : Int)), (0 : Int)))).2).1), ((o500000.getD v5.toNat ((0 : Int), (((0 : Int), (0 : Int)), (0 : Int)))).2).2))).getD v5.toNat ((0 : Int), (((0 : Int), (0 : Int)), (0 : Int)))).1, (((IntKind.i64.wrap (v1 + (1 : Int))), ((((o500000.set v5.toNat (v1, ((((o500000.getD v5.toNat ((0 : Int), (((0 : Int), (0 : Int)), (0 : Int)))).2).1), ((o500000.getD v5.toNat ((0 : Int), (((0 : Int), (0 : Int)), (0 : Int)))).2).2))).getD v5.toNat ((0 : Int), (((0 : Int), (0 : Int)), (0 : Int)))).2).1).2), (((o500000.set v5.toNat (v1, ((((o500000.getD v5.toNat ((0 : Int), (((0 : Int), (0 : Int)), (0 : Int)))).2).1), ((o500000.getD v5.toNat ((0 : Int), (((0 : Int), (0 : Int)), (0 : Int)))).2).2))).getD v5.toNat ((0 : Int), (((0 : Int), (0 : Int)), (0 : Int)))).2).2))).getD v5.toNat ((0 : Int), (((0 : Int), (0 : Int)), (0 : Int)))).2).1).1, (IntKind.i64.wrap ((IntKind.i64.wrap (v1 + (1 : Int))) + (1 : Int)))), ((((o500000.set v5.toNat (v1, ((((o500000.getD v5.toNat ((0 : Int), (((0 : Int), (0 : Int)), (0 : Int)))).2).1), ((o500000.getD v5.toNat ((0 : Int), (((0 : Int), (0 : Int)), (0 : Int)))).2).2))).set v5.toNat (((o500000.set v5.toNat (v1, ((((o500000.getD v5.toNat ((0 : Int), (((0 : Int), (0 : Int)), (0 : Int)))).2).1), ((o500000.getD v5.toNat ((0 : Int), (((0 : Int), (0 : Int)), (0 : Int)))).2).2))).getD v5.toNat ((0 : Int), (((0 : Int), (0 : Int)), (0 : Int)))).1, (((IntKind.i64.wrap (v1 + (1 : Int))), ((((o500000.set v5.toNat (v1, ((((o500000.getD v5.toNat ((0 : Int), (((0 : Int), (0 : Int)), (0 : Int)))).2).1), ((o500000.getD v5.toNat ((0 : Int), (((0 : Int), (0 : Int)), (0 : Int)))).2).2))).getD v5.toNat ((0 : Int), (((0 : Int), (0 : Int)), (0 : Int)))).2).1).2), (((o500000.set v5.toNat (v1, ((((o500000.getD v5.toNat ((0 : Int), (((0 : Int), (0 : Int)), (0 : Int)))).2).1), ((o500000.getD v5.toNat ((0 : Int), (((0 : Int), (0 : Int)), (0 : Int)))).2).2))).getD v5.toNat ((0 : Int), (((0 : Int), (0 : Int)), (0 : Int)))).2).2))).getD v5.toNat ((0 : Int), (((0 : Int), (0 : Int)), (0 : Int)))).2).2))).length : Int)) then
                          (bif decide (v5.toNat < (((o500000.set v5.toNat (v1, ((((o500000.getD v5.toNat ((0 : Int), (((0 : Int), (0 : Int)), (0 : Int)))).2).1), ((o500000.getD v5.toNat ((0 : Int), (((0 : Int), (0 : Int)), (0 : Int)))).2).2))).set v5.toNat (((o500000.set v5.toNat (v1, ((((o500000.getD v5.toNat ((0 : Int), (((0 : Int), (0 : Int)), (0 : Int)))).2).1), ((o500000.getD v5.toNat ((0 : Int), (((0 : Int), (0 : Int)), (0 : Int)))).2).2))).getD v5.toNat ((0 : Int), (((0 : Int), (0 : Int)), (0 : Int)))).1, (((IntKind.i64.wrap (v1 + (1 : Int))), ((((o500000.set v5.toNat (v1, ((((o500000.getD v5.toNat ((0 : Int), (((0 : Int), (0 : Int)), (0 : Int)))).2).1), ((o500000.getD v5.toNat ((0 : Int), (((0 : Int), (0 : Int)), (0 : Int)))).2).2))).getD v5.toNat ((0 : Int), (((0 : Int), (0 : Int)), (0 : Int)))).2).1).2), (((o500000.set v5.toNat (v1, ((((o500000.getD v5.toNat ((0 : Int), (((0 : Int), (0 : Int)), (0 : Int)))).2).1), ((o500000.getD v5.toNat ((0 : Int), (((0 : Int), (0 : Int)), (0 : Int)))).2).2))).getD v5.toNat ((0 : Int), (((0 : Int), (0 : Int)), (0 : Int)))).2).2))).set v5.toNat ((((o500000.set v5.toNat (v1, ((((o500000.getD v5.toNat ((0 : Int), (((0 : Int), (0 : Int)), (0 : Int)))).2).1), ((o500000.getD v5.toNat ((0 : Int), (((0 : Int), (0 : Int)), (0 : Int)))).2).2))).set v5.toNat (((o500000.set v5.toNat (v1, ((((o500000.getD v5.toNat ((0 : Int), (((0 : Int), (0 : Int)), (0 : Int)))).2).1), ((o500000.getD v5.toNat ((0 : Int), (((0 : Int), (0 : Int)), (0 : Int)))).2).2))).getD v5.toNat ((0 : Int), (((0 : Int), (0 : Int)), (0 : Int)))).1, (((IntKind.i64.wrap (v1 + (1 : Int))), ((((o500000.set v5.toNat (v1, ((((o500000.getD v5.toNat ((0 : Int), (((0 : Int), (0 : Int)), (0 : Int)))).2).1), ((o500000.getD v5.toNat ((0 : Int), (((0 : Int), (0 : Int)), (0 : Int)))).2).2))).getD v5.toNat ((0 : Int), (((0 : Int), (0 : Int)), (0 : Int)))).2).1).2), (((o500000.set v5.toNat (v1, ((((o500000.getD v5.toNat ((0 : Int), (((0 : Int), (0 : Int)), (0 : Int)))).2).1), ((o500000.getD v5.toNat ((0 : Int), (((0 : Int), (0 : Int)), (0 : Int)))).2).2))).getD v5.toNat ((0 : Int), (((0 : Int), (0 : Int)), (0 : Int)))).2).2))).getD v5.toNat ((0 : Int), (((0 : Int), (0 : Int)), (0 : Int)))).1, (((((((o500000.set v5.toNat (v1, ((((o500000.getD v5.toNat ((0 : Int), (((0 : Int), (0 : Int)), (0 : Int)))).2).1), ((o500000.getD v5.toNat ((0 : Int), (((0 : Int), (0 : Int)), (0 : Int)))).2).2))).set v5.toNat (((o500000.set v5.toNat (v1, ((((o500000.getD v5.toNat ((0 : Int), (((0 : Int), (0 : Int)), (0 : Int)))).2).1), ((o500000.getD v5.toNat ((0 : Int), (((0 : Int), (0 : Int)), (0 : Int)))).2).2))).getD v5.toNat ((0 : Int), (((0 : Int), (0 : Int)), (0 : Int)))).1, (((IntKind.i64.wrap (v1 + (1 : Int))), ((((o500000.set v5.toNat (v1, ((((o500000.getD v5.toNat ((0 : Int), (((0 : Int), (0 : Int)), (0 : Int)))).2).1), ((o500000.getD v5.toNat ((0 : Int), (((0 : Int), (0 : Int)), (0 : Int)))).2).2))).getD v5.toNat ((0 : Int), (((0 : Int), (0 : Int)), (0 : Int)))).2).1).2), (((o500000.set v5.toNat (v1, ((((o500000.getD v5.toNat ((0 : Int), (((0 : Int), (0 : Int)), (0 : Int)))).2).1), ((o500000.getD v5.toNat ((0 : Int), (((0 : Int), (0 : Int)), (0 : Int)))).2).2))).getD v5.toNat ((0 : Int), (((0 : Int), (0 : Int)), (0 : Int)))).2).2))).getD v5.toNat ((0 : Int), (((0 : Int), (0 : Int)), (0 : Int)))).2).1).1, (IntKind.i64.wrap ((IntKind.i64.wrap (v1 + (1 : Int))) + (1 : Int)))), ((((o500000.set v5.toNat (v1, ((((o500000.getD v5.toNat ((0 : Int), (((0 : Int), (0 : Int)), (0 : Int)))).2).1), ((o500000.getD v5.toNat ((0 : Int), (((0 : Int), (0 : Int)), (0 : Int)))).2).2))).set v5.toNat (((o500000.set v5.toNat (v1, ((((o500000.getD v5.toNat ((0 : Int), (((0 : Int), (0 : Int)), (0 : Int)))).2).1), ((o500000.getD v5.toNat ((0 : Int), (((0 : Int), (0 : Int)), (0 : Int)))).2).2))).getD v5.toNat ((0 : Int), (((0 : Int), (0 : Int)), (0 : Int)))).1, (((IntKind.i64.wrap (v1 + (1 : Int))), ((((o500000.set v5.toNat (v1, ((((o500000.getD v5.toNat ((0 : Int), (((0 : Int), (0 : Int)), (0 : Int)))).2).1), ((o500000.getD v5.toNat ((0 : Int), (((0 : Int), (0 : Int)), (0 : Int)))).2).2))).getD v5.toNat ((0 : Int), (((0 : Int), (0 : Int)), (0 : Int)))).2).1).2), (((o500000.set v5.toNat (v1, ((((o500000.getD v5.toNat ((0 : Int), (((0 : Int), (0 : Int)), (0 : Int)))).2).1), ((o500000.getD v5.toNat ((0 : Int), (((0 : Int), (0 : Int)), (0 : Int)))).2).2))).getD v5.toNat ((0 : Int), (((0 : Int), (0 : Int)), (0 : Int)))).2).2))).getD v5.toNat ((0 : Int), (((0 : Int), (0 : Int)), (0 : Int)))).2).2))).length) then
                            (w_markStepS_l2 k (IntKind.i64.wrap ((IntKind.i64.wrap ((IntKind.i64.wrap ((IntKind.i64.wrap (v1 + (1 : Int))) + (1 : Int))) + (1 : Int))) + (1 : Int))) (IntKind.i64.wrap (v5 + (1 : Int))) ((((o500000.set v5.toNat (v1, ((((o500000.getD v5.toNat ((0 : Int), (((0 : Int), (0 : Int)), (0 : Int)))).2).1), ((o500000.getD v5.toNat ((0 : Int), (((0 : Int), (0 : Int)), (0 : Int)))).2).2))).set v5.toNat (((o500000.set v5.toNat (v1, ((((o500000.getD v5.toNat ((0 : Int), (((0 : Int), (0 : Int)), (0 : Int)))).2).1), ((o500000.getD v5.toNat ((0 : Int), (((0 : Int), (0 : Int)), (0 : Int)))).2).2))).getD v5.toNat ((0 : Int), (((0 : Int), (0 : Int)), (0 : Int)))).1, (((IntKind.i64.wrap (v1 + (1 : Int))), ((((o500000.set v5.toNat (v1, ((((o500000.getD v5.toNat ((0 : Int), (((0 : Int), (0 : Int)), (0 : Int)))).2).1), ((o500000.getD v5.toNat ((0 : Int), (((0 : Int), (0 : Int)), (0 : Int)))).2).2))).getD v5.toNat ((0 : Int), (((0 : Int), (0 : Int)), (0 : Int)))).2).1).2), (((o500000.set v5.toNat (v1, ((((o500000.getD v5.toNat ((0 : Int), (((0 : Int), (0 : Int)), (0 : Int)))).2).1), ((o500000.getD v5.toNat ((0 : Int), (((0 : Int), (0 : Int)), (0 : Int)))).2).2))).getD v5.toNat ((0 : Int), (((0 : Int), (0 : Int)), (0 : Int)))).2).2))).set v5.toNat ((((o500000.set v5.toNat (v1, ((((o500000.getD v5.toNat ((0 : Int), (((0 : Int), (0 : Int)), (0 : Int)))).2).1), ((o500000.getD v5.toNat ((0 : Int), (((0 : Int), (0 : Int)), (0 : Int)))).2).2))).set v5.toNat (((o500000.set v5.toNat (v1, ((((o500000.getD v5.toNat ((0 : Int), (((0 : Int), (0 : Int)), (0 : Int)))).2).1), ((o500000.getD v5.toNat ((0 : Int), (((0 : Int), (0 : Int)), (0 : Int)))).2).2))).getD v5.toNat ((0 : Int), (((0 : Int), (0 : Int)), (0 : Int)))).1, (((IntKind.i64.wrap (v1 + (1 : Int))), ((((o500000.set v5.toNat (v1, ((((o500000.getD v5.toNat ((0 : Int), (((0 : Int), (0 : Int)), (0 : Int)))).2).1), ((o500000.getD v5.toNat ((0 : Int), (((0 : Int), (0 : Int)), (0 : Int)))).2).2))).getD v5.toNat ((0 : Int), (((0 : Int), (0 : Int)), (0 : Int)))).2).1).2), (((o500000.set v5.toNat (v1, ((((o500000.getD v5.toNat ((0 : Int), (((0 : Int), (0 : Int)), (0 : Int)))).2).1), ((o500000.getD v5.toNat ((0 : Int), (((0 : Int), (0 : Int)), (0 : Int)))).2).2))).getD v5.toNat ((0 : Int), (((0 : Int), (0 : Int)), (0 : Int)))).2).2))).getD v5.toNat ((0 : Int), (((0 : Int), (0 : Int)), (0 : Int)))).1, (((((((o500000.set v5.toNat (v1, ((((o500000.getD v5.toNat ((0 : Int), (((0 : Int), (0 : Int)), (0 : Int)))).2).1), ((o500000.getD v5.toNat ((0 : Int), (((0 : Int), (0 : Int)), (0 : Int)))).2).2))).set v5.toNat (((o500000.set v5.toNat (v1, ((((o500000.getD v5.toNat ((0 : Int), (((0 : Int), (0 : Int)), (0 : Int)))).2).1), ((o500000.getD v5.toNat ((0 : Int), (((0 : Int), (0 : Int)), (0 : Int)))).2).2))).getD v5.toNat ((0 : Int), (((0 : Int), (0 : Int)), (0 : Int)))).1, (((IntKind.i64.wrap (v1 + (1 : Int))), ((((o500000.set v5.toNat (v1, ((((o500000.getD v5.toNat ((0 : Int), (((0 : Int), (0 : Int)), (0 : Int)))).2).1), ((o500000.getD v5.toNat ((0 : Int), (((0 : Int), (0 : Int)), (0 : Int)))).2).2))).getD v5.toNat ((0 : Int), (((0 : Int), (0 : Int)), (0 : Int)))).2).1).2), (((o500000.set v5.toNat (v1, ((((o500000.getD v5.toNat ((0 : Int), (((0 : Int), (0 : Int)), (0 : Int)))).2).1), ((o500000.getD v5.toNat ((0 : Int), (((0 : Int), (0 : Int)), (0 : Int)))).2).2))).getD v5.toNat ((0 : Int), (((0 : Int), (0 : Int)), (0 : Int)))).2).2))).getD v5.toNat ((0 : Int), (((0 : Int), (0 : Int)), (0 : Int)))).2).1).1, (IntKind.i64.wrap ((IntKind.i64.wrap (v1 + (1 : Int))) + (1 : Int)))), ((((o500000.set v5.toNat (v1, ((((o500000.getD v5.toNat ((0 : Int), (((0 : Int), (0 : Int)), (0 : Int)))).2).1), ((o500000.getD v5.toNat ((0 : Int), (((0 : Int), (0 : Int)), (0 : Int)))).2).2))).set v5.toNat (((o500000.set v5.toNat (v1, ((((o500000.getD v5.toNat ((0 : Int), (((0 : Int), (0 : Int)), (0 : Int)))).2).1), ((o500000.getD v5.toNat ((0 : Int), (((0 : Int), (0 : Int)), (0 : Int)))).2).2))).getD v5.toNat ((0 : Int), (((0 : Int), (0 : Int)), (0 : Int)))).1, (((IntKind.i64.wrap (v1 + (1 : Int))), ((((o500000.set v5.toNat (v1, ((((o500000.getD v5.toNat ((0 : Int), (((0 : Int), (0 : Int)), (0 : Int)))).2).1), ((o500000.getD v5.toNat ((0 : Int), (((0 : Int), (0 : Int)), (0 : Int)))).2).2))).getD v5.toNat ((0 : Int), (((0 : Int), (0 : Int)), (0 : Int)))).2).1).2), (((o500000.set v5.toNat (v1, ((((o500000.getD v5.toNat ((0 : Int), (((0 : Int), (0 : Int)), (0 : Int)))).2).1), ((o500000.getD v5.toNat ((0 : Int), (((0 : Int), (0 : Int)), (0 : Int)))).2).2))).getD v5.toNat ((0 : Int), (((0 : Int), (0 : Int)), (0 : Int)))).2).2))).getD v5.toNat ((0 : Int), (((0 : Int), (0 : Int)), (0 : Int)))).2).2))).set v5.toNat (((((o500000.set v5.toNat (v1, ((((o500000.getD v5.toNat ((0 : Int), (((0 : Int), (0 : Int)), (0 : Int)))).2).1), ((o500000.getD v5.toNat ((0 : Int), (((0 : Int), (0 : Int)), (0 : Int)))).2).2))).set v5.toNat (((o500000.set v5.toNat (v1, ((((o500000.getD v5.toNat ((0 : Int), (((0 : Int), (0 : Int)), (0 : Int)))).2).1), ((o500000.getD v5.toNat ((0 : Int), (((0 : Int), (0 : Int)), (0 : Int)))).2).2))).getD v5.toNat ((0 : Int), (((0 : Int), (0 : Int)), (0 : Int)))).1, (((IntKind.i64.wrap (v1 + (1 : Int))), ((((o500000.set v5.toNat (v1, ((((o500000.getD v5.toNat ((0 : Int), (((0 : Int), (0 : Int)), (0 : Int)))).2).1), ((o500000.getD v5.toNat ((0 : Int), (((0 : Int), (0 : Int)), (0 : Int)))).2).2))).getD v5.toNat ((0 : Int), (((0 : Int), (0 : Int)), (0 : Int)))).2).1).2), (((o500000.set v5.toNat (v1, ((((o500000.getD v5.toNat ((0 : Int), (((0 : Int), (0 : Int)), (0 : Int)))).2).1), ((o500000.getD v5.toNat ((0 : Int), (((0 : Int), (0 : Int)), (0 : Int)))).2).2))).getD v5.toNat ((0 : Int), (((0 : Int), (0 : Int)), (0 : Int)))).2).2))).set v5.toNat ((((o500000.set v5.toNat (v1, ((((o500000.getD v5.toNat ((0 : Int), (((0 : Int), (0 : Int)), (0 : Int)))).2).1), ((o500000.getD v5.toNat ((0 : Int), (((0 : Int), (0 : Int)), (0 : Int)))).2).2))).set v5.toNat (((o500000.set v5.toNat (v1, ((((o500000.getD v5.toNat ((0 : Int), (((0 : Int), (0 : Int)), (0 : Int)))).2).1), ((o500000.getD v5.toNat ((0 : Int), (((0 : Int), (0 : Int)), (0 : Int)))).2).2))).getD v5.toNat ((0 : Int), (((0 : Int), (0 : Int)), (0 : Int)))).1, (((IntKind.i64.wrap (v1 + (1 : Int))), ((((o500000.set v5.toNat (v1, ((((o500000.getD v5.toNat ((0 : Int), (((0 : Int), (0 : Int)), (0 : Int)))).2).1), ((o500000.getD v5.toNat ((0 : Int), (((0 : Int), (0 : Int)), (0 : Int)))).2).2))).getD v5.toNat ((0 : Int), (((0 : Int), (0 : Int)), (0 : Int)))).2).1).2), (((o500000.set v5.toNat (v1, ((((o500000.getD v5.toNat ((0 : Int), (((0 : Int), (0 : Int)), (0 : Int)))).2).1), ((o500000.getD v5.toNat ((0 : Int), (((0 : Int), (0 : Int)), (0 : Int)))).2).2))).getD v5.toNat ((0 : Int), (((0 : Int), (0 : Int)), (0 : Int)))).2).2))).getD v5.toNat ((0 : Int), (((0 : Int), (0 : Int)), (0 : Int)))).1, (((((((o500000.set v5.toNat (v1, ((((o500000.getD v5.toNat ((0 : Int), (((0 : Int), (0 : Int)), (0 : Int)))).2).1), ((o500000.getD v5.toNat ((0 : Int), (((0 : Int), (0 : Int)), (0 : Int)))).2).2))).set v5.toNat (((o500000.set v5.toNat (v1, ((((o500000.getD v5.toNat ((0 : Int), (((0 : Int), (0 : Int)), (0 : Int)))).2).1), ((o500000.getD v5.toNat ((0 : Int), (((0 : Int), (0 : Int)), (0 : Int)))).2).2))).getD v5.toNat ((0 : Int), (((0 : Int), (0 : Int)), (0 : Int)))).1, (((IntKind.i64.wrap (v1 + (1 : Int))), ((((o500000.set v5.toNat (v1, ((((o500000.getD v5.toNat ((0 : Int), (((0 : Int), (0 : Int)), (0 : Int)))).2).1), ((o500000.getD v5.toNat ((0 : Int), (((0 : Int), (0 : Int)), (0 : Int)))).2).2))).getD v5.toNat ((0 : Int), (((0 : Int), (0 : Int)), (0 : Int)))).2).1).2), (((o500000.set v5.toNat (v1, ((((o500000.getD v5.toNat ((0 : Int), (((0 : Int), (0 : Int)), (0 : Int)))).2).1), ((o500000.getD v5.toNat ((0 : Int), (((0 : Int), (0 : Int)), (0 : Int)))).2).2))).getD v5.toNat ((0 : Int), (((0 : Int), (0 : Int)), (0 : Int)))).2).2))).getD v5.toNat ((0 : Int), (((0 : Int), (0 : Int)), (0 : Int)))).2).1).1, (IntKind.i64.wrap ((IntKind.i64.wrap (v1 + (1 : Int))) + (1 : Int)))), ((((o500000.set v5.toNat (v1, ((((o500000.getD v5.toNat ((0 : Int), (((0 : Int), (0 : Int)), (0 : Int)))).2).1), ((o500000.getD v5.toNat ((0 : Int), (((0 : Int), (0 : Int)), (0 : Int)))).2).2))).set v5.toNat (((o500000.set v5.toNat (v1, ((((o500000.getD v5.toNat ((0 : Int), (((0 : Int), (0 : Int)), (0 : Int)))).2).1), ((o500000.getD v5.toNat ((0 : Int), (((0 : Int), (0 : Int)), (0 : Int)))).2).2))).getD v5.toNat ((0 : Int), (((0 : Int), (0 : Int)), (0 : Int)))).1, (((IntKind.i64.wrap (v1 + (1 : Int))), ((((o500000.set v5.toNat (v1, ((((o500000.getD v5.toNat ((0 : Int), (((0 : Int), (0 : Int)), (0 : Int)))).2).1), ((o500000.getD v5.toNat ((0 : Int), (((0 : Int), (0 : Int)), (0 : Int)))).2).2))).getD v5.toNat ((0 : Int), (((0 : Int), (0 : Int)), (0 : Int)))).2).1).2), (((o500000.set v5.toNat (v1, ((((o500000.getD v5.toNat ((0 : Int), (((0 : Int), (0 : Int)), (0 : Int)))).2).1), ((o500000.getD v5.toNat ((0 : Int), (((0 : Int), (0 : Int)), (0 : Int)))).2).2))).getD v5.toNat ((0 : Int), (((0 : Int), (0 : Int)), (0 : Int)))).2).2))).getD v5.toNat ((0 : Int), (((0 : Int), (0 : Int)), (0 : Int)))).2).2))).getD v5.toNat ((0 : Int), (((0 : Int), (0 : Int)), (0 : Int)))).1, (((((((o500000.set v5.toNat (v1, ((((o500000.getD v5.toNat ((0 : Int), (((0 : Int), (0 : Int)), (0 : Int)))).2).1), ((o500000.getD v5.toNat ((0 : Int), (((0 : Int), (0 : Int)), (0 : Int)))).2).2))).set v5.toNat (((o500000.set v5.toNat (v1, ((((o500000.getD v5.toNat ((0 : Int), (((0 : Int), (0 : Int)), (0 : Int)))).2).1), ((o500000.getD v5.toNat ((0 : Int), (((0 : Int), (0 : Int)), (0 : Int)))).2).2))).getD v5.toNat ((0 : Int), (((0 : Int), (0 : Int)), (0 : Int)))).1, (((IntKind.i64.wrap (v1 + (1 : Int))), ((((o500000.set v5.toNat (v1, ((((o500000.getD v5.toNat ((0 : Int), (((0 : Int), (0 : Int)), (0 : Int)))).2).1), ((o500000.getD v5.toNat ((0 : Int), (((0 : Int), (0 : Int)), (0 : Int)))).2).2))).getD v5.toNat ((0 : Int), (((0 : Int), (0 : Int)), (0 : Int)))).2).1).2), (((o500000.set v5.toNat (v1, ((((o500000.getD v5.toNat ((0 : Int), (((0 : Int), (0 : Int)), (0 : Int)))).2).1), ((o500000.getD v5.toNat ((0 : Int), (((0 : Int), (0 : Int)), (0 : Int)))).2).2))).getD v5.toNat ((0 : Int), (((0 : Int), (0 : Int)), (0 : Int)))).2).2))).set v5.toNat ((((o500000.set v5.toNat (v1, ((((o500000.getD v5.toNat ((0 : Int), (((0 : Int), (0 : Int)), (0 : Int)))).2).1), ((o500000.getD v5.toNat ((0 : Int), (((0 : Int), (0 : Int)), (0 : Int)))).2).2))).set v5.toNat (((o500000.set v5.toNat (v1, ((((o500000.getD v5.toNat ((0 : Int), (((0 : Int), (0 : Int)), (0 : Int)))).2).1), ((o500000.getD v5.toNat ((0 : Int), (((0 : Int), (0 : Int)), (0 : Int)))).2).2))).getD v5.toNat ((0 : Int), (((0 : Int), (0 : Int)), (0 : Int)))).1, (((IntKind.i64.wrap (v1 + (1 : Int))), ((((o500000.set v5.toNat (v1, ((((o500000.getD v5.toNat ((0 : Int), (((0 : Int), (0 : Int)), (0 : Int)))).2).1), ((o500000.getD v5.toNat ((0 : Int), (((0 : Int), (0 : Int)), (0 : Int)))).2).2))).getD v5.toNat ((0 : Int), (((0 : Int), (0 : Int)), (0 : Int)))).2).1).2), (((o500000.set v5.toNat (v1, ((((o500000.getD v5.toNat ((0 : Int), (((0 : Int), (0 : Int)), (0 : Int)))).2).1), ((o500000.getD v5.toNat ((0 : Int), (((0 : Int), (0 : Int)), (0 : Int)))).2).2))).getD v5.toNat ((0 : Int), (((0 : Int), (0 : Int)), (0 : Int)))).2).2))).getD v5.toNat ((0 : Int), (((0 : Int), (0 : Int)), (0 : Int)))).1, (((((((o500000.set v5.toNat (v1, ((((o500000.getD v5.toNat ((0 : Int), (((0 : Int), (0 : Int)), (0 : Int)))).2).1), ((o500000.getD v5.toNat ((0 : Int), (((0 : Int), (0 : Int)), (0 : Int)))).2).2))).set v5.toNat (((o500000.set v5.toNat (v1, ((((o500000.getD v5.toNat ((0 : Int), (((0 : Int), (0 : Int)), (0 : Int)))).2).1), ((o500000.getD v5.toNat ((0 : Int), (((0 : Int), (0 : Int)), (0 : Int)))).2).2))).getD v5.toNat ((0 : Int), (((0 : Int), (0 : Int)), (0 : Int)))).1, (((IntKind.i64.wrap (v1 + (1 : Int))), ((((o500000.set v5.toNat (v1, ((((o500000.getD v5.toNat ((0 : Int), (((0 : Int), (0 : Int)), (0 : Int)))).2).1), ((o500000.getD v5.toNat ((0 : Int), (((0 : Int), (0 : Int)), (0 : Int)))).2).2))).getD v5.toNat ((0 : Int), (((0 : Int), (0 : Int)), (0 : Int)))).2).1).2), (((o500000.set v5.toNat (v1, ((((o500000.getD v5.toNat ((0 : Int), (((0 : Int), (0 : Int)), (0 : Int)))).2).1), ((o500000.getD v5.toNat ((0 : Int), (((0 : Int), (0 : Int)), (0 : Int)))).2).2))).getD v5.toNat ((0 : Int), (((0 : Int), (0 : Int)), (0 : Int)))).2).2))).getD v5.toNat ((0 : Int), (((0 : Int), (0 : Int)), (0 : Int)))).2).1).1, (IntKind.i64.wrap ((IntKind.i64.wrap (v1 + (1 : Int))) + (1 : Int)))), ((((o500000.set v5.toNat (v1, ((((o500000.getD v5.toNat ((0 : Int), (((0 : Int), (0 : Int)), (0 : Int)))).2).1), ((o500000.getD v5.toNat ((0 : Int), (((0 : Int), (0 : Int)), (0 : Int)))).2).2))).set v5.toNat (((o500000.set v5.toNat (v1, ((((o500000.getD v5.toNat ((0 : Int), (((0 : Int), (0 : Int)), (0 : Int)))).2).1), ((o500000.getD v5.toNat ((0 : Int), (((0 : Int), (0 : Int)), (0 : Int)))).2).2))).getD v5.toNat ((0 : Int), (((0 : Int), (0 : Int)), (0 : Int)))).1, (((IntKind.i64.wrap (v1 + (1 : Int))), ((((o500000.set v5.toNat (v1, ((((o500000.getD v5.toNat ((0 : Int), (((0 : Int), (0 : Int)), (0 : Int)))).2).1), ((o500000.getD v5.toNat ((0 : Int), (((0 : Int), (0 : Int)), (0 : Int)))).2).2))).getD v5.toNat ((0 : Int), (((0 : Int), (0 : Int)), (0 : Int)))).2).1).2), (((o500000.set v5.toNat (v1, ((((o500000.getD v5.toNat ((0 : Int), (((0 : Int), (0 : Int)), (0 : Int)))).2).1), ((o500000.getD v5.toNat ((0 : Int), (((0 : Int), (0 : Int)), (0 : Int)))).2).2))).getD v5.toNat ((0 : Int), (((0 : Int), (0 : Int)), (0 : Int)))).2).2))).getD v5.toNat ((0 : Int), (((0 : Int), (0 : Int)), (0 : Int)))).2).2))).getD v5.toNat ((0 : Int), (((0 : Int), (0 : Int)), (0 : Int)))).2).1), (IntKind.i64.wrap ((IntKind.i64.wrap ((IntKind.i64.wrap (v1 + (1 : Int))) + (1 : Int))) + (1 : Int)))))))
                          else (none))
                        else (none))
                      else (none))
                    else (none))
                  else (none))
                else (none))
              else (none))
            else (none))
          else (none))
        else (none))
      else (none))
    else (none))
  else (some (v1, o500000)) := by kernel_rfl
theorem w_markTrick_eq (k : Nat) (x0 : (List Int) × (List (Int × (Int × Int) × Int)) × Int × Int × Int) (x1 : Int) : w_markTrick (k + 1) (x0, x1) =
  (w_markIntS k (x0.1, x1)).bind fun y1 =>
  (w_markStepS k (x0.2.1, y1.1)).bind fun y2 =>
  some (y2.1, (y1.2, y2.2)) := by kernel_rfl
theorem w_markText_eq (k : Nat) (x0 : Int) : w_markText (k + 1) x0 =
  bif decide (x0 ≤ (0 : Int)) then
    (some (⟨#[109, 48]⟩ : ByteArray))
  else (w_markText_l4 k x0 (⟨#[]⟩ : ByteArray)) := by kernel_rfl
theorem w_markText_l4_eq (k : Nat) (v0 : Int) (v3 : ByteArray) : w_markText_l4 (k + 1) v0 v3 =
  bif decide (v0 > (0 : Int)) then
    (bif decide ((bytesStr [(IntKind.u8.wrap (IntKind.i64.wrap ((48 : Int) + (v0.tmod (10 : Int)))))]).size + v3.size ≤ 9223372036854775807) then
      (w_markText_l4 k (IntKind.i64.wrap (v0.tdiv (10 : Int))) ((bytesStr [(IntKind.u8.wrap (IntKind.i64.wrap ((48 : Int) + (v0.tmod (10 : Int)))))]) ++ v3))
    else (none))
  else (bif decide ((⟨#[109]⟩ : ByteArray).size + v3.size ≤ 9223372036854775807) then
      (some ((⟨#[109]⟩ : ByteArray) ++ v3))
    else (none)) := by kernel_rfl
theorem w_markStringS_eq (k : Nat) (x0 : List ByteArray) (x1 : Int) : w_markStringS (k + 1) (x0, x1) =
  w_markStringS_l2 k x1 (0 : Int) x0 := by kernel_rfl
theorem w_markStringS_l2_eq (k : Nat) (v1 : Int) (v5 : Int) (o500000 : List ByteArray) : w_markStringS_l2 (k + 1) v1 v5 o500000 =
  bif decide (v5 < (o500000.length : Int)) then
    ((w_markText k v1).bind fun y1 =>
    bif decide (0 ≤ v5) then
      (bif decide (v5 < (o500000.length : Int)) then
        (bif decide (v5.toNat < o500000.length) then
          (w_markStringS_l2 k (IntKind.i64.wrap (v1 + (1 : Int))) (IntKind.i64.wrap (v5 + (1 : Int))) (o500000.set v5.toNat y1))
        else (none))
      else (none))
    else (none))
  else (some (v1, o500000)) := by kernel_rfl
theorem w_heldStringS_eq (k : Nat) (x0 : List ByteArray) (x1 : Int) : w_heldStringS (k + 1) (x0, x1) =
  w_heldStringS_l2 k x0 x1 (0 : Int) := by kernel_rfl
theorem w_heldStringS_l2_eq (k : Nat) (v0 : List ByteArray) (v1 : Int) (v5 : Int) : w_heldStringS_l2 (k + 1) v0 v1 v5 =
  bif decide (v5 < (v0.length : Int)) then
    (bif decide (0 ≤ v5) then
      (bif decide (v5 < (v0.length : Int)) then
        ((w_markText k v1).bind fun y1 =>
        bif (!((v0.getD v5.toNat (⟨#[]⟩ : ByteArray)).toList == y1.toList)) then
          (some (-1 : Int))
        else (w_heldStringS_l2 k v0 (IntKind.i64.wrap (v1 + (1 : Int))) (IntKind.i64.wrap (v5 + (1 : Int)))))
      else (none))
    else (none))
  else (some v1) := by kernel_rfl
theorem w_FnExactTrickLines_eq (k : Nat) (x0 : (List Int) × (List (Int × (Int × Int) × Int)) × Int × Int × Int) : w_FnExactTrickLines (k + 1) x0 =
  (w_szTrick k (x0, (1048576 : Int))).bind fun y1 =>
  bif decide (y1 < (0 : Int)) then
    (some true)
  else ((w_toTrick k x0).bind fun y2 =>
    (s_TrickLines k y2).bind fun y3 =>
    (w_toTrick k x0).bind fun y4 =>
    (i_TrickLines k y4).bind fun y5 =>
    (w_eqStringS k (y5, y3)).bind fun y6 =>
    bif (!y6) then
      (some false)
    else ((w_toTrick k x0).bind fun y7 =>
      (w_eqTrick k (y4, y7)).bind fun y8 =>
      bif (!y8) then
        (some false)
      else ((w_markTrick k (y4, (1 : Int))).bind fun y9 =>
        bif decide (y9.1 < (0 : Int)) then
          (some false)
        else ((w_eqStringS k (y5, y3)).bind fun y10 =>
          bif (!y10) then
            (some false)
          else ((w_markStringS k (y5, (1 : Int))).bind fun y11 =>
            (w_heldStringS k (y11.2, (1 : Int))).bind fun y12 =>
            bif decide (y12 < (0 : Int)) then
              (some false)
            else (bif (!(y12 == y11.1)) then
                (some false)
              else ((w_toTrick k x0).bind fun y13 =>
                (i_TrickLines k y13).bind fun y14 =>
                (w_eqStringS k (y14, y3)).bind fun y15 =>
                bif (!y15) then
                  (some false)
                else ((w_heldStringS k (y11.2, (1 : Int))).bind fun y16 =>
                  bif decide (y16 < (0 : Int)) then
                    (some false)
                  else (bif (!(y16 == y11.1)) then
                      (some false)
                    else (some true)))))))))) := by kernel_rfl

/-! ### the tables are right -/
/-- What holds of the world throughout. -/
abbrev gw : World → Prop := fun w => Go.Lib.TabIs Go.Proofs.Tryd.prog w "internal/strconv.uint64pow10" .u64 Go.Lib.pow10Tab
theorem ty_3 : TyOk Go.Proofs.Tryd.prog 3 (.one (.int .i64)) := tyOk_int (by kernel_rfl) (by kernel_rfl) (by kernel_rfl)
theorem ty_4 : TyOk Go.Proofs.Tryd.prog 4 (.one (.bool)) := tyOk_bool (by kernel_rfl) (by kernel_rfl) (by kernel_rfl)
theorem ty_5 : TyOk Go.Proofs.Tryd.prog 5 (.one (.int .u8)) := tyOk_int (by kernel_rfl) (by kernel_rfl) (by kernel_rfl)
theorem ty_9 : TyOk Go.Proofs.Tryd.prog 9 (.one (.str)) := tyOk_str (by kernel_rfl) (by kernel_rfl) (by kernel_rfl)
theorem ty_22 : TyOk Go.Proofs.Tryd.prog 22 (.one (.slice (.int .u8))) := tyOk_slice (e := 5) (by kernel_rfl) (by kernel_rfl) (by kernel_rfl) (elemOk_of (by kernel_rfl) (by kernel_rfl) (by kernel_rfl))
theorem ty_25 : TyOk Go.Proofs.Tryd.prog 25 (.one (.slice (.int .i64))) := tyOk_slice (e := 3) (by kernel_rfl) (by kernel_rfl) (by kernel_rfl) (elemOk_of (by kernel_rfl) (by kernel_rfl) (by kernel_rfl))
theorem ty_39 : TyOk Go.Proofs.Tryd.prog 39 (.struct [(0, 3), (1, 3)] [.int .i64, .int .i64] true) := tyOk_struct (fields := Go.Proofs.Tryd.prog.fieldsOf 39) (by kernel_rfl) (by kernel_rfl) (by kernel_rfl) (by kernel_rfl) (by kernel_rfl) (by kernel_rfl) (fun _ => structEq_ok (d := 20) (fields := Go.Proofs.Tryd.prog.fieldsOf 39) (by kernel_rfl) (by kernel_rfl) (by decide) (by kernel_rfl))
theorem ty_41 : TyOk Go.Proofs.Tryd.prog 41 (.struct [(0, 3), (1, 39), (3, 3)] [.int .i64, .int .i64, .int .i64, .int .i64] true) := tyOk_struct (fields := Go.Proofs.Tryd.prog.fieldsOf 41) (by kernel_rfl) (by kernel_rfl) (by kernel_rfl) (by kernel_rfl) (by kernel_rfl) (by kernel_rfl) (fun _ => structEq_ok (d := 20) (fields := Go.Proofs.Tryd.prog.fieldsOf 41) (by kernel_rfl) (by kernel_rfl) (by decide) (by kernel_rfl))
theorem ty_45 : TyOk Go.Proofs.Tryd.prog 45 (.one (.slice (.pair (.int .i64) (.pair (.pair (.int .i64) (.int .i64)) (.int .i64))))) := tyOk_slice (e := 136) (by kernel_rfl) (by kernel_rfl) (by kernel_rfl) (elemOk_of (by kernel_rfl) (by kernel_rfl) (by kernel_rfl))
theorem ty_47 : TyOk Go.Proofs.Tryd.prog 47 (.struct [(0, 25), (1, 45), (2, 3), (3, 3), (4, 3)] [.slice (.int .i64), .slice (.pair (.int .i64) (.pair (.pair (.int .i64) (.int .i64)) (.int .i64))), .int .i64, .int .i64, .int .i64] false) := tyOk_struct (fields := Go.Proofs.Tryd.prog.fieldsOf 47) (by kernel_rfl) (by kernel_rfl) (by kernel_rfl) (by kernel_rfl) (by kernel_rfl) (by kernel_rfl) (fun e => by cases e)
theorem ty_49 : TyOk Go.Proofs.Tryd.prog 49 (.one (.slice (.str))) := tyOk_slice (e := 9) (by kernel_rfl) (by kernel_rfl) (by kernel_rfl) (elemOk_of (by kernel_rfl) (by kernel_rfl) (by kernel_rfl))
theorem ty_51 : TyOk Go.Proofs.Tryd.prog 51 (.one (.slice (.pair (.int .i64) (.pair (.pair (.int .i64) (.int .i64)) (.int .i64))))) := tyOk_slice (e := 41) (by kernel_rfl) (by kernel_rfl) (by kernel_rfl) (elemOk_of (by kernel_rfl) (by kernel_rfl) (by kernel_rfl))
theorem ty_53 : TyOk Go.Proofs.Tryd.prog 53 (.struct [(0, 25), (1, 51), (2, 3), (3, 3), (4, 3)] [.slice (.int .i64), .slice (.pair (.int .i64) (.pair (.pair (.int .i64) (.int .i64)) (.int .i64))), .int .i64, .int .i64, .int .i64] false) := tyOk_struct (fields := Go.Proofs.Tryd.prog.fieldsOf 53) (by kernel_rfl) (by kernel_rfl) (by kernel_rfl) (by kernel_rfl) (by kernel_rfl) (by kernel_rfl) (fun e => by cases e)
theorem ty_128 : TyOk Go.Proofs.Tryd.prog 128 (.arr 12 (.bool)) := tyOk_arr (e := 4) (by kernel_rfl) (elemOk_of (by kernel_rfl) (by kernel_rfl) (by kernel_rfl)) (by kernel_rfl) (by kernel_rfl)
theorem ty_134 : TyOk Go.Proofs.Tryd.prog 134 (.struct [(0, 3), (1, 3)] [.int .i64, .int .i64] true) := tyOk_struct (fields := Go.Proofs.Tryd.prog.fieldsOf 134) (by kernel_rfl) (by kernel_rfl) (by kernel_rfl) (by kernel_rfl) (by kernel_rfl) (by kernel_rfl) (fun _ => structEq_ok (d := 20) (fields := Go.Proofs.Tryd.prog.fieldsOf 134) (by kernel_rfl) (by kernel_rfl) (by decide) (by kernel_rfl))
theorem ty_136 : TyOk Go.Proofs.Tryd.prog 136 (.struct [(0, 3), (1, 134), (3, 3)] [.int .i64, .int .i64, .int .i64, .int .i64] true) := tyOk_struct (fields := Go.Proofs.Tryd.prog.fieldsOf 136) (by kernel_rfl) (by kernel_rfl) (by kernel_rfl) (by kernel_rfl) (by kernel_rfl) (by kernel_rfl) (fun _ => structEq_ok (d := 20) (fields := Go.Proofs.Tryd.prog.fieldsOf 136) (by kernel_rfl) (by kernel_rfl) (by decide) (by kernel_rfl))
theorem ty_1000022 : TyOk Go.Proofs.Tryd.prog 1000022 (.bytes) := tyOk_bytes (e := 5) (by kernel_rfl) (by kernel_rfl)
theorem hE : ∀ T ti, E.ty T = some ti → TyOk Go.Proofs.Tryd.prog T ti := lookT_ok (l := tyL) ⟨ty_3, ty_4, ty_5, ty_9, ty_22, ty_25, ty_39, ty_41, ty_45, ty_47, ty_49, ty_51, ty_53, ty_128, ty_134, ty_136, ty_1000022, trivial⟩
theorem w_szIntS_ok : OneF Go.Proofs.Tryd.prog gw 72 w_szIntS_fi := fnOk_of (fn := Go.Proofs.Tryd.f72) (c := w_szIntS_c) Go.Proofs.Tryd.func72 (by kernel_rfl) (by kernel_rfl) rfl rfl (by kernel_rfl) (by kernel_rfl) rfl
theorem w_szStepS_ok : OneF Go.Proofs.Tryd.prog gw 73 w_szStepS_fi := fnOk_of (fn := Go.Proofs.Tryd.f73) (c := w_szStepS_c) Go.Proofs.Tryd.func73 (by kernel_rfl) (by kernel_rfl) rfl rfl (by kernel_rfl) (by kernel_rfl) rfl
theorem w_szTrick_ok : OneF Go.Proofs.Tryd.prog gw 25 w_szTrick_fi := fnOk_of (fn := Go.Proofs.Tryd.f25) (c := w_szTrick_c) Go.Proofs.Tryd.func25 (by kernel_rfl) (by kernel_rfl) rfl rfl (by kernel_rfl) (by kernel_rfl) rfl
theorem w_toIntS_ok : OneF Go.Proofs.Tryd.prog gw 76 w_toIntS_fi := fnOk_of (fn := Go.Proofs.Tryd.f76) (c := w_toIntS_c) Go.Proofs.Tryd.func76 (by kernel_rfl) (by kernel_rfl) rfl rfl (by kernel_rfl) (by kernel_rfl) rfl
theorem w_toMove_ok : OneF Go.Proofs.Tryd.prog gw 150 w_toMove_fi := fnOk_of (fn := Go.Proofs.Tryd.f150) (c := w_toMove_c) Go.Proofs.Tryd.func150 (by kernel_rfl) (by kernel_rfl) rfl rfl (by kernel_rfl) (by kernel_rfl) rfl
theorem w_toStep_ok : OneF Go.Proofs.Tryd.prog gw 121 w_toStep_fi := fnOk_of (fn := Go.Proofs.Tryd.f121) (c := w_toStep_c) Go.Proofs.Tryd.func121 (by kernel_rfl) (by kernel_rfl) rfl rfl (by kernel_rfl) (by kernel_rfl) rfl
theorem w_toStepS_ok : OneF Go.Proofs.Tryd.prog gw 77 w_toStepS_fi := fnOk_of (fn := Go.Proofs.Tryd.f77) (c := w_toStepS_c) Go.Proofs.Tryd.func77 (by kernel_rfl) (by kernel_rfl) rfl rfl (by kernel_rfl) (by kernel_rfl) rfl
theorem w_toTrick_ok : OneF Go.Proofs.Tryd.prog gw 27 w_toTrick_fi := fnOk_of (fn := Go.Proofs.Tryd.f27) (c := w_toTrick_c) Go.Proofs.Tryd.func27 (by kernel_rfl) (by kernel_rfl) rfl rfl (by kernel_rfl) (by kernel_rfl) rfl
theorem s_l01In_ok : OneF Go.Proofs.Tryd.prog gw 60 s_l01In_fi := fnOk_of (fn := Go.Proofs.Tryd.f60) (c := s_l01In_c) Go.Proofs.Tryd.func60 (by kernel_rfl) (by kernel_rfl) rfl rfl (by kernel_rfl) (by kernel_rfl) rfl
theorem s_CardOf_ok : OneF Go.Proofs.Tryd.prog gw 109 s_CardOf_fi := fnOk_of (fn := Go.Proofs.Tryd.f109) (c := s_CardOf_c) Go.Proofs.Tryd.func109 (by kernel_rfl) (by kernel_rfl) rfl rfl (by kernel_rfl) (by kernel_rfl) rfl
theorem s_l02Has_ok : OneF Go.Proofs.Tryd.prog gw 137 s_l02Has_fi := fnOk_of (fn := Go.Proofs.Tryd.f137) (c := s_l02Has_c) Go.Proofs.Tryd.func137 (by kernel_rfl) (by kernel_rfl) rfl rfl (by kernel_rfl) (by kernel_rfl) rfl
theorem s_PacketOk_ok : OneF Go.Proofs.Tryd.prog gw 108 s_PacketOk_fi := fnOk_of (fn := Go.Proofs.Tryd.f108) (c := s_PacketOk_c) Go.Proofs.Tryd.func108 (by kernel_rfl) (by kernel_rfl) rfl rfl (by kernel_rfl) (by kernel_rfl) rfl
theorem s_MoveOk_ok : OneF Go.Proofs.Tryd.prog gw 142 s_MoveOk_fi := fnOk_of (fn := Go.Proofs.Tryd.f142) (c := s_MoveOk_c) Go.Proofs.Tryd.func142 (by kernel_rfl) (by kernel_rfl) rfl rfl (by kernel_rfl) (by kernel_rfl) rfl
theorem s_l16Choice_ok : OneF Go.Proofs.Tryd.prog gw 144 s_l16Choice_fi := fnOk_of (fn := Go.Proofs.Tryd.f144) (c := s_l16Choice_c) Go.Proofs.Tryd.func144 (by kernel_rfl) (by kernel_rfl) rfl rfl (by kernel_rfl) (by kernel_rfl) rfl
theorem s_StepOk_ok : OneF Go.Proofs.Tryd.prog gw 116 s_StepOk_fi := fnOk_of (fn := Go.Proofs.Tryd.f116) (c := s_StepOk_c) Go.Proofs.Tryd.func116 (by kernel_rfl) (by kernel_rfl) rfl rfl (by kernel_rfl) (by kernel_rfl) rfl
theorem s_PositionOf_ok : OneF Go.Proofs.Tryd.prog gw 149 s_PositionOf_fi := fnOk_of (fn := Go.Proofs.Tryd.f149) (c := s_PositionOf_c) Go.Proofs.Tryd.func149 (by kernel_rfl) (by kernel_rfl) rfl rfl (by kernel_rfl) (by kernel_rfl) rfl
theorem s_l16Claim_ok : OneF Go.Proofs.Tryd.prog gw 120 s_l16Claim_fi := fnOk_of (fn := Go.Proofs.Tryd.f120) (c := s_l16Claim_c) Go.Proofs.Tryd.func120 (by kernel_rfl) (by kernel_rfl) rfl rfl (by kernel_rfl) (by kernel_rfl) rfl
theorem s_TrickOk_ok : OneF Go.Proofs.Tryd.prog gw 74 s_TrickOk_fi := fnOk_of (fn := Go.Proofs.Tryd.f74) (c := s_TrickOk_c) Go.Proofs.Tryd.func74 (by kernel_rfl) (by kernel_rfl) rfl rfl (by kernel_rfl) (by kernel_rfl) rfl
theorem s_FormatInt_ok : OneF Go.Proofs.Tryd.prog gw 107 s_FormatInt_fi := fnOk_of (fn := Go.Proofs.Tryd.f107) (c := s_FormatInt_c) Go.Proofs.Tryd.func107 (by kernel_rfl) (by kernel_rfl) rfl rfl (by kernel_rfl) (by kernel_rfl) rfl
theorem s_IsUp_ok : OneF Go.Proofs.Tryd.prog gw 110 s_IsUp_fi := fnOk_of (fn := Go.Proofs.Tryd.f110) (c := s_IsUp_c) Go.Proofs.Tryd.func110 (by kernel_rfl) (by kernel_rfl) rfl rfl (by kernel_rfl) (by kernel_rfl) rfl
theorem s_Join_ok : OneF Go.Proofs.Tryd.prog gw 111 s_Join_fi := fnOk_of (fn := Go.Proofs.Tryd.f111) (c := s_Join_c) Go.Proofs.Tryd.func111 (by kernel_rfl) (by kernel_rfl) rfl rfl (by kernel_rfl) (by kernel_rfl) rfl
theorem s_FormatPacket_ok : OneF Go.Proofs.Tryd.prog gw 61 s_FormatPacket_fi := fnOk_of (fn := Go.Proofs.Tryd.f61) (c := s_FormatPacket_c) Go.Proofs.Tryd.func61 (by kernel_rfl) (by kernel_rfl) rfl rfl (by kernel_rfl) (by kernel_rfl) rfl
theorem s_ChoiceName_ok : OneF Go.Proofs.Tryd.prog gw 65 s_ChoiceName_fi := fnOk_of (fn := Go.Proofs.Tryd.f65) (c := s_ChoiceName_c) Go.Proofs.Tryd.func65 (by kernel_rfl) (by kernel_rfl) rfl rfl (by kernel_rfl) (by kernel_rfl) rfl
theorem s_l04Names_ok : OneF Go.Proofs.Tryd.prog gw 141 s_l04Names_fi := fnOk_of (fn := Go.Proofs.Tryd.f141) (c := s_l04Names_c) Go.Proofs.Tryd.func141 (by kernel_rfl) (by kernel_rfl) rfl rfl (by kernel_rfl) (by kernel_rfl) rfl
theorem s_MoveName_ok : OneF Go.Proofs.Tryd.prog gw 143 s_MoveName_fi := fnOk_of (fn := Go.Proofs.Tryd.f143) (c := s_MoveName_c) Go.Proofs.Tryd.func143 (by kernel_rfl) (by kernel_rfl) rfl rfl (by kernel_rfl) (by kernel_rfl) rfl
theorem s_FormatMove_ok : OneF Go.Proofs.Tryd.prog gw 115 s_FormatMove_fi := fnOk_of (fn := Go.Proofs.Tryd.f115) (c := s_FormatMove_c) Go.Proofs.Tryd.func115 (by kernel_rfl) (by kernel_rfl) rfl rfl (by kernel_rfl) (by kernel_rfl) rfl
theorem s_FormatStep_ok : OneF Go.Proofs.Tryd.prog gw 67 s_FormatStep_fi := fnOk_of (fn := Go.Proofs.Tryd.f67) (c := s_FormatStep_c) Go.Proofs.Tryd.func67 (by kernel_rfl) (by kernel_rfl) rfl rfl (by kernel_rfl) (by kernel_rfl) rfl
theorem s_FormatClaim_ok : OneF Go.Proofs.Tryd.prog gw 75 s_FormatClaim_fi := fnOk_of (fn := Go.Proofs.Tryd.f75) (c := s_FormatClaim_c) Go.Proofs.Tryd.func75 (by kernel_rfl) (by kernel_rfl) rfl rfl (by kernel_rfl) (by kernel_rfl) rfl
theorem s_TrickLines_ok : OneF Go.Proofs.Tryd.prog gw 26 s_TrickLines_fi := fnOk_of (fn := Go.Proofs.Tryd.f26) (c := s_TrickLines_c) Go.Proofs.Tryd.func26 (by kernel_rfl) (by kernel_rfl) rfl rfl (by kernel_rfl) (by kernel_rfl) rfl
theorem i_CardOf_ok : OneF Go.Proofs.Tryd.prog gw 49 i_CardOf_fi := fnOk_of (fn := Go.Proofs.Tryd.f49) (c := i_CardOf_c) Go.Proofs.Tryd.func49 (by kernel_rfl) (by kernel_rfl) rfl rfl (by kernel_rfl) (by kernel_rfl) rfl
theorem i_PacketOk_ok : OneF Go.Proofs.Tryd.prog gw 64 i_PacketOk_fi := fnOk_of (fn := Go.Proofs.Tryd.f64) (c := i_PacketOk_c) Go.Proofs.Tryd.func64 (by kernel_rfl) (by kernel_rfl) rfl rfl (by kernel_rfl) (by kernel_rfl) rfl
theorem i_MoveOk_ok : OneF Go.Proofs.Tryd.prog gw 147 i_MoveOk_fi := fnOk_of (fn := Go.Proofs.Tryd.f147) (c := i_MoveOk_c) Go.Proofs.Tryd.func147 (by kernel_rfl) (by kernel_rfl) rfl rfl (by kernel_rfl) (by kernel_rfl) rfl
theorem i_StepOk_ok : OneF Go.Proofs.Tryd.prog gw 119 i_StepOk_fi := fnOk_of (fn := Go.Proofs.Tryd.f119) (c := i_StepOk_c) Go.Proofs.Tryd.func119 (by kernel_rfl) (by kernel_rfl) rfl rfl (by kernel_rfl) (by kernel_rfl) rfl
theorem i_PositionOf_1_ok : OneF Go.Proofs.Tryd.prog gw 101 i_PositionOf_1_fi := fnOk_of (fn := Go.Proofs.Tryd.f101) (c := i_PositionOf_1_c) Go.Proofs.Tryd.func101 (by kernel_rfl) (by kernel_rfl) rfl rfl (by kernel_rfl) (by kernel_rfl) rfl
theorem slices_IndexFunc_int_of_i_PositionOf_1_ok : OneF Go.Proofs.Tryd.prog gw 100 slices_IndexFunc_int_of_i_PositionOf_1_fi := fnOk_of (fn := Go.Proofs.Tryd.f100) (c := slices_IndexFunc_int_of_i_PositionOf_1_c) Go.Proofs.Tryd.func100 (by kernel_rfl) (by kernel_rfl) rfl rfl (by kernel_rfl) (by kernel_rfl) rfl
theorem i_PositionOf_ok : OneF Go.Proofs.Tryd.prog gw 53 i_PositionOf_fi := fnOk_of (fn := Go.Proofs.Tryd.f53) (c := i_PositionOf_c) Go.Proofs.Tryd.func53 (by kernel_rfl) (by kernel_rfl) rfl rfl (by kernel_rfl) (by kernel_rfl) rfl
theorem i_TrickOk_ok : OneF Go.Proofs.Tryd.prog gw 78 i_TrickOk_fi := fnOk_of (fn := Go.Proofs.Tryd.f78) (c := i_TrickOk_c) Go.Proofs.Tryd.func78 (by kernel_rfl) (by kernel_rfl) rfl rfl (by kernel_rfl) (by kernel_rfl) rfl
theorem strconv_Itoa_ok : OneF Go.Proofs.Tryd.prog gw 105 strconv_Itoa_fi := itoa_ok Go.Proofs.Tryd.func105 (by kernel_rfl) (by kernel_rfl) (fun n w hw h0 h1 => Go.Proofs.Tryd.strconv_Itoa n h0 h1 w hw)
theorem i_FormatInt_ok : OneF Go.Proofs.Tryd.prog gw 57 i_FormatInt_fi := fnOk_of (fn := Go.Proofs.Tryd.f57) (c := i_FormatInt_c) Go.Proofs.Tryd.func57 (by kernel_rfl) (by kernel_rfl) rfl rfl (by kernel_rfl) (by kernel_rfl) rfl
theorem i_IsUp_ok : OneF Go.Proofs.Tryd.prog gw 122 i_IsUp_fi := fnOk_of (fn := Go.Proofs.Tryd.f122) (c := i_IsUp_c) Go.Proofs.Tryd.func122 (by kernel_rfl) (by kernel_rfl) rfl rfl (by kernel_rfl) (by kernel_rfl) rfl
theorem strings_Join_ok : OneF Go.Proofs.Tryd.prog gw 151 strings_Join_fi := join_ok Go.Proofs.Tryd.func151 (by kernel_rfl) (by kernel_rfl) (fun a c sep w => Go.Proofs.Tryd.strings_Join_none a c sep w) (fun bk o c xs sep w hc hb hN hcap hl => Go.Proofs.Tryd.strings_Join bk o c xs sep w hc hb hN hcap hl)
theorem i_Join_ok : OneF Go.Proofs.Tryd.prog gw 123 i_Join_fi := fnOk_of (fn := Go.Proofs.Tryd.f123) (c := i_Join_c) Go.Proofs.Tryd.func123 (by kernel_rfl) (by kernel_rfl) rfl rfl (by kernel_rfl) (by kernel_rfl) rfl
theorem i_FormatPacket_ok : OneF Go.Proofs.Tryd.prog gw 79 i_FormatPacket_fi := fnOk_of (fn := Go.Proofs.Tryd.f79) (c := i_FormatPacket_c) Go.Proofs.Tryd.func79 (by kernel_rfl) (by kernel_rfl) rfl rfl (by kernel_rfl) (by kernel_rfl) rfl
theorem i_moveNames_ok : OneF Go.Proofs.Tryd.prog gw 146 i_moveNames_fi := fnOk_of (fn := Go.Proofs.Tryd.f146) (c := i_moveNames_c) Go.Proofs.Tryd.func146 (by kernel_rfl) (by kernel_rfl) rfl rfl (by kernel_rfl) (by kernel_rfl) rfl
theorem i_MoveName_ok : OneF Go.Proofs.Tryd.prog gw 148 i_MoveName_fi := fnOk_of (fn := Go.Proofs.Tryd.f148) (c := i_MoveName_c) Go.Proofs.Tryd.func148 (by kernel_rfl) (by kernel_rfl) rfl rfl (by kernel_rfl) (by kernel_rfl) rfl
theorem i_FormatMove_ok : OneF Go.Proofs.Tryd.prog gw 118 i_FormatMove_fi := fnOk_of (fn := Go.Proofs.Tryd.f118) (c := i_FormatMove_c) Go.Proofs.Tryd.func118 (by kernel_rfl) (by kernel_rfl) rfl rfl (by kernel_rfl) (by kernel_rfl) rfl
theorem i_ChoiceName_ok : OneF Go.Proofs.Tryd.prog gw 69 i_ChoiceName_fi := fnOk_of (fn := Go.Proofs.Tryd.f69) (c := i_ChoiceName_c) Go.Proofs.Tryd.func69 (by kernel_rfl) (by kernel_rfl) rfl rfl (by kernel_rfl) (by kernel_rfl) rfl
theorem i_FormatStep_ok : OneF Go.Proofs.Tryd.prog gw 70 i_FormatStep_fi := fnOk_of (fn := Go.Proofs.Tryd.f70) (c := i_FormatStep_c) Go.Proofs.Tryd.func70 (by kernel_rfl) (by kernel_rfl) rfl rfl (by kernel_rfl) (by kernel_rfl) rfl
theorem i_FormatClaim_ok : OneF Go.Proofs.Tryd.prog gw 80 i_FormatClaim_fi := fnOk_of (fn := Go.Proofs.Tryd.f80) (c := i_FormatClaim_c) Go.Proofs.Tryd.func80 (by kernel_rfl) (by kernel_rfl) rfl rfl (by kernel_rfl) (by kernel_rfl) rfl
theorem i_TrickLines_ok : OneF Go.Proofs.Tryd.prog gw 28 i_TrickLines_fi := fnOk_of (fn := Go.Proofs.Tryd.f28) (c := i_TrickLines_c) Go.Proofs.Tryd.func28 (by kernel_rfl) (by kernel_rfl) rfl rfl (by kernel_rfl) (by kernel_rfl) rfl
theorem w_eqStringS_ok : OneF Go.Proofs.Tryd.prog gw 29 w_eqStringS_fi := fnOk_of (fn := Go.Proofs.Tryd.f29) (c := w_eqStringS_c) Go.Proofs.Tryd.func29 (by kernel_rfl) (by kernel_rfl) rfl rfl (by kernel_rfl) (by kernel_rfl) rfl
theorem w_eqIntS_ok : OneF Go.Proofs.Tryd.prog gw 19 w_eqIntS_fi := fnOk_of (fn := Go.Proofs.Tryd.f19) (c := w_eqIntS_c) Go.Proofs.Tryd.func19 (by kernel_rfl) (by kernel_rfl) rfl rfl (by kernel_rfl) (by kernel_rfl) rfl
theorem w_eqMove_ok : OneF Go.Proofs.Tryd.prog gw 71 w_eqMove_fi := fnOk_of (fn := Go.Proofs.Tryd.f71) (c := w_eqMove_c) Go.Proofs.Tryd.func71 (by kernel_rfl) (by kernel_rfl) rfl rfl (by kernel_rfl) (by kernel_rfl) rfl
theorem w_eqStep_ok : OneF Go.Proofs.Tryd.prog gw 24 w_eqStep_fi := fnOk_of (fn := Go.Proofs.Tryd.f24) (c := w_eqStep_c) Go.Proofs.Tryd.func24 (by kernel_rfl) (by kernel_rfl) rfl rfl (by kernel_rfl) (by kernel_rfl) rfl
theorem w_eqStepS_ok : OneF Go.Proofs.Tryd.prog gw 81 w_eqStepS_fi := fnOk_of (fn := Go.Proofs.Tryd.f81) (c := w_eqStepS_c) Go.Proofs.Tryd.func81 (by kernel_rfl) (by kernel_rfl) rfl rfl (by kernel_rfl) (by kernel_rfl) rfl
theorem w_eqTrick_ok : OneF Go.Proofs.Tryd.prog gw 30 w_eqTrick_fi := fnOk_of (fn := Go.Proofs.Tryd.f30) (c := w_eqTrick_c) Go.Proofs.Tryd.func30 (by kernel_rfl) (by kernel_rfl) rfl rfl (by kernel_rfl) (by kernel_rfl) rfl
theorem w_markIntS_ok : OneF Go.Proofs.Tryd.prog gw 20 w_markIntS_fi := fnOk_of (fn := Go.Proofs.Tryd.f20) (c := w_markIntS_c) Go.Proofs.Tryd.func20 (by kernel_rfl) (by kernel_rfl) rfl rfl (by kernel_rfl) (by kernel_rfl) rfl
theorem w_markStepS_ok : OneF Go.Proofs.Tryd.prog gw 82 w_markStepS_fi := fnOk_of (fn := Go.Proofs.Tryd.f82) (c := w_markStepS_c) Go.Proofs.Tryd.func82 (by kernel_rfl) (by kernel_rfl) rfl rfl (by kernel_rfl) (by kernel_rfl) rfl
theorem w_markTrick_ok : OneF Go.Proofs.Tryd.prog gw 31 w_markTrick_fi := fnOk_of (fn := Go.Proofs.Tryd.f31) (c := w_markTrick_c) Go.Proofs.Tryd.func31 (by kernel_rfl) (by kernel_rfl) rfl rfl (by kernel_rfl) (by kernel_rfl) rfl
theorem w_markText_ok : OneF Go.Proofs.Tryd.prog gw 83 w_markText_fi := fnOk_of (fn := Go.Proofs.Tryd.f83) (c := w_markText_c) Go.Proofs.Tryd.func83 (by kernel_rfl) (by kernel_rfl) rfl rfl (by kernel_rfl) (by kernel_rfl) rfl
theorem w_markStringS_ok : OneF Go.Proofs.Tryd.prog gw 32 w_markStringS_fi := fnOk_of (fn := Go.Proofs.Tryd.f32) (c := w_markStringS_c) Go.Proofs.Tryd.func32 (by kernel_rfl) (by kernel_rfl) rfl rfl (by kernel_rfl) (by kernel_rfl) rfl
theorem w_heldStringS_ok : OneF Go.Proofs.Tryd.prog gw 33 w_heldStringS_fi := fnOk_of (fn := Go.Proofs.Tryd.f33) (c := w_heldStringS_c) Go.Proofs.Tryd.func33 (by kernel_rfl) (by kernel_rfl) rfl rfl (by kernel_rfl) (by kernel_rfl) rfl
theorem w_FnExactTrickLines_ok : OneF Go.Proofs.Tryd.prog gw 6 w_FnExactTrickLines_fi := fnOk_of (fn := Go.Proofs.Tryd.f6) (c := w_FnExactTrickLines_c) Go.Proofs.Tryd.func6 (by kernel_rfl) (by kernel_rfl) rfl rfl (by kernel_rfl) (by kernel_rfl) rfl
theorem hF : FnOk Go.Proofs.Tryd.prog gw E := lookF_ok (l := fnL) ⟨w_szIntS_ok, w_szStepS_ok, w_szTrick_ok, w_toIntS_ok, w_toMove_ok, w_toStep_ok, w_toStepS_ok, w_toTrick_ok, s_l01In_ok, s_CardOf_ok, s_l02Has_ok, s_PacketOk_ok, s_MoveOk_ok, s_l16Choice_ok, s_StepOk_ok, s_PositionOf_ok, s_l16Claim_ok, s_TrickOk_ok, s_FormatInt_ok, s_IsUp_ok, s_Join_ok, s_FormatPacket_ok, s_ChoiceName_ok, s_l04Names_ok, s_MoveName_ok, s_FormatMove_ok, s_FormatStep_ok, s_FormatClaim_ok, s_TrickLines_ok, i_CardOf_ok, i_PacketOk_ok, i_MoveOk_ok, i_StepOk_ok, i_PositionOf_1_ok, slices_IndexFunc_int_of_i_PositionOf_1_ok, i_PositionOf_ok, i_TrickOk_ok, strconv_Itoa_ok, i_FormatInt_ok, i_IsUp_ok, strings_Join_ok, i_Join_ok, i_FormatPacket_ok, i_moveNames_ok, i_MoveName_ok, i_FormatMove_ok, i_ChoiceName_ok, i_FormatStep_ok, i_FormatClaim_ok, i_TrickLines_ok, w_eqStringS_ok, w_eqIntS_ok, w_eqMove_ok, w_eqStep_ok, w_eqStepS_ok, w_eqTrick_ok, w_markIntS_ok, w_markStepS_ok, w_markTrick_ok, w_markText_ok, w_markStringS_ok, w_heldStringS_ok, w_FnExactTrickLines_ok, trivial⟩
end Pt
