/-
  The plain machine's telling of functions of the program. Printed by gen.py.
  Conditions: none; these are definitions and equations that the kernel checks.
-/
import Derived.Test.YtlgkjckddpnfnaaXvza
import Derived.Test.YtlgkjckddpnfnaaProg
import Derived.Test.YtlgkjckddpnfnaaDel
namespace Pt
open Go Go.Vt
set_option linter.unusedVariables false
set_option maxRecDepth 100000

noncomputable def tyL : List (Nat × TI) := [(3, .one (.int .i64)),
  (4, .one (.bool)),
  (22, .one (.slice (.int .i64))),
  (23, .one (.slice (.pair (.int .i64) (.pair (.pair (.int .i64) (.int .i64)) (.int .i64))))),
  (25, .struct [(0, 22), (1, 23), (2, 3), (3, 3), (4, 3)] [.slice (.int .i64), .slice (.pair (.int .i64) (.pair (.pair (.int .i64) (.int .i64)) (.int .i64))), .int .i64, .int .i64, .int .i64] false),
  (27, .one (.slice (.pair (.int .i64) (.pair (.pair (.int .i64) (.int .i64)) (.int .i64))))),
  (29, .struct [(0, 22), (1, 27), (2, 3), (3, 3), (4, 3)] [.slice (.int .i64), .slice (.pair (.int .i64) (.pair (.pair (.int .i64) (.int .i64)) (.int .i64))), .int .i64, .int .i64, .int .i64] false),
  (40, .struct [(0, 3), (1, 3)] [.int .i64, .int .i64] true),
  (45, .struct [(0, 3), (1, 3)] [.int .i64, .int .i64] true),
  (54, .struct [(0, 3), (1, 40), (3, 3)] [.int .i64, .int .i64, .int .i64, .int .i64] true),
  (61, .struct [(0, 3), (1, 45), (3, 3)] [.int .i64, .int .i64, .int .i64, .int .i64] true),
  (121, .arr 12 (.bool))]

/-! ### w_szIntS -/
noncomputable def w_szIntS_c : Code := (Go.Proofs.Try.f52.body).getD .skip
noncomputable def w_szIntS_h : Nat → Option (List Hint)
  | _ => none
noncomputable def w_szIntS_fi : Fi := ⟨[.v (.slice (.int .i64)) false, .v (.int .i64) false], [(false, [⟨.int .i64, none⟩])], none, w_szIntS_c, Go.Proofs.Try.f52.results.toList, 12, w_szIntS_h⟩
/-! ### w_szStepS -/
noncomputable def w_szStepS_c : Code := (Go.Proofs.Try.f53.body).getD .skip
noncomputable def w_szStepS_h : Nat → Option (List Hint)
  | _ => none
noncomputable def w_szStepS_fi : Fi := ⟨[.v (.slice (.pair (.int .i64) (.pair (.pair (.int .i64) (.int .i64)) (.int .i64)))) false, .v (.int .i64) false], [(false, [⟨.int .i64, none⟩])], none, w_szStepS_c, Go.Proofs.Try.f53.results.toList, 12, w_szStepS_h⟩
/-! ### w_szTrick -/
noncomputable def w_szTrick_c : Code := (Go.Proofs.Try.f10.body).getD .skip
noncomputable def w_szTrick_h : Nat → Option (List Hint)
  | _ => none
noncomputable def w_szTrick_fi : Fi := ⟨[.v (.pair (.slice (.int .i64)) (.pair (.slice (.pair (.int .i64) (.pair (.pair (.int .i64) (.int .i64)) (.int .i64)))) (.pair (.int .i64) (.pair (.int .i64) (.int .i64))))) true, .v (.int .i64) false], [(false, [⟨.int .i64, none⟩])], none, w_szTrick_c, Go.Proofs.Try.f10.results.toList, 18, w_szTrick_h⟩
/-! ### w_toIntS -/
noncomputable def w_toIntS_c : Code := (Go.Proofs.Try.f40.body).getD .skip
noncomputable def w_toIntS_h : Nat → Option (List Hint)
  | 3 => some [.keep 0, .cell 3 (.row 100003 (.int .i64) true false), .keep 4]
  | _ => none
noncomputable def w_toIntS_fi : Fi := ⟨[.v (.slice (.int .i64)) false], [(false, [⟨.slice (.int .i64), some (true, false)⟩])], none, w_toIntS_c, Go.Proofs.Try.f40.results.toList, 22, w_toIntS_h⟩
/-! ### w_toMove -/
noncomputable def w_toMove_c : Code := (Go.Proofs.Try.f22.body).getD .skip
noncomputable def w_toMove_h : Nat → Option (List Hint)
  | _ => none
noncomputable def w_toMove_fi : Fi := ⟨[.v (.pair (.int .i64) (.int .i64)) true], [(true, [⟨.int .i64, none⟩, ⟨.int .i64, none⟩])], none, w_toMove_c, Go.Proofs.Try.f22.results.toList, 11, w_toMove_h⟩
/-! ### w_toStep -/
noncomputable def w_toStep_c : Code := (Go.Proofs.Try.f32.body).getD .skip
noncomputable def w_toStep_h : Nat → Option (List Hint)
  | _ => none
noncomputable def w_toStep_fi : Fi := ⟨[.v (.pair (.int .i64) (.pair (.pair (.int .i64) (.int .i64)) (.int .i64))) true], [(true, [⟨.int .i64, none⟩, ⟨.int .i64, none⟩, ⟨.int .i64, none⟩, ⟨.int .i64, none⟩])], none, w_toStep_c, Go.Proofs.Try.f32.results.toList, 15, w_toStep_h⟩
/-! ### w_toStepS -/
noncomputable def w_toStepS_c : Code := (Go.Proofs.Try.f57.body).getD .skip
noncomputable def w_toStepS_h : Nat → Option (List Hint)
  | 3 => some [.keep 0, .cell 3 (.row 100003 (.pair (.int .i64) (.pair (.pair (.int .i64) (.int .i64)) (.int .i64))) true false), .keep 4]
  | _ => none
noncomputable def w_toStepS_fi : Fi := ⟨[.v (.slice (.pair (.int .i64) (.pair (.pair (.int .i64) (.int .i64)) (.int .i64)))) false], [(false, [⟨.slice (.pair (.int .i64) (.pair (.pair (.int .i64) (.int .i64)) (.int .i64))), some (true, false)⟩])], none, w_toStepS_c, Go.Proofs.Try.f57.results.toList, 23, w_toStepS_h⟩
/-! ### w_toTrick -/
noncomputable def w_toTrick_c : Code := (Go.Proofs.Try.f12.body).getD .skip
noncomputable def w_toTrick_h : Nat → Option (List Hint)
  | _ => none
noncomputable def w_toTrick_fi : Fi := ⟨[.v (.pair (.slice (.int .i64)) (.pair (.slice (.pair (.int .i64) (.pair (.pair (.int .i64) (.int .i64)) (.int .i64)))) (.pair (.int .i64) (.pair (.int .i64) (.int .i64))))) true], [(true, [⟨.slice (.int .i64), some (true, false)⟩, ⟨.slice (.pair (.int .i64) (.pair (.pair (.int .i64) (.int .i64)) (.int .i64))), some (true, false)⟩, ⟨.int .i64, none⟩, ⟨.int .i64, none⟩, ⟨.int .i64, none⟩])], none, w_toTrick_c, Go.Proofs.Try.f12.results.toList, 22, w_toTrick_h⟩
/-! ### s_l01In -/
noncomputable def s_l01In_c : Code := (Go.Proofs.Try.f55.body).getD .skip
noncomputable def s_l01In_h : Nat → Option (List Hint)
  | _ => none
noncomputable def s_l01In_fi : Fi := ⟨[.v (.int .i64) false, .v (.int .i64) false, .v (.int .i64) false], [(false, [⟨.bool, none⟩])], none, s_l01In_c, Go.Proofs.Try.f55.results.toList, 15, s_l01In_h⟩
/-! ### s_CardOf -/
noncomputable def s_CardOf_c : Code := (Go.Proofs.Try.f122.body).getD .skip
noncomputable def s_CardOf_h : Nat → Option (List Hint)
  | _ => none
noncomputable def s_CardOf_fi : Fi := ⟨[.v (.int .i64) false], [(false, [⟨.int .i64, none⟩])], none, s_CardOf_c, Go.Proofs.Try.f122.results.toList, 10, s_CardOf_h⟩
/-! ### s_l02Has -/
noncomputable def s_l02Has_c : Code := (Go.Proofs.Try.f123.body).getD .skip
noncomputable def s_l02Has_h : Nat → Option (List Hint)
  | 2 => some [.keep 1, .keep 7, .keep 8, .keep 9]
  | _ => none
noncomputable def s_l02Has_fi : Fi := ⟨[.v (.slice (.int .i64)) false, .v (.int .i64) false], [(false, [⟨.bool, none⟩])], none, s_l02Has_c, Go.Proofs.Try.f123.results.toList, 17, s_l02Has_h⟩
/-! ### s_PacketOk -/
noncomputable def s_PacketOk_c : Code := (Go.Proofs.Try.f75.body).getD .skip
noncomputable def s_PacketOk_h : Nat → Option (List Hint)
  | 5 => some [.cell 3 (.row 100003 (.int .i64) true false), .keep 11, .keep 12, .keep 13]
  | _ => none
noncomputable def s_PacketOk_fi : Fi := ⟨[.v (.slice (.int .i64)) false], [(false, [⟨.bool, none⟩])], none, s_PacketOk_c, Go.Proofs.Try.f75.results.toList, 31, s_PacketOk_h⟩
/-! ### s_MoveOk -/
noncomputable def s_MoveOk_c : Code := (Go.Proofs.Try.f67.body).getD .skip
noncomputable def s_MoveOk_h : Nat → Option (List Hint)
  | _ => none
noncomputable def s_MoveOk_fi : Fi := ⟨[.v (.int .i64) false, .v (.pair (.int .i64) (.int .i64)) true], [(false, [⟨.bool, none⟩])], none, s_MoveOk_c, Go.Proofs.Try.f67.results.toList, 38, s_MoveOk_h⟩
/-! ### s_l16Choice -/
noncomputable def s_l16Choice_c : Code := (Go.Proofs.Try.f124.body).getD .skip
noncomputable def s_l16Choice_h : Nat → Option (List Hint)
  | _ => none
noncomputable def s_l16Choice_fi : Fi := ⟨[.v (.int .i64) false, .v (.int .i64) false], [(false, [⟨.bool, none⟩])], none, s_l16Choice_c, Go.Proofs.Try.f124.results.toList, 23, s_l16Choice_h⟩
/-! ### s_StepOk -/
noncomputable def s_StepOk_c : Code := (Go.Proofs.Try.f76.body).getD .skip
noncomputable def s_StepOk_h : Nat → Option (List Hint)
  | _ => none
noncomputable def s_StepOk_fi : Fi := ⟨[.v (.int .i64) false, .v (.pair (.int .i64) (.pair (.pair (.int .i64) (.int .i64)) (.int .i64))) true], [(false, [⟨.bool, none⟩])], none, s_StepOk_c, Go.Proofs.Try.f76.results.toList, 46, s_StepOk_h⟩
/-! ### s_PositionOf -/
noncomputable def s_PositionOf_c : Code := (Go.Proofs.Try.f133.body).getD .skip
noncomputable def s_PositionOf_h : Nat → Option (List Hint)
  | 2 => some [.keep 1, .keep 7, .keep 8, .keep 9]
  | _ => none
noncomputable def s_PositionOf_fi : Fi := ⟨[.v (.slice (.int .i64)) false, .v (.int .i64) false], [(false, [⟨.int .i64, none⟩])], none, s_PositionOf_c, Go.Proofs.Try.f133.results.toList, 24, s_PositionOf_h⟩
/-! ### s_l16Claim -/
noncomputable def s_l16Claim_c : Code := (Go.Proofs.Try.f97.body).getD .skip
noncomputable def s_l16Claim_h : Nat → Option (List Hint)
  | _ => none
noncomputable def s_l16Claim_fi : Fi := ⟨[.v (.pair (.slice (.int .i64)) (.pair (.slice (.pair (.int .i64) (.pair (.pair (.int .i64) (.int .i64)) (.int .i64)))) (.pair (.int .i64) (.pair (.int .i64) (.int .i64))))) true, .v (.int .i64) false, .v (.bool) false], [(false, [⟨.bool, none⟩])], none, s_l16Claim_c, Go.Proofs.Try.f97.results.toList, 61, s_l16Claim_h⟩
/-! ### s_TrickOk -/
noncomputable def s_TrickOk_c : Code := (Go.Proofs.Try.f54.body).getD .skip
noncomputable def s_TrickOk_h : Nat → Option (List Hint)
  | 6 => some [.box 1 200001 [.keep, .keep, .keep, .keep, .keep], .keep 3, .keep 4, .keep 25, .keep 26, .keep 27]
  | _ => none
noncomputable def s_TrickOk_fi : Fi := ⟨[.v (.pair (.slice (.int .i64)) (.pair (.slice (.pair (.int .i64) (.pair (.pair (.int .i64) (.int .i64)) (.int .i64)))) (.pair (.int .i64) (.pair (.int .i64) (.int .i64))))) true], [(false, [⟨.bool, none⟩])], none, s_TrickOk_c, Go.Proofs.Try.f54.results.toList, 46, s_TrickOk_h⟩
/-! ### s_l18Drop -/
noncomputable def s_l18Drop_c : Code := (Go.Proofs.Try.f56.body).getD .skip
noncomputable def s_l18Drop_h : Nat → Option (List Hint)
  | _ => none
noncomputable def s_l18Drop_fi : Fi := ⟨[.v (.pair (.slice (.int .i64)) (.pair (.slice (.pair (.int .i64) (.pair (.pair (.int .i64) (.int .i64)) (.int .i64)))) (.pair (.int .i64) (.pair (.int .i64) (.int .i64))))) true, .v (.int .i64) false], [(true, [⟨.slice (.int .i64), some (true, false)⟩, ⟨.slice (.pair (.int .i64) (.pair (.pair (.int .i64) (.int .i64)) (.int .i64))), some (true, false)⟩, ⟨.int .i64, none⟩, ⟨.int .i64, none⟩, ⟨.int .i64, none⟩])], none, s_l18Drop_c, Go.Proofs.Try.f56.results.toList, 24, s_l18Drop_h⟩
/-! ### s_DropStep -/
noncomputable def s_DropStep_c : Code := (Go.Proofs.Try.f11.body).getD .skip
noncomputable def s_DropStep_h : Nat → Option (List Hint)
  | _ => none
noncomputable def s_DropStep_fi : Fi := ⟨[.v (.pair (.slice (.int .i64)) (.pair (.slice (.pair (.int .i64) (.pair (.pair (.int .i64) (.int .i64)) (.int .i64)))) (.pair (.int .i64) (.pair (.int .i64) (.int .i64))))) true, .v (.int .i64) false], [(true, [⟨.slice (.int .i64), some (true, false)⟩, ⟨.slice (.pair (.int .i64) (.pair (.pair (.int .i64) (.int .i64)) (.int .i64))), some (true, false)⟩, ⟨.int .i64, none⟩, ⟨.int .i64, none⟩, ⟨.int .i64, none⟩]), (false, [⟨.bool, none⟩])], none, s_DropStep_c, Go.Proofs.Try.f11.results.toList, 28, s_DropStep_h⟩
/-! ### i_CardOf -/
noncomputable def i_CardOf_c : Code := (Go.Proofs.Try.f81.body).getD .skip
noncomputable def i_CardOf_h : Nat → Option (List Hint)
  | _ => none
noncomputable def i_CardOf_fi : Fi := ⟨[.v (.int .i64) false], [(false, [⟨.int .i64, none⟩])], none, i_CardOf_c, Go.Proofs.Try.f81.results.toList, 10, i_CardOf_h⟩
/-! ### i_PacketOk -/
noncomputable def i_PacketOk_c : Code := (Go.Proofs.Try.f78.body).getD .skip
noncomputable def i_PacketOk_h : Nat → Option (List Hint)
  | 3 => some [.arr 3 400003, .keep 7, .keep 8, .keep 9]
  | _ => none
noncomputable def i_PacketOk_fi : Fi := ⟨[.v (.slice (.int .i64)) false], [(false, [⟨.bool, none⟩])], none, i_PacketOk_c, Go.Proofs.Try.f78.results.toList, 25, i_PacketOk_h⟩
/-! ### i_MoveOk -/
noncomputable def i_MoveOk_c : Code := (Go.Proofs.Try.f70.body).getD .skip
noncomputable def i_MoveOk_h : Nat → Option (List Hint)
  | _ => none
noncomputable def i_MoveOk_fi : Fi := ⟨[.v (.int .i64) false, .v (.pair (.int .i64) (.int .i64)) true], [(false, [⟨.bool, none⟩])], none, i_MoveOk_c, Go.Proofs.Try.f70.results.toList, 45, i_MoveOk_h⟩
/-! ### i_StepOk -/
noncomputable def i_StepOk_c : Code := (Go.Proofs.Try.f79.body).getD .skip
noncomputable def i_StepOk_h : Nat → Option (List Hint)
  | _ => none
noncomputable def i_StepOk_fi : Fi := ⟨[.v (.int .i64) false, .v (.pair (.int .i64) (.pair (.pair (.int .i64) (.int .i64)) (.int .i64))) true], [(false, [⟨.bool, none⟩])], none, i_StepOk_c, Go.Proofs.Try.f79.results.toList, 75, i_StepOk_h⟩
/-! ### i_PositionOf_1 -/
noncomputable def i_PositionOf_1_c : Code := (Go.Proofs.Try.f135.body).getD .skip
noncomputable def i_PositionOf_1_h : Nat → Option (List Hint)
  | _ => none
noncomputable def i_PositionOf_1_fi : Fi := ⟨[.v (.int .i64) false, .r (.int .i64)], [(false, [⟨.bool, none⟩])], none, i_PositionOf_1_c, Go.Proofs.Try.f135.results.toList, 8, i_PositionOf_1_h⟩
/-! ### slices_IndexFunc_int_of_i_PositionOf_1 -/
noncomputable def slices_IndexFunc_int_of_i_PositionOf_1_c : Code := (Go.Proofs.Try.f134.body).getD .skip
noncomputable def slices_IndexFunc_int_of_i_PositionOf_1_h : Nat → Option (List Hint)
  | 2 => some [.keep 0, .keep 1, .keep 7, .keep 8]
  | _ => none
noncomputable def slices_IndexFunc_int_of_i_PositionOf_1_fi : Fi := ⟨[.v (.slice (.int .i64)) false, .fn 135 [.int .i64]], [(false, [⟨.int .i64, none⟩])], none, slices_IndexFunc_int_of_i_PositionOf_1_c, Go.Proofs.Try.f134.results.toList, 19, slices_IndexFunc_int_of_i_PositionOf_1_h⟩
/-! ### i_PositionOf -/
noncomputable def i_PositionOf_c : Code := (Go.Proofs.Try.f98.body).getD .skip
noncomputable def i_PositionOf_h : Nat → Option (List Hint)
  | _ => none
noncomputable def i_PositionOf_fi : Fi := ⟨[.v (.slice (.int .i64)) false, .v (.int .i64) false], [(false, [⟨.int .i64, none⟩])], none, i_PositionOf_c, Go.Proofs.Try.f98.results.toList, 10, i_PositionOf_h⟩
/-! ### i_TrickOk -/
noncomputable def i_TrickOk_c : Code := (Go.Proofs.Try.f58.body).getD .skip
noncomputable def i_TrickOk_h : Nat → Option (List Hint)
  | 6 => some [.box 1 200001 [.keep, .keep, .keep, .keep, .keep], .keep 3, .keep 4, .keep 25, .keep 26, .keep 27]
  | _ => none
noncomputable def i_TrickOk_fi : Fi := ⟨[.v (.pair (.slice (.int .i64)) (.pair (.slice (.pair (.int .i64) (.pair (.pair (.int .i64) (.int .i64)) (.int .i64)))) (.pair (.int .i64) (.pair (.int .i64) (.int .i64))))) true], [(false, [⟨.bool, none⟩])], none, i_TrickOk_c, Go.Proofs.Try.f58.results.toList, 109, i_TrickOk_h⟩
/-! ### slices_Clone_int -/
noncomputable def slices_Clone_int_c : Code := (Go.Proofs.Try.f80.body).getD .skip
noncomputable def slices_Clone_int_h : Nat → Option (List Hint)
  | _ => none
noncomputable def slices_Clone_int_fi : Fi := ⟨[.v (.slice (.int .i64)) false], [(false, [⟨.slice (.int .i64), some (true, false)⟩])], none, slices_Clone_int_c, Go.Proofs.Try.f80.results.toList, 8, slices_Clone_int_h⟩
/-! ### slices_Clone_i_Step -/
noncomputable def slices_Clone_i_Step_c : Code := (Go.Proofs.Try.f99.body).getD .skip
noncomputable def slices_Clone_i_Step_h : Nat → Option (List Hint)
  | _ => none
noncomputable def slices_Clone_i_Step_fi : Fi := ⟨[.v (.slice (.pair (.int .i64) (.pair (.pair (.int .i64) (.int .i64)) (.int .i64)))) false], [(false, [⟨.slice (.pair (.int .i64) (.pair (.pair (.int .i64) (.int .i64)) (.int .i64))), some (true, false)⟩])], none, slices_Clone_i_Step_c, Go.Proofs.Try.f99.results.toList, 8, slices_Clone_i_Step_h⟩
/-! ### i_copyTrick -/
noncomputable def i_copyTrick_c : Code := (Go.Proofs.Try.f59.body).getD .skip
noncomputable def i_copyTrick_h : Nat → Option (List Hint)
  | _ => none
noncomputable def i_copyTrick_fi : Fi := ⟨[.v (.pair (.slice (.int .i64)) (.pair (.slice (.pair (.int .i64) (.pair (.pair (.int .i64) (.int .i64)) (.int .i64)))) (.pair (.int .i64) (.pair (.int .i64) (.int .i64))))) true], [(true, [⟨.slice (.int .i64), some (true, false)⟩, ⟨.slice (.pair (.int .i64) (.pair (.pair (.int .i64) (.int .i64)) (.int .i64))), some (true, false)⟩, ⟨.int .i64, none⟩, ⟨.int .i64, none⟩, ⟨.int .i64, none⟩])], none, i_copyTrick_c, Go.Proofs.Try.f59.results.toList, 12, i_copyTrick_h⟩
/-! ### slices_Delete_i_Step -/
noncomputable abbrev slices_Delete_i_Step_fi : Fi := (deleteFi (.pair (.int .i64) (.pair (.pair (.int .i64) (.int .i64)) (.int .i64))))
/-! ### i_DropStep -/
noncomputable def i_DropStep_c : Code := (Go.Proofs.Try.f13.body).getD .skip
noncomputable def i_DropStep_h : Nat → Option (List Hint)
  | _ => none
noncomputable def i_DropStep_fi : Fi := ⟨[.v (.pair (.slice (.int .i64)) (.pair (.slice (.pair (.int .i64) (.pair (.pair (.int .i64) (.int .i64)) (.int .i64)))) (.pair (.int .i64) (.pair (.int .i64) (.int .i64))))) true, .v (.int .i64) false], [(true, [⟨.slice (.int .i64), some (true, false)⟩, ⟨.slice (.pair (.int .i64) (.pair (.pair (.int .i64) (.int .i64)) (.int .i64))), some (false, false)⟩, ⟨.int .i64, none⟩, ⟨.int .i64, none⟩, ⟨.int .i64, none⟩]), (false, [⟨.bool, none⟩])], none, i_DropStep_c, Go.Proofs.Try.f13.results.toList, 36, i_DropStep_h⟩
/-! ### w_eqIntS -/
noncomputable def w_eqIntS_c : Code := (Go.Proofs.Try.f42.body).getD .skip
noncomputable def w_eqIntS_h : Nat → Option (List Hint)
  | 4 => some [.keep 0, .keep 1, .keep 5]
  | _ => none
noncomputable def w_eqIntS_fi : Fi := ⟨[.v (.slice (.int .i64)) false, .v (.slice (.int .i64)) false], [(false, [⟨.bool, none⟩])], none, w_eqIntS_c, Go.Proofs.Try.f42.results.toList, 26, w_eqIntS_h⟩
/-! ### w_eqMove -/
noncomputable def w_eqMove_c : Code := (Go.Proofs.Try.f136.body).getD .skip
noncomputable def w_eqMove_h : Nat → Option (List Hint)
  | _ => none
noncomputable def w_eqMove_fi : Fi := ⟨[.v (.pair (.int .i64) (.int .i64)) true, .v (.pair (.int .i64) (.int .i64)) true], [(false, [⟨.bool, none⟩])], none, w_eqMove_c, Go.Proofs.Try.f136.results.toList, 15, w_eqMove_h⟩
/-! ### w_eqStep -/
noncomputable def w_eqStep_c : Code := (Go.Proofs.Try.f100.body).getD .skip
noncomputable def w_eqStep_h : Nat → Option (List Hint)
  | _ => none
noncomputable def w_eqStep_fi : Fi := ⟨[.v (.pair (.int .i64) (.pair (.pair (.int .i64) (.int .i64)) (.int .i64))) true, .v (.pair (.int .i64) (.pair (.pair (.int .i64) (.int .i64)) (.int .i64))) true], [(false, [⟨.bool, none⟩])], none, w_eqStep_c, Go.Proofs.Try.f100.results.toList, 21, w_eqStep_h⟩
/-! ### w_eqStepS -/
noncomputable def w_eqStepS_c : Code := (Go.Proofs.Try.f61.body).getD .skip
noncomputable def w_eqStepS_h : Nat → Option (List Hint)
  | 4 => some [.keep 0, .keep 1, .keep 5]
  | _ => none
noncomputable def w_eqStepS_fi : Fi := ⟨[.v (.slice (.pair (.int .i64) (.pair (.pair (.int .i64) (.int .i64)) (.int .i64)))) false, .v (.slice (.pair (.int .i64) (.pair (.pair (.int .i64) (.int .i64)) (.int .i64)))) false], [(false, [⟨.bool, none⟩])], none, w_eqStepS_c, Go.Proofs.Try.f61.results.toList, 27, w_eqStepS_h⟩
/-! ### w_eqTrick -/
noncomputable def w_eqTrick_c : Code := (Go.Proofs.Try.f14.body).getD .skip
noncomputable def w_eqTrick_h : Nat → Option (List Hint)
  | _ => none
noncomputable def w_eqTrick_fi : Fi := ⟨[.v (.pair (.slice (.int .i64)) (.pair (.slice (.pair (.int .i64) (.pair (.pair (.int .i64) (.int .i64)) (.int .i64)))) (.pair (.int .i64) (.pair (.int .i64) (.int .i64))))) true, .v (.pair (.slice (.int .i64)) (.pair (.slice (.pair (.int .i64) (.pair (.pair (.int .i64) (.int .i64)) (.int .i64)))) (.pair (.int .i64) (.pair (.int .i64) (.int .i64))))) true], [(false, [⟨.bool, none⟩])], none, w_eqTrick_c, Go.Proofs.Try.f14.results.toList, 32, w_eqTrick_h⟩
/-! ### w_markIntS -/
noncomputable def w_markIntS_c : Code := (Go.Proofs.Try.f43.body).getD .skip
noncomputable def w_markIntS_h : Nat → Option (List Hint)
  | 2 => some [.cell 0 (.row 500000 (.int .i64) true false), .keep 1, .keep 5]
  | _ => none
noncomputable def w_markIntS_fi : Fi := ⟨[.o [.o (.int .i64) true] false, .v (.int .i64) false], [(false, [⟨.int .i64, none⟩])], none, w_markIntS_c, Go.Proofs.Try.f43.results.toList, 19, w_markIntS_h⟩
/-! ### w_markStepS -/
noncomputable def w_markStepS_c : Code := (Go.Proofs.Try.f62.body).getD .skip
noncomputable def w_markStepS_h : Nat → Option (List Hint)
  | 2 => some [.cell 0 (.row 500000 (.pair (.int .i64) (.pair (.pair (.int .i64) (.int .i64)) (.int .i64))) true false), .keep 1, .keep 5]
  | _ => none
noncomputable def w_markStepS_fi : Fi := ⟨[.o [.o (.pair (.int .i64) (.pair (.pair (.int .i64) (.int .i64)) (.int .i64))) true] false, .v (.int .i64) false], [(false, [⟨.int .i64, none⟩])], none, w_markStepS_c, Go.Proofs.Try.f62.results.toList, 43, w_markStepS_h⟩
/-! ### w_markTrick -/
noncomputable def w_markTrick_c : Code := (Go.Proofs.Try.f15.body).getD .skip
noncomputable def w_markTrick_h : Nat → Option (List Hint)
  | _ => none
noncomputable def w_markTrick_fi : Fi := ⟨[.o [.o (.int .i64) true, .o (.pair (.int .i64) (.pair (.pair (.int .i64) (.int .i64)) (.int .i64))) true, .v (.int .i64), .v (.int .i64), .v (.int .i64)] true, .v (.int .i64) false], [(false, [⟨.int .i64, none⟩])], none, w_markTrick_c, Go.Proofs.Try.f15.results.toList, 14, w_markTrick_h⟩
/-! ### w_heldIntS -/
noncomputable def w_heldIntS_c : Code := (Go.Proofs.Try.f63.body).getD .skip
noncomputable def w_heldIntS_h : Nat → Option (List Hint)
  | 2 => some [.keep 0, .keep 1, .keep 5]
  | _ => none
noncomputable def w_heldIntS_fi : Fi := ⟨[.v (.slice (.int .i64)) false, .v (.int .i64) false], [(false, [⟨.int .i64, none⟩])], none, w_heldIntS_c, Go.Proofs.Try.f63.results.toList, 21, w_heldIntS_h⟩
/-! ### w_heldStepS -/
noncomputable def w_heldStepS_c : Code := (Go.Proofs.Try.f64.body).getD .skip
noncomputable def w_heldStepS_h : Nat → Option (List Hint)
  | 2 => some [.keep 0, .keep 1, .keep 5]
  | _ => none
noncomputable def w_heldStepS_fi : Fi := ⟨[.v (.slice (.pair (.int .i64) (.pair (.pair (.int .i64) (.int .i64)) (.int .i64)))) false, .v (.int .i64) false], [(false, [⟨.int .i64, none⟩])], none, w_heldStepS_c, Go.Proofs.Try.f64.results.toList, 51, w_heldStepS_h⟩
/-! ### w_heldTrick -/
noncomputable def w_heldTrick_c : Code := (Go.Proofs.Try.f16.body).getD .skip
noncomputable def w_heldTrick_h : Nat → Option (List Hint)
  | _ => none
noncomputable def w_heldTrick_fi : Fi := ⟨[.v (.pair (.slice (.int .i64)) (.pair (.slice (.pair (.int .i64) (.pair (.pair (.int .i64) (.int .i64)) (.int .i64)))) (.pair (.int .i64) (.pair (.int .i64) (.int .i64))))) true, .v (.int .i64) false], [(false, [⟨.int .i64, none⟩])], none, w_heldTrick_c, Go.Proofs.Try.f16.results.toList, 18, w_heldTrick_h⟩
/-! ### w_FnExactDropStep -/
noncomputable def w_FnExactDropStep_c : Code := (Go.Proofs.Try.f3.body).getD .skip
noncomputable def w_FnExactDropStep_h : Nat → Option (List Hint)
  | _ => none
noncomputable def w_FnExactDropStep_fi : Fi := ⟨[.v (.pair (.slice (.int .i64)) (.pair (.slice (.pair (.int .i64) (.pair (.pair (.int .i64) (.int .i64)) (.int .i64)))) (.pair (.int .i64) (.pair (.int .i64) (.int .i64))))) true, .v (.int .i64) false], [(false, [⟨.bool, none⟩])], none, w_FnExactDropStep_c, Go.Proofs.Try.f3.results.toList, 101, w_FnExactDropStep_h⟩
/-! ### s_l18Cut -/
noncomputable def s_l18Cut_c : Code := (Go.Proofs.Try.f65.body).getD .skip
noncomputable def s_l18Cut_h : Nat → Option (List Hint)
  | _ => none
noncomputable def s_l18Cut_fi : Fi := ⟨[.v (.pair (.int .i64) (.pair (.pair (.int .i64) (.int .i64)) (.int .i64))) true], [(false, [⟨.bool, none⟩])], none, s_l18Cut_c, Go.Proofs.Try.f65.results.toList, 12, s_l18Cut_h⟩
/-! ### s_JoinMoves -/
noncomputable def s_JoinMoves_c : Code := (Go.Proofs.Try.f17.body).getD .skip
noncomputable def s_JoinMoves_h : Nat → Option (List Hint)
  | 6 => some [.box 2 200002 [.keep, .keep, .keep, .keep, .keep], .keep 4, .box 5 200005 [.row 300500 (.int .i64) true false, .row 300501 (.pair (.int .i64) (.pair (.pair (.int .i64) (.int .i64)) (.int .i64))) true true, .keep, .keep, .keep], .keep 29, .keep 30, .keep 31]
  | _ => none
noncomputable def s_JoinMoves_fi : Fi := ⟨[.v (.pair (.slice (.int .i64)) (.pair (.slice (.pair (.int .i64) (.pair (.pair (.int .i64) (.int .i64)) (.int .i64)))) (.pair (.int .i64) (.pair (.int .i64) (.int .i64))))) true], [(true, [⟨.slice (.int .i64), some (true, false)⟩, ⟨.slice (.pair (.int .i64) (.pair (.pair (.int .i64) (.int .i64)) (.int .i64))), some (true, true)⟩, ⟨.int .i64, none⟩, ⟨.int .i64, none⟩, ⟨.int .i64, none⟩]), (false, [⟨.bool, none⟩])], none, s_JoinMoves_c, Go.Proofs.Try.f17.results.toList, 85, s_JoinMoves_h⟩
/-! ### i_JoinMoves -/
noncomputable def i_JoinMoves_c : Code := (Go.Proofs.Try.f18.body).getD .skip
noncomputable def i_JoinMoves_h : Nat → Option (List Hint)
  | 5 => some [.box 1 200001 [.keep, .keep, .keep, .keep, .keep], .box 2 200002 [.keep, .keep, .keep, .keep, .keep], .box 4 200004 [.row 300400 (.int .i64) true false, .row 300401 (.pair (.int .i64) (.pair (.pair (.int .i64) (.int .i64)) (.int .i64))) false false, .keep, .keep, .keep], .keep 5]
  | _ => none
noncomputable def i_JoinMoves_fi : Fi := ⟨[.v (.pair (.slice (.int .i64)) (.pair (.slice (.pair (.int .i64) (.pair (.pair (.int .i64) (.int .i64)) (.int .i64)))) (.pair (.int .i64) (.pair (.int .i64) (.int .i64))))) true], [(true, [⟨.slice (.int .i64), some (true, false)⟩, ⟨.slice (.pair (.int .i64) (.pair (.pair (.int .i64) (.int .i64)) (.int .i64))), some (false, false)⟩, ⟨.int .i64, none⟩, ⟨.int .i64, none⟩, ⟨.int .i64, none⟩]), (false, [⟨.bool, none⟩])], none, i_JoinMoves_c, Go.Proofs.Try.f18.results.toList, 86, i_JoinMoves_h⟩
/-! ### w_FnExactJoinMoves -/
noncomputable def w_FnExactJoinMoves_c : Code := (Go.Proofs.Try.f4.body).getD .skip
noncomputable def w_FnExactJoinMoves_h : Nat → Option (List Hint)
  | _ => none
noncomputable def w_FnExactJoinMoves_fi : Fi := ⟨[.v (.pair (.slice (.int .i64)) (.pair (.slice (.pair (.int .i64) (.pair (.pair (.int .i64) (.int .i64)) (.int .i64)))) (.pair (.int .i64) (.pair (.int .i64) (.int .i64))))) true], [(false, [⟨.bool, none⟩])], none, w_FnExactJoinMoves_c, Go.Proofs.Try.f4.results.toList, 96, w_FnExactJoinMoves_h⟩

noncomputable def fnL : List (Nat × List Nat × Fi) := [(52, [], w_szIntS_fi),
  (53, [], w_szStepS_fi),
  (10, [], w_szTrick_fi),
  (40, [], w_toIntS_fi),
  (22, [], w_toMove_fi),
  (32, [], w_toStep_fi),
  (57, [], w_toStepS_fi),
  (12, [], w_toTrick_fi),
  (55, [], s_l01In_fi),
  (122, [], s_CardOf_fi),
  (123, [], s_l02Has_fi),
  (75, [], s_PacketOk_fi),
  (67, [], s_MoveOk_fi),
  (124, [], s_l16Choice_fi),
  (76, [], s_StepOk_fi),
  (133, [], s_PositionOf_fi),
  (97, [], s_l16Claim_fi),
  (54, [], s_TrickOk_fi),
  (56, [], s_l18Drop_fi),
  (11, [], s_DropStep_fi),
  (81, [], i_CardOf_fi),
  (78, [], i_PacketOk_fi),
  (70, [], i_MoveOk_fi),
  (79, [], i_StepOk_fi),
  (135, [], i_PositionOf_1_fi),
  (134, [135], slices_IndexFunc_int_of_i_PositionOf_1_fi),
  (98, [], i_PositionOf_fi),
  (58, [], i_TrickOk_fi),
  (80, [], slices_Clone_int_fi),
  (99, [], slices_Clone_i_Step_fi),
  (59, [], i_copyTrick_fi),
  (60, [], slices_Delete_i_Step_fi),
  (13, [], i_DropStep_fi),
  (42, [], w_eqIntS_fi),
  (136, [], w_eqMove_fi),
  (100, [], w_eqStep_fi),
  (61, [], w_eqStepS_fi),
  (14, [], w_eqTrick_fi),
  (43, [], w_markIntS_fi),
  (62, [], w_markStepS_fi),
  (15, [], w_markTrick_fi),
  (63, [], w_heldIntS_fi),
  (64, [], w_heldStepS_fi),
  (16, [], w_heldTrick_fi),
  (3, [], w_FnExactDropStep_fi),
  (65, [], s_l18Cut_fi),
  (17, [], s_JoinMoves_fi),
  (18, [], i_JoinMoves_fi),
  (4, [], w_FnExactJoinMoves_fi)]
noncomputable def E : Env := ⟨lookT tyL, lookF fnL⟩

noncomputable def w_szIntS (k : Nat) (x : (List Int) × Int) : Option (Int) := aFn E w_szIntS_fi k x
noncomputable def w_szStepS (k : Nat) (x : (List (Int × (Int × Int) × Int)) × Int) : Option (Int) := aFn E w_szStepS_fi k x
noncomputable def w_szTrick (k : Nat) (x : ((List Int) × (List (Int × (Int × Int) × Int)) × Int × Int × Int) × Int) : Option (Int) := aFn E w_szTrick_fi k x
noncomputable def w_toIntS (k : Nat) (x : List Int) : Option (List Int) := aFn E w_toIntS_fi k x
noncomputable def w_toIntS_l3 (k : Nat) (v0 : List Int) (v4 : Int) (o100003 : List Int) : Option (List Int) := aRun E k w_toIntS_fi.rs (ioOf w_toIntS_fi.ps) w_toIntS_fi.res w_toIntS_fi.hints [.code (sub w_toIntS_c [1, 1, 0, 1, 0, 0, 0, 0]), .code (sub w_toIntS_c [1, 1, 0, 1, 0, 0, 0, 1]), .code (sub w_toIntS_c [1, 1, 0, 1, 0, 0, 1]), .inLoop (sub w_toIntS_c [1, 1, 0, 1, 0, 0]), .inBlock 0, .code (sub w_toIntS_c [1, 1, 1])] ⟨[.cv (.val (.slice (.int .i64)) v0), .cv .dead, .cv .dead, .cv (.own 100003), .cv (.val (.int .i64) v4), .cv .dead, .cv .dead, .cv .dead, .cv .dead, .cv .dead, .cv .dead, .cv .dead, .cv .dead, .cv .dead, .cv .dead, .cv .dead, .cv .dead, .cv .dead, .cv .dead, .cv .dead, .cv .dead, .cv .dead], [(100003, .row (.int .i64) o100003 true false)], true⟩
noncomputable def w_toMove (k : Nat) (x : Int × Int) : Option (Int × Int) := aFn E w_toMove_fi k x
noncomputable def w_toStep (k : Nat) (x : Int × (Int × Int) × Int) : Option (Int × Int × Int × Int) := aFn E w_toStep_fi k x
noncomputable def w_toStepS (k : Nat) (x : List (Int × (Int × Int) × Int)) : Option (List (Int × (Int × Int) × Int)) := aFn E w_toStepS_fi k x
noncomputable def w_toStepS_l3 (k : Nat) (v0 : List (Int × (Int × Int) × Int)) (v4 : Int) (o100003 : List (Int × (Int × Int) × Int)) : Option (List (Int × (Int × Int) × Int)) := aRun E k w_toStepS_fi.rs (ioOf w_toStepS_fi.ps) w_toStepS_fi.res w_toStepS_fi.hints [.code (sub w_toStepS_c [1, 1, 0, 1, 0, 0, 0, 0]), .code (sub w_toStepS_c [1, 1, 0, 1, 0, 0, 0, 1]), .code (sub w_toStepS_c [1, 1, 0, 1, 0, 0, 1]), .inLoop (sub w_toStepS_c [1, 1, 0, 1, 0, 0]), .inBlock 0, .code (sub w_toStepS_c [1, 1, 1])] ⟨[.cv (.val (.slice (.pair (.int .i64) (.pair (.pair (.int .i64) (.int .i64)) (.int .i64)))) v0), .cv .dead, .cv .dead, .cv (.own 100003), .cv (.val (.int .i64) v4), .cv .dead, .cv .dead, .cv .dead, .cv .dead, .cv .dead, .cv .dead, .cv .dead, .cv .dead, .cv .dead, .cv .dead, .cv .dead, .cv .dead, .cv .dead, .cv .dead, .cv .dead, .cv .dead, .cv .dead, .cv .dead], [(100003, .row (.pair (.int .i64) (.pair (.pair (.int .i64) (.int .i64)) (.int .i64))) o100003 true false)], true⟩
noncomputable def w_toTrick (k : Nat) (x : (List Int) × (List (Int × (Int × Int) × Int)) × Int × Int × Int) : Option ((List Int) × (List (Int × (Int × Int) × Int)) × Int × Int × Int) := aFn E w_toTrick_fi k x
noncomputable def s_l01In (k : Nat) (x : Int × Int × Int) : Option (Bool) := aFn E s_l01In_fi k x
noncomputable def s_CardOf (k : Nat) (x : Int) : Option (Int) := aFn E s_CardOf_fi k x
noncomputable def s_l02Has (k : Nat) (x : (List Int) × Int) : Option (Bool) := aFn E s_l02Has_fi k x
noncomputable def s_l02Has_l2 (k : Nat) (v1 : Int) (v7 : List Int) (v8 : Int) (v9 : Int) : Option (Bool) := aRun E k s_l02Has_fi.rs (ioOf s_l02Has_fi.ps) s_l02Has_fi.res s_l02Has_fi.hints [.code (sub s_l02Has_c [1, 0, 1, 0, 0, 0]), .code (sub s_l02Has_c [1, 0, 1, 0, 0, 1]), .inLoop (sub s_l02Has_c [1, 0, 1, 0, 0]), .inBlock 0, .code (sub s_l02Has_c [1, 1])] ⟨[.cv .dead, .cv (.val (.int .i64) v1), .cv .dead, .cv .dead, .cv .dead, .cv .dead, .cv .dead, .cv (.val (.slice (.int .i64)) v7), .cv (.val (.int .i64) v8), .cv (.val (.int .i64) v9), .cv .dead, .cv .dead, .cv .dead, .cv .dead, .cv .dead, .cv .dead, .cv .dead], [], true⟩
noncomputable def s_PacketOk (k : Nat) (x : List Int) : Option (Bool) := aFn E s_PacketOk_fi k x
noncomputable def s_PacketOk_l5 (k : Nat) (v11 : List Int) (v12 : Int) (v13 : Int) (o100003 : List Int) : Option (Bool) := aRun E k s_PacketOk_fi.rs (ioOf s_PacketOk_fi.ps) s_PacketOk_fi.res s_PacketOk_fi.hints [.code (sub s_PacketOk_c [1, 1, 1, 0, 1, 0, 0, 0]), .code (sub s_PacketOk_c [1, 1, 1, 0, 1, 0, 0, 1]), .inLoop (sub s_PacketOk_c [1, 1, 1, 0, 1, 0, 0]), .inBlock 0, .code (sub s_PacketOk_c [1, 1, 1, 1])] ⟨[.cv .dead, .cv .dead, .cv .dead, .cv (.own 100003), .cv .dead, .cv .dead, .cv .dead, .cv .dead, .cv .dead, .cv .dead, .cv .dead, .cv (.val (.slice (.int .i64)) v11), .cv (.val (.int .i64) v12), .cv (.val (.int .i64) v13), .cv .dead, .cv .dead, .cv .dead, .cv .dead, .cv .dead, .cv .dead, .cv .dead, .cv .dead, .cv .dead, .cv .dead, .cv .dead, .cv .dead, .cv .dead, .cv .dead, .cv .dead, .cv .dead, .cv .dead], [(100003, .row (.int .i64) o100003 true false)], true⟩
noncomputable def s_MoveOk (k : Nat) (x : Int × Int × Int) : Option (Bool) := aFn E s_MoveOk_fi k x
noncomputable def s_l16Choice (k : Nat) (x : Int × Int) : Option (Bool) := aFn E s_l16Choice_fi k x
noncomputable def s_StepOk (k : Nat) (x : Int × Int × (Int × Int) × Int) : Option (Bool) := aFn E s_StepOk_fi k x
noncomputable def s_PositionOf (k : Nat) (x : (List Int) × Int) : Option (Int) := aFn E s_PositionOf_fi k x
noncomputable def s_PositionOf_l2 (k : Nat) (v1 : Int) (v7 : List Int) (v8 : Int) (v9 : Int) : Option (Int) := aRun E k s_PositionOf_fi.rs (ioOf s_PositionOf_fi.ps) s_PositionOf_fi.res s_PositionOf_fi.hints [.code (sub s_PositionOf_c [1, 0, 1, 0, 0, 0]), .code (sub s_PositionOf_c [1, 0, 1, 0, 0, 1]), .inLoop (sub s_PositionOf_c [1, 0, 1, 0, 0]), .inBlock 0, .code (sub s_PositionOf_c [1, 1])] ⟨[.cv .dead, .cv (.val (.int .i64) v1), .cv .dead, .cv .dead, .cv .dead, .cv .dead, .cv .dead, .cv (.val (.slice (.int .i64)) v7), .cv (.val (.int .i64) v8), .cv (.val (.int .i64) v9), .cv .dead, .cv .dead, .cv .dead, .cv .dead, .cv .dead, .cv .dead, .cv .dead, .cv .dead, .cv .dead, .cv .dead, .cv .dead, .cv .dead, .cv .dead, .cv .dead], [], true⟩
noncomputable def s_l16Claim (k : Nat) (x : ((List Int) × (List (Int × (Int × Int) × Int)) × Int × Int × Int) × Int × Bool) : Option (Bool) := aFn E s_l16Claim_fi k x
noncomputable def s_TrickOk (k : Nat) (x : (List Int) × (List (Int × (Int × Int) × Int)) × Int × Int × Int) : Option (Bool) := aFn E s_TrickOk_fi k x
noncomputable def s_TrickOk_l6 (k : Nat) (v3 : Int) (v4 : Bool) (v25 : List (Int × (Int × Int) × Int)) (v26 : Int) (v27 : Int) (o200001_0 : List Int) (o200001_1 : List (Int × (Int × Int) × Int)) (o200001_2 : Int) (o200001_3 : Int) (o200001_4 : Int) : Option (Bool) := aRun E k s_TrickOk_fi.rs (ioOf s_TrickOk_fi.ps) s_TrickOk_fi.res s_TrickOk_fi.hints [.code (sub s_TrickOk_c [1, 1, 1, 1, 0, 1, 0, 0, 0]), .code (sub s_TrickOk_c [1, 1, 1, 1, 0, 1, 0, 0, 1]), .inLoop (sub s_TrickOk_c [1, 1, 1, 1, 0, 1, 0, 0]), .inBlock 0, .code (sub s_TrickOk_c [1, 1, 1, 1, 1])] ⟨[.cv .dead, .adr 200001 0, .cv .dead, .cv (.val (.int .i64) v3), .cv (.val (.bool) v4), .cv .dead, .cv .dead, .cv .dead, .cv .dead, .cv .dead, .cv .dead, .cv .dead, .cv .dead, .cv .dead, .cv .dead, .cv .dead, .cv .dead, .cv .dead, .cv .dead, .cv .dead, .cv .dead, .cv .dead, .cv .dead, .cv .dead, .cv .dead, .cv (.val (.slice (.pair (.int .i64) (.pair (.pair (.int .i64) (.int .i64)) (.int .i64)))) v25), .cv (.val (.int .i64) v26), .cv (.val (.int .i64) v27), .cv .dead, .cv .dead, .cv .dead, .cv .dead, .cv .dead, .cv .dead, .cv .dead, .cv .dead, .cv .dead, .cv .dead, .cv .dead, .cv .dead, .cv .dead, .cv .dead, .cv .dead, .cv .dead, .cv .dead, .cv .dead], [(200001, .box [.val (.slice (.int .i64)) o200001_0, .val (.slice (.pair (.int .i64) (.pair (.pair (.int .i64) (.int .i64)) (.int .i64)))) o200001_1, .val (.int .i64) o200001_2, .val (.int .i64) o200001_3, .val (.int .i64) o200001_4])], true⟩
noncomputable def s_l18Drop (k : Nat) (x : ((List Int) × (List (Int × (Int × Int) × Int)) × Int × Int × Int) × Int) : Option ((List Int) × (List (Int × (Int × Int) × Int)) × Int × Int × Int) := aFn E s_l18Drop_fi k x
noncomputable def s_DropStep (k : Nat) (x : ((List Int) × (List (Int × (Int × Int) × Int)) × Int × Int × Int) × Int) : Option ((List Int) × (List (Int × (Int × Int) × Int)) × Int × Int × Int × Bool) := aFn E s_DropStep_fi k x
noncomputable def i_CardOf (k : Nat) (x : Int) : Option (Int) := aFn E i_CardOf_fi k x
noncomputable def i_PacketOk (k : Nat) (x : List Int) : Option (Bool) := aFn E i_PacketOk_fi k x
noncomputable def i_PacketOk_l3 (k : Nat) (v7 : List Int) (v8 : Int) (v9 : Int) (o400003 : List Bool) : Option (Bool) := aRun E k i_PacketOk_fi.rs (ioOf i_PacketOk_fi.ps) i_PacketOk_fi.res i_PacketOk_fi.hints [.code (sub i_PacketOk_c [1, 1, 0, 1, 0, 0, 0]), .code (sub i_PacketOk_c [1, 1, 0, 1, 0, 0, 1]), .inLoop (sub i_PacketOk_c [1, 1, 0, 1, 0, 0]), .inBlock 0, .code (sub i_PacketOk_c [1, 1, 1])] ⟨[.cv .dead, .cv .dead, .cv .dead, .adr 400003 0, .cv .dead, .cv .dead, .cv .dead, .cv (.val (.slice (.int .i64)) v7), .cv (.val (.int .i64) v8), .cv (.val (.int .i64) v9), .cv .dead, .cv .dead, .cv .dead, .cv .dead, .cv .dead, .cv .dead, .cv .dead, .cv .dead, .cv .dead, .cv .dead, .cv .dead, .cv .dead, .cv .dead, .cv .dead, .cv .dead], [(400003, .arr (.bool) o400003)], true⟩
noncomputable def i_MoveOk (k : Nat) (x : Int × Int × Int) : Option (Bool) := aFn E i_MoveOk_fi k x
noncomputable def i_StepOk (k : Nat) (x : Int × Int × (Int × Int) × Int) : Option (Bool) := aFn E i_StepOk_fi k x
noncomputable def i_PositionOf_1 (k : Nat) (x : Int × Int) : Option (Bool) := aFn E i_PositionOf_1_fi k x
noncomputable def slices_IndexFunc_int_of_i_PositionOf_1 (k : Nat) (x : (List Int) × Int) : Option (Int) := aFn E slices_IndexFunc_int_of_i_PositionOf_1_fi k x
noncomputable def slices_IndexFunc_int_of_i_PositionOf_1_l2 (k : Nat) (v0 : List Int) (v1_0_0 : Int) (v7 : Int) (v8 : Int) : Option (Int) := aRun E k slices_IndexFunc_int_of_i_PositionOf_1_fi.rs (ioOf slices_IndexFunc_int_of_i_PositionOf_1_fi.ps) slices_IndexFunc_int_of_i_PositionOf_1_fi.res slices_IndexFunc_int_of_i_PositionOf_1_fi.hints [.code (sub slices_IndexFunc_int_of_i_PositionOf_1_c [1, 0, 1, 0, 0, 0]), .code (sub slices_IndexFunc_int_of_i_PositionOf_1_c [1, 0, 1, 0, 0, 1]), .inLoop (sub slices_IndexFunc_int_of_i_PositionOf_1_c [1, 0, 1, 0, 0]), .inBlock 0, .code (sub slices_IndexFunc_int_of_i_PositionOf_1_c [1, 1])] ⟨[.cv (.val (.slice (.int .i64)) v0), .fn 135 [[.val (.int .i64) v1_0_0]], .cv .dead, .cv .dead, .cv .dead, .cv .dead, .cv .dead, .cv (.val (.int .i64) v7), .cv (.val (.int .i64) v8), .cv .dead, .cv .dead, .cv .dead, .cv .dead, .cv .dead, .cv .dead, .cv .dead, .cv .dead, .cv .dead, .cv .dead], [], true⟩
noncomputable def i_PositionOf (k : Nat) (x : (List Int) × Int) : Option (Int) := aFn E i_PositionOf_fi k x
noncomputable def i_TrickOk (k : Nat) (x : (List Int) × (List (Int × (Int × Int) × Int)) × Int × Int × Int) : Option (Bool) := aFn E i_TrickOk_fi k x
noncomputable def i_TrickOk_l6 (k : Nat) (v3 : Int) (v4 : Bool) (v25 : List (Int × (Int × Int) × Int)) (v26 : Int) (v27 : Int) (o200001_0 : List Int) (o200001_1 : List (Int × (Int × Int) × Int)) (o200001_2 : Int) (o200001_3 : Int) (o200001_4 : Int) : Option (Bool) := aRun E k i_TrickOk_fi.rs (ioOf i_TrickOk_fi.ps) i_TrickOk_fi.res i_TrickOk_fi.hints [.code (sub i_TrickOk_c [1, 1, 1, 1, 0, 1, 0, 0, 0]), .code (sub i_TrickOk_c [1, 1, 1, 1, 0, 1, 0, 0, 1]), .inLoop (sub i_TrickOk_c [1, 1, 1, 1, 0, 1, 0, 0]), .inBlock 0, .code (sub i_TrickOk_c [1, 1, 1, 1, 1])] ⟨[.cv .dead, .adr 200001 0, .cv .dead, .cv (.val (.int .i64) v3), .cv (.val (.bool) v4), .cv .dead, .cv .dead, .cv .dead, .cv .dead, .cv .dead, .cv .dead, .cv .dead, .cv .dead, .cv .dead, .cv .dead, .cv .dead, .cv .dead, .cv .dead, .cv .dead, .cv .dead, .cv .dead, .cv .dead, .cv .dead, .cv .dead, .cv .dead, .cv (.val (.slice (.pair (.int .i64) (.pair (.pair (.int .i64) (.int .i64)) (.int .i64)))) v25), .cv (.val (.int .i64) v26), .cv (.val (.int .i64) v27), .cv .dead, .cv .dead, .cv .dead, .cv .dead, .cv .dead, .cv .dead, .cv .dead, .cv .dead, .cv .dead, .cv .dead, .cv .dead, .cv .dead, .cv .dead, .cv .dead, .cv .dead, .cv .dead, .cv .dead, .cv .dead, .cv .dead, .cv .dead, .cv .dead, .cv .dead, .cv .dead, .cv .dead, .cv .dead, .cv .dead, .cv .dead, .cv .dead, .cv .dead, .cv .dead, .cv .dead, .cv .dead, .cv .dead, .cv .dead, .cv .dead, .cv .dead, .cv .dead, .cv .dead, .cv .dead, .cv .dead, .cv .dead, .cv .dead, .cv .dead, .cv .dead, .cv .dead, .cv .dead, .cv .dead, .cv .dead, .cv .dead, .cv .dead, .cv .dead, .cv .dead, .cv .dead, .cv .dead, .cv .dead, .cv .dead, .cv .dead, .cv .dead, .cv .dead, .cv .dead, .cv .dead, .cv .dead, .cv .dead, .cv .dead, .cv .dead, .cv .dead, .cv .dead, .cv .dead, .cv .dead, .cv .dead, .cv .dead, .cv .dead, .cv .dead, .cv .dead, .cv .dead, .cv .dead, .cv .dead, .cv .dead, .cv .dead, .cv .dead, .cv .dead], [(200001, .box [.val (.slice (.int .i64)) o200001_0, .val (.slice (.pair (.int .i64) (.pair (.pair (.int .i64) (.int .i64)) (.int .i64)))) o200001_1, .val (.int .i64) o200001_2, .val (.int .i64) o200001_3, .val (.int .i64) o200001_4])], true⟩
noncomputable def slices_Clone_int (k : Nat) (x : List Int) : Option (List Int) := aFn E slices_Clone_int_fi k x
noncomputable def slices_Clone_i_Step (k : Nat) (x : List (Int × (Int × Int) × Int)) : Option (List (Int × (Int × Int) × Int)) := aFn E slices_Clone_i_Step_fi k x
noncomputable def i_copyTrick (k : Nat) (x : (List Int) × (List (Int × (Int × Int) × Int)) × Int × Int × Int) : Option ((List Int) × (List (Int × (Int × Int) × Int)) × Int × Int × Int) := aFn E i_copyTrick_fi k x
noncomputable def slices_Delete_i_Step (k : Nat) (x : (List (Int × (Int × Int) × Int)) × Int × Int) : Option (List (Int × (Int × Int) × Int)) := aFn E slices_Delete_i_Step_fi k x
noncomputable def i_DropStep (k : Nat) (x : ((List Int) × (List (Int × (Int × Int) × Int)) × Int × Int × Int) × Int) : Option ((List Int) × (List (Int × (Int × Int) × Int)) × Int × Int × Int × Bool) := aFn E i_DropStep_fi k x
noncomputable def w_eqIntS (k : Nat) (x : (List Int) × List Int) : Option (Bool) := aFn E w_eqIntS_fi k x
noncomputable def w_eqIntS_l4 (k : Nat) (v0 : List Int) (v1 : List Int) (v5 : Int) : Option (Bool) := aRun E k w_eqIntS_fi.rs (ioOf w_eqIntS_fi.ps) w_eqIntS_fi.res w_eqIntS_fi.hints [.code (sub w_eqIntS_c [1, 1, 0, 1, 0, 0, 0, 0]), .code (sub w_eqIntS_c [1, 1, 0, 1, 0, 0, 0, 1]), .code (sub w_eqIntS_c [1, 1, 0, 1, 0, 0, 1]), .inLoop (sub w_eqIntS_c [1, 1, 0, 1, 0, 0]), .inBlock 0, .code (sub w_eqIntS_c [1, 1, 1])] ⟨[.cv (.val (.slice (.int .i64)) v0), .cv (.val (.slice (.int .i64)) v1), .cv .dead, .cv .dead, .cv .dead, .cv (.val (.int .i64) v5), .cv .dead, .cv .dead, .cv .dead, .cv .dead, .cv .dead, .cv .dead, .cv .dead, .cv .dead, .cv .dead, .cv .dead, .cv .dead, .cv .dead, .cv .dead, .cv .dead, .cv .dead, .cv .dead, .cv .dead, .cv .dead, .cv .dead, .cv .dead], [], true⟩
noncomputable def w_eqMove (k : Nat) (x : (Int × Int) × Int × Int) : Option (Bool) := aFn E w_eqMove_fi k x
noncomputable def w_eqStep (k : Nat) (x : (Int × (Int × Int) × Int) × Int × (Int × Int) × Int) : Option (Bool) := aFn E w_eqStep_fi k x
noncomputable def w_eqStepS (k : Nat) (x : (List (Int × (Int × Int) × Int)) × List (Int × (Int × Int) × Int)) : Option (Bool) := aFn E w_eqStepS_fi k x
noncomputable def w_eqStepS_l4 (k : Nat) (v0 : List (Int × (Int × Int) × Int)) (v1 : List (Int × (Int × Int) × Int)) (v5 : Int) : Option (Bool) := aRun E k w_eqStepS_fi.rs (ioOf w_eqStepS_fi.ps) w_eqStepS_fi.res w_eqStepS_fi.hints [.code (sub w_eqStepS_c [1, 1, 0, 1, 0, 0, 0, 0]), .code (sub w_eqStepS_c [1, 1, 0, 1, 0, 0, 0, 1]), .code (sub w_eqStepS_c [1, 1, 0, 1, 0, 0, 1]), .inLoop (sub w_eqStepS_c [1, 1, 0, 1, 0, 0]), .inBlock 0, .code (sub w_eqStepS_c [1, 1, 1])] ⟨[.cv (.val (.slice (.pair (.int .i64) (.pair (.pair (.int .i64) (.int .i64)) (.int .i64)))) v0), .cv (.val (.slice (.pair (.int .i64) (.pair (.pair (.int .i64) (.int .i64)) (.int .i64)))) v1), .cv .dead, .cv .dead, .cv .dead, .cv (.val (.int .i64) v5), .cv .dead, .cv .dead, .cv .dead, .cv .dead, .cv .dead, .cv .dead, .cv .dead, .cv .dead, .cv .dead, .cv .dead, .cv .dead, .cv .dead, .cv .dead, .cv .dead, .cv .dead, .cv .dead, .cv .dead, .cv .dead, .cv .dead, .cv .dead, .cv .dead], [], true⟩
noncomputable def w_eqTrick (k : Nat) (x : ((List Int) × (List (Int × (Int × Int) × Int)) × Int × Int × Int) × (List Int) × (List (Int × (Int × Int) × Int)) × Int × Int × Int) : Option (Bool) := aFn E w_eqTrick_fi k x
noncomputable def w_markIntS (k : Nat) (x : (List Int) × Int) : Option ((Int) × List Int) := aFn E w_markIntS_fi k x
noncomputable def w_markIntS_l2 (k : Nat) (v1 : Int) (v5 : Int) (o500000 : List Int) : Option ((Int) × List Int) := aRun E k w_markIntS_fi.rs (ioOf w_markIntS_fi.ps) w_markIntS_fi.res w_markIntS_fi.hints [.code (sub w_markIntS_c [1, 0, 1, 0, 0, 0, 0]), .code (sub w_markIntS_c [1, 0, 1, 0, 0, 0, 1]), .code (sub w_markIntS_c [1, 0, 1, 0, 0, 1]), .inLoop (sub w_markIntS_c [1, 0, 1, 0, 0]), .inBlock 0, .code (sub w_markIntS_c [1, 1])] ⟨[.cv (.own 500000), .cv (.val (.int .i64) v1), .cv .dead, .cv .dead, .cv .dead, .cv (.val (.int .i64) v5), .cv .dead, .cv .dead, .cv .dead, .cv .dead, .cv .dead, .cv .dead, .cv .dead, .cv .dead, .cv .dead, .cv .dead, .cv .dead, .cv .dead, .cv .dead], [(500000, .row (.int .i64) o500000 true false)], true⟩
noncomputable def w_markStepS (k : Nat) (x : (List (Int × (Int × Int) × Int)) × Int) : Option ((Int) × List (Int × (Int × Int) × Int)) := aFn E w_markStepS_fi k x
noncomputable def w_markStepS_l2 (k : Nat) (v1 : Int) (v5 : Int) (o500000 : List (Int × (Int × Int) × Int)) : Option ((Int) × List (Int × (Int × Int) × Int)) := aRun E k w_markStepS_fi.rs (ioOf w_markStepS_fi.ps) w_markStepS_fi.res w_markStepS_fi.hints [.code (sub w_markStepS_c [1, 0, 1, 0, 0, 0, 0]), .code (sub w_markStepS_c [1, 0, 1, 0, 0, 0, 1]), .code (sub w_markStepS_c [1, 0, 1, 0, 0, 1]), .inLoop (sub w_markStepS_c [1, 0, 1, 0, 0]), .inBlock 0, .code (sub w_markStepS_c [1, 1])] ⟨[.cv (.own 500000), .cv (.val (.int .i64) v1), .cv .dead, .cv .dead, .cv .dead, .cv (.val (.int .i64) v5), .cv .dead, .cv .dead, .cv .dead, .cv .dead, .cv .dead, .cv .dead, .cv .dead, .cv .dead, .cv .dead, .cv .dead, .cv .dead, .cv .dead, .cv .dead, .cv .dead, .cv .dead, .cv .dead, .cv .dead, .cv .dead, .cv .dead, .cv .dead, .cv .dead, .cv .dead, .cv .dead, .cv .dead, .cv .dead, .cv .dead, .cv .dead, .cv .dead, .cv .dead, .cv .dead, .cv .dead, .cv .dead, .cv .dead, .cv .dead, .cv .dead, .cv .dead, .cv .dead], [(500000, .row (.pair (.int .i64) (.pair (.pair (.int .i64) (.int .i64)) (.int .i64))) o500000 true false)], true⟩
noncomputable def w_markTrick (k : Nat) (x : ((List Int) × (List (Int × (Int × Int) × Int)) × Int × Int × Int) × Int) : Option ((Int) × (List Int) × List (Int × (Int × Int) × Int)) := aFn E w_markTrick_fi k x
noncomputable def w_heldIntS (k : Nat) (x : (List Int) × Int) : Option (Int) := aFn E w_heldIntS_fi k x
noncomputable def w_heldIntS_l2 (k : Nat) (v0 : List Int) (v1 : Int) (v5 : Int) : Option (Int) := aRun E k w_heldIntS_fi.rs (ioOf w_heldIntS_fi.ps) w_heldIntS_fi.res w_heldIntS_fi.hints [.code (sub w_heldIntS_c [1, 0, 1, 0, 0, 0, 0]), .code (sub w_heldIntS_c [1, 0, 1, 0, 0, 0, 1]), .code (sub w_heldIntS_c [1, 0, 1, 0, 0, 1]), .inLoop (sub w_heldIntS_c [1, 0, 1, 0, 0]), .inBlock 0, .code (sub w_heldIntS_c [1, 1])] ⟨[.cv (.val (.slice (.int .i64)) v0), .cv (.val (.int .i64) v1), .cv .dead, .cv .dead, .cv .dead, .cv (.val (.int .i64) v5), .cv .dead, .cv .dead, .cv .dead, .cv .dead, .cv .dead, .cv .dead, .cv .dead, .cv .dead, .cv .dead, .cv .dead, .cv .dead, .cv .dead, .cv .dead, .cv .dead, .cv .dead], [], true⟩
noncomputable def w_heldStepS (k : Nat) (x : (List (Int × (Int × Int) × Int)) × Int) : Option (Int) := aFn E w_heldStepS_fi k x
noncomputable def w_heldStepS_l2 (k : Nat) (v0 : List (Int × (Int × Int) × Int)) (v1 : Int) (v5 : Int) : Option (Int) := aRun E k w_heldStepS_fi.rs (ioOf w_heldStepS_fi.ps) w_heldStepS_fi.res w_heldStepS_fi.hints [.code (sub w_heldStepS_c [1, 0, 1, 0, 0, 0, 0]), .code (sub w_heldStepS_c [1, 0, 1, 0, 0, 0, 1]), .code (sub w_heldStepS_c [1, 0, 1, 0, 0, 1]), .inLoop (sub w_heldStepS_c [1, 0, 1, 0, 0]), .inBlock 0, .code (sub w_heldStepS_c [1, 1])] ⟨[.cv (.val (.slice (.pair (.int .i64) (.pair (.pair (.int .i64) (.int .i64)) (.int .i64)))) v0), .cv (.val (.int .i64) v1), .cv .dead, .cv .dead, .cv .dead, .cv (.val (.int .i64) v5), .cv .dead, .cv .dead, .cv .dead, .cv .dead, .cv .dead, .cv .dead, .cv .dead, .cv .dead, .cv .dead, .cv .dead, .cv .dead, .cv .dead, .cv .dead, .cv .dead, .cv .dead, .cv .dead, .cv .dead, .cv .dead, .cv .dead, .cv .dead, .cv .dead, .cv .dead, .cv .dead, .cv .dead, .cv .dead, .cv .dead, .cv .dead, .cv .dead, .cv .dead, .cv .dead, .cv .dead, .cv .dead, .cv .dead, .cv .dead, .cv .dead, .cv .dead, .cv .dead, .cv .dead, .cv .dead, .cv .dead, .cv .dead, .cv .dead, .cv .dead, .cv .dead, .cv .dead], [], true⟩
noncomputable def w_heldTrick (k : Nat) (x : ((List Int) × (List (Int × (Int × Int) × Int)) × Int × Int × Int) × Int) : Option (Int) := aFn E w_heldTrick_fi k x
noncomputable def w_FnExactDropStep (k : Nat) (x : ((List Int) × (List (Int × (Int × Int) × Int)) × Int × Int × Int) × Int) : Option (Bool) := aFn E w_FnExactDropStep_fi k x
noncomputable def s_l18Cut (k : Nat) (x : Int × (Int × Int) × Int) : Option (Bool) := aFn E s_l18Cut_fi k x
noncomputable def s_JoinMoves (k : Nat) (x : (List Int) × (List (Int × (Int × Int) × Int)) × Int × Int × Int) : Option ((List Int) × (List (Int × (Int × Int) × Int)) × Int × Int × Int × Bool) := aFn E s_JoinMoves_fi k x
noncomputable def s_JoinMoves_l6 (k : Nat) (v4 : Int) (v29 : List (Int × (Int × Int) × Int)) (v30 : Int) (v31 : Int) (o200002_2 : Int) (o200002_3 : Int) (o200002_4 : Int) (o200005_2 : Int) (o200005_3 : Int) (o200005_4 : Int) (o300500 : List Int) (o300501 : List (Int × (Int × Int) × Int)) : Option ((List Int) × (List (Int × (Int × Int) × Int)) × Int × Int × Int × Bool) := aRun E k s_JoinMoves_fi.rs (ioOf s_JoinMoves_fi.ps) s_JoinMoves_fi.res s_JoinMoves_fi.hints [.code (sub s_JoinMoves_c [1, 1, 1, 1, 0, 1, 0, 0, 0]), .code (sub s_JoinMoves_c [1, 1, 1, 1, 0, 1, 0, 0, 1]), .inLoop (sub s_JoinMoves_c [1, 1, 1, 1, 0, 1, 0, 0]), .inBlock 0, .code (sub s_JoinMoves_c [1, 1, 1, 1, 1])] ⟨[.cv .dead, .cv .dead, .adr 200002 0, .cv .dead, .cv (.val (.int .i64) v4), .adr 200005 0, .cv .dead, .cv .dead, .cv .dead, .cv .dead, .cv .dead, .cv .dead, .cv .dead, .cv .dead, .cv .dead, .cv .dead, .cv .dead, .cv .dead, .cv .dead, .cv .dead, .cv .dead, .cv .dead, .cv .dead, .cv .dead, .cv .dead, .cv .dead, .cv .dead, .cv .dead, .cv .dead, .cv (.val (.slice (.pair (.int .i64) (.pair (.pair (.int .i64) (.int .i64)) (.int .i64)))) v29), .cv (.val (.int .i64) v30), .cv (.val (.int .i64) v31), .cv .dead, .cv .dead, .cv .dead, .cv .dead, .cv .dead, .cv .dead, .cv .dead, .cv .dead, .cv .dead, .cv .dead, .cv .dead, .cv .dead, .cv .dead, .cv .dead, .cv .dead, .cv .dead, .cv .dead, .cv .dead, .cv .dead, .cv .dead, .cv .dead, .cv .dead, .cv .dead, .cv .dead, .cv .dead, .cv .dead, .cv .dead, .cv .dead, .cv .dead, .cv .dead, .cv .dead, .cv .dead, .cv .dead, .cv .dead, .cv .dead, .cv .dead, .cv .dead, .cv .dead, .cv .dead, .cv .dead, .cv .dead, .cv .dead, .cv .dead, .cv .dead, .cv .dead, .cv .dead, .cv .dead, .cv .dead, .cv .dead, .cv .dead, .cv .dead, .cv .dead, .cv .dead], [(200002, .box [.nil, .nil, .val (.int .i64) o200002_2, .val (.int .i64) o200002_3, .val (.int .i64) o200002_4]), (200005, .box [.own 300500, .own 300501, .val (.int .i64) o200005_2, .val (.int .i64) o200005_3, .val (.int .i64) o200005_4]), (300500, .row (.int .i64) o300500 true false), (300501, .row (.pair (.int .i64) (.pair (.pair (.int .i64) (.int .i64)) (.int .i64))) o300501 true true)], true⟩
noncomputable def i_JoinMoves (k : Nat) (x : (List Int) × (List (Int × (Int × Int) × Int)) × Int × Int × Int) : Option ((List Int) × (List (Int × (Int × Int) × Int)) × Int × Int × Int × Bool) := aFn E i_JoinMoves_fi k x
noncomputable def i_JoinMoves_l5 (k : Nat) (v5 : Int) (o200001_0 : List Int) (o200001_1 : List (Int × (Int × Int) × Int)) (o200001_2 : Int) (o200001_3 : Int) (o200001_4 : Int) (o200002_2 : Int) (o200002_3 : Int) (o200002_4 : Int) (o200004_2 : Int) (o200004_3 : Int) (o200004_4 : Int) (o300400 : List Int) (o300401 : List (Int × (Int × Int) × Int)) : Option ((List Int) × (List (Int × (Int × Int) × Int)) × Int × Int × Int × Bool) := aRun E k i_JoinMoves_fi.rs (ioOf i_JoinMoves_fi.ps) i_JoinMoves_fi.res i_JoinMoves_fi.hints [.code (sub i_JoinMoves_c [1, 1, 1, 0, 1, 0, 0, 0, 0]), .code (sub i_JoinMoves_c [1, 1, 1, 0, 1, 0, 0, 0, 1]), .code (sub i_JoinMoves_c [1, 1, 1, 0, 1, 0, 0, 1]), .inLoop (sub i_JoinMoves_c [1, 1, 1, 0, 1, 0, 0]), .inBlock 0, .code (sub i_JoinMoves_c [1, 1, 1, 1])] ⟨[.cv .dead, .adr 200001 0, .adr 200002 0, .cv .dead, .adr 200004 0, .cv (.val (.int .i64) v5), .cv .dead, .cv .dead, .cv .dead, .cv .dead, .cv .dead, .cv .dead, .cv .dead, .cv .dead, .cv .dead, .cv .dead, .cv .dead, .cv .dead, .cv .dead, .cv .dead, .cv .dead, .cv .dead, .cv .dead, .cv .dead, .cv .dead, .cv .dead, .cv .dead, .cv .dead, .cv .dead, .cv .dead, .cv .dead, .cv .dead, .cv .dead, .cv .dead, .cv .dead, .cv .dead, .cv .dead, .cv .dead, .cv .dead, .cv .dead, .cv .dead, .cv .dead, .cv .dead, .cv .dead, .cv .dead, .cv .dead, .cv .dead, .cv .dead, .cv .dead, .cv .dead, .cv .dead, .cv .dead, .cv .dead, .cv .dead, .cv .dead, .cv .dead, .cv .dead, .cv .dead, .cv .dead, .cv .dead, .cv .dead, .cv .dead, .cv .dead, .cv .dead, .cv .dead, .cv .dead, .cv .dead, .cv .dead, .cv .dead, .cv .dead, .cv .dead, .cv .dead, .cv .dead, .cv .dead, .cv .dead, .cv .dead, .cv .dead, .cv .dead, .cv .dead, .cv .dead, .cv .dead, .cv .dead, .cv .dead, .cv .dead, .cv .dead, .cv .dead], [(200001, .box [.val (.slice (.int .i64)) o200001_0, .val (.slice (.pair (.int .i64) (.pair (.pair (.int .i64) (.int .i64)) (.int .i64)))) o200001_1, .val (.int .i64) o200001_2, .val (.int .i64) o200001_3, .val (.int .i64) o200001_4]), (200002, .box [.nil, .nil, .val (.int .i64) o200002_2, .val (.int .i64) o200002_3, .val (.int .i64) o200002_4]), (200004, .box [.own 300400, .own 300401, .val (.int .i64) o200004_2, .val (.int .i64) o200004_3, .val (.int .i64) o200004_4]), (300400, .row (.int .i64) o300400 true false), (300401, .row (.pair (.int .i64) (.pair (.pair (.int .i64) (.int .i64)) (.int .i64))) o300401 false false)], true⟩
noncomputable def w_FnExactJoinMoves (k : Nat) (x : (List Int) × (List (Int × (Int × Int) × Int)) × Int × Int × Int) : Option (Bool) := aFn E w_FnExactJoinMoves_fi k x

theorem w_szIntS_eq (k : Nat) (x0 : List Int) (x1 : Int) : w_szIntS (k + 1) (x0, x1) =
  bif decide ((IntKind.i64.wrap (x1 - (x0.length : Int))) < (0 : Int)) then
    (some (-1 : Int))
  else (some (IntKind.i64.wrap (x1 - (x0.length : Int)))) := by kernel_rfl
theorem w_szStepS_eq (k : Nat) (x0 : List (Int × (Int × Int) × Int)) (x1 : Int) : w_szStepS (k + 1) (x0, x1) =
  bif decide ((IntKind.i64.wrap (x1 - (x0.length : Int))) < (0 : Int)) then
    (some (-1 : Int))
  else (some (IntKind.i64.wrap (x1 - (x0.length : Int)))) := by kernel_rfl
theorem w_szTrick_eq (k : Nat) (x0 : (List Int) × (List (Int × (Int × Int) × Int)) × Int × Int × Int) (x1 : Int) : w_szTrick (k + 1) (x0, x1) =
  (w_szIntS k (x0.1, x1)).bind fun y1 =>
  bif decide (y1 < (0 : Int)) then
    (some (-1 : Int))
  else ((w_szStepS k (x0.2.1, y1)).bind fun y2 =>
    bif decide (y2 < (0 : Int)) then
      (some (-1 : Int))
    else (some y2)) := by kernel_rfl
theorem w_toIntS_eq (k : Nat) (x0 : List Int) : w_toIntS (k + 1) x0 =
  bif decide (0 ≤ (x0.length : Int)) then
    (bif decide ((x0.length : Int) ≤ (rowMax : Int)) then
      (bif ((x0.length : Int) == (x0.length : Int)) then
        (w_toIntS_l3 k x0 (0 : Int) (List.replicate (x0.length : Int).toNat (0 : Int)))
      else (none))
    else (none))
  else (none) := by kernel_rfl
theorem w_toIntS_l3_eq (k : Nat) (v0 : List Int) (v4 : Int) (o100003 : List Int) : w_toIntS_l3 (k + 1) v0 v4 o100003 =
  bif decide (v4 < (v0.length : Int)) then
    (bif decide (0 ≤ v4) then
      (bif decide (v4 < (v0.length : Int)) then
        (bif decide (0 ≤ v4) then
          (bif decide (v4 < (o100003.length : Int)) then
            (bif decide (v4.toNat < o100003.length) then
              (w_toIntS_l3 k v0 (IntKind.i64.wrap (v4 + (1 : Int))) (o100003.set v4.toNat (v0.getD v4.toNat (0 : Int))))
            else (none))
          else (none))
        else (none))
      else (none))
    else (none))
  else (some o100003) := by kernel_rfl
theorem w_toMove_eq (k : Nat) (x0 : Int × Int) : w_toMove (k + 1) x0 =
  some x0 := by kernel_rfl
theorem w_toStep_eq (k : Nat) (x0 : Int × (Int × Int) × Int) : w_toStep (k + 1) x0 =
  (w_toMove k x0.2.1).bind fun y1 =>
  some (x0.1, (y1.1, (y1.2, x0.2.2))) := by kernel_rfl
theorem w_toStepS_eq (k : Nat) (x0 : List (Int × (Int × Int) × Int)) : w_toStepS (k + 1) x0 =
  bif decide (0 ≤ (x0.length : Int)) then
    (bif decide ((x0.length : Int) ≤ (rowMax : Int)) then
      (bif ((x0.length : Int) == (x0.length : Int)) then
        (w_toStepS_l3 k x0 (0 : Int) (List.replicate (x0.length : Int).toNat ((0 : Int), (((0 : Int), (0 : Int)), (0 : Int)))))
      else (none))
    else (none))
  else (none) := by kernel_rfl
theorem w_toStepS_l3_eq (k : Nat) (v0 : List (Int × (Int × Int) × Int)) (v4 : Int) (o100003 : List (Int × (Int × Int) × Int)) : w_toStepS_l3 (k + 1) v0 v4 o100003 =
  bif decide (v4 < (v0.length : Int)) then
    (bif decide (0 ≤ v4) then
      (bif decide (v4 < (v0.length : Int)) then
        ((w_toStep k ((v0.getD v4.toNat ((0 : Int), (((0 : Int), (0 : Int)), (0 : Int)))).1, ((((v0.getD v4.toNat ((0 : Int), (((0 : Int), (0 : Int)), (0 : Int)))).2).1), ((v0.getD v4.toNat ((0 : Int), (((0 : Int), (0 : Int)), (0 : Int)))).2).2))).bind fun y1 =>
        bif decide (0 ≤ v4) then
          (bif decide (v4 < (o100003.length : Int)) then
            (bif decide (v4.toNat < o100003.length) then
              (w_toStepS_l3 k v0 (IntKind.i64.wrap (v4 + (1 : Int))) (o100003.set v4.toNat (y1.1, ((y1.2.1, y1.2.2.1), y1.2.2.2))))
            else (none))
          else (none))
        else (none))
      else (none))
    else (none))
  else (some o100003) := by kernel_rfl
theorem w_toTrick_eq (k : Nat) (x0 : (List Int) × (List (Int × (Int × Int) × Int)) × Int × Int × Int) : w_toTrick (k + 1) x0 =
  (w_toIntS k x0.1).bind fun y1 =>
  (w_toStepS k x0.2.1).bind fun y2 =>
  some (y1, (y2, x0.2.2)) := by kernel_rfl
theorem s_l01In_eq (k : Nat) (x0 : Int) (x1 : Int) (x2 : Int) : s_l01In (k + 1) (x0, x1, x2) =
  bif decide (x0 ≥ x1) then
    (some (decide (x0 ≤ x2)))
  else (some false) := by kernel_rfl
theorem s_CardOf_eq (k : Nat) (x0 : Int) : s_CardOf (k + 1) x0 =
  (s_l01In k (x0, ((0 : Int), (11 : Int)))).bind fun y1 =>
  bif y1 then
    (some x0)
  else ((s_l01In k (x0, ((-12 : Int), (-1 : Int)))).bind fun y2 =>
    bif y2 then
      (some (IntKind.i64.wrap ((-1 : Int) - x0)))
    else (some (-1 : Int))) := by kernel_rfl
theorem s_l02Has_eq (k : Nat) (x0 : List Int) (x1 : Int) : s_l02Has (k + 1) (x0, x1) =
  s_l02Has_l2 k x1 x0 (x0.length : Int) (0 : Int) := by kernel_rfl
theorem s_l02Has_l2_eq (k : Nat) (v1 : Int) (v7 : List Int) (v8 : Int) (v9 : Int) : s_l02Has_l2 (k + 1) v1 v7 v8 v9 =
  bif decide (v9 < v8) then
    (bif decide (0 ≤ v9) then
      (bif decide (v9 < (v7.length : Int)) then
        (bif ((v7.getD v9.toNat (0 : Int)) == v1) then
          (some true)
        else (s_l02Has_l2 k v1 v7 v8 (IntKind.i64.wrap (v9 + (1 : Int)))))
      else (none))
    else (none))
  else (some false) := by kernel_rfl
theorem s_PacketOk_eq (k : Nat) (x0 : List Int) : s_PacketOk (k + 1) x0 =
  bif decide ((x0.length : Int) > (12 : Int)) then
    (some false)
  else (s_PacketOk_l5 k x0 (x0.length : Int) (0 : Int) ([] : List Int)) := by kernel_rfl
theorem s_PacketOk_l5_eq (k : Nat) (v11 : List Int) (v12 : Int) (v13 : Int) (o100003 : List Int) : s_PacketOk_l5 (k + 1) v11 v12 v13 o100003 =
  bif decide (v13 < v12) then
    (bif decide (0 ≤ v13) then
      (bif decide (v13 < (v11.length : Int)) then
        ((s_CardOf k (v11.getD v13.toNat (0 : Int))).bind fun y1 =>
        bif decide (y1 < (0 : Int)) then
          (some false)
        else ((s_l02Has k (o100003, y1)).bind fun y2 =>
          bif y2 then
            (some false)
          else (bif decide (o100003.length + [y1].length ≤ rowMax) then
              (s_PacketOk_l5 k v11 v12 (IntKind.i64.wrap (v13 + (1 : Int))) (o100003 ++ [y1]))
            else (none))))
      else (none))
    else (none))
  else (some true) := by kernel_rfl
theorem s_MoveOk_eq (k : Nat) (x0 : Int) (x1 : Int × Int) : s_MoveOk (k + 1) (x0, x1) =
  (s_l01In k (x0, ((1 : Int), (12 : Int)))).bind fun y1 =>
  bif (!y1) then
    (some false)
  else (bif (x1.1 == (1 : Int)) then
      ((s_l01In k (x1.2, ((0 : Int), x0))).bind fun y2 =>
      some y2)
    else (bif (x1.1 == (2 : Int)) then
        ((s_l01In k (x1.2, ((0 : Int), x0))).bind fun y3 =>
        some y3)
      else (bif (x1.1 == (3 : Int)) then
          ((s_l01In k (x1.2, ((0 : Int), x0))).bind fun y4 =>
          some y4)
        else (bif (x1.1 == (4 : Int)) then
            ((s_l01In k (x1.2, ((0 : Int), (1 : Int)))).bind fun y5 =>
            some y5)
          else (bif (x1.1 == (5 : Int)) then
              ((s_l01In k (x1.2, ((0 : Int), (1 : Int)))).bind fun y6 =>
              some y6)
            else (bif (x1.1 == (7 : Int)) then
                ((s_l01In k (x1.2, ((0 : Int), (1 : Int)))).bind fun y7 =>
                some y7)
              else (bif (x1.1 == (6 : Int)) then
                  (some (x1.2 == (0 : Int)))
                else (bif (x1.1 == (8 : Int)) then
                    ((s_l01In k (x1.2, ((0 : Int), (IntKind.i64.wrap (x0 - (1 : Int)))))).bind fun y8 =>
                    some y8)
                  else (bif (x1.1 == (9 : Int)) then
                      ((s_l01In k (x1.2, ((0 : Int), (IntKind.i64.wrap (x0 - (1 : Int)))))).bind fun y9 =>
                      some y9)
                    else (some false)))))))))) := by kernel_rfl
theorem s_l16Choice_eq (k : Nat) (x0 : Int) (x1 : Int) : s_l16Choice (k + 1) (x0, x1) =
  (s_l01In k (x1, ((0 : Int), (4 : Int)))).bind fun y1 =>
  bif y1 then
    (bif (!(x1 == (3 : Int))) then
      (bif (!(x1 == (2 : Int))) then
        (some true)
      else (some (decide (x0 ≤ (7 : Int)))))
    else (bif decide (x0 ≥ (2 : Int)) then
        (bif (!(x1 == (2 : Int))) then
          (some true)
        else (some (decide (x0 ≤ (7 : Int)))))
      else (some false)))
  else (some false) := by kernel_rfl
theorem s_StepOk_eq (k : Nat) (x0 : Int) (x1 : Int × (Int × Int) × Int) : s_StepOk (k + 1) (x0, x1) =
  (s_l01In k (x0, ((1 : Int), (12 : Int)))).bind fun y1 =>
  bif (!y1) then
    (some false)
  else (bif (x1.1 == (1 : Int)) then
      ((s_MoveOk k (x0, x1.2.1)).bind fun y2 =>
      bif y2 then
        (some (x1.2.2 == (0 : Int)))
      else (some false))
    else (bif (x1.1 == (2 : Int)) then
        (bif ((x1.2.1.1 == (0 : Int)) && ((x1.2.1.2 == (0 : Int)) && true)) then
          ((s_l16Choice k (x0, x1.2.2)).bind fun y3 =>
          some y3)
        else (some false))
      else (bif (x1.1 == (3 : Int)) then
          (bif ((x1.2.1.1 == (0 : Int)) && ((x1.2.1.2 == (0 : Int)) && true)) then
            ((s_l01In k (x1.2.2, ((0 : Int), (IntKind.i64.wrap (x0 - (1 : Int)))))).bind fun y4 =>
            some y4)
          else (some false))
        else (some false)))) := by kernel_rfl
theorem s_PositionOf_eq (k : Nat) (x0 : List Int) (x1 : Int) : s_PositionOf (k + 1) (x0, x1) =
  s_PositionOf_l2 k x1 x0 (x0.length : Int) (0 : Int) := by kernel_rfl
theorem s_PositionOf_l2_eq (k : Nat) (v1 : Int) (v7 : List Int) (v8 : Int) (v9 : Int) : s_PositionOf_l2 (k + 1) v1 v7 v8 v9 =
  bif decide (v9 < v8) then
    (bif decide (0 ≤ v9) then
      (bif decide (v9 < (v7.length : Int)) then
        ((s_CardOf k (v7.getD v9.toNat (0 : Int))).bind fun y1 =>
        bif (y1 == v1) then
          (bif decide (v1 ≥ (0 : Int)) then
            (some v9)
          else (s_PositionOf_l2 k v1 v7 v8 (IntKind.i64.wrap (v9 + (1 : Int)))))
        else (s_PositionOf_l2 k v1 v7 v8 (IntKind.i64.wrap (v9 + (1 : Int)))))
      else (none))
    else (none))
  else (some (-1 : Int)) := by kernel_rfl
theorem s_l16Claim_eq (k : Nat) (x0 : (List Int) × (List (Int × (Int × Int) × Int)) × Int × Int × Int) (x1 : Int) (x2 : Bool) : s_l16Claim (k + 1) (x0, x1, x2) =
  bif (x0.2.2.1 == (0 : Int)) then
    (bif (x0.2.2.2.1 == (0 : Int)) then
      (some (x0.2.2.2.2 == (0 : Int)))
    else (some false))
  else (bif (x0.2.2.1 == (4 : Int)) then
      (bif (x0.2.2.2.1 == (0 : Int)) then
        (some (x0.2.2.2.2 == (0 : Int)))
      else (some false))
    else (bif (x0.2.2.1 == (1 : Int)) then
        (bif x2 then
          ((s_l01In k (x0.2.2.2.1, ((0 : Int), (IntKind.i64.wrap (x1 - (1 : Int)))))).bind fun y1 =>
          bif y1 then
            (some (x0.2.2.2.2 == (0 : Int)))
          else (some false))
        else (some false))
      else (bif (x0.2.2.1 == (2 : Int)) then
          ((s_l01In k (x0.2.2.2.1, ((0 : Int), x1))).bind fun y2 =>
          bif y2 then
            (some (x0.2.2.2.2 == (0 : Int)))
          else (some false))
        else (bif (x0.2.2.1 == (3 : Int)) then
            ((s_PositionOf k (x0.1, x0.2.2.2.1)).bind fun y3 =>
            bif decide (y3 ≥ (0 : Int)) then
              ((s_l01In k (x0.2.2.2.2, ((0 : Int), (IntKind.i64.wrap (x1 - (1 : Int)))))).bind fun y4 =>
              some y4)
            else (some false))
          else (some false))))) := by kernel_rfl
theorem s_TrickOk_eq (k : Nat) (x0 : (List Int) × (List (Int × (Int × Int) × Int)) × Int × Int × Int) : s_TrickOk (k + 1) x0 =
  (s_PacketOk k x0.1).bind fun y1 =>
  bif (!y1) then
    (some false)
  else (bif ((x0.1.length : Int) == (0 : Int)) then
      (some false)
    else (bif decide ((x0.2.1.length : Int) > (12 : Int)) then
        (some false)
      else (s_TrickOk_l6 k (x0.1.length : Int) false x0.2.1 (x0.2.1.length : Int) (0 : Int) x0.1 x0.2.1 x0.2.2.1 x0.2.2.2.1 x0.2.2.2.2))) := by kernel_rfl
theorem s_TrickOk_l6_eq (k : Nat) (v3 : Int) (v4 : Bool) (v25 : List (Int × (Int × Int) × Int)) (v26 : Int) (v27 : Int) (o200001_0 : List Int) (o200001_1 : List (Int × (Int × Int) × Int)) (o200001_2 : Int) (o200001_3 : Int) (o200001_4 : Int) : s_TrickOk_l6 (k + 1) v3 v4 v25 v26 v27 o200001_0 o200001_1 o200001_2 o200001_3 o200001_4 =
  bif decide (v27 < v26) then
    (bif decide (0 ≤ v27) then
      (bif decide (v27 < (v25.length : Int)) then
        ((s_StepOk k (v3, ((v25.getD v27.toNat ((0 : Int), (((0 : Int), (0 : Int)), (0 : Int)))).1, ((((v25.getD v27.toNat ((0 : Int), (((0 : Int), (0 : Int)), (0 : Int)))).2).1), ((v25.getD v27.toNat ((0 : Int), (((0 : Int), (0 : Int)), (0 : Int)))).2).2)))).bind fun y1 =>
        bif (!y1) then
          (some false)
        else (bif v4 then
            (s_TrickOk_l6 k v3 true v25 v26 (IntKind.i64.wrap (v27 + (1 : Int))) o200001_0 o200001_1 o200001_2 o200001_3 o200001_4)
          else (s_TrickOk_l6 k v3 (((v25.getD v27.toNat ((0 : Int), (((0 : Int), (0 : Int)), (0 : Int)))).1) == (3 : Int)) v25 v26 (IntKind.i64.wrap (v27 + (1 : Int))) o200001_0 o200001_1 o200001_2 o200001_3 o200001_4)))
      else (none))
    else (none))
  else ((s_l16Claim k ((o200001_0, (o200001_1, (o200001_2, (o200001_3, o200001_4)))), (v3, v4))).bind fun y2 =>
    some y2) := by kernel_rfl
theorem s_l18Drop_eq (k : Nat) (x0 : (List Int) × (List (Int × (Int × Int) × Int)) × Int × Int × Int) (x1 : Int) : s_l18Drop (k + 1) (x0, x1) =
  bif decide (([] : List Int).length + x0.1.length ≤ rowMax) then
    (bif decide (0 ≤ x1) then
      (bif decide (x1 ≤ (x0.2.1.length : Int)) then
        (bif decide (([] : List (Int × (Int × Int) × Int)).length + ((x0.2.1.take x1.toNat).drop 0).length ≤ rowMax) then
          (bif decide (0 ≤ (IntKind.i64.wrap (x1 + (1 : Int)))) then
            (bif decide ((IntKind.i64.wrap (x1 + (1 : Int))) ≤ (x0.2.1.length : Int)) then
              (bif decide ((x0.2.1.length : Int) ≤ (x0.2.1.length : Int)) then
                (bif decide ((([] : List (Int × (Int × Int) × Int)) ++ ((x0.2.1.take x1.toNat).drop 0)).length + ((x0.2.1.take ((x0.2.1.length : Int)).toNat).drop (IntKind.i64.wrap (x1 + (1 : Int))).toNat).length ≤ rowMax) then
                  (some ((([] : List Int) ++ x0.1), (((([] : List (Int × (Int × Int) × Int)) ++ ((x0.2.1.take x1.toNat).drop 0)) ++ ((x0.2.1.take ((x0.2.1.length : Int)).toNat).drop (IntKind.i64.wrap (x1 + (1 : Int))).toNat)), x0.2.2)))
                else (none))
              else (none))
            else (none))
          else (none))
        else (none))
      else (none))
    else (none))
  else (none) := by kernel_rfl
theorem s_DropStep_eq (k : Nat) (x0 : (List Int) × (List (Int × (Int × Int) × Int)) × Int × Int × Int) (x1 : Int) : s_DropStep (k + 1) (x0, x1) =
  (s_TrickOk k x0).bind fun y1 =>
  bif (!y1) then
    (some ([], ([], ((0 : Int), ((0 : Int), ((0 : Int), false))))))
  else ((s_l01In k (x1, ((0 : Int), (IntKind.i64.wrap ((x0.2.1.length : Int) - (1 : Int)))))).bind fun y2 =>
    bif (!y2) then
      (some ([], ([], ((0 : Int), ((0 : Int), ((0 : Int), false))))))
    else ((s_l18Drop k (x0, x1)).bind fun y3 =>
      (s_TrickOk k y3).bind fun y4 =>
      bif (!y4) then
        (some ([], ([], ((0 : Int), ((0 : Int), ((0 : Int), false))))))
      else (some (y3.1, (y3.2.1, (y3.2.2.1, (y3.2.2.2.1, (y3.2.2.2.2, true)))))))) := by kernel_rfl
theorem i_CardOf_eq (k : Nat) (x0 : Int) : i_CardOf (k + 1) x0 =
  bif decide (x0 < (0 : Int)) then
    (bif decide ((IntKind.i64.wrap ((-1 : Int) - x0)) ≥ (12 : Int)) then
      (some (-1 : Int))
    else (some (IntKind.i64.wrap ((-1 : Int) - x0))))
  else (bif decide (x0 ≥ (12 : Int)) then
      (some (-1 : Int))
    else (some x0)) := by kernel_rfl
theorem i_PacketOk_eq (k : Nat) (x0 : List Int) : i_PacketOk (k + 1) x0 =
  i_PacketOk_l3 k x0 (x0.length : Int) (0 : Int) (List.replicate 12 false) := by kernel_rfl
theorem i_PacketOk_l3_eq (k : Nat) (v7 : List Int) (v8 : Int) (v9 : Int) (o400003 : List Bool) : i_PacketOk_l3 (k + 1) v7 v8 v9 o400003 =
  bif decide (v9 < v8) then
    (bif decide (0 ≤ v9) then
      (bif decide (v9 < (v7.length : Int)) then
        ((i_CardOf k (v7.getD v9.toNat (0 : Int))).bind fun y1 =>
        bif decide (y1 < (0 : Int)) then
          (some false)
        else (bif (Nat.beq o400003.length 12 && true) then
            (bif decide (0 ≤ y1) then
              (bif decide (y1 < (o400003.length : Int)) then
                (bif decide (y1.toNat < o400003.length) then
                  (bif (o400003.getD y1.toNat false) then
                    (some false)
                  else (bif (Nat.beq o400003.length 12 && true) then
                      (bif decide (0 ≤ y1) then
                        (bif decide (y1 < (o400003.length : Int)) then
                          (bif decide (y1.toNat < o400003.length) then
                            (i_PacketOk_l3 k v7 v8 (IntKind.i64.wrap (v9 + (1 : Int))) (o400003.set y1.toNat true))
                          else (none))
                        else (none))
                      else (none))
                    else (none)))
                else (none))
              else (none))
            else (none))
          else (none)))
      else (none))
    else (none))
  else (some true) := by kernel_rfl
theorem i_MoveOk_eq (k : Nat) (x0 : Int) (x1 : Int × Int) : i_MoveOk (k + 1) (x0, x1) =
  bif decide (x0 < (1 : Int)) then
    (some false)
  else (bif decide (x0 > (12 : Int)) then
      (some false)
    else (bif decide (x1.2 < (0 : Int)) then
        (some false)
      else (bif (x1.1 == (1 : Int)) then
          (some (decide (x1.2 ≤ x0)))
        else (bif (x1.1 == (2 : Int)) then
            (some (decide (x1.2 ≤ x0)))
          else (bif (x1.1 == (3 : Int)) then
              (some (decide (x1.2 ≤ x0)))
            else (bif (x1.1 == (4 : Int)) then
                (some (decide (x1.2 ≤ (1 : Int))))
              else (bif (x1.1 == (5 : Int)) then
                  (some (decide (x1.2 ≤ (1 : Int))))
                else (bif (x1.1 == (7 : Int)) then
                    (some (decide (x1.2 ≤ (1 : Int))))
                  else (bif (x1.1 == (6 : Int)) then
                      (some (x1.2 == (0 : Int)))
                    else (bif (x1.1 == (8 : Int)) then
                        (some (decide (x1.2 < x0)))
                      else (bif (x1.1 == (9 : Int)) then
                          (some (decide (x1.2 < x0)))
                        else (some false)))))))))))) := by kernel_rfl
theorem i_StepOk_eq (k : Nat) (x0 : Int) (x1 : Int × (Int × Int) × Int) : i_StepOk (k + 1) (x0, x1) =
  bif decide (x0 < (1 : Int)) then
    (some false)
  else (bif decide (x0 > (12 : Int)) then
      (some false)
    else (bif (x1.1 == (1 : Int)) then
        ((i_MoveOk k (x0, x1.2.1)).bind fun y1 =>
        bif y1 then
          (some (x1.2.2 == (0 : Int)))
        else (some false))
      else (bif (x1.1 == (2 : Int)) then
          (bif ((x1.2.1.1 == (0 : Int)) && ((x1.2.1.2 == (0 : Int)) && true)) then
            (bif decide (x1.2.2 ≥ (0 : Int)) then
              (bif decide (x1.2.2 ≤ (4 : Int)) then
                (bif (!(x1.2.2 == (3 : Int))) then
                  (bif (!(x1.2.2 == (2 : Int))) then
                    (some true)
                  else (some (decide (x0 ≤ (7 : Int)))))
                else (bif decide (x0 ≥ (2 : Int)) then
                    (bif (!(x1.2.2 == (2 : Int))) then
                      (some true)
                    else (some (decide (x0 ≤ (7 : Int)))))
                  else (some false)))
              else (some false))
            else (some false))
          else (some false))
        else (bif (x1.1 == (3 : Int)) then
            (bif ((x1.2.1.1 == (0 : Int)) && ((x1.2.1.2 == (0 : Int)) && true)) then
              (bif decide (x1.2.2 ≥ (0 : Int)) then
                (some (decide (x1.2.2 < x0)))
              else (some false))
            else (some false))
          else (some false))))) := by kernel_rfl
theorem i_PositionOf_1_eq (k : Nat) (x0 : Int) (x1 : Int) : i_PositionOf_1 (k + 1) (x0, x1) =
  (i_CardOf k x0).bind fun y1 =>
  some (y1 == x1) := by kernel_rfl
theorem slices_IndexFunc_int_of_i_PositionOf_1_eq (k : Nat) (x0 : List Int) (x1 : Int) : slices_IndexFunc_int_of_i_PositionOf_1 (k + 1) (x0, x1) =
  slices_IndexFunc_int_of_i_PositionOf_1_l2 k x0 x1 (x0.length : Int) (0 : Int) := by kernel_rfl
theorem slices_IndexFunc_int_of_i_PositionOf_1_l2_eq (k : Nat) (v0 : List Int) (v1_0_0 : Int) (v7 : Int) (v8 : Int) : slices_IndexFunc_int_of_i_PositionOf_1_l2 (k + 1) v0 v1_0_0 v7 v8 =
  bif decide (v8 < v7) then
    (bif decide (0 ≤ v8) then
      (bif decide (v8 < (v0.length : Int)) then
        ((i_PositionOf_1 k ((v0.getD v8.toNat (0 : Int)), v1_0_0)).bind fun y1 =>
        bif y1 then
          (some v8)
        else (slices_IndexFunc_int_of_i_PositionOf_1_l2 k v0 v1_0_0 v7 (IntKind.i64.wrap (v8 + (1 : Int)))))
      else (none))
    else (none))
  else (some (-1 : Int)) := by kernel_rfl
theorem i_PositionOf_eq (k : Nat) (x0 : List Int) (x1 : Int) : i_PositionOf (k + 1) (x0, x1) =
  bif decide (x1 < (0 : Int)) then
    (some (-1 : Int))
  else ((slices_IndexFunc_int_of_i_PositionOf_1 k (x0, x1)).bind fun y1 =>
    some y1) := by kernel_rfl
theorem i_TrickOk_eq (k : Nat) (x0 : (List Int) × (List (Int × (Int × Int) × Int)) × Int × Int × Int) : i_TrickOk (k + 1) x0 =
  (i_PacketOk k x0.1).bind fun y1 =>
  bif (!y1) then
    (some false)
  else (bif ((x0.1.length : Int) == (0 : Int)) then
      (some false)
    else (bif decide ((x0.2.1.length : Int) > (12 : Int)) then
        (some false)
      else (i_TrickOk_l6 k (x0.1.length : Int) false x0.2.1 (x0.2.1.length : Int) (0 : Int) x0.1 x0.2.1 x0.2.2.1 x0.2.2.2.1 x0.2.2.2.2))) := by kernel_rfl
theorem i_TrickOk_l6_eq (k : Nat) (v3 : Int) (v4 : Bool) (v25 : List (Int × (Int × Int) × Int)) (v26 : Int) (v27 : Int) (o200001_0 : List Int) (o200001_1 : List (Int × (Int × Int) × Int)) (o200001_2 : Int) (o200001_3 : Int) (o200001_4 : Int) : i_TrickOk_l6 (k + 1) v3 v4 v25 v26 v27 o200001_0 o200001_1 o200001_2 o200001_3 o200001_4 =
  bif decide (v27 < v26) then
    (bif decide (0 ≤ v27) then
      (bif decide (v27 < (v25.length : Int)) then
        ((i_StepOk k (v3, ((v25.getD v27.toNat ((0 : Int), (((0 : Int), (0 : Int)), (0 : Int)))).1, ((((v25.getD v27.toNat ((0 : Int), (((0 : Int), (0 : Int)), (0 : Int)))).2).1), ((v25.getD v27.toNat ((0 : Int), (((0 : Int), (0 : Int)), (0 : Int)))).2).2)))).bind fun y1 =>
        bif (!y1) then
          (some false)
        else (bif v4 then
            (i_TrickOk_l6 k v3 true v25 v26 (IntKind.i64.wrap (v27 + (1 : Int))) o200001_0 o200001_1 o200001_2 o200001_3 o200001_4)
          else (i_TrickOk_l6 k v3 (((v25.getD v27.toNat ((0 : Int), (((0 : Int), (0 : Int)), (0 : Int)))).1) == (3 : Int)) v25 v26 (IntKind.i64.wrap (v27 + (1 : Int))) o200001_0 o200001_1 o200001_2 o200001_3 o200001_4)))
      else (none))
    else (none))
  else (bif (o200001_2 == (0 : Int)) then
      (bif (o200001_3 == (0 : Int)) then
        (some (o200001_4 == (0 : Int)))
      else (some false))
    else (bif (o200001_2 == (4 : Int)) then
        (bif (o200001_3 == (0 : Int)) then
          (some (o200001_4 == (0 : Int)))
        else (some false))
      else (bif (o200001_2 == (1 : Int)) then
          (bif v4 then
            (bif decide (o200001_3 ≥ (0 : Int)) then
              (bif decide (o200001_3 < v3) then
                (some (o200001_4 == (0 : Int)))
              else (some false))
            else (some false))
          else (some false))
        else (bif (o200001_2 == (2 : Int)) then
            (bif decide (o200001_3 ≥ (0 : Int)) then
              (bif decide (o200001_3 ≤ v3) then
                (some (o200001_4 == (0 : Int)))
              else (some false))
            else (some false))
          else (bif (o200001_2 == (3 : Int)) then
              ((i_PositionOf k (o200001_0, o200001_3)).bind fun y2 =>
              bif decide (y2 ≥ (0 : Int)) then
                (bif decide (o200001_4 ≥ (0 : Int)) then
                  (some (decide (o200001_4 < v3)))
                else (some false))
              else (some false))
            else (some false)))))) := by kernel_rfl
theorem slices_Clone_int_eq (k : Nat) (x0 : List Int) : slices_Clone_int (k + 1) x0 =
  bif (!x0.isEmpty) then
    (bif decide (([] : List Int).length + x0.length ≤ rowMax) then
      (some (([] : List Int) ++ x0))
    else (none))
  else (both (rs := flatRs slices_Clone_int_fi.rs) (ios := ioOf slices_Clone_int_fi.ps) (some [])
    (bif decide (([] : List Int).length + x0.length ≤ rowMax) then
        (some (([] : List Int) ++ x0))
      else (none))) := by kernel_rfl
theorem slices_Clone_i_Step_eq (k : Nat) (x0 : List (Int × (Int × Int) × Int)) : slices_Clone_i_Step (k + 1) x0 =
  bif (!x0.isEmpty) then
    (bif decide (([] : List (Int × (Int × Int) × Int)).length + x0.length ≤ rowMax) then
      (some (([] : List (Int × (Int × Int) × Int)) ++ x0))
    else (none))
  else (both (rs := flatRs slices_Clone_i_Step_fi.rs) (ios := ioOf slices_Clone_i_Step_fi.ps) (some [])
    (bif decide (([] : List (Int × (Int × Int) × Int)).length + x0.length ≤ rowMax) then
        (some (([] : List (Int × (Int × Int) × Int)) ++ x0))
      else (none))) := by kernel_rfl
theorem i_copyTrick_eq (k : Nat) (x0 : (List Int) × (List (Int × (Int × Int) × Int)) × Int × Int × Int) : i_copyTrick (k + 1) x0 =
  (slices_Clone_int k x0.1).bind fun y1 =>
  (slices_Clone_i_Step k x0.2.1).bind fun y2 =>
  some (y1, (y2, x0.2.2)) := by kernel_rfl
theorem slices_Delete_i_Step_eq (k : Nat) (x0 : List (Int × (Int × Int) × Int)) (x1 : Int) (x2 : Int) : slices_Delete_i_Step k (x0, x1, x2) = (fun a b c => deleteF (a, b, c)) x0 x1 x2 := by kernel_rfl
theorem i_DropStep_eq (k : Nat) (x0 : (List Int) × (List (Int × (Int × Int) × Int)) × Int × Int × Int) (x1 : Int) : i_DropStep (k + 1) (x0, x1) =
  (i_TrickOk k x0).bind fun y1 =>
  bif (!y1) then
    (some ([], ([], ((0 : Int), ((0 : Int), ((0 : Int), false))))))
  else (bif decide (x1 < (0 : Int)) then
      (some ([], ([], ((0 : Int), ((0 : Int), ((0 : Int), false))))))
    else (bif decide (x1 ≥ (x0.2.1.length : Int)) then
        (some ([], ([], ((0 : Int), ((0 : Int), ((0 : Int), false))))))
      else ((i_copyTrick k x0).bind fun y2 =>
        (slices_Delete_i_Step k (y2.2.1, (x1, (IntKind.i64.wrap (x1 + (1 : Int)))))).bind fun y3 =>
        (i_TrickOk k (y2.1, (y3, y2.2.2))).bind fun y4 =>
        bif (!y4) then
          (some ([], ([], ((0 : Int), ((0 : Int), ((0 : Int), false))))))
        else (some (y2.1, (y3, (y2.2.2.1, (y2.2.2.2.1, (y2.2.2.2.2, true))))))))) := by kernel_rfl
theorem w_eqIntS_eq (k : Nat) (x0 : List Int) (x1 : List Int) : w_eqIntS (k + 1) (x0, x1) =
  bif (!((x0.length : Int) == (x1.length : Int))) then
    (some false)
  else (w_eqIntS_l4 k x0 x1 (0 : Int)) := by kernel_rfl
theorem w_eqIntS_l4_eq (k : Nat) (v0 : List Int) (v1 : List Int) (v5 : Int) : w_eqIntS_l4 (k + 1) v0 v1 v5 =
  bif decide (v5 < (v0.length : Int)) then
    (bif decide (0 ≤ v5) then
      (bif decide (v5 < (v0.length : Int)) then
        (bif decide (0 ≤ v5) then
          (bif decide (v5 < (v1.length : Int)) then
            (bif (!((v0.getD v5.toNat (0 : Int)) == (v1.getD v5.toNat (0 : Int)))) then
              (some false)
            else (w_eqIntS_l4 k v0 v1 (IntKind.i64.wrap (v5 + (1 : Int)))))
          else (none))
        else (none))
      else (none))
    else (none))
  else (some true) := by kernel_rfl
theorem w_eqMove_eq (k : Nat) (x0 : Int × Int) (x1 : Int × Int) : w_eqMove (k + 1) (x0, x1) =
  bif (!(x0.1 == x1.1)) then
    (some false)
  else (bif (!(x0.2 == x1.2)) then
      (some false)
    else (some true)) := by kernel_rfl
theorem w_eqStep_eq (k : Nat) (x0 : Int × (Int × Int) × Int) (x1 : Int × (Int × Int) × Int) : w_eqStep (k + 1) (x0, x1) =
  bif (!(x0.1 == x1.1)) then
    (some false)
  else ((w_eqMove k (x0.2.1, x1.2.1)).bind fun y1 =>
    bif (!y1) then
      (some false)
    else (bif (!(x0.2.2 == x1.2.2)) then
        (some false)
      else (some true))) := by kernel_rfl
theorem w_eqStepS_eq (k : Nat) (x0 : List (Int × (Int × Int) × Int)) (x1 : List (Int × (Int × Int) × Int)) : w_eqStepS (k + 1) (x0, x1) =
  bif (!((x0.length : Int) == (x1.length : Int))) then
    (some false)
  else (w_eqStepS_l4 k x0 x1 (0 : Int)) := by kernel_rfl
theorem w_eqStepS_l4_eq (k : Nat) (v0 : List (Int × (Int × Int) × Int)) (v1 : List (Int × (Int × Int) × Int)) (v5 : Int) : w_eqStepS_l4 (k + 1) v0 v1 v5 =
  bif decide (v5 < (v0.length : Int)) then
    (bif decide (0 ≤ v5) then
      (bif decide (v5 < (v0.length : Int)) then
        (bif decide (0 ≤ v5) then
          (bif decide (v5 < (v1.length : Int)) then
            ((w_eqStep k (((v0.getD v5.toNat ((0 : Int), (((0 : Int), (0 : Int)), (0 : Int)))).1, ((((v0.getD v5.toNat ((0 : Int), (((0 : Int), (0 : Int)), (0 : Int)))).2).1), ((v0.getD v5.toNat ((0 : Int), (((0 : Int), (0 : Int)), (0 : Int)))).2).2)), ((v1.getD v5.toNat ((0 : Int), (((0 : Int), (0 : Int)), (0 : Int)))).1, ((((v1.getD v5.toNat ((0 : Int), (((0 : Int), (0 : Int)), (0 : Int)))).2).1), ((v1.getD v5.toNat ((0 : Int), (((0 : Int), (0 : Int)), (0 : Int)))).2).2)))).bind fun y1 =>
            bif (!y1) then
              (some false)
            else (w_eqStepS_l4 k v0 v1 (IntKind.i64.wrap (v5 + (1 : Int)))))
          else (none))
        else (none))
      else (none))
    else (none))
  else (some true) := by kernel_rfl
theorem w_eqTrick_eq (k : Nat) (x0 : (List Int) × (List (Int × (Int × Int) × Int)) × Int × Int × Int) (x1 : (List Int) × (List (Int × (Int × Int) × Int)) × Int × Int × Int) : w_eqTrick (k + 1) (x0, x1) =
  (w_eqIntS k (x0.1, x1.1)).bind fun y1 =>
  bif (!y1) then
    (some false)
  else ((w_eqStepS k (x0.2.1, x1.2.1)).bind fun y2 =>
    bif (!y2) then
      (some false)
    else (bif (!(x0.2.2.1 == x1.2.2.1)) then
        (some false)
      else (bif (!(x0.2.2.2.1 == x1.2.2.2.1)) then
          (some false)
        else (bif (!(x0.2.2.2.2 == x1.2.2.2.2)) then
            (some false)
          else (some true))))) := by kernel_rfl
theorem w_markIntS_eq (k : Nat) (x0 : List Int) (x1 : Int) : w_markIntS (k + 1) (x0, x1) =
  w_markIntS_l2 k x1 (0 : Int) x0 := by kernel_rfl
theorem w_markIntS_l2_eq (k : Nat) (v1 : Int) (v5 : Int) (o500000 : List Int) : w_markIntS_l2 (k + 1) v1 v5 o500000 =
  bif decide (v5 < (o500000.length : Int)) then
    (bif decide (0 ≤ v5) then
      (bif decide (v5 < (o500000.length : Int)) then
        (bif decide (v5.toNat < o500000.length) then
          (w_markIntS_l2 k (IntKind.i64.wrap (v1 + (1 : Int))) (IntKind.i64.wrap (v5 + (1 : Int))) (o500000.set v5.toNat v1))
        else (none))
      else (none))
    else (none))
  else (some (v1, o500000)) := by kernel_rfl
theorem w_markStepS_eq (k : Nat) (x0 : List (Int × (Int × Int) × Int)) (x1 : Int) : w_markStepS (k + 1) (x0, x1) =
  w_markStepS_l2 k x1 (0 : Int) x0 := by kernel_rfl
theorem w_markStepS_l2_eq (k : Nat) (v1 : Int) (v5 : Int) (o500000 : List (Int × (Int × Int) × Int)) : w_markStepS_l2 (k + 1) v1 v5 o500000 =
  bif decide (v5 < (o500000.length : Int)) then
    (bif decide (0 ≤ v5) then
      (bif decide (v5 < (o500000.length : Int)) then
        (bif decide (v5.toNat < o500000.length) then
          (bif decide (0 ≤ v5) then
            (bif decide (v5 < ((o500000.set v5.toNat (v1, ((((o500000.getD v5.toNat ((0 : Int), (((0 : Int), (0 : Int)), (0 : Int)))).2).1), ((o500000.getD v5.toNat ((0 : Int), (((0 : Int), (0 : Int)), (0 : Int)))).2).2))).length : Int)) then
              (bif decide (v5.toNat < (o500000.set v5.toNat (v1, ((((o500000.getD v5.toNat ((0 : Int), (((0 : Int), (0 : Int)), (0 : Int)))).2).1), ((o500000.getD v5.toNat ((0 : Int), (((0 : Int), (0 : Int)), (0 : Int)))).2).2))).length) then
                (bif decide (0 ≤ v5) then
                  (bif decide (v5 < (((o500000.set v5.toNat (v1, ((((o500000.getD v5.toNat ((0 : Int), (((0 : Int), (0 : Int)), (0 : Int)))).2).1), ((o500000.getD v5.toNat ((0 : Int), (((0 : Int), (0 : Int)), (0 : Int)))).2).2))).set v5.toNat (((o500000.set v5.toNat (v1, ((((o500000.getD v5.toNat ((0 : Int), (((0 : Int), (0 : Int)), (0 : Int)))).2).1), ((o500000.getD v5.toNat ((0 : Int), (((0 : Int), (0 : Int)), (0 : Int)))).2).2))).getD v5.toNat ((0 : Int), (((0 : Int), (0 : Int)), (0 : Int)))).1, (((IntKind.i64.wrap (v1 + (1 : Int))), ((((o500000.set v5.toNat (v1, ((((o500000.getD v5.toNat ((0 : Int), (((0 : Int), (0 : Int)), (0 : Int)))).2).1), ((o500000.getD v5.toNat ((0 : Int), (((0 : Int), (0 : Int)), (0 : Int)))).2).2))).getD v5.toNat ((0 : Int), (((0 : Int), (0 : Int)), (0 : Int)))).2).1).2), (((o500000.set v5.toNat (v1, ((((o500000.getD v5.toNat ((0 : Int), (((0 : Int), (0 : Int)), (0 : Int)))).2).1), ((o500000.getD v5.toNat ((0 : Int), (((0 : Int), (0 : Int)), (0 : Int)))).2).2))).getD v5.toNat ((0 : Int), (((0 : Int), (0 : Int)), (0 : Int)))).2).2))).length : Int)) then
                    (bif decide (v5.toNat < ((o500000.set v5.toNat (v1, ((((o500000.getD v5.toNat ((0 : Int), (((0 : Int), (0 : Int)), (0 : Int)))).2).1), ((o500000.getD v5.toNat ((0 : Int), (((0 : Int), (0 : Int)), (0 : Int)))).2).2))).set v5.toNat (((o500000.set v5.toNat (v1, ((((o500000.getD v5.toNat ((0 : Int), (((0 : Int), (0 : Int)), (0 : Int)))).2).1), ((o500000.getD v5.toNat ((0 : Int), (((0 : Int), (0 : Int)), (0 : Int)))).2).2))).getD v5.toNat ((0 : Int), (((0 : Int), (0 : Int)), (0 : Int)))).1, (((IntKind.i64.wrap (v1 + (1 : Int))), ((((o500000.set v5.toNat (v1, ((((o500000.getD v5.toNat ((0 : Int), (((0 : Int), (0 : Int)), (0 : Int)))).2).1), ((o500000.getD v5.toNat ((0 : Int), (((0 : Int), (0 : Int)), (0 : Int)))).2).2))).getD v5.toNat ((0 : Int), (((0 : Int), (0 : Int)), (0 : Int)))).2).1).2), (((o500000.set v5.toNat (v1, ((((o500000.getD v5.toNat ((0 : Int), (((0 : Int), (0 : Int)), (0 : Int)))).2).1), ((o500000.getD v5.toNat ((0 : Int), (((0 : Int), (0 : Int)), (0 : Int)))).2).2))).getD v5.toNat ((0 : Int), (((0 : Int), (0 : Int)), (0 : Int)))).2).2))).length) then
                      (bif decide (0 ≤ v5) then
                        (bif decide (v5 < ((((o500000.set v5.toNat (v1, ((((o500000.getD v5.toNat ((0 : Int), (((0 : Int), (0 : Int)), (0 : Int)))).2).1), ((o500000.getD v5.toNat ((0 : Int), (((0 : Int), (0 : Int)), (0 : Int)))).2).2))).set v5.toNat (((o500000.set v5.toNat (v1, ((((o500000.getD v5.toNat ((0 : Int), (((0 : Int), (0 : Int)), (0 : Int)))).2).1), ((o500000.getD v5.toNat ((0 : Int), (((0 : Int), (0 : Int)), (0 : Int)))).2).2))).getD v5.toNat ((0 : Int), (((0 : Int), (0 : Int)), (0 : Int)))).1, (((IntKind.i64.wrap (v1 + (1 : Int))), ((((o500000.set v5.toNat (v1, ((((o500000.getD v5.toNat ((0 : Int), (((0 : Int), (0 : Int)), (0 : Int)))).2).1), ((o500000.getD v5.toNat ((0 : Int), (((0 : Int), (0 : Int)), (0 : Int)))).2).2))).getD v5.toNat ((0 : Int), (((0 : Int), (0 : Int)), (0 : Int)))).2).1).2), (((o500000.set v5.toNat (v1, ((((o500000.getD v5.toNat ((0 : Int), (((0 : Int), (0 : Int)), (0 : Int)))).2).1), ((o500000.getD v5.toNat ((0 : Int), (((0 : Int), (0 : Int)), (0 : Int)))).2).2))).getD v5.toNat ((0 : Int), (((0 : Int), (0 : Int)), (0 : Int)))).2).2))).set v5.toNat ((((o500000.set v5.toNat (v1, ((((o500000.getD v5.toNat ((0 : Int), (((0 : Int), (0 : Int)), (0 : Int)))).2).1), ((o500000.getD v5.toNat ((0 : Int), (((0 : Int), (0 : Int)), (0 : Int)))).2).2))).set v5.toNat (((o500000.set v5.toNat (v1, ((((o500000.getD v5.toNat ((0 : Int), (((0 : Int), (0 : Int)), (0 : Int)))).2).1), ((o500000.getD v5.toNat ((0 : Int), (((0 : Int), (0 : Int)), (0 : Int)))).2).2))).getD v5.toNat ((0 : Int), (((0 : Int), (0 : Int)), (0 : Int)))).1, (((IntKind.i64.wrap (v1 + (1 : Int))), ((((o500000.set v5.toNat (v1, ((((o500000.getD v5.toNat ((0 : Int), (((0 : Int), (0 : Int)), (0 : Int)))).2).1), ((o500000.getD v5.toNat ((0 : Int), (((0 : Int), (0 : Int)), (0 : Int)))).2).2))).getD v5.toNat ((0 : Int), (((0 : Int), (0 : Int)), (0 : Int)))).2).1).2), (((o500000.set v5.toNat (v1, ((((o500000.getD v5.toNat ((0 : Int), (((0 : Int), (0 : Int)), (0 : Int)))).2).1), ((o500000.getD v5.toNat ((0 : Int), (((0 : Int), (0 : Int)), (0 : Int)))).2).2))).getD v5.toNat ((0 : Int), (((0 : Int), (0 : Int)), (0 : Int)))).2).2))).getD v5.toNat ((0 : Int), (((0 : Int), (0 : Int)), (0 : Int)))).1, (((((((o500000.set v5.toNat (v1, ((((o500000.getD v5.toNat ((0 : Int), (((0 : Int), (0 : Int)), (0 : Int)))).2).1), ((o500000.getD v5.toNat ((0 : Int), (((0 : Int), (0 : Int)), (0 : Int)))).2).2))).set v5.toNat (((o500000.set v5.toNat (v1, ((((o500000.getD v5.toNat ((0 : Int), (((0 : Int), (0 : Int)), (0 : Int)))).2).1), ((o500000.getD v5.toNat ((0 : Int), (((0 : Int), (0 : Int)), (0 : Int)))).2).2))).getD v5.toNat ((0 : Int), (((0 : Int), (0 : Int)), (0 : Int)))).1, (((IntKind.i64.wrap (v1 + (1 : Int))), ((((o500000.set v5.toNat (v1, ((((o500000.getD v5.toNat ((0 : Int), (((0 : Int), (0 : Int)), (0 : Int)))).2).1), ((o500000.getD v5.toNat ((0 : Int), (((0 : Int), (0 : Int)), (0 : Int)))).2).2))).getD v5.toNat ((0 : Int), (((0 : Int), (0 : Int)), (0 : Int)))).2).1).2), (((o500000.set v5.toNat (v1, ((((o500000.getD v5.toNat ((0 : Int), (((0 : Int), (0 : Int)), (0 : Int)))).2).1), ((o500000.getD v5.toNat ((0 : Int), (((0 : Int), (0 : Int)), (0 : Int)))).2).2))).getD v5.toNat ((0 : Int), (((0 : Int), (0 : Int)), (0 : Int)))).2).2))).getD v5.toNat ((0 : Int), (((0 : Int), (0 : Int)), (0 : Int)))).2).1).1, (IntKind.i64.wrap ((IntKind.i64.wrap (v1 + (1 : Int))) + (1 : Int)))), ((((o500000.set v5.toNat (v1, ((((o500000.getD v5.toNat ((0 : Int), (((0 : Int), (0 : Int)), (0 : Int)))).2).1), ((o500000.getD v5.toNat ((0 : Int), (((0 : Int), (0 : Int)), (0 : Int)))).2).2))).set v5.toNat (((o500000.set v5.toNat (v1, ((((o500000.getD v5.toNat ((0 : Int), (((0 : Int), (0 : Int)), (0 : Int)))).2).1), ((o500000.getD v5.toNat ((0 : Int), (((0 : Int), (0 : Int)), (0 : Int)))).2).2))).getD v5.toNat ((0 : Int), (((0 : Int), (0 : Int)), (0 : Int)))).1, (((IntKind.i64.wrap (v1 + (1 : Int))), ((((o500000.set v5.toNat (v1, ((((o500000.getD v5.toNat ((0 : Int), (((0 : Int), (0 : Int)), (0 : Int)))).2).1), ((o500000.getD v5.toNat ((0 : Int), (((0 : Int), (0 : Int)), (0 : Int)))).2).2))).getD v5.toNat ((0 : Int), (((0 : Int), (0 : Int)), (0 : Int)))).2).1).2), (((o500000.set v5.toNat (v1, ((((o500000.getD v5.toNat ((0 : Int), (((0 : Int), (0 : Int)), (0 : Int)))).2).1), ((o500000.getD v5.toNat ((0 : Int), (((0 : Int), (0 : Int)), (0 : Int)))).2).2))).getD v5.toNat ((0 : Int), (((0 : Int), (0 : Int)), (0 : Int)))).2).2))).getD v5.toNat ((0 : Int), (((0 : Int), (0 : Int)), (0 : Int)))).2).2))).length : Int)) then
                          (bif decide (v5.toNat < (((o500000.set v5.toNat (v1, ((((o500000.getD v5.toNat ((0 : Int), (((0 : Int), (0 : Int)), (0 : Int)))).2).1), ((o500000.getD v5.toNat ((0 : Int), (((0 : Int), (0 : Int)), (0 : Int)))).2).2))).set v5.toNat (((o500000.set v5.toNat (v1, ((((o500000.getD v5.toNat ((0 : Int), (((0 : Int), (0 : Int)), (0 : Int)))).2).1), ((o500000.getD v5.toNat ((0 : Int), (((0 : Int), (0 : Int)), (0 : Int)))).2).2))).getD v5.toNat ((0 : Int), (((0 : Int), (0 : Int)), (0 : Int)))).1, (((IntKind.i64.wrap (v1 + (1 : Int))), ((((o500000.set v5.toNat (v1, ((((o500000.getD v5.toNat ((0 : Int), (((0 : Int), (0 : Int)), (0 : Int)))).2).1), ((o500000.getD v5.toNat ((0 : Int), (((0 : Int), (0 : Int)), (0 : Int)))).2).2))).getD v5.toNat ((0 : Int), (((0 : Int), (0 : Int)), (0 : Int)))).2).1).2), (((o500000.set v5.toNat (v1, ((((o500000.getD v5.toNat ((0 : Int), (((0 : Int), (0 : Int)), (0 : Int)))).2).1), ((o500000.getD v5.toNat ((0 : Int), (((0 : Int), (0 : Int)), (0 : Int)))).2).2))).getD v5.toNat ((0 : Int), (((0 : Int), (0 : Int)), (0 : Int)))).2).2))).set v5.toNat ((((o500000.set v5.toNat (v1, ((((o500000.getD v5.toNat ((0 : Int), (((0 : Int), (0 : Int)), (0 : Int)))).2).1), ((o500000.getD v5.toNat ((0 : Int), (((0 : Int), (0 : Int)), (0 : Int)))).2).2))).set v5.toNat (((o500000.set v5.toNat (v1, ((((o500000.getD v5.toNat ((0 : Int), (((0 : Int), (0 : Int)), (0 : Int)))).2).1), ((o500000.getD v5.toNat ((0 : Int), (((0 : Int), (0 : Int)), (0 : Int)))).2).2))).getD v5.toNat ((0 : Int), (((0 : Int), (0 : Int)), (0 : Int)))).1, (((IntKind.i64.wrap (v1 + (1 : Int))), ((((o500000.set v5.toNat (v1, ((((o500000.getD v5.toNat ((0 : Int), (((0 : Int), (0 : Int)), (0 : Int)))).2).1), ((o500000.getD v5.toNat ((0 : Int), (((0 : Int), (0 : Int)), (0 : Int)))).2).2))).getD v5.toNat ((0 : Int), (((0 : Int), (0 : Int)), (0 : Int)))).2).1).2), (((o500000.set v5.toNat (v1, ((((o500000.getD v5.toNat ((0 : Int), (((0 : Int), (0 : Int)), (0 : Int)))).2).1), ((o500000.getD v5.toNat ((0 : Int), (((0 : Int), (0 : Int)), (0 : Int)))).2).2))).getD v5.toNat ((0 : Int), (((0 : Int), (0 : Int)), (0 : Int)))).2).2))).getD v5.toNat ((0 : Int), (((0 : Int), (0 : Int)), (0 : Int)))).1, (((((((o500000.set v5.toNat (v1, ((((o500000.getD v5.toNat ((0 : Int), (((0 : Int), (0 : Int)), (0 : Int)))).2).1), ((o500000.getD v5.toNat ((0 : Int), (((0 : Int), (0 : Int)), (0 : Int)))).2).2))).set v5.toNat (((o500000.set v5.toNat (v1, ((((o500000.getD v5.toNat ((0 : Int), (((0 : Int), (0 : Int)), (0 : Int)))).2).1), ((o500000.getD v5.toNat ((0 : Int), (((0 : Int), (0 : Int)), (0 : Int)))).2).2))).getD v5.toNat ((0 : Int), (((0 : Int), (0 : Int)), (0 : Int)))).1, (((IntKind.i64.wrap (v1 + (1 : Int))), ((((o500000.set v5.toNat (v1, ((((o500000.getD v5.toNat ((0 : Int), (((0 : Int), (0 : Int)), (0 : Int)))).2).1), ((o500000.getD v5.toNat ((0 : Int), (((0 : Int), (0 : Int)), (0 : Int)))).2).2))).getD v5.toNat ((0 : Int), (((0 : Int), (0 : Int)), (0 : Int)))).2).1).2), (((o500000.set v5.toNat (v1, ((((o500000.getD v5.toNat ((0 : Int), (((0 : Int), (0 : Int)), (0 : Int)))).2).1), ((o500000.getD v5.toNat ((0 : Int), (((0 : Int), (0 : Int)), (0 : Int)))).2).2))).getD v5.toNat ((0 : Int), (((0 : Int), (0 : Int)), (0 : Int)))).2).2))).getD v5.toNat ((0 : Int), (((0 : Int), (0 : Int)), (0 : Int)))).2).1).1, (IntKind.i64.wrap ((IntKind.i64.wrap (v1 + (1 : Int))) + (1 : Int)))), ((((o500000.set v5.toNat (v1, ((((o500000.getD v5.toNat ((0 : Int), (((0 : Int), (0 : Int)), (0 : Int)))).2).1), ((o500000.getD v5.toNat ((0 : Int), (((0 : Int), (0 : Int)), (0 : Int)))).2).2))).set v5.toNat (((o500000.set v5.toNat (v1, ((((o500000.getD v5.toNat ((0 : Int), (((0 : Int), (0 : Int)), (0 : Int)))).2).1), ((o500000.getD v5.toNat ((0 : Int), (((0 : Int), (0 : Int)), (0 : Int)))).2).2))).getD v5.toNat ((0 : Int), (((0 : Int), (0 : Int)), (0 : Int)))).1, (((IntKind.i64.wrap (v1 + (1 : Int))), ((((o500000.set v5.toNat (v1, ((((o500000.getD v5.toNat ((0 : Int), (((0 : Int), (0 : Int)), (0 : Int)))).2).1), ((o500000.getD v5.toNat ((0 : Int), (((0 : Int), (0 : Int)), (0 : Int)))).2).2))).getD v5.toNat ((0 : Int), (((0 : Int), (0 : Int)), (0 : Int)))).2).1).2), (((o500000.set v5.toNat (v1, ((((o500000.getD v5.toNat ((0 : Int), (((0 : Int), (0 : Int)), (0 : Int)))).2).1), ((o500000.getD v5.toNat ((0 : Int), (((0 : Int), (0 : Int)), (0 : Int)))).2).2))).getD v5.toNat ((0 : Int), (((0 : Int), (0 : Int)), (0 : Int)))).2).2))).getD v5.toNat ((0 : Int), (((0 : Int), (0 : Int)), (0 : Int)))).2).2))).length) then
                            (w_markStepS_l2 k (IntKind.i64.wrap ((IntKind.i64.wrap ((IntKind.i64.wrap ((IntKind.i64.wrap (v1 + (1 : Int))) + (1 : Int))) + (1 : Int))) + (1 : Int))) (IntKind.i64.wrap (v5 + (1 : Int))) ((((o500000.set v5.toNat (v1, ((((o500000.getD v5.toNat ((0 : Int), (((0 : Int), (0 : Int)), (0 : Int)))).2).1), ((o500000.getD v5.toNat ((0 : Int), (((0 : Int), (0 : Int)), (0 : Int)))).2).2))).set v5.toNat (((o500000.set v5.toNat (v1, ((((o500000.getD v5.toNat ((0 : Int), (((0 : Int), (0 : Int)), (0 : Int)))).2).1), ((o500000.getD v5.toNat ((0 : Int), (((0 : Int), (0 : Int)), (0 : Int)))).2).2))).getD v5.toNat ((0 : Int), (((0 : Int), (0 : Int)), (0 : Int)))).1, (((IntKind.i64.wrap (v1 + (1 : Int))), ((((o500000.set v5.toNat (v1, ((((o500000.getD v5.toNat ((0 : Int), (((0 : Int), (0 : Int)), (0 : Int)))).2).1), ((o500000.getD v5.toNat ((0 : Int), (((0 : Int), (0 : Int)), (0 : Int)))).2).2))).getD v5.toNat ((0 : Int), (((0 : Int), (0 : Int)), (0 : Int)))).2).1).2), (((o500000.set v5.toNat (v1, ((((o500000.getD v5.toNat ((0 : Int), (((0 : Int), (0 : Int)), (0 : Int)))).2).1), ((o500000.getD v5.toNat ((0 : Int), (((0 : Int), (0 : Int)), (0 : Int)))).2).2))).getD v5.toNat ((0 : Int), (((0 : Int), (0 : Int)), (0 : Int)))).2).2))).set v5.toNat ((((o500000.set v5.toNat (v1, ((((o500000.getD v5.toNat ((0 : Int), (((0 : Int), (0 : Int)), (0 : Int)))).2).1), ((o500000.getD v5.toNat ((0 : Int), (((0 : Int), (0 : Int)), (0 : Int)))).2).2))).set v5.toNat (((o500000.set v5.toNat (v1, ((((o500000.getD v5.toNat ((0 : Int), (((0 : Int), (0 : Int)), (0 : Int)))).2).1), ((o500000.getD v5.toNat ((0 : Int), (((0 : Int), (0 : Int)), (0 : Int)))).2).2))).getD v5.toNat ((0 : Int), (((0 : Int), (0 : Int)), (0 : Int)))).1, (((IntKind.i64.wrap (v1 + (1 : Int))), ((((o500000.set v5.toNat (v1, ((((o500000.getD v5.toNat ((0 : Int), (((0 : Int), (0 : Int)), (0 : Int)))).2).1), ((o500000.getD v5.toNat ((0 : Int), (((0 : Int), (0 : Int)), (0 : Int)))).2).2))).getD v5.toNat ((0 : Int), (((0 : Int), (0 : Int)), (0 : Int)))).2).1).2), (((o500000.set v5.toNat (v1, ((((o500000.getD v5.toNat ((0 : Int), (((0 : Int), (0 : Int)), (0 : Int)))).2).1), ((o500000.getD v5.toNat ((0 : Int), (((0 : Int), (0 : Int)), (0 : Int)))).2).2))).getD v5.toNat ((0 : Int), (((0 : Int), (0 : Int)), (0 : Int)))).2).2))).getD v5.toNat ((0 : Int), (((0 : Int), (0 : Int)), (0 : Int)))).1, (((((((o500000.set v5.toNat (v1, ((((o500000.getD v5.toNat ((0 : Int), (((0 : Int), (0 : Int)), (0 : Int)))).2).1), ((o500000.getD v5.toNat ((0 : Int), (((0 : Int), (0 : Int)), (0 : Int)))).2).2))).set v5.toNat (((o500000.set v5.toNat (v1, ((((o500000.getD v5.toNat ((0 : Int), (((0 : Int), (0 : Int)), (0 : Int)))).2).1), ((o500000.getD v5.toNat ((0 : Int), (((0 : Int), (0 : Int)), (0 : Int)))).2).2))).getD v5.toNat ((0 : Int), (((0 : Int), (0 : Int)), (0 : Int)))).1, (((IntKind.i64.wrap (v1 + (1 : Int))), ((((o500000.set v5.toNat (v1, ((((o500000.getD v5.toNat ((0 : Int), (((0 : Int), (0 : Int)), (0 : Int)))).2).1), ((o500000.getD v5.toNat ((0 : Int), (((0 : Int), (0 : Int)), (0 : Int)))).2).2))).getD v5.toNat ((0 : Int), (((0 : Int), (0 : Int)), (0 : Int)))).2).1).2), (((o500000.set v5.toNat (v1, ((((o500000.getD v5.toNat ((0 : Int), (((0 : Int), (0 : Int)), (0 : Int)))).2).1), ((o500000.getD v5.toNat ((0 : Int), (((0 : Int), (0 : Int)), (0 : Int)))).2).2))).getD v5.toNat ((0 : Int), (((0 : Int), (0 : Int)), (0 : Int)))).2).2))).getD v5.toNat ((0 : Int), (((0 : Int), (0 : Int)), (0 : Int)))).2).1).1, (IntKind.i64.wrap ((IntKind.i64.wrap (v1 + (1 : Int))) + (1 : Int)))), ((((o500000.set v5.toNat (v1, ((((o500000.getD v5.toNat ((0 : Int), (((0 : Int), (0 : Int)), (0 : Int)))).2).1), ((o500000.getD v5.toNat ((0 : Int), (((0 : Int), (0 : Int)), (0 : Int)))).2).2))).set v5.toNat (((o500000.set v5.toNat (v1, ((((o500000.getD v5.toNat ((0 : Int), (((0 : Int), (0 : Int)), (0 : Int)))).2).1), ((o500000.getD v5.toNat ((0 : Int), (((0 : Int), (0 : Int)), (0 : Int)))).2).2))).getD v5.toNat ((0 : Int), (((0 : Int), (0 : Int)), (0 : Int)))).1, (((IntKind.i64.wrap (v1 + (1 : Int))), ((((o500000.set v5.toNat (v1, ((((o500000.getD v5.toNat ((0 : Int), (((0 : Int), (0 : Int)), (0 : Int)))).2).1), ((o500000.getD v5.toNat ((0 : Int), (((0 : Int), (0 : Int)), (0 : Int)))).2).2))).getD v5.toNat ((0 : Int), (((0 : Int), (0 : Int)), (0 : Int)))).2).1).2), (((o500000.set v5.toNat (v1, ((((o500000.getD v5.toNat ((0 : Int), (((0 : Int), (0 : Int)), (0 : Int)))).2).1), ((o500000.getD v5.toNat ((0 : Int), (((0 : Int), (0 : Int)), (0 : Int)))).2).2))).getD v5.toNat ((0 : Int), (((0 : Int), (0 : Int)), (0 : Int)))).2).2))).getD v5.toNat ((0 : Int), (((0 : Int), (0 : Int)), (0 : Int)))).2).2))).set v5.toNat (((((o500000.set v5.toNat (v1, ((((o500000.getD v5.toNat ((0 : Int), (((0 : Int), (0 : Int)), (0 : Int)))).2).1), ((o500000.getD v5.toNat ((0 : Int), (((0 : Int), (0 : Int)), (0 : Int)))).2).2))).set v5.toNat (((o500000.set v5.toNat (v1, ((((o500000.getD v5.toNat ((0 : Int), (((0 : Int), (0 : Int)), (0 : Int)))).2).1), ((o500000.getD v5.toNat ((0 : Int), (((0 : Int), (0 : Int)), (0 : Int)))).2).2))).getD v5.toNat ((0 : Int), (((0 : Int), (0 : Int)), (0 : Int)))).1, (((IntKind.i64.wrap (v1 + (1 : Int))), ((((o500000.set v5.toNat (v1, ((((o500000.getD v5.toNat ((0 : Int), (((0 : Int), (0 : Int)), (0 : Int)))).2).1), ((o500000.getD v5.toNat ((0 : Int), (((0 : Int), (0 : Int)), (0 : Int)))).2).2))).getD v5.toNat ((0 : Int), (((0 : Int), (0 : Int)), (0 : Int)))).2).1).2), (((o500000.set v5.toNat (v1, ((((o500000.getD v5.toNat ((0 : Int), (((0 : Int), (0 : Int)), (0 : Int)))).2).1), ((o500000.getD v5.toNat ((0 : Int), (((0 : Int), (0 : Int)), (0 : Int)))).2).2))).getD v5.toNat ((0 : Int), (((0 : Int), (0 : Int)), (0 : Int)))).2).2))).set v5.toNat ((((o500000.set v5.toNat (v1, ((((o500000.getD v5.toNat ((0 : Int), (((0 : Int), (0 : Int)), (0 : Int)))).2).1), ((o500000.getD v5.toNat ((0 : Int), (((0 : Int), (0 : Int)), (0 : Int)))).2).2))).set v5.toNat (((o500000.set v5.toNat (v1, ((((o500000.getD v5.toNat ((0 : Int), (((0 : Int), (0 : Int)), (0 : Int)))).2).1), ((o500000.getD v5.toNat ((0 : Int), (((0 : Int), (0 : Int)), (0 : Int)))).2).2))).getD v5.toNat ((0 : Int), (((0 : Int), (0 : Int)), (0 : Int)))).1, (((IntKind.i64.wrap (v1 + (1 : Int))), ((((o500000.set v5.toNat (v1, ((((o500000.getD v5.toNat ((0 : Int), (((0 : Int), (0 : Int)), (0 : Int)))).2).1), ((o500000.getD v5.toNat ((0 : Int), (((0 : Int), (0 : Int)), (0 : Int)))).2).2))).getD v5.toNat ((0 : Int), (((0 : Int), (0 : Int)), (0 : Int)))).2).1).2), (((o500000.set v5.toNat (v1, ((((o500000.getD v5.toNat ((0 : Int), (((0 : Int), (0 : Int)), (0 : Int)))).2).1), ((o500000.getD v5.toNat ((0 : Int), (((0 : Int), (0 : Int)), (0 : Int)))).2).2))).getD v5.toNat ((0 : Int), (((0 : Int), (0 : Int)), (0 : Int)))).2).2))).getD v5.toNat ((0 : Int), (((0 : Int), (0 : Int)), (0 : Int)))).1, (((((((o500000.set v5.toNat (v1, ((((o500000.getD v5.toNat ((0 : Int), (((0 : Int), (0 : Int)), (0 : Int)))).2).1), ((o500000.getD v5.toNat ((0 : Int), (((0 : Int), (0 : Int)), (0 : Int)))).2).2))).set v5.toNat (((o500000.set v5.toNat (v1, ((((o500000.getD v5.toNat ((0 : Int), (((0 : Int), (0 : Int)), (0 : Int)))).2).1), ((o500000.getD v5.toNat ((0 : Int), (((0 : Int), (0 : Int)), (0 : Int)))).2).2))).getD v5.toNat ((0 : Int), (((0 : Int), (0 : Int)), (0 : Int)))).1, (((IntKind.i64.wrap (v1 + (1 : Int))), ((((o500000.set v5.toNat (v1, ((((o500000.getD v5.toNat ((0 : Int), (((0 : Int), (0 : Int)), (0 : Int)))).2).1), ((o500000.getD v5.toNat ((0 : Int), (((0 : Int), (0 : Int)), (0 : Int)))).2).2))).getD v5.toNat ((0 : Int), (((0 : Int), (0 : Int)), (0 : Int)))).2).1).2), (((o500000.set v5.toNat (v1, ((((o500000.getD v5.toNat ((0 : Int), (((0 : Int), (0 : Int)), (0 : Int)))).2).1), ((o500000.getD v5.toNat ((0 : Int), (((0 : Int), (0 : Int)), (0 : Int)))).2).2))).getD v5.toNat ((0 : Int), (((0 : Int), (0 : Int)), (0 : Int)))).2).2))).getD v5.toNat ((0 : Int), (((0 : Int), (0 : Int)), (0 : Int)))).2).1).1, (IntKind.i64.wrap ((IntKind.i64.wrap (v1 + (1 : Int))) + (1 : Int)))), ((((o500000.set v5.toNat (v1, ((((o500000.getD v5.toNat ((0 : Int), (((0 : Int), (0 : Int)), (0 : Int)))).2).1), ((o500000.getD v5.toNat ((0 : Int), (((0 : Int), (0 : Int)), (0 : Int)))).2).2))).set v5.toNat (((o500000.set v5.toNat (v1, ((((o500000.getD v5.toNat ((0 : Int), (((0 : Int), (0 : Int)), (0 : Int)))).2).1), ((o500000.getD v5.toNat ((0 : Int), (((0 : Int), (0 : Int)), (0 : Int)))).2).2))).getD v5.toNat ((0 : Int), (((0 : Int), (0 : Int)), (0 : Int)))).1, (((IntKind.i64.wrap (v1 + (1 : Int))), ((((o500000.set v5.toNat (v1, ((((o500000.getD v5.toNat ((0 : Int), (((0 : Int), (0 : Int)), (0 : Int)))).2).1), ((o500000.getD v5.toNat ((0 : Int), (((0 : Int), (0 : Int)), (0 : Int)))).2).2))).getD v5.toNat ((0 : Int), (((0 : Int), (0 : Int)), (0 : Int)))).2).1).2), (((o500000.set v5.toNat (v1, ((((o500000.getD v5.toNat ((0 : Int), (((0 : Int), (0 : Int)), (0 : Int)))).2).1), ((o500000.getD v5.toNat ((0 : Int), (((0 : Int), (0 : Int)), (0 : Int)))).2).2))).getD v5.toNat ((0 : Int), (((0 : Int), (0 : Int)), (0 : Int)))).2).2))).getD v5.toNat ((0 : Int), (((0 : Int), (0 : Int)), (0 : Int)))).2).2))).getD v5.toNat ((0 : Int), (((0 : Int), (0 : Int)), (0 : Int)))).1, (((((((o500000.set v5.toNat (v1, ((((o500000.getD v5.toNat ((0 : Int), (((0 : Int), (0 : Int)), (0 : Int)))).2).1), ((o500000.getD v5.toNat ((0 : Int), (((0 : Int), (0 : Int)), (0 : Int)))).2).2))).set v5.toNat (((o500000.set v5.toNat (v1, ((((o500000.getD v5.toNat ((0 : Int), (((0 : Int), (0 : Int)), (0 : Int)))).2).1), ((o500000.getD v5.toNat ((0 : Int), (((0 : Int), (0 : Int)), (0 : Int)))).2).2))).getD v5.toNat ((0 : Int), (((0 : Int), (0 : Int)), (0 : Int)))).1, (((IntKind.i64.wrap (v1 + (1 : Int))), ((((o500000.set v5.toNat (v1, ((((o500000.getD v5.toNat ((0 : Int), (((0 : Int), (0 : Int)), (0 : Int)))).2).1), ((o500000.getD v5.toNat ((0 : Int), (((0 : Int), (0 : Int)), (0 : Int)))).2).2))).getD v5.toNat ((0 : Int), (((0 : Int), (0 : Int)), (0 : Int)))).2).1).2), (((o500000.set v5.toNat (v1, ((((o500000.getD v5.toNat ((0 : Int), (((0 : Int), (0 : Int)), (0 : Int)))).2).1), ((o500000.getD v5.toNat ((0 : Int), (((0 : Int), (0 : Int)), (0 : Int)))).2).2))).getD v5.toNat ((0 : Int), (((0 : Int), (0 : Int)), (0 : Int)))).2).2))).set v5.toNat ((((o500000.set v5.toNat (v1, ((((o500000.getD v5.toNat ((0 : Int), (((0 : Int), (0 : Int)), (0 : Int)))).2).1), ((o500000.getD v5.toNat ((0 : Int), (((0 : Int), (0 : Int)), (0 : Int)))).2).2))).set v5.toNat (((o500000.set v5.toNat (v1, ((((o500000.getD v5.toNat ((0 : Int), (((0 : Int), (0 : Int)), (0 : Int)))).2).1), ((o500000.getD v5.toNat ((0 : Int), (((0 : Int), (0 : Int)), (0 : Int)))).2).2))).getD v5.toNat ((0 : Int), (((0 : Int), (0 : Int)), (0 : Int)))).1, (((IntKind.i64.wrap (v1 + (1 : Int))), ((((o500000.set v5.toNat (v1, ((((o500000.getD v5.toNat ((0 : Int), (((0 : Int), (0 : Int)), (0 : Int)))).2).1), ((o500000.getD v5.toNat ((0 : Int), (((0 : Int), (0 : Int)), (0 : Int)))).2).2))).getD v5.toNat ((0 : Int), (((0 : Int), (0 : Int)), (0 : Int)))).2).1).2), (((o500000.set v5.toNat (v1, ((((o500000.getD v5.toNat ((0 : Int), (((0 : Int), (0 : Int)), (0 : Int)))).2).1), ((o500000.getD v5.toNat ((0 : Int), (((0 : Int), (0 : Int)), (0 : Int)))).2).2))).getD v5.toNat ((0 : Int), (((0 : Int), (0 : Int)), (0 : Int)))).2).2))).getD v5.toNat ((0 : Int), (((0 : Int), (0 : Int)), (0 : Int)))).1, (((((((o500000.set v5.toNat (v1, ((((o500000.getD v5.toNat ((0 : Int), (((0 : Int), (0 : Int)), (0 : Int)))).2).1), ((o500000.getD v5.toNat ((0 : Int), (((0 : Int), (0 : Int)), (0 : Int)))).2).2))).set v5.toNat (((o500000.set v5.toNat (v1, ((((o500000.getD v5.toNat ((0 : Int), (((0 : Int), (0 : Int)), (0 : Int)))).2).1), ((o500000.getD v5.toNat ((0 : Int), (((0 : Int), (0 : Int)), (0 : Int)))).2).2))).getD v5.toNat ((0 : Int), (((0 : Int), (0 : Int)), (0 : Int)))).1, (((IntKind.i64.wrap (v1 + (1 : Int))), ((((o500000.set v5.toNat (v1, ((((o500000.getD v5.toNat ((0 : Int), (((0 : Int), (0 : Int)), (0 : Int)))).2).1), ((o500000.getD v5.toNat ((0 : Int), (((0 : Int), (0 : Int)), (0 : Int)))).2).2))).getD v5.toNat ((0 : Int), (((0 : Int), (0 : Int)), (0 : Int)))).2).1).2), (((o500000.set v5.toNat (v1, ((((o500000.getD v5.toNat ((0 : Int), (((0 : Int), (0 : Int)), (0 : Int)))).2).1), ((o500000.getD v5.toNat ((0 : Int), (((0 : Int), (0 : Int)), (0 : Int)))).2).2))).getD v5.toNat ((0 : Int), (((0 : Int), (0 : Int)), (0 : Int)))).2).2))).getD v5.toNat ((0 : Int), (((0 : Int), (0 : Int)), (0 : Int)))).2).1).1, (IntKind.i64.wrap ((IntKind.i64.wrap (v1 + (1 : Int))) + (1 : Int)))), ((((o500000.set v5.toNat (v1, ((((o500000.getD v5.toNat ((0 : Int), (((0 : Int), (0 : Int)), (0 : Int)))).2).1), ((o500000.getD v5.toNat ((0 : Int), (((0 : Int), (0 : Int)), (0 : Int)))).2).2))).set v5.toNat (((o500000.set v5.toNat (v1, ((((o500000.getD v5.toNat ((0 : Int), (((0 : Int), (0 : Int)), (0 : Int)))).2).1), ((o500000.getD v5.toNat ((0 : Int), (((0 : Int), (0 : Int)), (0 : Int)))).2).2))).getD v5.toNat ((0 : Int), (((0 : Int), (0 : Int)), (0 : Int)))).1, (((IntKind.i64.wrap (v1 + (1 : Int))), ((((o500000.set v5.toNat (v1, ((((o500000.getD v5.toNat ((0 : Int), (((0 : Int), (0 : Int)), (0 : Int)))).2).1), ((o500000.getD v5.toNat ((0 : Int), (((0 : Int), (0 : Int)), (0 : Int)))).2).2))).getD v5.toNat ((0 : Int), (((0 : Int), (0 : Int)), (0 : Int)))).2).1).2), (((o500000.set v5.toNat (v1, ((((o500000.getD v5.toNat ((0 : Int), (((0 : Int), (0 : Int)), (0 : Int)))).2).1), ((o500000.getD v5.toNat ((0 : Int), (((0 : Int), (0 : Int)), (0 : Int)))).2).2))).getD v5.toNat ((0 : Int), (((0 : Int), (0 : Int)), (0 : Int)))).2).2))).getD v5.toNat ((0 : Int), (((0 : Int), (0 : Int)), (0 : Int)))).2).2))).getD v5.toNat ((0 : Int), (((0 : Int), (0 : Int)), (0 : Int)))).2).1), (IntKind.i64.wrap ((IntKind.i64.wrap ((IntKind.i64.wrap (v1 + (1 : Int))) + (1 : Int))) + (1 : Int)))))))
                          else (none))
                        else (none))
                      else (none))
                    else (none))
                  else (none))
                else (none))
              else (none))
            else (none))
          else (none))
        else (none))
      else (none))
    else (none))
  else (some (v1, o500000)) := by kernel_rfl
theorem w_markTrick_eq (k : Nat) (x0 : (List Int) × (List (Int × (Int × Int) × Int)) × Int × Int × Int) (x1 : Int) : w_markTrick (k + 1) (x0, x1) =
  (w_markIntS k (x0.1, x1)).bind fun y1 =>
  (w_markStepS k (x0.2.1, y1.1)).bind fun y2 =>
  some (y2.1, (y1.2, y2.2)) := by kernel_rfl
theorem w_heldIntS_eq (k : Nat) (x0 : List Int) (x1 : Int) : w_heldIntS (k + 1) (x0, x1) =
  w_heldIntS_l2 k x0 x1 (0 : Int) := by kernel_rfl
theorem w_heldIntS_l2_eq (k : Nat) (v0 : List Int) (v1 : Int) (v5 : Int) : w_heldIntS_l2 (k + 1) v0 v1 v5 =
  bif decide (v5 < (v0.length : Int)) then
    (bif decide (0 ≤ v5) then
      (bif decide (v5 < (v0.length : Int)) then
        (bif (!((v0.getD v5.toNat (0 : Int)) == v1)) then
          (some (-1 : Int))
        else (w_heldIntS_l2 k v0 (IntKind.i64.wrap (v1 + (1 : Int))) (IntKind.i64.wrap (v5 + (1 : Int)))))
      else (none))
    else (none))
  else (some v1) := by kernel_rfl
theorem w_heldStepS_eq (k : Nat) (x0 : List (Int × (Int × Int) × Int)) (x1 : Int) : w_heldStepS (k + 1) (x0, x1) =
  w_heldStepS_l2 k x0 x1 (0 : Int) := by kernel_rfl
theorem w_heldStepS_l2_eq (k : Nat) (v0 : List (Int × (Int × Int) × Int)) (v1 : Int) (v5 : Int) : w_heldStepS_l2 (k + 1) v0 v1 v5 =
  bif decide (v5 < (v0.length : Int)) then
    (bif decide (0 ≤ v5) then
      (bif decide (v5 < (v0.length : Int)) then
        (bif (!(((v0.getD v5.toNat ((0 : Int), (((0 : Int), (0 : Int)), (0 : Int)))).1) == v1)) then
          (some (-1 : Int))
        else (bif decide (0 ≤ v5) then
            (bif decide (v5 < (v0.length : Int)) then
              (bif (!(((((v0.getD v5.toNat ((0 : Int), (((0 : Int), (0 : Int)), (0 : Int)))).2).1).1) == (IntKind.i64.wrap (v1 + (1 : Int))))) then
                (some (-1 : Int))
              else (bif decide (0 ≤ v5) then
                  (bif decide (v5 < (v0.length : Int)) then
                    (bif (!(((((v0.getD v5.toNat ((0 : Int), (((0 : Int), (0 : Int)), (0 : Int)))).2).1).2) == (IntKind.i64.wrap ((IntKind.i64.wrap (v1 + (1 : Int))) + (1 : Int))))) then
                      (some (-1 : Int))
                    else (bif decide (0 ≤ v5) then
                        (bif decide (v5 < (v0.length : Int)) then
                          (bif (!((((v0.getD v5.toNat ((0 : Int), (((0 : Int), (0 : Int)), (0 : Int)))).2).2) == (IntKind.i64.wrap ((IntKind.i64.wrap ((IntKind.i64.wrap (v1 + (1 : Int))) + (1 : Int))) + (1 : Int))))) then
                            (some (-1 : Int))
                          else (w_heldStepS_l2 k v0 (IntKind.i64.wrap ((IntKind.i64.wrap ((IntKind.i64.wrap ((IntKind.i64.wrap (v1 + (1 : Int))) + (1 : Int))) + (1 : Int))) + (1 : Int))) (IntKind.i64.wrap (v5 + (1 : Int)))))
                        else (none))
                      else (none)))
                  else (none))
                else (none)))
            else (none))
          else (none)))
      else (none))
    else (none))
  else (some v1) := by kernel_rfl
theorem w_heldTrick_eq (k : Nat) (x0 : (List Int) × (List (Int × (Int × Int) × Int)) × Int × Int × Int) (x1 : Int) : w_heldTrick (k + 1) (x0, x1) =
  (w_heldIntS k (x0.1, x1)).bind fun y1 =>
  bif decide (y1 < (0 : Int)) then
    (some (-1 : Int))
  else ((w_heldStepS k (x0.2.1, y1)).bind fun y2 =>
    bif decide (y2 < (0 : Int)) then
      (some (-1 : Int))
    else (some y2)) := by kernel_rfl
theorem w_FnExactDropStep_eq (k : Nat) (x0 : (List Int) × (List (Int × (Int × Int) × Int)) × Int × Int × Int) (x1 : Int) : w_FnExactDropStep (k + 1) (x0, x1) =
  (w_szTrick k (x0, (1048576 : Int))).bind fun y1 =>
  bif decide (y1 < (0 : Int)) then
    (some true)
  else ((w_toTrick k x0).bind fun y2 =>
    (s_DropStep k (y2, x1)).bind fun y3 =>
    (w_toTrick k x0).bind fun y4 =>
    (i_DropStep k (y4, x1)).bind fun y5 =>
    (w_eqTrick k ((y5.1, (y5.2.1, (y5.2.2.1, (y5.2.2.2.1, y5.2.2.2.2.1)))), (y3.1, (y3.2.1, (y3.2.2.1, (y3.2.2.2.1, y3.2.2.2.2.1)))))).bind fun y6 =>
    bif (!y6) then
      (some false)
    else (bif (!(y5.2.2.2.2.2 == y3.2.2.2.2.2)) then
        (some false)
      else ((w_toTrick k x0).bind fun y7 =>
        (w_eqTrick k (y4, y7)).bind fun y8 =>
        bif (!y8) then
          (some false)
        else ((w_markTrick k (y4, (1 : Int))).bind fun y9 =>
          bif decide (y9.1 < (0 : Int)) then
            (some false)
          else ((w_eqTrick k ((y5.1, (y5.2.1, (y5.2.2.1, (y5.2.2.2.1, y5.2.2.2.2.1)))), (y3.1, (y3.2.1, (y3.2.2.1, (y3.2.2.2.1, y3.2.2.2.2.1)))))).bind fun y10 =>
            bif (!y10) then
              (some false)
            else (bif (!(y5.2.2.2.2.2 == y3.2.2.2.2.2)) then
                (some false)
              else ((w_markTrick k ((y5.1, (y5.2.1, (y5.2.2.1, (y5.2.2.2.1, y5.2.2.2.2.1)))), (1 : Int))).bind fun y11 =>
                (w_heldTrick k ((y11.2.1, (y11.2.2, (y5.2.2.1, (y5.2.2.2.1, y5.2.2.2.2.1)))), (1 : Int))).bind fun y12 =>
                bif decide (y12 < (0 : Int)) then
                  (some false)
                else (bif (!(y12 == y11.1)) then
                    (some false)
                  else ((w_toTrick k x0).bind fun y13 =>
                    (i_DropStep k (y13, x1)).bind fun y14 =>
                    (w_eqTrick k ((y14.1, (y14.2.1, (y14.2.2.1, (y14.2.2.2.1, y14.2.2.2.2.1)))), (y3.1, (y3.2.1, (y3.2.2.1, (y3.2.2.2.1, y3.2.2.2.2.1)))))).bind fun y15 =>
                    bif (!y15) then
                      (some false)
                    else (bif (!(y14.2.2.2.2.2 == y3.2.2.2.2.2)) then
                        (some false)
                      else ((w_heldTrick k ((y11.2.1, (y11.2.2, (y5.2.2.1, (y5.2.2.2.1, y5.2.2.2.2.1)))), (1 : Int))).bind fun y16 =>
                        bif decide (y16 < (0 : Int)) then
                          (some false)
                        else (bif (!(y16 == y11.1)) then
                            (some false)
                          else (some true))))))))))))) := by kernel_rfl
theorem s_l18Cut_eq (k : Nat) (x0 : Int × (Int × Int) × Int) : s_l18Cut (k + 1) x0 =
  bif (x0.1 == (1 : Int)) then
    (some (x0.2.1.1 == (1 : Int)))
  else (some false) := by kernel_rfl
theorem s_JoinMoves_eq (k : Nat) (x0 : (List Int) × (List (Int × (Int × Int) × Int)) × Int × Int × Int) : s_JoinMoves (k + 1) x0 =
  (s_TrickOk k x0).bind fun y1 =>
  bif (!y1) then
    (some ([], ([], ((0 : Int), ((0 : Int), ((0 : Int), false))))))
  else (bif decide (([] : List Int).length + x0.1.length ≤ rowMax) then
      (s_JoinMoves_l6 k (x0.1.length : Int) x0.2.1 (x0.2.1.length : Int) (0 : Int) (0 : Int) (0 : Int) (0 : Int) x0.2.2.1 x0.2.2.2.1 x0.2.2.2.2 (([] : List Int) ++ x0.1) [])
    else (none)) := by kernel_rfl
theorem s_JoinMoves_l6_eq (k : Nat) (v4 : Int) (v29 : List (Int × (Int × Int) × Int)) (v30 : Int) (v31 : Int) (o200002_2 : Int) (o200002_3 : Int) (o200002_4 : Int) (o200005_2 : Int) (o200005_3 : Int) (o200005_4 : Int) (o300500 : List Int) (o300501 : List (Int × (Int × Int) × Int)) : s_JoinMoves_l6 (k + 1) v4 v29 v30 v31 o200002_2 o200002_3 o200002_4 o200005_2 o200005_3 o200005_4 o300500 o300501 =
  bif decide (v31 < v30) then
    (bif decide (0 ≤ v31) then
      (bif decide (v31 < (v29.length : Int)) then
        (bif decide ((IntKind.i64.wrap ((o300501.length : Int) - (1 : Int))) ≥ (0 : Int)) then
          ((s_l18Cut k ((v29.getD v31.toNat ((0 : Int), (((0 : Int), (0 : Int)), (0 : Int)))).1, ((((v29.getD v31.toNat ((0 : Int), (((0 : Int), (0 : Int)), (0 : Int)))).2).1), ((v29.getD v31.toNat ((0 : Int), (((0 : Int), (0 : Int)), (0 : Int)))).2).2))).bind fun y1 =>
          bif y1 then
            (bif decide (0 ≤ (IntKind.i64.wrap ((o300501.length : Int) - (1 : Int)))) then
              (bif decide ((IntKind.i64.wrap ((o300501.length : Int) - (1 : Int))) < (o300501.length : Int)) then
                (bif decide ((IntKind.i64.wrap ((o300501.length : Int) - (1 : Int))).toNat < o300501.length) then
                  ((s_l18Cut k ((o300501.getD (IntKind.i64.wrap ((o300501.length : Int) - (1 : Int))).toNat ((0 : Int), (((0 : Int), (0 : Int)), (0 : Int)))).1, ((((o300501.getD (IntKind.i64.wrap ((o300501.length : Int) - (1 : Int))).toNat ((0 : Int), (((0 : Int), (0 : Int)), (0 : Int)))).2).1), ((o300501.getD (IntKind.i64.wrap ((o300501.length : Int) - (1 : Int))).toNat ((0 : Int), (((0 : Int), (0 : Int)), (0 : Int)))).2).2))).bind fun y2 =>
                  bif y2 then
                    (bif decide (0 ≤ (IntKind.i64.wrap ((o300501.length : Int) - (1 : Int)))) then
                      (bif decide ((IntKind.i64.wrap ((o300501.length : Int) - (1 : Int))) < (o300501.length : Int)) then
                        (bif decide ((IntKind.i64.wrap ((o300501.length : Int) - (1 : Int))).toNat < o300501.length) then
                          (bif decide ((IntKind.i64.wrap (((((o300501.getD (IntKind.i64.wrap ((o300501.length : Int) - (1 : Int))).toNat ((0 : Int), (((0 : Int), (0 : Int)), (0 : Int)))).2).1).2) + ((((v29.getD v31.toNat ((0 : Int), (((0 : Int), (0 : Int)), (0 : Int)))).2).1).2))) > v4) then
                            (bif decide (0 ≤ (IntKind.i64.wrap ((o300501.length : Int) - (1 : Int)))) then
                              (bif decide ((IntKind.i64.wrap ((o300501.length : Int) - (1 : Int))) < (o300501.length : Int)) then
                                (bif decide ((IntKind.i64.wrap ((o300501.length : Int) - (1 : Int))).toNat < o300501.length) then
                                  (s_JoinMoves_l6 k v4 v29 v30 (IntKind.i64.wrap (v31 + (1 : Int))) o200002_2 o200002_3 o200002_4 o200005_2 o200005_3 o200005_4 o300500 (o300501.set (IntKind.i64.wrap ((o300501.length : Int) - (1 : Int))).toNat ((o300501.getD (IntKind.i64.wrap ((o300501.length : Int) - (1 : Int))).toNat ((0 : Int), (((0 : Int), (0 : Int)), (0 : Int)))).1, (((((o300501.getD (IntKind.i64.wrap ((o300501.length : Int) - (1 : Int))).toNat ((0 : Int), (((0 : Int), (0 : Int)), (0 : Int)))).2).1).1, (IntKind.i64.wrap ((IntKind.i64.wrap (((((o300501.getD (IntKind.i64.wrap ((o300501.length : Int) - (1 : Int))).toNat ((0 : Int), (((0 : Int), (0 : Int)), (0 : Int)))).2).1).2) + ((((v29.getD v31.toNat ((0 : Int), (((0 : Int), (0 : Int)), (0 : Int)))).2).1).2))) - v4))), ((o300501.getD (IntKind.i64.wrap ((o300501.length : Int) - (1 : Int))).toNat ((0 : Int), (((0 : Int), (0 : Int)), (0 : Int)))).2).2))))
                                else (none))
                              else (none))
                            else (none))
                          else (bif decide (0 ≤ (IntKind.i64.wrap ((o300501.length : Int) - (1 : Int)))) then
                              (bif decide ((IntKind.i64.wrap ((o300501.length : Int) - (1 : Int))) < (o300501.length : Int)) then
                                (bif decide ((IntKind.i64.wrap ((o300501.length : Int) - (1 : Int))).toNat < o300501.length) then
                                  (s_JoinMoves_l6 k v4 v29 v30 (IntKind.i64.wrap (v31 + (1 : Int))) o200002_2 o200002_3 o200002_4 o200005_2 o200005_3 o200005_4 o300500 (o300501.set (IntKind.i64.wrap ((o300501.length : Int) - (1 : Int))).toNat ((o300501.getD (IntKind.i64.wrap ((o300501.length : Int) - (1 : Int))).toNat ((0 : Int), (((0 : Int), (0 : Int)), (0 : Int)))).1, (((((o300501.getD (IntKind.i64.wrap ((o300501.length : Int) - (1 : Int))).toNat ((0 : Int), (((0 : Int), (0 : Int)), (0 : Int)))).2).1).1, (IntKind.i64.wrap (((((o300501.getD (IntKind.i64.wrap ((o300501.length : Int) - (1 : Int))).toNat ((0 : Int), (((0 : Int), (0 : Int)), (0 : Int)))).2).1).2) + ((((v29.getD v31.toNat ((0 : Int), (((0 : Int), (0 : Int)), (0 : Int)))).2).1).2)))), ((o300501.getD (IntKind.i64.wrap ((o300501.length : Int) - (1 : Int))).toNat ((0 : Int), (((0 : Int), (0 : Int)), (0 : Int)))).2).2))))
                                else (none))
                              else (none))
                            else (none)))
                        else (none))
                      else (none))
                    else (none))
                  else (bif decide (o300501.length + [((v29.getD v31.toNat ((0 : Int), (((0 : Int), (0 : Int)), (0 : Int)))).1, ((((v29.getD v31.toNat ((0 : Int), (((0 : Int), (0 : Int)), (0 : Int)))).2).1), ((v29.getD v31.toNat ((0 : Int), (((0 : Int), (0 : Int)), (0 : Int)))).2).2))].length ≤ rowMax) then
                      (s_JoinMoves_l6 k v4 v29 v30 (IntKind.i64.wrap (v31 + (1 : Int))) o200002_2 o200002_3 o200002_4 o200005_2 o200005_3 o200005_4 o300500 (o300501 ++ [((v29.getD v31.toNat ((0 : Int), (((0 : Int), (0 : Int)), (0 : Int)))).1, ((((v29.getD v31.toNat ((0 : Int), (((0 : Int), (0 : Int)), (0 : Int)))).2).1), ((v29.getD v31.toNat ((0 : Int), (((0 : Int), (0 : Int)), (0 : Int)))).2).2))]))
                    else (none)))
                else (none))
              else (none))
            else (none))
          else (bif decide (o300501.length + [((v29.getD v31.toNat ((0 : Int), (((0 : Int), (0 : Int)), (0 : Int)))).1, ((((v29.getD v31.toNat ((0 : Int), (((0 : Int), (0 : Int)), (0 : Int)))).2).1), ((v29.getD v31.toNat ((0 : Int), (((0 : Int), (0 : Int)), (0 : Int)))).2).2))].length ≤ rowMax) then
              (s_JoinMoves_l6 k v4 v29 v30 (IntKind.i64.wrap (v31 + (1 : Int))) o200002_2 o200002_3 o200002_4 o200005_2 o200005_3 o200005_4 o300500 (o300501 ++ [((v29.getD v31.toNat ((0 : Int), (((0 : Int), (0 : Int)), (0 : Int)))).1, ((((v29.getD v31.toNat ((0 : Int), (((0 : Int), (0 : Int)), (0 : Int)))).2).1), ((v29.getD v31.toNat ((0 : Int), (((0 : Int), (0 : Int)), (0 : Int)))).2).2))]))
            else (none)))
        else (bif decide (o300501.length + [((v29.getD v31.toNat ((0 : Int), (((0 : Int), (0 : Int)), (0 : Int)))).1, ((((v29.getD v31.toNat ((0 : Int), (((0 : Int), (0 : Int)), (0 : Int)))).2).1), ((v29.getD v31.toNat ((0 : Int), (((0 : Int), (0 : Int)), (0 : Int)))).2).2))].length ≤ rowMax) then
            (s_JoinMoves_l6 k v4 v29 v30 (IntKind.i64.wrap (v31 + (1 : Int))) o200002_2 o200002_3 o200002_4 o200005_2 o200005_3 o200005_4 o300500 (o300501 ++ [((v29.getD v31.toNat ((0 : Int), (((0 : Int), (0 : Int)), (0 : Int)))).1, ((((v29.getD v31.toNat ((0 : Int), (((0 : Int), (0 : Int)), (0 : Int)))).2).1), ((v29.getD v31.toNat ((0 : Int), (((0 : Int), (0 : Int)), (0 : Int)))).2).2))]))
          else (none)))
      else (none))
    else (none))
  else (some (o300500, (o300501, (o200005_2, (o200005_3, (o200005_4, true)))))) := by kernel_rfl
theorem i_JoinMoves_eq (k : Nat) (x0 : (List Int) × (List (Int × (Int × Int) × Int)) × Int × Int × Int) : i_JoinMoves (k + 1) x0 =
  (i_TrickOk k x0).bind fun y1 =>
  bif (!y1) then
    (some ([], ([], ((0 : Int), ((0 : Int), ((0 : Int), false))))))
  else ((i_copyTrick k x0).bind fun y2 =>
    i_JoinMoves_l5 k (1 : Int) x0.1 x0.2.1 x0.2.2.1 x0.2.2.2.1 x0.2.2.2.2 (0 : Int) (0 : Int) (0 : Int) y2.2.2.1 y2.2.2.2.1 y2.2.2.2.2 y2.1 y2.2.1) := by kernel_rfl
theorem i_JoinMoves_l5_eq (k : Nat) (v5 : Int) (o200001_0 : List Int) (o200001_1 : List (Int × (Int × Int) × Int)) (o200001_2 : Int) (o200001_3 : Int) (o200001_4 : Int) (o200002_2 : Int) (o200002_3 : Int) (o200002_4 : Int) (o200004_2 : Int) (o200004_3 : Int) (o200004_4 : Int) (o300400 : List Int) (o300401 : List (Int × (Int × Int) × Int)) : i_JoinMoves_l5 (k + 1) v5 o200001_0 o200001_1 o200001_2 o200001_3 o200001_4 o200002_2 o200002_3 o200002_4 o200004_2 o200004_3 o200004_4 o300400 o300401 =
  bif decide (v5 < (o300401.length : Int)) then
    (bif decide (0 ≤ (IntKind.i64.wrap (v5 - (1 : Int)))) then
      (bif decide ((IntKind.i64.wrap (v5 - (1 : Int))) < (o300401.length : Int)) then
        (bif decide ((IntKind.i64.wrap (v5 - (1 : Int))).toNat < o300401.length) then
          (bif decide (0 ≤ v5) then
            (bif decide (v5 < (o300401.length : Int)) then
              (bif decide (v5.toNat < o300401.length) then
                (bif (!(((o300401.getD (IntKind.i64.wrap (v5 - (1 : Int))).toNat ((0 : Int), (((0 : Int), (0 : Int)), (0 : Int)))).1) == (1 : Int))) then
                  (i_JoinMoves_l5 k (IntKind.i64.wrap (v5 + (1 : Int))) o200001_0 o200001_1 o200001_2 o200001_3 o200001_4 o200002_2 o200002_3 o200002_4 o200004_2 o200004_3 o200004_4 o300400 o300401)
                else (bif (!(((o300401.getD v5.toNat ((0 : Int), (((0 : Int), (0 : Int)), (0 : Int)))).1) == (1 : Int))) then
                    (i_JoinMoves_l5 k (IntKind.i64.wrap (v5 + (1 : Int))) o200001_0 o200001_1 o200001_2 o200001_3 o200001_4 o200002_2 o200002_3 o200002_4 o200004_2 o200004_3 o200004_4 o300400 o300401)
                  else (bif (!(((((o300401.getD (IntKind.i64.wrap (v5 - (1 : Int))).toNat ((0 : Int), (((0 : Int), (0 : Int)), (0 : Int)))).2).1).1) == (1 : Int))) then
                      (i_JoinMoves_l5 k (IntKind.i64.wrap (v5 + (1 : Int))) o200001_0 o200001_1 o200001_2 o200001_3 o200001_4 o200002_2 o200002_3 o200002_4 o200004_2 o200004_3 o200004_4 o300400 o300401)
                    else (bif (!(((((o300401.getD v5.toNat ((0 : Int), (((0 : Int), (0 : Int)), (0 : Int)))).2).1).1) == (1 : Int))) then
                        (i_JoinMoves_l5 k (IntKind.i64.wrap (v5 + (1 : Int))) o200001_0 o200001_1 o200001_2 o200001_3 o200001_4 o200002_2 o200002_3 o200002_4 o200004_2 o200004_3 o200004_4 o300400 o300401)
                      else (bif decide ((IntKind.i64.wrap (((((o300401.getD (IntKind.i64.wrap (v5 - (1 : Int))).toNat ((0 : Int), (((0 : Int), (0 : Int)), (0 : Int)))).2).1).2) + ((((o300401.getD v5.toNat ((0 : Int), (((0 : Int), (0 : Int)), (0 : Int)))).2).1).2))) > (o200001_0.length : Int)) then
                          (bif decide (0 ≤ (IntKind.i64.wrap (v5 - (1 : Int)))) then
                            (bif decide ((IntKind.i64.wrap (v5 - (1 : Int))) < (o300401.length : Int)) then
                              (bif decide ((IntKind.i64.wrap (v5 - (1 : Int))).toNat < o300401.length) then
                                ((slices_Delete_i_Step k ((o300401.set (IntKind.i64.wrap (v5 - (1 : Int))).toNat ((o300401.getD (IntKind.i64.wrap (v5 - (1 : Int))).toNat ((0 : Int), (((0 : Int), (0 : Int)), (0 : Int)))).1, (((((o300401.getD (IntKind.i64.wrap (v5 - (1 : Int))).toNat ((0 : Int), (((0 : Int), (0 : Int)), (0 : Int)))).2).1).1, (IntKind.i64.wrap ((IntKind.i64.wrap (((((o300401.getD (IntKind.i64.wrap (v5 - (1 : Int))).toNat ((0 : Int), (((0 : Int), (0 : Int)), (0 : Int)))).2).1).2) + ((((o300401.getD v5.toNat ((0 : Int), (((0 : Int), (0 : Int)), (0 : Int)))).2).1).2))) - (o200001_0.length : Int)))), ((o300401.getD (IntKind.i64.wrap (v5 - (1 : Int))).toNat ((0 : Int), (((0 : Int), (0 : Int)), (0 : Int)))).2).2))), (v5, (IntKind.i64.wrap (v5 + (1 : Int)))))).bind fun y1 =>
                                i_JoinMoves_l5 k v5 o200001_0 o200001_1 o200001_2 o200001_3 o200001_4 o200002_2 o200002_3 o200002_4 o200004_2 o200004_3 o200004_4 o300400 y1)
                              else (none))
                            else (none))
                          else (none))
                        else (bif decide (0 ≤ (IntKind.i64.wrap (v5 - (1 : Int)))) then
                            (bif decide ((IntKind.i64.wrap (v5 - (1 : Int))) < (o300401.length : Int)) then
                              (bif decide ((IntKind.i64.wrap (v5 - (1 : Int))).toNat < o300401.length) then
                                ((slices_Delete_i_Step k ((o300401.set (IntKind.i64.wrap (v5 - (1 : Int))).toNat ((o300401.getD (IntKind.i64.wrap (v5 - (1 : Int))).toNat ((0 : Int), (((0 : Int), (0 : Int)), (0 : Int)))).1, (((((o300401.getD (IntKind.i64.wrap (v5 - (1 : Int))).toNat ((0 : Int), (((0 : Int), (0 : Int)), (0 : Int)))).2).1).1, (IntKind.i64.wrap (((((o300401.getD (IntKind.i64.wrap (v5 - (1 : Int))).toNat ((0 : Int), (((0 : Int), (0 : Int)), (0 : Int)))).2).1).2) + ((((o300401.getD v5.toNat ((0 : Int), (((0 : Int), (0 : Int)), (0 : Int)))).2).1).2)))), ((o300401.getD (IntKind.i64.wrap (v5 - (1 : Int))).toNat ((0 : Int), (((0 : Int), (0 : Int)), (0 : Int)))).2).2))), (v5, (IntKind.i64.wrap (v5 + (1 : Int)))))).bind fun y2 =>
                                i_JoinMoves_l5 k v5 o200001_0 o200001_1 o200001_2 o200001_3 o200001_4 o200002_2 o200002_3 o200002_4 o200004_2 o200004_3 o200004_4 o300400 y2)
                              else (none))
                            else (none))
                          else (none)))))))
              else (none))
            else (none))
          else (none))
        else (none))
      else (none))
    else (none))
  else (some (o300400, (o300401, (o200004_2, (o200004_3, (o200004_4, true)))))) := by kernel_rfl
theorem w_FnExactJoinMoves_eq (k : Nat) (x0 : (List Int) × (List (Int × (Int × Int) × Int)) × Int × Int × Int) : w_FnExactJoinMoves (k + 1) x0 =
  (w_szTrick k (x0, (1048576 : Int))).bind fun y1 =>
  bif decide (y1 < (0 : Int)) then
    (some true)
  else ((w_toTrick k x0).bind fun y2 =>
    (s_JoinMoves k y2).bind fun y3 =>
    (w_toTrick k x0).bind fun y4 =>
    (i_JoinMoves k y4).bind fun y5 =>
    (w_eqTrick k ((y5.1, (y5.2.1, (y5.2.2.1, (y5.2.2.2.1, y5.2.2.2.2.1)))), (y3.1, (y3.2.1, (y3.2.2.1, (y3.2.2.2.1, y3.2.2.2.2.1)))))).bind fun y6 =>
    bif (!y6) then
      (some false)
    else (bif (!(y5.2.2.2.2.2 == y3.2.2.2.2.2)) then
        (some false)
      else ((w_toTrick k x0).bind fun y7 =>
        (w_eqTrick k (y4, y7)).bind fun y8 =>
        bif (!y8) then
          (some false)
        else ((w_markTrick k (y4, (1 : Int))).bind fun y9 =>
          bif decide (y9.1 < (0 : Int)) then
            (some false)
          else ((w_eqTrick k ((y5.1, (y5.2.1, (y5.2.2.1, (y5.2.2.2.1, y5.2.2.2.2.1)))), (y3.1, (y3.2.1, (y3.2.2.1, (y3.2.2.2.1, y3.2.2.2.2.1)))))).bind fun y10 =>
            bif (!y10) then
              (some false)
            else (bif (!(y5.2.2.2.2.2 == y3.2.2.2.2.2)) then
                (some false)
              else ((w_markTrick k ((y5.1, (y5.2.1, (y5.2.2.1, (y5.2.2.2.1, y5.2.2.2.2.1)))), (1 : Int))).bind fun y11 =>
                (w_heldTrick k ((y11.2.1, (y11.2.2, (y5.2.2.1, (y5.2.2.2.1, y5.2.2.2.2.1)))), (1 : Int))).bind fun y12 =>
                bif decide (y12 < (0 : Int)) then
                  (some false)
                else (bif (!(y12 == y11.1)) then
                    (some false)
                  else ((w_toTrick k x0).bind fun y13 =>
                    (i_JoinMoves k y13).bind fun y14 =>
                    (w_eqTrick k ((y14.1, (y14.2.1, (y14.2.2.1, (y14.2.2.2.1, y14.2.2.2.2.1)))), (y3.1, (y3.2.1, (y3.2.2.1, (y3.2.2.2.1, y3.2.2.2.2.1)))))).bind fun y15 =>
                    bif (!y15) then
                      (some false)
                    else (bif (!(y14.2.2.2.2.2 == y3.2.2.2.2.2)) then
                        (some false)
                      else ((w_heldTrick k ((y11.2.1, (y11.2.2, (y5.2.2.1, (y5.2.2.2.1, y5.2.2.2.2.1)))), (1 : Int))).bind fun y16 =>
                        bif decide (y16 < (0 : Int)) then
                          (some false)
                        else (bif (!(y16 == y11.1)) then
                            (some false)
                          else (some true))))))))))))) := by kernel_rfl

/-! ### the tables are right -/
/-- What holds of the world throughout. -/
abbrev gw : World → Prop := fun w => True
theorem ty_3 : TyOk Go.Proofs.Try.prog 3 (.one (.int .i64)) := tyOk_int (by kernel_rfl) (by kernel_rfl) (by kernel_rfl)
theorem ty_4 : TyOk Go.Proofs.Try.prog 4 (.one (.bool)) := tyOk_bool (by kernel_rfl) (by kernel_rfl) (by kernel_rfl)
theorem ty_22 : TyOk Go.Proofs.Try.prog 22 (.one (.slice (.int .i64))) := tyOk_slice (e := 3) (by kernel_rfl) (by kernel_rfl) (by kernel_rfl) (elemOk_of (by kernel_rfl) (by kernel_rfl) (by kernel_rfl))
theorem ty_23 : TyOk Go.Proofs.Try.prog 23 (.one (.slice (.pair (.int .i64) (.pair (.pair (.int .i64) (.int .i64)) (.int .i64))))) := tyOk_slice (e := 54) (by kernel_rfl) (by kernel_rfl) (by kernel_rfl) (elemOk_of (by kernel_rfl) (by kernel_rfl) (by kernel_rfl))
theorem ty_25 : TyOk Go.Proofs.Try.prog 25 (.struct [(0, 22), (1, 23), (2, 3), (3, 3), (4, 3)] [.slice (.int .i64), .slice (.pair (.int .i64) (.pair (.pair (.int .i64) (.int .i64)) (.int .i64))), .int .i64, .int .i64, .int .i64] false) := tyOk_struct (fields := Go.Proofs.Try.prog.fieldsOf 25) (by kernel_rfl) (by kernel_rfl) (by kernel_rfl) (by kernel_rfl) (by kernel_rfl) (by kernel_rfl) (fun e => by cases e)
theorem ty_27 : TyOk Go.Proofs.Try.prog 27 (.one (.slice (.pair (.int .i64) (.pair (.pair (.int .i64) (.int .i64)) (.int .i64))))) := tyOk_slice (e := 61) (by kernel_rfl) (by kernel_rfl) (by kernel_rfl) (elemOk_of (by kernel_rfl) (by kernel_rfl) (by kernel_rfl))
theorem ty_29 : TyOk Go.Proofs.Try.prog 29 (.struct [(0, 22), (1, 27), (2, 3), (3, 3), (4, 3)] [.slice (.int .i64), .slice (.pair (.int .i64) (.pair (.pair (.int .i64) (.int .i64)) (.int .i64))), .int .i64, .int .i64, .int .i64] false) := tyOk_struct (fields := Go.Proofs.Try.prog.fieldsOf 29) (by kernel_rfl) (by kernel_rfl) (by kernel_rfl) (by kernel_rfl) (by kernel_rfl) (by kernel_rfl) (fun e => by cases e)
theorem ty_40 : TyOk Go.Proofs.Try.prog 40 (.struct [(0, 3), (1, 3)] [.int .i64, .int .i64] true) := tyOk_struct (fields := Go.Proofs.Try.prog.fieldsOf 40) (by kernel_rfl) (by kernel_rfl) (by kernel_rfl) (by kernel_rfl) (by kernel_rfl) (by kernel_rfl) (fun _ => structEq_ok (d := 20) (fields := Go.Proofs.Try.prog.fieldsOf 40) (by kernel_rfl) (by kernel_rfl) (by decide) (by kernel_rfl))
theorem ty_45 : TyOk Go.Proofs.Try.prog 45 (.struct [(0, 3), (1, 3)] [.int .i64, .int .i64] true) := tyOk_struct (fields := Go.Proofs.Try.prog.fieldsOf 45) (by kernel_rfl) (by kernel_rfl) (by kernel_rfl) (by kernel_rfl) (by kernel_rfl) (by kernel_rfl) (fun _ => structEq_ok (d := 20) (fields := Go.Proofs.Try.prog.fieldsOf 45) (by kernel_rfl) (by kernel_rfl) (by decide) (by kernel_rfl))
theorem ty_54 : TyOk Go.Proofs.Try.prog 54 (.struct [(0, 3), (1, 40), (3, 3)] [.int .i64, .int .i64, .int .i64, .int .i64] true) := tyOk_struct (fields := Go.Proofs.Try.prog.fieldsOf 54) (by kernel_rfl) (by kernel_rfl) (by kernel_rfl) (by kernel_rfl) (by kernel_rfl) (by kernel_rfl) (fun _ => structEq_ok (d := 20) (fields := Go.Proofs.Try.prog.fieldsOf 54) (by kernel_rfl) (by kernel_rfl) (by decide) (by kernel_rfl))
theorem ty_61 : TyOk Go.Proofs.Try.prog 61 (.struct [(0, 3), (1, 45), (3, 3)] [.int .i64, .int .i64, .int .i64, .int .i64] true) := tyOk_struct (fields := Go.Proofs.Try.prog.fieldsOf 61) (by kernel_rfl) (by kernel_rfl) (by kernel_rfl) (by kernel_rfl) (by kernel_rfl) (by kernel_rfl) (fun _ => structEq_ok (d := 20) (fields := Go.Proofs.Try.prog.fieldsOf 61) (by kernel_rfl) (by kernel_rfl) (by decide) (by kernel_rfl))
theorem ty_121 : TyOk Go.Proofs.Try.prog 121 (.arr 12 (.bool)) := tyOk_arr (e := 4) (by kernel_rfl) (elemOk_of (by kernel_rfl) (by kernel_rfl) (by kernel_rfl)) (by kernel_rfl) (by kernel_rfl)
theorem hE : ∀ T ti, E.ty T = some ti → TyOk Go.Proofs.Try.prog T ti := lookT_ok (l := tyL) ⟨ty_3, ty_4, ty_22, ty_23, ty_25, ty_27, ty_29, ty_40, ty_45, ty_54, ty_61, ty_121, trivial⟩
theorem w_szIntS_ok : OneF Go.Proofs.Try.prog gw 52 w_szIntS_fi := fnOk_of (fn := Go.Proofs.Try.f52) (c := w_szIntS_c) Go.Proofs.Try.func52 (by kernel_rfl) (by kernel_rfl) rfl rfl (by kernel_rfl) (by kernel_rfl) rfl
theorem w_szStepS_ok : OneF Go.Proofs.Try.prog gw 53 w_szStepS_fi := fnOk_of (fn := Go.Proofs.Try.f53) (c := w_szStepS_c) Go.Proofs.Try.func53 (by kernel_rfl) (by kernel_rfl) rfl rfl (by kernel_rfl) (by kernel_rfl) rfl
theorem w_szTrick_ok : OneF Go.Proofs.Try.prog gw 10 w_szTrick_fi := fnOk_of (fn := Go.Proofs.Try.f10) (c := w_szTrick_c) Go.Proofs.Try.func10 (by kernel_rfl) (by kernel_rfl) rfl rfl (by kernel_rfl) (by kernel_rfl) rfl
theorem w_toIntS_ok : OneF Go.Proofs.Try.prog gw 40 w_toIntS_fi := fnOk_of (fn := Go.Proofs.Try.f40) (c := w_toIntS_c) Go.Proofs.Try.func40 (by kernel_rfl) (by kernel_rfl) rfl rfl (by kernel_rfl) (by kernel_rfl) rfl
theorem w_toMove_ok : OneF Go.Proofs.Try.prog gw 22 w_toMove_fi := fnOk_of (fn := Go.Proofs.Try.f22) (c := w_toMove_c) Go.Proofs.Try.func22 (by kernel_rfl) (by kernel_rfl) rfl rfl (by kernel_rfl) (by kernel_rfl) rfl
theorem w_toStep_ok : OneF Go.Proofs.Try.prog gw 32 w_toStep_fi := fnOk_of (fn := Go.Proofs.Try.f32) (c := w_toStep_c) Go.Proofs.Try.func32 (by kernel_rfl) (by kernel_rfl) rfl rfl (by kernel_rfl) (by kernel_rfl) rfl
theorem w_toStepS_ok : OneF Go.Proofs.Try.prog gw 57 w_toStepS_fi := fnOk_of (fn := Go.Proofs.Try.f57) (c := w_toStepS_c) Go.Proofs.Try.func57 (by kernel_rfl) (by kernel_rfl) rfl rfl (by kernel_rfl) (by kernel_rfl) rfl
theorem w_toTrick_ok : OneF Go.Proofs.Try.prog gw 12 w_toTrick_fi := fnOk_of (fn := Go.Proofs.Try.f12) (c := w_toTrick_c) Go.Proofs.Try.func12 (by kernel_rfl) (by kernel_rfl) rfl rfl (by kernel_rfl) (by kernel_rfl) rfl
theorem s_l01In_ok : OneF Go.Proofs.Try.prog gw 55 s_l01In_fi := fnOk_of (fn := Go.Proofs.Try.f55) (c := s_l01In_c) Go.Proofs.Try.func55 (by kernel_rfl) (by kernel_rfl) rfl rfl (by kernel_rfl) (by kernel_rfl) rfl
theorem s_CardOf_ok : OneF Go.Proofs.Try.prog gw 122 s_CardOf_fi := fnOk_of (fn := Go.Proofs.Try.f122) (c := s_CardOf_c) Go.Proofs.Try.func122 (by kernel_rfl) (by kernel_rfl) rfl rfl (by kernel_rfl) (by kernel_rfl) rfl
theorem s_l02Has_ok : OneF Go.Proofs.Try.prog gw 123 s_l02Has_fi := fnOk_of (fn := Go.Proofs.Try.f123) (c := s_l02Has_c) Go.Proofs.Try.func123 (by kernel_rfl) (by kernel_rfl) rfl rfl (by kernel_rfl) (by kernel_rfl) rfl
theorem s_PacketOk_ok : OneF Go.Proofs.Try.prog gw 75 s_PacketOk_fi := fnOk_of (fn := Go.Proofs.Try.f75) (c := s_PacketOk_c) Go.Proofs.Try.func75 (by kernel_rfl) (by kernel_rfl) rfl rfl (by kernel_rfl) (by kernel_rfl) rfl
theorem s_MoveOk_ok : OneF Go.Proofs.Try.prog gw 67 s_MoveOk_fi := fnOk_of (fn := Go.Proofs.Try.f67) (c := s_MoveOk_c) Go.Proofs.Try.func67 (by kernel_rfl) (by kernel_rfl) rfl rfl (by kernel_rfl) (by kernel_rfl) rfl
theorem s_l16Choice_ok : OneF Go.Proofs.Try.prog gw 124 s_l16Choice_fi := fnOk_of (fn := Go.Proofs.Try.f124) (c := s_l16Choice_c) Go.Proofs.Try.func124 (by kernel_rfl) (by kernel_rfl) rfl rfl (by kernel_rfl) (by kernel_rfl) rfl
theorem s_StepOk_ok : OneF Go.Proofs.Try.prog gw 76 s_StepOk_fi := fnOk_of (fn := Go.Proofs.Try.f76) (c := s_StepOk_c) Go.Proofs.Try.func76 (by kernel_rfl) (by kernel_rfl) rfl rfl (by kernel_rfl) (by kernel_rfl) rfl
theorem s_PositionOf_ok : OneF Go.Proofs.Try.prog gw 133 s_PositionOf_fi := fnOk_of (fn := Go.Proofs.Try.f133) (c := s_PositionOf_c) Go.Proofs.Try.func133 (by kernel_rfl) (by kernel_rfl) rfl rfl (by kernel_rfl) (by kernel_rfl) rfl
theorem s_l16Claim_ok : OneF Go.Proofs.Try.prog gw 97 s_l16Claim_fi := fnOk_of (fn := Go.Proofs.Try.f97) (c := s_l16Claim_c) Go.Proofs.Try.func97 (by kernel_rfl) (by kernel_rfl) rfl rfl (by kernel_rfl) (by kernel_rfl) rfl
theorem s_TrickOk_ok : OneF Go.Proofs.Try.prog gw 54 s_TrickOk_fi := fnOk_of (fn := Go.Proofs.Try.f54) (c := s_TrickOk_c) Go.Proofs.Try.func54 (by kernel_rfl) (by kernel_rfl) rfl rfl (by kernel_rfl) (by kernel_rfl) rfl
theorem s_l18Drop_ok : OneF Go.Proofs.Try.prog gw 56 s_l18Drop_fi := fnOk_of (fn := Go.Proofs.Try.f56) (c := s_l18Drop_c) Go.Proofs.Try.func56 (by kernel_rfl) (by kernel_rfl) rfl rfl (by kernel_rfl) (by kernel_rfl) rfl
theorem s_DropStep_ok : OneF Go.Proofs.Try.prog gw 11 s_DropStep_fi := fnOk_of (fn := Go.Proofs.Try.f11) (c := s_DropStep_c) Go.Proofs.Try.func11 (by kernel_rfl) (by kernel_rfl) rfl rfl (by kernel_rfl) (by kernel_rfl) rfl
theorem i_CardOf_ok : OneF Go.Proofs.Try.prog gw 81 i_CardOf_fi := fnOk_of (fn := Go.Proofs.Try.f81) (c := i_CardOf_c) Go.Proofs.Try.func81 (by kernel_rfl) (by kernel_rfl) rfl rfl (by kernel_rfl) (by kernel_rfl) rfl
theorem i_PacketOk_ok : OneF Go.Proofs.Try.prog gw 78 i_PacketOk_fi := fnOk_of (fn := Go.Proofs.Try.f78) (c := i_PacketOk_c) Go.Proofs.Try.func78 (by kernel_rfl) (by kernel_rfl) rfl rfl (by kernel_rfl) (by kernel_rfl) rfl
theorem i_MoveOk_ok : OneF Go.Proofs.Try.prog gw 70 i_MoveOk_fi := fnOk_of (fn := Go.Proofs.Try.f70) (c := i_MoveOk_c) Go.Proofs.Try.func70 (by kernel_rfl) (by kernel_rfl) rfl rfl (by kernel_rfl) (by kernel_rfl) rfl
theorem i_StepOk_ok : OneF Go.Proofs.Try.prog gw 79 i_StepOk_fi := fnOk_of (fn := Go.Proofs.Try.f79) (c := i_StepOk_c) Go.Proofs.Try.func79 (by kernel_rfl) (by kernel_rfl) rfl rfl (by kernel_rfl) (by kernel_rfl) rfl
theorem i_PositionOf_1_ok : OneF Go.Proofs.Try.prog gw 135 i_PositionOf_1_fi := fnOk_of (fn := Go.Proofs.Try.f135) (c := i_PositionOf_1_c) Go.Proofs.Try.func135 (by kernel_rfl) (by kernel_rfl) rfl rfl (by kernel_rfl) (by kernel_rfl) rfl
theorem slices_IndexFunc_int_of_i_PositionOf_1_ok : OneF Go.Proofs.Try.prog gw 134 slices_IndexFunc_int_of_i_PositionOf_1_fi := fnOk_of (fn := Go.Proofs.Try.f134) (c := slices_IndexFunc_int_of_i_PositionOf_1_c) Go.Proofs.Try.func134 (by kernel_rfl) (by kernel_rfl) rfl rfl (by kernel_rfl) (by kernel_rfl) rfl
theorem i_PositionOf_ok : OneF Go.Proofs.Try.prog gw 98 i_PositionOf_fi := fnOk_of (fn := Go.Proofs.Try.f98) (c := i_PositionOf_c) Go.Proofs.Try.func98 (by kernel_rfl) (by kernel_rfl) rfl rfl (by kernel_rfl) (by kernel_rfl) rfl
theorem i_TrickOk_ok : OneF Go.Proofs.Try.prog gw 58 i_TrickOk_fi := fnOk_of (fn := Go.Proofs.Try.f58) (c := i_TrickOk_c) Go.Proofs.Try.func58 (by kernel_rfl) (by kernel_rfl) rfl rfl (by kernel_rfl) (by kernel_rfl) rfl
theorem slices_Clone_int_ok : OneF Go.Proofs.Try.prog gw 80 slices_Clone_int_fi := fnOk_of (fn := Go.Proofs.Try.f80) (c := slices_Clone_int_c) Go.Proofs.Try.func80 (by kernel_rfl) (by kernel_rfl) rfl rfl (by kernel_rfl) (by kernel_rfl) rfl
theorem slices_Clone_i_Step_ok : OneF Go.Proofs.Try.prog gw 99 slices_Clone_i_Step_fi := fnOk_of (fn := Go.Proofs.Try.f99) (c := slices_Clone_i_Step_c) Go.Proofs.Try.func99 (by kernel_rfl) (by kernel_rfl) rfl rfl (by kernel_rfl) (by kernel_rfl) rfl
theorem i_copyTrick_ok : OneF Go.Proofs.Try.prog gw 59 i_copyTrick_fi := fnOk_of (fn := Go.Proofs.Try.f59) (c := i_copyTrick_c) Go.Proofs.Try.func59 (by kernel_rfl) (by kernel_rfl) rfl rfl (by kernel_rfl) (by kernel_rfl) rfl
theorem slices_Delete_i_Step_ok : OneF Go.Proofs.Try.prog gw 60 slices_Delete_i_Step_fi := Go.Proofs.Try.delOne
theorem i_DropStep_ok : OneF Go.Proofs.Try.prog gw 13 i_DropStep_fi := fnOk_of (fn := Go.Proofs.Try.f13) (c := i_DropStep_c) Go.Proofs.Try.func13 (by kernel_rfl) (by kernel_rfl) rfl rfl (by kernel_rfl) (by kernel_rfl) rfl
theorem w_eqIntS_ok : OneF Go.Proofs.Try.prog gw 42 w_eqIntS_fi := fnOk_of (fn := Go.Proofs.Try.f42) (c := w_eqIntS_c) Go.Proofs.Try.func42 (by kernel_rfl) (by kernel_rfl) rfl rfl (by kernel_rfl) (by kernel_rfl) rfl
theorem w_eqMove_ok : OneF Go.Proofs.Try.prog gw 136 w_eqMove_fi := fnOk_of (fn := Go.Proofs.Try.f136) (c := w_eqMove_c) Go.Proofs.Try.func136 (by kernel_rfl) (by kernel_rfl) rfl rfl (by kernel_rfl) (by kernel_rfl) rfl
theorem w_eqStep_ok : OneF Go.Proofs.Try.prog gw 100 w_eqStep_fi := fnOk_of (fn := Go.Proofs.Try.f100) (c := w_eqStep_c) Go.Proofs.Try.func100 (by kernel_rfl) (by kernel_rfl) rfl rfl (by kernel_rfl) (by kernel_rfl) rfl
theorem w_eqStepS_ok : OneF Go.Proofs.Try.prog gw 61 w_eqStepS_fi := fnOk_of (fn := Go.Proofs.Try.f61) (c := w_eqStepS_c) Go.Proofs.Try.func61 (by kernel_rfl) (by kernel_rfl) rfl rfl (by kernel_rfl) (by kernel_rfl) rfl
theorem w_eqTrick_ok : OneF Go.Proofs.Try.prog gw 14 w_eqTrick_fi := fnOk_of (fn := Go.Proofs.Try.f14) (c := w_eqTrick_c) Go.Proofs.Try.func14 (by kernel_rfl) (by kernel_rfl) rfl rfl (by kernel_rfl) (by kernel_rfl) rfl
theorem w_markIntS_ok : OneF Go.Proofs.Try.prog gw 43 w_markIntS_fi := fnOk_of (fn := Go.Proofs.Try.f43) (c := w_markIntS_c) Go.Proofs.Try.func43 (by kernel_rfl) (by kernel_rfl) rfl rfl (by kernel_rfl) (by kernel_rfl) rfl
theorem w_markStepS_ok : OneF Go.Proofs.Try.prog gw 62 w_markStepS_fi := fnOk_of (fn := Go.Proofs.Try.f62) (c := w_markStepS_c) Go.Proofs.Try.func62 (by kernel_rfl) (by kernel_rfl) rfl rfl (by kernel_rfl) (by kernel_rfl) rfl
theorem w_markTrick_ok : OneF Go.Proofs.Try.prog gw 15 w_markTrick_fi := fnOk_of (fn := Go.Proofs.Try.f15) (c := w_markTrick_c) Go.Proofs.Try.func15 (by kernel_rfl) (by kernel_rfl) rfl rfl (by kernel_rfl) (by kernel_rfl) rfl
theorem w_heldIntS_ok : OneF Go.Proofs.Try.prog gw 63 w_heldIntS_fi := fnOk_of (fn := Go.Proofs.Try.f63) (c := w_heldIntS_c) Go.Proofs.Try.func63 (by kernel_rfl) (by kernel_rfl) rfl rfl (by kernel_rfl) (by kernel_rfl) rfl
theorem w_heldStepS_ok : OneF Go.Proofs.Try.prog gw 64 w_heldStepS_fi := fnOk_of (fn := Go.Proofs.Try.f64) (c := w_heldStepS_c) Go.Proofs.Try.func64 (by kernel_rfl) (by kernel_rfl) rfl rfl (by kernel_rfl) (by kernel_rfl) rfl
theorem w_heldTrick_ok : OneF Go.Proofs.Try.prog gw 16 w_heldTrick_fi := fnOk_of (fn := Go.Proofs.Try.f16) (c := w_heldTrick_c) Go.Proofs.Try.func16 (by kernel_rfl) (by kernel_rfl) rfl rfl (by kernel_rfl) (by kernel_rfl) rfl
theorem w_FnExactDropStep_ok : OneF Go.Proofs.Try.prog gw 3 w_FnExactDropStep_fi := fnOk_of (fn := Go.Proofs.Try.f3) (c := w_FnExactDropStep_c) Go.Proofs.Try.func3 (by kernel_rfl) (by kernel_rfl) rfl rfl (by kernel_rfl) (by kernel_rfl) rfl
theorem s_l18Cut_ok : OneF Go.Proofs.Try.prog gw 65 s_l18Cut_fi := fnOk_of (fn := Go.Proofs.Try.f65) (c := s_l18Cut_c) Go.Proofs.Try.func65 (by kernel_rfl) (by kernel_rfl) rfl rfl (by kernel_rfl) (by kernel_rfl) rfl
theorem s_JoinMoves_ok : OneF Go.Proofs.Try.prog gw 17 s_JoinMoves_fi := fnOk_of (fn := Go.Proofs.Try.f17) (c := s_JoinMoves_c) Go.Proofs.Try.func17 (by kernel_rfl) (by kernel_rfl) rfl rfl (by kernel_rfl) (by kernel_rfl) rfl
theorem i_JoinMoves_ok : OneF Go.Proofs.Try.prog gw 18 i_JoinMoves_fi := fnOk_of (fn := Go.Proofs.Try.f18) (c := i_JoinMoves_c) Go.Proofs.Try.func18 (by kernel_rfl) (by kernel_rfl) rfl rfl (by kernel_rfl) (by kernel_rfl) rfl
theorem w_FnExactJoinMoves_ok : OneF Go.Proofs.Try.prog gw 4 w_FnExactJoinMoves_fi := fnOk_of (fn := Go.Proofs.Try.f4) (c := w_FnExactJoinMoves_c) Go.Proofs.Try.func4 (by kernel_rfl) (by kernel_rfl) rfl rfl (by kernel_rfl) (by kernel_rfl) rfl
theorem hF : FnOk Go.Proofs.Try.prog gw E := lookF_ok (l := fnL) ⟨w_szIntS_ok, w_szStepS_ok, w_szTrick_ok, w_toIntS_ok, w_toMove_ok, w_toStep_ok, w_toStepS_ok, w_toTrick_ok, s_l01In_ok, s_CardOf_ok, s_l02Has_ok, s_PacketOk_ok, s_MoveOk_ok, s_l16Choice_ok, s_StepOk_ok, s_PositionOf_ok, s_l16Claim_ok, s_TrickOk_ok, s_l18Drop_ok, s_DropStep_ok, i_CardOf_ok, i_PacketOk_ok, i_MoveOk_ok, i_StepOk_ok, i_PositionOf_1_ok, slices_IndexFunc_int_of_i_PositionOf_1_ok, i_PositionOf_ok, i_TrickOk_ok, slices_Clone_int_ok, slices_Clone_i_Step_ok, i_copyTrick_ok, slices_Delete_i_Step_ok, i_DropStep_ok, w_eqIntS_ok, w_eqMove_ok, w_eqStep_ok, w_eqStepS_ok, w_eqTrick_ok, w_markIntS_ok, w_markStepS_ok, w_markTrick_ok, w_heldIntS_ok, w_heldStepS_ok, w_heldTrick_ok, w_FnExactDropStep_ok, s_l18Cut_ok, s_JoinMoves_ok, i_JoinMoves_ok, w_FnExactJoinMoves_ok, trivial⟩
end Pt
