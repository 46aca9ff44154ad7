/-
  The plain machine's telling of functions of the program. Printed by gen.py.
  Conditions: none; these are definitions and equations that the kernel checks.
-/
import Derived.Test.YtghbmnhaalpjeaaXvza
import Derived.Test.YtghbmnhaalpjeaaProg
namespace Pt
open Go Go.Vt
set_option linter.unusedVariables false
set_option maxRecDepth 100000

noncomputable def tyL : List (Nat × TI) := [(3, .one (.int .i64)),
  (4, .one (.bool)),
  (22, .one (.slice (.int .i64))),
  (28, .struct [(0, 22), (1, 3)] [.slice (.int .i64), .int .i64] false),
  (31, .struct [(0, 22), (1, 3)] [.slice (.int .i64), .int .i64] false),
  (35, .struct [(0, 3), (1, 3)] [.int .i64, .int .i64] true),
  (37, .struct [(0, 3), (1, 35), (3, 3)] [.int .i64, .int .i64, .int .i64, .int .i64] true),
  (39, .struct [(0, 3), (1, 3)] [.int .i64, .int .i64] true),
  (41, .struct [(0, 3), (1, 39), (3, 3)] [.int .i64, .int .i64, .int .i64, .int .i64] true),
  (46, .one (.slice (.pair (.int .i64) (.pair (.pair (.int .i64) (.int .i64)) (.int .i64))))),
  (48, .struct [(0, 22), (1, 46), (2, 3), (3, 3), (4, 3)] [.slice (.int .i64), .slice (.pair (.int .i64) (.pair (.pair (.int .i64) (.int .i64)) (.int .i64))), .int .i64, .int .i64, .int .i64] false),
  (51, .one (.slice (.pair (.int .i64) (.pair (.pair (.int .i64) (.int .i64)) (.int .i64))))),
  (53, .struct [(0, 22), (1, 51), (2, 3), (3, 3), (4, 3)] [.slice (.int .i64), .slice (.pair (.int .i64) (.pair (.pair (.int .i64) (.int .i64)) (.int .i64))), .int .i64, .int .i64, .int .i64] false),
  (60, .one (.slice (.slice (.int .i64)))),
  (80, .arr 12 (.int .i64)),
  (86, .arr 12 (.bool))]

/-! ### w_toIntS -/
noncomputable def w_toIntS_c : Code := (Go.Proofs.Try.f15.body).getD .skip
noncomputable def w_toIntS_h : Nat → Option (List Hint)
  | 3 => some [.keep 0, .cell 3 (.row 100003 (.int .i64) true false), .keep 4]
  | _ => none
noncomputable def w_toIntS_fi : Fi := ⟨[.v (.slice (.int .i64)) false], [(false, [⟨.slice (.int .i64), some (true, false)⟩])], none, w_toIntS_c, Go.Proofs.Try.f15.results.toList, 22, w_toIntS_h⟩
/-! ### s_ShuffleLine -/
noncomputable def s_ShuffleLine_c : Code := (Go.Proofs.Try.f14.body).getD .skip
noncomputable def s_ShuffleLine_h : Nat → Option (List Hint)
  | 3 => some [.keep 3, .keep 6, .keep 7, .keep 8]
  | _ => none
noncomputable def s_ShuffleLine_fi : Fi := ⟨[.v (.slice (.int .i64)) false], [(false, [⟨.str, none⟩])], none, s_ShuffleLine_c, Go.Proofs.Try.f14.results.toList, 22, s_ShuffleLine_h⟩
/-! ### i_ShuffleLine -/
noncomputable def i_ShuffleLine_c : Code := (Go.Proofs.Try.f16.body).getD .skip
noncomputable def i_ShuffleLine_h : Nat → Option (List Hint)
  | 3 => some [.keep 3, .keep 6, .keep 7, .keep 8]
  | _ => none
noncomputable def i_ShuffleLine_fi : Fi := ⟨[.v (.slice (.int .i64)) false], [(false, [⟨.str, none⟩])], none, i_ShuffleLine_c, Go.Proofs.Try.f16.results.toList, 22, i_ShuffleLine_h⟩
/-! ### w_eqIntS -/
noncomputable def w_eqIntS_c : Code := (Go.Proofs.Try.f17.body).getD .skip
noncomputable def w_eqIntS_h : Nat → Option (List Hint)
  | 4 => some [.keep 0, .keep 1, .keep 5]
  | _ => none
noncomputable def w_eqIntS_fi : Fi := ⟨[.v (.slice (.int .i64)) false, .v (.slice (.int .i64)) false], [(false, [⟨.bool, none⟩])], none, w_eqIntS_c, Go.Proofs.Try.f17.results.toList, 26, w_eqIntS_h⟩
/-! ### w_FnExactShuffleLine -/
noncomputable def w_FnExactShuffleLine_c : Code := (Go.Proofs.Try.f3.body).getD .skip
noncomputable def w_FnExactShuffleLine_h : Nat → Option (List Hint)
  | _ => none
noncomputable def w_FnExactShuffleLine_fi : Fi := ⟨[.v (.slice (.int .i64)) false], [(false, [⟨.bool, none⟩])], none, w_FnExactShuffleLine_c, Go.Proofs.Try.f3.results.toList, 24, w_FnExactShuffleLine_h⟩
/-! ### w_szIntS -/
noncomputable def w_szIntS_c : Code := (Go.Proofs.Try.f50.body).getD .skip
noncomputable def w_szIntS_h : Nat → Option (List Hint)
  | _ => none
noncomputable def w_szIntS_fi : Fi := ⟨[.v (.slice (.int .i64)) false, .v (.int .i64) false], [(false, [⟨.int .i64, none⟩])], none, w_szIntS_c, Go.Proofs.Try.f50.results.toList, 12, w_szIntS_h⟩
/-! ### w_szScene -/
noncomputable def w_szScene_c : Code := (Go.Proofs.Try.f18.body).getD .skip
noncomputable def w_szScene_h : Nat → Option (List Hint)
  | _ => none
noncomputable def w_szScene_fi : Fi := ⟨[.v (.pair (.slice (.int .i64)) (.int .i64)) true, .v (.int .i64) false], [(false, [⟨.int .i64, none⟩])], none, w_szScene_c, Go.Proofs.Try.f18.results.toList, 12, w_szScene_h⟩
/-! ### w_toScene -/
noncomputable def w_toScene_c : Code := (Go.Proofs.Try.f20.body).getD .skip
noncomputable def w_toScene_h : Nat → Option (List Hint)
  | _ => none
noncomputable def w_toScene_fi : Fi := ⟨[.v (.pair (.slice (.int .i64)) (.int .i64)) true], [(true, [⟨.slice (.int .i64), some (true, false)⟩, ⟨.int .i64, none⟩])], none, w_toScene_c, Go.Proofs.Try.f20.results.toList, 12, w_toScene_h⟩
/-! ### s_SamePacket -/
noncomputable def s_SamePacket_c : Code := (Go.Proofs.Try.f51.body).getD .skip
noncomputable def s_SamePacket_h : Nat → Option (List Hint)
  | 4 => some [.keep 1, .keep 12, .keep 13, .keep 14]
  | _ => none
noncomputable def s_SamePacket_fi : Fi := ⟨[.v (.slice (.int .i64)) false, .v (.slice (.int .i64)) false], [(false, [⟨.bool, none⟩])], none, s_SamePacket_c, Go.Proofs.Try.f51.results.toList, 26, s_SamePacket_h⟩
/-! ### s_SameScene -/
noncomputable def s_SameScene_c : Code := (Go.Proofs.Try.f19.body).getD .skip
noncomputable def s_SameScene_h : Nat → Option (List Hint)
  | _ => none
noncomputable def s_SameScene_fi : Fi := ⟨[.v (.pair (.slice (.int .i64)) (.int .i64)) true, .v (.pair (.slice (.int .i64)) (.int .i64)) true], [(false, [⟨.bool, none⟩])], none, s_SameScene_c, Go.Proofs.Try.f19.results.toList, 17, s_SameScene_h⟩
/-! ### slices_Equal_int -/
noncomputable def slices_Equal_int_c : Code := (Go.Proofs.Try.f52.body).getD .skip
noncomputable def slices_Equal_int_h : Nat → Option (List Hint)
  | 4 => some [.keep 0, .keep 1, .keep 12, .keep 13]
  | _ => none
noncomputable def slices_Equal_int_fi : Fi := ⟨[.v (.slice (.int .i64)) false, .v (.slice (.int .i64)) false], [(false, [⟨.bool, none⟩])], none, slices_Equal_int_c, Go.Proofs.Try.f52.results.toList, 26, slices_Equal_int_h⟩
/-! ### i_SameScene -/
noncomputable def i_SameScene_c : Code := (Go.Proofs.Try.f21.body).getD .skip
noncomputable def i_SameScene_h : Nat → Option (List Hint)
  | _ => none
noncomputable def i_SameScene_fi : Fi := ⟨[.v (.pair (.slice (.int .i64)) (.int .i64)) true, .v (.pair (.slice (.int .i64)) (.int .i64)) true], [(false, [⟨.bool, none⟩])], none, i_SameScene_c, Go.Proofs.Try.f21.results.toList, 17, i_SameScene_h⟩
/-! ### w_eqScene -/
noncomputable def w_eqScene_c : Code := (Go.Proofs.Try.f22.body).getD .skip
noncomputable def w_eqScene_h : Nat → Option (List Hint)
  | _ => none
noncomputable def w_eqScene_fi : Fi := ⟨[.v (.pair (.slice (.int .i64)) (.int .i64)) true, .v (.pair (.slice (.int .i64)) (.int .i64)) true], [(false, [⟨.bool, none⟩])], none, w_eqScene_c, Go.Proofs.Try.f22.results.toList, 16, w_eqScene_h⟩
/-! ### w_FnExactSameScene -/
noncomputable def w_FnExactSameScene_c : Code := (Go.Proofs.Try.f4.body).getD .skip
noncomputable def w_FnExactSameScene_h : Nat → Option (List Hint)
  | _ => none
noncomputable def w_FnExactSameScene_fi : Fi := ⟨[.v (.pair (.slice (.int .i64)) (.int .i64)) true, .v (.pair (.slice (.int .i64)) (.int .i64)) true], [(false, [⟨.bool, none⟩])], none, w_FnExactSameScene_c, Go.Proofs.Try.f4.results.toList, 45, w_FnExactSameScene_h⟩
/-! ### w_toMove -/
noncomputable def w_toMove_c : Code := (Go.Proofs.Try.f56.body).getD .skip
noncomputable def w_toMove_h : Nat → Option (List Hint)
  | _ => none
noncomputable def w_toMove_fi : Fi := ⟨[.v (.pair (.int .i64) (.int .i64)) true], [(true, [⟨.int .i64, none⟩, ⟨.int .i64, none⟩])], none, w_toMove_c, Go.Proofs.Try.f56.results.toList, 11, w_toMove_h⟩
/-! ### w_toStep -/
noncomputable def w_toStep_c : Code := (Go.Proofs.Try.f24.body).getD .skip
noncomputable def w_toStep_h : Nat → Option (List Hint)
  | _ => none
noncomputable def w_toStep_fi : Fi := ⟨[.v (.pair (.int .i64) (.pair (.pair (.int .i64) (.int .i64)) (.int .i64))) true], [(true, [⟨.int .i64, none⟩, ⟨.int .i64, none⟩, ⟨.int .i64, none⟩, ⟨.int .i64, none⟩])], none, w_toStep_c, Go.Proofs.Try.f24.results.toList, 15, w_toStep_h⟩
/-! ### s_l01In -/
noncomputable def s_l01In_c : Code := (Go.Proofs.Try.f53.body).getD .skip
noncomputable def s_l01In_h : Nat → Option (List Hint)
  | _ => none
noncomputable def s_l01In_fi : Fi := ⟨[.v (.int .i64) false, .v (.int .i64) false, .v (.int .i64) false], [(false, [⟨.bool, none⟩])], none, s_l01In_c, Go.Proofs.Try.f53.results.toList, 15, s_l01In_h⟩
/-! ### s_MoveOk -/
noncomputable def s_MoveOk_c : Code := (Go.Proofs.Try.f54.body).getD .skip
noncomputable def s_MoveOk_h : Nat → Option (List Hint)
  | _ => none
noncomputable def s_MoveOk_fi : Fi := ⟨[.v (.int .i64) false, .v (.pair (.int .i64) (.int .i64)) true], [(false, [⟨.bool, none⟩])], none, s_MoveOk_c, Go.Proofs.Try.f54.results.toList, 38, s_MoveOk_h⟩
/-! ### s_l16Choice -/
noncomputable def s_l16Choice_c : Code := (Go.Proofs.Try.f55.body).getD .skip
noncomputable def s_l16Choice_h : Nat → Option (List Hint)
  | _ => none
noncomputable def s_l16Choice_fi : Fi := ⟨[.v (.int .i64) false, .v (.int .i64) false], [(false, [⟨.bool, none⟩])], none, s_l16Choice_c, Go.Proofs.Try.f55.results.toList, 23, s_l16Choice_h⟩
/-! ### s_StepOk -/
noncomputable def s_StepOk_c : Code := (Go.Proofs.Try.f23.body).getD .skip
noncomputable def s_StepOk_h : Nat → Option (List Hint)
  | _ => none
noncomputable def s_StepOk_fi : Fi := ⟨[.v (.int .i64) false, .v (.pair (.int .i64) (.pair (.pair (.int .i64) (.int .i64)) (.int .i64))) true], [(false, [⟨.bool, none⟩])], none, s_StepOk_c, Go.Proofs.Try.f23.results.toList, 46, s_StepOk_h⟩
/-! ### i_MoveOk -/
noncomputable def i_MoveOk_c : Code := (Go.Proofs.Try.f57.body).getD .skip
noncomputable def i_MoveOk_h : Nat → Option (List Hint)
  | _ => none
noncomputable def i_MoveOk_fi : Fi := ⟨[.v (.int .i64) false, .v (.pair (.int .i64) (.int .i64)) true], [(false, [⟨.bool, none⟩])], none, i_MoveOk_c, Go.Proofs.Try.f57.results.toList, 45, i_MoveOk_h⟩
/-! ### i_StepOk -/
noncomputable def i_StepOk_c : Code := (Go.Proofs.Try.f25.body).getD .skip
noncomputable def i_StepOk_h : Nat → Option (List Hint)
  | _ => none
noncomputable def i_StepOk_fi : Fi := ⟨[.v (.int .i64) false, .v (.pair (.int .i64) (.pair (.pair (.int .i64) (.int .i64)) (.int .i64))) true], [(false, [⟨.bool, none⟩])], none, i_StepOk_c, Go.Proofs.Try.f25.results.toList, 75, i_StepOk_h⟩
/-! ### w_FnExactStepOk -/
noncomputable def w_FnExactStepOk_c : Code := (Go.Proofs.Try.f5.body).getD .skip
noncomputable def w_FnExactStepOk_h : Nat → Option (List Hint)
  | _ => none
noncomputable def w_FnExactStepOk_fi : Fi := ⟨[.v (.int .i64) false, .v (.pair (.int .i64) (.pair (.pair (.int .i64) (.int .i64)) (.int .i64))) true], [(false, [⟨.bool, none⟩])], none, w_FnExactStepOk_c, Go.Proofs.Try.f5.results.toList, 18, w_FnExactStepOk_h⟩
/-! ### s_l02Has -/
noncomputable def s_l02Has_c : Code := (Go.Proofs.Try.f67.body).getD .skip
noncomputable def s_l02Has_h : Nat → Option (List Hint)
  | 2 => some [.keep 1, .keep 7, .keep 8, .keep 9]
  | _ => none
noncomputable def s_l02Has_fi : Fi := ⟨[.v (.slice (.int .i64)) false, .v (.int .i64) false], [(false, [⟨.bool, none⟩])], none, s_l02Has_c, Go.Proofs.Try.f67.results.toList, 17, s_l02Has_h⟩
/-! ### s_l19Ok -/
noncomputable def s_l19Ok_c : Code := (Go.Proofs.Try.f58.body).getD .skip
noncomputable def s_l19Ok_h : Nat → Option (List Hint)
  | 4 => some [.keep 0, .keep 1, .keep 10, .keep 11, .keep 12]
  | _ => none
noncomputable def s_l19Ok_fi : Fi := ⟨[.v (.int .i64) false, .v (.slice (.int .i64)) false], [(false, [⟨.bool, none⟩])], none, s_l19Ok_c, Go.Proofs.Try.f58.results.toList, 30, s_l19Ok_h⟩
/-! ### s_l19Choose -/
noncomputable def s_l19Choose_c : Code := (Go.Proofs.Try.f79.body).getD .skip
noncomputable def s_l19Choose_h : Nat → Option (List Hint)
  | 3 => some [.keep 0, .keep 1, .keep 5, .keep 6]
  | _ => none
noncomputable def s_l19Choose_fi : Fi := ⟨[.v (.int .i64) false, .v (.int .i64) false], [(false, [⟨.int .i64, none⟩])], none, s_l19Choose_c, Go.Proofs.Try.f79.results.toList, 22, s_l19Choose_h⟩
/-! ### s_l19Ways -/
noncomputable def s_l19Ways_c : Code := (Go.Proofs.Try.f59.body).getD .skip
noncomputable def s_l19Ways_h : Nat → Option (List Hint)
  | 4 => some [.keep 0, .keep 1, .keep 2, .keep 7, .keep 8, .keep 12, .keep 13, .keep 14]
  | _ => none
noncomputable def s_l19Ways_fi : Fi := ⟨[.v (.int .i64) false, .v (.int .i64) false, .v (.slice (.int .i64)) false], [(false, [⟨.int .i64, none⟩])], none, s_l19Ways_c, Go.Proofs.Try.f59.results.toList, 49, s_l19Ways_h⟩
/-! ### s_WaysWith -/
noncomputable def s_WaysWith_c : Code := (Go.Proofs.Try.f26.body).getD .skip
noncomputable def s_WaysWith_h : Nat → Option (List Hint)
  | 5 => some [.keep 0, .keep 1, .keep 5, .keep 6]
  | _ => none
noncomputable def s_WaysWith_fi : Fi := ⟨[.v (.int .i64) false, .v (.slice (.int .i64)) false], [(false, [⟨.int .i64, none⟩])], none, s_WaysWith_c, Go.Proofs.Try.f26.results.toList, 23, s_WaysWith_h⟩
/-! ### slices_Index_int -/
noncomputable def slices_Index_int_c : Code := (Go.Proofs.Try.f69.body).getD .skip
noncomputable def slices_Index_int_h : Nat → Option (List Hint)
  | 2 => some [.keep 0, .keep 1, .keep 7, .keep 8]
  | _ => none
noncomputable def slices_Index_int_fi : Fi := ⟨[.v (.slice (.int .i64)) false, .v (.int .i64) false], [(false, [⟨.int .i64, none⟩])], none, slices_Index_int_c, Go.Proofs.Try.f69.results.toList, 19, slices_Index_int_h⟩
/-! ### slices_Contains_int -/
noncomputable def slices_Contains_int_c : Code := (Go.Proofs.Try.f80.body).getD .skip
noncomputable def slices_Contains_int_h : Nat → Option (List Hint)
  | _ => none
noncomputable def slices_Contains_int_fi : Fi := ⟨[.v (.slice (.int .i64)) false, .v (.int .i64) false], [(false, [⟨.bool, none⟩])], none, slices_Contains_int_c, Go.Proofs.Try.f80.results.toList, 9, slices_Contains_int_h⟩
/-! ### i_isPrefix -/
noncomputable def i_isPrefix_c : Code := (Go.Proofs.Try.f60.body).getD .skip
noncomputable def i_isPrefix_h : Nat → Option (List Hint)
  | 4 => some [.keep 0, .keep 1, .keep 13, .keep 14, .keep 15]
  | _ => none
noncomputable def i_isPrefix_fi : Fi := ⟨[.v (.int .i64) false, .v (.slice (.int .i64)) false], [(false, [⟨.bool, none⟩])], none, i_isPrefix_c, Go.Proofs.Try.f60.results.toList, 35, i_isPrefix_h⟩
/-! ### i_upTo -/
noncomputable def i_upTo_c : Code := (Go.Proofs.Try.f61.body).getD .skip
noncomputable def i_upTo_h : Nat → Option (List Hint)
  | 3 => some [.keep 0, .cell 3 (.row 100003 (.int .i64) true true), .keep 4]
  | _ => none
noncomputable def i_upTo_fi : Fi := ⟨[.v (.int .i64) false], [(false, [⟨.slice (.int .i64), some (true, true)⟩])], none, i_upTo_c, Go.Proofs.Try.f61.results.toList, 15, i_upTo_h⟩
/-! ### i_riffled -/
noncomputable def i_riffled_c : Code := (Go.Proofs.Try.f62.body).getD .skip
noncomputable def i_riffled_h : Nat → Option (List Hint)
  | 3 => some [.keep 0, .keep 1, .keep 5, .keep 6, .keep 11, .keep 12]
  | 9 => some [.keep 0, .keep 1, .keep 5, .keep 6, .cell 8 (.row 100008 (.int .i64) true true), .keep 24, .keep 25]
  | _ => none
noncomputable def i_riffled_fi : Fi := ⟨[.v (.slice (.int .i64)) false, .v (.int .i64) false], [(false, [⟨.slice (.int .i64), some (true, true)⟩])], none, i_riffled_c, Go.Proofs.Try.f62.results.toList, 53, i_riffled_h⟩
/-! ### i_WaysWith -/
noncomputable def i_WaysWith_c : Code := (Go.Proofs.Try.f27.body).getD .skip
noncomputable def i_WaysWith_h : Nat → Option (List Hint)
  | 5 => some [.keep 0, .keep 1, .cell 5 (.row 100005 (.int .i64) true true), .keep 6, .keep 7]
  | _ => none
noncomputable def i_WaysWith_fi : Fi := ⟨[.v (.int .i64) false, .v (.slice (.int .i64)) false], [(false, [⟨.int .i64, none⟩])], none, i_WaysWith_c, Go.Proofs.Try.f27.results.toList, 31, i_WaysWith_h⟩
/-! ### w_FnExactWaysWith -/
noncomputable def w_FnExactWaysWith_c : Code := (Go.Proofs.Try.f6.body).getD .skip
noncomputable def w_FnExactWaysWith_h : Nat → Option (List Hint)
  | _ => none
noncomputable def w_FnExactWaysWith_fi : Fi := ⟨[.v (.int .i64) false, .v (.slice (.int .i64)) false], [(false, [⟨.bool, none⟩])], none, w_FnExactWaysWith_c, Go.Proofs.Try.f6.results.toList, 28, w_FnExactWaysWith_h⟩
/-! ### w_szStepS -/
noncomputable def w_szStepS_c : Code := (Go.Proofs.Try.f63.body).getD .skip
noncomputable def w_szStepS_h : Nat → Option (List Hint)
  | _ => none
noncomputable def w_szStepS_fi : Fi := ⟨[.v (.slice (.pair (.int .i64) (.pair (.pair (.int .i64) (.int .i64)) (.int .i64)))) false, .v (.int .i64) false], [(false, [⟨.int .i64, none⟩])], none, w_szStepS_c, Go.Proofs.Try.f63.results.toList, 12, w_szStepS_h⟩
/-! ### w_szTrick -/
noncomputable def w_szTrick_c : Code := (Go.Proofs.Try.f28.body).getD .skip
noncomputable def w_szTrick_h : Nat → Option (List Hint)
  | _ => none
noncomputable def w_szTrick_fi : Fi := ⟨[.v (.pair (.slice (.int .i64)) (.pair (.slice (.pair (.int .i64) (.pair (.pair (.int .i64) (.int .i64)) (.int .i64)))) (.pair (.int .i64) (.pair (.int .i64) (.int .i64))))) true, .v (.int .i64) false], [(false, [⟨.int .i64, none⟩])], none, w_szTrick_c, Go.Proofs.Try.f28.results.toList, 18, w_szTrick_h⟩
/-! ### w_toStepS -/
noncomputable def w_toStepS_c : Code := (Go.Proofs.Try.f64.body).getD .skip
noncomputable def w_toStepS_h : Nat → Option (List Hint)
  | 3 => some [.keep 0, .cell 3 (.row 100003 (.pair (.int .i64) (.pair (.pair (.int .i64) (.int .i64)) (.int .i64))) true false), .keep 4]
  | _ => none
noncomputable def w_toStepS_fi : Fi := ⟨[.v (.slice (.pair (.int .i64) (.pair (.pair (.int .i64) (.int .i64)) (.int .i64)))) false], [(false, [⟨.slice (.pair (.int .i64) (.pair (.pair (.int .i64) (.int .i64)) (.int .i64))), some (true, false)⟩])], none, w_toStepS_c, Go.Proofs.Try.f64.results.toList, 23, w_toStepS_h⟩
/-! ### w_toTrick -/
noncomputable def w_toTrick_c : Code := (Go.Proofs.Try.f30.body).getD .skip
noncomputable def w_toTrick_h : Nat → Option (List Hint)
  | _ => none
noncomputable def w_toTrick_fi : Fi := ⟨[.v (.pair (.slice (.int .i64)) (.pair (.slice (.pair (.int .i64) (.pair (.pair (.int .i64) (.int .i64)) (.int .i64)))) (.pair (.int .i64) (.pair (.int .i64) (.int .i64))))) true], [(true, [⟨.slice (.int .i64), some (true, false)⟩, ⟨.slice (.pair (.int .i64) (.pair (.pair (.int .i64) (.int .i64)) (.int .i64))), some (true, false)⟩, ⟨.int .i64, none⟩, ⟨.int .i64, none⟩, ⟨.int .i64, none⟩])], none, w_toTrick_c, Go.Proofs.Try.f30.results.toList, 22, w_toTrick_h⟩
/-! ### s_SameTrick -/
noncomputable def s_SameTrick_c : Code := (Go.Proofs.Try.f29.body).getD .skip
noncomputable def s_SameTrick_h : Nat → Option (List Hint)
  | 4 => some [.box 3 200003 [.keep, .keep, .keep, .keep, .keep], .keep 44, .keep 45, .keep 46]
  | _ => none
noncomputable def s_SameTrick_fi : Fi := ⟨[.v (.pair (.slice (.int .i64)) (.pair (.slice (.pair (.int .i64) (.pair (.pair (.int .i64) (.int .i64)) (.int .i64)))) (.pair (.int .i64) (.pair (.int .i64) (.int .i64))))) true, .v (.pair (.slice (.int .i64)) (.pair (.slice (.pair (.int .i64) (.pair (.pair (.int .i64) (.int .i64)) (.int .i64)))) (.pair (.int .i64) (.pair (.int .i64) (.int .i64))))) true], [(false, [⟨.bool, none⟩])], none, s_SameTrick_c, Go.Proofs.Try.f29.results.toList, 59, s_SameTrick_h⟩
/-! ### slices_Equal_i_Step -/
noncomputable def slices_Equal_i_Step_c : Code := (Go.Proofs.Try.f65.body).getD .skip
noncomputable def slices_Equal_i_Step_h : Nat → Option (List Hint)
  | 4 => some [.keep 0, .keep 1, .keep 12, .keep 13]
  | _ => none
noncomputable def slices_Equal_i_Step_fi : Fi := ⟨[.v (.slice (.pair (.int .i64) (.pair (.pair (.int .i64) (.int .i64)) (.int .i64)))) false, .v (.slice (.pair (.int .i64) (.pair (.pair (.int .i64) (.int .i64)) (.int .i64)))) false], [(false, [⟨.bool, none⟩])], none, slices_Equal_i_Step_c, Go.Proofs.Try.f65.results.toList, 26, slices_Equal_i_Step_h⟩
/-! ### i_SameTrick -/
noncomputable def i_SameTrick_c : Code := (Go.Proofs.Try.f31.body).getD .skip
noncomputable def i_SameTrick_h : Nat → Option (List Hint)
  | _ => none
noncomputable def i_SameTrick_fi : Fi := ⟨[.v (.pair (.slice (.int .i64)) (.pair (.slice (.pair (.int .i64) (.pair (.pair (.int .i64) (.int .i64)) (.int .i64)))) (.pair (.int .i64) (.pair (.int .i64) (.int .i64))))) true, .v (.pair (.slice (.int .i64)) (.pair (.slice (.pair (.int .i64) (.pair (.pair (.int .i64) (.int .i64)) (.int .i64)))) (.pair (.int .i64) (.pair (.int .i64) (.int .i64))))) true], [(false, [⟨.bool, none⟩])], none, i_SameTrick_c, Go.Proofs.Try.f31.results.toList, 38, i_SameTrick_h⟩
/-! ### w_eqMove -/
noncomputable def w_eqMove_c : Code := (Go.Proofs.Try.f87.body).getD .skip
noncomputable def w_eqMove_h : Nat → Option (List Hint)
  | _ => none
noncomputable def w_eqMove_fi : Fi := ⟨[.v (.pair (.int .i64) (.int .i64)) true, .v (.pair (.int .i64) (.int .i64)) true], [(false, [⟨.bool, none⟩])], none, w_eqMove_c, Go.Proofs.Try.f87.results.toList, 15, w_eqMove_h⟩
/-! ### w_eqStep -/
noncomputable def w_eqStep_c : Code := (Go.Proofs.Try.f81.body).getD .skip
noncomputable def w_eqStep_h : Nat → Option (List Hint)
  | _ => none
noncomputable def w_eqStep_fi : Fi := ⟨[.v (.pair (.int .i64) (.pair (.pair (.int .i64) (.int .i64)) (.int .i64))) true, .v (.pair (.int .i64) (.pair (.pair (.int .i64) (.int .i64)) (.int .i64))) true], [(false, [⟨.bool, none⟩])], none, w_eqStep_c, Go.Proofs.Try.f81.results.toList, 21, w_eqStep_h⟩
/-! ### w_eqStepS -/
noncomputable def w_eqStepS_c : Code := (Go.Proofs.Try.f66.body).getD .skip
noncomputable def w_eqStepS_h : Nat → Option (List Hint)
  | 4 => some [.keep 0, .keep 1, .keep 5]
  | _ => none
noncomputable def w_eqStepS_fi : Fi := ⟨[.v (.slice (.pair (.int .i64) (.pair (.pair (.int .i64) (.int .i64)) (.int .i64)))) false, .v (.slice (.pair (.int .i64) (.pair (.pair (.int .i64) (.int .i64)) (.int .i64)))) false], [(false, [⟨.bool, none⟩])], none, w_eqStepS_c, Go.Proofs.Try.f66.results.toList, 27, w_eqStepS_h⟩
/-! ### w_eqTrick -/
noncomputable def w_eqTrick_c : Code := (Go.Proofs.Try.f32.body).getD .skip
noncomputable def w_eqTrick_h : Nat → Option (List Hint)
  | _ => none
noncomputable def w_eqTrick_fi : Fi := ⟨[.v (.pair (.slice (.int .i64)) (.pair (.slice (.pair (.int .i64) (.pair (.pair (.int .i64) (.int .i64)) (.int .i64)))) (.pair (.int .i64) (.pair (.int .i64) (.int .i64))))) true, .v (.pair (.slice (.int .i64)) (.pair (.slice (.pair (.int .i64) (.pair (.pair (.int .i64) (.int .i64)) (.int .i64)))) (.pair (.int .i64) (.pair (.int .i64) (.int .i64))))) true], [(false, [⟨.bool, none⟩])], none, w_eqTrick_c, Go.Proofs.Try.f32.results.toList, 32, w_eqTrick_h⟩
/-! ### w_FnExactSameTrick -/
noncomputable def w_FnExactSameTrick_c : Code := (Go.Proofs.Try.f7.body).getD .skip
noncomputable def w_FnExactSameTrick_h : Nat → Option (List Hint)
  | _ => none
noncomputable def w_FnExactSameTrick_fi : Fi := ⟨[.v (.pair (.slice (.int .i64)) (.pair (.slice (.pair (.int .i64) (.pair (.pair (.int .i64) (.int .i64)) (.int .i64)))) (.pair (.int .i64) (.pair (.int .i64) (.int .i64))))) true, .v (.pair (.slice (.int .i64)) (.pair (.slice (.pair (.int .i64) (.pair (.pair (.int .i64) (.int .i64)) (.int .i64)))) (.pair (.int .i64) (.pair (.int .i64) (.int .i64))))) true], [(false, [⟨.bool, none⟩])], none, w_FnExactSameTrick_c, Go.Proofs.Try.f7.results.toList, 45, w_FnExactSameTrick_h⟩
/-! ### s_NextWays -/
noncomputable def s_NextWays_c : Code := (Go.Proofs.Try.f33.body).getD .skip
noncomputable def s_NextWays_h : Nat → Option (List Hint)
  | 5 => some [.keep 0, .keep 1, .cell 5 (.row 100005 (.int .i64) true false), .keep 6]
  | _ => none
noncomputable def s_NextWays_fi : Fi := ⟨[.v (.int .i64) false, .v (.slice (.int .i64)) false], [(false, [⟨.slice (.int .i64), some (true, true)⟩])], none, s_NextWays_c, Go.Proofs.Try.f33.results.toList, 41, s_NextWays_h⟩
/-! ### i_NextWays -/
noncomputable def i_NextWays_c : Code := (Go.Proofs.Try.f34.body).getD .skip
noncomputable def i_NextWays_h : Nat → Option (List Hint)
  | 5 => some [.keep 0, .keep 1, .cell 5 (.row 100005 (.int .i64) true true), .cell 6 (.row 100006 (.int .i64) true false), .keep 7]
  | _ => none
noncomputable def i_NextWays_fi : Fi := ⟨[.v (.int .i64) false, .v (.slice (.int .i64)) false], [(false, [⟨.slice (.int .i64), some (true, true)⟩])], none, i_NextWays_c, Go.Proofs.Try.f34.results.toList, 49, i_NextWays_h⟩
/-! ### w_markIntS -/
noncomputable def w_markIntS_c : Code := (Go.Proofs.Try.f35.body).getD .skip
noncomputable def w_markIntS_h : Nat → Option (List Hint)
  | 2 => some [.cell 0 (.row 500000 (.int .i64) true false), .keep 1, .keep 5]
  | _ => none
noncomputable def w_markIntS_fi : Fi := ⟨[.o [.o (.int .i64) true] false, .v (.int .i64) false], [(false, [⟨.int .i64, none⟩])], none, w_markIntS_c, Go.Proofs.Try.f35.results.toList, 19, w_markIntS_h⟩
/-! ### w_heldIntS -/
noncomputable def w_heldIntS_c : Code := (Go.Proofs.Try.f36.body).getD .skip
noncomputable def w_heldIntS_h : Nat → Option (List Hint)
  | 2 => some [.keep 0, .keep 1, .keep 5]
  | _ => none
noncomputable def w_heldIntS_fi : Fi := ⟨[.v (.slice (.int .i64)) false, .v (.int .i64) false], [(false, [⟨.int .i64, none⟩])], none, w_heldIntS_c, Go.Proofs.Try.f36.results.toList, 21, w_heldIntS_h⟩
/-! ### w_FnExactNextWays -/
noncomputable def w_FnExactNextWays_c : Code := (Go.Proofs.Try.f8.body).getD .skip
noncomputable def w_FnExactNextWays_h : Nat → Option (List Hint)
  | _ => none
noncomputable def w_FnExactNextWays_fi : Fi := ⟨[.v (.int .i64) false, .v (.slice (.int .i64)) false], [(false, [⟨.bool, none⟩])], none, w_FnExactNextWays_c, Go.Proofs.Try.f8.results.toList, 71, w_FnExactNextWays_h⟩
/-! ### s_BestGuess -/
noncomputable def s_BestGuess_c : Code := (Go.Proofs.Try.f37.body).getD .skip
noncomputable def s_BestGuess_h : Nat → Option (List Hint)
  | 4 => some [.keep 5, .keep 6, .cell 11 (.row 100011 (.int .i64) true true), .keep 12, .keep 13]
  | _ => none
noncomputable def s_BestGuess_fi : Fi := ⟨[.v (.int .i64) false, .v (.slice (.int .i64)) false], [(false, [⟨.int .i64, none⟩])], none, s_BestGuess_c, Go.Proofs.Try.f37.results.toList, 25, s_BestGuess_h⟩
/-! ### slices_Max_int -/
noncomputable def slices_Max_int_c : Code := (Go.Proofs.Try.f68.body).getD .skip
noncomputable def slices_Max_int_h : Nat → Option (List Hint)
  | 5 => some [.keep 0, .keep 3, .keep 4]
  | _ => none
noncomputable def slices_Max_int_fi : Fi := ⟨[.v (.slice (.int .i64)) false], [(false, [⟨.int .i64, none⟩])], none, slices_Max_int_c, Go.Proofs.Try.f68.results.toList, 25, slices_Max_int_h⟩
/-! ### i_BestGuess -/
noncomputable def i_BestGuess_c : Code := (Go.Proofs.Try.f38.body).getD .skip
noncomputable def i_BestGuess_h : Nat → Option (List Hint)
  | _ => none
noncomputable def i_BestGuess_fi : Fi := ⟨[.v (.int .i64) false, .v (.slice (.int .i64)) false], [(false, [⟨.int .i64, none⟩])], none, i_BestGuess_c, Go.Proofs.Try.f38.results.toList, 20, i_BestGuess_h⟩
/-! ### w_FnExactBestGuess -/
noncomputable def w_FnExactBestGuess_c : Code := (Go.Proofs.Try.f9.body).getD .skip
noncomputable def w_FnExactBestGuess_h : Nat → Option (List Hint)
  | _ => none
noncomputable def w_FnExactBestGuess_fi : Fi := ⟨[.v (.int .i64) false, .v (.slice (.int .i64)) false], [(false, [⟨.bool, none⟩])], none, w_FnExactBestGuess_c, Go.Proofs.Try.f9.results.toList, 28, w_FnExactBestGuess_h⟩
/-! ### s_l19Total -/
noncomputable def s_l19Total_c : Code := (Go.Proofs.Try.f70.body).getD .skip
noncomputable def s_l19Total_h : Nat → Option (List Hint)
  | 5 => some [.keep 0, .keep 1, .keep 6, .keep 7, .cell 13 (.row 100013 (.int .i64) true true), .keep 14, .keep 15]
  | _ => none
noncomputable def s_l19Total_fi : Fi := ⟨[.v (.int .i64) false, .v (.slice (.int .i64)) false], [(false, [⟨.int .i64, none⟩])], none, s_l19Total_c, Go.Proofs.Try.f70.results.toList, 39, s_l19Total_h⟩
/-! ### s_GuessTotal -/
noncomputable def s_GuessTotal_c : Code := (Go.Proofs.Try.f39.body).getD .skip
noncomputable def s_GuessTotal_h : Nat → Option (List Hint)
  | _ => none
noncomputable def s_GuessTotal_fi : Fi := ⟨[.v (.int .i64) false], [(false, [⟨.int .i64, none⟩])], none, s_GuessTotal_c, Go.Proofs.Try.f39.results.toList, 8, s_GuessTotal_h⟩
/-! ### slices_Clone_int -/
noncomputable def slices_Clone_int_c : Code := (Go.Proofs.Try.f82.body).getD .skip
noncomputable def slices_Clone_int_h : Nat → Option (List Hint)
  | _ => none
noncomputable def slices_Clone_int_fi : Fi := ⟨[.v (.slice (.int .i64)) false], [(false, [⟨.slice (.int .i64), some (true, false)⟩])], none, slices_Clone_int_c, Go.Proofs.Try.f82.results.toList, 8, slices_Clone_int_h⟩
/-! ### i_total -/
noncomputable def i_total_c : Code := (Go.Proofs.Try.f71.body).getD .skip
noncomputable def i_total_h : Nat → Option (List Hint)
  | 6 => some [.keep 0, .keep 1, .keep 6, .cell 16 (.row 100016 (.int .i64) true true), .keep 17, .keep 18]
  | _ => none
noncomputable def i_total_fi : Fi := ⟨[.v (.int .i64) false, .v (.slice (.int .i64)) false], [(false, [⟨.int .i64, none⟩])], none, i_total_c, Go.Proofs.Try.f71.results.toList, 36, i_total_h⟩
/-! ### i_GuessTotal -/
noncomputable def i_GuessTotal_c : Code := (Go.Proofs.Try.f40.body).getD .skip
noncomputable def i_GuessTotal_h : Nat → Option (List Hint)
  | _ => none
noncomputable def i_GuessTotal_fi : Fi := ⟨[.v (.int .i64) false], [(false, [⟨.int .i64, none⟩])], none, i_GuessTotal_c, Go.Proofs.Try.f40.results.toList, 11, i_GuessTotal_h⟩
/-! ### w_FnExactGuessTotal -/
noncomputable def w_FnExactGuessTotal_c : Code := (Go.Proofs.Try.f10.body).getD .skip
noncomputable def w_FnExactGuessTotal_h : Nat → Option (List Hint)
  | _ => none
noncomputable def w_FnExactGuessTotal_fi : Fi := ⟨[.v (.int .i64) false], [(false, [⟨.bool, none⟩])], none, w_FnExactGuessTotal_c, Go.Proofs.Try.f10.results.toList, 12, w_FnExactGuessTotal_h⟩
/-! ### w_szIntSS -/
noncomputable def w_szIntSS_c : Code := (Go.Proofs.Try.f41.body).getD .skip
noncomputable def w_szIntSS_h : Nat → Option (List Hint)
  | 5 => some [.keep 0, .keep 1, .keep 5]
  | _ => none
noncomputable def w_szIntSS_fi : Fi := ⟨[.v (.slice (.slice (.int .i64))) false, .v (.int .i64) false], [(false, [⟨.int .i64, none⟩])], none, w_szIntSS_c, Go.Proofs.Try.f41.results.toList, 27, w_szIntSS_h⟩
/-! ### w_toIntSS -/
noncomputable def w_toIntSS_c : Code := (Go.Proofs.Try.f43.body).getD .skip
noncomputable def w_toIntSS_h : Nat → Option (List Hint)
  | 3 => some [.keep 0, .cell 3 (.row 100003 (.slice (.int .i64)) true false), .keep 4]
  | _ => none
noncomputable def w_toIntSS_fi : Fi := ⟨[.v (.slice (.slice (.int .i64))) false], [(false, [⟨.slice (.slice (.int .i64)), some (true, false)⟩])], none, w_toIntSS_c, Go.Proofs.Try.f43.results.toList, 23, w_toIntSS_h⟩
/-! ### s_CardOf -/
noncomputable def s_CardOf_c : Code := (Go.Proofs.Try.f73.body).getD .skip
noncomputable def s_CardOf_h : Nat → Option (List Hint)
  | _ => none
noncomputable def s_CardOf_fi : Fi := ⟨[.v (.int .i64) false], [(false, [⟨.int .i64, none⟩])], none, s_CardOf_c, Go.Proofs.Try.f73.results.toList, 10, s_CardOf_h⟩
/-! ### s_PacketOk -/
noncomputable def s_PacketOk_c : Code := (Go.Proofs.Try.f88.body).getD .skip
noncomputable def s_PacketOk_h : Nat → Option (List Hint)
  | 5 => some [.cell 3 (.row 100003 (.int .i64) true false), .keep 11, .keep 12, .keep 13]
  | _ => none
noncomputable def s_PacketOk_fi : Fi := ⟨[.v (.slice (.int .i64)) false], [(false, [⟨.bool, none⟩])], none, s_PacketOk_c, Go.Proofs.Try.f88.results.toList, 31, s_PacketOk_h⟩
/-! ### s_PositionOf -/
noncomputable def s_PositionOf_c : Code := (Go.Proofs.Try.f89.body).getD .skip
noncomputable def s_PositionOf_h : Nat → Option (List Hint)
  | 2 => some [.keep 1, .keep 7, .keep 8, .keep 9]
  | _ => none
noncomputable def s_PositionOf_fi : Fi := ⟨[.v (.slice (.int .i64)) false, .v (.int .i64) false], [(false, [⟨.int .i64, none⟩])], none, s_PositionOf_c, Go.Proofs.Try.f89.results.toList, 24, s_PositionOf_h⟩
/-! ### s_IsArrangement -/
noncomputable def s_IsArrangement_c : Code := (Go.Proofs.Try.f83.body).getD .skip
noncomputable def s_IsArrangement_h : Nat → Option (List Hint)
  | 4 => some [.keep 1, .keep 22, .keep 23, .keep 24]
  | _ => none
noncomputable def s_IsArrangement_fi : Fi := ⟨[.v (.slice (.int .i64)) false, .v (.slice (.int .i64)) false], [(false, [⟨.bool, none⟩])], none, s_IsArrangement_c, Go.Proofs.Try.f83.results.toList, 34, s_IsArrangement_h⟩
/-! ### s_l05Less -/
noncomputable def s_l05Less_c : Code := (Go.Proofs.Try.f84.body).getD .skip
noncomputable def s_l05Less_h : Nat → Option (List Hint)
  | 2 => some [.keep 0, .keep 1, .keep 7, .keep 8, .keep 9]
  | _ => none
noncomputable def s_l05Less_fi : Fi := ⟨[.v (.slice (.int .i64)) false, .v (.slice (.int .i64)) false], [(false, [⟨.bool, none⟩])], none, s_l05Less_c, Go.Proofs.Try.f84.results.toList, 36, s_l05Less_h⟩
/-! ### s_KnowOk -/
noncomputable def s_KnowOk_c : Code := (Go.Proofs.Try.f72.body).getD .skip
noncomputable def s_KnowOk_h : Nat → Option (List Hint)
  | 4 => some [.keep 0, .keep 16, .keep 17, .keep 18]
  | _ => none
noncomputable def s_KnowOk_fi : Fi := ⟨[.v (.slice (.slice (.int .i64))) false], [(false, [⟨.bool, none⟩])], none, s_KnowOk_c, Go.Proofs.Try.f72.results.toList, 44, s_KnowOk_h⟩
/-! ### s_KnownAt -/
noncomputable def s_KnownAt_c : Code := (Go.Proofs.Try.f42.body).getD .skip
noncomputable def s_KnownAt_h : Nat → Option (List Hint)
  | 4 => some [.keep 0, .keep 1, .keep 20, .keep 21, .keep 22]
  | _ => none
noncomputable def s_KnownAt_fi : Fi := ⟨[.v (.slice (.slice (.int .i64))) false, .v (.int .i64) false], [(false, [⟨.int .i64, none⟩])], none, s_KnownAt_c, Go.Proofs.Try.f42.results.toList, 47, s_KnownAt_h⟩
/-! ### i_CardOf -/
noncomputable def i_CardOf_c : Code := (Go.Proofs.Try.f76.body).getD .skip
noncomputable def i_CardOf_h : Nat → Option (List Hint)
  | _ => none
noncomputable def i_CardOf_fi : Fi := ⟨[.v (.int .i64) false], [(false, [⟨.int .i64, none⟩])], none, i_CardOf_c, Go.Proofs.Try.f76.results.toList, 10, i_CardOf_h⟩
/-! ### i_PacketOk -/
noncomputable def i_PacketOk_c : Code := (Go.Proofs.Try.f90.body).getD .skip
noncomputable def i_PacketOk_h : Nat → Option (List Hint)
  | 3 => some [.arr 3 400003, .keep 7, .keep 8, .keep 9]
  | _ => none
noncomputable def i_PacketOk_fi : Fi := ⟨[.v (.slice (.int .i64)) false], [(false, [⟨.bool, none⟩])], none, i_PacketOk_c, Go.Proofs.Try.f90.results.toList, 25, i_PacketOk_h⟩
/-! ### i_PositionOf_1 -/
noncomputable def i_PositionOf_1_c : Code := (Go.Proofs.Try.f96.body).getD .skip
noncomputable def i_PositionOf_1_h : Nat → Option (List Hint)
  | _ => none
noncomputable def i_PositionOf_1_fi : Fi := ⟨[.v (.int .i64) false, .r (.int .i64)], [(false, [⟨.bool, none⟩])], none, i_PositionOf_1_c, Go.Proofs.Try.f96.results.toList, 8, i_PositionOf_1_h⟩
/-! ### slices_IndexFunc_int_of_i_PositionOf_1 -/
noncomputable def slices_IndexFunc_int_of_i_PositionOf_1_c : Code := (Go.Proofs.Try.f95.body).getD .skip
noncomputable def slices_IndexFunc_int_of_i_PositionOf_1_h : Nat → Option (List Hint)
  | 2 => some [.keep 0, .keep 1, .keep 7, .keep 8]
  | _ => none
noncomputable def slices_IndexFunc_int_of_i_PositionOf_1_fi : Fi := ⟨[.v (.slice (.int .i64)) false, .fn 96 [.int .i64]], [(false, [⟨.int .i64, none⟩])], none, slices_IndexFunc_int_of_i_PositionOf_1_c, Go.Proofs.Try.f95.results.toList, 19, slices_IndexFunc_int_of_i_PositionOf_1_h⟩
/-! ### i_PositionOf -/
noncomputable def i_PositionOf_c : Code := (Go.Proofs.Try.f93.body).getD .skip
noncomputable def i_PositionOf_h : Nat → Option (List Hint)
  | _ => none
noncomputable def i_PositionOf_fi : Fi := ⟨[.v (.slice (.int .i64)) false, .v (.int .i64) false], [(false, [⟨.int .i64, none⟩])], none, i_PositionOf_c, Go.Proofs.Try.f93.results.toList, 10, i_PositionOf_h⟩
/-! ### i_IsArrangement_1 -/
noncomputable def i_IsArrangement_1_c : Code := (Go.Proofs.Try.f92.body).getD .skip
noncomputable def i_IsArrangement_1_h : Nat → Option (List Hint)
  | _ => none
noncomputable def i_IsArrangement_1_fi : Fi := ⟨[.v (.int .i64) false, .r (.slice (.int .i64))], [(false, [⟨.bool, none⟩])], none, i_IsArrangement_1_c, Go.Proofs.Try.f92.results.toList, 9, i_IsArrangement_1_h⟩
/-! ### slices_IndexFunc_int_of_i_IsArrangement_1 -/
noncomputable def slices_IndexFunc_int_of_i_IsArrangement_1_c : Code := (Go.Proofs.Try.f95.body).getD .skip
noncomputable def slices_IndexFunc_int_of_i_IsArrangement_1_h : Nat → Option (List Hint)
  | 2 => some [.keep 0, .keep 1, .keep 7, .keep 8]
  | _ => none
noncomputable def slices_IndexFunc_int_of_i_IsArrangement_1_fi : Fi := ⟨[.v (.slice (.int .i64)) false, .fn 92 [.slice (.int .i64)]], [(false, [⟨.int .i64, none⟩])], none, slices_IndexFunc_int_of_i_IsArrangement_1_c, Go.Proofs.Try.f95.results.toList, 19, slices_IndexFunc_int_of_i_IsArrangement_1_h⟩
/-! ### slices_ContainsFunc_int_of_i_IsArrangement_1 -/
noncomputable def slices_ContainsFunc_int_of_i_IsArrangement_1_c : Code := (Go.Proofs.Try.f91.body).getD .skip
noncomputable def slices_ContainsFunc_int_of_i_IsArrangement_1_h : Nat → Option (List Hint)
  | _ => none
noncomputable def slices_ContainsFunc_int_of_i_IsArrangement_1_fi : Fi := ⟨[.v (.slice (.int .i64)) false, .fn 92 [.slice (.int .i64)]], [(false, [⟨.bool, none⟩])], none, slices_ContainsFunc_int_of_i_IsArrangement_1_c, Go.Proofs.Try.f91.results.toList, 9, slices_ContainsFunc_int_of_i_IsArrangement_1_h⟩
/-! ### i_IsArrangement -/
noncomputable def i_IsArrangement_c : Code := (Go.Proofs.Try.f85.body).getD .skip
noncomputable def i_IsArrangement_h : Nat → Option (List Hint)
  | _ => none
noncomputable def i_IsArrangement_fi : Fi := ⟨[.v (.slice (.int .i64)) false, .v (.slice (.int .i64)) false], [(false, [⟨.bool, none⟩])], none, i_IsArrangement_c, Go.Proofs.Try.f85.results.toList, 24, i_IsArrangement_h⟩
/-! ### cmp_isNaN_int -/
noncomputable def cmp_isNaN_int_c : Code := (Go.Proofs.Try.f97.body).getD .skip
noncomputable def cmp_isNaN_int_h : Nat → Option (List Hint)
  | _ => none
noncomputable def cmp_isNaN_int_fi : Fi := ⟨[.v (.int .i64) false], [(false, [⟨.bool, none⟩])], none, cmp_isNaN_int_c, Go.Proofs.Try.f97.results.toList, 6, cmp_isNaN_int_h⟩
/-! ### cmp_Compare_int -/
noncomputable def cmp_Compare_int_c : Code := (Go.Proofs.Try.f94.body).getD .skip
noncomputable def cmp_Compare_int_h : Nat → Option (List Hint)
  | _ => none
noncomputable def cmp_Compare_int_fi : Fi := ⟨[.v (.int .i64) false, .v (.int .i64) false], [(false, [⟨.int .i64, none⟩])], none, cmp_Compare_int_c, Go.Proofs.Try.f94.results.toList, 20, cmp_Compare_int_h⟩
/-! ### slices_Compare_int -/
noncomputable def slices_Compare_int_c : Code := (Go.Proofs.Try.f86.body).getD .skip
noncomputable def slices_Compare_int_h : Nat → Option (List Hint)
  | 2 => some [.keep 0, .keep 1, .keep 9, .keep 10, .keep 11]
  | _ => none
noncomputable def slices_Compare_int_fi : Fi := ⟨[.v (.slice (.int .i64)) false, .v (.slice (.int .i64)) false], [(false, [⟨.int .i64, none⟩])], none, slices_Compare_int_c, Go.Proofs.Try.f86.results.toList, 36, slices_Compare_int_h⟩
/-! ### i_KnowOk -/
noncomputable def i_KnowOk_c : Code := (Go.Proofs.Try.f78.body).getD .skip
noncomputable def i_KnowOk_h : Nat → Option (List Hint)
  | 4 => some [.keep 0, .keep 20, .keep 21, .keep 22]
  | _ => none
noncomputable def i_KnowOk_fi : Fi := ⟨[.v (.slice (.slice (.int .i64))) false], [(false, [⟨.bool, none⟩])], none, i_KnowOk_c, Go.Proofs.Try.f78.results.toList, 48, i_KnowOk_h⟩
/-! ### i_KnownAt_1 -/
noncomputable def i_KnownAt_1_c : Code := (Go.Proofs.Try.f75.body).getD .skip
noncomputable def i_KnownAt_1_h : Nat → Option (List Hint)
  | _ => none
noncomputable def i_KnownAt_1_fi : Fi := ⟨[.v (.slice (.int .i64)) false, .r (.int .i64)], [(false, [⟨.int .i64, none⟩])], none, i_KnownAt_1_c, Go.Proofs.Try.f75.results.toList, 17, i_KnownAt_1_h⟩
/-! ### i_common_of_i_KnownAt_1 -/
noncomputable def i_common_of_i_KnownAt_1_c : Code := (Go.Proofs.Try.f74.body).getD .skip
noncomputable def i_common_of_i_KnownAt_1_h : Nat → Option (List Hint)
  | 5 => some [.keep 1, .keep 5, .keep 16, .keep 17, .keep 18]
  | _ => none
noncomputable def i_common_of_i_KnownAt_1_fi : Fi := ⟨[.v (.slice (.slice (.int .i64))) false, .fn 75 [.int .i64]], [(false, [⟨.int .i64, none⟩])], none, i_common_of_i_KnownAt_1_c, Go.Proofs.Try.f74.results.toList, 29, i_common_of_i_KnownAt_1_h⟩
/-! ### i_KnownAt -/
noncomputable def i_KnownAt_c : Code := (Go.Proofs.Try.f44.body).getD .skip
noncomputable def i_KnownAt_h : Nat → Option (List Hint)
  | _ => none
noncomputable def i_KnownAt_fi : Fi := ⟨[.v (.slice (.slice (.int .i64))) false, .v (.int .i64) false], [(false, [⟨.int .i64, none⟩])], none, i_KnownAt_c, Go.Proofs.Try.f44.results.toList, 8, i_KnownAt_h⟩
/-! ### w_eqIntSS -/
noncomputable def w_eqIntSS_c : Code := (Go.Proofs.Try.f45.body).getD .skip
noncomputable def w_eqIntSS_h : Nat → Option (List Hint)
  | 4 => some [.keep 0, .keep 1, .keep 5]
  | _ => none
noncomputable def w_eqIntSS_fi : Fi := ⟨[.v (.slice (.slice (.int .i64))) false, .v (.slice (.slice (.int .i64))) false], [(false, [⟨.bool, none⟩])], none, w_eqIntSS_c, Go.Proofs.Try.f45.results.toList, 27, w_eqIntSS_h⟩
/-! ### w_FnExactKnownAt -/
noncomputable def w_FnExactKnownAt_c : Code := (Go.Proofs.Try.f11.body).getD .skip
noncomputable def w_FnExactKnownAt_h : Nat → Option (List Hint)
  | _ => none
noncomputable def w_FnExactKnownAt_fi : Fi := ⟨[.v (.slice (.slice (.int .i64))) false, .v (.int .i64) false], [(false, [⟨.bool, none⟩])], none, w_FnExactKnownAt_c, Go.Proofs.Try.f11.results.toList, 31, w_FnExactKnownAt_h⟩
/-! ### s_l15Worst -/
noncomputable def s_l15Worst_c : Code := (Go.Proofs.Try.f77.body).getD .skip
noncomputable def s_l15Worst_h : Nat → Option (List Hint)
  | 4 => some [.keep 1, .cell 5 (.row 100005 (.int .i64) true false), .keep 6, .keep 11, .keep 12, .keep 13]
  | _ => none
noncomputable def s_l15Worst_fi : Fi := ⟨[.v (.slice (.slice (.int .i64))) false, .v (.int .i64) false], [(false, [⟨.int .i64, none⟩])], none, s_l15Worst_c, Go.Proofs.Try.f77.results.toList, 36, s_l15Worst_h⟩
/-! ### s_BestLook -/
noncomputable def s_BestLook_c : Code := (Go.Proofs.Try.f46.body).getD .skip
noncomputable def s_BestLook_h : Nat → Option (List Hint)
  | 5 => some [.keep 0, .keep 3, .keep 11, .keep 12]
  | _ => none
noncomputable def s_BestLook_fi : Fi := ⟨[.v (.slice (.slice (.int .i64))) false], [(false, [⟨.int .i64, none⟩])], none, s_BestLook_c, Go.Proofs.Try.f46.results.toList, 25, s_BestLook_h⟩
/-! ### i_BestLook -/
noncomputable def i_BestLook_c : Code := (Go.Proofs.Try.f47.body).getD .skip
noncomputable def i_BestLook_h : Nat → Option (List Hint)
  | 5 => some [.keep 0, .keep 3, .keep 4, .keep 16, .keep 17]
  | 9 => some [.keep 0, .keep 3, .keep 4, .keep 5, .arr 6 400006, .keep 16, .keep 17, .keep 20, .keep 21, .keep 22]
  | _ => none
noncomputable def i_BestLook_fi : Fi := ⟨[.v (.slice (.slice (.int .i64))) false], [(false, [⟨.int .i64, none⟩])], none, i_BestLook_c, Go.Proofs.Try.f47.results.toList, 49, i_BestLook_h⟩
/-! ### w_FnExactBestLook -/
noncomputable def w_FnExactBestLook_c : Code := (Go.Proofs.Try.f12.body).getD .skip
noncomputable def w_FnExactBestLook_h : Nat → Option (List Hint)
  | _ => none
noncomputable def w_FnExactBestLook_fi : Fi := ⟨[.v (.slice (.slice (.int .i64))) false], [(false, [⟨.bool, none⟩])], none, w_FnExactBestLook_c, Go.Proofs.Try.f12.results.toList, 27, w_FnExactBestLook_h⟩
/-! ### s_CountKnown -/
noncomputable def s_CountKnown_c : Code := (Go.Proofs.Try.f48.body).getD .skip
noncomputable def s_CountKnown_h : Nat → Option (List Hint)
  | 5 => some [.keep 0, .keep 3, .keep 11, .keep 12]
  | _ => none
noncomputable def s_CountKnown_fi : Fi := ⟨[.v (.slice (.slice (.int .i64))) false], [(false, [⟨.int .i64, none⟩])], none, s_CountKnown_c, Go.Proofs.Try.f48.results.toList, 23, s_CountKnown_h⟩
/-! ### i_CountKnown -/
noncomputable def i_CountKnown_c : Code := (Go.Proofs.Try.f49.body).getD .skip
noncomputable def i_CountKnown_h : Nat → Option (List Hint)
  | 5 => some [.keep 0, .keep 3, .keep 11, .keep 12]
  | _ => none
noncomputable def i_CountKnown_fi : Fi := ⟨[.v (.slice (.slice (.int .i64))) false], [(false, [⟨.int .i64, none⟩])], none, i_CountKnown_c, Go.Proofs.Try.f49.results.toList, 23, i_CountKnown_h⟩
/-! ### w_FnExactCountKnown -/
noncomputable def w_FnExactCountKnown_c : Code := (Go.Proofs.Try.f13.body).getD .skip
noncomputable def w_FnExactCountKnown_h : Nat → Option (List Hint)
  | _ => none
noncomputable def w_FnExactCountKnown_fi : Fi := ⟨[.v (.slice (.slice (.int .i64))) false], [(false, [⟨.bool, none⟩])], none, w_FnExactCountKnown_c, Go.Proofs.Try.f13.results.toList, 27, w_FnExactCountKnown_h⟩

noncomputable def fnL : List (Nat × List Nat × Fi) := [(15, [], w_toIntS_fi),
  (14, [], s_ShuffleLine_fi),
  (16, [], i_ShuffleLine_fi),
  (17, [], w_eqIntS_fi),
  (3, [], w_FnExactShuffleLine_fi),
  (50, [], w_szIntS_fi),
  (18, [], w_szScene_fi),
  (20, [], w_toScene_fi),
  (51, [], s_SamePacket_fi),
  (19, [], s_SameScene_fi),
  (52, [], slices_Equal_int_fi),
  (21, [], i_SameScene_fi),
  (22, [], w_eqScene_fi),
  (4, [], w_FnExactSameScene_fi),
  (56, [], w_toMove_fi),
  (24, [], w_toStep_fi),
  (53, [], s_l01In_fi),
  (54, [], s_MoveOk_fi),
  (55, [], s_l16Choice_fi),
  (23, [], s_StepOk_fi),
  (57, [], i_MoveOk_fi),
  (25, [], i_StepOk_fi),
  (5, [], w_FnExactStepOk_fi),
  (67, [], s_l02Has_fi),
  (58, [], s_l19Ok_fi),
  (79, [], s_l19Choose_fi),
  (59, [], s_l19Ways_fi),
  (26, [], s_WaysWith_fi),
  (69, [], slices_Index_int_fi),
  (80, [], slices_Contains_int_fi),
  (60, [], i_isPrefix_fi),
  (61, [], i_upTo_fi),
  (62, [], i_riffled_fi),
  (27, [], i_WaysWith_fi),
  (6, [], w_FnExactWaysWith_fi),
  (63, [], w_szStepS_fi),
  (28, [], w_szTrick_fi),
  (64, [], w_toStepS_fi),
  (30, [], w_toTrick_fi),
  (29, [], s_SameTrick_fi),
  (65, [], slices_Equal_i_Step_fi),
  (31, [], i_SameTrick_fi),
  (87, [], w_eqMove_fi),
  (81, [], w_eqStep_fi),
  (66, [], w_eqStepS_fi),
  (32, [], w_eqTrick_fi),
  (7, [], w_FnExactSameTrick_fi),
  (33, [], s_NextWays_fi),
  (34, [], i_NextWays_fi),
  (35, [], w_markIntS_fi),
  (36, [], w_heldIntS_fi),
  (8, [], w_FnExactNextWays_fi),
  (37, [], s_BestGuess_fi),
  (68, [], slices_Max_int_fi),
  (38, [], i_BestGuess_fi),
  (9, [], w_FnExactBestGuess_fi),
  (70, [], s_l19Total_fi),
  (39, [], s_GuessTotal_fi),
  (82, [], slices_Clone_int_fi),
  (71, [], i_total_fi),
  (40, [], i_GuessTotal_fi),
  (10, [], w_FnExactGuessTotal_fi),
  (41, [], w_szIntSS_fi),
  (43, [], w_toIntSS_fi),
  (73, [], s_CardOf_fi),
  (88, [], s_PacketOk_fi),
  (89, [], s_PositionOf_fi),
  (83, [], s_IsArrangement_fi),
  (84, [], s_l05Less_fi),
  (72, [], s_KnowOk_fi),
  (42, [], s_KnownAt_fi),
  (76, [], i_CardOf_fi),
  (90, [], i_PacketOk_fi),
  (96, [], i_PositionOf_1_fi),
  (95, [96], slices_IndexFunc_int_of_i_PositionOf_1_fi),
  (93, [], i_PositionOf_fi),
  (92, [], i_IsArrangement_1_fi),
  (95, [92], slices_IndexFunc_int_of_i_IsArrangement_1_fi),
  (91, [92], slices_ContainsFunc_int_of_i_IsArrangement_1_fi),
  (85, [], i_IsArrangement_fi),
  (97, [], cmp_isNaN_int_fi),
  (94, [], cmp_Compare_int_fi),
  (86, [], slices_Compare_int_fi),
  (78, [], i_KnowOk_fi),
  (75, [], i_KnownAt_1_fi),
  (74, [75], i_common_of_i_KnownAt_1_fi),
  (44, [], i_KnownAt_fi),
  (45, [], w_eqIntSS_fi),
  (11, [], w_FnExactKnownAt_fi),
  (77, [], s_l15Worst_fi),
  (46, [], s_BestLook_fi),
  (47, [], i_BestLook_fi),
  (12, [], w_FnExactBestLook_fi),
  (48, [], s_CountKnown_fi),
  (49, [], i_CountKnown_fi),
  (13, [], w_FnExactCountKnown_fi)]
noncomputable def E : Env := ⟨lookT tyL, lookF fnL⟩

noncomputable def w_toIntS (k : Nat) (x : List Int) : Option (List Int) := aFn E w_toIntS_fi k x
noncomputable def w_toIntS_l3 (k : Nat) (v0 : List Int) (v4 : Int) (o100003 : List Int) : Option (List Int) := aRun E k w_toIntS_fi.rs (ioOf w_toIntS_fi.ps) w_toIntS_fi.res w_toIntS_fi.hints [.code (sub w_toIntS_c [1, 1, 0, 1, 0, 0, 0, 0]), .code (sub w_toIntS_c [1, 1, 0, 1, 0, 0, 0, 1]), .code (sub w_toIntS_c [1, 1, 0, 1, 0, 0, 1]), .inLoop (sub w_toIntS_c [1, 1, 0, 1, 0, 0]), .inBlock 0, .code (sub w_toIntS_c [1, 1, 1])] ⟨[.cv (.val (.slice (.int .i64)) v0), .cv .dead, .cv .dead, .cv (.own 100003), .cv (.val (.int .i64) v4), .cv .dead, .cv .dead, .cv .dead, .cv .dead, .cv .dead, .cv .dead, .cv .dead, .cv .dead, .cv .dead, .cv .dead, .cv .dead, .cv .dead, .cv .dead, .cv .dead, .cv .dead, .cv .dead, .cv .dead], [(100003, .row (.int .i64) o100003 true false)], true⟩
noncomputable def s_ShuffleLine (k : Nat) (x : List Int) : Option (ByteArray) := aFn E s_ShuffleLine_fi k x
noncomputable def s_ShuffleLine_l3 (k : Nat) (v3 : ByteArray) (v6 : List Int) (v7 : Int) (v8 : Int) : Option (ByteArray) := aRun E k s_ShuffleLine_fi.rs (ioOf s_ShuffleLine_fi.ps) s_ShuffleLine_fi.res s_ShuffleLine_fi.hints [.code (sub s_ShuffleLine_c [1, 1, 0, 1, 0, 0, 0]), .code (sub s_ShuffleLine_c [1, 1, 0, 1, 0, 0, 1]), .inLoop (sub s_ShuffleLine_c [1, 1, 0, 1, 0, 0]), .inBlock 0, .code (sub s_ShuffleLine_c [1, 1, 1])] ⟨[.cv .dead, .cv .dead, .cv .dead, .cv (.val (.str) v3), .cv .dead, .cv .dead, .cv (.val (.slice (.int .i64)) v6), .cv (.val (.int .i64) v7), .cv (.val (.int .i64) v8), .cv .dead, .cv .dead, .cv .dead, .cv .dead, .cv .dead, .cv .dead, .cv .dead, .cv .dead, .cv .dead, .cv .dead, .cv .dead, .cv .dead, .cv .dead], [], true⟩
noncomputable def i_ShuffleLine (k : Nat) (x : List Int) : Option (ByteArray) := aFn E i_ShuffleLine_fi k x
noncomputable def i_ShuffleLine_l3 (k : Nat) (v3 : ByteArray) (v6 : List Int) (v7 : Int) (v8 : Int) : Option (ByteArray) := aRun E k i_ShuffleLine_fi.rs (ioOf i_ShuffleLine_fi.ps) i_ShuffleLine_fi.res i_ShuffleLine_fi.hints [.code (sub i_ShuffleLine_c [1, 1, 0, 1, 0, 0, 0]), .code (sub i_ShuffleLine_c [1, 1, 0, 1, 0, 0, 1]), .inLoop (sub i_ShuffleLine_c [1, 1, 0, 1, 0, 0]), .inBlock 0, .code (sub i_ShuffleLine_c [1, 1, 1])] ⟨[.cv .dead, .cv .dead, .cv .dead, .cv (.val (.str) v3), .cv .dead, .cv .dead, .cv (.val (.slice (.int .i64)) v6), .cv (.val (.int .i64) v7), .cv (.val (.int .i64) v8), .cv .dead, .cv .dead, .cv .dead, .cv .dead, .cv .dead, .cv .dead, .cv .dead, .cv .dead, .cv .dead, .cv .dead, .cv .dead, .cv .dead, .cv .dead], [], true⟩
noncomputable def w_eqIntS (k : Nat) (x : (List Int) × List Int) : Option (Bool) := aFn E w_eqIntS_fi k x
noncomputable def w_eqIntS_l4 (k : Nat) (v0 : List Int) (v1 : List Int) (v5 : Int) : Option (Bool) := aRun E k w_eqIntS_fi.rs (ioOf w_eqIntS_fi.ps) w_eqIntS_fi.res w_eqIntS_fi.hints [.code (sub w_eqIntS_c [1, 1, 0, 1, 0, 0, 0, 0]), .code (sub w_eqIntS_c [1, 1, 0, 1, 0, 0, 0, 1]), .code (sub w_eqIntS_c [1, 1, 0, 1, 0, 0, 1]), .inLoop (sub w_eqIntS_c [1, 1, 0, 1, 0, 0]), .inBlock 0, .code (sub w_eqIntS_c [1, 1, 1])] ⟨[.cv (.val (.slice (.int .i64)) v0), .cv (.val (.slice (.int .i64)) v1), .cv .dead, .cv .dead, .cv .dead, .cv (.val (.int .i64) v5), .cv .dead, .cv .dead, .cv .dead, .cv .dead, .cv .dead, .cv .dead, .cv .dead, .cv .dead, .cv .dead, .cv .dead, .cv .dead, .cv .dead, .cv .dead, .cv .dead, .cv .dead, .cv .dead, .cv .dead, .cv .dead, .cv .dead, .cv .dead], [], true⟩
noncomputable def w_FnExactShuffleLine (k : Nat) (x : List Int) : Option (Bool) := aFn E w_FnExactShuffleLine_fi k x
noncomputable def w_szIntS (k : Nat) (x : (List Int) × Int) : Option (Int) := aFn E w_szIntS_fi k x
noncomputable def w_szScene (k : Nat) (x : ((List Int) × Int) × Int) : Option (Int) := aFn E w_szScene_fi k x
noncomputable def w_toScene (k : Nat) (x : (List Int) × Int) : Option ((List Int) × Int) := aFn E w_toScene_fi k x
noncomputable def s_SamePacket (k : Nat) (x : (List Int) × List Int) : Option (Bool) := aFn E s_SamePacket_fi k x
noncomputable def s_SamePacket_l4 (k : Nat) (v1 : List Int) (v12 : List Int) (v13 : Int) (v14 : Int) : Option (Bool) := aRun E k s_SamePacket_fi.rs (ioOf s_SamePacket_fi.ps) s_SamePacket_fi.res s_SamePacket_fi.hints [.code (sub s_SamePacket_c [1, 1, 0, 1, 0, 0, 0]), .code (sub s_SamePacket_c [1, 1, 0, 1, 0, 0, 1]), .inLoop (sub s_SamePacket_c [1, 1, 0, 1, 0, 0]), .inBlock 0, .code (sub s_SamePacket_c [1, 1, 1])] ⟨[.cv .dead, .cv (.val (.slice (.int .i64)) v1), .cv .dead, .cv .dead, .cv .dead, .cv .dead, .cv .dead, .cv .dead, .cv .dead, .cv .dead, .cv .dead, .cv .dead, .cv (.val (.slice (.int .i64)) v12), .cv (.val (.int .i64) v13), .cv (.val (.int .i64) v14), .cv .dead, .cv .dead, .cv .dead, .cv .dead, .cv .dead, .cv .dead, .cv .dead, .cv .dead, .cv .dead, .cv .dead, .cv .dead], [], true⟩
noncomputable def s_SameScene (k : Nat) (x : ((List Int) × Int) × (List Int) × Int) : Option (Bool) := aFn E s_SameScene_fi k x
noncomputable def slices_Equal_int (k : Nat) (x : (List Int) × List Int) : Option (Bool) := aFn E slices_Equal_int_fi k x
noncomputable def slices_Equal_int_l4 (k : Nat) (v0 : List Int) (v1 : List Int) (v12 : Int) (v13 : Int) : Option (Bool) := aRun E k slices_Equal_int_fi.rs (ioOf slices_Equal_int_fi.ps) slices_Equal_int_fi.res slices_Equal_int_fi.hints [.code (sub slices_Equal_int_c [1, 1, 0, 1, 0, 0, 0]), .code (sub slices_Equal_int_c [1, 1, 0, 1, 0, 0, 1]), .inLoop (sub slices_Equal_int_c [1, 1, 0, 1, 0, 0]), .inBlock 0, .code (sub slices_Equal_int_c [1, 1, 1])] ⟨[.cv (.val (.slice (.int .i64)) v0), .cv (.val (.slice (.int .i64)) v1), .cv .dead, .cv .dead, .cv .dead, .cv .dead, .cv .dead, .cv .dead, .cv .dead, .cv .dead, .cv .dead, .cv .dead, .cv (.val (.int .i64) v12), .cv (.val (.int .i64) v13), .cv .dead, .cv .dead, .cv .dead, .cv .dead, .cv .dead, .cv .dead, .cv .dead, .cv .dead, .cv .dead, .cv .dead, .cv .dead, .cv .dead], [], true⟩
noncomputable def i_SameScene (k : Nat) (x : ((List Int) × Int) × (List Int) × Int) : Option (Bool) := aFn E i_SameScene_fi k x
noncomputable def w_eqScene (k : Nat) (x : ((List Int) × Int) × (List Int) × Int) : Option (Bool) := aFn E w_eqScene_fi k x
noncomputable def w_FnExactSameScene (k : Nat) (x : ((List Int) × Int) × (List Int) × Int) : Option (Bool) := aFn E w_FnExactSameScene_fi k x
noncomputable def w_toMove (k : Nat) (x : Int × Int) : Option (Int × Int) := aFn E w_toMove_fi k x
noncomputable def w_toStep (k : Nat) (x : Int × (Int × Int) × Int) : Option (Int × Int × Int × Int) := aFn E w_toStep_fi k x
noncomputable def s_l01In (k : Nat) (x : Int × Int × Int) : Option (Bool) := aFn E s_l01In_fi k x
noncomputable def s_MoveOk (k : Nat) (x : Int × Int × Int) : Option (Bool) := aFn E s_MoveOk_fi k x
noncomputable def s_l16Choice (k : Nat) (x : Int × Int) : Option (Bool) := aFn E s_l16Choice_fi k x
noncomputable def s_StepOk (k : Nat) (x : Int × Int × (Int × Int) × Int) : Option (Bool) := aFn E s_StepOk_fi k x
noncomputable def i_MoveOk (k : Nat) (x : Int × Int × Int) : Option (Bool) := aFn E i_MoveOk_fi k x
noncomputable def i_StepOk (k : Nat) (x : Int × Int × (Int × Int) × Int) : Option (Bool) := aFn E i_StepOk_fi k x
noncomputable def w_FnExactStepOk (k : Nat) (x : Int × Int × (Int × Int) × Int) : Option (Bool) := aFn E w_FnExactStepOk_fi k x
noncomputable def s_l02Has (k : Nat) (x : (List Int) × Int) : Option (Bool) := aFn E s_l02Has_fi k x
noncomputable def s_l02Has_l2 (k : Nat) (v1 : Int) (v7 : List Int) (v8 : Int) (v9 : Int) : Option (Bool) := aRun E k s_l02Has_fi.rs (ioOf s_l02Has_fi.ps) s_l02Has_fi.res s_l02Has_fi.hints [.code (sub s_l02Has_c [1, 0, 1, 0, 0, 0]), .code (sub s_l02Has_c [1, 0, 1, 0, 0, 1]), .inLoop (sub s_l02Has_c [1, 0, 1, 0, 0]), .inBlock 0, .code (sub s_l02Has_c [1, 1])] ⟨[.cv .dead, .cv (.val (.int .i64) v1), .cv .dead, .cv .dead, .cv .dead, .cv .dead, .cv .dead, .cv (.val (.slice (.int .i64)) v7), .cv (.val (.int .i64) v8), .cv (.val (.int .i64) v9), .cv .dead, .cv .dead, .cv .dead, .cv .dead, .cv .dead, .cv .dead, .cv .dead], [], true⟩
noncomputable def s_l19Ok (k : Nat) (x : Int × List Int) : Option (Bool) := aFn E s_l19Ok_fi k x
noncomputable def s_l19Ok_l4 (k : Nat) (v0 : Int) (v1 : List Int) (v10 : List Int) (v11 : Int) (v12 : Int) : Option (Bool) := aRun E k s_l19Ok_fi.rs (ioOf s_l19Ok_fi.ps) s_l19Ok_fi.res s_l19Ok_fi.hints [.code (sub s_l19Ok_c [1, 1, 0, 1, 0, 0, 0]), .code (sub s_l19Ok_c [1, 1, 0, 1, 0, 0, 1]), .inLoop (sub s_l19Ok_c [1, 1, 0, 1, 0, 0]), .inBlock 0, .code (sub s_l19Ok_c [1, 1, 1])] ⟨[.cv (.val (.int .i64) v0), .cv (.val (.slice (.int .i64)) v1), .cv .dead, .cv .dead, .cv .dead, .cv .dead, .cv .dead, .cv .dead, .cv .dead, .cv .dead, .cv (.val (.slice (.int .i64)) v10), .cv (.val (.int .i64) v11), .cv (.val (.int .i64) v12), .cv .dead, .cv .dead, .cv .dead, .cv .dead, .cv .dead, .cv .dead, .cv .dead, .cv .dead, .cv .dead, .cv .dead, .cv .dead, .cv .dead, .cv .dead, .cv .dead, .cv .dead, .cv .dead, .cv .dead], [], true⟩
noncomputable def s_l19Choose (k : Nat) (x : Int × Int) : Option (Int) := aFn E s_l19Choose_fi k x
noncomputable def s_l19Choose_l3 (k : Nat) (v0 : Int) (v1 : Int) (v5 : Int) (v6 : Int) : Option (Int) := aRun E k s_l19Choose_fi.rs (ioOf s_l19Choose_fi.ps) s_l19Choose_fi.res s_l19Choose_fi.hints [.code (sub s_l19Choose_c [1, 1, 0, 1, 0, 0, 0, 0]), .code (sub s_l19Choose_c [1, 1, 0, 1, 0, 0, 0, 1]), .code (sub s_l19Choose_c [1, 1, 0, 1, 0, 0, 1]), .inLoop (sub s_l19Choose_c [1, 1, 0, 1, 0, 0]), .inBlock 0, .code (sub s_l19Choose_c [1, 1, 1])] ⟨[.cv (.val (.int .i64) v0), .cv (.val (.int .i64) v1), .cv .dead, .cv .dead, .cv .dead, .cv (.val (.int .i64) v5), .cv (.val (.int .i64) v6), .cv .dead, .cv .dead, .cv .dead, .cv .dead, .cv .dead, .cv .dead, .cv .dead, .cv .dead, .cv .dead, .cv .dead, .cv .dead, .cv .dead, .cv .dead, .cv .dead, .cv .dead], [], true⟩
noncomputable def s_l19Ways (k : Nat) (x : Int × Int × List Int) : Option (Int) := aFn E s_l19Ways_fi k x
noncomputable def s_l19Ways_l4 (k : Nat) (v0 : Int) (v1 : Int) (v2 : List Int) (v7 : Int) (v8 : Int) (v12 : List Int) (v13 : Int) (v14 : Int) : Option (Int) := aRun E k s_l19Ways_fi.rs (ioOf s_l19Ways_fi.ps) s_l19Ways_fi.res s_l19Ways_fi.hints [.code (sub s_l19Ways_c [1, 1, 1, 0, 1, 0, 0, 0]), .code (sub s_l19Ways_c [1, 1, 1, 0, 1, 0, 0, 1]), .inLoop (sub s_l19Ways_c [1, 1, 1, 0, 1, 0, 0]), .inBlock 0, .code (sub s_l19Ways_c [1, 1, 1, 1])] ⟨[.cv (.val (.int .i64) v0), .cv (.val (.int .i64) v1), .cv (.val (.slice (.int .i64)) v2), .cv .dead, .cv .dead, .cv .dead, .cv .dead, .cv (.val (.int .i64) v7), .cv (.val (.int .i64) v8), .cv .dead, .cv .dead, .cv .dead, .cv (.val (.slice (.int .i64)) v12), .cv (.val (.int .i64) v13), .cv (.val (.int .i64) v14), .cv .dead, .cv .dead, .cv .dead, .cv .dead, .cv .dead, .cv .dead, .cv .dead, .cv .dead, .cv .dead, .cv .dead, .cv .dead, .cv .dead, .cv .dead, .cv .dead, .cv .dead, .cv .dead, .cv .dead, .cv .dead, .cv .dead, .cv .dead, .cv .dead, .cv .dead, .cv .dead, .cv .dead, .cv .dead, .cv .dead, .cv .dead, .cv .dead, .cv .dead, .cv .dead, .cv .dead, .cv .dead, .cv .dead, .cv .dead], [], true⟩
noncomputable def s_WaysWith (k : Nat) (x : Int × List Int) : Option (Int) := aFn E s_WaysWith_fi k x
noncomputable def s_WaysWith_l5 (k : Nat) (v0 : Int) (v1 : List Int) (v5 : Int) (v6 : Int) : Option (Int) := aRun E k s_WaysWith_fi.rs (ioOf s_WaysWith_fi.ps) s_WaysWith_fi.res s_WaysWith_fi.hints [.code (sub s_WaysWith_c [1, 1, 1, 0, 1, 0, 0, 0, 0]), .code (sub s_WaysWith_c [1, 1, 1, 0, 1, 0, 0, 0, 1]), .code (sub s_WaysWith_c [1, 1, 1, 0, 1, 0, 0, 1]), .inLoop (sub s_WaysWith_c [1, 1, 1, 0, 1, 0, 0]), .inBlock 0, .code (sub s_WaysWith_c [1, 1, 1, 1])] ⟨[.cv (.val (.int .i64) v0), .cv (.val (.slice (.int .i64)) v1), .cv .dead, .cv .dead, .cv .dead, .cv (.val (.int .i64) v5), .cv (.val (.int .i64) v6), .cv .dead, .cv .dead, .cv .dead, .cv .dead, .cv .dead, .cv .dead, .cv .dead, .cv .dead, .cv .dead, .cv .dead, .cv .dead, .cv .dead, .cv .dead, .cv .dead, .cv .dead, .cv .dead], [], true⟩
noncomputable def slices_Index_int (k : Nat) (x : (List Int) × Int) : Option (Int) := aFn E slices_Index_int_fi k x
noncomputable def slices_Index_int_l2 (k : Nat) (v0 : List Int) (v1 : Int) (v7 : Int) (v8 : Int) : Option (Int) := aRun E k slices_Index_int_fi.rs (ioOf slices_Index_int_fi.ps) slices_Index_int_fi.res slices_Index_int_fi.hints [.code (sub slices_Index_int_c [1, 0, 1, 0, 0, 0]), .code (sub slices_Index_int_c [1, 0, 1, 0, 0, 1]), .inLoop (sub slices_Index_int_c [1, 0, 1, 0, 0]), .inBlock 0, .code (sub slices_Index_int_c [1, 1])] ⟨[.cv (.val (.slice (.int .i64)) v0), .cv (.val (.int .i64) v1), .cv .dead, .cv .dead, .cv .dead, .cv .dead, .cv .dead, .cv (.val (.int .i64) v7), .cv (.val (.int .i64) v8), .cv .dead, .cv .dead, .cv .dead, .cv .dead, .cv .dead, .cv .dead, .cv .dead, .cv .dead, .cv .dead, .cv .dead], [], true⟩
noncomputable def slices_Contains_int (k : Nat) (x : (List Int) × Int) : Option (Bool) := aFn E slices_Contains_int_fi k x
noncomputable def i_isPrefix (k : Nat) (x : Int × List Int) : Option (Bool) := aFn E i_isPrefix_fi k x
noncomputable def i_isPrefix_l4 (k : Nat) (v0 : Int) (v1 : List Int) (v13 : List Int) (v14 : Int) (v15 : Int) : Option (Bool) := aRun E k i_isPrefix_fi.rs (ioOf i_isPrefix_fi.ps) i_isPrefix_fi.res i_isPrefix_fi.hints [.code (sub i_isPrefix_c [1, 1, 0, 1, 0, 0, 0]), .code (sub i_isPrefix_c [1, 1, 0, 1, 0, 0, 1]), .inLoop (sub i_isPrefix_c [1, 1, 0, 1, 0, 0]), .inBlock 0, .code (sub i_isPrefix_c [1, 1, 1])] ⟨[.cv (.val (.int .i64) v0), .cv (.val (.slice (.int .i64)) v1), .cv .dead, .cv .dead, .cv .dead, .cv .dead, .cv .dead, .cv .dead, .cv .dead, .cv .dead, .cv .dead, .cv .dead, .cv .dead, .cv (.val (.slice (.int .i64)) v13), .cv (.val (.int .i64) v14), .cv (.val (.int .i64) v15), .cv .dead, .cv .dead, .cv .dead, .cv .dead, .cv .dead, .cv .dead, .cv .dead, .cv .dead, .cv .dead, .cv .dead, .cv .dead, .cv .dead, .cv .dead, .cv .dead, .cv .dead, .cv .dead, .cv .dead, .cv .dead, .cv .dead], [], true⟩
noncomputable def i_upTo (k : Nat) (x : Int) : Option (List Int) := aFn E i_upTo_fi k x
noncomputable def i_upTo_l3 (k : Nat) (v0 : Int) (v4 : Int) (o100003 : List Int) : Option (List Int) := aRun E k i_upTo_fi.rs (ioOf i_upTo_fi.ps) i_upTo_fi.res i_upTo_fi.hints [.code (sub i_upTo_c [1, 1, 0, 1, 0, 0, 0, 0]), .code (sub i_upTo_c [1, 1, 0, 1, 0, 0, 0, 1]), .code (sub i_upTo_c [1, 1, 0, 1, 0, 0, 1]), .inLoop (sub i_upTo_c [1, 1, 0, 1, 0, 0]), .inBlock 0, .code (sub i_upTo_c [1, 1, 1])] ⟨[.cv (.val (.int .i64) v0), .cv .dead, .cv .dead, .cv (.own 100003), .cv (.val (.int .i64) v4), .cv .dead, .cv .dead, .cv .dead, .cv .dead, .cv .dead, .cv .dead, .cv .dead, .cv .dead, .cv .dead, .cv .dead], [(100003, .row (.int .i64) o100003 true true)], true⟩
noncomputable def i_riffled (k : Nat) (x : (List Int) × Int) : Option (List Int) := aFn E i_riffled_fi k x
noncomputable def i_riffled_l3 (k : Nat) (v0 : List Int) (v1 : Int) (v5 : Int) (v6 : Int) (v11 : Int) (v12 : Int) : Option (List Int) := aRun E k i_riffled_fi.rs (ioOf i_riffled_fi.ps) i_riffled_fi.res i_riffled_fi.hints [.code (sub i_riffled_c [1, 1, 0, 1, 0, 0, 0]), .code (sub i_riffled_c [1, 1, 0, 1, 0, 0, 1]), .inLoop (sub i_riffled_c [1, 1, 0, 1, 0, 0]), .inBlock 0, .code (sub i_riffled_c [1, 1, 1])] ⟨[.cv (.val (.slice (.int .i64)) v0), .cv (.val (.int .i64) v1), .cv .dead, .cv .dead, .cv .dead, .cv (.val (.int .i64) v5), .cv (.val (.int .i64) v6), .cv .dead, .cv .dead, .cv .dead, .cv .dead, .cv (.val (.int .i64) v11), .cv (.val (.int .i64) v12), .cv .dead, .cv .dead, .cv .dead, .cv .dead, .cv .dead, .cv .dead, .cv .dead, .cv .dead, .cv .dead, .cv .dead, .cv .dead, .cv .dead, .cv .dead, .cv .dead, .cv .dead, .cv .dead, .cv .dead, .cv .dead, .cv .dead, .cv .dead, .cv .dead, .cv .dead, .cv .dead, .cv .dead, .cv .dead, .cv .dead, .cv .dead, .cv .dead, .cv .dead, .cv .dead, .cv .dead, .cv .dead, .cv .dead, .cv .dead, .cv .dead, .cv .dead, .cv .dead, .cv .dead, .cv .dead, .cv .dead], [], true⟩
noncomputable def i_riffled_l9 (k : Nat) (v0 : List Int) (v1 : Int) (v5 : Int) (v6 : Int) (v24 : Int) (v25 : Int) (o100008 : List Int) : Option (List Int) := aRun E k i_riffled_fi.rs (ioOf i_riffled_fi.ps) i_riffled_fi.res i_riffled_fi.hints [.code (sub i_riffled_c [1, 1, 1, 1, 0, 1, 0, 0, 0]), .code (sub i_riffled_c [1, 1, 1, 1, 0, 1, 0, 0, 1]), .inLoop (sub i_riffled_c [1, 1, 1, 1, 0, 1, 0, 0]), .inBlock 2, .code (sub i_riffled_c [1, 1, 1, 1, 1])] ⟨[.cv (.val (.slice (.int .i64)) v0), .cv (.val (.int .i64) v1), .cv .dead, .cv .dead, .cv .dead, .cv (.val (.int .i64) v5), .cv (.val (.int .i64) v6), .cv .dead, .cv (.own 100008), .cv .dead, .cv .dead, .cv .dead, .cv .dead, .cv .dead, .cv .dead, .cv .dead, .cv .dead, .cv .dead, .cv .dead, .cv .dead, .cv .dead, .cv .dead, .cv .dead, .cv .dead, .cv (.val (.int .i64) v24), .cv (.val (.int .i64) v25), .cv .dead, .cv .dead, .cv .dead, .cv .dead, .cv .dead, .cv .dead, .cv .dead, .cv .dead, .cv .dead, .cv .dead, .cv .dead, .cv .dead, .cv .dead, .cv .dead, .cv .dead, .cv .dead, .cv .dead, .cv .dead, .cv .dead, .cv .dead, .cv .dead, .cv .dead, .cv .dead, .cv .dead, .cv .dead, .cv .dead, .cv .dead], [(100008, .row (.int .i64) o100008 true true)], true⟩
noncomputable def i_WaysWith (k : Nat) (x : Int × List Int) : Option (Int) := aFn E i_WaysWith_fi k x
noncomputable def i_WaysWith_l5 (k : Nat) (v0 : Int) (v1 : List Int) (v6 : Int) (v7 : Int) (o100005 : List Int) : Option (Int) := aRun E k i_WaysWith_fi.rs (ioOf i_WaysWith_fi.ps) i_WaysWith_fi.res i_WaysWith_fi.hints [.code (sub i_WaysWith_c [1, 1, 1, 0, 1, 0, 0, 0, 0]), .code (sub i_WaysWith_c [1, 1, 1, 0, 1, 0, 0, 0, 1]), .code (sub i_WaysWith_c [1, 1, 1, 0, 1, 0, 0, 1]), .inLoop (sub i_WaysWith_c [1, 1, 1, 0, 1, 0, 0]), .inBlock 0, .code (sub i_WaysWith_c [1, 1, 1, 1])] ⟨[.cv (.val (.int .i64) v0), .cv (.val (.slice (.int .i64)) v1), .cv .dead, .cv .dead, .cv .dead, .cv (.own 100005), .cv (.val (.int .i64) v6), .cv (.val (.int .i64) v7), .cv .dead, .cv .dead, .cv .dead, .cv .dead, .cv .dead, .cv .dead, .cv .dead, .cv .dead, .cv .dead, .cv .dead, .cv .dead, .cv .dead, .cv .dead, .cv .dead, .cv .dead, .cv .dead, .cv .dead, .cv .dead, .cv .dead, .cv .dead, .cv .dead, .cv .dead, .cv .dead], [(100005, .row (.int .i64) o100005 true true)], true⟩
noncomputable def w_FnExactWaysWith (k : Nat) (x : Int × List Int) : Option (Bool) := aFn E w_FnExactWaysWith_fi k x
noncomputable def w_szStepS (k : Nat) (x : (List (Int × (Int × Int) × Int)) × Int) : Option (Int) := aFn E w_szStepS_fi k x
noncomputable def w_szTrick (k : Nat) (x : ((List Int) × (List (Int × (Int × Int) × Int)) × Int × Int × Int) × Int) : Option (Int) := aFn E w_szTrick_fi k x
noncomputable def w_toStepS (k : Nat) (x : List (Int × (Int × Int) × Int)) : Option (List (Int × (Int × Int) × Int)) := aFn E w_toStepS_fi k x
noncomputable def w_toStepS_l3 (k : Nat) (v0 : List (Int × (Int × Int) × Int)) (v4 : Int) (o100003 : List (Int × (Int × Int) × Int)) : Option (List (Int × (Int × Int) × Int)) := aRun E k w_toStepS_fi.rs (ioOf w_toStepS_fi.ps) w_toStepS_fi.res w_toStepS_fi.hints [.code (sub w_toStepS_c [1, 1, 0, 1, 0, 0, 0, 0]), .code (sub w_toStepS_c [1, 1, 0, 1, 0, 0, 0, 1]), .code (sub w_toStepS_c [1, 1, 0, 1, 0, 0, 1]), .inLoop (sub w_toStepS_c [1, 1, 0, 1, 0, 0]), .inBlock 0, .code (sub w_toStepS_c [1, 1, 1])] ⟨[.cv (.val (.slice (.pair (.int .i64) (.pair (.pair (.int .i64) (.int .i64)) (.int .i64)))) v0), .cv .dead, .cv .dead, .cv (.own 100003), .cv (.val (.int .i64) v4), .cv .dead, .cv .dead, .cv .dead, .cv .dead, .cv .dead, .cv .dead, .cv .dead, .cv .dead, .cv .dead, .cv .dead, .cv .dead, .cv .dead, .cv .dead, .cv .dead, .cv .dead, .cv .dead, .cv .dead, .cv .dead], [(100003, .row (.pair (.int .i64) (.pair (.pair (.int .i64) (.int .i64)) (.int .i64))) o100003 true false)], true⟩
noncomputable def w_toTrick (k : Nat) (x : (List Int) × (List (Int × (Int × Int) × Int)) × Int × Int × Int) : Option ((List Int) × (List (Int × (Int × Int) × Int)) × Int × Int × Int) := aFn E w_toTrick_fi k x
noncomputable def s_SameTrick (k : Nat) (x : ((List Int) × (List (Int × (Int × Int) × Int)) × Int × Int × Int) × (List Int) × (List (Int × (Int × Int) × Int)) × Int × Int × Int) : Option (Bool) := aFn E s_SameTrick_fi k x
noncomputable def s_SameTrick_l4 (k : Nat) (v44 : List (Int × (Int × Int) × Int)) (v45 : Int) (v46 : Int) (o200003_0 : List Int) (o200003_1 : List (Int × (Int × Int) × Int)) (o200003_2 : Int) (o200003_3 : Int) (o200003_4 : Int) : Option (Bool) := aRun E k s_SameTrick_fi.rs (ioOf s_SameTrick_fi.ps) s_SameTrick_fi.res s_SameTrick_fi.hints [.code (sub s_SameTrick_c [1, 1, 0, 1, 0, 0, 0]), .code (sub s_SameTrick_c [1, 1, 0, 1, 0, 0, 1]), .inLoop (sub s_SameTrick_c [1, 1, 0, 1, 0, 0]), .inBlock 0, .code (sub s_SameTrick_c [1, 1, 1])] ⟨[.cv .dead, .cv .dead, .cv .dead, .adr 200003 0, .cv .dead, .cv .dead, .cv .dead, .cv .dead, .cv .dead, .cv .dead, .cv .dead, .cv .dead, .cv .dead, .cv .dead, .cv .dead, .cv .dead, .cv .dead, .cv .dead, .cv .dead, .cv .dead, .cv .dead, .cv .dead, .cv .dead, .cv .dead, .cv .dead, .cv .dead, .cv .dead, .cv .dead, .cv .dead, .cv .dead, .cv .dead, .cv .dead, .cv .dead, .cv .dead, .cv .dead, .cv .dead, .cv .dead, .cv .dead, .cv .dead, .cv .dead, .cv .dead, .cv .dead, .cv .dead, .cv .dead, .cv (.val (.slice (.pair (.int .i64) (.pair (.pair (.int .i64) (.int .i64)) (.int .i64)))) v44), .cv (.val (.int .i64) v45), .cv (.val (.int .i64) v46), .cv .dead, .cv .dead, .cv .dead, .cv .dead, .cv .dead, .cv .dead, .cv .dead, .cv .dead, .cv .dead, .cv .dead, .cv .dead, .cv .dead], [(200003, .box [.val (.slice (.int .i64)) o200003_0, .val (.slice (.pair (.int .i64) (.pair (.pair (.int .i64) (.int .i64)) (.int .i64)))) o200003_1, .val (.int .i64) o200003_2, .val (.int .i64) o200003_3, .val (.int .i64) o200003_4])], true⟩
noncomputable def slices_Equal_i_Step (k : Nat) (x : (List (Int × (Int × Int) × Int)) × List (Int × (Int × Int) × Int)) : Option (Bool) := aFn E slices_Equal_i_Step_fi k x
noncomputable def slices_Equal_i_Step_l4 (k : Nat) (v0 : List (Int × (Int × Int) × Int)) (v1 : List (Int × (Int × Int) × Int)) (v12 : Int) (v13 : Int) : Option (Bool) := aRun E k slices_Equal_i_Step_fi.rs (ioOf slices_Equal_i_Step_fi.ps) slices_Equal_i_Step_fi.res slices_Equal_i_Step_fi.hints [.code (sub slices_Equal_i_Step_c [1, 1, 0, 1, 0, 0, 0]), .code (sub slices_Equal_i_Step_c [1, 1, 0, 1, 0, 0, 1]), .inLoop (sub slices_Equal_i_Step_c [1, 1, 0, 1, 0, 0]), .inBlock 0, .code (sub slices_Equal_i_Step_c [1, 1, 1])] ⟨[.cv (.val (.slice (.pair (.int .i64) (.pair (.pair (.int .i64) (.int .i64)) (.int .i64)))) v0), .cv (.val (.slice (.pair (.int .i64) (.pair (.pair (.int .i64) (.int .i64)) (.int .i64)))) v1), .cv .dead, .cv .dead, .cv .dead, .cv .dead, .cv .dead, .cv .dead, .cv .dead, .cv .dead, .cv .dead, .cv .dead, .cv (.val (.int .i64) v12), .cv (.val (.int .i64) v13), .cv .dead, .cv .dead, .cv .dead, .cv .dead, .cv .dead, .cv .dead, .cv .dead, .cv .dead, .cv .dead, .cv .dead, .cv .dead, .cv .dead], [], true⟩
noncomputable def i_SameTrick (k : Nat) (x : ((List Int) × (List (Int × (Int × Int) × Int)) × Int × Int × Int) × (List Int) × (List (Int × (Int × Int) × Int)) × Int × Int × Int) : Option (Bool) := aFn E i_SameTrick_fi k x
noncomputable def w_eqMove (k : Nat) (x : (Int × Int) × Int × Int) : Option (Bool) := aFn E w_eqMove_fi k x
noncomputable def w_eqStep (k : Nat) (x : (Int × (Int × Int) × Int) × Int × (Int × Int) × Int) : Option (Bool) := aFn E w_eqStep_fi k x
noncomputable def w_eqStepS (k : Nat) (x : (List (Int × (Int × Int) × Int)) × List (Int × (Int × Int) × Int)) : Option (Bool) := aFn E w_eqStepS_fi k x
noncomputable def w_eqStepS_l4 (k : Nat) (v0 : List (Int × (Int × Int) × Int)) (v1 : List (Int × (Int × Int) × Int)) (v5 : Int) : Option (Bool) := aRun E k w_eqStepS_fi.rs (ioOf w_eqStepS_fi.ps) w_eqStepS_fi.res w_eqStepS_fi.hints [.code (sub w_eqStepS_c [1, 1, 0, 1, 0, 0, 0, 0]), .code (sub w_eqStepS_c [1, 1, 0, 1, 0, 0, 0, 1]), .code (sub w_eqStepS_c [1, 1, 0, 1, 0, 0, 1]), .inLoop (sub w_eqStepS_c [1, 1, 0, 1, 0, 0]), .inBlock 0, .code (sub w_eqStepS_c [1, 1, 1])] ⟨[.cv (.val (.slice (.pair (.int .i64) (.pair (.pair (.int .i64) (.int .i64)) (.int .i64)))) v0), .cv (.val (.slice (.pair (.int .i64) (.pair (.pair (.int .i64) (.int .i64)) (.int .i64)))) v1), .cv .dead, .cv .dead, .cv .dead, .cv (.val (.int .i64) v5), .cv .dead, .cv .dead, .cv .dead, .cv .dead, .cv .dead, .cv .dead, .cv .dead, .cv .dead, .cv .dead, .cv .dead, .cv .dead, .cv .dead, .cv .dead, .cv .dead, .cv .dead, .cv .dead, .cv .dead, .cv .dead, .cv .dead, .cv .dead, .cv .dead], [], true⟩
noncomputable def w_eqTrick (k : Nat) (x : ((List Int) × (List (Int × (Int × Int) × Int)) × Int × Int × Int) × (List Int) × (List (Int × (Int × Int) × Int)) × Int × Int × Int) : Option (Bool) := aFn E w_eqTrick_fi k x
noncomputable def w_FnExactSameTrick (k : Nat) (x : ((List Int) × (List (Int × (Int × Int) × Int)) × Int × Int × Int) × (List Int) × (List (Int × (Int × Int) × Int)) × Int × Int × Int) : Option (Bool) := aFn E w_FnExactSameTrick_fi k x
noncomputable def s_NextWays (k : Nat) (x : Int × List Int) : Option (List Int) := aFn E s_NextWays_fi k x
noncomputable def s_NextWays_l5 (k : Nat) (v0 : Int) (v1 : List Int) (v6 : Int) (o100005 : List Int) : Option (List Int) := aRun E k s_NextWays_fi.rs (ioOf s_NextWays_fi.ps) s_NextWays_fi.res s_NextWays_fi.hints [.code (sub s_NextWays_c [1, 1, 1, 0, 1, 0, 0, 0, 0]), .code (sub s_NextWays_c [1, 1, 1, 0, 1, 0, 0, 0, 1]), .code (sub s_NextWays_c [1, 1, 1, 0, 1, 0, 0, 1]), .inLoop (sub s_NextWays_c [1, 1, 1, 0, 1, 0, 0]), .inBlock 0, .code (sub s_NextWays_c [1, 1, 1, 1])] ⟨[.cv (.val (.int .i64) v0), .cv (.val (.slice (.int .i64)) v1), .cv .dead, .cv .dead, .cv .dead, .cv (.own 100005), .cv (.val (.int .i64) v6), .cv .dead, .cv .dead, .cv .dead, .cv .dead, .cv .dead, .cv .dead, .cv .dead, .cv .dead, .cv .dead, .cv .dead, .cv .dead, .cv .dead, .cv .dead, .cv .dead, .cv .dead, .cv .dead, .cv .dead, .cv .dead, .cv .dead, .cv .dead, .cv .dead, .cv .dead, .cv .dead, .cv .dead, .cv .dead, .cv .dead, .cv .dead, .cv .dead, .cv .dead, .cv .dead, .cv .dead, .cv .dead, .cv .dead, .cv .dead], [(100005, .row (.int .i64) o100005 true false)], true⟩
noncomputable def i_NextWays (k : Nat) (x : Int × List Int) : Option (List Int) := aFn E i_NextWays_fi k x
noncomputable def i_NextWays_l5 (k : Nat) (v0 : Int) (v1 : List Int) (v7 : Int) (o100005 : List Int) (o100006 : List Int) : Option (List Int) := aRun E k i_NextWays_fi.rs (ioOf i_NextWays_fi.ps) i_NextWays_fi.res i_NextWays_fi.hints [.code (sub i_NextWays_c [1, 1, 1, 0, 1, 0, 0, 0, 0]), .code (sub i_NextWays_c [1, 1, 1, 0, 1, 0, 0, 0, 1]), .code (sub i_NextWays_c [1, 1, 1, 0, 1, 0, 0, 1]), .inLoop (sub i_NextWays_c [1, 1, 1, 0, 1, 0, 0]), .inBlock 0, .code (sub i_NextWays_c [1, 1, 1, 1])] ⟨[.cv (.val (.int .i64) v0), .cv (.val (.slice (.int .i64)) v1), .cv .dead, .cv .dead, .cv .dead, .cv (.own 100005), .cv (.own 100006), .cv (.val (.int .i64) v7), .cv .dead, .cv .dead, .cv .dead, .cv .dead, .cv .dead, .cv .dead, .cv .dead, .cv .dead, .cv .dead, .cv .dead, .cv .dead, .cv .dead, .cv .dead, .cv .dead, .cv .dead, .cv .dead, .cv .dead, .cv .dead, .cv .dead, .cv .dead, .cv .dead, .cv .dead, .cv .dead, .cv .dead, .cv .dead, .cv .dead, .cv .dead, .cv .dead, .cv .dead, .cv .dead, .cv .dead, .cv .dead, .cv .dead, .cv .dead, .cv .dead, .cv .dead, .cv .dead, .cv .dead, .cv .dead, .cv .dead, .cv .dead], [(100005, .row (.int .i64) o100005 true true), (100006, .row (.int .i64) o100006 true false)], true⟩
noncomputable def w_markIntS (k : Nat) (x : (List Int) × Int) : Option ((Int) × List Int) := aFn E w_markIntS_fi k x
noncomputable def w_markIntS_l2 (k : Nat) (v1 : Int) (v5 : Int) (o500000 : List Int) : Option ((Int) × List Int) := aRun E k w_markIntS_fi.rs (ioOf w_markIntS_fi.ps) w_markIntS_fi.res w_markIntS_fi.hints [.code (sub w_markIntS_c [1, 0, 1, 0, 0, 0, 0]), .code (sub w_markIntS_c [1, 0, 1, 0, 0, 0, 1]), .code (sub w_markIntS_c [1, 0, 1, 0, 0, 1]), .inLoop (sub w_markIntS_c [1, 0, 1, 0, 0]), .inBlock 0, .code (sub w_markIntS_c [1, 1])] ⟨[.cv (.own 500000), .cv (.val (.int .i64) v1), .cv .dead, .cv .dead, .cv .dead, .cv (.val (.int .i64) v5), .cv .dead, .cv .dead, .cv .dead, .cv .dead, .cv .dead, .cv .dead, .cv .dead, .cv .dead, .cv .dead, .cv .dead, .cv .dead, .cv .dead, .cv .dead], [(500000, .row (.int .i64) o500000 true false)], true⟩
noncomputable def w_heldIntS (k : Nat) (x : (List Int) × Int) : Option (Int) := aFn E w_heldIntS_fi k x
noncomputable def w_heldIntS_l2 (k : Nat) (v0 : List Int) (v1 : Int) (v5 : Int) : Option (Int) := aRun E k w_heldIntS_fi.rs (ioOf w_heldIntS_fi.ps) w_heldIntS_fi.res w_heldIntS_fi.hints [.code (sub w_heldIntS_c [1, 0, 1, 0, 0, 0, 0]), .code (sub w_heldIntS_c [1, 0, 1, 0, 0, 0, 1]), .code (sub w_heldIntS_c [1, 0, 1, 0, 0, 1]), .inLoop (sub w_heldIntS_c [1, 0, 1, 0, 0]), .inBlock 0, .code (sub w_heldIntS_c [1, 1])] ⟨[.cv (.val (.slice (.int .i64)) v0), .cv (.val (.int .i64) v1), .cv .dead, .cv .dead, .cv .dead, .cv (.val (.int .i64) v5), .cv .dead, .cv .dead, .cv .dead, .cv .dead, .cv .dead, .cv .dead, .cv .dead, .cv .dead, .cv .dead, .cv .dead, .cv .dead, .cv .dead, .cv .dead, .cv .dead, .cv .dead], [], true⟩
noncomputable def w_FnExactNextWays (k : Nat) (x : Int × List Int) : Option (Bool) := aFn E w_FnExactNextWays_fi k x
noncomputable def s_BestGuess (k : Nat) (x : Int × List Int) : Option (Int) := aFn E s_BestGuess_fi k x
noncomputable def s_BestGuess_l4 (k : Nat) (v5 : Int) (v6 : Int) (v12 : Int) (v13 : Int) (o100011 : List Int) : Option (Int) := aRun E k s_BestGuess_fi.rs (ioOf s_BestGuess_fi.ps) s_BestGuess_fi.res s_BestGuess_fi.hints [.code (sub s_BestGuess_c [1, 1, 1, 0, 1, 0, 0, 0]), .code (sub s_BestGuess_c [1, 1, 1, 0, 1, 0, 0, 1]), .inLoop (sub s_BestGuess_c [1, 1, 1, 0, 1, 0, 0]), .inBlock 0, .code (sub s_BestGuess_c [1, 1, 1, 1])] ⟨[.cv .dead, .cv .dead, .cv .dead, .cv .dead, .cv .dead, .cv (.val (.int .i64) v5), .cv (.val (.int .i64) v6), .cv .dead, .cv .dead, .cv .dead, .cv .dead, .cv (.own 100011), .cv (.val (.int .i64) v12), .cv (.val (.int .i64) v13), .cv .dead, .cv .dead, .cv .dead, .cv .dead, .cv .dead, .cv .dead, .cv .dead, .cv .dead, .cv .dead, .cv .dead, .cv .dead], [(100011, .row (.int .i64) o100011 true true)], true⟩
noncomputable def slices_Max_int (k : Nat) (x : List Int) : Option (Int) := aFn E slices_Max_int_fi k x
noncomputable def slices_Max_int_l5 (k : Nat) (v0 : List Int) (v3 : Int) (v4 : Int) : Option (Int) := aRun E k slices_Max_int_fi.rs (ioOf slices_Max_int_fi.ps) slices_Max_int_fi.res slices_Max_int_fi.hints [.code (sub slices_Max_int_c [1, 1, 1, 0, 1, 0, 0, 0, 0]), .code (sub slices_Max_int_c [1, 1, 1, 0, 1, 0, 0, 0, 1]), .code (sub slices_Max_int_c [1, 1, 1, 0, 1, 0, 0, 1]), .inLoop (sub slices_Max_int_c [1, 1, 1, 0, 1, 0, 0]), .inBlock 0, .code (sub slices_Max_int_c [1, 1, 1, 1])] ⟨[.cv (.val (.slice (.int .i64)) v0), .cv .dead, .cv .dead, .cv (.val (.int .i64) v3), .cv (.val (.int .i64) v4), .cv .dead, .cv .dead, .cv .dead, .cv .dead, .cv .dead, .cv .dead, .cv .dead, .cv .dead, .cv .dead, .cv .dead, .cv .dead, .cv .dead, .cv .dead, .cv .dead, .cv .dead, .cv .dead, .cv .dead, .cv .dead, .cv .dead, .cv .dead], [], true⟩
noncomputable def i_BestGuess (k : Nat) (x : Int × List Int) : Option (Int) := aFn E i_BestGuess_fi k x
noncomputable def w_FnExactBestGuess (k : Nat) (x : Int × List Int) : Option (Bool) := aFn E w_FnExactBestGuess_fi k x
noncomputable def s_l19Total (k : Nat) (x : Int × List Int) : Option (Int) := aFn E s_l19Total_fi k x
noncomputable def s_l19Total_l5 (k : Nat) (v0 : Int) (v1 : List Int) (v6 : Int) (v7 : Int) (v14 : Int) (v15 : Int) (o100013 : List Int) : Option (Int) := aRun E k s_l19Total_fi.rs (ioOf s_l19Total_fi.ps) s_l19Total_fi.res s_l19Total_fi.hints [.code (sub s_l19Total_c [1, 1, 1, 1, 0, 1, 0, 0, 0]), .code (sub s_l19Total_c [1, 1, 1, 1, 0, 1, 0, 0, 1]), .inLoop (sub s_l19Total_c [1, 1, 1, 1, 0, 1, 0, 0]), .inBlock 0, .code (sub s_l19Total_c [1, 1, 1, 1, 1])] ⟨[.cv (.val (.int .i64) v0), .cv (.val (.slice (.int .i64)) v1), .cv .dead, .cv .dead, .cv .dead, .cv .dead, .cv (.val (.int .i64) v6), .cv (.val (.int .i64) v7), .cv .dead, .cv .dead, .cv .dead, .cv .dead, .cv .dead, .cv (.own 100013), .cv (.val (.int .i64) v14), .cv (.val (.int .i64) v15), .cv .dead, .cv .dead, .cv .dead, .cv .dead, .cv .dead, .cv .dead, .cv .dead, .cv .dead, .cv .dead, .cv .dead, .cv .dead, .cv .dead, .cv .dead, .cv .dead, .cv .dead, .cv .dead, .cv .dead, .cv .dead, .cv .dead, .cv .dead, .cv .dead, .cv .dead, .cv .dead], [(100013, .row (.int .i64) o100013 true true)], true⟩
noncomputable def s_GuessTotal (k : Nat) (x : Int) : Option (Int) := aFn E s_GuessTotal_fi k x
noncomputable def slices_Clone_int (k : Nat) (x : List Int) : Option (List Int) := aFn E slices_Clone_int_fi k x
noncomputable def i_total (k : Nat) (x : Int × List Int) : Option (Int) := aFn E i_total_fi k x
noncomputable def i_total_l6 (k : Nat) (v0 : Int) (v1 : List Int) (v6 : Int) (v17 : Int) (v18 : Int) (o100016 : List Int) : Option (Int) := aRun E k i_total_fi.rs (ioOf i_total_fi.ps) i_total_fi.res i_total_fi.hints [.code (sub i_total_c [1, 1, 1, 1, 0, 1, 0, 0, 0]), .code (sub i_total_c [1, 1, 1, 1, 0, 1, 0, 0, 1]), .inLoop (sub i_total_c [1, 1, 1, 1, 0, 1, 0, 0]), .inBlock 0, .code (sub i_total_c [1, 1, 1, 1, 1])] ⟨[.cv (.val (.int .i64) v0), .cv (.val (.slice (.int .i64)) v1), .cv .dead, .cv .dead, .cv .dead, .cv .dead, .cv (.val (.int .i64) v6), .cv .dead, .cv .dead, .cv .dead, .cv .dead, .cv .dead, .cv .dead, .cv .dead, .cv .dead, .cv .dead, .cv (.own 100016), .cv (.val (.int .i64) v17), .cv (.val (.int .i64) v18), .cv .dead, .cv .dead, .cv .dead, .cv .dead, .cv .dead, .cv .dead, .cv .dead, .cv .dead, .cv .dead, .cv .dead, .cv .dead, .cv .dead, .cv .dead, .cv .dead, .cv .dead, .cv .dead, .cv .dead], [(100016, .row (.int .i64) o100016 true true)], true⟩
noncomputable def i_GuessTotal (k : Nat) (x : Int) : Option (Int) := aFn E i_GuessTotal_fi k x
noncomputable def w_FnExactGuessTotal (k : Nat) (x : Int) : Option (Bool) := aFn E w_FnExactGuessTotal_fi k x
noncomputable def w_szIntSS (k : Nat) (x : (List (List Int)) × Int) : Option (Int) := aFn E w_szIntSS_fi k x
noncomputable def w_szIntSS_l5 (k : Nat) (v0 : List (List Int)) (v1 : Int) (v5 : Int) : Option (Int) := aRun E k w_szIntSS_fi.rs (ioOf w_szIntSS_fi.ps) w_szIntSS_fi.res w_szIntSS_fi.hints [.code (sub w_szIntSS_c [1, 1, 1, 0, 1, 0, 0, 0, 0]), .code (sub w_szIntSS_c [1, 1, 1, 0, 1, 0, 0, 0, 1]), .code (sub w_szIntSS_c [1, 1, 1, 0, 1, 0, 0, 1]), .inLoop (sub w_szIntSS_c [1, 1, 1, 0, 1, 0, 0]), .inBlock 0, .code (sub w_szIntSS_c [1, 1, 1, 1])] ⟨[.cv (.val (.slice (.slice (.int .i64))) v0), .cv (.val (.int .i64) v1), .cv .dead, .cv .dead, .cv .dead, .cv (.val (.int .i64) v5), .cv .dead, .cv .dead, .cv .dead, .cv .dead, .cv .dead, .cv .dead, .cv .dead, .cv .dead, .cv .dead, .cv .dead, .cv .dead, .cv .dead, .cv .dead, .cv .dead, .cv .dead, .cv .dead, .cv .dead, .cv .dead, .cv .dead, .cv .dead, .cv .dead], [], true⟩
noncomputable def w_toIntSS (k : Nat) (x : List (List Int)) : Option (List (List Int)) := aFn E w_toIntSS_fi k x
noncomputable def w_toIntSS_l3 (k : Nat) (v0 : List (List Int)) (v4 : Int) (o100003 : List (List Int)) : Option (List (List Int)) := aRun E k w_toIntSS_fi.rs (ioOf w_toIntSS_fi.ps) w_toIntSS_fi.res w_toIntSS_fi.hints [.code (sub w_toIntSS_c [1, 1, 0, 1, 0, 0, 0, 0]), .code (sub w_toIntSS_c [1, 1, 0, 1, 0, 0, 0, 1]), .code (sub w_toIntSS_c [1, 1, 0, 1, 0, 0, 1]), .inLoop (sub w_toIntSS_c [1, 1, 0, 1, 0, 0]), .inBlock 0, .code (sub w_toIntSS_c [1, 1, 1])] ⟨[.cv (.val (.slice (.slice (.int .i64))) v0), .cv .dead, .cv .dead, .cv (.own 100003), .cv (.val (.int .i64) v4), .cv .dead, .cv .dead, .cv .dead, .cv .dead, .cv .dead, .cv .dead, .cv .dead, .cv .dead, .cv .dead, .cv .dead, .cv .dead, .cv .dead, .cv .dead, .cv .dead, .cv .dead, .cv .dead, .cv .dead, .cv .dead], [(100003, .row (.slice (.int .i64)) o100003 true false)], true⟩
noncomputable def s_CardOf (k : Nat) (x : Int) : Option (Int) := aFn E s_CardOf_fi k x
noncomputable def s_PacketOk (k : Nat) (x : List Int) : Option (Bool) := aFn E s_PacketOk_fi k x
noncomputable def s_PacketOk_l5 (k : Nat) (v11 : List Int) (v12 : Int) (v13 : Int) (o100003 : List Int) : Option (Bool) := aRun E k s_PacketOk_fi.rs (ioOf s_PacketOk_fi.ps) s_PacketOk_fi.res s_PacketOk_fi.hints [.code (sub s_PacketOk_c [1, 1, 1, 0, 1, 0, 0, 0]), .code (sub s_PacketOk_c [1, 1, 1, 0, 1, 0, 0, 1]), .inLoop (sub s_PacketOk_c [1, 1, 1, 0, 1, 0, 0]), .inBlock 0, .code (sub s_PacketOk_c [1, 1, 1, 1])] ⟨[.cv .dead, .cv .dead, .cv .dead, .cv (.own 100003), .cv .dead, .cv .dead, .cv .dead, .cv .dead, .cv .dead, .cv .dead, .cv .dead, .cv (.val (.slice (.int .i64)) v11), .cv (.val (.int .i64) v12), .cv (.val (.int .i64) v13), .cv .dead, .cv .dead, .cv .dead, .cv .dead, .cv .dead, .cv .dead, .cv .dead, .cv .dead, .cv .dead, .cv .dead, .cv .dead, .cv .dead, .cv .dead, .cv .dead, .cv .dead, .cv .dead, .cv .dead], [(100003, .row (.int .i64) o100003 true false)], true⟩
noncomputable def s_PositionOf (k : Nat) (x : (List Int) × Int) : Option (Int) := aFn E s_PositionOf_fi k x
noncomputable def s_PositionOf_l2 (k : Nat) (v1 : Int) (v7 : List Int) (v8 : Int) (v9 : Int) : Option (Int) := aRun E k s_PositionOf_fi.rs (ioOf s_PositionOf_fi.ps) s_PositionOf_fi.res s_PositionOf_fi.hints [.code (sub s_PositionOf_c [1, 0, 1, 0, 0, 0]), .code (sub s_PositionOf_c [1, 0, 1, 0, 0, 1]), .inLoop (sub s_PositionOf_c [1, 0, 1, 0, 0]), .inBlock 0, .code (sub s_PositionOf_c [1, 1])] ⟨[.cv .dead, .cv (.val (.int .i64) v1), .cv .dead, .cv .dead, .cv .dead, .cv .dead, .cv .dead, .cv (.val (.slice (.int .i64)) v7), .cv (.val (.int .i64) v8), .cv (.val (.int .i64) v9), .cv .dead, .cv .dead, .cv .dead, .cv .dead, .cv .dead, .cv .dead, .cv .dead, .cv .dead, .cv .dead, .cv .dead, .cv .dead, .cv .dead, .cv .dead, .cv .dead], [], true⟩
noncomputable def s_IsArrangement (k : Nat) (x : (List Int) × List Int) : Option (Bool) := aFn E s_IsArrangement_fi k x
noncomputable def s_IsArrangement_l4 (k : Nat) (v1 : List Int) (v22 : List Int) (v23 : Int) (v24 : Int) : Option (Bool) := aRun E k s_IsArrangement_fi.rs (ioOf s_IsArrangement_fi.ps) s_IsArrangement_fi.res s_IsArrangement_fi.hints [.code (sub s_IsArrangement_c [1, 1, 0, 1, 0, 0, 0]), .code (sub s_IsArrangement_c [1, 1, 0, 1, 0, 0, 1]), .inLoop (sub s_IsArrangement_c [1, 1, 0, 1, 0, 0]), .inBlock 0, .code (sub s_IsArrangement_c [1, 1, 1])] ⟨[.cv .dead, .cv (.val (.slice (.int .i64)) v1), .cv .dead, .cv .dead, .cv .dead, .cv .dead, .cv .dead, .cv .dead, .cv .dead, .cv .dead, .cv .dead, .cv .dead, .cv .dead, .cv .dead, .cv .dead, .cv .dead, .cv .dead, .cv .dead, .cv .dead, .cv .dead, .cv .dead, .cv .dead, .cv (.val (.slice (.int .i64)) v22), .cv (.val (.int .i64) v23), .cv (.val (.int .i64) v24), .cv .dead, .cv .dead, .cv .dead, .cv .dead, .cv .dead, .cv .dead, .cv .dead, .cv .dead, .cv .dead], [], true⟩
noncomputable def s_l05Less (k : Nat) (x : (List Int) × List Int) : Option (Bool) := aFn E s_l05Less_fi k x
noncomputable def s_l05Less_l2 (k : Nat) (v0 : List Int) (v1 : List Int) (v7 : List Int) (v8 : Int) (v9 : Int) : Option (Bool) := aRun E k s_l05Less_fi.rs (ioOf s_l05Less_fi.ps) s_l05Less_fi.res s_l05Less_fi.hints [.code (sub s_l05Less_c [1, 0, 1, 0, 0, 0]), .code (sub s_l05Less_c [1, 0, 1, 0, 0, 1]), .inLoop (sub s_l05Less_c [1, 0, 1, 0, 0]), .inBlock 0, .code (sub s_l05Less_c [1, 1])] ⟨[.cv (.val (.slice (.int .i64)) v0), .cv (.val (.slice (.int .i64)) v1), .cv .dead, .cv .dead, .cv .dead, .cv .dead, .cv .dead, .cv (.val (.slice (.int .i64)) v7), .cv (.val (.int .i64) v8), .cv (.val (.int .i64) v9), .cv .dead, .cv .dead, .cv .dead, .cv .dead, .cv .dead, .cv .dead, .cv .dead, .cv .dead, .cv .dead, .cv .dead, .cv .dead, .cv .dead, .cv .dead, .cv .dead, .cv .dead, .cv .dead, .cv .dead, .cv .dead, .cv .dead, .cv .dead, .cv .dead, .cv .dead, .cv .dead, .cv .dead, .cv .dead, .cv .dead], [], true⟩
noncomputable def s_KnowOk (k : Nat) (x : List (List Int)) : Option (Bool) := aFn E s_KnowOk_fi k x
noncomputable def s_KnowOk_l4 (k : Nat) (v0 : List (List Int)) (v16 : List (List Int)) (v17 : Int) (v18 : Int) : Option (Bool) := aRun E k s_KnowOk_fi.rs (ioOf s_KnowOk_fi.ps) s_KnowOk_fi.res s_KnowOk_fi.hints [.code (sub s_KnowOk_c [1, 1, 0, 1, 0, 0, 0]), .code (sub s_KnowOk_c [1, 1, 0, 1, 0, 0, 1]), .inLoop (sub s_KnowOk_c [1, 1, 0, 1, 0, 0]), .inBlock 0, .code (sub s_KnowOk_c [1, 1, 1])] ⟨[.cv (.val (.slice (.slice (.int .i64))) v0), .cv .dead, .cv .dead, .cv .dead, .cv .dead, .cv .dead, .cv .dead, .cv .dead, .cv .dead, .cv .dead, .cv .dead, .cv .dead, .cv .dead, .cv .dead, .cv .dead, .cv .dead, .cv (.val (.slice (.slice (.int .i64))) v16), .cv (.val (.int .i64) v17), .cv (.val (.int .i64) v18), .cv .dead, .cv .dead, .cv .dead, .cv .dead, .cv .dead, .cv .dead, .cv .dead, .cv .dead, .cv .dead, .cv .dead, .cv .dead, .cv .dead, .cv .dead, .cv .dead, .cv .dead, .cv .dead, .cv .dead, .cv .dead, .cv .dead, .cv .dead, .cv .dead, .cv .dead, .cv .dead, .cv .dead, .cv .dead], [], true⟩
noncomputable def s_KnownAt (k : Nat) (x : (List (List Int)) × Int) : Option (Int) := aFn E s_KnownAt_fi k x
noncomputable def s_KnownAt_l4 (k : Nat) (v0 : List (List Int)) (v1 : Int) (v20 : List (List Int)) (v21 : Int) (v22 : Int) : Option (Int) := aRun E k s_KnownAt_fi.rs (ioOf s_KnownAt_fi.ps) s_KnownAt_fi.res s_KnownAt_fi.hints [.code (sub s_KnownAt_c [1, 1, 0, 1, 0, 0, 0]), .code (sub s_KnownAt_c [1, 1, 0, 1, 0, 0, 1]), .inLoop (sub s_KnownAt_c [1, 1, 0, 1, 0, 0]), .inBlock 0, .code (sub s_KnownAt_c [1, 1, 1])] ⟨[.cv (.val (.slice (.slice (.int .i64))) v0), .cv (.val (.int .i64) v1), .cv .dead, .cv .dead, .cv .dead, .cv .dead, .cv .dead, .cv .dead, .cv .dead, .cv .dead, .cv .dead, .cv .dead, .cv .dead, .cv .dead, .cv .dead, .cv .dead, .cv .dead, .cv .dead, .cv .dead, .cv .dead, .cv (.val (.slice (.slice (.int .i64))) v20), .cv (.val (.int .i64) v21), .cv (.val (.int .i64) v22), .cv .dead, .cv .dead, .cv .dead, .cv .dead, .cv .dead, .cv .dead, .cv .dead, .cv .dead, .cv .dead, .cv .dead, .cv .dead, .cv .dead, .cv .dead, .cv .dead, .cv .dead, .cv .dead, .cv .dead, .cv .dead, .cv .dead, .cv .dead, .cv .dead, .cv .dead, .cv .dead, .cv .dead], [], true⟩
noncomputable def i_CardOf (k : Nat) (x : Int) : Option (Int) := aFn E i_CardOf_fi k x
noncomputable def i_PacketOk (k : Nat) (x : List Int) : Option (Bool) := aFn E i_PacketOk_fi k x
noncomputable def i_PacketOk_l3 (k : Nat) (v7 : List Int) (v8 : Int) (v9 : Int) (o400003 : List Bool) : Option (Bool) := aRun E k i_PacketOk_fi.rs (ioOf i_PacketOk_fi.ps) i_PacketOk_fi.res i_PacketOk_fi.hints [.code (sub i_PacketOk_c [1, 1, 0, 1, 0, 0, 0]), .code (sub i_PacketOk_c [1, 1, 0, 1, 0, 0, 1]), .inLoop (sub i_PacketOk_c [1, 1, 0, 1, 0, 0]), .inBlock 0, .code (sub i_PacketOk_c [1, 1, 1])] ⟨[.cv .dead, .cv .dead, .cv .dead, .adr 400003 0, .cv .dead, .cv .dead, .cv .dead, .cv (.val (.slice (.int .i64)) v7), .cv (.val (.int .i64) v8), .cv (.val (.int .i64) v9), .cv .dead, .cv .dead, .cv .dead, .cv .dead, .cv .dead, .cv .dead, .cv .dead, .cv .dead, .cv .dead, .cv .dead, .cv .dead, .cv .dead, .cv .dead, .cv .dead, .cv .dead], [(400003, .arr (.bool) o400003)], true⟩
noncomputable def i_PositionOf_1 (k : Nat) (x : Int × Int) : Option (Bool) := aFn E i_PositionOf_1_fi k x
noncomputable def slices_IndexFunc_int_of_i_PositionOf_1 (k : Nat) (x : (List Int) × Int) : Option (Int) := aFn E slices_IndexFunc_int_of_i_PositionOf_1_fi k x
noncomputable def slices_IndexFunc_int_of_i_PositionOf_1_l2 (k : Nat) (v0 : List Int) (v1_0_0 : Int) (v7 : Int) (v8 : Int) : Option (Int) := aRun E k slices_IndexFunc_int_of_i_PositionOf_1_fi.rs (ioOf slices_IndexFunc_int_of_i_PositionOf_1_fi.ps) slices_IndexFunc_int_of_i_PositionOf_1_fi.res slices_IndexFunc_int_of_i_PositionOf_1_fi.hints [.code (sub slices_IndexFunc_int_of_i_PositionOf_1_c [1, 0, 1, 0, 0, 0]), .code (sub slices_IndexFunc_int_of_i_PositionOf_1_c [1, 0, 1, 0, 0, 1]), .inLoop (sub slices_IndexFunc_int_of_i_PositionOf_1_c [1, 0, 1, 0, 0]), .inBlock 0, .code (sub slices_IndexFunc_int_of_i_PositionOf_1_c [1, 1])] ⟨[.cv (.val (.slice (.int .i64)) v0), .fn 96 [[.val (.int .i64) v1_0_0]], .cv .dead, .cv .dead, .cv .dead, .cv .dead, .cv .dead, .cv (.val (.int .i64) v7), .cv (.val (.int .i64) v8), .cv .dead, .cv .dead, .cv .dead, .cv .dead, .cv .dead, .cv .dead, .cv .dead, .cv .dead, .cv .dead, .cv .dead], [], true⟩
noncomputable def i_PositionOf (k : Nat) (x : (List Int) × Int) : Option (Int) := aFn E i_PositionOf_fi k x
noncomputable def i_IsArrangement_1 (k : Nat) (x : Int × List Int) : Option (Bool) := aFn E i_IsArrangement_1_fi k x
noncomputable def slices_IndexFunc_int_of_i_IsArrangement_1 (k : Nat) (x : (List Int) × List Int) : Option (Int) := aFn E slices_IndexFunc_int_of_i_IsArrangement_1_fi k x
noncomputable def slices_IndexFunc_int_of_i_IsArrangement_1_l2 (k : Nat) (v0 : List Int) (v1_0_0 : List Int) (v7 : Int) (v8 : Int) : Option (Int) := aRun E k slices_IndexFunc_int_of_i_IsArrangement_1_fi.rs (ioOf slices_IndexFunc_int_of_i_IsArrangement_1_fi.ps) slices_IndexFunc_int_of_i_IsArrangement_1_fi.res slices_IndexFunc_int_of_i_IsArrangement_1_fi.hints [.code (sub slices_IndexFunc_int_of_i_IsArrangement_1_c [1, 0, 1, 0, 0, 0]), .code (sub slices_IndexFunc_int_of_i_IsArrangement_1_c [1, 0, 1, 0, 0, 1]), .inLoop (sub slices_IndexFunc_int_of_i_IsArrangement_1_c [1, 0, 1, 0, 0]), .inBlock 0, .code (sub slices_IndexFunc_int_of_i_IsArrangement_1_c [1, 1])] ⟨[.cv (.val (.slice (.int .i64)) v0), .fn 92 [[.val (.slice (.int .i64)) v1_0_0]], .cv .dead, .cv .dead, .cv .dead, .cv .dead, .cv .dead, .cv (.val (.int .i64) v7), .cv (.val (.int .i64) v8), .cv .dead, .cv .dead, .cv .dead, .cv .dead, .cv .dead, .cv .dead, .cv .dead, .cv .dead, .cv .dead, .cv .dead], [], true⟩
noncomputable def slices_ContainsFunc_int_of_i_IsArrangement_1 (k : Nat) (x : (List Int) × List Int) : Option (Bool) := aFn E slices_ContainsFunc_int_of_i_IsArrangement_1_fi k x
noncomputable def i_IsArrangement (k : Nat) (x : (List Int) × List Int) : Option (Bool) := aFn E i_IsArrangement_fi k x
noncomputable def cmp_isNaN_int (k : Nat) (x : Int) : Option (Bool) := aFn E cmp_isNaN_int_fi k x
noncomputable def cmp_Compare_int (k : Nat) (x : Int × Int) : Option (Int) := aFn E cmp_Compare_int_fi k x
noncomputable def slices_Compare_int (k : Nat) (x : (List Int) × List Int) : Option (Int) := aFn E slices_Compare_int_fi k x
noncomputable def slices_Compare_int_l2 (k : Nat) (v0 : List Int) (v1 : List Int) (v9 : List Int) (v10 : Int) (v11 : Int) : Option (Int) := aRun E k slices_Compare_int_fi.rs (ioOf slices_Compare_int_fi.ps) slices_Compare_int_fi.res slices_Compare_int_fi.hints [.code (sub slices_Compare_int_c [1, 0, 1, 0, 0, 0]), .code (sub slices_Compare_int_c [1, 0, 1, 0, 0, 1]), .inLoop (sub slices_Compare_int_c [1, 0, 1, 0, 0]), .inBlock 0, .code (sub slices_Compare_int_c [1, 1])] ⟨[.cv (.val (.slice (.int .i64)) v0), .cv (.val (.slice (.int .i64)) v1), .cv .dead, .cv .dead, .cv .dead, .cv .dead, .cv .dead, .cv .dead, .cv .dead, .cv (.val (.slice (.int .i64)) v9), .cv (.val (.int .i64) v10), .cv (.val (.int .i64) v11), .cv .dead, .cv .dead, .cv .dead, .cv .dead, .cv .dead, .cv .dead, .cv .dead, .cv .dead, .cv .dead, .cv .dead, .cv .dead, .cv .dead, .cv .dead, .cv .dead, .cv .dead, .cv .dead, .cv .dead, .cv .dead, .cv .dead, .cv .dead, .cv .dead, .cv .dead, .cv .dead, .cv .dead], [], true⟩
noncomputable def i_KnowOk (k : Nat) (x : List (List Int)) : Option (Bool) := aFn E i_KnowOk_fi k x
noncomputable def i_KnowOk_l4 (k : Nat) (v0 : List (List Int)) (v20 : List (List Int)) (v21 : Int) (v22 : Int) : Option (Bool) := aRun E k i_KnowOk_fi.rs (ioOf i_KnowOk_fi.ps) i_KnowOk_fi.res i_KnowOk_fi.hints [.code (sub i_KnowOk_c [1, 1, 0, 1, 0, 0, 0]), .code (sub i_KnowOk_c [1, 1, 0, 1, 0, 0, 1]), .inLoop (sub i_KnowOk_c [1, 1, 0, 1, 0, 0]), .inBlock 0, .code (sub i_KnowOk_c [1, 1, 1])] ⟨[.cv (.val (.slice (.slice (.int .i64))) v0), .cv .dead, .cv .dead, .cv .dead, .cv .dead, .cv .dead, .cv .dead, .cv .dead, .cv .dead, .cv .dead, .cv .dead, .cv .dead, .cv .dead, .cv .dead, .cv .dead, .cv .dead, .cv .dead, .cv .dead, .cv .dead, .cv .dead, .cv (.val (.slice (.slice (.int .i64))) v20), .cv (.val (.int .i64) v21), .cv (.val (.int .i64) v22), .cv .dead, .cv .dead, .cv .dead, .cv .dead, .cv .dead, .cv .dead, .cv .dead, .cv .dead, .cv .dead, .cv .dead, .cv .dead, .cv .dead, .cv .dead, .cv .dead, .cv .dead, .cv .dead, .cv .dead, .cv .dead, .cv .dead, .cv .dead, .cv .dead, .cv .dead, .cv .dead, .cv .dead, .cv .dead], [], true⟩
noncomputable def i_KnownAt_1 (k : Nat) (x : (List Int) × Int) : Option (Int) := aFn E i_KnownAt_1_fi k x
noncomputable def i_common_of_i_KnownAt_1 (k : Nat) (x : (List (List Int)) × Int) : Option (Int) := aFn E i_common_of_i_KnownAt_1_fi k x
noncomputable def i_common_of_i_KnownAt_1_l5 (k : Nat) (v1_0_0 : Int) (v5 : Int) (v16 : List (List Int)) (v17 : Int) (v18 : Int) : Option (Int) := aRun E k i_common_of_i_KnownAt_1_fi.rs (ioOf i_common_of_i_KnownAt_1_fi.ps) i_common_of_i_KnownAt_1_fi.res i_common_of_i_KnownAt_1_fi.hints [.code (sub i_common_of_i_KnownAt_1_c [1, 1, 1, 0, 1, 0, 0, 0]), .code (sub i_common_of_i_KnownAt_1_c [1, 1, 1, 0, 1, 0, 0, 1]), .inLoop (sub i_common_of_i_KnownAt_1_c [1, 1, 1, 0, 1, 0, 0]), .inBlock 0, .code (sub i_common_of_i_KnownAt_1_c [1, 1, 1, 1])] ⟨[.cv .dead, .fn 75 [[.val (.int .i64) v1_0_0]], .cv .dead, .cv .dead, .cv .dead, .cv (.val (.int .i64) v5), .cv .dead, .cv .dead, .cv .dead, .cv .dead, .cv .dead, .cv .dead, .cv .dead, .cv .dead, .cv .dead, .cv .dead, .cv (.val (.slice (.slice (.int .i64))) v16), .cv (.val (.int .i64) v17), .cv (.val (.int .i64) v18), .cv .dead, .cv .dead, .cv .dead, .cv .dead, .cv .dead, .cv .dead, .cv .dead, .cv .dead, .cv .dead, .cv .dead], [], true⟩
noncomputable def i_KnownAt (k : Nat) (x : (List (List Int)) × Int) : Option (Int) := aFn E i_KnownAt_fi k x
noncomputable def w_eqIntSS (k : Nat) (x : (List (List Int)) × List (List Int)) : Option (Bool) := aFn E w_eqIntSS_fi k x
noncomputable def w_eqIntSS_l4 (k : Nat) (v0 : List (List Int)) (v1 : List (List Int)) (v5 : Int) : Option (Bool) := aRun E k w_eqIntSS_fi.rs (ioOf w_eqIntSS_fi.ps) w_eqIntSS_fi.res w_eqIntSS_fi.hints [.code (sub w_eqIntSS_c [1, 1, 0, 1, 0, 0, 0, 0]), .code (sub w_eqIntSS_c [1, 1, 0, 1, 0, 0, 0, 1]), .code (sub w_eqIntSS_c [1, 1, 0, 1, 0, 0, 1]), .inLoop (sub w_eqIntSS_c [1, 1, 0, 1, 0, 0]), .inBlock 0, .code (sub w_eqIntSS_c [1, 1, 1])] ⟨[.cv (.val (.slice (.slice (.int .i64))) v0), .cv (.val (.slice (.slice (.int .i64))) v1), .cv .dead, .cv .dead, .cv .dead, .cv (.val (.int .i64) v5), .cv .dead, .cv .dead, .cv .dead, .cv .dead, .cv .dead, .cv .dead, .cv .dead, .cv .dead, .cv .dead, .cv .dead, .cv .dead, .cv .dead, .cv .dead, .cv .dead, .cv .dead, .cv .dead, .cv .dead, .cv .dead, .cv .dead, .cv .dead, .cv .dead], [], true⟩
noncomputable def w_FnExactKnownAt (k : Nat) (x : (List (List Int)) × Int) : Option (Bool) := aFn E w_FnExactKnownAt_fi k x
noncomputable def s_l15Worst (k : Nat) (x : (List (List Int)) × Int) : Option (Int) := aFn E s_l15Worst_fi k x
noncomputable def s_l15Worst_l4 (k : Nat) (v1 : Int) (v6 : Int) (v11 : List (List Int)) (v12 : Int) (v13 : Int) (o100005 : List Int) : Option (Int) := aRun E k s_l15Worst_fi.rs (ioOf s_l15Worst_fi.ps) s_l15Worst_fi.res s_l15Worst_fi.hints [.code (sub s_l15Worst_c [1, 1, 1, 0, 1, 0, 0, 0]), .code (sub s_l15Worst_c [1, 1, 1, 0, 1, 0, 0, 1]), .inLoop (sub s_l15Worst_c [1, 1, 1, 0, 1, 0, 0]), .inBlock 0, .code (sub s_l15Worst_c [1, 1, 1, 1])] ⟨[.cv .dead, .cv (.val (.int .i64) v1), .cv .dead, .cv .dead, .cv .dead, .cv (.own 100005), .cv (.val (.int .i64) v6), .cv .dead, .cv .dead, .cv .dead, .cv .dead, .cv (.val (.slice (.slice (.int .i64))) v11), .cv (.val (.int .i64) v12), .cv (.val (.int .i64) v13), .cv .dead, .cv .dead, .cv .dead, .cv .dead, .cv .dead, .cv .dead, .cv .dead, .cv .dead, .cv .dead, .cv .dead, .cv .dead, .cv .dead, .cv .dead, .cv .dead, .cv .dead, .cv .dead, .cv .dead, .cv .dead, .cv .dead, .cv .dead, .cv .dead, .cv .dead], [(100005, .row (.int .i64) o100005 true false)], true⟩
noncomputable def s_BestLook (k : Nat) (x : List (List Int)) : Option (Int) := aFn E s_BestLook_fi k x
noncomputable def s_BestLook_l5 (k : Nat) (v0 : List (List Int)) (v3 : Int) (v11 : Int) (v12 : Int) : Option (Int) := aRun E k s_BestLook_fi.rs (ioOf s_BestLook_fi.ps) s_BestLook_fi.res s_BestLook_fi.hints [.code (sub s_BestLook_c [1, 1, 1, 0, 1, 0, 0, 0]), .code (sub s_BestLook_c [1, 1, 1, 0, 1, 0, 0, 1]), .inLoop (sub s_BestLook_c [1, 1, 1, 0, 1, 0, 0]), .inBlock 0, .code (sub s_BestLook_c [1, 1, 1, 1])] ⟨[.cv (.val (.slice (.slice (.int .i64))) v0), .cv .dead, .cv .dead, .cv (.val (.int .i64) v3), .cv .dead, .cv .dead, .cv .dead, .cv .dead, .cv .dead, .cv .dead, .cv .dead, .cv (.val (.int .i64) v11), .cv (.val (.int .i64) v12), .cv .dead, .cv .dead, .cv .dead, .cv .dead, .cv .dead, .cv .dead, .cv .dead, .cv .dead, .cv .dead, .cv .dead, .cv .dead, .cv .dead], [], true⟩
noncomputable def i_BestLook (k : Nat) (x : List (List Int)) : Option (Int) := aFn E i_BestLook_fi k x
noncomputable def i_BestLook_l5 (k : Nat) (v0 : List (List Int)) (v3 : Int) (v4 : Int) (v16 : Int) (v17 : Int) : Option (Int) := aRun E k i_BestLook_fi.rs (ioOf i_BestLook_fi.ps) i_BestLook_fi.res i_BestLook_fi.hints [.code (sub i_BestLook_c [1, 1, 1, 0, 1, 0, 0, 0]), .code (sub i_BestLook_c [1, 1, 1, 0, 1, 0, 0, 1]), .inLoop (sub i_BestLook_c [1, 1, 1, 0, 1, 0, 0]), .inBlock 0, .code (sub i_BestLook_c [1, 1, 1, 1])] ⟨[.cv (.val (.slice (.slice (.int .i64))) v0), .cv .dead, .cv .dead, .cv (.val (.int .i64) v3), .cv (.val (.int .i64) v4), .cv .dead, .cv .dead, .cv .dead, .cv .dead, .cv .dead, .cv .dead, .cv .dead, .cv .dead, .cv .dead, .cv .dead, .cv .dead, .cv (.val (.int .i64) v16), .cv (.val (.int .i64) v17), .cv .dead, .cv .dead, .cv .dead, .cv .dead, .cv .dead, .cv .dead, .cv .dead, .cv .dead, .cv .dead, .cv .dead, .cv .dead, .cv .dead, .cv .dead, .cv .dead, .cv .dead, .cv .dead, .cv .dead, .cv .dead, .cv .dead, .cv .dead, .cv .dead, .cv .dead, .cv .dead, .cv .dead, .cv .dead, .cv .dead, .cv .dead, .cv .dead, .cv .dead, .cv .dead, .cv .dead], [], true⟩
noncomputable def i_BestLook_l9 (k : Nat) (v0 : List (List Int)) (v3 : Int) (v4 : Int) (v5 : Int) (v16 : Int) (v17 : Int) (v20 : List (List Int)) (v21 : Int) (v22 : Int) (o400006 : List Int) : Option (Int) := aRun E k i_BestLook_fi.rs (ioOf i_BestLook_fi.ps) i_BestLook_fi.res i_BestLook_fi.hints [.code (sub i_BestLook_c [1, 1, 1, 0, 1, 0, 0, 1, 1, 0, 0, 1, 1, 0, 1, 0, 0, 0]), .code (sub i_BestLook_c [1, 1, 1, 0, 1, 0, 0, 1, 1, 0, 0, 1, 1, 0, 1, 0, 0, 1]), .inLoop (sub i_BestLook_c [1, 1, 1, 0, 1, 0, 0, 1, 1, 0, 0, 1, 1, 0, 1, 0, 0]), .inBlock 2, .code (sub i_BestLook_c [1, 1, 1, 0, 1, 0, 0, 1, 1, 0, 0, 1, 1, 1]), .inBlock 1, .code (sub i_BestLook_c [1, 1, 1, 0, 1, 0, 0, 1, 1, 1]), .inLoop (sub i_BestLook_c [1, 1, 1, 0, 1, 0, 0]), .inBlock 0, .code (sub i_BestLook_c [1, 1, 1, 1])] ⟨[.cv (.val (.slice (.slice (.int .i64))) v0), .cv .dead, .cv .dead, .cv (.val (.int .i64) v3), .cv (.val (.int .i64) v4), .cv (.val (.int .i64) v5), .adr 400006 0, .cv .dead, .cv .dead, .cv .dead, .cv .dead, .cv .dead, .cv .dead, .cv .dead, .cv .dead, .cv .dead, .cv (.val (.int .i64) v16), .cv (.val (.int .i64) v17), .cv .dead, .cv .dead, .cv (.val (.slice (.slice (.int .i64))) v20), .cv (.val (.int .i64) v21), .cv (.val (.int .i64) v22), .cv .dead, .cv .dead, .cv .dead, .cv .dead, .cv .dead, .cv .dead, .cv .dead, .cv .dead, .cv .dead, .cv .dead, .cv .dead, .cv .dead, .cv .dead, .cv .dead, .cv .dead, .cv .dead, .cv .dead, .cv .dead, .cv .dead, .cv .dead, .cv .dead, .cv .dead, .cv .dead, .cv .dead, .cv .dead, .cv .dead], [(400006, .arr (.int .i64) o400006)], true⟩
noncomputable def w_FnExactBestLook (k : Nat) (x : List (List Int)) : Option (Bool) := aFn E w_FnExactBestLook_fi k x
noncomputable def s_CountKnown (k : Nat) (x : List (List Int)) : Option (Int) := aFn E s_CountKnown_fi k x
noncomputable def s_CountKnown_l5 (k : Nat) (v0 : List (List Int)) (v3 : Int) (v11 : Int) (v12 : Int) : Option (Int) := aRun E k s_CountKnown_fi.rs (ioOf s_CountKnown_fi.ps) s_CountKnown_fi.res s_CountKnown_fi.hints [.code (sub s_CountKnown_c [1, 1, 1, 0, 1, 0, 0, 0]), .code (sub s_CountKnown_c [1, 1, 1, 0, 1, 0, 0, 1]), .inLoop (sub s_CountKnown_c [1, 1, 1, 0, 1, 0, 0]), .inBlock 0, .code (sub s_CountKnown_c [1, 1, 1, 1])] ⟨[.cv (.val (.slice (.slice (.int .i64))) v0), .cv .dead, .cv .dead, .cv (.val (.int .i64) v3), .cv .dead, .cv .dead, .cv .dead, .cv .dead, .cv .dead, .cv .dead, .cv .dead, .cv (.val (.int .i64) v11), .cv (.val (.int .i64) v12), .cv .dead, .cv .dead, .cv .dead, .cv .dead, .cv .dead, .cv .dead, .cv .dead, .cv .dead, .cv .dead, .cv .dead], [], true⟩
noncomputable def i_CountKnown (k : Nat) (x : List (List Int)) : Option (Int) := aFn E i_CountKnown_fi k x
noncomputable def i_CountKnown_l5 (k : Nat) (v0 : List (List Int)) (v3 : Int) (v11 : Int) (v12 : Int) : Option (Int) := aRun E k i_CountKnown_fi.rs (ioOf i_CountKnown_fi.ps) i_CountKnown_fi.res i_CountKnown_fi.hints [.code (sub i_CountKnown_c [1, 1, 1, 0, 1, 0, 0, 0]), .code (sub i_CountKnown_c [1, 1, 1, 0, 1, 0, 0, 1]), .inLoop (sub i_CountKnown_c [1, 1, 1, 0, 1, 0, 0]), .inBlock 0, .code (sub i_CountKnown_c [1, 1, 1, 1])] ⟨[.cv (.val (.slice (.slice (.int .i64))) v0), .cv .dead, .cv .dead, .cv (.val (.int .i64) v3), .cv .dead, .cv .dead, .cv .dead, .cv .dead, .cv .dead, .cv .dead, .cv .dead, .cv (.val (.int .i64) v11), .cv (.val (.int .i64) v12), .cv .dead, .cv .dead, .cv .dead, .cv .dead, .cv .dead, .cv .dead, .cv .dead, .cv .dead, .cv .dead, .cv .dead], [], true⟩
noncomputable def w_FnExactCountKnown (k : Nat) (x : List (List Int)) : Option (Bool) := aFn E w_FnExactCountKnown_fi k x

theorem w_toIntS_eq (k : Nat) (x0 : List Int) : w_toIntS (k + 1) x0 =
  bif decide (0 ≤ (x0.length : Int)) then
    (bif decide ((x0.length : Int) ≤ (rowMax : Int)) then
      (bif ((x0.length : Int) == (x0.length : Int)) then
        (w_toIntS_l3 k x0 (0 : Int) (List.replicate (x0.length : Int).toNat (0 : Int)))
      else (none))
    else (none))
  else (none) := by kernel_rfl
theorem w_toIntS_l3_eq (k : Nat) (v0 : List Int) (v4 : Int) (o100003 : List Int) : w_toIntS_l3 (k + 1) v0 v4 o100003 =
  bif decide (v4 < (v0.length : Int)) then
    (bif decide (0 ≤ v4) then
      (bif decide (v4 < (v0.length : Int)) then
        (bif decide (0 ≤ v4) then
          (bif decide (v4 < (o100003.length : Int)) then
            (bif decide (v4.toNat < o100003.length) then
              (w_toIntS_l3 k v0 (IntKind.i64.wrap (v4 + (1 : Int))) (o100003.set v4.toNat (v0.getD v4.toNat (0 : Int))))
            else (none))
          else (none))
        else (none))
      else (none))
    else (none))
  else (some o100003) := by kernel_rfl
theorem s_ShuffleLine_eq (k : Nat) (x0 : List Int) : s_ShuffleLine (k + 1) x0 =
  s_ShuffleLine_l3 k (⟨#[]⟩ : ByteArray) x0 (x0.length : Int) (0 : Int) := by kernel_rfl
theorem s_ShuffleLine_l3_eq (k : Nat) (v3 : ByteArray) (v6 : List Int) (v7 : Int) (v8 : Int) : s_ShuffleLine_l3 (k + 1) v3 v6 v7 v8 =
  bif decide (v8 < v7) then
    (bif decide (0 ≤ v8) then
      (bif decide (v8 < (v6.length : Int)) then
        (bif ((v6.getD v8.toNat (0 : Int)) == (0 : Int)) then
          (bif decide (v3.size + (⟨#[79]⟩ : ByteArray).size ≤ 9223372036854775807) then
            (s_ShuffleLine_l3 k (v3 ++ (⟨#[79]⟩ : ByteArray)) v6 v7 (IntKind.i64.wrap (v8 + (1 : Int))))
          else (none))
        else (bif decide (v3.size + (⟨#[73]⟩ : ByteArray).size ≤ 9223372036854775807) then
            (s_ShuffleLine_l3 k (v3 ++ (⟨#[73]⟩ : ByteArray)) v6 v7 (IntKind.i64.wrap (v8 + (1 : Int))))
          else (none)))
      else (none))
    else (none))
  else (bif (v3.toList == (⟨#[]⟩ : ByteArray).toList) then
      (some (⟨#[45]⟩ : ByteArray))
    else (some v3)) := by kernel_rfl
theorem i_ShuffleLine_eq (k : Nat) (x0 : List Int) : i_ShuffleLine (k + 1) x0 =
  i_ShuffleLine_l3 k (⟨#[]⟩ : ByteArray) x0 (x0.length : Int) (0 : Int) := by kernel_rfl
theorem i_ShuffleLine_l3_eq (k : Nat) (v3 : ByteArray) (v6 : List Int) (v7 : Int) (v8 : Int) : i_ShuffleLine_l3 (k + 1) v3 v6 v7 v8 =
  bif decide (v8 < v7) then
    (bif decide (0 ≤ v8) then
      (bif decide (v8 < (v6.length : Int)) then
        (bif ((v6.getD v8.toNat (0 : Int)) == (0 : Int)) then
          (bif decide (v3.size + (⟨#[79]⟩ : ByteArray).size ≤ 9223372036854775807) then
            (i_ShuffleLine_l3 k (v3 ++ (⟨#[79]⟩ : ByteArray)) v6 v7 (IntKind.i64.wrap (v8 + (1 : Int))))
          else (none))
        else (bif decide (v3.size + (⟨#[73]⟩ : ByteArray).size ≤ 9223372036854775807) then
            (i_ShuffleLine_l3 k (v3 ++ (⟨#[73]⟩ : ByteArray)) v6 v7 (IntKind.i64.wrap (v8 + (1 : Int))))
          else (none)))
      else (none))
    else (none))
  else (bif (v3.toList == (⟨#[]⟩ : ByteArray).toList) then
      (some (⟨#[45]⟩ : ByteArray))
    else (some v3)) := by kernel_rfl
theorem w_eqIntS_eq (k : Nat) (x0 : List Int) (x1 : List Int) : w_eqIntS (k + 1) (x0, x1) =
  bif (!((x0.length : Int) == (x1.length : Int))) then
    (some false)
  else (w_eqIntS_l4 k x0 x1 (0 : Int)) := by kernel_rfl
theorem w_eqIntS_l4_eq (k : Nat) (v0 : List Int) (v1 : List Int) (v5 : Int) : w_eqIntS_l4 (k + 1) v0 v1 v5 =
  bif decide (v5 < (v0.length : Int)) then
    (bif decide (0 ≤ v5) then
      (bif decide (v5 < (v0.length : Int)) then
        (bif decide (0 ≤ v5) then
          (bif decide (v5 < (v1.length : Int)) then
            (bif (!((v0.getD v5.toNat (0 : Int)) == (v1.getD v5.toNat (0 : Int)))) then
              (some false)
            else (w_eqIntS_l4 k v0 v1 (IntKind.i64.wrap (v5 + (1 : Int)))))
          else (none))
        else (none))
      else (none))
    else (none))
  else (some true) := by kernel_rfl
theorem w_FnExactShuffleLine_eq (k : Nat) (x0 : List Int) : w_FnExactShuffleLine (k + 1) x0 =
  bif decide ((x0.length : Int) > (1048576 : Int)) then
    (some true)
  else ((w_toIntS k x0).bind fun y1 =>
    (s_ShuffleLine k y1).bind fun y2 =>
    (w_toIntS k x0).bind fun y3 =>
    (i_ShuffleLine k y3).bind fun y4 =>
    bif (!(y4.toList == y2.toList)) then
      (some false)
    else ((w_toIntS k x0).bind fun y5 =>
      (w_eqIntS k (y3, y5)).bind fun y6 =>
      bif (!y6) then
        (some false)
      else (some true))) := by kernel_rfl
theorem w_szIntS_eq (k : Nat) (x0 : List Int) (x1 : Int) : w_szIntS (k + 1) (x0, x1) =
  bif decide ((IntKind.i64.wrap (x1 - (x0.length : Int))) < (0 : Int)) then
    (some (-1 : Int))
  else (some (IntKind.i64.wrap (x1 - (x0.length : Int)))) := by kernel_rfl
theorem w_szScene_eq (k : Nat) (x0 : (List Int) × Int) (x1 : Int) : w_szScene (k + 1) (x0, x1) =
  (w_szIntS k (x0.1, x1)).bind fun y1 =>
  bif decide (y1 < (0 : Int)) then
    (some (-1 : Int))
  else (some y1) := by kernel_rfl
theorem w_toScene_eq (k : Nat) (x0 : (List Int) × Int) : w_toScene (k + 1) x0 =
  (w_toIntS k x0.1).bind fun y1 =>
  some (y1, x0.2) := by kernel_rfl
theorem s_SamePacket_eq (k : Nat) (x0 : List Int) (x1 : List Int) : s_SamePacket (k + 1) (x0, x1) =
  bif (!((x0.length : Int) == (x1.length : Int))) then
    (some false)
  else (s_SamePacket_l4 k x1 x0 (x0.length : Int) (0 : Int)) := by kernel_rfl
theorem s_SamePacket_l4_eq (k : Nat) (v1 : List Int) (v12 : List Int) (v13 : Int) (v14 : Int) : s_SamePacket_l4 (k + 1) v1 v12 v13 v14 =
  bif decide (v14 < v13) then
    (bif decide (0 ≤ v14) then
      (bif decide (v14 < (v12.length : Int)) then
        (bif decide (0 ≤ v14) then
          (bif decide (v14 < (v1.length : Int)) then
            (bif (!((v12.getD v14.toNat (0 : Int)) == (v1.getD v14.toNat (0 : Int)))) then
              (some false)
            else (s_SamePacket_l4 k v1 v12 v13 (IntKind.i64.wrap (v14 + (1 : Int)))))
          else (none))
        else (none))
      else (none))
    else (none))
  else (some true) := by kernel_rfl
theorem s_SameScene_eq (k : Nat) (x0 : (List Int) × Int) (x1 : (List Int) × Int) : s_SameScene (k + 1) (x0, x1) =
  (s_SamePacket k (x0.1, x1.1)).bind fun y1 =>
  bif y1 then
    (some (x0.2 == x1.2))
  else (some false) := by kernel_rfl
theorem slices_Equal_int_eq (k : Nat) (x0 : List Int) (x1 : List Int) : slices_Equal_int (k + 1) (x0, x1) =
  bif (!((x0.length : Int) == (x1.length : Int))) then
    (some false)
  else (slices_Equal_int_l4 k x0 x1 (x0.length : Int) (0 : Int)) := by kernel_rfl
theorem slices_Equal_int_l4_eq (k : Nat) (v0 : List Int) (v1 : List Int) (v12 : Int) (v13 : Int) : slices_Equal_int_l4 (k + 1) v0 v1 v12 v13 =
  bif decide (v13 < v12) then
    (bif decide (0 ≤ v13) then
      (bif decide (v13 < (v0.length : Int)) then
        (bif decide (0 ≤ v13) then
          (bif decide (v13 < (v1.length : Int)) then
            (bif (!((v0.getD v13.toNat (0 : Int)) == (v1.getD v13.toNat (0 : Int)))) then
              (some false)
            else (slices_Equal_int_l4 k v0 v1 v12 (IntKind.i64.wrap (v13 + (1 : Int)))))
          else (none))
        else (none))
      else (none))
    else (none))
  else (some true) := by kernel_rfl
theorem i_SameScene_eq (k : Nat) (x0 : (List Int) × Int) (x1 : (List Int) × Int) : i_SameScene (k + 1) (x0, x1) =
  (slices_Equal_int k (x0.1, x1.1)).bind fun y1 =>
  bif y1 then
    (some (x0.2 == x1.2))
  else (some false) := by kernel_rfl
theorem w_eqScene_eq (k : Nat) (x0 : (List Int) × Int) (x1 : (List Int) × Int) : w_eqScene (k + 1) (x0, x1) =
  (w_eqIntS k (x0.1, x1.1)).bind fun y1 =>
  bif (!y1) then
    (some false)
  else (bif (!(x0.2 == x1.2)) then
      (some false)
    else (some true)) := by kernel_rfl
theorem w_FnExactSameScene_eq (k : Nat) (x0 : (List Int) × Int) (x1 : (List Int) × Int) : w_FnExactSameScene (k + 1) (x0, x1) =
  (w_szScene k (x0, (1048576 : Int))).bind fun y1 =>
  bif decide (y1 < (0 : Int)) then
    (some true)
  else ((w_szScene k (x1, y1)).bind fun y2 =>
    bif decide (y2 < (0 : Int)) then
      (some true)
    else ((w_toScene k x0).bind fun y3 =>
      (w_toScene k x1).bind fun y4 =>
      (s_SameScene k (y3, y4)).bind fun y5 =>
      (w_toScene k x0).bind fun y6 =>
      (w_toScene k x1).bind fun y7 =>
      (i_SameScene k (y6, y7)).bind fun y8 =>
      bif (!(y8 == y5)) then
        (some false)
      else ((w_toScene k x0).bind fun y9 =>
        (w_eqScene k (y6, y9)).bind fun y10 =>
        bif (!y10) then
          (some false)
        else ((w_toScene k x1).bind fun y11 =>
          (w_eqScene k (y7, y11)).bind fun y12 =>
          bif (!y12) then
            (some false)
          else (some true))))) := by kernel_rfl
theorem w_toMove_eq (k : Nat) (x0 : Int × Int) : w_toMove (k + 1) x0 =
  some x0 := by kernel_rfl
theorem w_toStep_eq (k : Nat) (x0 : Int × (Int × Int) × Int) : w_toStep (k + 1) x0 =
  (w_toMove k x0.2.1).bind fun y1 =>
  some (x0.1, (y1.1, (y1.2, x0.2.2))) := by kernel_rfl
theorem s_l01In_eq (k : Nat) (x0 : Int) (x1 : Int) (x2 : Int) : s_l01In (k + 1) (x0, x1, x2) =
  bif decide (x0 ≥ x1) then
    (some (decide (x0 ≤ x2)))
  else (some false) := by kernel_rfl
theorem s_MoveOk_eq (k : Nat) (x0 : Int) (x1 : Int × Int) : s_MoveOk (k + 1) (x0, x1) =
  (s_l01In k (x0, ((1 : Int), (12 : Int)))).bind fun y1 =>
  bif (!y1) then
    (some false)
  else (bif (x1.1 == (1 : Int)) then
      ((s_l01In k (x1.2, ((0 : Int), x0))).bind fun y2 =>
      some y2)
    else (bif (x1.1 == (2 : Int)) then
        ((s_l01In k (x1.2, ((0 : Int), x0))).bind fun y3 =>
        some y3)
      else (bif (x1.1 == (3 : Int)) then
          ((s_l01In k (x1.2, ((0 : Int), x0))).bind fun y4 =>
          some y4)
        else (bif (x1.1 == (4 : Int)) then
            ((s_l01In k (x1.2, ((0 : Int), (1 : Int)))).bind fun y5 =>
            some y5)
          else (bif (x1.1 == (5 : Int)) then
              ((s_l01In k (x1.2, ((0 : Int), (1 : Int)))).bind fun y6 =>
              some y6)
            else (bif (x1.1 == (7 : Int)) then
                ((s_l01In k (x1.2, ((0 : Int), (1 : Int)))).bind fun y7 =>
                some y7)
              else (bif (x1.1 == (6 : Int)) then
                  (some (x1.2 == (0 : Int)))
                else (bif (x1.1 == (8 : Int)) then
                    ((s_l01In k (x1.2, ((0 : Int), (IntKind.i64.wrap (x0 - (1 : Int)))))).bind fun y8 =>
                    some y8)
                  else (bif (x1.1 == (9 : Int)) then
                      ((s_l01In k (x1.2, ((0 : Int), (IntKind.i64.wrap (x0 - (1 : Int)))))).bind fun y9 =>
                      some y9)
                    else (some false)))))))))) := by kernel_rfl
theorem s_l16Choice_eq (k : Nat) (x0 : Int) (x1 : Int) : s_l16Choice (k + 1) (x0, x1) =
  (s_l01In k (x1, ((0 : Int), (4 : Int)))).bind fun y1 =>
  bif y1 then
    (bif (!(x1 == (3 : Int))) then
      (bif (!(x1 == (2 : Int))) then
        (some true)
      else (some (decide (x0 ≤ (7 : Int)))))
    else (bif decide (x0 ≥ (2 : Int)) then
        (bif (!(x1 == (2 : Int))) then
          (some true)
        else (some (decide (x0 ≤ (7 : Int)))))
      else (some false)))
  else (some false) := by kernel_rfl
theorem s_StepOk_eq (k : Nat) (x0 : Int) (x1 : Int × (Int × Int) × Int) : s_StepOk (k + 1) (x0, x1) =
  (s_l01In k (x0, ((1 : Int), (12 : Int)))).bind fun y1 =>
  bif (!y1) then
    (some false)
  else (bif (x1.1 == (1 : Int)) then
      ((s_MoveOk k (x0, x1.2.1)).bind fun y2 =>
      bif y2 then
        (some (x1.2.2 == (0 : Int)))
      else (some false))
    else (bif (x1.1 == (2 : Int)) then
        (bif ((x1.2.1.1 == (0 : Int)) && ((x1.2.1.2 == (0 : Int)) && true)) then
          ((s_l16Choice k (x0, x1.2.2)).bind fun y3 =>
          some y3)
        else (some false))
      else (bif (x1.1 == (3 : Int)) then
          (bif ((x1.2.1.1 == (0 : Int)) && ((x1.2.1.2 == (0 : Int)) && true)) then
            ((s_l01In k (x1.2.2, ((0 : Int), (IntKind.i64.wrap (x0 - (1 : Int)))))).bind fun y4 =>
            some y4)
          else (some false))
        else (some false)))) := by kernel_rfl
theorem i_MoveOk_eq (k : Nat) (x0 : Int) (x1 : Int × Int) : i_MoveOk (k + 1) (x0, x1) =
  bif decide (x0 < (1 : Int)) then
    (some false)
  else (bif decide (x0 > (12 : Int)) then
      (some false)
    else (bif decide (x1.2 < (0 : Int)) then
        (some false)
      else (bif (x1.1 == (1 : Int)) then
          (some (decide (x1.2 ≤ x0)))
        else (bif (x1.1 == (2 : Int)) then
            (some (decide (x1.2 ≤ x0)))
          else (bif (x1.1 == (3 : Int)) then
              (some (decide (x1.2 ≤ x0)))
            else (bif (x1.1 == (4 : Int)) then
                (some (decide (x1.2 ≤ (1 : Int))))
              else (bif (x1.1 == (5 : Int)) then
                  (some (decide (x1.2 ≤ (1 : Int))))
                else (bif (x1.1 == (7 : Int)) then
                    (some (decide (x1.2 ≤ (1 : Int))))
                  else (bif (x1.1 == (6 : Int)) then
                      (some (x1.2 == (0 : Int)))
                    else (bif (x1.1 == (8 : Int)) then
                        (some (decide (x1.2 < x0)))
                      else (bif (x1.1 == (9 : Int)) then
                          (some (decide (x1.2 < x0)))
                        else (some false)))))))))))) := by kernel_rfl
theorem i_StepOk_eq (k : Nat) (x0 : Int) (x1 : Int × (Int × Int) × Int) : i_StepOk (k + 1) (x0, x1) =
  bif decide (x0 < (1 : Int)) then
    (some false)
  else (bif decide (x0 > (12 : Int)) then
      (some false)
    else (bif (x1.1 == (1 : Int)) then
        ((i_MoveOk k (x0, x1.2.1)).bind fun y1 =>
        bif y1 then
          (some (x1.2.2 == (0 : Int)))
        else (some false))
      else (bif (x1.1 == (2 : Int)) then
          (bif ((x1.2.1.1 == (0 : Int)) && ((x1.2.1.2 == (0 : Int)) && true)) then
            (bif decide (x1.2.2 ≥ (0 : Int)) then
              (bif decide (x1.2.2 ≤ (4 : Int)) then
                (bif (!(x1.2.2 == (3 : Int))) then
                  (bif (!(x1.2.2 == (2 : Int))) then
                    (some true)
                  else (some (decide (x0 ≤ (7 : Int)))))
                else (bif decide (x0 ≥ (2 : Int)) then
                    (bif (!(x1.2.2 == (2 : Int))) then
                      (some true)
                    else (some (decide (x0 ≤ (7 : Int)))))
                  else (some false)))
              else (some false))
            else (some false))
          else (some false))
        else (bif (x1.1 == (3 : Int)) then
            (bif ((x1.2.1.1 == (0 : Int)) && ((x1.2.1.2 == (0 : Int)) && true)) then
              (bif decide (x1.2.2 ≥ (0 : Int)) then
                (some (decide (x1.2.2 < x0)))
              else (some false))
            else (some false))
          else (some false))))) := by kernel_rfl
theorem w_FnExactStepOk_eq (k : Nat) (x0 : Int) (x1 : Int × (Int × Int) × Int) : w_FnExactStepOk (k + 1) (x0, x1) =
  (w_toStep k x1).bind fun y1 =>
  (s_StepOk k (x0, (y1.1, ((y1.2.1, y1.2.2.1), y1.2.2.2)))).bind fun y2 =>
  (w_toStep k x1).bind fun y3 =>
  (i_StepOk k (x0, (y3.1, ((y3.2.1, y3.2.2.1), y3.2.2.2)))).bind fun y4 =>
  bif (!(y4 == y2)) then
    (some false)
  else (some true) := by kernel_rfl
theorem s_l02Has_eq (k : Nat) (x0 : List Int) (x1 : Int) : s_l02Has (k + 1) (x0, x1) =
  s_l02Has_l2 k x1 x0 (x0.length : Int) (0 : Int) := by kernel_rfl
theorem s_l02Has_l2_eq (k : Nat) (v1 : Int) (v7 : List Int) (v8 : Int) (v9 : Int) : s_l02Has_l2 (k + 1) v1 v7 v8 v9 =
  bif decide (v9 < v8) then
    (bif decide (0 ≤ v9) then
      (bif decide (v9 < (v7.length : Int)) then
        (bif ((v7.getD v9.toNat (0 : Int)) == v1) then
          (some true)
        else (s_l02Has_l2 k v1 v7 v8 (IntKind.i64.wrap (v9 + (1 : Int)))))
      else (none))
    else (none))
  else (some false) := by kernel_rfl
theorem s_l19Ok_eq (k : Nat) (x0 : Int) (x1 : List Int) : s_l19Ok (k + 1) (x0, x1) =
  (s_l01In k (x0, ((1 : Int), (12 : Int)))).bind fun y1 =>
  bif (!y1) then
    (some false)
  else (s_l19Ok_l4 k x0 x1 x1 (x1.length : Int) (0 : Int)) := by kernel_rfl
theorem s_l19Ok_l4_eq (k : Nat) (v0 : Int) (v1 : List Int) (v10 : List Int) (v11 : Int) (v12 : Int) : s_l19Ok_l4 (k + 1) v0 v1 v10 v11 v12 =
  bif decide (v12 < v11) then
    (bif decide (0 ≤ v12) then
      (bif decide (v12 < (v10.length : Int)) then
        ((s_l01In k ((v10.getD v12.toNat (0 : Int)), ((0 : Int), (IntKind.i64.wrap (v0 - (1 : Int)))))).bind fun y1 =>
        bif (!y1) then
          (some false)
        else (bif decide (0 ≤ v12) then
            (bif decide (v12 ≤ (v1.length : Int)) then
              ((s_l02Has k (((v1.take v12.toNat).drop 0), (v10.getD v12.toNat (0 : Int)))).bind fun y2 =>
              bif y2 then
                (some false)
              else (s_l19Ok_l4 k v0 v1 v10 v11 (IntKind.i64.wrap (v12 + (1 : Int)))))
            else (none))
          else (none)))
      else (none))
    else (none))
  else (some true) := by kernel_rfl
theorem s_l19Choose_eq (k : Nat) (x0 : Int) (x1 : Int) : s_l19Choose (k + 1) (x0, x1) =
  s_l19Choose_l3 k x0 x1 (1 : Int) (1 : Int) := by kernel_rfl
theorem s_l19Choose_l3_eq (k : Nat) (v0 : Int) (v1 : Int) (v5 : Int) (v6 : Int) : s_l19Choose_l3 (k + 1) v0 v1 v5 v6 =
  bif decide (v6 ≤ v1) then
    (bif (!(v6 == 0)) then
      (s_l19Choose_l3 k v0 v1 (IntKind.i64.wrap ((IntKind.i64.wrap (v5 * (IntKind.i64.wrap ((IntKind.i64.wrap (v0 - v1)) + v6)))).tdiv v6)) (IntKind.i64.wrap (v6 + (1 : Int))))
    else (none))
  else (some v5) := by kernel_rfl
theorem s_l19Ways_eq (k : Nat) (x0 : Int) (x1 : Int) (x2 : List Int) : s_l19Ways (k + 1) (x0, x1, x2) =
  s_l19Ways_l4 k x0 x1 x2 (0 : Int) x1 x2 (x2.length : Int) (0 : Int) := by kernel_rfl
theorem s_l19Ways_l4_eq (k : Nat) (v0 : Int) (v1 : Int) (v2 : List Int) (v7 : Int) (v8 : Int) (v12 : List Int) (v13 : Int) (v14 : Int) : s_l19Ways_l4 (k + 1) v0 v1 v2 v7 v8 v12 v13 v14 =
  bif decide (v14 < v13) then
    (bif decide (0 ≤ v14) then
      (bif decide (v14 < (v12.length : Int)) then
        (bif ((v12.getD v14.toNat (0 : Int)) == v7) then
          (bif decide (v7 < v1) then
            (s_l19Ways_l4 k v0 v1 v2 (IntKind.i64.wrap (v7 + (1 : Int))) v8 v12 v13 (IntKind.i64.wrap (v14 + (1 : Int))))
          else (bif ((v12.getD v14.toNat (0 : Int)) == v8) then
              (bif decide (v8 < v0) then
                (s_l19Ways_l4 k v0 v1 v2 v7 (IntKind.i64.wrap (v8 + (1 : Int))) v12 v13 (IntKind.i64.wrap (v14 + (1 : Int))))
              else (some (0 : Int)))
            else (some (0 : Int))))
        else (bif ((v12.getD v14.toNat (0 : Int)) == v8) then
            (bif decide (v8 < v0) then
              (s_l19Ways_l4 k v0 v1 v2 v7 (IntKind.i64.wrap (v8 + (1 : Int))) v12 v13 (IntKind.i64.wrap (v14 + (1 : Int))))
            else (some (0 : Int)))
          else (some (0 : Int))))
      else (none))
    else (none))
  else ((s_l19Choose k ((IntKind.i64.wrap (v0 - (v2.length : Int))), (IntKind.i64.wrap (v1 - v7)))).bind fun y1 =>
    some y1) := by kernel_rfl
theorem s_WaysWith_eq (k : Nat) (x0 : Int) (x1 : List Int) : s_WaysWith (k + 1) (x0, x1) =
  (s_l19Ok k (x0, x1)).bind fun y1 =>
  bif (!y1) then
    (some (-1 : Int))
  else (s_WaysWith_l5 k x0 x1 (0 : Int) (0 : Int)) := by kernel_rfl
theorem s_WaysWith_l5_eq (k : Nat) (v0 : Int) (v1 : List Int) (v5 : Int) (v6 : Int) : s_WaysWith_l5 (k + 1) v0 v1 v5 v6 =
  bif decide (v6 ≤ v0) then
    ((s_l19Ways k (v0, (v6, v1))).bind fun y1 =>
    s_WaysWith_l5 k v0 v1 (IntKind.i64.wrap (v5 + y1)) (IntKind.i64.wrap (v6 + (1 : Int))))
  else (some v5) := by kernel_rfl
theorem slices_Index_int_eq (k : Nat) (x0 : List Int) (x1 : Int) : slices_Index_int (k + 1) (x0, x1) =
  slices_Index_int_l2 k x0 x1 (x0.length : Int) (0 : Int) := by kernel_rfl
theorem slices_Index_int_l2_eq (k : Nat) (v0 : List Int) (v1 : Int) (v7 : Int) (v8 : Int) : slices_Index_int_l2 (k + 1) v0 v1 v7 v8 =
  bif decide (v8 < v7) then
    (bif decide (0 ≤ v8) then
      (bif decide (v8 < (v0.length : Int)) then
        (bif (v1 == (v0.getD v8.toNat (0 : Int))) then
          (some v8)
        else (slices_Index_int_l2 k v0 v1 v7 (IntKind.i64.wrap (v8 + (1 : Int)))))
      else (none))
    else (none))
  else (some (-1 : Int)) := by kernel_rfl
theorem slices_Contains_int_eq (k : Nat) (x0 : List Int) (x1 : Int) : slices_Contains_int (k + 1) (x0, x1) =
  (slices_Index_int k (x0, x1)).bind fun y1 =>
  some (decide (y1 ≥ (0 : Int))) := by kernel_rfl
theorem i_isPrefix_eq (k : Nat) (x0 : Int) (x1 : List Int) : i_isPrefix (k + 1) (x0, x1) =
  bif decide (x0 < (1 : Int)) then
    (some false)
  else (bif decide (x0 > (12 : Int)) then
      (some false)
    else (i_isPrefix_l4 k x0 x1 x1 (x1.length : Int) (0 : Int))) := by kernel_rfl
theorem i_isPrefix_l4_eq (k : Nat) (v0 : Int) (v1 : List Int) (v13 : List Int) (v14 : Int) (v15 : Int) : i_isPrefix_l4 (k + 1) v0 v1 v13 v14 v15 =
  bif decide (v15 < v14) then
    (bif decide (0 ≤ v15) then
      (bif decide (v15 < (v13.length : Int)) then
        (bif decide ((v13.getD v15.toNat (0 : Int)) < (0 : Int)) then
          (some false)
        else (bif decide ((v13.getD v15.toNat (0 : Int)) ≥ v0) then
            (some false)
          else (bif decide (0 ≤ v15) then
              (bif decide (v15 ≤ (v1.length : Int)) then
                ((slices_Contains_int k (((v1.take v15.toNat).drop 0), (v13.getD v15.toNat (0 : Int)))).bind fun y1 =>
                bif y1 then
                  (some false)
                else (i_isPrefix_l4 k v0 v1 v13 v14 (IntKind.i64.wrap (v15 + (1 : Int)))))
              else (none))
            else (none))))
      else (none))
    else (none))
  else (some true) := by kernel_rfl
theorem i_upTo_eq (k : Nat) (x0 : Int) : i_upTo (k + 1) x0 =
  i_upTo_l3 k x0 (0 : Int) [] := by kernel_rfl
theorem i_upTo_l3_eq (k : Nat) (v0 : Int) (v4 : Int) (o100003 : List Int) : i_upTo_l3 (k + 1) v0 v4 o100003 =
  bif decide (v4 < v0) then
    (bif decide (o100003.length + [v4].length ≤ rowMax) then
      (i_upTo_l3 k v0 (IntKind.i64.wrap (v4 + (1 : Int))) (o100003 ++ [v4]))
    else (none))
  else (some o100003) := by kernel_rfl
theorem i_riffled_eq (k : Nat) (x0 : List Int) (x1 : Int) : i_riffled (k + 1) (x0, x1) =
  i_riffled_l3 k x0 x1 (0 : Int) (0 : Int) (x0.length : Int) (0 : Int) := by kernel_rfl
theorem i_riffled_l3_eq (k : Nat) (v0 : List Int) (v1 : Int) (v5 : Int) (v6 : Int) (v11 : Int) (v12 : Int) : i_riffled_l3 (k + 1) v0 v1 v5 v6 v11 v12 =
  bif decide (v12 < v11) then
    (bif decide (0 ≤ v12) then
      (i_riffled_l3 k v0 v1 v5 (IntKind.i64.wrap (v6 + (IntKind.i64.wrap ((1 : Int) - (IntKind.i64.wrap (((BitVec.ofInt IntKind.i64.bits (v1.fdiv (2 ^ (min v12.toNat IntKind.i64.bits))) &&& BitVec.ofInt IntKind.i64.bits (1 : Int)).toNat : Int))))))) v11 (IntKind.i64.wrap (v12 + (1 : Int))))
    else (none))
  else (i_riffled_l9 k v0 v1 v5 v6 (v0.length : Int) (0 : Int) []) := by kernel_rfl
theorem i_riffled_l9_eq (k : Nat) (v0 : List Int) (v1 : Int) (v5 : Int) (v6 : Int) (v24 : Int) (v25 : Int) (o100008 : List Int) : i_riffled_l9 (k + 1) v0 v1 v5 v6 v24 v25 o100008 =
  bif decide (v25 < v24) then
    (bif decide (0 ≤ v25) then
      (bif ((IntKind.i64.wrap (((BitVec.ofInt IntKind.i64.bits (v1.fdiv (2 ^ (min v25.toNat IntKind.i64.bits))) &&& BitVec.ofInt IntKind.i64.bits (1 : Int)).toNat : Int))) == (1 : Int)) then
        (bif decide (0 ≤ v6) then
          (bif decide (v6 < (v0.length : Int)) then
            (bif decide (o100008.length + [(v0.getD v6.toNat (0 : Int))].length ≤ rowMax) then
              (i_riffled_l9 k v0 v1 v5 (IntKind.i64.wrap (v6 + (1 : Int))) v24 (IntKind.i64.wrap (v25 + (1 : Int))) (o100008 ++ [(v0.getD v6.toNat (0 : Int))]))
            else (none))
          else (none))
        else (none))
      else (bif decide (0 ≤ v5) then
          (bif decide (v5 < (v0.length : Int)) then
            (bif decide (o100008.length + [(v0.getD v5.toNat (0 : Int))].length ≤ rowMax) then
              (i_riffled_l9 k v0 v1 (IntKind.i64.wrap (v5 + (1 : Int))) v6 v24 (IntKind.i64.wrap (v25 + (1 : Int))) (o100008 ++ [(v0.getD v5.toNat (0 : Int))]))
            else (none))
          else (none))
        else (none)))
    else (none))
  else (some o100008) := by kernel_rfl
theorem i_WaysWith_eq (k : Nat) (x0 : Int) (x1 : List Int) : i_WaysWith (k + 1) (x0, x1) =
  (i_isPrefix k (x0, x1)).bind fun y1 =>
  bif (!y1) then
    (some (-1 : Int))
  else ((i_upTo k x0).bind fun y2 =>
    i_WaysWith_l5 k x0 x1 (0 : Int) (0 : Int) y2) := by kernel_rfl
theorem i_WaysWith_l5_eq (k : Nat) (v0 : Int) (v1 : List Int) (v6 : Int) (v7 : Int) (o100005 : List Int) : i_WaysWith_l5 (k + 1) v0 v1 v6 v7 o100005 =
  bif decide (0 ≤ v0) then
    (bif decide (v7 < (IntKind.i64.wrap ((1 : Int) * 2 ^ (min v0.toNat IntKind.i64.bits)))) then
      ((i_riffled k (o100005, v7)).bind fun y1 =>
      bif decide (0 ≤ (v1.length : Int)) then
        (bif decide ((v1.length : Int) ≤ (y1.length : Int)) then
          ((slices_Equal_int k (((y1.take (v1.length : Int).toNat).drop 0), v1)).bind fun y2 =>
          bif y2 then
            (i_WaysWith_l5 k v0 v1 (IntKind.i64.wrap (v6 + (1 : Int))) (IntKind.i64.wrap (v7 + (1 : Int))) o100005)
          else (i_WaysWith_l5 k v0 v1 v6 (IntKind.i64.wrap (v7 + (1 : Int))) o100005))
        else (none))
      else (none))
    else (some v6))
  else (none) := by kernel_rfl
theorem w_FnExactWaysWith_eq (k : Nat) (x0 : Int) (x1 : List Int) : w_FnExactWaysWith (k + 1) (x0, x1) =
  bif decide ((x1.length : Int) > (1048576 : Int)) then
    (some true)
  else ((w_toIntS k x1).bind fun y1 =>
    (s_WaysWith k (x0, y1)).bind fun y2 =>
    (w_toIntS k x1).bind fun y3 =>
    (i_WaysWith k (x0, y3)).bind fun y4 =>
    bif (!(y4 == y2)) then
      (some false)
    else ((w_toIntS k x1).bind fun y5 =>
      (w_eqIntS k (y3, y5)).bind fun y6 =>
      bif (!y6) then
        (some false)
      else (some true))) := by kernel_rfl
theorem w_szStepS_eq (k : Nat) (x0 : List (Int × (Int × Int) × Int)) (x1 : Int) : w_szStepS (k + 1) (x0, x1) =
  bif decide ((IntKind.i64.wrap (x1 - (x0.length : Int))) < (0 : Int)) then
    (some (-1 : Int))
  else (some (IntKind.i64.wrap (x1 - (x0.length : Int)))) := by kernel_rfl
theorem w_szTrick_eq (k : Nat) (x0 : (List Int) × (List (Int × (Int × Int) × Int)) × Int × Int × Int) (x1 : Int) : w_szTrick (k + 1) (x0, x1) =
  (w_szIntS k (x0.1, x1)).bind fun y1 =>
  bif decide (y1 < (0 : Int)) then
    (some (-1 : Int))
  else ((w_szStepS k (x0.2.1, y1)).bind fun y2 =>
    bif decide (y2 < (0 : Int)) then
      (some (-1 : Int))
    else (some y2)) := by kernel_rfl
theorem w_toStepS_eq (k : Nat) (x0 : List (Int × (Int × Int) × Int)) : w_toStepS (k + 1) x0 =
  bif decide (0 ≤ (x0.length : Int)) then
    (bif decide ((x0.length : Int) ≤ (rowMax : Int)) then
      (bif ((x0.length : Int) == (x0.length : Int)) then
        (w_toStepS_l3 k x0 (0 : Int) (List.replicate (x0.length : Int).toNat ((0 : Int), (((0 : Int), (0 : Int)), (0 : Int)))))
      else (none))
    else (none))
  else (none) := by kernel_rfl
theorem w_toStepS_l3_eq (k : Nat) (v0 : List (Int × (Int × Int) × Int)) (v4 : Int) (o100003 : List (Int × (Int × Int) × Int)) : w_toStepS_l3 (k + 1) v0 v4 o100003 =
  bif decide (v4 < (v0.length : Int)) then
    (bif decide (0 ≤ v4) then
      (bif decide (v4 < (v0.length : Int)) then
        ((w_toStep k ((v0.getD v4.toNat ((0 : Int), (((0 : Int), (0 : Int)), (0 : Int)))).1, ((((v0.getD v4.toNat ((0 : Int), (((0 : Int), (0 : Int)), (0 : Int)))).2).1), ((v0.getD v4.toNat ((0 : Int), (((0 : Int), (0 : Int)), (0 : Int)))).2).2))).bind fun y1 =>
        bif decide (0 ≤ v4) then
          (bif decide (v4 < (o100003.length : Int)) then
            (bif decide (v4.toNat < o100003.length) then
              (w_toStepS_l3 k v0 (IntKind.i64.wrap (v4 + (1 : Int))) (o100003.set v4.toNat (y1.1, ((y1.2.1, y1.2.2.1), y1.2.2.2))))
            else (none))
          else (none))
        else (none))
      else (none))
    else (none))
  else (some o100003) := by kernel_rfl
theorem w_toTrick_eq (k : Nat) (x0 : (List Int) × (List (Int × (Int × Int) × Int)) × Int × Int × Int) : w_toTrick (k + 1) x0 =
  (w_toIntS k x0.1).bind fun y1 =>
  (w_toStepS k x0.2.1).bind fun y2 =>
  some (y1, (y2, x0.2.2)) := by kernel_rfl
theorem s_SameTrick_eq (k : Nat) (x0 : (List Int) × (List (Int × (Int × Int) × Int)) × Int × Int × Int) (x1 : (List Int) × (List (Int × (Int × Int) × Int)) × Int × Int × Int) : s_SameTrick (k + 1) (x0, x1) =
  (s_SamePacket k (x0.1, x1.1)).bind fun y1 =>
  bif (!y1) then
    (some false)
  else (bif (!((x0.2.1.length : Int) == (x1.2.1.length : Int))) then
      (some false)
    else (bif (!(x0.2.2.1 == x1.2.2.1)) then
        (some false)
      else (bif (!(x0.2.2.2.1 == x1.2.2.2.1)) then
          (some false)
        else (bif (!(x0.2.2.2.2 == x1.2.2.2.2)) then
            (some false)
          else (s_SameTrick_l4 k x0.2.1 (x0.2.1.length : Int) (0 : Int) x1.1 x1.2.1 x1.2.2.1 x1.2.2.2.1 x1.2.2.2.2))))) := by kernel_rfl
theorem s_SameTrick_l4_eq (k : Nat) (v44 : List (Int × (Int × Int) × Int)) (v45 : Int) (v46 : Int) (o200003_0 : List Int) (o200003_1 : List (Int × (Int × Int) × Int)) (o200003_2 : Int) (o200003_3 : Int) (o200003_4 : Int) : s_SameTrick_l4 (k + 1) v44 v45 v46 o200003_0 o200003_1 o200003_2 o200003_3 o200003_4 =
  bif decide (v46 < v45) then
    (bif decide (0 ≤ v46) then
      (bif decide (v46 < (v44.length : Int)) then
        (bif decide (0 ≤ v46) then
          (bif decide (v46 < (o200003_1.length : Int)) then
            (bif (!((((v44.getD v46.toNat ((0 : Int), (((0 : Int), (0 : Int)), (0 : Int)))).1) == ((o200003_1.getD v46.toNat ((0 : Int), (((0 : Int), (0 : Int)), (0 : Int)))).1)) && ((((((v44.getD v46.toNat ((0 : Int), (((0 : Int), (0 : Int)), (0 : Int)))).2).1).1) == ((((o200003_1.getD v46.toNat ((0 : Int), (((0 : Int), (0 : Int)), (0 : Int)))).2).1).1)) && ((((((v44.getD v46.toNat ((0 : Int), (((0 : Int), (0 : Int)), (0 : Int)))).2).1).2) == ((((o200003_1.getD v46.toNat ((0 : Int), (((0 : Int), (0 : Int)), (0 : Int)))).2).1).2)) && (((((v44.getD v46.toNat ((0 : Int), (((0 : Int), (0 : Int)), (0 : Int)))).2).2) == (((o200003_1.getD v46.toNat ((0 : Int), (((0 : Int), (0 : Int)), (0 : Int)))).2).2)) && true))))) then
              (some false)
            else (s_SameTrick_l4 k v44 v45 (IntKind.i64.wrap (v46 + (1 : Int))) o200003_0 o200003_1 o200003_2 o200003_3 o200003_4))
          else (none))
        else (none))
      else (none))
    else (none))
  else (some true) := by kernel_rfl
theorem slices_Equal_i_Step_eq (k : Nat) (x0 : List (Int × (Int × Int) × Int)) (x1 : List (Int × (Int × Int) × Int)) : slices_Equal_i_Step (k + 1) (x0, x1) =
  bif (!((x0.length : Int) == (x1.length : Int))) then
    (some false)
  else (slices_Equal_i_Step_l4 k x0 x1 (x0.length : Int) (0 : Int)) := by kernel_rfl
theorem slices_Equal_i_Step_l4_eq (k : Nat) (v0 : List (Int × (Int × Int) × Int)) (v1 : List (Int × (Int × Int) × Int)) (v12 : Int) (v13 : Int) : slices_Equal_i_Step_l4 (k + 1) v0 v1 v12 v13 =
  bif decide (v13 < v12) then
    (bif decide (0 ≤ v13) then
      (bif decide (v13 < (v0.length : Int)) then
        (bif decide (0 ≤ v13) then
          (bif decide (v13 < (v1.length : Int)) then
            (bif (!((((v0.getD v13.toNat ((0 : Int), (((0 : Int), (0 : Int)), (0 : Int)))).1) == ((v1.getD v13.toNat ((0 : Int), (((0 : Int), (0 : Int)), (0 : Int)))).1)) && ((((((v0.getD v13.toNat ((0 : Int), (((0 : Int), (0 : Int)), (0 : Int)))).2).1).1) == ((((v1.getD v13.toNat ((0 : Int), (((0 : Int), (0 : Int)), (0 : Int)))).2).1).1)) && ((((((v0.getD v13.toNat ((0 : Int), (((0 : Int), (0 : Int)), (0 : Int)))).2).1).2) == ((((v1.getD v13.toNat ((0 : Int), (((0 : Int), (0 : Int)), (0 : Int)))).2).1).2)) && (((((v0.getD v13.toNat ((0 : Int), (((0 : Int), (0 : Int)), (0 : Int)))).2).2) == (((v1.getD v13.toNat ((0 : Int), (((0 : Int), (0 : Int)), (0 : Int)))).2).2)) && true))))) then
              (some false)
            else (slices_Equal_i_Step_l4 k v0 v1 v12 (IntKind.i64.wrap (v13 + (1 : Int)))))
          else (none))
        else (none))
      else (none))
    else (none))
  else (some true) := by kernel_rfl
theorem i_SameTrick_eq (k : Nat) (x0 : (List Int) × (List (Int × (Int × Int) × Int)) × Int × Int × Int) (x1 : (List Int) × (List (Int × (Int × Int) × Int)) × Int × Int × Int) : i_SameTrick (k + 1) (x0, x1) =
  (slices_Equal_int k (x0.1, x1.1)).bind fun y1 =>
  bif y1 then
    ((slices_Equal_i_Step k (x0.2.1, x1.2.1)).bind fun y2 =>
    bif y2 then
      (bif (x0.2.2.1 == x1.2.2.1) then
        (bif (x0.2.2.2.1 == x1.2.2.2.1) then
          (some (x0.2.2.2.2 == x1.2.2.2.2))
        else (some false))
      else (some false))
    else (some false))
  else (some false) := by kernel_rfl
theorem w_eqMove_eq (k : Nat) (x0 : Int × Int) (x1 : Int × Int) : w_eqMove (k + 1) (x0, x1) =
  bif (!(x0.1 == x1.1)) then
    (some false)
  else (bif (!(x0.2 == x1.2)) then
      (some false)
    else (some true)) := by kernel_rfl
theorem w_eqStep_eq (k : Nat) (x0 : Int × (Int × Int) × Int) (x1 : Int × (Int × Int) × Int) : w_eqStep (k + 1) (x0, x1) =
  bif (!(x0.1 == x1.1)) then
    (some false)
  else ((w_eqMove k (x0.2.1, x1.2.1)).bind fun y1 =>
    bif (!y1) then
      (some false)
    else (bif (!(x0.2.2 == x1.2.2)) then
        (some false)
      else (some true))) := by kernel_rfl
theorem w_eqStepS_eq (k : Nat) (x0 : List (Int × (Int × Int) × Int)) (x1 : List (Int × (Int × Int) × Int)) : w_eqStepS (k + 1) (x0, x1) =
  bif (!((x0.length : Int) == (x1.length : Int))) then
    (some false)
  else (w_eqStepS_l4 k x0 x1 (0 : Int)) := by kernel_rfl
theorem w_eqStepS_l4_eq (k : Nat) (v0 : List (Int × (Int × Int) × Int)) (v1 : List (Int × (Int × Int) × Int)) (v5 : Int) : w_eqStepS_l4 (k + 1) v0 v1 v5 =
  bif decide (v5 < (v0.length : Int)) then
    (bif decide (0 ≤ v5) then
      (bif decide (v5 < (v0.length : Int)) then
        (bif decide (0 ≤ v5) then
          (bif decide (v5 < (v1.length : Int)) then
            ((w_eqStep k (((v0.getD v5.toNat ((0 : Int), (((0 : Int), (0 : Int)), (0 : Int)))).1, ((((v0.getD v5.toNat ((0 : Int), (((0 : Int), (0 : Int)), (0 : Int)))).2).1), ((v0.getD v5.toNat ((0 : Int), (((0 : Int), (0 : Int)), (0 : Int)))).2).2)), ((v1.getD v5.toNat ((0 : Int), (((0 : Int), (0 : Int)), (0 : Int)))).1, ((((v1.getD v5.toNat ((0 : Int), (((0 : Int), (0 : Int)), (0 : Int)))).2).1), ((v1.getD v5.toNat ((0 : Int), (((0 : Int), (0 : Int)), (0 : Int)))).2).2)))).bind fun y1 =>
            bif (!y1) then
              (some false)
            else (w_eqStepS_l4 k v0 v1 (IntKind.i64.wrap (v5 + (1 : Int)))))
          else (none))
        else (none))
      else (none))
    else (none))
  else (some true) := by kernel_rfl
theorem w_eqTrick_eq (k : Nat) (x0 : (List Int) × (List (Int × (Int × Int) × Int)) × Int × Int × Int) (x1 : (List Int) × (List (Int × (Int × Int) × Int)) × Int × Int × Int) : w_eqTrick (k + 1) (x0, x1) =
  (w_eqIntS k (x0.1, x1.1)).bind fun y1 =>
  bif (!y1) then
    (some false)
  else ((w_eqStepS k (x0.2.1, x1.2.1)).bind fun y2 =>
    bif (!y2) then
      (some false)
    else (bif (!(x0.2.2.1 == x1.2.2.1)) then
        (some false)
      else (bif (!(x0.2.2.2.1 == x1.2.2.2.1)) then
          (some false)
        else (bif (!(x0.2.2.2.2 == x1.2.2.2.2)) then
            (some false)
          else (some true))))) := by kernel_rfl
theorem w_FnExactSameTrick_eq (k : Nat) (x0 : (List Int) × (List (Int × (Int × Int) × Int)) × Int × Int × Int) (x1 : (List Int) × (List (Int × (Int × Int) × Int)) × Int × Int × Int) : w_FnExactSameTrick (k + 1) (x0, x1) =
  (w_szTrick k (x0, (1048576 : Int))).bind fun y1 =>
  bif decide (y1 < (0 : Int)) then
    (some true)
  else ((w_szTrick k (x1, y1)).bind fun y2 =>
    bif decide (y2 < (0 : Int)) then
      (some true)
    else ((w_toTrick k x0).bind fun y3 =>
      (w_toTrick k x1).bind fun y4 =>
      (s_SameTrick k (y3, y4)).bind fun y5 =>
      (w_toTrick k x0).bind fun y6 =>
      (w_toTrick k x1).bind fun y7 =>
      (i_SameTrick k (y6, y7)).bind fun y8 =>
      bif (!(y8 == y5)) then
        (some false)
      else ((w_toTrick k x0).bind fun y9 =>
        (w_eqTrick k (y6, y9)).bind fun y10 =>
        bif (!y10) then
          (some false)
        else ((w_toTrick k x1).bind fun y11 =>
          (w_eqTrick k (y7, y11)).bind fun y12 =>
          bif (!y12) then
            (some false)
          else (some true))))) := by kernel_rfl
theorem s_NextWays_eq (k : Nat) (x0 : Int) (x1 : List Int) : s_NextWays (k + 1) (x0, x1) =
  (s_l19Ok k (x0, x1)).bind fun y1 =>
  bif (!y1) then
    (some [])
  else (bif ((x1.length : Int) == x0) then
      (some [])
    else (s_NextWays_l5 k x0 x1 (0 : Int) ([] : List Int))) := by kernel_rfl
theorem s_NextWays_l5_eq (k : Nat) (v0 : Int) (v1 : List Int) (v6 : Int) (o100005 : List Int) : s_NextWays_l5 (k + 1) v0 v1 v6 o100005 =
  bif decide (v6 < v0) then
    ((s_l02Has k (v1, v6)).bind fun y1 =>
    bif y1 then
      (bif decide (o100005.length + [(0 : Int)].length ≤ rowMax) then
        (s_NextWays_l5 k v0 v1 (IntKind.i64.wrap (v6 + (1 : Int))) (o100005 ++ [(0 : Int)]))
      else (none))
    else (bif decide (([] : List Int).length + v1.length ≤ rowMax) then
        (bif decide ((([] : List Int) ++ v1).length + [v6].length ≤ rowMax) then
          ((s_WaysWith k (v0, ((([] : List Int) ++ v1) ++ [v6]))).bind fun y2 =>
          bif decide (o100005.length + [y2].length ≤ rowMax) then
            (s_NextWays_l5 k v0 v1 (IntKind.i64.wrap (v6 + (1 : Int))) (o100005 ++ [y2]))
          else (none))
        else (none))
      else (none)))
  else (bif (!o100005.isEmpty) then
      (some o100005)
    else (none)) := by kernel_rfl
theorem i_NextWays_eq (k : Nat) (x0 : Int) (x1 : List Int) : i_NextWays (k + 1) (x0, x1) =
  (i_isPrefix k (x0, x1)).bind fun y1 =>
  bif (!y1) then
    (some [])
  else (bif ((x1.length : Int) == x0) then
      (some [])
    else ((i_upTo k x0).bind fun y2 =>
      bif decide (0 ≤ x0) then
        (bif decide (x0 ≤ (rowMax : Int)) then
          (bif (x0 == x0) then
            (i_NextWays_l5 k x0 x1 (0 : Int) y2 (List.replicate x0.toNat (0 : Int)))
          else (none))
        else (none))
      else (none))) := by kernel_rfl
theorem i_NextWays_l5_eq (k : Nat) (v0 : Int) (v1 : List Int) (v7 : Int) (o100005 : List Int) (o100006 : List Int) : i_NextWays_l5 (k + 1) v0 v1 v7 o100005 o100006 =
  bif decide (0 ≤ v0) then
    (bif decide (v7 < (IntKind.i64.wrap ((1 : Int) * 2 ^ (min v0.toNat IntKind.i64.bits)))) then
      ((i_riffled k (o100005, v7)).bind fun y1 =>
      bif decide (0 ≤ (v1.length : Int)) then
        (bif decide ((v1.length : Int) ≤ (y1.length : Int)) then
          ((slices_Equal_int k (((y1.take (v1.length : Int).toNat).drop 0), v1)).bind fun y2 =>
          bif y2 then
            (bif decide (0 ≤ (v1.length : Int)) then
              (bif decide ((v1.length : Int) < (y1.length : Int)) then
                (bif decide (0 ≤ (y1.getD (v1.length : Int).toNat (0 : Int))) then
                  (bif decide ((y1.getD (v1.length : Int).toNat (0 : Int)) < (o100006.length : Int)) then
                    (bif decide ((y1.getD (v1.length : Int).toNat (0 : Int)).toNat < o100006.length) then
                      (bif decide (0 ≤ (y1.getD (v1.length : Int).toNat (0 : Int))) then
                        (bif decide ((y1.getD (v1.length : Int).toNat (0 : Int)) < (o100006.length : Int)) then
                          (bif decide ((y1.getD (v1.length : Int).toNat (0 : Int)).toNat < o100006.length) then
                            (i_NextWays_l5 k v0 v1 (IntKind.i64.wrap (v7 + (1 : Int))) o100005 (o100006.set (y1.getD (v1.length : Int).toNat (0 : Int)).toNat (IntKind.i64.wrap ((o100006.getD (y1.getD (v1.length : Int).toNat (0 : Int)).toNat (0 : Int)) + (1 : Int)))))
                          else (none))
                        else (none))
                      else (none))
                    else (none))
                  else (none))
                else (none))
              else (none))
            else (none))
          else (i_NextWays_l5 k v0 v1 (IntKind.i64.wrap (v7 + (1 : Int))) o100005 o100006))
        else (none))
      else (none))
    else (bif (!o100006.isEmpty) then
        (some o100006)
      else (none)))
  else (none) := by kernel_rfl
theorem w_markIntS_eq (k : Nat) (x0 : List Int) (x1 : Int) : w_markIntS (k + 1) (x0, x1) =
  w_markIntS_l2 k x1 (0 : Int) x0 := by kernel_rfl
theorem w_markIntS_l2_eq (k : Nat) (v1 : Int) (v5 : Int) (o500000 : List Int) : w_markIntS_l2 (k + 1) v1 v5 o500000 =
  bif decide (v5 < (o500000.length : Int)) then
    (bif decide (0 ≤ v5) then
      (bif decide (v5 < (o500000.length : Int)) then
        (bif decide (v5.toNat < o500000.length) then
          (w_markIntS_l2 k (IntKind.i64.wrap (v1 + (1 : Int))) (IntKind.i64.wrap (v5 + (1 : Int))) (o500000.set v5.toNat v1))
        else (none))
      else (none))
    else (none))
  else (some (v1, o500000)) := by kernel_rfl
theorem w_heldIntS_eq (k : Nat) (x0 : List Int) (x1 : Int) : w_heldIntS (k + 1) (x0, x1) =
  w_heldIntS_l2 k x0 x1 (0 : Int) := by kernel_rfl
theorem w_heldIntS_l2_eq (k : Nat) (v0 : List Int) (v1 : Int) (v5 : Int) : w_heldIntS_l2 (k + 1) v0 v1 v5 =
  bif decide (v5 < (v0.length : Int)) then
    (bif decide (0 ≤ v5) then
      (bif decide (v5 < (v0.length : Int)) then
        (bif (!((v0.getD v5.toNat (0 : Int)) == v1)) then
          (some (-1 : Int))
        else (w_heldIntS_l2 k v0 (IntKind.i64.wrap (v1 + (1 : Int))) (IntKind.i64.wrap (v5 + (1 : Int)))))
      else (none))
    else (none))
  else (some v1) := by kernel_rfl
theorem w_FnExactNextWays_eq (k : Nat) (x0 : Int) (x1 : List Int) : w_FnExactNextWays (k + 1) (x0, x1) =
  bif decide ((x1.length : Int) > (1048576 : Int)) then
    (some true)
  else ((w_toIntS k x1).bind fun y1 =>
    (s_NextWays k (x0, y1)).bind fun y2 =>
    (w_toIntS k x1).bind fun y3 =>
    (i_NextWays k (x0, y3)).bind fun y4 =>
    (w_eqIntS k (y4, y2)).bind fun y5 =>
    bif (!y5) then
      (some false)
    else ((w_toIntS k x1).bind fun y6 =>
      (w_eqIntS k (y3, y6)).bind fun y7 =>
      bif (!y7) then
        (some false)
      else ((w_markIntS k (y3, (1 : Int))).bind fun y8 =>
        bif decide (y8.1 < (0 : Int)) then
          (some false)
        else ((w_eqIntS k (y4, y2)).bind fun y9 =>
          bif (!y9) then
            (some false)
          else ((w_markIntS k (y4, (1 : Int))).bind fun y10 =>
            (w_heldIntS k (y10.2, (1 : Int))).bind fun y11 =>
            bif decide (y11 < (0 : Int)) then
              (some false)
            else (bif (!(y11 == y10.1)) then
                (some false)
              else ((w_toIntS k x1).bind fun y12 =>
                (i_NextWays k (x0, y12)).bind fun y13 =>
                (w_eqIntS k (y13, y2)).bind fun y14 =>
                bif (!y14) then
                  (some false)
                else ((w_heldIntS k (y10.2, (1 : Int))).bind fun y15 =>
                  bif decide (y15 < (0 : Int)) then
                    (some false)
                  else (bif (!(y15 == y10.1)) then
                      (some false)
                    else (some true)))))))))) := by kernel_rfl
theorem s_BestGuess_eq (k : Nat) (x0 : Int) (x1 : List Int) : s_BestGuess (k + 1) (x0, x1) =
  (s_NextWays k (x0, x1)).bind fun y1 =>
  s_BestGuess_l4 k (-1 : Int) (0 : Int) (y1.length : Int) (0 : Int) y1 := by kernel_rfl
theorem s_BestGuess_l4_eq (k : Nat) (v5 : Int) (v6 : Int) (v12 : Int) (v13 : Int) (o100011 : List Int) : s_BestGuess_l4 (k + 1) v5 v6 v12 v13 o100011 =
  bif decide (v13 < v12) then
    (bif decide (0 ≤ v13) then
      (bif decide (v13 < (o100011.length : Int)) then
        (bif decide (v13.toNat < o100011.length) then
          (bif decide ((o100011.getD v13.toNat (0 : Int)) > v6) then
            (s_BestGuess_l4 k v13 (o100011.getD v13.toNat (0 : Int)) v12 (IntKind.i64.wrap (v13 + (1 : Int))) o100011)
          else (s_BestGuess_l4 k v5 v6 v12 (IntKind.i64.wrap (v13 + (1 : Int))) o100011))
        else (none))
      else (none))
    else (none))
  else (some v5) := by kernel_rfl
theorem slices_Max_int_eq (k : Nat) (x0 : List Int) : slices_Max_int (k + 1) x0 =
  bif decide ((x0.length : Int) < (1 : Int)) then
    (none)
  else (bif decide ((0 : Int) < (x0.length : Int)) then
      (slices_Max_int_l5 k x0 (x0.getD 0 (0 : Int)) (1 : Int))
    else (none)) := by kernel_rfl
theorem slices_Max_int_l5_eq (k : Nat) (v0 : List Int) (v3 : Int) (v4 : Int) : slices_Max_int_l5 (k + 1) v0 v3 v4 =
  bif decide (v4 < (v0.length : Int)) then
    (bif decide (0 ≤ v4) then
      (bif decide (v4 < (v0.length : Int)) then
        (slices_Max_int_l5 k v0 (bif decide ((v0.getD v4.toNat (0 : Int)) > v3) then (v0.getD v4.toNat (0 : Int)) else v3) (IntKind.i64.wrap (v4 + (1 : Int))))
      else (none))
    else (none))
  else (some v3) := by kernel_rfl
theorem i_BestGuess_eq (k : Nat) (x0 : Int) (x1 : List Int) : i_BestGuess (k + 1) (x0, x1) =
  (i_NextWays k (x0, x1)).bind fun y1 =>
  bif y1.isEmpty then
    (some (-1 : Int))
  else ((slices_Max_int k y1).bind fun y2 =>
    bif (y2 == (0 : Int)) then
      (some (-1 : Int))
    else ((slices_Max_int k y1).bind fun y3 =>
      (slices_Index_int k (y1, y3)).bind fun y4 =>
      some y4)) := by kernel_rfl
theorem w_FnExactBestGuess_eq (k : Nat) (x0 : Int) (x1 : List Int) : w_FnExactBestGuess (k + 1) (x0, x1) =
  bif decide ((x1.length : Int) > (1048576 : Int)) then
    (some true)
  else ((w_toIntS k x1).bind fun y1 =>
    (s_BestGuess k (x0, y1)).bind fun y2 =>
    (w_toIntS k x1).bind fun y3 =>
    (i_BestGuess k (x0, y3)).bind fun y4 =>
    bif (!(y4 == y2)) then
      (some false)
    else ((w_toIntS k x1).bind fun y5 =>
      (w_eqIntS k (y3, y5)).bind fun y6 =>
      bif (!y6) then
        (some false)
      else (some true))) := by kernel_rfl
theorem s_l19Total_eq (k : Nat) (x0 : Int) (x1 : List Int) : s_l19Total (k + 1) (x0, x1) =
  (s_NextWays k (x0, x1)).bind fun y1 =>
  s_l19Total_l5 k x0 x1 (0 : Int) (0 : Int) (y1.length : Int) (0 : Int) y1 := by kernel_rfl
theorem s_l19Total_l5_eq (k : Nat) (v0 : Int) (v1 : List Int) (v6 : Int) (v7 : Int) (v14 : Int) (v15 : Int) (o100013 : List Int) : s_l19Total_l5 (k + 1) v0 v1 v6 v7 v14 v15 o100013 =
  bif decide (v15 < v14) then
    (bif decide (0 ≤ v15) then
      (bif decide (v15 < (o100013.length : Int)) then
        (bif decide (v15.toNat < o100013.length) then
          (bif decide ((o100013.getD v15.toNat (0 : Int)) > (0 : Int)) then
            (bif decide (([] : List Int).length + v1.length ≤ rowMax) then
              (bif decide ((([] : List Int) ++ v1).length + [v15].length ≤ rowMax) then
                ((s_l19Total k (v0, ((([] : List Int) ++ v1) ++ [v15]))).bind fun y1 =>
                s_l19Total_l5 k v0 v1 (bif decide ((o100013.getD v15.toNat (0 : Int)) > v6) then (o100013.getD v15.toNat (0 : Int)) else v6) (IntKind.i64.wrap (v7 + y1)) v14 (IntKind.i64.wrap (v15 + (1 : Int))) o100013)
              else (none))
            else (none))
          else (s_l19Total_l5 k v0 v1 (bif decide ((o100013.getD v15.toNat (0 : Int)) > v6) then (o100013.getD v15.toNat (0 : Int)) else v6) v7 v14 (IntKind.i64.wrap (v15 + (1 : Int))) o100013))
        else (none))
      else (none))
    else (none))
  else (some (IntKind.i64.wrap (v6 + v7))) := by kernel_rfl
theorem s_GuessTotal_eq (k : Nat) (x0 : Int) : s_GuessTotal (k + 1) x0 =
  (s_l01In k (x0, ((1 : Int), (8 : Int)))).bind fun y1 =>
  bif (!y1) then
    (some (-1 : Int))
  else ((s_l19Total k (x0, [])).bind fun y2 =>
    some y2) := by kernel_rfl
theorem slices_Clone_int_eq (k : Nat) (x0 : List Int) : slices_Clone_int (k + 1) x0 =
  bif (!x0.isEmpty) then
    (bif decide (([] : List Int).length + x0.length ≤ rowMax) then
      (some (([] : List Int) ++ x0))
    else (none))
  else (both (rs := flatRs slices_Clone_int_fi.rs) (ios := ioOf slices_Clone_int_fi.ps) (some [])
    (bif decide (([] : List Int).length + x0.length ≤ rowMax) then
        (some (([] : List Int) ++ x0))
      else (none))) := by kernel_rfl
theorem i_total_eq (k : Nat) (x0 : Int) (x1 : List Int) : i_total (k + 1) (x0, x1) =
  (i_NextWays k (x0, x1)).bind fun y1 =>
  bif y1.isEmpty then
    (some (0 : Int))
  else ((slices_Max_int k y1).bind fun y2 =>
    i_total_l6 k x0 x1 y2 (y1.length : Int) (0 : Int) y1) := by kernel_rfl
theorem i_total_l6_eq (k : Nat) (v0 : Int) (v1 : List Int) (v6 : Int) (v17 : Int) (v18 : Int) (o100016 : List Int) : i_total_l6 (k + 1) v0 v1 v6 v17 v18 o100016 =
  bif decide (v18 < v17) then
    (bif decide (0 ≤ v18) then
      (bif decide (v18 < (o100016.length : Int)) then
        (bif decide (v18.toNat < o100016.length) then
          (bif decide ((o100016.getD v18.toNat (0 : Int)) > (0 : Int)) then
            ((slices_Clone_int k v1).bind fun y1 =>
            bif decide (y1.length + [v18].length ≤ rowMax) then
              ((i_total k (v0, (y1 ++ [v18]))).bind fun y2 =>
              i_total_l6 k v0 v1 (IntKind.i64.wrap (v6 + y2)) v17 (IntKind.i64.wrap (v18 + (1 : Int))) o100016)
            else (none))
          else (i_total_l6 k v0 v1 v6 v17 (IntKind.i64.wrap (v18 + (1 : Int))) o100016))
        else (none))
      else (none))
    else (none))
  else (some v6) := by kernel_rfl
theorem i_GuessTotal_eq (k : Nat) (x0 : Int) : i_GuessTotal (k + 1) x0 =
  bif decide (x0 < (1 : Int)) then
    (some (-1 : Int))
  else (bif decide (x0 > (8 : Int)) then
      (some (-1 : Int))
    else ((i_total k (x0, [])).bind fun y1 =>
      some y1)) := by kernel_rfl
theorem w_FnExactGuessTotal_eq (k : Nat) (x0 : Int) : w_FnExactGuessTotal (k + 1) x0 =
  (s_GuessTotal k x0).bind fun y1 =>
  (i_GuessTotal k x0).bind fun y2 =>
  bif (!(y2 == y1)) then
    (some false)
  else (some true) := by kernel_rfl
theorem w_szIntSS_eq (k : Nat) (x0 : List (List Int)) (x1 : Int) : w_szIntSS (k + 1) (x0, x1) =
  bif decide ((IntKind.i64.wrap (x1 - (x0.length : Int))) < (0 : Int)) then
    (some (-1 : Int))
  else (w_szIntSS_l5 k x0 (IntKind.i64.wrap (x1 - (x0.length : Int))) (0 : Int)) := by kernel_rfl
theorem w_szIntSS_l5_eq (k : Nat) (v0 : List (List Int)) (v1 : Int) (v5 : Int) : w_szIntSS_l5 (k + 1) v0 v1 v5 =
  bif decide (v5 < (v0.length : Int)) then
    (bif decide (0 ≤ v5) then
      (bif decide (v5 < (v0.length : Int)) then
        ((w_szIntS k ((v0.getD v5.toNat []), v1)).bind fun y1 =>
        bif decide (y1 < (0 : Int)) then
          (some (-1 : Int))
        else (w_szIntSS_l5 k v0 y1 (IntKind.i64.wrap (v5 + (1 : Int)))))
      else (none))
    else (none))
  else (some v1) := by kernel_rfl
theorem w_toIntSS_eq (k : Nat) (x0 : List (List Int)) : w_toIntSS (k + 1) x0 =
  bif decide (0 ≤ (x0.length : Int)) then
    (bif decide ((x0.length : Int) ≤ (rowMax : Int)) then
      (bif ((x0.length : Int) == (x0.length : Int)) then
        (w_toIntSS_l3 k x0 (0 : Int) (List.replicate (x0.length : Int).toNat []))
      else (none))
    else (none))
  else (none) := by kernel_rfl
theorem w_toIntSS_l3_eq (k : Nat) (v0 : List (List Int)) (v4 : Int) (o100003 : List (List Int)) : w_toIntSS_l3 (k + 1) v0 v4 o100003 =
  bif decide (v4 < (v0.length : Int)) then
    (bif decide (0 ≤ v4) then
      (bif decide (v4 < (v0.length : Int)) then
        ((w_toIntS k (v0.getD v4.toNat [])).bind fun y1 =>
        bif decide (0 ≤ v4) then
          (bif decide (v4 < (o100003.length : Int)) then
            (bif decide (v4.toNat < o100003.length) then
              (w_toIntSS_l3 k v0 (IntKind.i64.wrap (v4 + (1 : Int))) (o100003.set v4.toNat y1))
            else (none))
          else (none))
        else (none))
      else (none))
    else (none))
  else (some o100003) := by kernel_rfl
theorem s_CardOf_eq (k : Nat) (x0 : Int) : s_CardOf (k + 1) x0 =
  (s_l01In k (x0, ((0 : Int), (11 : Int)))).bind fun y1 =>
  bif y1 then
    (some x0)
  else ((s_l01In k (x0, ((-12 : Int), (-1 : Int)))).bind fun y2 =>
    bif y2 then
      (some (IntKind.i64.wrap ((-1 : Int) - x0)))
    else (some (-1 : Int))) := by kernel_rfl
theorem s_PacketOk_eq (k : Nat) (x0 : List Int) : s_PacketOk (k + 1) x0 =
  bif decide ((x0.length : Int) > (12 : Int)) then
    (some false)
  else (s_PacketOk_l5 k x0 (x0.length : Int) (0 : Int) ([] : List Int)) := by kernel_rfl
theorem s_PacketOk_l5_eq (k : Nat) (v11 : List Int) (v12 : Int) (v13 : Int) (o100003 : List Int) : s_PacketOk_l5 (k + 1) v11 v12 v13 o100003 =
  bif decide (v13 < v12) then
    (bif decide (0 ≤ v13) then
      (bif decide (v13 < (v11.length : Int)) then
        ((s_CardOf k (v11.getD v13.toNat (0 : Int))).bind fun y1 =>
        bif decide (y1 < (0 : Int)) then
          (some false)
        else ((s_l02Has k (o100003, y1)).bind fun y2 =>
          bif y2 then
            (some false)
          else (bif decide (o100003.length + [y1].length ≤ rowMax) then
              (s_PacketOk_l5 k v11 v12 (IntKind.i64.wrap (v13 + (1 : Int))) (o100003 ++ [y1]))
            else (none))))
      else (none))
    else (none))
  else (some true) := by kernel_rfl
theorem s_PositionOf_eq (k : Nat) (x0 : List Int) (x1 : Int) : s_PositionOf (k + 1) (x0, x1) =
  s_PositionOf_l2 k x1 x0 (x0.length : Int) (0 : Int) := by kernel_rfl
theorem s_PositionOf_l2_eq (k : Nat) (v1 : Int) (v7 : List Int) (v8 : Int) (v9 : Int) : s_PositionOf_l2 (k + 1) v1 v7 v8 v9 =
  bif decide (v9 < v8) then
    (bif decide (0 ≤ v9) then
      (bif decide (v9 < (v7.length : Int)) then
        ((s_CardOf k (v7.getD v9.toNat (0 : Int))).bind fun y1 =>
        bif (y1 == v1) then
          (bif decide (v1 ≥ (0 : Int)) then
            (some v9)
          else (s_PositionOf_l2 k v1 v7 v8 (IntKind.i64.wrap (v9 + (1 : Int)))))
        else (s_PositionOf_l2 k v1 v7 v8 (IntKind.i64.wrap (v9 + (1 : Int)))))
      else (none))
    else (none))
  else (some (-1 : Int)) := by kernel_rfl
theorem s_IsArrangement_eq (k : Nat) (x0 : List Int) (x1 : List Int) : s_IsArrangement (k + 1) (x0, x1) =
  (s_PacketOk k x0).bind fun y1 =>
  bif (!y1) then
    (some false)
  else ((s_PacketOk k x1).bind fun y2 =>
    bif (!y2) then
      (some false)
    else (bif (!((x0.length : Int) == (x1.length : Int))) then
        (some false)
      else (s_IsArrangement_l4 k x1 x0 (x0.length : Int) (0 : Int)))) := by kernel_rfl
theorem s_IsArrangement_l4_eq (k : Nat) (v1 : List Int) (v22 : List Int) (v23 : Int) (v24 : Int) : s_IsArrangement_l4 (k + 1) v1 v22 v23 v24 =
  bif decide (v24 < v23) then
    (bif decide (0 ≤ v24) then
      (bif decide (v24 < (v22.length : Int)) then
        ((s_CardOf k (v22.getD v24.toNat (0 : Int))).bind fun y1 =>
        (s_PositionOf k (v1, y1)).bind fun y2 =>
        bif decide (y2 < (0 : Int)) then
          (some false)
        else (s_IsArrangement_l4 k v1 v22 v23 (IntKind.i64.wrap (v24 + (1 : Int)))))
      else (none))
    else (none))
  else (some true) := by kernel_rfl
theorem s_l05Less_eq (k : Nat) (x0 : List Int) (x1 : List Int) : s_l05Less (k + 1) (x0, x1) =
  s_l05Less_l2 k x0 x1 x0 (x0.length : Int) (0 : Int) := by kernel_rfl
theorem s_l05Less_l2_eq (k : Nat) (v0 : List Int) (v1 : List Int) (v7 : List Int) (v8 : Int) (v9 : Int) : s_l05Less_l2 (k + 1) v0 v1 v7 v8 v9 =
  bif decide (v9 < v8) then
    (bif decide (0 ≤ v9) then
      (bif decide (v9 < (v7.length : Int)) then
        (bif decide (v9 ≥ (v1.length : Int)) then
          (some false)
        else (bif decide (0 ≤ v9) then
            (bif decide (v9 < (v1.length : Int)) then
              (bif (!((v7.getD v9.toNat (0 : Int)) == (v1.getD v9.toNat (0 : Int)))) then
                (bif decide (0 ≤ v9) then
                  (bif decide (v9 < (v1.length : Int)) then
                    (some (decide ((v7.getD v9.toNat (0 : Int)) < (v1.getD v9.toNat (0 : Int)))))
                  else (none))
                else (none))
              else (s_l05Less_l2 k v0 v1 v7 v8 (IntKind.i64.wrap (v9 + (1 : Int)))))
            else (none))
          else (none)))
      else (none))
    else (none))
  else (some (decide ((v0.length : Int) < (v1.length : Int)))) := by kernel_rfl
theorem s_KnowOk_eq (k : Nat) (x0 : List (List Int)) : s_KnowOk (k + 1) x0 =
  (s_l01In k ((x0.length : Int), ((1 : Int), (3000 : Int)))).bind fun y1 =>
  bif (!y1) then
    (some false)
  else (bif decide ((0 : Int) < (x0.length : Int)) then
      (bif (((x0.getD 0 []).length : Int) == (0 : Int)) then
        (some false)
      else (s_KnowOk_l4 k x0 x0 (x0.length : Int) (0 : Int)))
    else (none)) := by kernel_rfl
theorem s_KnowOk_l4_eq (k : Nat) (v0 : List (List Int)) (v16 : List (List Int)) (v17 : Int) (v18 : Int) : s_KnowOk_l4 (k + 1) v0 v16 v17 v18 =
  bif decide (v18 < v17) then
    (bif decide (0 ≤ v18) then
      (bif decide (v18 < (v16.length : Int)) then
        (bif decide ((0 : Int) < (v0.length : Int)) then
          ((s_IsArrangement k ((v0.getD 0 []), (v16.getD v18.toNat []))).bind fun y1 =>
          bif (!y1) then
            (some false)
          else (bif decide (v18 > (0 : Int)) then
              (bif decide (0 ≤ (IntKind.i64.wrap (v18 - (1 : Int)))) then
                (bif decide ((IntKind.i64.wrap (v18 - (1 : Int))) < (v0.length : Int)) then
                  ((s_l05Less k ((v0.getD (IntKind.i64.wrap (v18 - (1 : Int))).toNat []), (v16.getD v18.toNat []))).bind fun y2 =>
                  bif (!y2) then
                    (some false)
                  else (s_KnowOk_l4 k v0 v16 v17 (IntKind.i64.wrap (v18 + (1 : Int)))))
                else (none))
              else (none))
            else (s_KnowOk_l4 k v0 v16 v17 (IntKind.i64.wrap (v18 + (1 : Int))))))
        else (none))
      else (none))
    else (none))
  else (some true) := by kernel_rfl
theorem s_KnownAt_eq (k : Nat) (x0 : List (List Int)) (x1 : Int) : s_KnownAt (k + 1) (x0, x1) =
  (s_KnowOk k x0).bind fun y1 =>
  bif (!y1) then
    (some (-1 : Int))
  else (bif decide ((0 : Int) < (x0.length : Int)) then
      ((s_l01In k (x1, ((0 : Int), (IntKind.i64.wrap (((x0.getD 0 []).length : Int) - (1 : Int)))))).bind fun y2 =>
      bif (!y2) then
        (some (-1 : Int))
      else (s_KnownAt_l4 k x0 x1 x0 (x0.length : Int) (0 : Int)))
    else (none)) := by kernel_rfl
theorem s_KnownAt_l4_eq (k : Nat) (v0 : List (List Int)) (v1 : Int) (v20 : List (List Int)) (v21 : Int) (v22 : Int) : s_KnownAt_l4 (k + 1) v0 v1 v20 v21 v22 =
  bif decide (v22 < v21) then
    (bif decide (0 ≤ v22) then
      (bif decide (v22 < (v20.length : Int)) then
        (bif decide (0 ≤ v1) then
          (bif decide (v1 < ((v20.getD v22.toNat []).length : Int)) then
            ((s_CardOf k ((v20.getD v22.toNat []).getD v1.toNat (0 : Int))).bind fun y1 =>
            bif decide ((0 : Int) < (v0.length : Int)) then
              (bif decide (0 ≤ v1) then
                (bif decide (v1 < ((v0.getD 0 []).length : Int)) then
                  ((s_CardOf k ((v0.getD 0 []).getD v1.toNat (0 : Int))).bind fun y2 =>
                  bif (!(y1 == y2)) then
                    (some (-1 : Int))
                  else (s_KnownAt_l4 k v0 v1 v20 v21 (IntKind.i64.wrap (v22 + (1 : Int)))))
                else (none))
              else (none))
            else (none))
          else (none))
        else (none))
      else (none))
    else (none))
  else (bif decide ((0 : Int) < (v0.length : Int)) then
      (bif decide (0 ≤ v1) then
        (bif decide (v1 < ((v0.getD 0 []).length : Int)) then
          ((s_CardOf k ((v0.getD 0 []).getD v1.toNat (0 : Int))).bind fun y3 =>
          some y3)
        else (none))
      else (none))
    else (none)) := by kernel_rfl
theorem i_CardOf_eq (k : Nat) (x0 : Int) : i_CardOf (k + 1) x0 =
  bif decide (x0 < (0 : Int)) then
    (bif decide ((IntKind.i64.wrap ((-1 : Int) - x0)) ≥ (12 : Int)) then
      (some (-1 : Int))
    else (some (IntKind.i64.wrap ((-1 : Int) - x0))))
  else (bif decide (x0 ≥ (12 : Int)) then
      (some (-1 : Int))
    else (some x0)) := by kernel_rfl
theorem i_PacketOk_eq (k : Nat) (x0 : List Int) : i_PacketOk (k + 1) x0 =
  i_PacketOk_l3 k x0 (x0.length : Int) (0 : Int) (List.replicate 12 false) := by kernel_rfl
theorem i_PacketOk_l3_eq (k : Nat) (v7 : List Int) (v8 : Int) (v9 : Int) (o400003 : List Bool) : i_PacketOk_l3 (k + 1) v7 v8 v9 o400003 =
  bif decide (v9 < v8) then
    (bif decide (0 ≤ v9) then
      (bif decide (v9 < (v7.length : Int)) then
        ((i_CardOf k (v7.getD v9.toNat (0 : Int))).bind fun y1 =>
        bif decide (y1 < (0 : Int)) then
          (some false)
        else (bif (Nat.beq o400003.length 12 && true) then
            (bif decide (0 ≤ y1) then
              (bif decide (y1 < (o400003.length : Int)) then
                (bif decide (y1.toNat < o400003.length) then
                  (bif (o400003.getD y1.toNat false) then
                    (some false)
                  else (bif (Nat.beq o400003.length 12 && true) then
                      (bif decide (0 ≤ y1) then
                        (bif decide (y1 < (o400003.length : Int)) then
                          (bif decide (y1.toNat < o400003.length) then
                            (i_PacketOk_l3 k v7 v8 (IntKind.i64.wrap (v9 + (1 : Int))) (o400003.set y1.toNat true))
                          else (none))
                        else (none))
                      else (none))
                    else (none)))
                else (none))
              else (none))
            else (none))
          else (none)))
      else (none))
    else (none))
  else (some true) := by kernel_rfl
theorem i_PositionOf_1_eq (k : Nat) (x0 : Int) (x1 : Int) : i_PositionOf_1 (k + 1) (x0, x1) =
  (i_CardOf k x0).bind fun y1 =>
  some (y1 == x1) := by kernel_rfl
theorem slices_IndexFunc_int_of_i_PositionOf_1_eq (k : Nat) (x0 : List Int) (x1 : Int) : slices_IndexFunc_int_of_i_PositionOf_1 (k + 1) (x0, x1) =
  slices_IndexFunc_int_of_i_PositionOf_1_l2 k x0 x1 (x0.length : Int) (0 : Int) := by kernel_rfl
theorem slices_IndexFunc_int_of_i_PositionOf_1_l2_eq (k : Nat) (v0 : List Int) (v1_0_0 : Int) (v7 : Int) (v8 : Int) : slices_IndexFunc_int_of_i_PositionOf_1_l2 (k + 1) v0 v1_0_0 v7 v8 =
  bif decide (v8 < v7) then
    (bif decide (0 ≤ v8) then
      (bif decide (v8 < (v0.length : Int)) then
        ((i_PositionOf_1 k ((v0.getD v8.toNat (0 : Int)), v1_0_0)).bind fun y1 =>
        bif y1 then
          (some v8)
        else (slices_IndexFunc_int_of_i_PositionOf_1_l2 k v0 v1_0_0 v7 (IntKind.i64.wrap (v8 + (1 : Int)))))
      else (none))
    else (none))
  else (some (-1 : Int)) := by kernel_rfl
theorem i_PositionOf_eq (k : Nat) (x0 : List Int) (x1 : Int) : i_PositionOf (k + 1) (x0, x1) =
  bif decide (x1 < (0 : Int)) then
    (some (-1 : Int))
  else ((slices_IndexFunc_int_of_i_PositionOf_1 k (x0, x1)).bind fun y1 =>
    some y1) := by kernel_rfl
theorem i_IsArrangement_1_eq (k : Nat) (x0 : Int) (x1 : List Int) : i_IsArrangement_1 (k + 1) (x0, x1) =
  (i_CardOf k x0).bind fun y1 =>
  (i_PositionOf k (x1, y1)).bind fun y2 =>
  some (decide (y2 < (0 : Int))) := by kernel_rfl
theorem slices_IndexFunc_int_of_i_IsArrangement_1_eq (k : Nat) (x0 : List Int) (x1 : List Int) : slices_IndexFunc_int_of_i_IsArrangement_1 (k + 1) (x0, x1) =
  slices_IndexFunc_int_of_i_IsArrangement_1_l2 k x0 x1 (x0.length : Int) (0 : Int) := by kernel_rfl
theorem slices_IndexFunc_int_of_i_IsArrangement_1_l2_eq (k : Nat) (v0 : List Int) (v1_0_0 : List Int) (v7 : Int) (v8 : Int) : slices_IndexFunc_int_of_i_IsArrangement_1_l2 (k + 1) v0 v1_0_0 v7 v8 =
  bif decide (v8 < v7) then
    (bif decide (0 ≤ v8) then
      (bif decide (v8 < (v0.length : Int)) then
        ((i_IsArrangement_1 k ((v0.getD v8.toNat (0 : Int)), v1_0_0)).bind fun y1 =>
        bif y1 then
          (some v8)
        else (slices_IndexFunc_int_of_i_IsArrangement_1_l2 k v0 v1_0_0 v7 (IntKind.i64.wrap (v8 + (1 : Int)))))
      else (none))
    else (none))
  else (some (-1 : Int)) := by kernel_rfl
theorem slices_ContainsFunc_int_of_i_IsArrangement_1_eq (k : Nat) (x0 : List Int) (x1 : List Int) : slices_ContainsFunc_int_of_i_IsArrangement_1 (k + 1) (x0, x1) =
  (slices_IndexFunc_int_of_i_IsArrangement_1 k (x0, x1)).bind fun y1 =>
  some (decide (y1 ≥ (0 : Int))) := by kernel_rfl
theorem i_IsArrangement_eq (k : Nat) (x0 : List Int) (x1 : List Int) : i_IsArrangement (k + 1) (x0, x1) =
  (i_PacketOk k x0).bind fun y1 =>
  bif (!y1) then
    (some false)
  else ((i_PacketOk k x1).bind fun y2 =>
    bif (!y2) then
      (some false)
    else (bif (!((x0.length : Int) == (x1.length : Int))) then
        (some false)
      else ((slices_ContainsFunc_int_of_i_IsArrangement_1 k (x0, x1)).bind fun y3 =>
        some (!y3)))) := by kernel_rfl
theorem cmp_isNaN_int_eq (k : Nat) (x0 : Int) : cmp_isNaN_int (k + 1) x0 =
  some (!(x0 == x0)) := by kernel_rfl
theorem cmp_Compare_int_eq (k : Nat) (x0 : Int) (x1 : Int) : cmp_Compare_int (k + 1) (x0, x1) =
  (cmp_isNaN_int k x0).bind fun y1 =>
  (cmp_isNaN_int k x1).bind fun y2 =>
  bif y1 then
    (bif y2 then
      (some (0 : Int))
    else (some (-1 : Int)))
  else (bif y2 then
      (some (1 : Int))
    else (bif decide (x0 < x1) then
        (some (-1 : Int))
      else (bif decide (x0 > x1) then
          (some (1 : Int))
        else (some (0 : Int))))) := by kernel_rfl
theorem slices_Compare_int_eq (k : Nat) (x0 : List Int) (x1 : List Int) : slices_Compare_int (k + 1) (x0, x1) =
  slices_Compare_int_l2 k x0 x1 x0 (x0.length : Int) (0 : Int) := by kernel_rfl
theorem slices_Compare_int_l2_eq (k : Nat) (v0 : List Int) (v1 : List Int) (v9 : List Int) (v10 : Int) (v11 : Int) : slices_Compare_int_l2 (k + 1) v0 v1 v9 v10 v11 =
  bif decide (v11 < v10) then
    (bif decide (0 ≤ v11) then
      (bif decide (v11 < (v9.length : Int)) then
        (bif decide (v11 ≥ (v1.length : Int)) then
          (some (1 : Int))
        else (bif decide (0 ≤ v11) then
            (bif decide (v11 < (v1.length : Int)) then
              ((cmp_Compare_int k ((v9.getD v11.toNat (0 : Int)), (v1.getD v11.toNat (0 : Int)))).bind fun y1 =>
              bif (!(y1 == (0 : Int))) then
                (some y1)
              else (slices_Compare_int_l2 k v0 v1 v9 v10 (IntKind.i64.wrap (v11 + (1 : Int)))))
            else (none))
          else (none)))
      else (none))
    else (none))
  else (bif decide ((v0.length : Int) < (v1.length : Int)) then
      (some (-1 : Int))
    else (some (0 : Int))) := by kernel_rfl
theorem i_KnowOk_eq (k : Nat) (x0 : List (List Int)) : i_KnowOk (k + 1) x0 =
  bif decide ((x0.length : Int) < (1 : Int)) then
    (some false)
  else (bif decide ((x0.length : Int) > (3000 : Int)) then
      (some false)
    else (bif decide ((0 : Int) < (x0.length : Int)) then
        (bif (((x0.getD 0 []).length : Int) == (0 : Int)) then
          (some false)
        else (i_KnowOk_l4 k x0 x0 (x0.length : Int) (0 : Int)))
      else (none))) := by kernel_rfl
theorem i_KnowOk_l4_eq (k : Nat) (v0 : List (List Int)) (v20 : List (List Int)) (v21 : Int) (v22 : Int) : i_KnowOk_l4 (k + 1) v0 v20 v21 v22 =
  bif decide (v22 < v21) then
    (bif decide (0 ≤ v22) then
      (bif decide (v22 < (v20.length : Int)) then
        (bif decide ((0 : Int) < (v0.length : Int)) then
          ((i_IsArrangement k ((v0.getD 0 []), (v20.getD v22.toNat []))).bind fun y1 =>
          bif (!y1) then
            (some false)
          else (bif decide (v22 > (0 : Int)) then
              (bif decide (0 ≤ (IntKind.i64.wrap (v22 - (1 : Int)))) then
                (bif decide ((IntKind.i64.wrap (v22 - (1 : Int))) < (v0.length : Int)) then
                  ((slices_Compare_int k ((v0.getD (IntKind.i64.wrap (v22 - (1 : Int))).toNat []), (v20.getD v22.toNat []))).bind fun y2 =>
                  bif decide (y2 ≥ (0 : Int)) then
                    (some false)
                  else (i_KnowOk_l4 k v0 v20 v21 (IntKind.i64.wrap (v22 + (1 : Int)))))
                else (none))
              else (none))
            else (i_KnowOk_l4 k v0 v20 v21 (IntKind.i64.wrap (v22 + (1 : Int))))))
        else (none))
      else (none))
    else (none))
  else (some true) := by kernel_rfl
theorem i_KnownAt_1_eq (k : Nat) (x0 : List Int) (x1 : Int) : i_KnownAt_1 (k + 1) (x0, x1) =
  bif decide (x1 < (0 : Int)) then
    (some (-1 : Int))
  else (bif decide (x1 ≥ (x0.length : Int)) then
      (some (-1 : Int))
    else (bif decide (0 ≤ x1) then
        (bif decide (x1 < (x0.length : Int)) then
          ((i_CardOf k (x0.getD x1.toNat (0 : Int))).bind fun y1 =>
          some y1)
        else (none))
      else (none))) := by kernel_rfl
theorem i_common_of_i_KnownAt_1_eq (k : Nat) (x0 : List (List Int)) (x1 : Int) : i_common_of_i_KnownAt_1 (k + 1) (x0, x1) =
  (i_KnowOk k x0).bind fun y1 =>
  bif (!y1) then
    (some (-1 : Int))
  else (bif decide ((0 : Int) < (x0.length : Int)) then
      ((i_KnownAt_1 k ((x0.getD 0 []), x1)).bind fun y2 =>
      i_common_of_i_KnownAt_1_l5 k x1 y2 x0 (x0.length : Int) (0 : Int))
    else (none)) := by kernel_rfl
theorem i_common_of_i_KnownAt_1_l5_eq (k : Nat) (v1_0_0 : Int) (v5 : Int) (v16 : List (List Int)) (v17 : Int) (v18 : Int) : i_common_of_i_KnownAt_1_l5 (k + 1) v1_0_0 v5 v16 v17 v18 =
  bif decide (v18 < v17) then
    (bif decide (0 ≤ v18) then
      (bif decide (v18 < (v16.length : Int)) then
        ((i_KnownAt_1 k ((v16.getD v18.toNat []), v1_0_0)).bind fun y1 =>
        bif (!(y1 == v5)) then
          (some (-1 : Int))
        else (i_common_of_i_KnownAt_1_l5 k v1_0_0 v5 v16 v17 (IntKind.i64.wrap (v18 + (1 : Int)))))
      else (none))
    else (none))
  else (some v5) := by kernel_rfl
theorem i_KnownAt_eq (k : Nat) (x0 : List (List Int)) (x1 : Int) : i_KnownAt (k + 1) (x0, x1) =
  (i_common_of_i_KnownAt_1 k (x0, x1)).bind fun y1 =>
  some y1 := by kernel_rfl
theorem w_eqIntSS_eq (k : Nat) (x0 : List (List Int)) (x1 : List (List Int)) : w_eqIntSS (k + 1) (x0, x1) =
  bif (!((x0.length : Int) == (x1.length : Int))) then
    (some false)
  else (w_eqIntSS_l4 k x0 x1 (0 : Int)) := by kernel_rfl
theorem w_eqIntSS_l4_eq (k : Nat) (v0 : List (List Int)) (v1 : List (List Int)) (v5 : Int) : w_eqIntSS_l4 (k + 1) v0 v1 v5 =
  bif decide (v5 < (v0.length : Int)) then
    (bif decide (0 ≤ v5) then
      (bif decide (v5 < (v0.length : Int)) then
        (bif decide (0 ≤ v5) then
          (bif decide (v5 < (v1.length : Int)) then
            ((w_eqIntS k ((v0.getD v5.toNat []), (v1.getD v5.toNat []))).bind fun y1 =>
            bif (!y1) then
              (some false)
            else (w_eqIntSS_l4 k v0 v1 (IntKind.i64.wrap (v5 + (1 : Int)))))
          else (none))
        else (none))
      else (none))
    else (none))
  else (some true) := by kernel_rfl
theorem w_FnExactKnownAt_eq (k : Nat) (x0 : List (List Int)) (x1 : Int) : w_FnExactKnownAt (k + 1) (x0, x1) =
  (w_szIntSS k (x0, (1048576 : Int))).bind fun y1 =>
  bif decide (y1 < (0 : Int)) then
    (some true)
  else ((w_toIntSS k x0).bind fun y2 =>
    (s_KnownAt k (y2, x1)).bind fun y3 =>
    (w_toIntSS k x0).bind fun y4 =>
    (i_KnownAt k (y4, x1)).bind fun y5 =>
    bif (!(y5 == y3)) then
      (some false)
    else ((w_toIntSS k x0).bind fun y6 =>
      (w_eqIntSS k (y4, y6)).bind fun y7 =>
      bif (!y7) then
        (some false)
      else (some true))) := by kernel_rfl
theorem s_l15Worst_eq (k : Nat) (x0 : List (List Int)) (x1 : Int) : s_l15Worst (k + 1) (x0, x1) =
  s_l15Worst_l4 k x1 (0 : Int) x0 (x0.length : Int) (0 : Int) (List.replicate 12 (0 : Int)) := by kernel_rfl
theorem s_l15Worst_l4_eq (k : Nat) (v1 : Int) (v6 : Int) (v11 : List (List Int)) (v12 : Int) (v13 : Int) (o100005 : List Int) : s_l15Worst_l4 (k + 1) v1 v6 v11 v12 v13 o100005 =
  bif decide (v13 < v12) then
    (bif decide (0 ≤ v13) then
      (bif decide (v13 < (v11.length : Int)) then
        (bif decide (0 ≤ v1) then
          (bif decide (v1 < ((v11.getD v13.toNat []).length : Int)) then
            ((s_CardOf k ((v11.getD v13.toNat []).getD v1.toNat (0 : Int))).bind fun y1 =>
            bif decide (0 ≤ y1) then
              (bif decide (y1 < (o100005.length : Int)) then
                (bif decide (y1.toNat < o100005.length) then
                  (bif decide (0 ≤ y1) then
                    (bif decide (y1 < (o100005.length : Int)) then
                      (bif decide (y1.toNat < o100005.length) then
                        (bif decide (0 ≤ y1) then
                          (bif decide (y1 < ((o100005.set y1.toNat (IntKind.i64.wrap ((o100005.getD y1.toNat (0 : Int)) + (1 : Int)))).length : Int)) then
                            (bif decide (y1.toNat < (o100005.set y1.toNat (IntKind.i64.wrap ((o100005.getD y1.toNat (0 : Int)) + (1 : Int)))).length) then
                              (s_l15Worst_l4 k v1 (bif decide (((o100005.set y1.toNat (IntKind.i64.wrap ((o100005.getD y1.toNat (0 : Int)) + (1 : Int)))).getD y1.toNat (0 : Int)) > v6) then ((o100005.set y1.toNat (IntKind.i64.wrap ((o100005.getD y1.toNat (0 : Int)) + (1 : Int)))).getD y1.toNat (0 : Int)) else v6) v11 v12 (IntKind.i64.wrap (v13 + (1 : Int))) (o100005.set y1.toNat (IntKind.i64.wrap ((o100005.getD y1.toNat (0 : Int)) + (1 : Int)))))
                            else (none))
                          else (none))
                        else (none))
                      else (none))
                    else (none))
                  else (none))
                else (none))
              else (none))
            else (none))
          else (none))
        else (none))
      else (none))
    else (none))
  else (some v6) := by kernel_rfl
theorem s_BestLook_eq (k : Nat) (x0 : List (List Int)) : s_BestLook (k + 1) x0 =
  (s_KnowOk k x0).bind fun y1 =>
  bif (!y1) then
    (some (-1 : Int))
  else (bif decide ((0 : Int) < (x0.length : Int)) then
      (s_BestLook_l5 k x0 (0 : Int) ((x0.getD 0 []).length : Int) (0 : Int))
    else (none)) := by kernel_rfl
theorem s_BestLook_l5_eq (k : Nat) (v0 : List (List Int)) (v3 : Int) (v11 : Int) (v12 : Int) : s_BestLook_l5 (k + 1) v0 v3 v11 v12 =
  bif decide (v12 < v11) then
    ((s_l15Worst k (v0, v12)).bind fun y1 =>
    (s_l15Worst k (v0, v3)).bind fun y2 =>
    bif decide (y1 < y2) then
      (s_BestLook_l5 k v0 v12 v11 (IntKind.i64.wrap (v12 + (1 : Int))))
    else (s_BestLook_l5 k v0 v3 v11 (IntKind.i64.wrap (v12 + (1 : Int)))))
  else (some v3) := by kernel_rfl
theorem i_BestLook_eq (k : Nat) (x0 : List (List Int)) : i_BestLook (k + 1) x0 =
  (i_KnowOk k x0).bind fun y1 =>
  bif (!y1) then
    (some (-1 : Int))
  else (bif decide ((0 : Int) < (x0.length : Int)) then
      (i_BestLook_l5 k x0 (-1 : Int) (0 : Int) ((x0.getD 0 []).length : Int) (0 : Int))
    else (none)) := by kernel_rfl
theorem i_BestLook_l5_eq (k : Nat) (v0 : List (List Int)) (v3 : Int) (v4 : Int) (v16 : Int) (v17 : Int) : i_BestLook_l5 (k + 1) v0 v3 v4 v16 v17 =
  bif decide (v17 < v16) then
    (i_BestLook_l9 k v0 v3 v4 v17 v16 v17 v0 (v0.length : Int) (0 : Int) (List.replicate 12 (0 : Int)))
  else (some v3) := by kernel_rfl
theorem i_BestLook_l9_eq (k : Nat) (v0 : List (List Int)) (v3 : Int) (v4 : Int) (v5 : Int) (v16 : Int) (v17 : Int) (v20 : List (List Int)) (v21 : Int) (v22 : Int) (o400006 : List Int) : i_BestLook_l9 (k + 1) v0 v3 v4 v5 v16 v17 v20 v21 v22 o400006 =
  bif decide (v22 < v21) then
    (bif decide (0 ≤ v22) then
      (bif decide (v22 < (v20.length : Int)) then
        (bif decide (0 ≤ v5) then
          (bif decide (v5 < ((v20.getD v22.toNat []).length : Int)) then
            ((i_CardOf k ((v20.getD v22.toNat []).getD v5.toNat (0 : Int))).bind fun y1 =>
            bif (Nat.beq o400006.length 12 && true) then
              (bif decide (0 ≤ y1) then
                (bif decide (y1 < (o400006.length : Int)) then
                  (bif decide (y1.toNat < o400006.length) then
                    (bif (Nat.beq o400006.length 12 && true) then
                      (bif decide (0 ≤ y1) then
                        (bif decide (y1 < (o400006.length : Int)) then
                          (bif decide (y1.toNat < o400006.length) then
                            (i_BestLook_l9 k v0 v3 v4 v5 v16 v17 v20 v21 (IntKind.i64.wrap (v22 + (1 : Int))) (o400006.set y1.toNat (IntKind.i64.wrap ((o400006.getD y1.toNat (0 : Int)) + (1 : Int)))))
                          else (none))
                        else (none))
                      else (none))
                    else (none))
                  else (none))
                else (none))
              else (none))
            else (none))
          else (none))
        else (none))
      else (none))
    else (none))
  else (bif (Nat.beq o400006.length 12) then
      (bif decide (0 ≤ (o400006.length : Int)) then
        (bif decide ((o400006.length : Int) ≤ (o400006.length : Int)) then
          ((slices_Max_int k ((o400006.take ((o400006.length : Int)).toNat).drop 0)).bind fun y2 =>
          bif decide (v3 < (0 : Int)) then
            (i_BestLook_l5 k v0 v5 y2 v16 (IntKind.i64.wrap (v17 + (1 : Int))))
          else (bif decide (y2 < v4) then
              (i_BestLook_l5 k v0 v5 y2 v16 (IntKind.i64.wrap (v17 + (1 : Int))))
            else (i_BestLook_l5 k v0 v3 v4 v16 (IntKind.i64.wrap (v17 + (1 : Int))))))
        else (none))
      else (none))
    else (none)) := by kernel_rfl
theorem w_FnExactBestLook_eq (k : Nat) (x0 : List (List Int)) : w_FnExactBestLook (k + 1) x0 =
  (w_szIntSS k (x0, (1048576 : Int))).bind fun y1 =>
  bif decide (y1 < (0 : Int)) then
    (some true)
  else ((w_toIntSS k x0).bind fun y2 =>
    (s_BestLook k y2).bind fun y3 =>
    (w_toIntSS k x0).bind fun y4 =>
    (i_BestLook k y4).bind fun y5 =>
    bif (!(y5 == y3)) then
      (some false)
    else ((w_toIntSS k x0).bind fun y6 =>
      (w_eqIntSS k (y4, y6)).bind fun y7 =>
      bif (!y7) then
        (some false)
      else (some true))) := by kernel_rfl
theorem s_CountKnown_eq (k : Nat) (x0 : List (List Int)) : s_CountKnown (k + 1) x0 =
  (s_KnowOk k x0).bind fun y1 =>
  bif (!y1) then
    (some (-1 : Int))
  else (bif decide ((0 : Int) < (x0.length : Int)) then
      (s_CountKnown_l5 k x0 (0 : Int) ((x0.getD 0 []).length : Int) (0 : Int))
    else (none)) := by kernel_rfl
theorem s_CountKnown_l5_eq (k : Nat) (v0 : List (List Int)) (v3 : Int) (v11 : Int) (v12 : Int) : s_CountKnown_l5 (k + 1) v0 v3 v11 v12 =
  bif decide (v12 < v11) then
    ((s_KnownAt k (v0, v12)).bind fun y1 =>
    bif decide (y1 ≥ (0 : Int)) then
      (s_CountKnown_l5 k v0 (IntKind.i64.wrap (v3 + (1 : Int))) v11 (IntKind.i64.wrap (v12 + (1 : Int))))
    else (s_CountKnown_l5 k v0 v3 v11 (IntKind.i64.wrap (v12 + (1 : Int)))))
  else (some v3) := by kernel_rfl
theorem i_CountKnown_eq (k : Nat) (x0 : List (List Int)) : i_CountKnown (k + 1) x0 =
  (i_KnowOk k x0).bind fun y1 =>
  bif (!y1) then
    (some (-1 : Int))
  else (bif decide ((0 : Int) < (x0.length : Int)) then
      (i_CountKnown_l5 k x0 (0 : Int) ((x0.getD 0 []).length : Int) (0 : Int))
    else (none)) := by kernel_rfl
theorem i_CountKnown_l5_eq (k : Nat) (v0 : List (List Int)) (v3 : Int) (v11 : Int) (v12 : Int) : i_CountKnown_l5 (k + 1) v0 v3 v11 v12 =
  bif decide (v12 < v11) then
    ((i_KnownAt k (v0, v12)).bind fun y1 =>
    bif decide (y1 ≥ (0 : Int)) then
      (i_CountKnown_l5 k v0 (IntKind.i64.wrap (v3 + (1 : Int))) v11 (IntKind.i64.wrap (v12 + (1 : Int))))
    else (i_CountKnown_l5 k v0 v3 v11 (IntKind.i64.wrap (v12 + (1 : Int)))))
  else (some v3) := by kernel_rfl
theorem w_FnExactCountKnown_eq (k : Nat) (x0 : List (List Int)) : w_FnExactCountKnown (k + 1) x0 =
  (w_szIntSS k (x0, (1048576 : Int))).bind fun y1 =>
  bif decide (y1 < (0 : Int)) then
    (some true)
  else ((w_toIntSS k x0).bind fun y2 =>
    (s_CountKnown k y2).bind fun y3 =>
    (w_toIntSS k x0).bind fun y4 =>
    (i_CountKnown k y4).bind fun y5 =>
    bif (!(y5 == y3)) then
      (some false)
    else ((w_toIntSS k x0).bind fun y6 =>
      (w_eqIntSS k (y4, y6)).bind fun y7 =>
      bif (!y7) then
        (some false)
      else (some true))) := by kernel_rfl

/-! ### the tables are right -/
theorem ty_3 : TyOk Go.Proofs.Try.prog 3 (.one (.int .i64)) := tyOk_int (by kernel_rfl) (by kernel_rfl) (by kernel_rfl)
theorem ty_4 : TyOk Go.Proofs.Try.prog 4 (.one (.bool)) := tyOk_bool (by kernel_rfl) (by kernel_rfl) (by kernel_rfl)
theorem ty_22 : TyOk Go.Proofs.Try.prog 22 (.one (.slice (.int .i64))) := tyOk_slice (e := 3) (by kernel_rfl) (by kernel_rfl) (by kernel_rfl) (elemOk_of (by kernel_rfl) (by kernel_rfl) (by kernel_rfl))
theorem ty_28 : TyOk Go.Proofs.Try.prog 28 (.struct [(0, 22), (1, 3)] [.slice (.int .i64), .int .i64] false) := tyOk_struct (fields := Go.Proofs.Try.prog.fieldsOf 28) (by kernel_rfl) (by kernel_rfl) (by kernel_rfl) (by kernel_rfl) (by kernel_rfl) (by kernel_rfl) (fun e => by cases e)
theorem ty_31 : TyOk Go.Proofs.Try.prog 31 (.struct [(0, 22), (1, 3)] [.slice (.int .i64), .int .i64] false) := tyOk_struct (fields := Go.Proofs.Try.prog.fieldsOf 31) (by kernel_rfl) (by kernel_rfl) (by kernel_rfl) (by kernel_rfl) (by kernel_rfl) (by kernel_rfl) (fun e => by cases e)
theorem ty_35 : TyOk Go.Proofs.Try.prog 35 (.struct [(0, 3), (1, 3)] [.int .i64, .int .i64] true) := tyOk_struct (fields := Go.Proofs.Try.prog.fieldsOf 35) (by kernel_rfl) (by kernel_rfl) (by kernel_rfl) (by kernel_rfl) (by kernel_rfl) (by kernel_rfl) (fun _ => structEq_ok (d := 20) (fields := Go.Proofs.Try.prog.fieldsOf 35) (by kernel_rfl) (by kernel_rfl) (by decide) (by kernel_rfl))
theorem ty_37 : TyOk Go.Proofs.Try.prog 37 (.struct [(0, 3), (1, 35), (3, 3)] [.int .i64, .int .i64, .int .i64, .int .i64] true) := tyOk_struct (fields := Go.Proofs.Try.prog.fieldsOf 37) (by kernel_rfl) (by kernel_rfl) (by kernel_rfl) (by kernel_rfl) (by kernel_rfl) (by kernel_rfl) (fun _ => structEq_ok (d := 20) (fields := Go.Proofs.Try.prog.fieldsOf 37) (by kernel_rfl) (by kernel_rfl) (by decide) (by kernel_rfl))
theorem ty_39 : TyOk Go.Proofs.Try.prog 39 (.struct [(0, 3), (1, 3)] [.int .i64, .int .i64] true) := tyOk_struct (fields := Go.Proofs.Try.prog.fieldsOf 39) (by kernel_rfl) (by kernel_rfl) (by kernel_rfl) (by kernel_rfl) (by kernel_rfl) (by kernel_rfl) (fun _ => structEq_ok (d := 20) (fields := Go.Proofs.Try.prog.fieldsOf 39) (by kernel_rfl) (by kernel_rfl) (by decide) (by kernel_rfl))
theorem ty_41 : TyOk Go.Proofs.Try.prog 41 (.struct [(0, 3), (1, 39), (3, 3)] [.int .i64, .int .i64, .int .i64, .int .i64] true) := tyOk_struct (fields := Go.Proofs.Try.prog.fieldsOf 41) (by kernel_rfl) (by kernel_rfl) (by kernel_rfl) (by kernel_rfl) (by kernel_rfl) (by kernel_rfl) (fun _ => structEq_ok (d := 20) (fields := Go.Proofs.Try.prog.fieldsOf 41) (by kernel_rfl) (by kernel_rfl) (by decide) (by kernel_rfl))
theorem ty_46 : TyOk Go.Proofs.Try.prog 46 (.one (.slice (.pair (.int .i64) (.pair (.pair (.int .i64) (.int .i64)) (.int .i64))))) := tyOk_slice (e := 37) (by kernel_rfl) (by kernel_rfl) (by kernel_rfl) (elemOk_of (by kernel_rfl) (by kernel_rfl) (by kernel_rfl))
theorem ty_48 : TyOk Go.Proofs.Try.prog 48 (.struct [(0, 22), (1, 46), (2, 3), (3, 3), (4, 3)] [.slice (.int .i64), .slice (.pair (.int .i64) (.pair (.pair (.int .i64) (.int .i64)) (.int .i64))), .int .i64, .int .i64, .int .i64] false) := tyOk_struct (fields := Go.Proofs.Try.prog.fieldsOf 48) (by kernel_rfl) (by kernel_rfl) (by kernel_rfl) (by kernel_rfl) (by kernel_rfl) (by kernel_rfl) (fun e => by cases e)
theorem ty_51 : TyOk Go.Proofs.Try.prog 51 (.one (.slice (.pair (.int .i64) (.pair (.pair (.int .i64) (.int .i64)) (.int .i64))))) := tyOk_slice (e := 41) (by kernel_rfl) (by kernel_rfl) (by kernel_rfl) (elemOk_of (by kernel_rfl) (by kernel_rfl) (by kernel_rfl))
theorem ty_53 : TyOk Go.Proofs.Try.prog 53 (.struct [(0, 22), (1, 51), (2, 3), (3, 3), (4, 3)] [.slice (.int .i64), .slice (.pair (.int .i64) (.pair (.pair (.int .i64) (.int .i64)) (.int .i64))), .int .i64, .int .i64, .int .i64] false) := tyOk_struct (fields := Go.Proofs.Try.prog.fieldsOf 53) (by kernel_rfl) (by kernel_rfl) (by kernel_rfl) (by kernel_rfl) (by kernel_rfl) (by kernel_rfl) (fun e => by cases e)
theorem ty_60 : TyOk Go.Proofs.Try.prog 60 (.one (.slice (.slice (.int .i64)))) := tyOk_slice (e := 22) (by kernel_rfl) (by kernel_rfl) (by kernel_rfl) (elemOk_of (by kernel_rfl) (by kernel_rfl) (by kernel_rfl))
theorem ty_80 : TyOk Go.Proofs.Try.prog 80 (.arr 12 (.int .i64)) := tyOk_arr (e := 3) (by kernel_rfl) (elemOk_of (by kernel_rfl) (by kernel_rfl) (by kernel_rfl)) (by kernel_rfl) (by kernel_rfl)
theorem ty_86 : TyOk Go.Proofs.Try.prog 86 (.arr 12 (.bool)) := tyOk_arr (e := 4) (by kernel_rfl) (elemOk_of (by kernel_rfl) (by kernel_rfl) (by kernel_rfl)) (by kernel_rfl) (by kernel_rfl)
theorem hE : ∀ T ti, E.ty T = some ti → TyOk Go.Proofs.Try.prog T ti := lookT_ok (l := tyL) ⟨ty_3, ty_4, ty_22, ty_28, ty_31, ty_35, ty_37, ty_39, ty_41, ty_46, ty_48, ty_51, ty_53, ty_60, ty_80, ty_86, trivial⟩
theorem w_toIntS_ok : OneF Go.Proofs.Try.prog (fun _ => True) 15 w_toIntS_fi := fnOk_of (fn := Go.Proofs.Try.f15) (c := w_toIntS_c) Go.Proofs.Try.func15 (by kernel_rfl) (by kernel_rfl) rfl rfl (by kernel_rfl) (by kernel_rfl) rfl
theorem s_ShuffleLine_ok : OneF Go.Proofs.Try.prog (fun _ => True) 14 s_ShuffleLine_fi := fnOk_of (fn := Go.Proofs.Try.f14) (c := s_ShuffleLine_c) Go.Proofs.Try.func14 (by kernel_rfl) (by kernel_rfl) rfl rfl (by kernel_rfl) (by kernel_rfl) rfl
theorem i_ShuffleLine_ok : OneF Go.Proofs.Try.prog (fun _ => True) 16 i_ShuffleLine_fi := fnOk_of (fn := Go.Proofs.Try.f16) (c := i_ShuffleLine_c) Go.Proofs.Try.func16 (by kernel_rfl) (by kernel_rfl) rfl rfl (by kernel_rfl) (by kernel_rfl) rfl
theorem w_eqIntS_ok : OneF Go.Proofs.Try.prog (fun _ => True) 17 w_eqIntS_fi := fnOk_of (fn := Go.Proofs.Try.f17) (c := w_eqIntS_c) Go.Proofs.Try.func17 (by kernel_rfl) (by kernel_rfl) rfl rfl (by kernel_rfl) (by kernel_rfl) rfl
theorem w_FnExactShuffleLine_ok : OneF Go.Proofs.Try.prog (fun _ => True) 3 w_FnExactShuffleLine_fi := fnOk_of (fn := Go.Proofs.Try.f3) (c := w_FnExactShuffleLine_c) Go.Proofs.Try.func3 (by kernel_rfl) (by kernel_rfl) rfl rfl (by kernel_rfl) (by kernel_rfl) rfl
theorem w_szIntS_ok : OneF Go.Proofs.Try.prog (fun _ => True) 50 w_szIntS_fi := fnOk_of (fn := Go.Proofs.Try.f50) (c := w_szIntS_c) Go.Proofs.Try.func50 (by kernel_rfl) (by kernel_rfl) rfl rfl (by kernel_rfl) (by kernel_rfl) rfl
theorem w_szScene_ok : OneF Go.Proofs.Try.prog (fun _ => True) 18 w_szScene_fi := fnOk_of (fn := Go.Proofs.Try.f18) (c := w_szScene_c) Go.Proofs.Try.func18 (by kernel_rfl) (by kernel_rfl) rfl rfl (by kernel_rfl) (by kernel_rfl) rfl
theorem w_toScene_ok : OneF Go.Proofs.Try.prog (fun _ => True) 20 w_toScene_fi := fnOk_of (fn := Go.Proofs.Try.f20) (c := w_toScene_c) Go.Proofs.Try.func20 (by kernel_rfl) (by kernel_rfl) rfl rfl (by kernel_rfl) (by kernel_rfl) rfl
theorem s_SamePacket_ok : OneF Go.Proofs.Try.prog (fun _ => True) 51 s_SamePacket_fi := fnOk_of (fn := Go.Proofs.Try.f51) (c := s_SamePacket_c) Go.Proofs.Try.func51 (by kernel_rfl) (by kernel_rfl) rfl rfl (by kernel_rfl) (by kernel_rfl) rfl
theorem s_SameScene_ok : OneF Go.Proofs.Try.prog (fun _ => True) 19 s_SameScene_fi := fnOk_of (fn := Go.Proofs.Try.f19) (c := s_SameScene_c) Go.Proofs.Try.func19 (by kernel_rfl) (by kernel_rfl) rfl rfl (by kernel_rfl) (by kernel_rfl) rfl
theorem slices_Equal_int_ok : OneF Go.Proofs.Try.prog (fun _ => True) 52 slices_Equal_int_fi := fnOk_of (fn := Go.Proofs.Try.f52) (c := slices_Equal_int_c) Go.Proofs.Try.func52 (by kernel_rfl) (by kernel_rfl) rfl rfl (by kernel_rfl) (by kernel_rfl) rfl
theorem i_SameScene_ok : OneF Go.Proofs.Try.prog (fun _ => True) 21 i_SameScene_fi := fnOk_of (fn := Go.Proofs.Try.f21) (c := i_SameScene_c) Go.Proofs.Try.func21 (by kernel_rfl) (by kernel_rfl) rfl rfl (by kernel_rfl) (by kernel_rfl) rfl
theorem w_eqScene_ok : OneF Go.Proofs.Try.prog (fun _ => True) 22 w_eqScene_fi := fnOk_of (fn := Go.Proofs.Try.f22) (c := w_eqScene_c) Go.Proofs.Try.func22 (by kernel_rfl) (by kernel_rfl) rfl rfl (by kernel_rfl) (by kernel_rfl) rfl
theorem w_FnExactSameScene_ok : OneF Go.Proofs.Try.prog (fun _ => True) 4 w_FnExactSameScene_fi := fnOk_of (fn := Go.Proofs.Try.f4) (c := w_FnExactSameScene_c) Go.Proofs.Try.func4 (by kernel_rfl) (by kernel_rfl) rfl rfl (by kernel_rfl) (by kernel_rfl) rfl
theorem w_toMove_ok : OneF Go.Proofs.Try.prog (fun _ => True) 56 w_toMove_fi := fnOk_of (fn := Go.Proofs.Try.f56) (c := w_toMove_c) Go.Proofs.Try.func56 (by kernel_rfl) (by kernel_rfl) rfl rfl (by kernel_rfl) (by kernel_rfl) rfl
theorem w_toStep_ok : OneF Go.Proofs.Try.prog (fun _ => True) 24 w_toStep_fi := fnOk_of (fn := Go.Proofs.Try.f24) (c := w_toStep_c) Go.Proofs.Try.func24 (by kernel_rfl) (by kernel_rfl) rfl rfl (by kernel_rfl) (by kernel_rfl) rfl
theorem s_l01In_ok : OneF Go.Proofs.Try.prog (fun _ => True) 53 s_l01In_fi := fnOk_of (fn := Go.Proofs.Try.f53) (c := s_l01In_c) Go.Proofs.Try.func53 (by kernel_rfl) (by kernel_rfl) rfl rfl (by kernel_rfl) (by kernel_rfl) rfl
theorem s_MoveOk_ok : OneF Go.Proofs.Try.prog (fun _ => True) 54 s_MoveOk_fi := fnOk_of (fn := Go.Proofs.Try.f54) (c := s_MoveOk_c) Go.Proofs.Try.func54 (by kernel_rfl) (by kernel_rfl) rfl rfl (by kernel_rfl) (by kernel_rfl) rfl
theorem s_l16Choice_ok : OneF Go.Proofs.Try.prog (fun _ => True) 55 s_l16Choice_fi := fnOk_of (fn := Go.Proofs.Try.f55) (c := s_l16Choice_c) Go.Proofs.Try.func55 (by kernel_rfl) (by kernel_rfl) rfl rfl (by kernel_rfl) (by kernel_rfl) rfl
theorem s_StepOk_ok : OneF Go.Proofs.Try.prog (fun _ => True) 23 s_StepOk_fi := fnOk_of (fn := Go.Proofs.Try.f23) (c := s_StepOk_c) Go.Proofs.Try.func23 (by kernel_rfl) (by kernel_rfl) rfl rfl (by kernel_rfl) (by kernel_rfl) rfl
theorem i_MoveOk_ok : OneF Go.Proofs.Try.prog (fun _ => True) 57 i_MoveOk_fi := fnOk_of (fn := Go.Proofs.Try.f57) (c := i_MoveOk_c) Go.Proofs.Try.func57 (by kernel_rfl) (by kernel_rfl) rfl rfl (by kernel_rfl) (by kernel_rfl) rfl
theorem i_StepOk_ok : OneF Go.Proofs.Try.prog (fun _ => True) 25 i_StepOk_fi := fnOk_of (fn := Go.Proofs.Try.f25) (c := i_StepOk_c) Go.Proofs.Try.func25 (by kernel_rfl) (by kernel_rfl) rfl rfl (by kernel_rfl) (by kernel_rfl) rfl
theorem w_FnExactStepOk_ok : OneF Go.Proofs.Try.prog (fun _ => True) 5 w_FnExactStepOk_fi := fnOk_of (fn := Go.Proofs.Try.f5) (c := w_FnExactStepOk_c) Go.Proofs.Try.func5 (by kernel_rfl) (by kernel_rfl) rfl rfl (by kernel_rfl) (by kernel_rfl) rfl
theorem s_l02Has_ok : OneF Go.Proofs.Try.prog (fun _ => True) 67 s_l02Has_fi := fnOk_of (fn := Go.Proofs.Try.f67) (c := s_l02Has_c) Go.Proofs.Try.func67 (by kernel_rfl) (by kernel_rfl) rfl rfl (by kernel_rfl) (by kernel_rfl) rfl
theorem s_l19Ok_ok : OneF Go.Proofs.Try.prog (fun _ => True) 58 s_l19Ok_fi := fnOk_of (fn := Go.Proofs.Try.f58) (c := s_l19Ok_c) Go.Proofs.Try.func58 (by kernel_rfl) (by kernel_rfl) rfl rfl (by kernel_rfl) (by kernel_rfl) rfl
theorem s_l19Choose_ok : OneF Go.Proofs.Try.prog (fun _ => True) 79 s_l19Choose_fi := fnOk_of (fn := Go.Proofs.Try.f79) (c := s_l19Choose_c) Go.Proofs.Try.func79 (by kernel_rfl) (by kernel_rfl) rfl rfl (by kernel_rfl) (by kernel_rfl) rfl
theorem s_l19Ways_ok : OneF Go.Proofs.Try.prog (fun _ => True) 59 s_l19Ways_fi := fnOk_of (fn := Go.Proofs.Try.f59) (c := s_l19Ways_c) Go.Proofs.Try.func59 (by kernel_rfl) (by kernel_rfl) rfl rfl (by kernel_rfl) (by kernel_rfl) rfl
theorem s_WaysWith_ok : OneF Go.Proofs.Try.prog (fun _ => True) 26 s_WaysWith_fi := fnOk_of (fn := Go.Proofs.Try.f26) (c := s_WaysWith_c) Go.Proofs.Try.func26 (by kernel_rfl) (by kernel_rfl) rfl rfl (by kernel_rfl) (by kernel_rfl) rfl
theorem slices_Index_int_ok : OneF Go.Proofs.Try.prog (fun _ => True) 69 slices_Index_int_fi := fnOk_of (fn := Go.Proofs.Try.f69) (c := slices_Index_int_c) Go.Proofs.Try.func69 (by kernel_rfl) (by kernel_rfl) rfl rfl (by kernel_rfl) (by kernel_rfl) rfl
theorem slices_Contains_int_ok : OneF Go.Proofs.Try.prog (fun _ => True) 80 slices_Contains_int_fi := fnOk_of (fn := Go.Proofs.Try.f80) (c := slices_Contains_int_c) Go.Proofs.Try.func80 (by kernel_rfl) (by kernel_rfl) rfl rfl (by kernel_rfl) (by kernel_rfl) rfl
theorem i_isPrefix_ok : OneF Go.Proofs.Try.prog (fun _ => True) 60 i_isPrefix_fi := fnOk_of (fn := Go.Proofs.Try.f60) (c := i_isPrefix_c) Go.Proofs.Try.func60 (by kernel_rfl) (by kernel_rfl) rfl rfl (by kernel_rfl) (by kernel_rfl) rfl
theorem i_upTo_ok : OneF Go.Proofs.Try.prog (fun _ => True) 61 i_upTo_fi := fnOk_of (fn := Go.Proofs.Try.f61) (c := i_upTo_c) Go.Proofs.Try.func61 (by kernel_rfl) (by kernel_rfl) rfl rfl (by kernel_rfl) (by kernel_rfl) rfl
theorem i_riffled_ok : OneF Go.Proofs.Try.prog (fun _ => True) 62 i_riffled_fi := fnOk_of (fn := Go.Proofs.Try.f62) (c := i_riffled_c) Go.Proofs.Try.func62 (by kernel_rfl) (by kernel_rfl) rfl rfl (by kernel_rfl) (by kernel_rfl) rfl
theorem i_WaysWith_ok : OneF Go.Proofs.Try.prog (fun _ => True) 27 i_WaysWith_fi := fnOk_of (fn := Go.Proofs.Try.f27) (c := i_WaysWith_c) Go.Proofs.Try.func27 (by kernel_rfl) (by kernel_rfl) rfl rfl (by kernel_rfl) (by kernel_rfl) rfl
theorem w_FnExactWaysWith_ok : OneF Go.Proofs.Try.prog (fun _ => True) 6 w_FnExactWaysWith_fi := fnOk_of (fn := Go.Proofs.Try.f6) (c := w_FnExactWaysWith_c) Go.Proofs.Try.func6 (by kernel_rfl) (by kernel_rfl) rfl rfl (by kernel_rfl) (by kernel_rfl) rfl
theorem w_szStepS_ok : OneF Go.Proofs.Try.prog (fun _ => True) 63 w_szStepS_fi := fnOk_of (fn := Go.Proofs.Try.f63) (c := w_szStepS_c) Go.Proofs.Try.func63 (by kernel_rfl) (by kernel_rfl) rfl rfl (by kernel_rfl) (by kernel_rfl) rfl
theorem w_szTrick_ok : OneF Go.Proofs.Try.prog (fun _ => True) 28 w_szTrick_fi := fnOk_of (fn := Go.Proofs.Try.f28) (c := w_szTrick_c) Go.Proofs.Try.func28 (by kernel_rfl) (by kernel_rfl) rfl rfl (by kernel_rfl) (by kernel_rfl) rfl
theorem w_toStepS_ok : OneF Go.Proofs.Try.prog (fun _ => True) 64 w_toStepS_fi := fnOk_of (fn := Go.Proofs.Try.f64) (c := w_toStepS_c) Go.Proofs.Try.func64 (by kernel_rfl) (by kernel_rfl) rfl rfl (by kernel_rfl) (by kernel_rfl) rfl
theorem w_toTrick_ok : OneF Go.Proofs.Try.prog (fun _ => True) 30 w_toTrick_fi := fnOk_of (fn := Go.Proofs.Try.f30) (c := w_toTrick_c) Go.Proofs.Try.func30 (by kernel_rfl) (by kernel_rfl) rfl rfl (by kernel_rfl) (by kernel_rfl) rfl
theorem s_SameTrick_ok : OneF Go.Proofs.Try.prog (fun _ => True) 29 s_SameTrick_fi := fnOk_of (fn := Go.Proofs.Try.f29) (c := s_SameTrick_c) Go.Proofs.Try.func29 (by kernel_rfl) (by kernel_rfl) rfl rfl (by kernel_rfl) (by kernel_rfl) rfl
theorem slices_Equal_i_Step_ok : OneF Go.Proofs.Try.prog (fun _ => True) 65 slices_Equal_i_Step_fi := fnOk_of (fn := Go.Proofs.Try.f65) (c := slices_Equal_i_Step_c) Go.Proofs.Try.func65 (by kernel_rfl) (by kernel_rfl) rfl rfl (by kernel_rfl) (by kernel_rfl) rfl
theorem i_SameTrick_ok : OneF Go.Proofs.Try.prog (fun _ => True) 31 i_SameTrick_fi := fnOk_of (fn := Go.Proofs.Try.f31) (c := i_SameTrick_c) Go.Proofs.Try.func31 (by kernel_rfl) (by kernel_rfl) rfl rfl (by kernel_rfl) (by kernel_rfl) rfl
theorem w_eqMove_ok : OneF Go.Proofs.Try.prog (fun _ => True) 87 w_eqMove_fi := fnOk_of (fn := Go.Proofs.Try.f87) (c := w_eqMove_c) Go.Proofs.Try.func87 (by kernel_rfl) (by kernel_rfl) rfl rfl (by kernel_rfl) (by kernel_rfl) rfl
theorem w_eqStep_ok : OneF Go.Proofs.Try.prog (fun _ => True) 81 w_eqStep_fi := fnOk_of (fn := Go.Proofs.Try.f81) (c := w_eqStep_c) Go.Proofs.Try.func81 (by kernel_rfl) (by kernel_rfl) rfl rfl (by kernel_rfl) (by kernel_rfl) rfl
theorem w_eqStepS_ok : OneF Go.Proofs.Try.prog (fun _ => True) 66 w_eqStepS_fi := fnOk_of (fn := Go.Proofs.Try.f66) (c := w_eqStepS_c) Go.Proofs.Try.func66 (by kernel_rfl) (by kernel_rfl) rfl rfl (by kernel_rfl) (by kernel_rfl) rfl
theorem w_eqTrick_ok : OneF Go.Proofs.Try.prog (fun _ => True) 32 w_eqTrick_fi := fnOk_of (fn := Go.Proofs.Try.f32) (c := w_eqTrick_c) Go.Proofs.Try.func32 (by kernel_rfl) (by kernel_rfl) rfl rfl (by kernel_rfl) (by kernel_rfl) rfl
theorem w_FnExactSameTrick_ok : OneF Go.Proofs.Try.prog (fun _ => True) 7 w_FnExactSameTrick_fi := fnOk_of (fn := Go.Proofs.Try.f7) (c := w_FnExactSameTrick_c) Go.Proofs.Try.func7 (by kernel_rfl) (by kernel_rfl) rfl rfl (by kernel_rfl) (by kernel_rfl) rfl
theorem s_NextWays_ok : OneF Go.Proofs.Try.prog (fun _ => True) 33 s_NextWays_fi := fnOk_of (fn := Go.Proofs.Try.f33) (c := s_NextWays_c) Go.Proofs.Try.func33 (by kernel_rfl) (by kernel_rfl) rfl rfl (by kernel_rfl) (by kernel_rfl) rfl
theorem i_NextWays_ok : OneF Go.Proofs.Try.prog (fun _ => True) 34 i_NextWays_fi := fnOk_of (fn := Go.Proofs.Try.f34) (c := i_NextWays_c) Go.Proofs.Try.func34 (by kernel_rfl) (by kernel_rfl) rfl rfl (by kernel_rfl) (by kernel_rfl) rfl
theorem w_markIntS_ok : OneF Go.Proofs.Try.prog (fun _ => True) 35 w_markIntS_fi := fnOk_of (fn := Go.Proofs.Try.f35) (c := w_markIntS_c) Go.Proofs.Try.func35 (by kernel_rfl) (by kernel_rfl) rfl rfl (by kernel_rfl) (by kernel_rfl) rfl
theorem w_heldIntS_ok : OneF Go.Proofs.Try.prog (fun _ => True) 36 w_heldIntS_fi := fnOk_of (fn := Go.Proofs.Try.f36) (c := w_heldIntS_c) Go.Proofs.Try.func36 (by kernel_rfl) (by kernel_rfl) rfl rfl (by kernel_rfl) (by kernel_rfl) rfl
theorem w_FnExactNextWays_ok : OneF Go.Proofs.Try.prog (fun _ => True) 8 w_FnExactNextWays_fi := fnOk_of (fn := Go.Proofs.Try.f8) (c := w_FnExactNextWays_c) Go.Proofs.Try.func8 (by kernel_rfl) (by kernel_rfl) rfl rfl (by kernel_rfl) (by kernel_rfl) rfl
theorem s_BestGuess_ok : OneF Go.Proofs.Try.prog (fun _ => True) 37 s_BestGuess_fi := fnOk_of (fn := Go.Proofs.Try.f37) (c := s_BestGuess_c) Go.Proofs.Try.func37 (by kernel_rfl) (by kernel_rfl) rfl rfl (by kernel_rfl) (by kernel_rfl) rfl
theorem slices_Max_int_ok : OneF Go.Proofs.Try.prog (fun _ => True) 68 slices_Max_int_fi := fnOk_of (fn := Go.Proofs.Try.f68) (c := slices_Max_int_c) Go.Proofs.Try.func68 (by kernel_rfl) (by kernel_rfl) rfl rfl (by kernel_rfl) (by kernel_rfl) rfl
theorem i_BestGuess_ok : OneF Go.Proofs.Try.prog (fun _ => True) 38 i_BestGuess_fi := fnOk_of (fn := Go.Proofs.Try.f38) (c := i_BestGuess_c) Go.Proofs.Try.func38 (by kernel_rfl) (by kernel_rfl) rfl rfl (by kernel_rfl) (by kernel_rfl) rfl
theorem w_FnExactBestGuess_ok : OneF Go.Proofs.Try.prog (fun _ => True) 9 w_FnExactBestGuess_fi := fnOk_of (fn := Go.Proofs.Try.f9) (c := w_FnExactBestGuess_c) Go.Proofs.Try.func9 (by kernel_rfl) (by kernel_rfl) rfl rfl (by kernel_rfl) (by kernel_rfl) rfl
theorem s_l19Total_ok : OneF Go.Proofs.Try.prog (fun _ => True) 70 s_l19Total_fi := fnOk_of (fn := Go.Proofs.Try.f70) (c := s_l19Total_c) Go.Proofs.Try.func70 (by kernel_rfl) (by kernel_rfl) rfl rfl (by kernel_rfl) (by kernel_rfl) rfl
theorem s_GuessTotal_ok : OneF Go.Proofs.Try.prog (fun _ => True) 39 s_GuessTotal_fi := fnOk_of (fn := Go.Proofs.Try.f39) (c := s_GuessTotal_c) Go.Proofs.Try.func39 (by kernel_rfl) (by kernel_rfl) rfl rfl (by kernel_rfl) (by kernel_rfl) rfl
theorem slices_Clone_int_ok : OneF Go.Proofs.Try.prog (fun _ => True) 82 slices_Clone_int_fi := fnOk_of (fn := Go.Proofs.Try.f82) (c := slices_Clone_int_c) Go.Proofs.Try.func82 (by kernel_rfl) (by kernel_rfl) rfl rfl (by kernel_rfl) (by kernel_rfl) rfl
theorem i_total_ok : OneF Go.Proofs.Try.prog (fun _ => True) 71 i_total_fi := fnOk_of (fn := Go.Proofs.Try.f71) (c := i_total_c) Go.Proofs.Try.func71 (by kernel_rfl) (by kernel_rfl) rfl rfl (by kernel_rfl) (by kernel_rfl) rfl
theorem i_GuessTotal_ok : OneF Go.Proofs.Try.prog (fun _ => True) 40 i_GuessTotal_fi := fnOk_of (fn := Go.Proofs.Try.f40) (c := i_GuessTotal_c) Go.Proofs.Try.func40 (by kernel_rfl) (by kernel_rfl) rfl rfl (by kernel_rfl) (by kernel_rfl) rfl
theorem w_FnExactGuessTotal_ok : OneF Go.Proofs.Try.prog (fun _ => True) 10 w_FnExactGuessTotal_fi := fnOk_of (fn := Go.Proofs.Try.f10) (c := w_FnExactGuessTotal_c) Go.Proofs.Try.func10 (by kernel_rfl) (by kernel_rfl) rfl rfl (by kernel_rfl) (by kernel_rfl) rfl
theorem w_szIntSS_ok : OneF Go.Proofs.Try.prog (fun _ => True) 41 w_szIntSS_fi := fnOk_of (fn := Go.Proofs.Try.f41) (c := w_szIntSS_c) Go.Proofs.Try.func41 (by kernel_rfl) (by kernel_rfl) rfl rfl (by kernel_rfl) (by kernel_rfl) rfl
theorem w_toIntSS_ok : OneF Go.Proofs.Try.prog (fun _ => True) 43 w_toIntSS_fi := fnOk_of (fn := Go.Proofs.Try.f43) (c := w_toIntSS_c) Go.Proofs.Try.func43 (by kernel_rfl) (by kernel_rfl) rfl rfl (by kernel_rfl) (by kernel_rfl) rfl
theorem s_CardOf_ok : OneF Go.Proofs.Try.prog (fun _ => True) 73 s_CardOf_fi := fnOk_of (fn := Go.Proofs.Try.f73) (c := s_CardOf_c) Go.Proofs.Try.func73 (by kernel_rfl) (by kernel_rfl) rfl rfl (by kernel_rfl) (by kernel_rfl) rfl
theorem s_PacketOk_ok : OneF Go.Proofs.Try.prog (fun _ => True) 88 s_PacketOk_fi := fnOk_of (fn := Go.Proofs.Try.f88) (c := s_PacketOk_c) Go.Proofs.Try.func88 (by kernel_rfl) (by kernel_rfl) rfl rfl (by kernel_rfl) (by kernel_rfl) rfl
theorem s_PositionOf_ok : OneF Go.Proofs.Try.prog (fun _ => True) 89 s_PositionOf_fi := fnOk_of (fn := Go.Proofs.Try.f89) (c := s_PositionOf_c) Go.Proofs.Try.func89 (by kernel_rfl) (by kernel_rfl) rfl rfl (by kernel_rfl) (by kernel_rfl) rfl
theorem s_IsArrangement_ok : OneF Go.Proofs.Try.prog (fun _ => True) 83 s_IsArrangement_fi := fnOk_of (fn := Go.Proofs.Try.f83) (c := s_IsArrangement_c) Go.Proofs.Try.func83 (by kernel_rfl) (by kernel_rfl) rfl rfl (by kernel_rfl) (by kernel_rfl) rfl
theorem s_l05Less_ok : OneF Go.Proofs.Try.prog (fun _ => True) 84 s_l05Less_fi := fnOk_of (fn := Go.Proofs.Try.f84) (c := s_l05Less_c) Go.Proofs.Try.func84 (by kernel_rfl) (by kernel_rfl) rfl rfl (by kernel_rfl) (by kernel_rfl) rfl
theorem s_KnowOk_ok : OneF Go.Proofs.Try.prog (fun _ => True) 72 s_KnowOk_fi := fnOk_of (fn := Go.Proofs.Try.f72) (c := s_KnowOk_c) Go.Proofs.Try.func72 (by kernel_rfl) (by kernel_rfl) rfl rfl (by kernel_rfl) (by kernel_rfl) rfl
theorem s_KnownAt_ok : OneF Go.Proofs.Try.prog (fun _ => True) 42 s_KnownAt_fi := fnOk_of (fn := Go.Proofs.Try.f42) (c := s_KnownAt_c) Go.Proofs.Try.func42 (by kernel_rfl) (by kernel_rfl) rfl rfl (by kernel_rfl) (by kernel_rfl) rfl
theorem i_CardOf_ok : OneF Go.Proofs.Try.prog (fun _ => True) 76 i_CardOf_fi := fnOk_of (fn := Go.Proofs.Try.f76) (c := i_CardOf_c) Go.Proofs.Try.func76 (by kernel_rfl) (by kernel_rfl) rfl rfl (by kernel_rfl) (by kernel_rfl) rfl
theorem i_PacketOk_ok : OneF Go.Proofs.Try.prog (fun _ => True) 90 i_PacketOk_fi := fnOk_of (fn := Go.Proofs.Try.f90) (c := i_PacketOk_c) Go.Proofs.Try.func90 (by kernel_rfl) (by kernel_rfl) rfl rfl (by kernel_rfl) (by kernel_rfl) rfl
theorem i_PositionOf_1_ok : OneF Go.Proofs.Try.prog (fun _ => True) 96 i_PositionOf_1_fi := fnOk_of (fn := Go.Proofs.Try.f96) (c := i_PositionOf_1_c) Go.Proofs.Try.func96 (by kernel_rfl) (by kernel_rfl) rfl rfl (by kernel_rfl) (by kernel_rfl) rfl
theorem slices_IndexFunc_int_of_i_PositionOf_1_ok : OneF Go.Proofs.Try.prog (fun _ => True) 95 slices_IndexFunc_int_of_i_PositionOf_1_fi := fnOk_of (fn := Go.Proofs.Try.f95) (c := slices_IndexFunc_int_of_i_PositionOf_1_c) Go.Proofs.Try.func95 (by kernel_rfl) (by kernel_rfl) rfl rfl (by kernel_rfl) (by kernel_rfl) rfl
theorem i_PositionOf_ok : OneF Go.Proofs.Try.prog (fun _ => True) 93 i_PositionOf_fi := fnOk_of (fn := Go.Proofs.Try.f93) (c := i_PositionOf_c) Go.Proofs.Try.func93 (by kernel_rfl) (by kernel_rfl) rfl rfl (by kernel_rfl) (by kernel_rfl) rfl
theorem i_IsArrangement_1_ok : OneF Go.Proofs.Try.prog (fun _ => True) 92 i_IsArrangement_1_fi := fnOk_of (fn := Go.Proofs.Try.f92) (c := i_IsArrangement_1_c) Go.Proofs.Try.func92 (by kernel_rfl) (by kernel_rfl) rfl rfl (by kernel_rfl) (by kernel_rfl) rfl
theorem slices_IndexFunc_int_of_i_IsArrangement_1_ok : OneF Go.Proofs.Try.prog (fun _ => True) 95 slices_IndexFunc_int_of_i_IsArrangement_1_fi := fnOk_of (fn := Go.Proofs.Try.f95) (c := slices_IndexFunc_int_of_i_IsArrangement_1_c) Go.Proofs.Try.func95 (by kernel_rfl) (by kernel_rfl) rfl rfl (by kernel_rfl) (by kernel_rfl) rfl
theorem slices_ContainsFunc_int_of_i_IsArrangement_1_ok : OneF Go.Proofs.Try.prog (fun _ => True) 91 slices_ContainsFunc_int_of_i_IsArrangement_1_fi := fnOk_of (fn := Go.Proofs.Try.f91) (c := slices_ContainsFunc_int_of_i_IsArrangement_1_c) Go.Proofs.Try.func91 (by kernel_rfl) (by kernel_rfl) rfl rfl (by kernel_rfl) (by kernel_rfl) rfl
theorem i_IsArrangement_ok : OneF Go.Proofs.Try.prog (fun _ => True) 85 i_IsArrangement_fi := fnOk_of (fn := Go.Proofs.Try.f85) (c := i_IsArrangement_c) Go.Proofs.Try.func85 (by kernel_rfl) (by kernel_rfl) rfl rfl (by kernel_rfl) (by kernel_rfl) rfl
theorem cmp_isNaN_int_ok : OneF Go.Proofs.Try.prog (fun _ => True) 97 cmp_isNaN_int_fi := fnOk_of (fn := Go.Proofs.Try.f97) (c := cmp_isNaN_int_c) Go.Proofs.Try.func97 (by kernel_rfl) (by kernel_rfl) rfl rfl (by kernel_rfl) (by kernel_rfl) rfl
theorem cmp_Compare_int_ok : OneF Go.Proofs.Try.prog (fun _ => True) 94 cmp_Compare_int_fi := fnOk_of (fn := Go.Proofs.Try.f94) (c := cmp_Compare_int_c) Go.Proofs.Try.func94 (by kernel_rfl) (by kernel_rfl) rfl rfl (by kernel_rfl) (by kernel_rfl) rfl
theorem slices_Compare_int_ok : OneF Go.Proofs.Try.prog (fun _ => True) 86 slices_Compare_int_fi := fnOk_of (fn := Go.Proofs.Try.f86) (c := slices_Compare_int_c) Go.Proofs.Try.func86 (by kernel_rfl) (by kernel_rfl) rfl rfl (by kernel_rfl) (by kernel_rfl) rfl
theorem i_KnowOk_ok : OneF Go.Proofs.Try.prog (fun _ => True) 78 i_KnowOk_fi := fnOk_of (fn := Go.Proofs.Try.f78) (c := i_KnowOk_c) Go.Proofs.Try.func78 (by kernel_rfl) (by kernel_rfl) rfl rfl (by kernel_rfl) (by kernel_rfl) rfl
theorem i_KnownAt_1_ok : OneF Go.Proofs.Try.prog (fun _ => True) 75 i_KnownAt_1_fi := fnOk_of (fn := Go.Proofs.Try.f75) (c := i_KnownAt_1_c) Go.Proofs.Try.func75 (by kernel_rfl) (by kernel_rfl) rfl rfl (by kernel_rfl) (by kernel_rfl) rfl
theorem i_common_of_i_KnownAt_1_ok : OneF Go.Proofs.Try.prog (fun _ => True) 74 i_common_of_i_KnownAt_1_fi := fnOk_of (fn := Go.Proofs.Try.f74) (c := i_common_of_i_KnownAt_1_c) Go.Proofs.Try.func74 (by kernel_rfl) (by kernel_rfl) rfl rfl (by kernel_rfl) (by kernel_rfl) rfl
theorem i_KnownAt_ok : OneF Go.Proofs.Try.prog (fun _ => True) 44 i_KnownAt_fi := fnOk_of (fn := Go.Proofs.Try.f44) (c := i_KnownAt_c) Go.Proofs.Try.func44 (by kernel_rfl) (by kernel_rfl) rfl rfl (by kernel_rfl) (by kernel_rfl) rfl
theorem w_eqIntSS_ok : OneF Go.Proofs.Try.prog (fun _ => True) 45 w_eqIntSS_fi := fnOk_of (fn := Go.Proofs.Try.f45) (c := w_eqIntSS_c) Go.Proofs.Try.func45 (by kernel_rfl) (by kernel_rfl) rfl rfl (by kernel_rfl) (by kernel_rfl) rfl
theorem w_FnExactKnownAt_ok : OneF Go.Proofs.Try.prog (fun _ => True) 11 w_FnExactKnownAt_fi := fnOk_of (fn := Go.Proofs.Try.f11) (c := w_FnExactKnownAt_c) Go.Proofs.Try.func11 (by kernel_rfl) (by kernel_rfl) rfl rfl (by kernel_rfl) (by kernel_rfl) rfl
theorem s_l15Worst_ok : OneF Go.Proofs.Try.prog (fun _ => True) 77 s_l15Worst_fi := fnOk_of (fn := Go.Proofs.Try.f77) (c := s_l15Worst_c) Go.Proofs.Try.func77 (by kernel_rfl) (by kernel_rfl) rfl rfl (by kernel_rfl) (by kernel_rfl) rfl
theorem s_BestLook_ok : OneF Go.Proofs.Try.prog (fun _ => True) 46 s_BestLook_fi := fnOk_of (fn := Go.Proofs.Try.f46) (c := s_BestLook_c) Go.Proofs.Try.func46 (by kernel_rfl) (by kernel_rfl) rfl rfl (by kernel_rfl) (by kernel_rfl) rfl
theorem i_BestLook_ok : OneF Go.Proofs.Try.prog (fun _ => True) 47 i_BestLook_fi := fnOk_of (fn := Go.Proofs.Try.f47) (c := i_BestLook_c) Go.Proofs.Try.func47 (by kernel_rfl) (by kernel_rfl) rfl rfl (by kernel_rfl) (by kernel_rfl) rfl
theorem w_FnExactBestLook_ok : OneF Go.Proofs.Try.prog (fun _ => True) 12 w_FnExactBestLook_fi := fnOk_of (fn := Go.Proofs.Try.f12) (c := w_FnExactBestLook_c) Go.Proofs.Try.func12 (by kernel_rfl) (by kernel_rfl) rfl rfl (by kernel_rfl) (by kernel_rfl) rfl
theorem s_CountKnown_ok : OneF Go.Proofs.Try.prog (fun _ => True) 48 s_CountKnown_fi := fnOk_of (fn := Go.Proofs.Try.f48) (c := s_CountKnown_c) Go.Proofs.Try.func48 (by kernel_rfl) (by kernel_rfl) rfl rfl (by kernel_rfl) (by kernel_rfl) rfl
theorem i_CountKnown_ok : OneF Go.Proofs.Try.prog (fun _ => True) 49 i_CountKnown_fi := fnOk_of (fn := Go.Proofs.Try.f49) (c := i_CountKnown_c) Go.Proofs.Try.func49 (by kernel_rfl) (by kernel_rfl) rfl rfl (by kernel_rfl) (by kernel_rfl) rfl
theorem w_FnExactCountKnown_ok : OneF Go.Proofs.Try.prog (fun _ => True) 13 w_FnExactCountKnown_fi := fnOk_of (fn := Go.Proofs.Try.f13) (c := w_FnExactCountKnown_c) Go.Proofs.Try.func13 (by kernel_rfl) (by kernel_rfl) rfl rfl (by kernel_rfl) (by kernel_rfl) rfl
theorem hF : FnOk Go.Proofs.Try.prog (fun _ => True) E := lookF_ok (l := fnL) ⟨w_toIntS_ok, s_ShuffleLine_ok, i_ShuffleLine_ok, w_eqIntS_ok, w_FnExactShuffleLine_ok, w_szIntS_ok, w_szScene_ok, w_toScene_ok, s_SamePacket_ok, s_SameScene_ok, slices_Equal_int_ok, i_SameScene_ok, w_eqScene_ok, w_FnExactSameScene_ok, w_toMove_ok, w_toStep_ok, s_l01In_ok, s_MoveOk_ok, s_l16Choice_ok, s_StepOk_ok, i_MoveOk_ok, i_StepOk_ok, w_FnExactStepOk_ok, s_l02Has_ok, s_l19Ok_ok, s_l19Choose_ok, s_l19Ways_ok, s_WaysWith_ok, slices_Index_int_ok, slices_Contains_int_ok, i_isPrefix_ok, i_upTo_ok, i_riffled_ok, i_WaysWith_ok, w_FnExactWaysWith_ok, w_szStepS_ok, w_szTrick_ok, w_toStepS_ok, w_toTrick_ok, s_SameTrick_ok, slices_Equal_i_Step_ok, i_SameTrick_ok, w_eqMove_ok, w_eqStep_ok, w_eqStepS_ok, w_eqTrick_ok, w_FnExactSameTrick_ok, s_NextWays_ok, i_NextWays_ok, w_markIntS_ok, w_heldIntS_ok, w_FnExactNextWays_ok, s_BestGuess_ok, slices_Max_int_ok, i_BestGuess_ok, w_FnExactBestGuess_ok, s_l19Total_ok, s_GuessTotal_ok, slices_Clone_int_ok, i_total_ok, i_GuessTotal_ok, w_FnExactGuessTotal_ok, w_szIntSS_ok, w_toIntSS_ok, s_CardOf_ok, s_PacketOk_ok, s_PositionOf_ok, s_IsArrangement_ok, s_l05Less_ok, s_KnowOk_ok, s_KnownAt_ok, i_CardOf_ok, i_PacketOk_ok, i_PositionOf_1_ok, slices_IndexFunc_int_of_i_PositionOf_1_ok, i_PositionOf_ok, i_IsArrangement_1_ok, slices_IndexFunc_int_of_i_IsArrangement_1_ok, slices_ContainsFunc_int_of_i_IsArrangement_1_ok, i_IsArrangement_ok, cmp_isNaN_int_ok, cmp_Compare_int_ok, slices_Compare_int_ok, i_KnowOk_ok, i_KnownAt_1_ok, i_common_of_i_KnownAt_1_ok, i_KnownAt_ok, w_eqIntSS_ok, w_FnExactKnownAt_ok, s_l15Worst_ok, s_BestLook_ok, i_BestLook_ok, w_FnExactBestLook_ok, s_CountKnown_ok, i_CountKnown_ok, w_FnExactCountKnown_ok, trivial⟩
end Pt
