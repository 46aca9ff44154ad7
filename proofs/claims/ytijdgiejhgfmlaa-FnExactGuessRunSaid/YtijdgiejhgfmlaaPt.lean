/-
  The plain machine's telling of functions of the program. Printed by gen.py.
  Conditions: none; these are definitions and equations that the kernel checks.
-/
import Derived.Test.YtijdgiejhgfmlaaXvza
import Derived.Test.YtijdgiejhgfmlaaProg
namespace Pt
open Go Go.Vt
set_option linter.unusedVariables false
set_option maxRecDepth 100000

noncomputable def tyL : List (Nat × TI) := [(3, .one (.int .i64)),
  (4, .one (.bool)),
  (22, .one (.slice (.int .i64))),
  (27, .one (.slice (.slice (.int .i64)))),
  (87, .arr 12 (.bool))]

/-! ### w_toIntS -/
noncomputable def w_toIntS_c : Code := (Go.Proofs.Try.f11.body).getD .skip
noncomputable def w_toIntS_h : Nat → Option (List Hint)
  | 3 => some [.keep 0, .cell 3 (.row 100003 (.int .i64) true false), .keep 4]
  | _ => none
noncomputable def w_toIntS_fi : Fi := ⟨[.v (.slice (.int .i64)) false], [(false, [⟨.slice (.int .i64), some (true, false)⟩])], none, w_toIntS_c, Go.Proofs.Try.f11.results.toList, 22, w_toIntS_h⟩
/-! ### s_l01In -/
noncomputable def s_l01In_c : Code := (Go.Proofs.Try.f39.body).getD .skip
noncomputable def s_l01In_h : Nat → Option (List Hint)
  | _ => none
noncomputable def s_l01In_fi : Fi := ⟨[.v (.int .i64) false, .v (.int .i64) false, .v (.int .i64) false], [(false, [⟨.bool, none⟩])], none, s_l01In_c, Go.Proofs.Try.f39.results.toList, 15, s_l01In_h⟩
/-! ### s_l02Has -/
noncomputable def s_l02Has_c : Code := (Go.Proofs.Try.f87.body).getD .skip
noncomputable def s_l02Has_h : Nat → Option (List Hint)
  | 2 => some [.keep 1, .keep 7, .keep 8, .keep 9]
  | _ => none
noncomputable def s_l02Has_fi : Fi := ⟨[.v (.slice (.int .i64)) false, .v (.int .i64) false], [(false, [⟨.bool, none⟩])], none, s_l02Has_c, Go.Proofs.Try.f87.results.toList, 17, s_l02Has_h⟩
/-! ### s_PermOk -/
noncomputable def s_PermOk_c : Code := (Go.Proofs.Try.f72.body).getD .skip
noncomputable def s_PermOk_h : Nat → Option (List Hint)
  | 4 => some [.keep 0, .keep 8, .keep 9, .keep 10]
  | _ => none
noncomputable def s_PermOk_fi : Fi := ⟨[.v (.slice (.int .i64)) false], [(false, [⟨.bool, none⟩])], none, s_PermOk_c, Go.Proofs.Try.f72.results.toList, 29, s_PermOk_h⟩
/-! ### s_CardOf -/
noncomputable def s_CardOf_c : Code := (Go.Proofs.Try.f45.body).getD .skip
noncomputable def s_CardOf_h : Nat → Option (List Hint)
  | _ => none
noncomputable def s_CardOf_fi : Fi := ⟨[.v (.int .i64) false], [(false, [⟨.int .i64, none⟩])], none, s_CardOf_c, Go.Proofs.Try.f45.results.toList, 10, s_CardOf_h⟩
/-! ### s_PositionOf -/
noncomputable def s_PositionOf_c : Code := (Go.Proofs.Try.f90.body).getD .skip
noncomputable def s_PositionOf_h : Nat → Option (List Hint)
  | 2 => some [.keep 1, .keep 7, .keep 8, .keep 9]
  | _ => none
noncomputable def s_PositionOf_fi : Fi := ⟨[.v (.slice (.int .i64)) false, .v (.int .i64) false], [(false, [⟨.int .i64, none⟩])], none, s_PositionOf_c, Go.Proofs.Try.f90.results.toList, 24, s_PositionOf_h⟩
/-! ### s_RisingSequences -/
noncomputable def s_RisingSequences_c : Code := (Go.Proofs.Try.f73.body).getD .skip
noncomputable def s_RisingSequences_h : Nat → Option (List Hint)
  | 6 => some [.keep 0, .cell 3 (.row 450003 (.slice (.int .i64)) true false), .keep 4, .keep 12, .keep 13]
  | _ => none
noncomputable def s_RisingSequences_fi : Fi := ⟨[.v (.slice (.int .i64)) false], [(false, [⟨.slice (.slice (.int .i64)), some (true, false)⟩])], none, s_RisingSequences_c, Go.Proofs.Try.f73.results.toList, 49, s_RisingSequences_h⟩
/-! ### s_IsRiffle -/
noncomputable def s_IsRiffle_c : Code := (Go.Proofs.Try.f38.body).getD .skip
noncomputable def s_IsRiffle_h : Nat → Option (List Hint)
  | _ => none
noncomputable def s_IsRiffle_fi : Fi := ⟨[.v (.slice (.int .i64)) false], [(false, [⟨.bool, none⟩])], none, s_IsRiffle_c, Go.Proofs.Try.f38.results.toList, 11, s_IsRiffle_h⟩
/-! ### s_l19Ok -/
noncomputable def s_l19Ok_c : Code := (Go.Proofs.Try.f97.body).getD .skip
noncomputable def s_l19Ok_h : Nat → Option (List Hint)
  | 4 => some [.keep 0, .keep 1, .keep 10, .keep 11, .keep 12]
  | _ => none
noncomputable def s_l19Ok_fi : Fi := ⟨[.v (.int .i64) false, .v (.slice (.int .i64)) false], [(false, [⟨.bool, none⟩])], none, s_l19Ok_c, Go.Proofs.Try.f97.results.toList, 30, s_l19Ok_h⟩
/-! ### s_l19Choose -/
noncomputable def s_l19Choose_c : Code := (Go.Proofs.Try.f111.body).getD .skip
noncomputable def s_l19Choose_h : Nat → Option (List Hint)
  | 3 => some [.keep 0, .keep 1, .keep 5, .keep 6]
  | _ => none
noncomputable def s_l19Choose_fi : Fi := ⟨[.v (.int .i64) false, .v (.int .i64) false], [(false, [⟨.int .i64, none⟩])], none, s_l19Choose_c, Go.Proofs.Try.f111.results.toList, 22, s_l19Choose_h⟩
/-! ### s_l19Ways -/
noncomputable def s_l19Ways_c : Code := (Go.Proofs.Try.f107.body).getD .skip
noncomputable def s_l19Ways_h : Nat → Option (List Hint)
  | 4 => some [.keep 0, .keep 1, .keep 2, .keep 7, .keep 8, .keep 12, .keep 13, .keep 14]
  | _ => none
noncomputable def s_l19Ways_fi : Fi := ⟨[.v (.int .i64) false, .v (.int .i64) false, .v (.slice (.int .i64)) false], [(false, [⟨.int .i64, none⟩])], none, s_l19Ways_c, Go.Proofs.Try.f107.results.toList, 49, s_l19Ways_h⟩
/-! ### s_WaysWith -/
noncomputable def s_WaysWith_c : Code := (Go.Proofs.Try.f98.body).getD .skip
noncomputable def s_WaysWith_h : Nat → Option (List Hint)
  | 5 => some [.keep 0, .keep 1, .keep 5, .keep 6]
  | _ => none
noncomputable def s_WaysWith_fi : Fi := ⟨[.v (.int .i64) false, .v (.slice (.int .i64)) false], [(false, [⟨.int .i64, none⟩])], none, s_WaysWith_c, Go.Proofs.Try.f98.results.toList, 23, s_WaysWith_h⟩
/-! ### s_NextWays -/
noncomputable def s_NextWays_c : Code := (Go.Proofs.Try.f74.body).getD .skip
noncomputable def s_NextWays_h : Nat → Option (List Hint)
  | 5 => some [.keep 0, .keep 1, .cell 5 (.row 100005 (.int .i64) true false), .keep 6]
  | _ => none
noncomputable def s_NextWays_fi : Fi := ⟨[.v (.int .i64) false, .v (.slice (.int .i64)) false], [(false, [⟨.slice (.int .i64), some (true, true)⟩])], none, s_NextWays_c, Go.Proofs.Try.f74.results.toList, 41, s_NextWays_h⟩
/-! ### s_BestGuess -/
noncomputable def s_BestGuess_c : Code := (Go.Proofs.Try.f40.body).getD .skip
noncomputable def s_BestGuess_h : Nat → Option (List Hint)
  | 4 => some [.keep 5, .keep 6, .cell 11 (.row 100011 (.int .i64) true true), .keep 12, .keep 13]
  | _ => none
noncomputable def s_BestGuess_fi : Fi := ⟨[.v (.int .i64) false, .v (.slice (.int .i64)) false], [(false, [⟨.int .i64, none⟩])], none, s_BestGuess_c, Go.Proofs.Try.f40.results.toList, 25, s_BestGuess_h⟩
/-! ### s_GuessRun -/
noncomputable def s_GuessRun_c : Code := (Go.Proofs.Try.f10.body).getD .skip
noncomputable def s_GuessRun_h : Nat → Option (List Hint)
  | 5 => some [.keep 0, .keep 3, .keep 15, .keep 16, .keep 17]
  | _ => none
noncomputable def s_GuessRun_fi : Fi := ⟨[.v (.slice (.int .i64)) false], [(false, [⟨.int .i64, none⟩])], none, s_GuessRun_c, Go.Proofs.Try.f10.results.toList, 34, s_GuessRun_h⟩
/-! ### slices_Index_int -/
noncomputable def slices_Index_int_c : Code := (Go.Proofs.Try.f79.body).getD .skip
noncomputable def slices_Index_int_h : Nat → Option (List Hint)
  | 2 => some [.keep 0, .keep 1, .keep 7, .keep 8]
  | _ => none
noncomputable def slices_Index_int_fi : Fi := ⟨[.v (.slice (.int .i64)) false, .v (.int .i64) false], [(false, [⟨.int .i64, none⟩])], none, slices_Index_int_c, Go.Proofs.Try.f79.results.toList, 19, slices_Index_int_h⟩
/-! ### slices_Contains_int -/
noncomputable def slices_Contains_int_c : Code := (Go.Proofs.Try.f70.body).getD .skip
noncomputable def slices_Contains_int_h : Nat → Option (List Hint)
  | _ => none
noncomputable def slices_Contains_int_fi : Fi := ⟨[.v (.slice (.int .i64)) false, .v (.int .i64) false], [(false, [⟨.bool, none⟩])], none, slices_Contains_int_c, Go.Proofs.Try.f70.results.toList, 9, slices_Contains_int_h⟩
/-! ### i_PermOk -/
noncomputable def i_PermOk_c : Code := (Go.Proofs.Try.f75.body).getD .skip
noncomputable def i_PermOk_h : Nat → Option (List Hint)
  | 2 => some [.keep 0, .keep 5, .keep 6, .keep 7]
  | _ => none
noncomputable def i_PermOk_fi : Fi := ⟨[.v (.slice (.int .i64)) false], [(false, [⟨.bool, none⟩])], none, i_PermOk_c, Go.Proofs.Try.f75.results.toList, 31, i_PermOk_h⟩
/-! ### i_inverse -/
noncomputable def i_inverse_c : Code := (Go.Proofs.Try.f99.body).getD .skip
noncomputable def i_inverse_h : Nat → Option (List Hint)
  | 3 => some [.cell 3 (.row 100003 (.int .i64) true false), .keep 9, .keep 10, .keep 11]
  | _ => none
noncomputable def i_inverse_fi : Fi := ⟨[.v (.slice (.int .i64)) false], [(false, [⟨.slice (.int .i64), some (true, false)⟩])], none, i_inverse_c, Go.Proofs.Try.f99.results.toList, 22, i_inverse_h⟩
/-! ### i_RisingSequences -/
noncomputable def i_RisingSequences_c : Code := (Go.Proofs.Try.f76.body).getD .skip
noncomputable def i_RisingSequences_h : Nat → Option (List Hint)
  | 6 => some [.cell 3 (.row 450003 (.slice (.int .i64)) true false), .cell 4 (.row 100004 (.int .i64) true false), .keep 12, .keep 13]
  | _ => none
noncomputable def i_RisingSequences_fi : Fi := ⟨[.v (.slice (.int .i64)) false], [(false, [⟨.slice (.slice (.int .i64)), some (true, false)⟩])], none, i_RisingSequences_c, Go.Proofs.Try.f76.results.toList, 49, i_RisingSequences_h⟩
/-! ### i_IsRiffle -/
noncomputable def i_IsRiffle_c : Code := (Go.Proofs.Try.f41.body).getD .skip
noncomputable def i_IsRiffle_h : Nat → Option (List Hint)
  | _ => none
noncomputable def i_IsRiffle_fi : Fi := ⟨[.v (.slice (.int .i64)) false], [(false, [⟨.bool, none⟩])], none, i_IsRiffle_c, Go.Proofs.Try.f41.results.toList, 11, i_IsRiffle_h⟩
/-! ### i_isPrefix -/
noncomputable def i_isPrefix_c : Code := (Go.Proofs.Try.f100.body).getD .skip
noncomputable def i_isPrefix_h : Nat → Option (List Hint)
  | 4 => some [.keep 0, .keep 1, .keep 13, .keep 14, .keep 15]
  | _ => none
noncomputable def i_isPrefix_fi : Fi := ⟨[.v (.int .i64) false, .v (.slice (.int .i64)) false], [(false, [⟨.bool, none⟩])], none, i_isPrefix_c, Go.Proofs.Try.f100.results.toList, 35, i_isPrefix_h⟩
/-! ### i_upTo -/
noncomputable def i_upTo_c : Code := (Go.Proofs.Try.f84.body).getD .skip
noncomputable def i_upTo_h : Nat → Option (List Hint)
  | 3 => some [.keep 0, .cell 3 (.row 100003 (.int .i64) true true), .keep 4]
  | _ => none
noncomputable def i_upTo_fi : Fi := ⟨[.v (.int .i64) false], [(false, [⟨.slice (.int .i64), some (true, true)⟩])], none, i_upTo_c, Go.Proofs.Try.f84.results.toList, 15, i_upTo_h⟩
/-! ### i_riffled -/
noncomputable def i_riffled_c : Code := (Go.Proofs.Try.f101.body).getD .skip
noncomputable def i_riffled_h : Nat → Option (List Hint)
  | 3 => some [.keep 0, .keep 1, .keep 5, .keep 6, .keep 11, .keep 12]
  | 9 => some [.keep 0, .keep 1, .keep 5, .keep 6, .cell 8 (.row 100008 (.int .i64) true true), .keep 24, .keep 25]
  | _ => none
noncomputable def i_riffled_fi : Fi := ⟨[.v (.slice (.int .i64)) false, .v (.int .i64) false], [(false, [⟨.slice (.int .i64), some (true, true)⟩])], none, i_riffled_c, Go.Proofs.Try.f101.results.toList, 53, i_riffled_h⟩
/-! ### slices_Equal_int -/
noncomputable def slices_Equal_int_c : Code := (Go.Proofs.Try.f102.body).getD .skip
noncomputable def slices_Equal_int_h : Nat → Option (List Hint)
  | 4 => some [.keep 0, .keep 1, .keep 12, .keep 13]
  | _ => none
noncomputable def slices_Equal_int_fi : Fi := ⟨[.v (.slice (.int .i64)) false, .v (.slice (.int .i64)) false], [(false, [⟨.bool, none⟩])], none, slices_Equal_int_c, Go.Proofs.Try.f102.results.toList, 26, slices_Equal_int_h⟩
/-! ### i_NextWays -/
noncomputable def i_NextWays_c : Code := (Go.Proofs.Try.f77.body).getD .skip
noncomputable def i_NextWays_h : Nat → Option (List Hint)
  | 5 => some [.keep 0, .keep 1, .cell 5 (.row 100005 (.int .i64) true true), .cell 6 (.row 100006 (.int .i64) true false), .keep 7]
  | _ => none
noncomputable def i_NextWays_fi : Fi := ⟨[.v (.int .i64) false, .v (.slice (.int .i64)) false], [(false, [⟨.slice (.int .i64), some (true, true)⟩])], none, i_NextWays_c, Go.Proofs.Try.f77.results.toList, 49, i_NextWays_h⟩
/-! ### slices_Max_int -/
noncomputable def slices_Max_int_c : Code := (Go.Proofs.Try.f78.body).getD .skip
noncomputable def slices_Max_int_h : Nat → Option (List Hint)
  | 5 => some [.keep 0, .keep 3, .keep 4]
  | _ => none
noncomputable def slices_Max_int_fi : Fi := ⟨[.v (.slice (.int .i64)) false], [(false, [⟨.int .i64, none⟩])], none, slices_Max_int_c, Go.Proofs.Try.f78.results.toList, 25, slices_Max_int_h⟩
/-! ### i_BestGuess -/
noncomputable def i_BestGuess_c : Code := (Go.Proofs.Try.f42.body).getD .skip
noncomputable def i_BestGuess_h : Nat → Option (List Hint)
  | _ => none
noncomputable def i_BestGuess_fi : Fi := ⟨[.v (.int .i64) false, .v (.slice (.int .i64)) false], [(false, [⟨.int .i64, none⟩])], none, i_BestGuess_c, Go.Proofs.Try.f42.results.toList, 20, i_BestGuess_h⟩
/-! ### i_GuessRun -/
noncomputable def i_GuessRun_c : Code := (Go.Proofs.Try.f12.body).getD .skip
noncomputable def i_GuessRun_h : Nat → Option (List Hint)
  | 5 => some [.keep 0, .keep 3, .keep 19, .keep 20, .keep 21]
  | _ => none
noncomputable def i_GuessRun_fi : Fi := ⟨[.v (.slice (.int .i64)) false], [(false, [⟨.int .i64, none⟩])], none, i_GuessRun_c, Go.Proofs.Try.f12.results.toList, 38, i_GuessRun_h⟩
/-! ### w_eqIntS -/
noncomputable def w_eqIntS_c : Code := (Go.Proofs.Try.f13.body).getD .skip
noncomputable def w_eqIntS_h : Nat → Option (List Hint)
  | 4 => some [.keep 0, .keep 1, .keep 5]
  | _ => none
noncomputable def w_eqIntS_fi : Fi := ⟨[.v (.slice (.int .i64)) false, .v (.slice (.int .i64)) false], [(false, [⟨.bool, none⟩])], none, w_eqIntS_c, Go.Proofs.Try.f13.results.toList, 26, w_eqIntS_h⟩
/-! ### w_FnExactGuessRun -/
noncomputable def w_FnExactGuessRun_c : Code := (Go.Proofs.Try.f3.body).getD .skip
noncomputable def w_FnExactGuessRun_h : Nat → Option (List Hint)
  | _ => none
noncomputable def w_FnExactGuessRun_fi : Fi := ⟨[.v (.slice (.int .i64)) false], [(false, [⟨.bool, none⟩])], none, w_FnExactGuessRun_c, Go.Proofs.Try.f3.results.toList, 24, w_FnExactGuessRun_h⟩
/-! ### w_szIntS -/
noncomputable def w_szIntS_c : Code := (Go.Proofs.Try.f43.body).getD .skip
noncomputable def w_szIntS_h : Nat → Option (List Hint)
  | _ => none
noncomputable def w_szIntS_fi : Fi := ⟨[.v (.slice (.int .i64)) false, .v (.int .i64) false], [(false, [⟨.int .i64, none⟩])], none, w_szIntS_c, Go.Proofs.Try.f43.results.toList, 12, w_szIntS_h⟩
/-! ### w_szIntSS -/
noncomputable def w_szIntSS_c : Code := (Go.Proofs.Try.f14.body).getD .skip
noncomputable def w_szIntSS_h : Nat → Option (List Hint)
  | 5 => some [.keep 0, .keep 1, .keep 5]
  | _ => none
noncomputable def w_szIntSS_fi : Fi := ⟨[.v (.slice (.slice (.int .i64))) false, .v (.int .i64) false], [(false, [⟨.int .i64, none⟩])], none, w_szIntSS_c, Go.Proofs.Try.f14.results.toList, 27, w_szIntSS_h⟩
/-! ### w_toIntSS -/
noncomputable def w_toIntSS_c : Code := (Go.Proofs.Try.f16.body).getD .skip
noncomputable def w_toIntSS_h : Nat → Option (List Hint)
  | 3 => some [.keep 0, .cell 3 (.row 100003 (.slice (.int .i64)) true false), .keep 4]
  | _ => none
noncomputable def w_toIntSS_fi : Fi := ⟨[.v (.slice (.slice (.int .i64))) false], [(false, [⟨.slice (.slice (.int .i64)), some (true, false)⟩])], none, w_toIntSS_c, Go.Proofs.Try.f16.results.toList, 23, w_toIntSS_h⟩
/-! ### s_PacketOk -/
noncomputable def s_PacketOk_c : Code := (Go.Proofs.Try.f59.body).getD .skip
noncomputable def s_PacketOk_h : Nat → Option (List Hint)
  | 5 => some [.cell 3 (.row 100003 (.int .i64) true false), .keep 11, .keep 12, .keep 13]
  | _ => none
noncomputable def s_PacketOk_fi : Fi := ⟨[.v (.slice (.int .i64)) false], [(false, [⟨.bool, none⟩])], none, s_PacketOk_c, Go.Proofs.Try.f59.results.toList, 31, s_PacketOk_h⟩
/-! ### s_IsArrangement -/
noncomputable def s_IsArrangement_c : Code := (Go.Proofs.Try.f80.body).getD .skip
noncomputable def s_IsArrangement_h : Nat → Option (List Hint)
  | 4 => some [.keep 1, .keep 22, .keep 23, .keep 24]
  | _ => none
noncomputable def s_IsArrangement_fi : Fi := ⟨[.v (.slice (.int .i64)) false, .v (.slice (.int .i64)) false], [(false, [⟨.bool, none⟩])], none, s_IsArrangement_c, Go.Proofs.Try.f80.results.toList, 34, s_IsArrangement_h⟩
/-! ### s_l05Less -/
noncomputable def s_l05Less_c : Code := (Go.Proofs.Try.f81.body).getD .skip
noncomputable def s_l05Less_h : Nat → Option (List Hint)
  | 2 => some [.keep 0, .keep 1, .keep 7, .keep 8, .keep 9]
  | _ => none
noncomputable def s_l05Less_fi : Fi := ⟨[.v (.slice (.int .i64)) false, .v (.slice (.int .i64)) false], [(false, [⟨.bool, none⟩])], none, s_l05Less_c, Go.Proofs.Try.f81.results.toList, 36, s_l05Less_h⟩
/-! ### s_KnowOk -/
noncomputable def s_KnowOk_c : Code := (Go.Proofs.Try.f44.body).getD .skip
noncomputable def s_KnowOk_h : Nat → Option (List Hint)
  | 4 => some [.keep 0, .keep 16, .keep 17, .keep 18]
  | _ => none
noncomputable def s_KnowOk_fi : Fi := ⟨[.v (.slice (.slice (.int .i64))) false], [(false, [⟨.bool, none⟩])], none, s_KnowOk_c, Go.Proofs.Try.f44.results.toList, 44, s_KnowOk_h⟩
/-! ### s_SeeCard -/
noncomputable def s_SeeCard_c : Code := (Go.Proofs.Try.f15.body).getD .skip
noncomputable def s_SeeCard_h : Nat → Option (List Hint)
  | 5 => some [.keep 1, .keep 2, .cell 7 (.row 100007 (.slice (.int .i64)) true false), .keep 14, .keep 15, .keep 16]
  | _ => none
noncomputable def s_SeeCard_fi : Fi := ⟨[.v (.slice (.slice (.int .i64))) false, .v (.int .i64) false, .v (.int .i64) false], [(false, [⟨.slice (.slice (.int .i64)), some (true, false)⟩])], none, s_SeeCard_c, Go.Proofs.Try.f15.results.toList, 42, s_SeeCard_h⟩
/-! ### i_CardOf -/
noncomputable def i_CardOf_c : Code := (Go.Proofs.Try.f48.body).getD .skip
noncomputable def i_CardOf_h : Nat → Option (List Hint)
  | _ => none
noncomputable def i_CardOf_fi : Fi := ⟨[.v (.int .i64) false], [(false, [⟨.int .i64, none⟩])], none, i_CardOf_c, Go.Proofs.Try.f48.results.toList, 10, i_CardOf_h⟩
/-! ### i_PacketOk -/
noncomputable def i_PacketOk_c : Code := (Go.Proofs.Try.f63.body).getD .skip
noncomputable def i_PacketOk_h : Nat → Option (List Hint)
  | 3 => some [.arr 3 400003, .keep 7, .keep 8, .keep 9]
  | _ => none
noncomputable def i_PacketOk_fi : Fi := ⟨[.v (.slice (.int .i64)) false], [(false, [⟨.bool, none⟩])], none, i_PacketOk_c, Go.Proofs.Try.f63.results.toList, 25, i_PacketOk_h⟩
/-! ### i_PositionOf_1 -/
noncomputable def i_PositionOf_1_c : Code := (Go.Proofs.Try.f94.body).getD .skip
noncomputable def i_PositionOf_1_h : Nat → Option (List Hint)
  | _ => none
noncomputable def i_PositionOf_1_fi : Fi := ⟨[.v (.int .i64) false, .r (.int .i64)], [(false, [⟨.bool, none⟩])], none, i_PositionOf_1_c, Go.Proofs.Try.f94.results.toList, 8, i_PositionOf_1_h⟩
/-! ### slices_IndexFunc_int_of_i_PositionOf_1 -/
noncomputable def slices_IndexFunc_int_of_i_PositionOf_1_c : Code := (Go.Proofs.Try.f93.body).getD .skip
noncomputable def slices_IndexFunc_int_of_i_PositionOf_1_h : Nat → Option (List Hint)
  | 2 => some [.keep 0, .keep 1, .keep 7, .keep 8]
  | _ => none
noncomputable def slices_IndexFunc_int_of_i_PositionOf_1_fi : Fi := ⟨[.v (.slice (.int .i64)) false, .fn 94 [.int .i64]], [(false, [⟨.int .i64, none⟩])], none, slices_IndexFunc_int_of_i_PositionOf_1_c, Go.Proofs.Try.f93.results.toList, 19, slices_IndexFunc_int_of_i_PositionOf_1_h⟩
/-! ### i_PositionOf -/
noncomputable def i_PositionOf_c : Code := (Go.Proofs.Try.f65.body).getD .skip
noncomputable def i_PositionOf_h : Nat → Option (List Hint)
  | _ => none
noncomputable def i_PositionOf_fi : Fi := ⟨[.v (.slice (.int .i64)) false, .v (.int .i64) false], [(false, [⟨.int .i64, none⟩])], none, i_PositionOf_c, Go.Proofs.Try.f65.results.toList, 10, i_PositionOf_h⟩
/-! ### i_IsArrangement_1 -/
noncomputable def i_IsArrangement_1_c : Code := (Go.Proofs.Try.f109.body).getD .skip
noncomputable def i_IsArrangement_1_h : Nat → Option (List Hint)
  | _ => none
noncomputable def i_IsArrangement_1_fi : Fi := ⟨[.v (.int .i64) false, .r (.slice (.int .i64))], [(false, [⟨.bool, none⟩])], none, i_IsArrangement_1_c, Go.Proofs.Try.f109.results.toList, 9, i_IsArrangement_1_h⟩
/-! ### slices_IndexFunc_int_of_i_IsArrangement_1 -/
noncomputable def slices_IndexFunc_int_of_i_IsArrangement_1_c : Code := (Go.Proofs.Try.f93.body).getD .skip
noncomputable def slices_IndexFunc_int_of_i_IsArrangement_1_h : Nat → Option (List Hint)
  | 2 => some [.keep 0, .keep 1, .keep 7, .keep 8]
  | _ => none
noncomputable def slices_IndexFunc_int_of_i_IsArrangement_1_fi : Fi := ⟨[.v (.slice (.int .i64)) false, .fn 109 [.slice (.int .i64)]], [(false, [⟨.int .i64, none⟩])], none, slices_IndexFunc_int_of_i_IsArrangement_1_c, Go.Proofs.Try.f93.results.toList, 19, slices_IndexFunc_int_of_i_IsArrangement_1_h⟩
/-! ### slices_ContainsFunc_int_of_i_IsArrangement_1 -/
noncomputable def slices_ContainsFunc_int_of_i_IsArrangement_1_c : Code := (Go.Proofs.Try.f108.body).getD .skip
noncomputable def slices_ContainsFunc_int_of_i_IsArrangement_1_h : Nat → Option (List Hint)
  | _ => none
noncomputable def slices_ContainsFunc_int_of_i_IsArrangement_1_fi : Fi := ⟨[.v (.slice (.int .i64)) false, .fn 109 [.slice (.int .i64)]], [(false, [⟨.bool, none⟩])], none, slices_ContainsFunc_int_of_i_IsArrangement_1_c, Go.Proofs.Try.f108.results.toList, 9, slices_ContainsFunc_int_of_i_IsArrangement_1_h⟩
/-! ### i_IsArrangement -/
noncomputable def i_IsArrangement_c : Code := (Go.Proofs.Try.f103.body).getD .skip
noncomputable def i_IsArrangement_h : Nat → Option (List Hint)
  | _ => none
noncomputable def i_IsArrangement_fi : Fi := ⟨[.v (.slice (.int .i64)) false, .v (.slice (.int .i64)) false], [(false, [⟨.bool, none⟩])], none, i_IsArrangement_c, Go.Proofs.Try.f103.results.toList, 24, i_IsArrangement_h⟩
/-! ### cmp_isNaN_int -/
noncomputable def cmp_isNaN_int_c : Code := (Go.Proofs.Try.f112.body).getD .skip
noncomputable def cmp_isNaN_int_h : Nat → Option (List Hint)
  | _ => none
noncomputable def cmp_isNaN_int_fi : Fi := ⟨[.v (.int .i64) false], [(false, [⟨.bool, none⟩])], none, cmp_isNaN_int_c, Go.Proofs.Try.f112.results.toList, 6, cmp_isNaN_int_h⟩
/-! ### cmp_Compare_int -/
noncomputable def cmp_Compare_int_c : Code := (Go.Proofs.Try.f110.body).getD .skip
noncomputable def cmp_Compare_int_h : Nat → Option (List Hint)
  | _ => none
noncomputable def cmp_Compare_int_fi : Fi := ⟨[.v (.int .i64) false, .v (.int .i64) false], [(false, [⟨.int .i64, none⟩])], none, cmp_Compare_int_c, Go.Proofs.Try.f110.results.toList, 20, cmp_Compare_int_h⟩
/-! ### slices_Compare_int -/
noncomputable def slices_Compare_int_c : Code := (Go.Proofs.Try.f104.body).getD .skip
noncomputable def slices_Compare_int_h : Nat → Option (List Hint)
  | 2 => some [.keep 0, .keep 1, .keep 9, .keep 10, .keep 11]
  | _ => none
noncomputable def slices_Compare_int_fi : Fi := ⟨[.v (.slice (.int .i64)) false, .v (.slice (.int .i64)) false], [(false, [⟨.int .i64, none⟩])], none, slices_Compare_int_c, Go.Proofs.Try.f104.results.toList, 36, slices_Compare_int_h⟩
/-! ### i_KnowOk -/
noncomputable def i_KnowOk_c : Code := (Go.Proofs.Try.f82.body).getD .skip
noncomputable def i_KnowOk_h : Nat → Option (List Hint)
  | 4 => some [.keep 0, .keep 20, .keep 21, .keep 22]
  | _ => none
noncomputable def i_KnowOk_fi : Fi := ⟨[.v (.slice (.slice (.int .i64))) false], [(false, [⟨.bool, none⟩])], none, i_KnowOk_c, Go.Proofs.Try.f82.results.toList, 48, i_KnowOk_h⟩
/-! ### i_SeeCard_1 -/
noncomputable def i_SeeCard_1_c : Code := (Go.Proofs.Try.f47.body).getD .skip
noncomputable def i_SeeCard_1_h : Nat → Option (List Hint)
  | _ => none
noncomputable def i_SeeCard_1_fi : Fi := ⟨[.v (.slice (.int .i64)) false, .r (.int .i64), .r (.int .i64)], [(false, [⟨.bool, none⟩])], none, i_SeeCard_1_c, Go.Proofs.Try.f47.results.toList, 22, i_SeeCard_1_h⟩
/-! ### slices_Clone_int -/
noncomputable def slices_Clone_int_c : Code := (Go.Proofs.Try.f83.body).getD .skip
noncomputable def slices_Clone_int_h : Nat → Option (List Hint)
  | _ => none
noncomputable def slices_Clone_int_fi : Fi := ⟨[.v (.slice (.int .i64)) false], [(false, [⟨.slice (.int .i64), some (true, false)⟩])], none, slices_Clone_int_c, Go.Proofs.Try.f83.results.toList, 8, slices_Clone_int_h⟩
/-! ### i_those_of_i_SeeCard_1 -/
noncomputable def i_those_of_i_SeeCard_1_c : Code := (Go.Proofs.Try.f46.body).getD .skip
noncomputable def i_those_of_i_SeeCard_1_h : Nat → Option (List Hint)
  | 5 => some [.keep 1, .cell 5 (.row 100005 (.slice (.int .i64)) true true), .keep 11, .keep 12, .keep 13]
  | _ => none
noncomputable def i_those_of_i_SeeCard_1_fi : Fi := ⟨[.v (.slice (.slice (.int .i64))) false, .fn 47 [.int .i64, .int .i64]], [(false, [⟨.slice (.slice (.int .i64)), some (true, true)⟩])], none, i_those_of_i_SeeCard_1_c, Go.Proofs.Try.f46.results.toList, 27, i_those_of_i_SeeCard_1_h⟩
/-! ### i_SeeCard -/
noncomputable def i_SeeCard_c : Code := (Go.Proofs.Try.f17.body).getD .skip
noncomputable def i_SeeCard_h : Nat → Option (List Hint)
  | _ => none
noncomputable def i_SeeCard_fi : Fi := ⟨[.v (.slice (.slice (.int .i64))) false, .v (.int .i64) false, .v (.int .i64) false], [(false, [⟨.slice (.slice (.int .i64)), some (true, true)⟩])], none, i_SeeCard_c, Go.Proofs.Try.f17.results.toList, 10, i_SeeCard_h⟩
/-! ### w_eqIntSS -/
noncomputable def w_eqIntSS_c : Code := (Go.Proofs.Try.f18.body).getD .skip
noncomputable def w_eqIntSS_h : Nat → Option (List Hint)
  | 4 => some [.keep 0, .keep 1, .keep 5]
  | _ => none
noncomputable def w_eqIntSS_fi : Fi := ⟨[.v (.slice (.slice (.int .i64))) false, .v (.slice (.slice (.int .i64))) false], [(false, [⟨.bool, none⟩])], none, w_eqIntSS_c, Go.Proofs.Try.f18.results.toList, 27, w_eqIntSS_h⟩
/-! ### w_markIntS -/
noncomputable def w_markIntS_c : Code := (Go.Proofs.Try.f33.body).getD .skip
noncomputable def w_markIntS_h : Nat → Option (List Hint)
  | 2 => some [.cell 0 (.row 500000 (.int .i64) true false), .keep 1, .keep 5]
  | _ => none
noncomputable def w_markIntS_fi : Fi := ⟨[.o [.o (.int .i64) true] false, .v (.int .i64) false], [(false, [⟨.int .i64, none⟩])], none, w_markIntS_c, Go.Proofs.Try.f33.results.toList, 19, w_markIntS_h⟩
/-! ### w_markIntSS -/
noncomputable def w_markIntSS_c : Code := (Go.Proofs.Try.f19.body).getD .skip
noncomputable def w_markIntSS_h : Nat → Option (List Hint)
  | 2 => some [.cell 0 (.row 500000 (.slice (.int .i64)) true false), .keep 1, .keep 5]
  | _ => none
noncomputable def w_markIntSS_fi : Fi := ⟨[.o [.o (.slice (.int .i64)) true] false, .v (.int .i64) false], [(false, [⟨.int .i64, none⟩])], none, w_markIntSS_c, Go.Proofs.Try.f19.results.toList, 19, w_markIntSS_h⟩
/-! ### w_heldIntS -/
noncomputable def w_heldIntS_c : Code := (Go.Proofs.Try.f49.body).getD .skip
noncomputable def w_heldIntS_h : Nat → Option (List Hint)
  | 2 => some [.keep 0, .keep 1, .keep 5]
  | _ => none
noncomputable def w_heldIntS_fi : Fi := ⟨[.v (.slice (.int .i64)) false, .v (.int .i64) false], [(false, [⟨.int .i64, none⟩])], none, w_heldIntS_c, Go.Proofs.Try.f49.results.toList, 21, w_heldIntS_h⟩
/-! ### w_heldIntSS -/
noncomputable def w_heldIntSS_c : Code := (Go.Proofs.Try.f20.body).getD .skip
noncomputable def w_heldIntSS_h : Nat → Option (List Hint)
  | 2 => some [.keep 0, .keep 1, .keep 5]
  | _ => none
noncomputable def w_heldIntSS_fi : Fi := ⟨[.v (.slice (.slice (.int .i64))) false, .v (.int .i64) false], [(false, [⟨.int .i64, none⟩])], none, w_heldIntSS_c, Go.Proofs.Try.f20.results.toList, 21, w_heldIntSS_h⟩
/-! ### w_FnExactSeeCard -/
noncomputable def w_FnExactSeeCard_c : Code := (Go.Proofs.Try.f4.body).getD .skip
noncomputable def w_FnExactSeeCard_h : Nat → Option (List Hint)
  | _ => none
noncomputable def w_FnExactSeeCard_fi : Fi := ⟨[.v (.slice (.slice (.int .i64))) false, .v (.int .i64) false, .v (.int .i64) false], [(false, [⟨.bool, none⟩])], none, w_FnExactSeeCard_c, Go.Proofs.Try.f4.results.toList, 79, w_FnExactSeeCard_h⟩
/-! ### s_IsUp -/
noncomputable def s_IsUp_c : Code := (Go.Proofs.Try.f96.body).getD .skip
noncomputable def s_IsUp_h : Nat → Option (List Hint)
  | _ => none
noncomputable def s_IsUp_fi : Fi := ⟨[.v (.int .i64) false], [(false, [⟨.bool, none⟩])], none, s_IsUp_c, Go.Proofs.Try.f96.results.toList, 5, s_IsUp_h⟩
/-! ### s_l15Sides -/
noncomputable def s_l15Sides_c : Code := (Go.Proofs.Try.f67.body).getD .skip
noncomputable def s_l15Sides_h : Nat → Option (List Hint)
  | 2 => some [.keep 1, .keep 7, .keep 8, .keep 9]
  | _ => none
noncomputable def s_l15Sides_fi : Fi := ⟨[.v (.slice (.int .i64)) false, .v (.slice (.int .i64)) false], [(false, [⟨.bool, none⟩])], none, s_l15Sides_c, Go.Proofs.Try.f67.results.toList, 21, s_l15Sides_h⟩
/-! ### s_SeeSides -/
noncomputable def s_SeeSides_c : Code := (Go.Proofs.Try.f31.body).getD .skip
noncomputable def s_SeeSides_h : Nat → Option (List Hint)
  | 5 => some [.keep 1, .cell 5 (.row 100005 (.slice (.int .i64)) true false), .keep 12, .keep 13, .keep 14]
  | _ => none
noncomputable def s_SeeSides_fi : Fi := ⟨[.v (.slice (.slice (.int .i64))) false, .v (.slice (.int .i64)) false], [(false, [⟨.slice (.slice (.int .i64)), some (true, false)⟩])], none, s_SeeSides_c, Go.Proofs.Try.f31.results.toList, 29, s_SeeSides_h⟩
/-! ### i_IsUp -/
noncomputable def i_IsUp_c : Code := (Go.Proofs.Try.f69.body).getD .skip
noncomputable def i_IsUp_h : Nat → Option (List Hint)
  | _ => none
noncomputable def i_IsUp_fi : Fi := ⟨[.v (.int .i64) false], [(false, [⟨.bool, none⟩])], none, i_IsUp_c, Go.Proofs.Try.f69.results.toList, 10, i_IsUp_h⟩
/-! ### i_SeeSides_1 -/
noncomputable def i_SeeSides_1_c : Code := (Go.Proofs.Try.f68.body).getD .skip
noncomputable def i_SeeSides_1_h : Nat → Option (List Hint)
  | 2 => some [.keep 1, .keep 6, .keep 7, .keep 8]
  | _ => none
noncomputable def i_SeeSides_1_fi : Fi := ⟨[.v (.slice (.int .i64)) false, .r (.slice (.int .i64))], [(false, [⟨.bool, none⟩])], none, i_SeeSides_1_c, Go.Proofs.Try.f68.results.toList, 20, i_SeeSides_1_h⟩
/-! ### i_those_of_i_SeeSides_1 -/
noncomputable def i_those_of_i_SeeSides_1_c : Code := (Go.Proofs.Try.f46.body).getD .skip
noncomputable def i_those_of_i_SeeSides_1_h : Nat → Option (List Hint)
  | 5 => some [.keep 1, .cell 5 (.row 100005 (.slice (.int .i64)) true true), .keep 11, .keep 12, .keep 13]
  | _ => none
noncomputable def i_those_of_i_SeeSides_1_fi : Fi := ⟨[.v (.slice (.slice (.int .i64))) false, .fn 68 [.slice (.int .i64)]], [(false, [⟨.slice (.slice (.int .i64)), some (true, true)⟩])], none, i_those_of_i_SeeSides_1_c, Go.Proofs.Try.f46.results.toList, 27, i_those_of_i_SeeSides_1_h⟩
/-! ### i_SeeSides -/
noncomputable def i_SeeSides_c : Code := (Go.Proofs.Try.f32.body).getD .skip
noncomputable def i_SeeSides_h : Nat → Option (List Hint)
  | _ => none
noncomputable def i_SeeSides_fi : Fi := ⟨[.v (.slice (.slice (.int .i64))) false, .v (.slice (.int .i64)) false], [(false, [⟨.slice (.slice (.int .i64)), some (true, true)⟩])], none, i_SeeSides_c, Go.Proofs.Try.f32.results.toList, 8, i_SeeSides_h⟩
/-! ### w_FnExactSeeSides -/
noncomputable def w_FnExactSeeSides_c : Code := (Go.Proofs.Try.f7.body).getD .skip
noncomputable def w_FnExactSeeSides_h : Nat → Option (List Hint)
  | _ => none
noncomputable def w_FnExactSeeSides_fi : Fi := ⟨[.v (.slice (.slice (.int .i64))) false, .v (.slice (.int .i64)) false], [(false, [⟨.bool, none⟩])], none, w_FnExactSeeSides_c, Go.Proofs.Try.f7.results.toList, 90, w_FnExactSeeSides_h⟩

noncomputable def fnL : List (Nat × List Nat × Fi) := [(11, [], w_toIntS_fi),
  (39, [], s_l01In_fi),
  (87, [], s_l02Has_fi),
  (72, [], s_PermOk_fi),
  (45, [], s_CardOf_fi),
  (90, [], s_PositionOf_fi),
  (73, [], s_RisingSequences_fi),
  (38, [], s_IsRiffle_fi),
  (97, [], s_l19Ok_fi),
  (111, [], s_l19Choose_fi),
  (107, [], s_l19Ways_fi),
  (98, [], s_WaysWith_fi),
  (74, [], s_NextWays_fi),
  (40, [], s_BestGuess_fi),
  (10, [], s_GuessRun_fi),
  (79, [], slices_Index_int_fi),
  (70, [], slices_Contains_int_fi),
  (75, [], i_PermOk_fi),
  (99, [], i_inverse_fi),
  (76, [], i_RisingSequences_fi),
  (41, [], i_IsRiffle_fi),
  (100, [], i_isPrefix_fi),
  (84, [], i_upTo_fi),
  (101, [], i_riffled_fi),
  (102, [], slices_Equal_int_fi),
  (77, [], i_NextWays_fi),
  (78, [], slices_Max_int_fi),
  (42, [], i_BestGuess_fi),
  (12, [], i_GuessRun_fi),
  (13, [], w_eqIntS_fi),
  (3, [], w_FnExactGuessRun_fi),
  (43, [], w_szIntS_fi),
  (14, [], w_szIntSS_fi),
  (16, [], w_toIntSS_fi),
  (59, [], s_PacketOk_fi),
  (80, [], s_IsArrangement_fi),
  (81, [], s_l05Less_fi),
  (44, [], s_KnowOk_fi),
  (15, [], s_SeeCard_fi),
  (48, [], i_CardOf_fi),
  (63, [], i_PacketOk_fi),
  (94, [], i_PositionOf_1_fi),
  (93, [94], slices_IndexFunc_int_of_i_PositionOf_1_fi),
  (65, [], i_PositionOf_fi),
  (109, [], i_IsArrangement_1_fi),
  (93, [109], slices_IndexFunc_int_of_i_IsArrangement_1_fi),
  (108, [109], slices_ContainsFunc_int_of_i_IsArrangement_1_fi),
  (103, [], i_IsArrangement_fi),
  (112, [], cmp_isNaN_int_fi),
  (110, [], cmp_Compare_int_fi),
  (104, [], slices_Compare_int_fi),
  (82, [], i_KnowOk_fi),
  (47, [], i_SeeCard_1_fi),
  (83, [], slices_Clone_int_fi),
  (46, [47], i_those_of_i_SeeCard_1_fi),
  (17, [], i_SeeCard_fi),
  (18, [], w_eqIntSS_fi),
  (33, [], w_markIntS_fi),
  (19, [], w_markIntSS_fi),
  (49, [], w_heldIntS_fi),
  (20, [], w_heldIntSS_fi),
  (4, [], w_FnExactSeeCard_fi),
  (96, [], s_IsUp_fi),
  (67, [], s_l15Sides_fi),
  (31, [], s_SeeSides_fi),
  (69, [], i_IsUp_fi),
  (68, [], i_SeeSides_1_fi),
  (46, [68], i_those_of_i_SeeSides_1_fi),
  (32, [], i_SeeSides_fi),
  (7, [], w_FnExactSeeSides_fi)]
noncomputable def E : Env := ⟨lookT tyL, lookF fnL⟩

noncomputable def w_toIntS (k : Nat) (x : List Int) : Option (List Int) := aFn E w_toIntS_fi k x
noncomputable def w_toIntS_l3 (k : Nat) (v0 : List Int) (v4 : Int) (o100003 : List Int) : Option (List Int) := aRun E k w_toIntS_fi.rs (ioOf w_toIntS_fi.ps) w_toIntS_fi.res w_toIntS_fi.hints [.code (sub w_toIntS_c [1, 1, 0, 1, 0, 0, 0, 0]), .code (sub w_toIntS_c [1, 1, 0, 1, 0, 0, 0, 1]), .code (sub w_toIntS_c [1, 1, 0, 1, 0, 0, 1]), .inLoop (sub w_toIntS_c [1, 1, 0, 1, 0, 0]), .inBlock 0, .code (sub w_toIntS_c [1, 1, 1])] ⟨[.cv (.val (.slice (.int .i64)) v0), .cv .dead, .cv .dead, .cv (.own 100003), .cv (.val (.int .i64) v4), .cv .dead, .cv .dead, .cv .dead, .cv .dead, .cv .dead, .cv .dead, .cv .dead, .cv .dead, .cv .dead, .cv .dead, .cv .dead, .cv .dead, .cv .dead, .cv .dead, .cv .dead, .cv .dead, .cv .dead], [(100003, .row (.int .i64) o100003 true false)], true⟩
noncomputable def s_l01In (k : Nat) (x : Int × Int × Int) : Option (Bool) := aFn E s_l01In_fi k x
noncomputable def s_l02Has (k : Nat) (x : (List Int) × Int) : Option (Bool) := aFn E s_l02Has_fi k x
noncomputable def s_l02Has_l2 (k : Nat) (v1 : Int) (v7 : List Int) (v8 : Int) (v9 : Int) : Option (Bool) := aRun E k s_l02Has_fi.rs (ioOf s_l02Has_fi.ps) s_l02Has_fi.res s_l02Has_fi.hints [.code (sub s_l02Has_c [1, 0, 1, 0, 0, 0]), .code (sub s_l02Has_c [1, 0, 1, 0, 0, 1]), .inLoop (sub s_l02Has_c [1, 0, 1, 0, 0]), .inBlock 0, .code (sub s_l02Has_c [1, 1])] ⟨[.cv .dead, .cv (.val (.int .i64) v1), .cv .dead, .cv .dead, .cv .dead, .cv .dead, .cv .dead, .cv (.val (.slice (.int .i64)) v7), .cv (.val (.int .i64) v8), .cv (.val (.int .i64) v9), .cv .dead, .cv .dead, .cv .dead, .cv .dead, .cv .dead, .cv .dead, .cv .dead], [], true⟩
noncomputable def s_PermOk (k : Nat) (x : List Int) : Option (Bool) := aFn E s_PermOk_fi k x
noncomputable def s_PermOk_l4 (k : Nat) (v0 : List Int) (v8 : List Int) (v9 : Int) (v10 : Int) : Option (Bool) := aRun E k s_PermOk_fi.rs (ioOf s_PermOk_fi.ps) s_PermOk_fi.res s_PermOk_fi.hints [.code (sub s_PermOk_c [1, 1, 0, 1, 0, 0, 0]), .code (sub s_PermOk_c [1, 1, 0, 1, 0, 0, 1]), .inLoop (sub s_PermOk_c [1, 1, 0, 1, 0, 0]), .inBlock 0, .code (sub s_PermOk_c [1, 1, 1])] ⟨[.cv (.val (.slice (.int .i64)) v0), .cv .dead, .cv .dead, .cv .dead, .cv .dead, .cv .dead, .cv .dead, .cv .dead, .cv (.val (.slice (.int .i64)) v8), .cv (.val (.int .i64) v9), .cv (.val (.int .i64) v10), .cv .dead, .cv .dead, .cv .dead, .cv .dead, .cv .dead, .cv .dead, .cv .dead, .cv .dead, .cv .dead, .cv .dead, .cv .dead, .cv .dead, .cv .dead, .cv .dead, .cv .dead, .cv .dead, .cv .dead, .cv .dead], [], true⟩
noncomputable def s_CardOf (k : Nat) (x : Int) : Option (Int) := aFn E s_CardOf_fi k x
noncomputable def s_PositionOf (k : Nat) (x : (List Int) × Int) : Option (Int) := aFn E s_PositionOf_fi k x
noncomputable def s_PositionOf_l2 (k : Nat) (v1 : Int) (v7 : List Int) (v8 : Int) (v9 : Int) : Option (Int) := aRun E k s_PositionOf_fi.rs (ioOf s_PositionOf_fi.ps) s_PositionOf_fi.res s_PositionOf_fi.hints [.code (sub s_PositionOf_c [1, 0, 1, 0, 0, 0]), .code (sub s_PositionOf_c [1, 0, 1, 0, 0, 1]), .inLoop (sub s_PositionOf_c [1, 0, 1, 0, 0]), .inBlock 0, .code (sub s_PositionOf_c [1, 1])] ⟨[.cv .dead, .cv (.val (.int .i64) v1), .cv .dead, .cv .dead, .cv .dead, .cv .dead, .cv .dead, .cv (.val (.slice (.int .i64)) v7), .cv (.val (.int .i64) v8), .cv (.val (.int .i64) v9), .cv .dead, .cv .dead, .cv .dead, .cv .dead, .cv .dead, .cv .dead, .cv .dead, .cv .dead, .cv .dead, .cv .dead, .cv .dead, .cv .dead, .cv .dead, .cv .dead], [], true⟩
noncomputable def s_RisingSequences (k : Nat) (x : List Int) : Option (List (List Int)) := aFn E s_RisingSequences_fi k x
noncomputable def s_RisingSequences_l6 (k : Nat) (v0 : List Int) (v4 : Int) (v12 : Int) (v13 : Int) (o450003 : List (List Int)) : Option (List (List Int)) := aRun E k s_RisingSequences_fi.rs (ioOf s_RisingSequences_fi.ps) s_RisingSequences_fi.res s_RisingSequences_fi.hints [.code (sub s_RisingSequences_c [1, 1, 1, 1, 0, 1, 0, 0, 0]), .code (sub s_RisingSequences_c [1, 1, 1, 1, 0, 1, 0, 0, 1]), .inLoop (sub s_RisingSequences_c [1, 1, 1, 1, 0, 1, 0, 0]), .inBlock 0, .code (sub s_RisingSequences_c [1, 1, 1, 1, 1])] ⟨[.cv (.val (.slice (.int .i64)) v0), .cv .dead, .cv .dead, .cv (.own 450003), .cv (.val (.int .i64) v4), .cv .dead, .cv .dead, .cv .dead, .cv .dead, .cv .dead, .cv .dead, .cv .dead, .cv (.val (.int .i64) v12), .cv (.val (.int .i64) v13), .cv .dead, .cv .dead, .cv .dead, .cv .dead, .cv .dead, .cv .dead, .cv .dead, .cv .dead, .cv .dead, .cv .dead, .cv .dead, .cv .dead, .cv .dead, .cv .dead, .cv .dead, .cv .dead, .cv .dead, .cv .dead, .cv .dead, .cv .dead, .cv .dead, .cv .dead, .cv .dead, .cv .dead, .cv .dead, .cv .dead, .cv .dead, .cv .dead, .cv .dead, .cv .dead, .cv .dead, .cv .dead, .cv .dead, .cv .dead, .cv .dead], [(450003, .row (.slice (.int .i64)) o450003 true false)], true⟩
noncomputable def s_IsRiffle (k : Nat) (x : List Int) : Option (Bool) := aFn E s_IsRiffle_fi k x
noncomputable def s_l19Ok (k : Nat) (x : Int × List Int) : Option (Bool) := aFn E s_l19Ok_fi k x
noncomputable def s_l19Ok_l4 (k : Nat) (v0 : Int) (v1 : List Int) (v10 : List Int) (v11 : Int) (v12 : Int) : Option (Bool) := aRun E k s_l19Ok_fi.rs (ioOf s_l19Ok_fi.ps) s_l19Ok_fi.res s_l19Ok_fi.hints [.code (sub s_l19Ok_c [1, 1, 0, 1, 0, 0, 0]), .code (sub s_l19Ok_c [1, 1, 0, 1, 0, 0, 1]), .inLoop (sub s_l19Ok_c [1, 1, 0, 1, 0, 0]), .inBlock 0, .code (sub s_l19Ok_c [1, 1, 1])] ⟨[.cv (.val (.int .i64) v0), .cv (.val (.slice (.int .i64)) v1), .cv .dead, .cv .dead, .cv .dead, .cv .dead, .cv .dead, .cv .dead, .cv .dead, .cv .dead, .cv (.val (.slice (.int .i64)) v10), .cv (.val (.int .i64) v11), .cv (.val (.int .i64) v12), .cv .dead, .cv .dead, .cv .dead, .cv .dead, .cv .dead, .cv .dead, .cv .dead, .cv .dead, .cv .dead, .cv .dead, .cv .dead, .cv .dead, .cv .dead, .cv .dead, .cv .dead, .cv .dead, .cv .dead], [], true⟩
noncomputable def s_l19Choose (k : Nat) (x : Int × Int) : Option (Int) := aFn E s_l19Choose_fi k x
noncomputable def s_l19Choose_l3 (k : Nat) (v0 : Int) (v1 : Int) (v5 : Int) (v6 : Int) : Option (Int) := aRun E k s_l19Choose_fi.rs (ioOf s_l19Choose_fi.ps) s_l19Choose_fi.res s_l19Choose_fi.hints [.code (sub s_l19Choose_c [1, 1, 0, 1, 0, 0, 0, 0]), .code (sub s_l19Choose_c [1, 1, 0, 1, 0, 0, 0, 1]), .code (sub s_l19Choose_c [1, 1, 0, 1, 0, 0, 1]), .inLoop (sub s_l19Choose_c [1, 1, 0, 1, 0, 0]), .inBlock 0, .code (sub s_l19Choose_c [1, 1, 1])] ⟨[.cv (.val (.int .i64) v0), .cv (.val (.int .i64) v1), .cv .dead, .cv .dead, .cv .dead, .cv (.val (.int .i64) v5), .cv (.val (.int .i64) v6), .cv .dead, .cv .dead, .cv .dead, .cv .dead, .cv .dead, .cv .dead, .cv .dead, .cv .dead, .cv .dead, .cv .dead, .cv .dead, .cv .dead, .cv .dead, .cv .dead, .cv .dead], [], true⟩
noncomputable def s_l19Ways (k : Nat) (x : Int × Int × List Int) : Option (Int) := aFn E s_l19Ways_fi k x
noncomputable def s_l19Ways_l4 (k : Nat) (v0 : Int) (v1 : Int) (v2 : List Int) (v7 : Int) (v8 : Int) (v12 : List Int) (v13 : Int) (v14 : Int) : Option (Int) := aRun E k s_l19Ways_fi.rs (ioOf s_l19Ways_fi.ps) s_l19Ways_fi.res s_l19Ways_fi.hints [.code (sub s_l19Ways_c [1, 1, 1, 0, 1, 0, 0, 0]), .code (sub s_l19Ways_c [1, 1, 1, 0, 1, 0, 0, 1]), .inLoop (sub s_l19Ways_c [1, 1, 1, 0, 1, 0, 0]), .inBlock 0, .code (sub s_l19Ways_c [1, 1, 1, 1])] ⟨[.cv (.val (.int .i64) v0), .cv (.val (.int .i64) v1), .cv (.val (.slice (.int .i64)) v2), .cv .dead, .cv .dead, .cv .dead, .cv .dead, .cv (.val (.int .i64) v7), .cv (.val (.int .i64) v8), .cv .dead, .cv .dead, .cv .dead, .cv (.val (.slice (.int .i64)) v12), .cv (.val (.int .i64) v13), .cv (.val (.int .i64) v14), .cv .dead, .cv .dead, .cv .dead, .cv .dead, .cv .dead, .cv .dead, .cv .dead, .cv .dead, .cv .dead, .cv .dead, .cv .dead, .cv .dead, .cv .dead, .cv .dead, .cv .dead, .cv .dead, .cv .dead, .cv .dead, .cv .dead, .cv .dead, .cv .dead, .cv .dead, .cv .dead, .cv .dead, .cv .dead, .cv .dead, .cv .dead, .cv .dead, .cv .dead, .cv .dead, .cv .dead, .cv .dead, .cv .dead, .cv .dead], [], true⟩
noncomputable def s_WaysWith (k : Nat) (x : Int × List Int) : Option (Int) := aFn E s_WaysWith_fi k x
noncomputable def s_WaysWith_l5 (k : Nat) (v0 : Int) (v1 : List Int) (v5 : Int) (v6 : Int) : Option (Int) := aRun E k s_WaysWith_fi.rs (ioOf s_WaysWith_fi.ps) s_WaysWith_fi.res s_WaysWith_fi.hints [.code (sub s_WaysWith_c [1, 1, 1, 0, 1, 0, 0, 0, 0]), .code (sub s_WaysWith_c [1, 1, 1, 0, 1, 0, 0, 0, 1]), .code (sub s_WaysWith_c [1, 1, 1, 0, 1, 0, 0, 1]), .inLoop (sub s_WaysWith_c [1, 1, 1, 0, 1, 0, 0]), .inBlock 0, .code (sub s_WaysWith_c [1, 1, 1, 1])] ⟨[.cv (.val (.int .i64) v0), .cv (.val (.slice (.int .i64)) v1), .cv .dead, .cv .dead, .cv .dead, .cv (.val (.int .i64) v5), .cv (.val (.int .i64) v6), .cv .dead, .cv .dead, .cv .dead, .cv .dead, .cv .dead, .cv .dead, .cv .dead, .cv .dead, .cv .dead, .cv .dead, .cv .dead, .cv .dead, .cv .dead, .cv .dead, .cv .dead, .cv .dead], [], true⟩
noncomputable def s_NextWays (k : Nat) (x : Int × List Int) : Option (List Int) := aFn E s_NextWays_fi k x
noncomputable def s_NextWays_l5 (k : Nat) (v0 : Int) (v1 : List Int) (v6 : Int) (o100005 : List Int) : Option (List Int) := aRun E k s_NextWays_fi.rs (ioOf s_NextWays_fi.ps) s_NextWays_fi.res s_NextWays_fi.hints [.code (sub s_NextWays_c [1, 1, 1, 0, 1, 0, 0, 0, 0]), .code (sub s_NextWays_c [1, 1, 1, 0, 1, 0, 0, 0, 1]), .code (sub s_NextWays_c [1, 1, 1, 0, 1, 0, 0, 1]), .inLoop (sub s_NextWays_c [1, 1, 1, 0, 1, 0, 0]), .inBlock 0, .code (sub s_NextWays_c [1, 1, 1, 1])] ⟨[.cv (.val (.int .i64) v0), .cv (.val (.slice (.int .i64)) v1), .cv .dead, .cv .dead, .cv .dead, .cv (.own 100005), .cv (.val (.int .i64) v6), .cv .dead, .cv .dead, .cv .dead, .cv .dead, .cv .dead, .cv .dead, .cv .dead, .cv .dead, .cv .dead, .cv .dead, .cv .dead, .cv .dead, .cv .dead, .cv .dead, .cv .dead, .cv .dead, .cv .dead, .cv .dead, .cv .dead, .cv .dead, .cv .dead, .cv .dead, .cv .dead, .cv .dead, .cv .dead, .cv .dead, .cv .dead, .cv .dead, .cv .dead, .cv .dead, .cv .dead, .cv .dead, .cv .dead, .cv .dead], [(100005, .row (.int .i64) o100005 true false)], true⟩
noncomputable def s_BestGuess (k : Nat) (x : Int × List Int) : Option (Int) := aFn E s_BestGuess_fi k x
noncomputable def s_BestGuess_l4 (k : Nat) (v5 : Int) (v6 : Int) (v12 : Int) (v13 : Int) (o100011 : List Int) : Option (Int) := aRun E k s_BestGuess_fi.rs (ioOf s_BestGuess_fi.ps) s_BestGuess_fi.res s_BestGuess_fi.hints [.code (sub s_BestGuess_c [1, 1, 1, 0, 1, 0, 0, 0]), .code (sub s_BestGuess_c [1, 1, 1, 0, 1, 0, 0, 1]), .inLoop (sub s_BestGuess_c [1, 1, 1, 0, 1, 0, 0]), .inBlock 0, .code (sub s_BestGuess_c [1, 1, 1, 1])] ⟨[.cv .dead, .cv .dead, .cv .dead, .cv .dead, .cv .dead, .cv (.val (.int .i64) v5), .cv (.val (.int .i64) v6), .cv .dead, .cv .dead, .cv .dead, .cv .dead, .cv (.own 100011), .cv (.val (.int .i64) v12), .cv (.val (.int .i64) v13), .cv .dead, .cv .dead, .cv .dead, .cv .dead, .cv .dead, .cv .dead, .cv .dead, .cv .dead, .cv .dead, .cv .dead, .cv .dead], [(100011, .row (.int .i64) o100011 true true)], true⟩
noncomputable def s_GuessRun (k : Nat) (x : List Int) : Option (Int) := aFn E s_GuessRun_fi k x
noncomputable def s_GuessRun_l5 (k : Nat) (v0 : List Int) (v3 : Int) (v15 : List Int) (v16 : Int) (v17 : Int) : Option (Int) := aRun E k s_GuessRun_fi.rs (ioOf s_GuessRun_fi.ps) s_GuessRun_fi.res s_GuessRun_fi.hints [.code (sub s_GuessRun_c [1, 1, 1, 0, 1, 0, 0, 0]), .code (sub s_GuessRun_c [1, 1, 1, 0, 1, 0, 0, 1]), .inLoop (sub s_GuessRun_c [1, 1, 1, 0, 1, 0, 0]), .inBlock 0, .code (sub s_GuessRun_c [1, 1, 1, 1])] ⟨[.cv (.val (.slice (.int .i64)) v0), .cv .dead, .cv .dead, .cv (.val (.int .i64) v3), .cv .dead, .cv .dead, .cv .dead, .cv .dead, .cv .dead, .cv .dead, .cv .dead, .cv .dead, .cv .dead, .cv .dead, .cv .dead, .cv (.val (.slice (.int .i64)) v15), .cv (.val (.int .i64) v16), .cv (.val (.int .i64) v17), .cv .dead, .cv .dead, .cv .dead, .cv .dead, .cv .dead, .cv .dead, .cv .dead, .cv .dead, .cv .dead, .cv .dead, .cv .dead, .cv .dead, .cv .dead, .cv .dead, .cv .dead, .cv .dead], [], true⟩
noncomputable def slices_Index_int (k : Nat) (x : (List Int) × Int) : Option (Int) := aFn E slices_Index_int_fi k x
noncomputable def slices_Index_int_l2 (k : Nat) (v0 : List Int) (v1 : Int) (v7 : Int) (v8 : Int) : Option (Int) := aRun E k slices_Index_int_fi.rs (ioOf slices_Index_int_fi.ps) slices_Index_int_fi.res slices_Index_int_fi.hints [.code (sub slices_Index_int_c [1, 0, 1, 0, 0, 0]), .code (sub slices_Index_int_c [1, 0, 1, 0, 0, 1]), .inLoop (sub slices_Index_int_c [1, 0, 1, 0, 0]), .inBlock 0, .code (sub slices_Index_int_c [1, 1])] ⟨[.cv (.val (.slice (.int .i64)) v0), .cv (.val (.int .i64) v1), .cv .dead, .cv .dead, .cv .dead, .cv .dead, .cv .dead, .cv (.val (.int .i64) v7), .cv (.val (.int .i64) v8), .cv .dead, .cv .dead, .cv .dead, .cv .dead, .cv .dead, .cv .dead, .cv .dead, .cv .dead, .cv .dead, .cv .dead], [], true⟩
noncomputable def slices_Contains_int (k : Nat) (x : (List Int) × Int) : Option (Bool) := aFn E slices_Contains_int_fi k x
noncomputable def i_PermOk (k : Nat) (x : List Int) : Option (Bool) := aFn E i_PermOk_fi k x
noncomputable def i_PermOk_l2 (k : Nat) (v0 : List Int) (v5 : List Int) (v6 : Int) (v7 : Int) : Option (Bool) := aRun E k i_PermOk_fi.rs (ioOf i_PermOk_fi.ps) i_PermOk_fi.res i_PermOk_fi.hints [.code (sub i_PermOk_c [1, 0, 1, 0, 0, 0]), .code (sub i_PermOk_c [1, 0, 1, 0, 0, 1]), .inLoop (sub i_PermOk_c [1, 0, 1, 0, 0]), .inBlock 0, .code (sub i_PermOk_c [1, 1])] ⟨[.cv (.val (.slice (.int .i64)) v0), .cv .dead, .cv .dead, .cv .dead, .cv .dead, .cv (.val (.slice (.int .i64)) v5), .cv (.val (.int .i64) v6), .cv (.val (.int .i64) v7), .cv .dead, .cv .dead, .cv .dead, .cv .dead, .cv .dead, .cv .dead, .cv .dead, .cv .dead, .cv .dead, .cv .dead, .cv .dead, .cv .dead, .cv .dead, .cv .dead, .cv .dead, .cv .dead, .cv .dead, .cv .dead, .cv .dead, .cv .dead, .cv .dead, .cv .dead, .cv .dead], [], true⟩
noncomputable def i_inverse (k : Nat) (x : List Int) : Option (List Int) := aFn E i_inverse_fi k x
noncomputable def i_inverse_l3 (k : Nat) (v9 : List Int) (v10 : Int) (v11 : Int) (o100003 : List Int) : Option (List Int) := aRun E k i_inverse_fi.rs (ioOf i_inverse_fi.ps) i_inverse_fi.res i_inverse_fi.hints [.code (sub i_inverse_c [1, 1, 0, 1, 0, 0, 0]), .code (sub i_inverse_c [1, 1, 0, 1, 0, 0, 1]), .inLoop (sub i_inverse_c [1, 1, 0, 1, 0, 0]), .inBlock 0, .code (sub i_inverse_c [1, 1, 1])] ⟨[.cv .dead, .cv .dead, .cv .dead, .cv (.own 100003), .cv .dead, .cv .dead, .cv .dead, .cv .dead, .cv .dead, .cv (.val (.slice (.int .i64)) v9), .cv (.val (.int .i64) v10), .cv (.val (.int .i64) v11), .cv .dead, .cv .dead, .cv .dead, .cv .dead, .cv .dead, .cv .dead, .cv .dead, .cv .dead, .cv .dead, .cv .dead], [(100003, .row (.int .i64) o100003 true false)], true⟩
noncomputable def i_RisingSequences (k : Nat) (x : List Int) : Option (List (List Int)) := aFn E i_RisingSequences_fi k x
noncomputable def i_RisingSequences_l6 (k : Nat) (v12 : Int) (v13 : Int) (o450003 : List (List Int)) (o100004 : List Int) : Option (List (List Int)) := aRun E k i_RisingSequences_fi.rs (ioOf i_RisingSequences_fi.ps) i_RisingSequences_fi.res i_RisingSequences_fi.hints [.code (sub i_RisingSequences_c [1, 1, 1, 1, 0, 1, 0, 0, 0]), .code (sub i_RisingSequences_c [1, 1, 1, 1, 0, 1, 0, 0, 1]), .inLoop (sub i_RisingSequences_c [1, 1, 1, 1, 0, 1, 0, 0]), .inBlock 0, .code (sub i_RisingSequences_c [1, 1, 1, 1, 1])] ⟨[.cv .dead, .cv .dead, .cv .dead, .cv (.own 450003), .cv (.own 100004), .cv .dead, .cv .dead, .cv .dead, .cv .dead, .cv .dead, .cv .dead, .cv .dead, .cv (.val (.int .i64) v12), .cv (.val (.int .i64) v13), .cv .dead, .cv .dead, .cv .dead, .cv .dead, .cv .dead, .cv .dead, .cv .dead, .cv .dead, .cv .dead, .cv .dead, .cv .dead, .cv .dead, .cv .dead, .cv .dead, .cv .dead, .cv .dead, .cv .dead, .cv .dead, .cv .dead, .cv .dead, .cv .dead, .cv .dead, .cv .dead, .cv .dead, .cv .dead, .cv .dead, .cv .dead, .cv .dead, .cv .dead, .cv .dead, .cv .dead, .cv .dead, .cv .dead, .cv .dead, .cv .dead], [(450003, .row (.slice (.int .i64)) o450003 true false), (100004, .row (.int .i64) o100004 true false)], true⟩
noncomputable def i_IsRiffle (k : Nat) (x : List Int) : Option (Bool) := aFn E i_IsRiffle_fi k x
noncomputable def i_isPrefix (k : Nat) (x : Int × List Int) : Option (Bool) := aFn E i_isPrefix_fi k x
noncomputable def i_isPrefix_l4 (k : Nat) (v0 : Int) (v1 : List Int) (v13 : List Int) (v14 : Int) (v15 : Int) : Option (Bool) := aRun E k i_isPrefix_fi.rs (ioOf i_isPrefix_fi.ps) i_isPrefix_fi.res i_isPrefix_fi.hints [.code (sub i_isPrefix_c [1, 1, 0, 1, 0, 0, 0]), .code (sub i_isPrefix_c [1, 1, 0, 1, 0, 0, 1]), .inLoop (sub i_isPrefix_c [1, 1, 0, 1, 0, 0]), .inBlock 0, .code (sub i_isPrefix_c [1, 1, 1])] ⟨[.cv (.val (.int .i64) v0), .cv (.val (.slice (.int .i64)) v1), .cv .dead, .cv .dead, .cv .dead, .cv .dead, .cv .dead, .cv .dead, .cv .dead, .cv .dead, .cv .dead, .cv .dead, .cv .dead, .cv (.val (.slice (.int .i64)) v13), .cv (.val (.int .i64) v14), .cv (.val (.int .i64) v15), .cv .dead, .cv .dead, .cv .dead, .cv .dead, .cv .dead, .cv .dead, .cv .dead, .cv .dead, .cv .dead, .cv .dead, .cv .dead, .cv .dead, .cv .dead, .cv .dead, .cv .dead, .cv .dead, .cv .dead, .cv .dead, .cv .dead], [], true⟩
noncomputable def i_upTo (k : Nat) (x : Int) : Option (List Int) := aFn E i_upTo_fi k x
noncomputable def i_upTo_l3 (k : Nat) (v0 : Int) (v4 : Int) (o100003 : List Int) : Option (List Int) := aRun E k i_upTo_fi.rs (ioOf i_upTo_fi.ps) i_upTo_fi.res i_upTo_fi.hints [.code (sub i_upTo_c [1, 1, 0, 1, 0, 0, 0, 0]), .code (sub i_upTo_c [1, 1, 0, 1, 0, 0, 0, 1]), .code (sub i_upTo_c [1, 1, 0, 1, 0, 0, 1]), .inLoop (sub i_upTo_c [1, 1, 0, 1, 0, 0]), .inBlock 0, .code (sub i_upTo_c [1, 1, 1])] ⟨[.cv (.val (.int .i64) v0), .cv .dead, .cv .dead, .cv (.own 100003), .cv (.val (.int .i64) v4), .cv .dead, .cv .dead, .cv .dead, .cv .dead, .cv .dead, .cv .dead, .cv .dead, .cv .dead, .cv .dead, .cv .dead], [(100003, .row (.int .i64) o100003 true true)], true⟩
noncomputable def i_riffled (k : Nat) (x : (List Int) × Int) : Option (List Int) := aFn E i_riffled_fi k x
noncomputable def i_riffled_l3 (k : Nat) (v0 : List Int) (v1 : Int) (v5 : Int) (v6 : Int) (v11 : Int) (v12 : Int) : Option (List Int) := aRun E k i_riffled_fi.rs (ioOf i_riffled_fi.ps) i_riffled_fi.res i_riffled_fi.hints [.code (sub i_riffled_c [1, 1, 0, 1, 0, 0, 0]), .code (sub i_riffled_c [1, 1, 0, 1, 0, 0, 1]), .inLoop (sub i_riffled_c [1, 1, 0, 1, 0, 0]), .inBlock 0, .code (sub i_riffled_c [1, 1, 1])] ⟨[.cv (.val (.slice (.int .i64)) v0), .cv (.val (.int .i64) v1), .cv .dead, .cv .dead, .cv .dead, .cv (.val (.int .i64) v5), .cv (.val (.int .i64) v6), .cv .dead, .cv .dead, .cv .dead, .cv .dead, .cv (.val (.int .i64) v11), .cv (.val (.int .i64) v12), .cv .dead, .cv .dead, .cv .dead, .cv .dead, .cv .dead, .cv .dead, .cv .dead, .cv .dead, .cv .dead, .cv .dead, .cv .dead, .cv .dead, .cv .dead, .cv .dead, .cv .dead, .cv .dead, .cv .dead, .cv .dead, .cv .dead, .cv .dead, .cv .dead, .cv .dead, .cv .dead, .cv .dead, .cv .dead, .cv .dead, .cv .dead, .cv .dead, .cv .dead, .cv .dead, .cv .dead, .cv .dead, .cv .dead, .cv .dead, .cv .dead, .cv .dead, .cv .dead, .cv .dead, .cv .dead, .cv .dead], [], true⟩
noncomputable def i_riffled_l9 (k : Nat) (v0 : List Int) (v1 : Int) (v5 : Int) (v6 : Int) (v24 : Int) (v25 : Int) (o100008 : List Int) : Option (List Int) := aRun E k i_riffled_fi.rs (ioOf i_riffled_fi.ps) i_riffled_fi.res i_riffled_fi.hints [.code (sub i_riffled_c [1, 1, 1, 1, 0, 1, 0, 0, 0]), .code (sub i_riffled_c [1, 1, 1, 1, 0, 1, 0, 0, 1]), .inLoop (sub i_riffled_c [1, 1, 1, 1, 0, 1, 0, 0]), .inBlock 2, .code (sub i_riffled_c [1, 1, 1, 1, 1])] ⟨[.cv (.val (.slice (.int .i64)) v0), .cv (.val (.int .i64) v1), .cv .dead, .cv .dead, .cv .dead, .cv (.val (.int .i64) v5), .cv (.val (.int .i64) v6), .cv .dead, .cv (.own 100008), .cv .dead, .cv .dead, .cv .dead, .cv .dead, .cv .dead, .cv .dead, .cv .dead, .cv .dead, .cv .dead, .cv .dead, .cv .dead, .cv .dead, .cv .dead, .cv .dead, .cv .dead, .cv (.val (.int .i64) v24), .cv (.val (.int .i64) v25), .cv .dead, .cv .dead, .cv .dead, .cv .dead, .cv .dead, .cv .dead, .cv .dead, .cv .dead, .cv .dead, .cv .dead, .cv .dead, .cv .dead, .cv .dead, .cv .dead, .cv .dead, .cv .dead, .cv .dead, .cv .dead, .cv .dead, .cv .dead, .cv .dead, .cv .dead, .cv .dead, .cv .dead, .cv .dead, .cv .dead, .cv .dead], [(100008, .row (.int .i64) o100008 true true)], true⟩
noncomputable def slices_Equal_int (k : Nat) (x : (List Int) × List Int) : Option (Bool) := aFn E slices_Equal_int_fi k x
noncomputable def slices_Equal_int_l4 (k : Nat) (v0 : List Int) (v1 : List Int) (v12 : Int) (v13 : Int) : Option (Bool) := aRun E k slices_Equal_int_fi.rs (ioOf slices_Equal_int_fi.ps) slices_Equal_int_fi.res slices_Equal_int_fi.hints [.code (sub slices_Equal_int_c [1, 1, 0, 1, 0, 0, 0]), .code (sub slices_Equal_int_c [1, 1, 0, 1, 0, 0, 1]), .inLoop (sub slices_Equal_int_c [1, 1, 0, 1, 0, 0]), .inBlock 0, .code (sub slices_Equal_int_c [1, 1, 1])] ⟨[.cv (.val (.slice (.int .i64)) v0), .cv (.val (.slice (.int .i64)) v1), .cv .dead, .cv .dead, .cv .dead, .cv .dead, .cv .dead, .cv .dead, .cv .dead, .cv .dead, .cv .dead, .cv .dead, .cv (.val (.int .i64) v12), .cv (.val (.int .i64) v13), .cv .dead, .cv .dead, .cv .dead, .cv .dead, .cv .dead, .cv .dead, .cv .dead, .cv .dead, .cv .dead, .cv .dead, .cv .dead, .cv .dead], [], true⟩
noncomputable def i_NextWays (k : Nat) (x : Int × List Int) : Option (List Int) := aFn E i_NextWays_fi k x
noncomputable def i_NextWays_l5 (k : Nat) (v0 : Int) (v1 : List Int) (v7 : Int) (o100005 : List Int) (o100006 : List Int) : Option (List Int) := aRun E k i_NextWays_fi.rs (ioOf i_NextWays_fi.ps) i_NextWays_fi.res i_NextWays_fi.hints [.code (sub i_NextWays_c [1, 1, 1, 0, 1, 0, 0, 0, 0]), .code (sub i_NextWays_c [1, 1, 1, 0, 1, 0, 0, 0, 1]), .code (sub i_NextWays_c [1, 1, 1, 0, 1, 0, 0, 1]), .inLoop (sub i_NextWays_c [1, 1, 1, 0, 1, 0, 0]), .inBlock 0, .code (sub i_NextWays_c [1, 1, 1, 1])] ⟨[.cv (.val (.int .i64) v0), .cv (.val (.slice (.int .i64)) v1), .cv .dead, .cv .dead, .cv .dead, .cv (.own 100005), .cv (.own 100006), .cv (.val (.int .i64) v7), .cv .dead, .cv .dead, .cv .dead, .cv .dead, .cv .dead, .cv .dead, .cv .dead, .cv .dead, .cv .dead, .cv .dead, .cv .dead, .cv .dead, .cv .dead, .cv .dead, .cv .dead, .cv .dead, .cv .dead, .cv .dead, .cv .dead, .cv .dead, .cv .dead, .cv .dead, .cv .dead, .cv .dead, .cv .dead, .cv .dead, .cv .dead, .cv .dead, .cv .dead, .cv .dead, .cv .dead, .cv .dead, .cv .dead, .cv .dead, .cv .dead, .cv .dead, .cv .dead, .cv .dead, .cv .dead, .cv .dead, .cv .dead], [(100005, .row (.int .i64) o100005 true true), (100006, .row (.int .i64) o100006 true false)], true⟩
noncomputable def slices_Max_int (k : Nat) (x : List Int) : Option (Int) := aFn E slices_Max_int_fi k x
noncomputable def slices_Max_int_l5 (k : Nat) (v0 : List Int) (v3 : Int) (v4 : Int) : Option (Int) := aRun E k slices_Max_int_fi.rs (ioOf slices_Max_int_fi.ps) slices_Max_int_fi.res slices_Max_int_fi.hints [.code (sub slices_Max_int_c [1, 1, 1, 0, 1, 0, 0, 0, 0]), .code (sub slices_Max_int_c [1, 1, 1, 0, 1, 0, 0, 0, 1]), .code (sub slices_Max_int_c [1, 1, 1, 0, 1, 0, 0, 1]), .inLoop (sub slices_Max_int_c [1, 1, 1, 0, 1, 0, 0]), .inBlock 0, .code (sub slices_Max_int_c [1, 1, 1, 1])] ⟨[.cv (.val (.slice (.int .i64)) v0), .cv .dead, .cv .dead, .cv (.val (.int .i64) v3), .cv (.val (.int .i64) v4), .cv .dead, .cv .dead, .cv .dead, .cv .dead, .cv .dead, .cv .dead, .cv .dead, .cv .dead, .cv .dead, .cv .dead, .cv .dead, .cv .dead, .cv .dead, .cv .dead, .cv .dead, .cv .dead, .cv .dead, .cv .dead, .cv .dead, .cv .dead], [], true⟩
noncomputable def i_BestGuess (k : Nat) (x : Int × List Int) : Option (Int) := aFn E i_BestGuess_fi k x
noncomputable def i_GuessRun (k : Nat) (x : List Int) : Option (Int) := aFn E i_GuessRun_fi k x
noncomputable def i_GuessRun_l5 (k : Nat) (v0 : List Int) (v3 : Int) (v19 : List Int) (v20 : Int) (v21 : Int) : Option (Int) := aRun E k i_GuessRun_fi.rs (ioOf i_GuessRun_fi.ps) i_GuessRun_fi.res i_GuessRun_fi.hints [.code (sub i_GuessRun_c [1, 1, 1, 0, 1, 0, 0, 0]), .code (sub i_GuessRun_c [1, 1, 1, 0, 1, 0, 0, 1]), .inLoop (sub i_GuessRun_c [1, 1, 1, 0, 1, 0, 0]), .inBlock 0, .code (sub i_GuessRun_c [1, 1, 1, 1])] ⟨[.cv (.val (.slice (.int .i64)) v0), .cv .dead, .cv .dead, .cv (.val (.int .i64) v3), .cv .dead, .cv .dead, .cv .dead, .cv .dead, .cv .dead, .cv .dead, .cv .dead, .cv .dead, .cv .dead, .cv .dead, .cv .dead, .cv .dead, .cv .dead, .cv .dead, .cv .dead, .cv (.val (.slice (.int .i64)) v19), .cv (.val (.int .i64) v20), .cv (.val (.int .i64) v21), .cv .dead, .cv .dead, .cv .dead, .cv .dead, .cv .dead, .cv .dead, .cv .dead, .cv .dead, .cv .dead, .cv .dead, .cv .dead, .cv .dead, .cv .dead, .cv .dead, .cv .dead, .cv .dead], [], true⟩
noncomputable def w_eqIntS (k : Nat) (x : (List Int) × List Int) : Option (Bool) := aFn E w_eqIntS_fi k x
noncomputable def w_eqIntS_l4 (k : Nat) (v0 : List Int) (v1 : List Int) (v5 : Int) : Option (Bool) := aRun E k w_eqIntS_fi.rs (ioOf w_eqIntS_fi.ps) w_eqIntS_fi.res w_eqIntS_fi.hints [.code (sub w_eqIntS_c [1, 1, 0, 1, 0, 0, 0, 0]), .code (sub w_eqIntS_c [1, 1, 0, 1, 0, 0, 0, 1]), .code (sub w_eqIntS_c [1, 1, 0, 1, 0, 0, 1]), .inLoop (sub w_eqIntS_c [1, 1, 0, 1, 0, 0]), .inBlock 0, .code (sub w_eqIntS_c [1, 1, 1])] ⟨[.cv (.val (.slice (.int .i64)) v0), .cv (.val (.slice (.int .i64)) v1), .cv .dead, .cv .dead, .cv .dead, .cv (.val (.int .i64) v5), .cv .dead, .cv .dead, .cv .dead, .cv .dead, .cv .dead, .cv .dead, .cv .dead, .cv .dead, .cv .dead, .cv .dead, .cv .dead, .cv .dead, .cv .dead, .cv .dead, .cv .dead, .cv .dead, .cv .dead, .cv .dead, .cv .dead, .cv .dead], [], true⟩
noncomputable def w_FnExactGuessRun (k : Nat) (x : List Int) : Option (Bool) := aFn E w_FnExactGuessRun_fi k x
noncomputable def w_szIntS (k : Nat) (x : (List Int) × Int) : Option (Int) := aFn E w_szIntS_fi k x
noncomputable def w_szIntSS (k : Nat) (x : (List (List Int)) × Int) : Option (Int) := aFn E w_szIntSS_fi k x
noncomputable def w_szIntSS_l5 (k : Nat) (v0 : List (List Int)) (v1 : Int) (v5 : Int) : Option (Int) := aRun E k w_szIntSS_fi.rs (ioOf w_szIntSS_fi.ps) w_szIntSS_fi.res w_szIntSS_fi.hints [.code (sub w_szIntSS_c [1, 1, 1, 0, 1, 0, 0, 0, 0]), .code (sub w_szIntSS_c [1, 1, 1, 0, 1, 0, 0, 0, 1]), .code (sub w_szIntSS_c [1, 1, 1, 0, 1, 0, 0, 1]), .inLoop (sub w_szIntSS_c [1, 1, 1, 0, 1, 0, 0]), .inBlock 0, .code (sub w_szIntSS_c [1, 1, 1, 1])] ⟨[.cv (.val (.slice (.slice (.int .i64))) v0), .cv (.val (.int .i64) v1), .cv .dead, .cv .dead, .cv .dead, .cv (.val (.int .i64) v5), .cv .dead, .cv .dead, .cv .dead, .cv .dead, .cv .dead, .cv .dead, .cv .dead, .cv .dead, .cv .dead, .cv .dead, .cv .dead, .cv .dead, .cv .dead, .cv .dead, .cv .dead, .cv .dead, .cv .dead, .cv .dead, .cv .dead, .cv .dead, .cv .dead], [], true⟩
noncomputable def w_toIntSS (k : Nat) (x : List (List Int)) : Option (List (List Int)) := aFn E w_toIntSS_fi k x
noncomputable def w_toIntSS_l3 (k : Nat) (v0 : List (List Int)) (v4 : Int) (o100003 : List (List Int)) : Option (List (List Int)) := aRun E k w_toIntSS_fi.rs (ioOf w_toIntSS_fi.ps) w_toIntSS_fi.res w_toIntSS_fi.hints [.code (sub w_toIntSS_c [1, 1, 0, 1, 0, 0, 0, 0]), .code (sub w_toIntSS_c [1, 1, 0, 1, 0, 0, 0, 1]), .code (sub w_toIntSS_c [1, 1, 0, 1, 0, 0, 1]), .inLoop (sub w_toIntSS_c [1, 1, 0, 1, 0, 0]), .inBlock 0, .code (sub w_toIntSS_c [1, 1, 1])] ⟨[.cv (.val (.slice (.slice (.int .i64))) v0), .cv .dead, .cv .dead, .cv (.own 100003), .cv (.val (.int .i64) v4), .cv .dead, .cv .dead, .cv .dead, .cv .dead, .cv .dead, .cv .dead, .cv .dead, .cv .dead, .cv .dead, .cv .dead, .cv .dead, .cv .dead, .cv .dead, .cv .dead, .cv .dead, .cv .dead, .cv .dead, .cv .dead], [(100003, .row (.slice (.int .i64)) o100003 true false)], true⟩
noncomputable def s_PacketOk (k : Nat) (x : List Int) : Option (Bool) := aFn E s_PacketOk_fi k x
noncomputable def s_PacketOk_l5 (k : Nat) (v11 : List Int) (v12 : Int) (v13 : Int) (o100003 : List Int) : Option (Bool) := aRun E k s_PacketOk_fi.rs (ioOf s_PacketOk_fi.ps) s_PacketOk_fi.res s_PacketOk_fi.hints [.code (sub s_PacketOk_c [1, 1, 1, 0, 1, 0, 0, 0]), .code (sub s_PacketOk_c [1, 1, 1, 0, 1, 0, 0, 1]), .inLoop (sub s_PacketOk_c [1, 1, 1, 0, 1, 0, 0]), .inBlock 0, .code (sub s_PacketOk_c [1, 1, 1, 1])] ⟨[.cv .dead, .cv .dead, .cv .dead, .cv (.own 100003), .cv .dead, .cv .dead, .cv .dead, .cv .dead, .cv .dead, .cv .dead, .cv .dead, .cv (.val (.slice (.int .i64)) v11), .cv (.val (.int .i64) v12), .cv (.val (.int .i64) v13), .cv .dead, .cv .dead, .cv .dead, .cv .dead, .cv .dead, .cv .dead, .cv .dead, .cv .dead, .cv .dead, .cv .dead, .cv .dead, .cv .dead, .cv .dead, .cv .dead, .cv .dead, .cv .dead, .cv .dead], [(100003, .row (.int .i64) o100003 true false)], true⟩
noncomputable def s_IsArrangement (k : Nat) (x : (List Int) × List Int) : Option (Bool) := aFn E s_IsArrangement_fi k x
noncomputable def s_IsArrangement_l4 (k : Nat) (v1 : List Int) (v22 : List Int) (v23 : Int) (v24 : Int) : Option (Bool) := aRun E k s_IsArrangement_fi.rs (ioOf s_IsArrangement_fi.ps) s_IsArrangement_fi.res s_IsArrangement_fi.hints [.code (sub s_IsArrangement_c [1, 1, 0, 1, 0, 0, 0]), .code (sub s_IsArrangement_c [1, 1, 0, 1, 0, 0, 1]), .inLoop (sub s_IsArrangement_c [1, 1, 0, 1, 0, 0]), .inBlock 0, .code (sub s_IsArrangement_c [1, 1, 1])] ⟨[.cv .dead, .cv (.val (.slice (.int .i64)) v1), .cv .dead, .cv .dead, .cv .dead, .cv .dead, .cv .dead, .cv .dead, .cv .dead, .cv .dead, .cv .dead, .cv .dead, .cv .dead, .cv .dead, .cv .dead, .cv .dead, .cv .dead, .cv .dead, .cv .dead, .cv .dead, .cv .dead, .cv .dead, .cv (.val (.slice (.int .i64)) v22), .cv (.val (.int .i64) v23), .cv (.val (.int .i64) v24), .cv .dead, .cv .dead, .cv .dead, .cv .dead, .cv .dead, .cv .dead, .cv .dead, .cv .dead, .cv .dead], [], true⟩
noncomputable def s_l05Less (k : Nat) (x : (List Int) × List Int) : Option (Bool) := aFn E s_l05Less_fi k x
noncomputable def s_l05Less_l2 (k : Nat) (v0 : List Int) (v1 : List Int) (v7 : List Int) (v8 : Int) (v9 : Int) : Option (Bool) := aRun E k s_l05Less_fi.rs (ioOf s_l05Less_fi.ps) s_l05Less_fi.res s_l05Less_fi.hints [.code (sub s_l05Less_c [1, 0, 1, 0, 0, 0]), .code (sub s_l05Less_c [1, 0, 1, 0, 0, 1]), .inLoop (sub s_l05Less_c [1, 0, 1, 0, 0]), .inBlock 0, .code (sub s_l05Less_c [1, 1])] ⟨[.cv (.val (.slice (.int .i64)) v0), .cv (.val (.slice (.int .i64)) v1), .cv .dead, .cv .dead, .cv .dead, .cv .dead, .cv .dead, .cv (.val (.slice (.int .i64)) v7), .cv (.val (.int .i64) v8), .cv (.val (.int .i64) v9), .cv .dead, .cv .dead, .cv .dead, .cv .dead, .cv .dead, .cv .dead, .cv .dead, .cv .dead, .cv .dead, .cv .dead, .cv .dead, .cv .dead, .cv .dead, .cv .dead, .cv .dead, .cv .dead, .cv .dead, .cv .dead, .cv .dead, .cv .dead, .cv .dead, .cv .dead, .cv .dead, .cv .dead, .cv .dead, .cv .dead], [], true⟩
noncomputable def s_KnowOk (k : Nat) (x : List (List Int)) : Option (Bool) := aFn E s_KnowOk_fi k x
noncomputable def s_KnowOk_l4 (k : Nat) (v0 : List (List Int)) (v16 : List (List Int)) (v17 : Int) (v18 : Int) : Option (Bool) := aRun E k s_KnowOk_fi.rs (ioOf s_KnowOk_fi.ps) s_KnowOk_fi.res s_KnowOk_fi.hints [.code (sub s_KnowOk_c [1, 1, 0, 1, 0, 0, 0]), .code (sub s_KnowOk_c [1, 1, 0, 1, 0, 0, 1]), .inLoop (sub s_KnowOk_c [1, 1, 0, 1, 0, 0]), .inBlock 0, .code (sub s_KnowOk_c [1, 1, 1])] ⟨[.cv (.val (.slice (.slice (.int .i64))) v0), .cv .dead, .cv .dead, .cv .dead, .cv .dead, .cv .dead, .cv .dead, .cv .dead, .cv .dead, .cv .dead, .cv .dead, .cv .dead, .cv .dead, .cv .dead, .cv .dead, .cv .dead, .cv (.val (.slice (.slice (.int .i64))) v16), .cv (.val (.int .i64) v17), .cv (.val (.int .i64) v18), .cv .dead, .cv .dead, .cv .dead, .cv .dead, .cv .dead, .cv .dead, .cv .dead, .cv .dead, .cv .dead, .cv .dead, .cv .dead, .cv .dead, .cv .dead, .cv .dead, .cv .dead, .cv .dead, .cv .dead, .cv .dead, .cv .dead, .cv .dead, .cv .dead, .cv .dead, .cv .dead, .cv .dead, .cv .dead], [], true⟩
noncomputable def s_SeeCard (k : Nat) (x : (List (List Int)) × Int × Int) : Option (List (List Int)) := aFn E s_SeeCard_fi k x
noncomputable def s_SeeCard_l5 (k : Nat) (v1 : Int) (v2 : Int) (v14 : List (List Int)) (v15 : Int) (v16 : Int) (o100007 : List (List Int)) : Option (List (List Int)) := aRun E k s_SeeCard_fi.rs (ioOf s_SeeCard_fi.ps) s_SeeCard_fi.res s_SeeCard_fi.hints [.code (sub s_SeeCard_c [1, 1, 1, 0, 1, 0, 0, 0]), .code (sub s_SeeCard_c [1, 1, 1, 0, 1, 0, 0, 1]), .inLoop (sub s_SeeCard_c [1, 1, 1, 0, 1, 0, 0]), .inBlock 0, .code (sub s_SeeCard_c [1, 1, 1, 1])] ⟨[.cv .dead, .cv (.val (.int .i64) v1), .cv (.val (.int .i64) v2), .cv .dead, .cv .dead, .cv .dead, .cv .dead, .cv (.own 100007), .cv .dead, .cv .dead, .cv .dead, .cv .dead, .cv .dead, .cv .dead, .cv (.val (.slice (.slice (.int .i64))) v14), .cv (.val (.int .i64) v15), .cv (.val (.int .i64) v16), .cv .dead, .cv .dead, .cv .dead, .cv .dead, .cv .dead, .cv .dead, .cv .dead, .cv .dead, .cv .dead, .cv .dead, .cv .dead, .cv .dead, .cv .dead, .cv .dead, .cv .dead, .cv .dead, .cv .dead, .cv .dead, .cv .dead, .cv .dead, .cv .dead, .cv .dead, .cv .dead, .cv .dead, .cv .dead], [(100007, .row (.slice (.int .i64)) o100007 true false)], true⟩
noncomputable def i_CardOf (k : Nat) (x : Int) : Option (Int) := aFn E i_CardOf_fi k x
noncomputable def i_PacketOk (k : Nat) (x : List Int) : Option (Bool) := aFn E i_PacketOk_fi k x
noncomputable def i_PacketOk_l3 (k : Nat) (v7 : List Int) (v8 : Int) (v9 : Int) (o400003 : List Bool) : Option (Bool) := aRun E k i_PacketOk_fi.rs (ioOf i_PacketOk_fi.ps) i_PacketOk_fi.res i_PacketOk_fi.hints [.code (sub i_PacketOk_c [1, 1, 0, 1, 0, 0, 0]), .code (sub i_PacketOk_c [1, 1, 0, 1, 0, 0, 1]), .inLoop (sub i_PacketOk_c [1, 1, 0, 1, 0, 0]), .inBlock 0, .code (sub i_PacketOk_c [1, 1, 1])] ⟨[.cv .dead, .cv .dead, .cv .dead, .adr 400003 0, .cv .dead, .cv .dead, .cv .dead, .cv (.val (.slice (.int .i64)) v7), .cv (.val (.int .i64) v8), .cv (.val (.int .i64) v9), .cv .dead, .cv .dead, .cv .dead, .cv .dead, .cv .dead, .cv .dead, .cv .dead, .cv .dead, .cv .dead, .cv .dead, .cv .dead, .cv .dead, .cv .dead, .cv .dead, .cv .dead], [(400003, .arr (.bool) o400003)], true⟩
noncomputable def i_PositionOf_1 (k : Nat) (x : Int × Int) : Option (Bool) := aFn E i_PositionOf_1_fi k x
noncomputable def slices_IndexFunc_int_of_i_PositionOf_1 (k : Nat) (x : (List Int) × Int) : Option (Int) := aFn E slices_IndexFunc_int_of_i_PositionOf_1_fi k x
noncomputable def slices_IndexFunc_int_of_i_PositionOf_1_l2 (k : Nat) (v0 : List Int) (v1_0_0 : Int) (v7 : Int) (v8 : Int) : Option (Int) := aRun E k slices_IndexFunc_int_of_i_PositionOf_1_fi.rs (ioOf slices_IndexFunc_int_of_i_PositionOf_1_fi.ps) slices_IndexFunc_int_of_i_PositionOf_1_fi.res slices_IndexFunc_int_of_i_PositionOf_1_fi.hints [.code (sub slices_IndexFunc_int_of_i_PositionOf_1_c [1, 0, 1, 0, 0, 0]), .code (sub slices_IndexFunc_int_of_i_PositionOf_1_c [1, 0, 1, 0, 0, 1]), .inLoop (sub slices_IndexFunc_int_of_i_PositionOf_1_c [1, 0, 1, 0, 0]), .inBlock 0, .code (sub slices_IndexFunc_int_of_i_PositionOf_1_c [1, 1])] ⟨[.cv (.val (.slice (.int .i64)) v0), .fn 94 [[.val (.int .i64) v1_0_0]], .cv .dead, .cv .dead, .cv .dead, .cv .dead, .cv .dead, .cv (.val (.int .i64) v7), .cv (.val (.int .i64) v8), .cv .dead, .cv .dead, .cv .dead, .cv .dead, .cv .dead, .cv .dead, .cv .dead, .cv .dead, .cv .dead, .cv .dead], [], true⟩
noncomputable def i_PositionOf (k : Nat) (x : (List Int) × Int) : Option (Int) := aFn E i_PositionOf_fi k x
noncomputable def i_IsArrangement_1 (k : Nat) (x : Int × List Int) : Option (Bool) := aFn E i_IsArrangement_1_fi k x
noncomputable def slices_IndexFunc_int_of_i_IsArrangement_1 (k : Nat) (x : (List Int) × List Int) : Option (Int) := aFn E slices_IndexFunc_int_of_i_IsArrangement_1_fi k x
noncomputable def slices_IndexFunc_int_of_i_IsArrangement_1_l2 (k : Nat) (v0 : List Int) (v1_0_0 : List Int) (v7 : Int) (v8 : Int) : Option (Int) := aRun E k slices_IndexFunc_int_of_i_IsArrangement_1_fi.rs (ioOf slices_IndexFunc_int_of_i_IsArrangement_1_fi.ps) slices_IndexFunc_int_of_i_IsArrangement_1_fi.res slices_IndexFunc_int_of_i_IsArrangement_1_fi.hints [.code (sub slices_IndexFunc_int_of_i_IsArrangement_1_c [1, 0, 1, 0, 0, 0]), .code (sub slices_IndexFunc_int_of_i_IsArrangement_1_c [1, 0, 1, 0, 0, 1]), .inLoop (sub slices_IndexFunc_int_of_i_IsArrangement_1_c [1, 0, 1, 0, 0]), .inBlock 0, .code (sub slices_IndexFunc_int_of_i_IsArrangement_1_c [1, 1])] ⟨[.cv (.val (.slice (.int .i64)) v0), .fn 109 [[.val (.slice (.int .i64)) v1_0_0]], .cv .dead, .cv .dead, .cv .dead, .cv .dead, .cv .dead, .cv (.val (.int .i64) v7), .cv (.val (.int .i64) v8), .cv .dead, .cv .dead, .cv .dead, .cv .dead, .cv .dead, .cv .dead, .cv .dead, .cv .dead, .cv .dead, .cv .dead], [], true⟩
noncomputable def slices_ContainsFunc_int_of_i_IsArrangement_1 (k : Nat) (x : (List Int) × List Int) : Option (Bool) := aFn E slices_ContainsFunc_int_of_i_IsArrangement_1_fi k x
noncomputable def i_IsArrangement (k : Nat) (x : (List Int) × List Int) : Option (Bool) := aFn E i_IsArrangement_fi k x
noncomputable def cmp_isNaN_int (k : Nat) (x : Int) : Option (Bool) := aFn E cmp_isNaN_int_fi k x
noncomputable def cmp_Compare_int (k : Nat) (x : Int × Int) : Option (Int) := aFn E cmp_Compare_int_fi k x
noncomputable def slices_Compare_int (k : Nat) (x : (List Int) × List Int) : Option (Int) := aFn E slices_Compare_int_fi k x
noncomputable def slices_Compare_int_l2 (k : Nat) (v0 : List Int) (v1 : List Int) (v9 : List Int) (v10 : Int) (v11 : Int) : Option (Int) := aRun E k slices_Compare_int_fi.rs (ioOf slices_Compare_int_fi.ps) slices_Compare_int_fi.res slices_Compare_int_fi.hints [.code (sub slices_Compare_int_c [1, 0, 1, 0, 0, 0]), .code (sub slices_Compare_int_c [1, 0, 1, 0, 0, 1]), .inLoop (sub slices_Compare_int_c [1, 0, 1, 0, 0]), .inBlock 0, .code (sub slices_Compare_int_c [1, 1])] ⟨[.cv (.val (.slice (.int .i64)) v0), .cv (.val (.slice (.int .i64)) v1), .cv .dead, .cv .dead, .cv .dead, .cv .dead, .cv .dead, .cv .dead, .cv .dead, .cv (.val (.slice (.int .i64)) v9), .cv (.val (.int .i64) v10), .cv (.val (.int .i64) v11), .cv .dead, .cv .dead, .cv .dead, .cv .dead, .cv .dead, .cv .dead, .cv .dead, .cv .dead, .cv .dead, .cv .dead, .cv .dead, .cv .dead, .cv .dead, .cv .dead, .cv .dead, .cv .dead, .cv .dead, .cv .dead, .cv .dead, .cv .dead, .cv .dead, .cv .dead, .cv .dead, .cv .dead], [], true⟩
noncomputable def i_KnowOk (k : Nat) (x : List (List Int)) : Option (Bool) := aFn E i_KnowOk_fi k x
noncomputable def i_KnowOk_l4 (k : Nat) (v0 : List (List Int)) (v20 : List (List Int)) (v21 : Int) (v22 : Int) : Option (Bool) := aRun E k i_KnowOk_fi.rs (ioOf i_KnowOk_fi.ps) i_KnowOk_fi.res i_KnowOk_fi.hints [.code (sub i_KnowOk_c [1, 1, 0, 1, 0, 0, 0]), .code (sub i_KnowOk_c [1, 1, 0, 1, 0, 0, 1]), .inLoop (sub i_KnowOk_c [1, 1, 0, 1, 0, 0]), .inBlock 0, .code (sub i_KnowOk_c [1, 1, 1])] ⟨[.cv (.val (.slice (.slice (.int .i64))) v0), .cv .dead, .cv .dead, .cv .dead, .cv .dead, .cv .dead, .cv .dead, .cv .dead, .cv .dead, .cv .dead, .cv .dead, .cv .dead, .cv .dead, .cv .dead, .cv .dead, .cv .dead, .cv .dead, .cv .dead, .cv .dead, .cv .dead, .cv (.val (.slice (.slice (.int .i64))) v20), .cv (.val (.int .i64) v21), .cv (.val (.int .i64) v22), .cv .dead, .cv .dead, .cv .dead, .cv .dead, .cv .dead, .cv .dead, .cv .dead, .cv .dead, .cv .dead, .cv .dead, .cv .dead, .cv .dead, .cv .dead, .cv .dead, .cv .dead, .cv .dead, .cv .dead, .cv .dead, .cv .dead, .cv .dead, .cv .dead, .cv .dead, .cv .dead, .cv .dead, .cv .dead], [], true⟩
noncomputable def i_SeeCard_1 (k : Nat) (x : (List Int) × Int × Int) : Option (Bool) := aFn E i_SeeCard_1_fi k x
noncomputable def slices_Clone_int (k : Nat) (x : List Int) : Option (List Int) := aFn E slices_Clone_int_fi k x
noncomputable def i_those_of_i_SeeCard_1 (k : Nat) (x : (List (List Int)) × Int × Int) : Option (List (List Int)) := aFn E i_those_of_i_SeeCard_1_fi k x
noncomputable def i_those_of_i_SeeCard_1_l5 (k : Nat) (v1_0_0 : Int) (v1_1_0 : Int) (v11 : List (List Int)) (v12 : Int) (v13 : Int) (o100005 : List (List Int)) : Option (List (List Int)) := aRun E k i_those_of_i_SeeCard_1_fi.rs (ioOf i_those_of_i_SeeCard_1_fi.ps) i_those_of_i_SeeCard_1_fi.res i_those_of_i_SeeCard_1_fi.hints [.code (sub i_those_of_i_SeeCard_1_c [1, 1, 1, 0, 1, 0, 0, 0]), .code (sub i_those_of_i_SeeCard_1_c [1, 1, 1, 0, 1, 0, 0, 1]), .inLoop (sub i_those_of_i_SeeCard_1_c [1, 1, 1, 0, 1, 0, 0]), .inBlock 0, .code (sub i_those_of_i_SeeCard_1_c [1, 1, 1, 1])] ⟨[.cv .dead, .fn 47 [[.val (.int .i64) v1_0_0], [.val (.int .i64) v1_1_0]], .cv .dead, .cv .dead, .cv .dead, .cv (.own 100005), .cv .dead, .cv .dead, .cv .dead, .cv .dead, .cv .dead, .cv (.val (.slice (.slice (.int .i64))) v11), .cv (.val (.int .i64) v12), .cv (.val (.int .i64) v13), .cv .dead, .cv .dead, .cv .dead, .cv .dead, .cv .dead, .cv .dead, .cv .dead, .cv .dead, .cv .dead, .cv .dead, .cv .dead, .cv .dead, .cv .dead], [(100005, .row (.slice (.int .i64)) o100005 true true)], true⟩
noncomputable def i_SeeCard (k : Nat) (x : (List (List Int)) × Int × Int) : Option (List (List Int)) := aFn E i_SeeCard_fi k x
noncomputable def w_eqIntSS (k : Nat) (x : (List (List Int)) × List (List Int)) : Option (Bool) := aFn E w_eqIntSS_fi k x
noncomputable def w_eqIntSS_l4 (k : Nat) (v0 : List (List Int)) (v1 : List (List Int)) (v5 : Int) : Option (Bool) := aRun E k w_eqIntSS_fi.rs (ioOf w_eqIntSS_fi.ps) w_eqIntSS_fi.res w_eqIntSS_fi.hints [.code (sub w_eqIntSS_c [1, 1, 0, 1, 0, 0, 0, 0]), .code (sub w_eqIntSS_c [1, 1, 0, 1, 0, 0, 0, 1]), .code (sub w_eqIntSS_c [1, 1, 0, 1, 0, 0, 1]), .inLoop (sub w_eqIntSS_c [1, 1, 0, 1, 0, 0]), .inBlock 0, .code (sub w_eqIntSS_c [1, 1, 1])] ⟨[.cv (.val (.slice (.slice (.int .i64))) v0), .cv (.val (.slice (.slice (.int .i64))) v1), .cv .dead, .cv .dead, .cv .dead, .cv (.val (.int .i64) v5), .cv .dead, .cv .dead, .cv .dead, .cv .dead, .cv .dead, .cv .dead, .cv .dead, .cv .dead, .cv .dead, .cv .dead, .cv .dead, .cv .dead, .cv .dead, .cv .dead, .cv .dead, .cv .dead, .cv .dead, .cv .dead, .cv .dead, .cv .dead, .cv .dead], [], true⟩
noncomputable def w_markIntS (k : Nat) (x : (List Int) × Int) : Option ((Int) × List Int) := aFn E w_markIntS_fi k x
noncomputable def w_markIntS_l2 (k : Nat) (v1 : Int) (v5 : Int) (o500000 : List Int) : Option ((Int) × List Int) := aRun E k w_markIntS_fi.rs (ioOf w_markIntS_fi.ps) w_markIntS_fi.res w_markIntS_fi.hints [.code (sub w_markIntS_c [1, 0, 1, 0, 0, 0, 0]), .code (sub w_markIntS_c [1, 0, 1, 0, 0, 0, 1]), .code (sub w_markIntS_c [1, 0, 1, 0, 0, 1]), .inLoop (sub w_markIntS_c [1, 0, 1, 0, 0]), .inBlock 0, .code (sub w_markIntS_c [1, 1])] ⟨[.cv (.own 500000), .cv (.val (.int .i64) v1), .cv .dead, .cv .dead, .cv .dead, .cv (.val (.int .i64) v5), .cv .dead, .cv .dead, .cv .dead, .cv .dead, .cv .dead, .cv .dead, .cv .dead, .cv .dead, .cv .dead, .cv .dead, .cv .dead, .cv .dead, .cv .dead], [(500000, .row (.int .i64) o500000 true false)], true⟩
noncomputable def w_markIntSS (k : Nat) (x : (List (List Int)) × Int) : Option ((Int) × List (List Int)) := aFn E w_markIntSS_fi k x
noncomputable def w_markIntSS_l2 (k : Nat) (v1 : Int) (v5 : Int) (o500000 : List (List Int)) : Option ((Int) × List (List Int)) := aRun E k w_markIntSS_fi.rs (ioOf w_markIntSS_fi.ps) w_markIntSS_fi.res w_markIntSS_fi.hints [.code (sub w_markIntSS_c [1, 0, 1, 0, 0, 0, 0]), .code (sub w_markIntSS_c [1, 0, 1, 0, 0, 0, 1]), .code (sub w_markIntSS_c [1, 0, 1, 0, 0, 1]), .inLoop (sub w_markIntSS_c [1, 0, 1, 0, 0]), .inBlock 0, .code (sub w_markIntSS_c [1, 1])] ⟨[.cv (.own 500000), .cv (.val (.int .i64) v1), .cv .dead, .cv .dead, .cv .dead, .cv (.val (.int .i64) v5), .cv .dead, .cv .dead, .cv .dead, .cv .dead, .cv .dead, .cv .dead, .cv .dead, .cv .dead, .cv .dead, .cv .dead, .cv .dead, .cv .dead, .cv .dead], [(500000, .row (.slice (.int .i64)) o500000 true false)], true⟩
noncomputable def w_heldIntS (k : Nat) (x : (List Int) × Int) : Option (Int) := aFn E w_heldIntS_fi k x
noncomputable def w_heldIntS_l2 (k : Nat) (v0 : List Int) (v1 : Int) (v5 : Int) : Option (Int) := aRun E k w_heldIntS_fi.rs (ioOf w_heldIntS_fi.ps) w_heldIntS_fi.res w_heldIntS_fi.hints [.code (sub w_heldIntS_c [1, 0, 1, 0, 0, 0, 0]), .code (sub w_heldIntS_c [1, 0, 1, 0, 0, 0, 1]), .code (sub w_heldIntS_c [1, 0, 1, 0, 0, 1]), .inLoop (sub w_heldIntS_c [1, 0, 1, 0, 0]), .inBlock 0, .code (sub w_heldIntS_c [1, 1])] ⟨[.cv (.val (.slice (.int .i64)) v0), .cv (.val (.int .i64) v1), .cv .dead, .cv .dead, .cv .dead, .cv (.val (.int .i64) v5), .cv .dead, .cv .dead, .cv .dead, .cv .dead, .cv .dead, .cv .dead, .cv .dead, .cv .dead, .cv .dead, .cv .dead, .cv .dead, .cv .dead, .cv .dead, .cv .dead, .cv .dead], [], true⟩
noncomputable def w_heldIntSS (k : Nat) (x : (List (List Int)) × Int) : Option (Int) := aFn E w_heldIntSS_fi k x
noncomputable def w_heldIntSS_l2 (k : Nat) (v0 : List (List Int)) (v1 : Int) (v5 : Int) : Option (Int) := aRun E k w_heldIntSS_fi.rs (ioOf w_heldIntSS_fi.ps) w_heldIntSS_fi.res w_heldIntSS_fi.hints [.code (sub w_heldIntSS_c [1, 0, 1, 0, 0, 0, 0]), .code (sub w_heldIntSS_c [1, 0, 1, 0, 0, 0, 1]), .code (sub w_heldIntSS_c [1, 0, 1, 0, 0, 1]), .inLoop (sub w_heldIntSS_c [1, 0, 1, 0, 0]), .inBlock 0, .code (sub w_heldIntSS_c [1, 1])] ⟨[.cv (.val (.slice (.slice (.int .i64))) v0), .cv (.val (.int .i64) v1), .cv .dead, .cv .dead, .cv .dead, .cv (.val (.int .i64) v5), .cv .dead, .cv .dead, .cv .dead, .cv .dead, .cv .dead, .cv .dead, .cv .dead, .cv .dead, .cv .dead, .cv .dead, .cv .dead, .cv .dead, .cv .dead, .cv .dead, .cv .dead], [], true⟩
noncomputable def w_FnExactSeeCard (k : Nat) (x : (List (List Int)) × Int × Int) : Option (Bool) := aFn E w_FnExactSeeCard_fi k x
noncomputable def s_IsUp (k : Nat) (x : Int) : Option (Bool) := aFn E s_IsUp_fi k x
noncomputable def s_l15Sides (k : Nat) (x : (List Int) × List Int) : Option (Bool) := aFn E s_l15Sides_fi k x
noncomputable def s_l15Sides_l2 (k : Nat) (v1 : List Int) (v7 : List Int) (v8 : Int) (v9 : Int) : Option (Bool) := aRun E k s_l15Sides_fi.rs (ioOf s_l15Sides_fi.ps) s_l15Sides_fi.res s_l15Sides_fi.hints [.code (sub s_l15Sides_c [1, 0, 1, 0, 0, 0]), .code (sub s_l15Sides_c [1, 0, 1, 0, 0, 1]), .inLoop (sub s_l15Sides_c [1, 0, 1, 0, 0]), .inBlock 0, .code (sub s_l15Sides_c [1, 1])] ⟨[.cv .dead, .cv (.val (.slice (.int .i64)) v1), .cv .dead, .cv .dead, .cv .dead, .cv .dead, .cv .dead, .cv (.val (.slice (.int .i64)) v7), .cv (.val (.int .i64) v8), .cv (.val (.int .i64) v9), .cv .dead, .cv .dead, .cv .dead, .cv .dead, .cv .dead, .cv .dead, .cv .dead, .cv .dead, .cv .dead, .cv .dead, .cv .dead], [], true⟩
noncomputable def s_SeeSides (k : Nat) (x : (List (List Int)) × List Int) : Option (List (List Int)) := aFn E s_SeeSides_fi k x
noncomputable def s_SeeSides_l5 (k : Nat) (v1 : List Int) (v12 : List (List Int)) (v13 : Int) (v14 : Int) (o100005 : List (List Int)) : Option (List (List Int)) := aRun E k s_SeeSides_fi.rs (ioOf s_SeeSides_fi.ps) s_SeeSides_fi.res s_SeeSides_fi.hints [.code (sub s_SeeSides_c [1, 1, 1, 0, 1, 0, 0, 0]), .code (sub s_SeeSides_c [1, 1, 1, 0, 1, 0, 0, 1]), .inLoop (sub s_SeeSides_c [1, 1, 1, 0, 1, 0, 0]), .inBlock 0, .code (sub s_SeeSides_c [1, 1, 1, 1])] ⟨[.cv .dead, .cv (.val (.slice (.int .i64)) v1), .cv .dead, .cv .dead, .cv .dead, .cv (.own 100005), .cv .dead, .cv .dead, .cv .dead, .cv .dead, .cv .dead, .cv .dead, .cv (.val (.slice (.slice (.int .i64))) v12), .cv (.val (.int .i64) v13), .cv (.val (.int .i64) v14), .cv .dead, .cv .dead, .cv .dead, .cv .dead, .cv .dead, .cv .dead, .cv .dead, .cv .dead, .cv .dead, .cv .dead, .cv .dead, .cv .dead, .cv .dead, .cv .dead], [(100005, .row (.slice (.int .i64)) o100005 true false)], true⟩
noncomputable def i_IsUp (k : Nat) (x : Int) : Option (Bool) := aFn E i_IsUp_fi k x
noncomputable def i_SeeSides_1 (k : Nat) (x : (List Int) × List Int) : Option (Bool) := aFn E i_SeeSides_1_fi k x
noncomputable def i_SeeSides_1_l2 (k : Nat) (v1_0 : List Int) (v6 : List Int) (v7 : Int) (v8 : Int) : Option (Bool) := aRun E k i_SeeSides_1_fi.rs (ioOf i_SeeSides_1_fi.ps) i_SeeSides_1_fi.res i_SeeSides_1_fi.hints [.code (sub i_SeeSides_1_c [1, 0, 1, 0, 0, 0]), .code (sub i_SeeSides_1_c [1, 0, 1, 0, 0, 1]), .inLoop (sub i_SeeSides_1_c [1, 0, 1, 0, 0]), .inBlock 0, .code (sub i_SeeSides_1_c [1, 1])] ⟨[.cv .dead, .ref [.val (.slice (.int .i64)) v1_0], .cv .dead, .cv .dead, .cv .dead, .cv .dead, .cv (.val (.slice (.int .i64)) v6), .cv (.val (.int .i64) v7), .cv (.val (.int .i64) v8), .cv .dead, .cv .dead, .cv .dead, .cv .dead, .cv .dead, .cv .dead, .cv .dead, .cv .dead, .cv .dead, .cv .dead, .cv .dead], [], true⟩
noncomputable def i_those_of_i_SeeSides_1 (k : Nat) (x : (List (List Int)) × List Int) : Option (List (List Int)) := aFn E i_those_of_i_SeeSides_1_fi k x
noncomputable def i_those_of_i_SeeSides_1_l5 (k : Nat) (v1_0_0 : List Int) (v11 : List (List Int)) (v12 : Int) (v13 : Int) (o100005 : List (List Int)) : Option (List (List Int)) := aRun E k i_those_of_i_SeeSides_1_fi.rs (ioOf i_those_of_i_SeeSides_1_fi.ps) i_those_of_i_SeeSides_1_fi.res i_those_of_i_SeeSides_1_fi.hints [.code (sub i_those_of_i_SeeSides_1_c [1, 1, 1, 0, 1, 0, 0, 0]), .code (sub i_those_of_i_SeeSides_1_c [1, 1, 1, 0, 1, 0, 0, 1]), .inLoop (sub i_those_of_i_SeeSides_1_c [1, 1, 1, 0, 1, 0, 0]), .inBlock 0, .code (sub i_those_of_i_SeeSides_1_c [1, 1, 1, 1])] ⟨[.cv .dead, .fn 68 [[.val (.slice (.int .i64)) v1_0_0]], .cv .dead, .cv .dead, .cv .dead, .cv (.own 100005), .cv .dead, .cv .dead, .cv .dead, .cv .dead, .cv .dead, .cv (.val (.slice (.slice (.int .i64))) v11), .cv (.val (.int .i64) v12), .cv (.val (.int .i64) v13), .cv .dead, .cv .dead, .cv .dead, .cv .dead, .cv .dead, .cv .dead, .cv .dead, .cv .dead, .cv .dead, .cv .dead, .cv .dead, .cv .dead, .cv .dead], [(100005, .row (.slice (.int .i64)) o100005 true true)], true⟩
noncomputable def i_SeeSides (k : Nat) (x : (List (List Int)) × List Int) : Option (List (List Int)) := aFn E i_SeeSides_fi k x
noncomputable def w_FnExactSeeSides (k : Nat) (x : (List (List Int)) × List Int) : Option (Bool) := aFn E w_FnExactSeeSides_fi k x

theorem w_toIntS_eq (k : Nat) (x0 : List Int) : w_toIntS (k + 1) x0 =
  bif decide (0 ≤ (x0.length : Int)) then
    (bif decide ((x0.length : Int) ≤ (rowMax : Int)) then
      (bif ((x0.length : Int) == (x0.length : Int)) then
        (w_toIntS_l3 k x0 (0 : Int) (List.replicate (x0.length : Int).toNat (0 : Int)))
      else (none))
    else (none))
  else (none) := by kernel_rfl
theorem w_toIntS_l3_eq (k : Nat) (v0 : List Int) (v4 : Int) (o100003 : List Int) : w_toIntS_l3 (k + 1) v0 v4 o100003 =
  bif decide (v4 < (v0.length : Int)) then
    (bif decide (0 ≤ v4) then
      (bif decide (v4 < (v0.length : Int)) then
        (bif decide (0 ≤ v4) then
          (bif decide (v4 < (o100003.length : Int)) then
            (bif decide (v4.toNat < o100003.length) then
              (w_toIntS_l3 k v0 (IntKind.i64.wrap (v4 + (1 : Int))) (o100003.set v4.toNat (v0.getD v4.toNat (0 : Int))))
            else (none))
          else (none))
        else (none))
      else (none))
    else (none))
  else (some o100003) := by kernel_rfl
theorem s_l01In_eq (k : Nat) (x0 : Int) (x1 : Int) (x2 : Int) : s_l01In (k + 1) (x0, x1, x2) =
  bif decide (x0 ≥ x1) then
    (some (decide (x0 ≤ x2)))
  else (some false) := by kernel_rfl
theorem s_l02Has_eq (k : Nat) (x0 : List Int) (x1 : Int) : s_l02Has (k + 1) (x0, x1) =
  s_l02Has_l2 k x1 x0 (x0.length : Int) (0 : Int) := by kernel_rfl
theorem s_l02Has_l2_eq (k : Nat) (v1 : Int) (v7 : List Int) (v8 : Int) (v9 : Int) : s_l02Has_l2 (k + 1) v1 v7 v8 v9 =
  bif decide (v9 < v8) then
    (bif decide (0 ≤ v9) then
      (bif decide (v9 < (v7.length : Int)) then
        (bif ((v7.getD v9.toNat (0 : Int)) == v1) then
          (some true)
        else (s_l02Has_l2 k v1 v7 v8 (IntKind.i64.wrap (v9 + (1 : Int)))))
      else (none))
    else (none))
  else (some false) := by kernel_rfl
theorem s_PermOk_eq (k : Nat) (x0 : List Int) : s_PermOk (k + 1) x0 =
  bif decide ((x0.length : Int) > (12 : Int)) then
    (some false)
  else (s_PermOk_l4 k x0 x0 (x0.length : Int) (0 : Int)) := by kernel_rfl
theorem s_PermOk_l4_eq (k : Nat) (v0 : List Int) (v8 : List Int) (v9 : Int) (v10 : Int) : s_PermOk_l4 (k + 1) v0 v8 v9 v10 =
  bif decide (v10 < v9) then
    (bif decide (0 ≤ v10) then
      (bif decide (v10 < (v8.length : Int)) then
        ((s_l01In k ((v8.getD v10.toNat (0 : Int)), ((0 : Int), (IntKind.i64.wrap ((v0.length : Int) - (1 : Int)))))).bind fun y1 =>
        bif (!y1) then
          (some false)
        else (bif decide (0 ≤ v10) then
            (bif decide (v10 ≤ (v0.length : Int)) then
              ((s_l02Has k (((v0.take v10.toNat).drop 0), (v8.getD v10.toNat (0 : Int)))).bind fun y2 =>
              bif y2 then
                (some false)
              else (s_PermOk_l4 k v0 v8 v9 (IntKind.i64.wrap (v10 + (1 : Int)))))
            else (none))
          else (none)))
      else (none))
    else (none))
  else (some true) := by kernel_rfl
theorem s_CardOf_eq (k : Nat) (x0 : Int) : s_CardOf (k + 1) x0 =
  (s_l01In k (x0, ((0 : Int), (11 : Int)))).bind fun y1 =>
  bif y1 then
    (some x0)
  else ((s_l01In k (x0, ((-12 : Int), (-1 : Int)))).bind fun y2 =>
    bif y2 then
      (some (IntKind.i64.wrap ((-1 : Int) - x0)))
    else (some (-1 : Int))) := by kernel_rfl
theorem s_PositionOf_eq (k : Nat) (x0 : List Int) (x1 : Int) : s_PositionOf (k + 1) (x0, x1) =
  s_PositionOf_l2 k x1 x0 (x0.length : Int) (0 : Int) := by kernel_rfl
theorem s_PositionOf_l2_eq (k : Nat) (v1 : Int) (v7 : List Int) (v8 : Int) (v9 : Int) : s_PositionOf_l2 (k + 1) v1 v7 v8 v9 =
  bif decide (v9 < v8) then
    (bif decide (0 ≤ v9) then
      (bif decide (v9 < (v7.length : Int)) then
        ((s_CardOf k (v7.getD v9.toNat (0 : Int))).bind fun y1 =>
        bif (y1 == v1) then
          (bif decide (v1 ≥ (0 : Int)) then
            (some v9)
          else (s_PositionOf_l2 k v1 v7 v8 (IntKind.i64.wrap (v9 + (1 : Int)))))
        else (s_PositionOf_l2 k v1 v7 v8 (IntKind.i64.wrap (v9 + (1 : Int)))))
      else (none))
    else (none))
  else (some (-1 : Int)) := by kernel_rfl
theorem s_RisingSequences_eq (k : Nat) (x0 : List Int) : s_RisingSequences (k + 1) x0 =
  (s_PermOk k x0).bind fun y1 =>
  bif (!y1) then
    (some [])
  else (s_RisingSequences_l6 k x0 (-1 : Int) (x0.length : Int) (0 : Int) ([] : List (List Int))) := by kernel_rfl
theorem s_RisingSequences_l6_eq (k : Nat) (v0 : List Int) (v4 : Int) (v12 : Int) (v13 : Int) (o450003 : List (List Int)) : s_RisingSequences_l6 (k + 1) v0 v4 v12 v13 o450003 =
  bif decide (v13 < v12) then
    ((s_PositionOf k (v0, v13)).bind fun y1 =>
    bif decide (y1 > v4) then
      (bif decide ((o450003.length : Int) > (0 : Int)) then
        (bif decide (0 ≤ (IntKind.i64.wrap ((o450003.length : Int) - (1 : Int)))) then
          (bif decide ((IntKind.i64.wrap ((o450003.length : Int) - (1 : Int))) < (o450003.length : Int)) then
            (bif decide ((IntKind.i64.wrap ((o450003.length : Int) - (1 : Int))).toNat < o450003.length) then
              (bif decide ((o450003.getD (IntKind.i64.wrap ((o450003.length : Int) - (1 : Int))).toNat []).length + [v13].length ≤ rowMax) then
                (bif decide (0 ≤ (IntKind.i64.wrap ((o450003.length : Int) - (1 : Int)))) then
                  (bif decide ((IntKind.i64.wrap ((o450003.length : Int) - (1 : Int))) < (o450003.length : Int)) then
                    (bif (Nat.beq ((IntKind.i64.wrap ((o450003.length : Int) - (1 : Int))).toNat) ((IntKind.i64.wrap ((o450003.length : Int) - (1 : Int))).toNat)) then
                      (s_RisingSequences_l6 k v0 y1 v12 (IntKind.i64.wrap (v13 + (1 : Int))) (o450003.set (IntKind.i64.wrap ((o450003.length : Int) - (1 : Int))).toNat ((o450003.getD (IntKind.i64.wrap ((o450003.length : Int) - (1 : Int))).toNat []) ++ [v13])))
                    else (none))
                  else (none))
                else (none))
              else (none))
            else (none))
          else (none))
        else (none))
      else (bif decide (o450003.length + ([[v13]]).length ≤ rowMax) then
          (s_RisingSequences_l6 k v0 y1 v12 (IntKind.i64.wrap (v13 + (1 : Int))) (o450003 ++ ([[v13]])))
        else (none)))
    else (bif decide (o450003.length + ([[v13]]).length ≤ rowMax) then
        (s_RisingSequences_l6 k v0 y1 v12 (IntKind.i64.wrap (v13 + (1 : Int))) (o450003 ++ ([[v13]])))
      else (none)))
  else (some o450003) := by kernel_rfl
theorem s_IsRiffle_eq (k : Nat) (x0 : List Int) : s_IsRiffle (k + 1) x0 =
  (s_PermOk k x0).bind fun y1 =>
  bif y1 then
    ((s_RisingSequences k x0).bind fun y2 =>
    some (decide ((y2.length : Int) ≤ (2 : Int))))
  else (some false) := by kernel_rfl
theorem s_l19Ok_eq (k : Nat) (x0 : Int) (x1 : List Int) : s_l19Ok (k + 1) (x0, x1) =
  (s_l01In k (x0, ((1 : Int), (12 : Int)))).bind fun y1 =>
  bif (!y1) then
    (some false)
  else (s_l19Ok_l4 k x0 x1 x1 (x1.length : Int) (0 : Int)) := by kernel_rfl
theorem s_l19Ok_l4_eq (k : Nat) (v0 : Int) (v1 : List Int) (v10 : List Int) (v11 : Int) (v12 : Int) : s_l19Ok_l4 (k + 1) v0 v1 v10 v11 v12 =
  bif decide (v12 < v11) then
    (bif decide (0 ≤ v12) then
      (bif decide (v12 < (v10.length : Int)) then
        ((s_l01In k ((v10.getD v12.toNat (0 : Int)), ((0 : Int), (IntKind.i64.wrap (v0 - (1 : Int)))))).bind fun y1 =>
        bif (!y1) then
          (some false)
        else (bif decide (0 ≤ v12) then
            (bif decide (v12 ≤ (v1.length : Int)) then
              ((s_l02Has k (((v1.take v12.toNat).drop 0), (v10.getD v12.toNat (0 : Int)))).bind fun y2 =>
              bif y2 then
                (some false)
              else (s_l19Ok_l4 k v0 v1 v10 v11 (IntKind.i64.wrap (v12 + (1 : Int)))))
            else (none))
          else (none)))
      else (none))
    else (none))
  else (some true) := by kernel_rfl
theorem s_l19Choose_eq (k : Nat) (x0 : Int) (x1 : Int) : s_l19Choose (k + 1) (x0, x1) =
  s_l19Choose_l3 k x0 x1 (1 : Int) (1 : Int) := by kernel_rfl
theorem s_l19Choose_l3_eq (k : Nat) (v0 : Int) (v1 : Int) (v5 : Int) (v6 : Int) : s_l19Choose_l3 (k + 1) v0 v1 v5 v6 =
  bif decide (v6 ≤ v1) then
    (bif (!(v6 == 0)) then
      (s_l19Choose_l3 k v0 v1 (IntKind.i64.wrap ((IntKind.i64.wrap (v5 * (IntKind.i64.wrap ((IntKind.i64.wrap (v0 - v1)) + v6)))).tdiv v6)) (IntKind.i64.wrap (v6 + (1 : Int))))
    else (none))
  else (some v5) := by kernel_rfl
theorem s_l19Ways_eq (k : Nat) (x0 : Int) (x1 : Int) (x2 : List Int) : s_l19Ways (k + 1) (x0, x1, x2) =
  s_l19Ways_l4 k x0 x1 x2 (0 : Int) x1 x2 (x2.length : Int) (0 : Int) := by kernel_rfl
theorem s_l19Ways_l4_eq (k : Nat) (v0 : Int) (v1 : Int) (v2 : List Int) (v7 : Int) (v8 : Int) (v12 : List Int) (v13 : Int) (v14 : Int) : s_l19Ways_l4 (k + 1) v0 v1 v2 v7 v8 v12 v13 v14 =
  bif decide (v14 < v13) then
    (bif decide (0 ≤ v14) then
      (bif decide (v14 < (v12.length : Int)) then
        (bif ((v12.getD v14.toNat (0 : Int)) == v7) then
          (bif decide (v7 < v1) then
            (s_l19Ways_l4 k v0 v1 v2 (IntKind.i64.wrap (v7 + (1 : Int))) v8 v12 v13 (IntKind.i64.wrap (v14 + (1 : Int))))
          else (bif ((v12.getD v14.toNat (0 : Int)) == v8) then
              (bif decide (v8 < v0) then
                (s_l19Ways_l4 k v0 v1 v2 v7 (IntKind.i64.wrap (v8 + (1 : Int))) v12 v13 (IntKind.i64.wrap (v14 + (1 : Int))))
              else (some (0 : Int)))
            else (some (0 : Int))))
        else (bif ((v12.getD v14.toNat (0 : Int)) == v8) then
            (bif decide (v8 < v0) then
              (s_l19Ways_l4 k v0 v1 v2 v7 (IntKind.i64.wrap (v8 + (1 : Int))) v12 v13 (IntKind.i64.wrap (v14 + (1 : Int))))
            else (some (0 : Int)))
          else (some (0 : Int))))
      else (none))
    else (none))
  else ((s_l19Choose k ((IntKind.i64.wrap (v0 - (v2.length : Int))), (IntKind.i64.wrap (v1 - v7)))).bind fun y1 =>
    some y1) := by kernel_rfl
theorem s_WaysWith_eq (k : Nat) (x0 : Int) (x1 : List Int) : s_WaysWith (k + 1) (x0, x1) =
  (s_l19Ok k (x0, x1)).bind fun y1 =>
  bif (!y1) then
    (some (-1 : Int))
  else (s_WaysWith_l5 k x0 x1 (0 : Int) (0 : Int)) := by kernel_rfl
theorem s_WaysWith_l5_eq (k : Nat) (v0 : Int) (v1 : List Int) (v5 : Int) (v6 : Int) : s_WaysWith_l5 (k + 1) v0 v1 v5 v6 =
  bif decide (v6 ≤ v0) then
    ((s_l19Ways k (v0, (v6, v1))).bind fun y1 =>
    s_WaysWith_l5 k v0 v1 (IntKind.i64.wrap (v5 + y1)) (IntKind.i64.wrap (v6 + (1 : Int))))
  else (some v5) := by kernel_rfl
theorem s_NextWays_eq (k : Nat) (x0 : Int) (x1 : List Int) : s_NextWays (k + 1) (x0, x1) =
  (s_l19Ok k (x0, x1)).bind fun y1 =>
  bif (!y1) then
    (some [])
  else (bif ((x1.length : Int) == x0) then
      (some [])
    else (s_NextWays_l5 k x0 x1 (0 : Int) ([] : List Int))) := by kernel_rfl
theorem s_NextWays_l5_eq (k : Nat) (v0 : Int) (v1 : List Int) (v6 : Int) (o100005 : List Int) : s_NextWays_l5 (k + 1) v0 v1 v6 o100005 =
  bif decide (v6 < v0) then
    ((s_l02Has k (v1, v6)).bind fun y1 =>
    bif y1 then
      (bif decide (o100005.length + [(0 : Int)].length ≤ rowMax) then
        (s_NextWays_l5 k v0 v1 (IntKind.i64.wrap (v6 + (1 : Int))) (o100005 ++ [(0 : Int)]))
      else (none))
    else (bif decide (([] : List Int).length + v1.length ≤ rowMax) then
        (bif decide ((([] : List Int) ++ v1).length + [v6].length ≤ rowMax) then
          ((s_WaysWith k (v0, ((([] : List Int) ++ v1) ++ [v6]))).bind fun y2 =>
          bif decide (o100005.length + [y2].length ≤ rowMax) then
            (s_NextWays_l5 k v0 v1 (IntKind.i64.wrap (v6 + (1 : Int))) (o100005 ++ [y2]))
          else (none))
        else (none))
      else (none)))
  else (bif (!o100005.isEmpty) then
      (some o100005)
    else (none)) := by kernel_rfl
theorem s_BestGuess_eq (k : Nat) (x0 : Int) (x1 : List Int) : s_BestGuess (k + 1) (x0, x1) =
  (s_NextWays k (x0, x1)).bind fun y1 =>
  s_BestGuess_l4 k (-1 : Int) (0 : Int) (y1.length : Int) (0 : Int) y1 := by kernel_rfl
theorem s_BestGuess_l4_eq (k : Nat) (v5 : Int) (v6 : Int) (v12 : Int) (v13 : Int) (o100011 : List Int) : s_BestGuess_l4 (k + 1) v5 v6 v12 v13 o100011 =
  bif decide (v13 < v12) then
    (bif decide (0 ≤ v13) then
      (bif decide (v13 < (o100011.length : Int)) then
        (bif decide (v13.toNat < o100011.length) then
          (bif decide ((o100011.getD v13.toNat (0 : Int)) > v6) then
            (s_BestGuess_l4 k v13 (o100011.getD v13.toNat (0 : Int)) v12 (IntKind.i64.wrap (v13 + (1 : Int))) o100011)
          else (s_BestGuess_l4 k v5 v6 v12 (IntKind.i64.wrap (v13 + (1 : Int))) o100011))
        else (none))
      else (none))
    else (none))
  else (some v5) := by kernel_rfl
theorem s_GuessRun_eq (k : Nat) (x0 : List Int) : s_GuessRun (k + 1) x0 =
  (s_IsRiffle k x0).bind fun y1 =>
  bif (!y1) then
    (some (-1 : Int))
  else ((s_l01In k ((x0.length : Int), ((1 : Int), (8 : Int)))).bind fun y2 =>
    bif (!y2) then
      (some (-1 : Int))
    else (s_GuessRun_l5 k x0 (0 : Int) x0 (x0.length : Int) (0 : Int))) := by kernel_rfl
theorem s_GuessRun_l5_eq (k : Nat) (v0 : List Int) (v3 : Int) (v15 : List Int) (v16 : Int) (v17 : Int) : s_GuessRun_l5 (k + 1) v0 v3 v15 v16 v17 =
  bif decide (v17 < v16) then
    (bif decide (0 ≤ v17) then
      (bif decide (v17 < (v15.length : Int)) then
        (bif decide (0 ≤ v17) then
          (bif decide (v17 ≤ (v0.length : Int)) then
            ((s_BestGuess k ((v0.length : Int), ((v0.take v17.toNat).drop 0))).bind fun y1 =>
            bif (y1 == (v15.getD v17.toNat (0 : Int))) then
              (s_GuessRun_l5 k v0 (IntKind.i64.wrap (v3 + (1 : Int))) v15 v16 (IntKind.i64.wrap (v17 + (1 : Int))))
            else (s_GuessRun_l5 k v0 v3 v15 v16 (IntKind.i64.wrap (v17 + (1 : Int)))))
          else (none))
        else (none))
      else (none))
    else (none))
  else (some v3) := by kernel_rfl
theorem slices_Index_int_eq (k : Nat) (x0 : List Int) (x1 : Int) : slices_Index_int (k + 1) (x0, x1) =
  slices_Index_int_l2 k x0 x1 (x0.length : Int) (0 : Int) := by kernel_rfl
theorem slices_Index_int_l2_eq (k : Nat) (v0 : List Int) (v1 : Int) (v7 : Int) (v8 : Int) : slices_Index_int_l2 (k + 1) v0 v1 v7 v8 =
  bif decide (v8 < v7) then
    (bif decide (0 ≤ v8) then
      (bif decide (v8 < (v0.length : Int)) then
        (bif (v1 == (v0.getD v8.toNat (0 : Int))) then
          (some v8)
        else (slices_Index_int_l2 k v0 v1 v7 (IntKind.i64.wrap (v8 + (1 : Int)))))
      else (none))
    else (none))
  else (some (-1 : Int)) := by kernel_rfl
theorem slices_Contains_int_eq (k : Nat) (x0 : List Int) (x1 : Int) : slices_Contains_int (k + 1) (x0, x1) =
  (slices_Index_int k (x0, x1)).bind fun y1 =>
  some (decide (y1 ≥ (0 : Int))) := by kernel_rfl
theorem i_PermOk_eq (k : Nat) (x0 : List Int) : i_PermOk (k + 1) x0 =
  i_PermOk_l2 k x0 x0 (x0.length : Int) (0 : Int) := by kernel_rfl
theorem i_PermOk_l2_eq (k : Nat) (v0 : List Int) (v5 : List Int) (v6 : Int) (v7 : Int) : i_PermOk_l2 (k + 1) v0 v5 v6 v7 =
  bif decide (v7 < v6) then
    (bif decide (0 ≤ v7) then
      (bif decide (v7 < (v5.length : Int)) then
        (bif decide ((v5.getD v7.toNat (0 : Int)) < (0 : Int)) then
          (some false)
        else (bif decide ((v5.getD v7.toNat (0 : Int)) ≥ (v0.length : Int)) then
            (some false)
          else (bif decide (0 ≤ v7) then
              (bif decide (v7 ≤ (v0.length : Int)) then
                ((slices_Contains_int k (((v0.take v7.toNat).drop 0), (v5.getD v7.toNat (0 : Int)))).bind fun y1 =>
                bif y1 then
                  (some false)
                else (i_PermOk_l2 k v0 v5 v6 (IntKind.i64.wrap (v7 + (1 : Int)))))
              else (none))
            else (none))))
      else (none))
    else (none))
  else (some (decide ((v0.length : Int) ≤ (12 : Int)))) := by kernel_rfl
theorem i_inverse_eq (k : Nat) (x0 : List Int) : i_inverse (k + 1) x0 =
  bif decide (0 ≤ (x0.length : Int)) then
    (bif decide ((x0.length : Int) ≤ (rowMax : Int)) then
      (bif ((x0.length : Int) == (x0.length : Int)) then
        (i_inverse_l3 k x0 (x0.length : Int) (0 : Int) (List.replicate (x0.length : Int).toNat (0 : Int)))
      else (none))
    else (none))
  else (none) := by kernel_rfl
theorem i_inverse_l3_eq (k : Nat) (v9 : List Int) (v10 : Int) (v11 : Int) (o100003 : List Int) : i_inverse_l3 (k + 1) v9 v10 v11 o100003 =
  bif decide (v11 < v10) then
    (bif decide (0 ≤ v11) then
      (bif decide (v11 < (v9.length : Int)) then
        (bif decide (0 ≤ (v9.getD v11.toNat (0 : Int))) then
          (bif decide ((v9.getD v11.toNat (0 : Int)) < (o100003.length : Int)) then
            (bif decide ((v9.getD v11.toNat (0 : Int)).toNat < o100003.length) then
              (i_inverse_l3 k v9 v10 (IntKind.i64.wrap (v11 + (1 : Int))) (o100003.set (v9.getD v11.toNat (0 : Int)).toNat v11))
            else (none))
          else (none))
        else (none))
      else (none))
    else (none))
  else (some o100003) := by kernel_rfl
theorem i_RisingSequences_eq (k : Nat) (x0 : List Int) : i_RisingSequences (k + 1) x0 =
  (i_PermOk k x0).bind fun y1 =>
  bif (!y1) then
    (some [])
  else ((i_inverse k x0).bind fun y2 =>
    i_RisingSequences_l6 k (x0.length : Int) (0 : Int) [] y2) := by kernel_rfl
theorem i_RisingSequences_l6_eq (k : Nat) (v12 : Int) (v13 : Int) (o450003 : List (List Int)) (o100004 : List Int) : i_RisingSequences_l6 (k + 1) v12 v13 o450003 o100004 =
  bif decide (v13 < v12) then
    (bif (v13 == (0 : Int)) then
      (bif decide (o450003.length + ([[]] : List (List Int)).length ≤ rowMax) then
        (bif decide (0 ≤ (IntKind.i64.wrap (((o450003 ++ ([[]])).length : Int) - (1 : Int)))) then
          (bif decide ((IntKind.i64.wrap (((o450003 ++ ([[]])).length : Int) - (1 : Int))) < ((o450003 ++ ([[]])).length : Int)) then
            (bif decide ((IntKind.i64.wrap (((o450003 ++ ([[]])).length : Int) - (1 : Int))).toNat < (o450003 ++ ([[]])).length) then
              (bif decide (((o450003 ++ ([[]])).getD (IntKind.i64.wrap (((o450003 ++ ([[]])).length : Int) - (1 : Int))).toNat []).length + [v13].length ≤ rowMax) then
                (bif decide (0 ≤ (IntKind.i64.wrap (((o450003 ++ ([[]])).length : Int) - (1 : Int)))) then
                  (bif decide ((IntKind.i64.wrap (((o450003 ++ ([[]])).length : Int) - (1 : Int))) < ((o450003 ++ ([[]])).length : Int)) then
                    (bif (Nat.beq ((IntKind.i64.wrap (((o450003 ++ ([[]])).length : Int) - (1 : Int))).toNat) ((IntKind.i64.wrap (((o450003 ++ ([[]])).length : Int) - (1 : Int))).toNat)) then
                      (i_RisingSequences_l6 k v12 (IntKind.i64.wrap (v13 + (1 : Int))) ((o450003 ++ ([[]])).set (IntKind.i64.wrap (((o450003 ++ ([[]])).length : Int) - (1 : Int))).toNat (((o450003 ++ ([[]])).getD (IntKind.i64.wrap (((o450003 ++ ([[]])).length : Int) - (1 : Int))).toNat []) ++ [v13])) o100004)
                    else (none))
                  else (none))
                else (none))
              else (none))
            else (none))
          else (none))
        else (none))
      else (none))
    else (bif decide (0 ≤ v13) then
        (bif decide (v13 < (o100004.length : Int)) then
          (bif decide (v13.toNat < o100004.length) then
            (bif decide (0 ≤ (IntKind.i64.wrap (v13 - (1 : Int)))) then
              (bif decide ((IntKind.i64.wrap (v13 - (1 : Int))) < (o100004.length : Int)) then
                (bif decide ((IntKind.i64.wrap (v13 - (1 : Int))).toNat < o100004.length) then
                  (bif decide ((o100004.getD v13.toNat (0 : Int)) < (o100004.getD (IntKind.i64.wrap (v13 - (1 : Int))).toNat (0 : Int))) then
                    (bif decide (o450003.length + ([[]] : List (List Int)).length ≤ rowMax) then
                      (bif decide (0 ≤ (IntKind.i64.wrap (((o450003 ++ ([[]])).length : Int) - (1 : Int)))) then
                        (bif decide ((IntKind.i64.wrap (((o450003 ++ ([[]])).length : Int) - (1 : Int))) < ((o450003 ++ ([[]])).length : Int)) then
                          (bif decide ((IntKind.i64.wrap (((o450003 ++ ([[]])).length : Int) - (1 : Int))).toNat < (o450003 ++ ([[]])).length) then
                            (bif decide (((o450003 ++ ([[]])).getD (IntKind.i64.wrap (((o450003 ++ ([[]])).length : Int) - (1 : Int))).toNat []).length + [v13].length ≤ rowMax) then
                              (bif decide (0 ≤ (IntKind.i64.wrap (((o450003 ++ ([[]])).length : Int) - (1 : Int)))) then
                                (bif decide ((IntKind.i64.wrap (((o450003 ++ ([[]])).length : Int) - (1 : Int))) < ((o450003 ++ ([[]])).length : Int)) then
                                  (bif (Nat.beq ((IntKind.i64.wrap (((o450003 ++ ([[]])).length : Int) - (1 : Int))).toNat) ((IntKind.i64.wrap (((o450003 ++ ([[]])).length : Int) - (1 : Int))).toNat)) then
                                    (i_RisingSequences_l6 k v12 (IntKind.i64.wrap (v13 + (1 : Int))) ((o450003 ++ ([[]])).set (IntKind.i64.wrap (((o450003 ++ ([[]])).length : Int) - (1 : Int))).toNat (((o450003 ++ ([[]])).getD (IntKind.i64.wrap (((o450003 ++ ([[]])).length : Int) - (1 : Int))).toNat []) ++ [v13])) o100004)
                                  else (none))
                                else (none))
                              else (none))
                            else (none))
                          else (none))
                        else (none))
                      else (none))
                    else (none))
                  else (bif decide (0 ≤ (IntKind.i64.wrap ((o450003.length : Int) - (1 : Int)))) then
                      (bif decide ((IntKind.i64.wrap ((o450003.length : Int) - (1 : Int))) < (o450003.length : Int)) then
                        (bif decide ((IntKind.i64.wrap ((o450003.length : Int) - (1 : Int))).toNat < o450003.length) then
                          (bif decide ((o450003.getD (IntKind.i64.wrap ((o450003.length : Int) - (1 : Int))).toNat []).length + [v13].length ≤ rowMax) then
                            (bif decide (0 ≤ (IntKind.i64.wrap ((o450003.length : Int) - (1 : Int)))) then
                              (bif decide ((IntKind.i64.wrap ((o450003.length : Int) - (1 : Int))) < (o450003.length : Int)) then
                                (bif (Nat.beq ((IntKind.i64.wrap ((o450003.length : Int) - (1 : Int))).toNat) ((IntKind.i64.wrap ((o450003.length : Int) - (1 : Int))).toNat)) then
                                  (i_RisingSequences_l6 k v12 (IntKind.i64.wrap (v13 + (1 : Int))) (o450003.set (IntKind.i64.wrap ((o450003.length : Int) - (1 : Int))).toNat ((o450003.getD (IntKind.i64.wrap ((o450003.length : Int) - (1 : Int))).toNat []) ++ [v13])) o100004)
                                else (none))
                              else (none))
                            else (none))
                          else (none))
                        else (none))
                      else (none))
                    else (none)))
                else (none))
              else (none))
            else (none))
          else (none))
        else (none))
      else (none)))
  else (some o450003) := by kernel_rfl
theorem i_IsRiffle_eq (k : Nat) (x0 : List Int) : i_IsRiffle (k + 1) x0 =
  (i_PermOk k x0).bind fun y1 =>
  bif y1 then
    ((i_RisingSequences k x0).bind fun y2 =>
    some (decide ((y2.length : Int) ≤ (2 : Int))))
  else (some false) := by kernel_rfl
theorem i_isPrefix_eq (k : Nat) (x0 : Int) (x1 : List Int) : i_isPrefix (k + 1) (x0, x1) =
  bif decide (x0 < (1 : Int)) then
    (some false)
  else (bif decide (x0 > (12 : Int)) then
      (some false)
    else (i_isPrefix_l4 k x0 x1 x1 (x1.length : Int) (0 : Int))) := by kernel_rfl
theorem i_isPrefix_l4_eq (k : Nat) (v0 : Int) (v1 : List Int) (v13 : List Int) (v14 : Int) (v15 : Int) : i_isPrefix_l4 (k + 1) v0 v1 v13 v14 v15 =
  bif decide (v15 < v14) then
    (bif decide (0 ≤ v15) then
      (bif decide (v15 < (v13.length : Int)) then
        (bif decide ((v13.getD v15.toNat (0 : Int)) < (0 : Int)) then
          (some false)
        else (bif decide ((v13.getD v15.toNat (0 : Int)) ≥ v0) then
            (some false)
          else (bif decide (0 ≤ v15) then
              (bif decide (v15 ≤ (v1.length : Int)) then
                ((slices_Contains_int k (((v1.take v15.toNat).drop 0), (v13.getD v15.toNat (0 : Int)))).bind fun y1 =>
                bif y1 then
                  (some false)
                else (i_isPrefix_l4 k v0 v1 v13 v14 (IntKind.i64.wrap (v15 + (1 : Int)))))
              else (none))
            else (none))))
      else (none))
    else (none))
  else (some true) := by kernel_rfl
theorem i_upTo_eq (k : Nat) (x0 : Int) : i_upTo (k + 1) x0 =
  i_upTo_l3 k x0 (0 : Int) [] := by kernel_rfl
theorem i_upTo_l3_eq (k : Nat) (v0 : Int) (v4 : Int) (o100003 : List Int) : i_upTo_l3 (k + 1) v0 v4 o100003 =
  bif decide (v4 < v0) then
    (bif decide (o100003.length + [v4].length ≤ rowMax) then
      (i_upTo_l3 k v0 (IntKind.i64.wrap (v4 + (1 : Int))) (o100003 ++ [v4]))
    else (none))
  else (some o100003) := by kernel_rfl
theorem i_riffled_eq (k : Nat) (x0 : List Int) (x1 : Int) : i_riffled (k + 1) (x0, x1) =
  i_riffled_l3 k x0 x1 (0 : Int) (0 : Int) (x0.length : Int) (0 : Int) := by kernel_rfl
theorem i_riffled_l3_eq (k : Nat) (v0 : List Int) (v1 : Int) (v5 : Int) (v6 : Int) (v11 : Int) (v12 : Int) : i_riffled_l3 (k + 1) v0 v1 v5 v6 v11 v12 =
  bif decide (v12 < v11) then
    (bif decide (0 ≤ v12) then
      (i_riffled_l3 k v0 v1 v5 (IntKind.i64.wrap (v6 + (IntKind.i64.wrap ((1 : Int) - (IntKind.i64.wrap (((BitVec.ofInt IntKind.i64.bits (v1.fdiv (2 ^ (min v12.toNat IntKind.i64.bits))) &&& BitVec.ofInt IntKind.i64.bits (1 : Int)).toNat : Int))))))) v11 (IntKind.i64.wrap (v12 + (1 : Int))))
    else (none))
  else (i_riffled_l9 k v0 v1 v5 v6 (v0.length : Int) (0 : Int) []) := by kernel_rfl
theorem i_riffled_l9_eq (k : Nat) (v0 : List Int) (v1 : Int) (v5 : Int) (v6 : Int) (v24 : Int) (v25 : Int) (o100008 : List Int) : i_riffled_l9 (k + 1) v0 v1 v5 v6 v24 v25 o100008 =
  bif decide (v25 < v24) then
    (bif decide (0 ≤ v25) then
      (bif ((IntKind.i64.wrap (((BitVec.ofInt IntKind.i64.bits (v1.fdiv (2 ^ (min v25.toNat IntKind.i64.bits))) &&& BitVec.ofInt IntKind.i64.bits (1 : Int)).toNat : Int))) == (1 : Int)) then
        (bif decide (0 ≤ v6) then
          (bif decide (v6 < (v0.length : Int)) then
            (bif decide (o100008.length + [(v0.getD v6.toNat (0 : Int))].length ≤ rowMax) then
              (i_riffled_l9 k v0 v1 v5 (IntKind.i64.wrap (v6 + (1 : Int))) v24 (IntKind.i64.wrap (v25 + (1 : Int))) (o100008 ++ [(v0.getD v6.toNat (0 : Int))]))
            else (none))
          else (none))
        else (none))
      else (bif decide (0 ≤ v5) then
          (bif decide (v5 < (v0.length : Int)) then
            (bif decide (o100008.length + [(v0.getD v5.toNat (0 : Int))].length ≤ rowMax) then
              (i_riffled_l9 k v0 v1 (IntKind.i64.wrap (v5 + (1 : Int))) v6 v24 (IntKind.i64.wrap (v25 + (1 : Int))) (o100008 ++ [(v0.getD v5.toNat (0 : Int))]))
            else (none))
          else (none))
        else (none)))
    else (none))
  else (some o100008) := by kernel_rfl
theorem slices_Equal_int_eq (k : Nat) (x0 : List Int) (x1 : List Int) : slices_Equal_int (k + 1) (x0, x1) =
  bif (!((x0.length : Int) == (x1.length : Int))) then
    (some false)
  else (slices_Equal_int_l4 k x0 x1 (x0.length : Int) (0 : Int)) := by kernel_rfl
theorem slices_Equal_int_l4_eq (k : Nat) (v0 : List Int) (v1 : List Int) (v12 : Int) (v13 : Int) : slices_Equal_int_l4 (k + 1) v0 v1 v12 v13 =
  bif decide (v13 < v12) then
    (bif decide (0 ≤ v13) then
      (bif decide (v13 < (v0.length : Int)) then
        (bif decide (0 ≤ v13) then
          (bif decide (v13 < (v1.length : Int)) then
            (bif (!((v0.getD v13.toNat (0 : Int)) == (v1.getD v13.toNat (0 : Int)))) then
              (some false)
            else (slices_Equal_int_l4 k v0 v1 v12 (IntKind.i64.wrap (v13 + (1 : Int)))))
          else (none))
        else (none))
      else (none))
    else (none))
  else (some true) := by kernel_rfl
theorem i_NextWays_eq (k : Nat) (x0 : Int) (x1 : List Int) : i_NextWays (k + 1) (x0, x1) =
  (i_isPrefix k (x0, x1)).bind fun y1 =>
  bif (!y1) then
    (some [])
  else (bif ((x1.length : Int) == x0) then
      (some [])
    else ((i_upTo k x0).bind fun y2 =>
      bif decide (0 ≤ x0) then
        (bif decide (x0 ≤ (rowMax : Int)) then
          (bif (x0 == x0) then
            (i_NextWays_l5 k x0 x1 (0 : Int) y2 (List.replicate x0.toNat (0 : Int)))
          else (none))
        else (none))
      else (none))) := by kernel_rfl
theorem i_NextWays_l5_eq (k : Nat) (v0 : Int) (v1 : List Int) (v7 : Int) (o100005 : List Int) (o100006 : List Int) : i_NextWays_l5 (k + 1) v0 v1 v7 o100005 o100006 =
  bif decide (0 ≤ v0) then
    (bif decide (v7 < (IntKind.i64.wrap ((1 : Int) * 2 ^ (min v0.toNat IntKind.i64.bits)))) then
      ((i_riffled k (o100005, v7)).bind fun y1 =>
      bif decide (0 ≤ (v1.length : Int)) then
        (bif decide ((v1.length : Int) ≤ (y1.length : Int)) then
          ((slices_Equal_int k (((y1.take (v1.length : Int).toNat).drop 0), v1)).bind fun y2 =>
          bif y2 then
            (bif decide (0 ≤ (v1.length : Int)) then
              (bif decide ((v1.length : Int) < (y1.length : Int)) then
                (bif decide (0 ≤ (y1.getD (v1.length : Int).toNat (0 : Int))) then
                  (bif decide ((y1.getD (v1.length : Int).toNat (0 : Int)) < (o100006.length : Int)) then
                    (bif decide ((y1.getD (v1.length : Int).toNat (0 : Int)).toNat < o100006.length) then
                      (bif decide (0 ≤ (y1.getD (v1.length : Int).toNat (0 : Int))) then
                        (bif decide ((y1.getD (v1.length : Int).toNat (0 : Int)) < (o100006.length : Int)) then
                          (bif decide ((y1.getD (v1.length : Int).toNat (0 : Int)).toNat < o100006.length) then
                            (i_NextWays_l5 k v0 v1 (IntKind.i64.wrap (v7 + (1 : Int))) o100005 (o100006.set (y1.getD (v1.length : Int).toNat (0 : Int)).toNat (IntKind.i64.wrap ((o100006.getD (y1.getD (v1.length : Int).toNat (0 : Int)).toNat (0 : Int)) + (1 : Int)))))
                          else (none))
                        else (none))
                      else (none))
                    else (none))
                  else (none))
                else (none))
              else (none))
            else (none))
          else (i_NextWays_l5 k v0 v1 (IntKind.i64.wrap (v7 + (1 : Int))) o100005 o100006))
        else (none))
      else (none))
    else (bif (!o100006.isEmpty) then
        (some o100006)
      else (none)))
  else (none) := by kernel_rfl
theorem slices_Max_int_eq (k : Nat) (x0 : List Int) : slices_Max_int (k + 1) x0 =
  bif decide ((x0.length : Int) < (1 : Int)) then
    (none)
  else (bif decide ((0 : Int) < (x0.length : Int)) then
      (slices_Max_int_l5 k x0 (x0.getD 0 (0 : Int)) (1 : Int))
    else (none)) := by kernel_rfl
theorem slices_Max_int_l5_eq (k : Nat) (v0 : List Int) (v3 : Int) (v4 : Int) : slices_Max_int_l5 (k + 1) v0 v3 v4 =
  bif decide (v4 < (v0.length : Int)) then
    (bif decide (0 ≤ v4) then
      (bif decide (v4 < (v0.length : Int)) then
        (slices_Max_int_l5 k v0 (bif decide ((v0.getD v4.toNat (0 : Int)) > v3) then (v0.getD v4.toNat (0 : Int)) else v3) (IntKind.i64.wrap (v4 + (1 : Int))))
      else (none))
    else (none))
  else (some v3) := by kernel_rfl
theorem i_BestGuess_eq (k : Nat) (x0 : Int) (x1 : List Int) : i_BestGuess (k + 1) (x0, x1) =
  (i_NextWays k (x0, x1)).bind fun y1 =>
  bif y1.isEmpty then
    (some (-1 : Int))
  else ((slices_Max_int k y1).bind fun y2 =>
    bif (y2 == (0 : Int)) then
      (some (-1 : Int))
    else ((slices_Max_int k y1).bind fun y3 =>
      (slices_Index_int k (y1, y3)).bind fun y4 =>
      some y4)) := by kernel_rfl
theorem i_GuessRun_eq (k : Nat) (x0 : List Int) : i_GuessRun (k + 1) x0 =
  (i_IsRiffle k x0).bind fun y1 =>
  bif (!y1) then
    (some (-1 : Int))
  else (bif decide ((x0.length : Int) < (1 : Int)) then
      (some (-1 : Int))
    else (bif decide ((x0.length : Int) > (8 : Int)) then
        (some (-1 : Int))
      else (i_GuessRun_l5 k x0 (0 : Int) x0 (x0.length : Int) (0 : Int)))) := by kernel_rfl
theorem i_GuessRun_l5_eq (k : Nat) (v0 : List Int) (v3 : Int) (v19 : List Int) (v20 : Int) (v21 : Int) : i_GuessRun_l5 (k + 1) v0 v3 v19 v20 v21 =
  bif decide (v21 < v20) then
    (bif decide (0 ≤ v21) then
      (bif decide (v21 < (v19.length : Int)) then
        (bif decide (0 ≤ v21) then
          (bif decide (v21 ≤ (v0.length : Int)) then
            ((i_BestGuess k ((v0.length : Int), ((v0.take v21.toNat).drop 0))).bind fun y1 =>
            bif (y1 == (v19.getD v21.toNat (0 : Int))) then
              (i_GuessRun_l5 k v0 (IntKind.i64.wrap (v3 + (1 : Int))) v19 v20 (IntKind.i64.wrap (v21 + (1 : Int))))
            else (i_GuessRun_l5 k v0 v3 v19 v20 (IntKind.i64.wrap (v21 + (1 : Int)))))
          else (none))
        else (none))
      else (none))
    else (none))
  else (some v3) := by kernel_rfl
theorem w_eqIntS_eq (k : Nat) (x0 : List Int) (x1 : List Int) : w_eqIntS (k + 1) (x0, x1) =
  bif (!((x0.length : Int) == (x1.length : Int))) then
    (some false)
  else (w_eqIntS_l4 k x0 x1 (0 : Int)) := by kernel_rfl
theorem w_eqIntS_l4_eq (k : Nat) (v0 : List Int) (v1 : List Int) (v5 : Int) : w_eqIntS_l4 (k + 1) v0 v1 v5 =
  bif decide (v5 < (v0.length : Int)) then
    (bif decide (0 ≤ v5) then
      (bif decide (v5 < (v0.length : Int)) then
        (bif decide (0 ≤ v5) then
          (bif decide (v5 < (v1.length : Int)) then
            (bif (!((v0.getD v5.toNat (0 : Int)) == (v1.getD v5.toNat (0 : Int)))) then
              (some false)
            else (w_eqIntS_l4 k v0 v1 (IntKind.i64.wrap (v5 + (1 : Int)))))
          else (none))
        else (none))
      else (none))
    else (none))
  else (some true) := by kernel_rfl
theorem w_FnExactGuessRun_eq (k : Nat) (x0 : List Int) : w_FnExactGuessRun (k + 1) x0 =
  bif decide ((x0.length : Int) > (1048576 : Int)) then
    (some true)
  else ((w_toIntS k x0).bind fun y1 =>
    (s_GuessRun k y1).bind fun y2 =>
    (w_toIntS k x0).bind fun y3 =>
    (i_GuessRun k y3).bind fun y4 =>
    bif (!(y4 == y2)) then
      (some false)
    else ((w_toIntS k x0).bind fun y5 =>
      (w_eqIntS k (y3, y5)).bind fun y6 =>
      bif (!y6) then
        (some false)
      else (some true))) := by kernel_rfl
theorem w_szIntS_eq (k : Nat) (x0 : List Int) (x1 : Int) : w_szIntS (k + 1) (x0, x1) =
  bif decide ((IntKind.i64.wrap (x1 - (x0.length : Int))) < (0 : Int)) then
    (some (-1 : Int))
  else (some (IntKind.i64.wrap (x1 - (x0.length : Int)))) := by kernel_rfl
theorem w_szIntSS_eq (k : Nat) (x0 : List (List Int)) (x1 : Int) : w_szIntSS (k + 1) (x0, x1) =
  bif decide ((IntKind.i64.wrap (x1 - (x0.length : Int))) < (0 : Int)) then
    (some (-1 : Int))
  else (w_szIntSS_l5 k x0 (IntKind.i64.wrap (x1 - (x0.length : Int))) (0 : Int)) := by kernel_rfl
theorem w_szIntSS_l5_eq (k : Nat) (v0 : List (List Int)) (v1 : Int) (v5 : Int) : w_szIntSS_l5 (k + 1) v0 v1 v5 =
  bif decide (v5 < (v0.length : Int)) then
    (bif decide (0 ≤ v5) then
      (bif decide (v5 < (v0.length : Int)) then
        ((w_szIntS k ((v0.getD v5.toNat []), v1)).bind fun y1 =>
        bif decide (y1 < (0 : Int)) then
          (some (-1 : Int))
        else (w_szIntSS_l5 k v0 y1 (IntKind.i64.wrap (v5 + (1 : Int)))))
      else (none))
    else (none))
  else (some v1) := by kernel_rfl
theorem w_toIntSS_eq (k : Nat) (x0 : List (List Int)) : w_toIntSS (k + 1) x0 =
  bif decide (0 ≤ (x0.length : Int)) then
    (bif decide ((x0.length : Int) ≤ (rowMax : Int)) then
      (bif ((x0.length : Int) == (x0.length : Int)) then
        (w_toIntSS_l3 k x0 (0 : Int) (List.replicate (x0.length : Int).toNat []))
      else (none))
    else (none))
  else (none) := by kernel_rfl
theorem w_toIntSS_l3_eq (k : Nat) (v0 : List (List Int)) (v4 : Int) (o100003 : List (List Int)) : w_toIntSS_l3 (k + 1) v0 v4 o100003 =
  bif decide (v4 < (v0.length : Int)) then
    (bif decide (0 ≤ v4) then
      (bif decide (v4 < (v0.length : Int)) then
        ((w_toIntS k (v0.getD v4.toNat [])).bind fun y1 =>
        bif decide (0 ≤ v4) then
          (bif decide (v4 < (o100003.length : Int)) then
            (bif decide (v4.toNat < o100003.length) then
              (w_toIntSS_l3 k v0 (IntKind.i64.wrap (v4 + (1 : Int))) (o100003.set v4.toNat y1))
            else (none))
          else (none))
        else (none))
      else (none))
    else (none))
  else (some o100003) := by kernel_rfl
theorem s_PacketOk_eq (k : Nat) (x0 : List Int) : s_PacketOk (k + 1) x0 =
  bif decide ((x0.length : Int) > (12 : Int)) then
    (some false)
  else (s_PacketOk_l5 k x0 (x0.length : Int) (0 : Int) ([] : List Int)) := by kernel_rfl
theorem s_PacketOk_l5_eq (k : Nat) (v11 : List Int) (v12 : Int) (v13 : Int) (o100003 : List Int) : s_PacketOk_l5 (k + 1) v11 v12 v13 o100003 =
  bif decide (v13 < v12) then
    (bif decide (0 ≤ v13) then
      (bif decide (v13 < (v11.length : Int)) then
        ((s_CardOf k (v11.getD v13.toNat (0 : Int))).bind fun y1 =>
        bif decide (y1 < (0 : Int)) then
          (some false)
        else ((s_l02Has k (o100003, y1)).bind fun y2 =>
          bif y2 then
            (some false)
          else (bif decide (o100003.length + [y1].length ≤ rowMax) then
              (s_PacketOk_l5 k v11 v12 (IntKind.i64.wrap (v13 + (1 : Int))) (o100003 ++ [y1]))
            else (none))))
      else (none))
    else (none))
  else (some true) := by kernel_rfl
theorem s_IsArrangement_eq (k : Nat) (x0 : List Int) (x1 : List Int) : s_IsArrangement (k + 1) (x0, x1) =
  (s_PacketOk k x0).bind fun y1 =>
  bif (!y1) then
    (some false)
  else ((s_PacketOk k x1).bind fun y2 =>
    bif (!y2) then
      (some false)
    else (bif (!((x0.length : Int) == (x1.length : Int))) then
        (some false)
      else (s_IsArrangement_l4 k x1 x0 (x0.length : Int) (0 : Int)))) := by kernel_rfl
theorem s_IsArrangement_l4_eq (k : Nat) (v1 : List Int) (v22 : List Int) (v23 : Int) (v24 : Int) : s_IsArrangement_l4 (k + 1) v1 v22 v23 v24 =
  bif decide (v24 < v23) then
    (bif decide (0 ≤ v24) then
      (bif decide (v24 < (v22.length : Int)) then
        ((s_CardOf k (v22.getD v24.toNat (0 : Int))).bind fun y1 =>
        (s_PositionOf k (v1, y1)).bind fun y2 =>
        bif decide (y2 < (0 : Int)) then
          (some false)
        else (s_IsArrangement_l4 k v1 v22 v23 (IntKind.i64.wrap (v24 + (1 : Int)))))
      else (none))
    else (none))
  else (some true) := by kernel_rfl
theorem s_l05Less_eq (k : Nat) (x0 : List Int) (x1 : List Int) : s_l05Less (k + 1) (x0, x1) =
  s_l05Less_l2 k x0 x1 x0 (x0.length : Int) (0 : Int) := by kernel_rfl
theorem s_l05Less_l2_eq (k : Nat) (v0 : List Int) (v1 : List Int) (v7 : List Int) (v8 : Int) (v9 : Int) : s_l05Less_l2 (k + 1) v0 v1 v7 v8 v9 =
  bif decide (v9 < v8) then
    (bif decide (0 ≤ v9) then
      (bif decide (v9 < (v7.length : Int)) then
        (bif decide (v9 ≥ (v1.length : Int)) then
          (some false)
        else (bif decide (0 ≤ v9) then
            (bif decide (v9 < (v1.length : Int)) then
              (bif (!((v7.getD v9.toNat (0 : Int)) == (v1.getD v9.toNat (0 : Int)))) then
                (bif decide (0 ≤ v9) then
                  (bif decide (v9 < (v1.length : Int)) then
                    (some (decide ((v7.getD v9.toNat (0 : Int)) < (v1.getD v9.toNat (0 : Int)))))
                  else (none))
                else (none))
              else (s_l05Less_l2 k v0 v1 v7 v8 (IntKind.i64.wrap (v9 + (1 : Int)))))
            else (none))
          else (none)))
      else (none))
    else (none))
  else (some (decide ((v0.length : Int) < (v1.length : Int)))) := by kernel_rfl
theorem s_KnowOk_eq (k : Nat) (x0 : List (List Int)) : s_KnowOk (k + 1) x0 =
  (s_l01In k ((x0.length : Int), ((1 : Int), (3000 : Int)))).bind fun y1 =>
  bif (!y1) then
    (some false)
  else (bif decide ((0 : Int) < (x0.length : Int)) then
      (bif (((x0.getD 0 []).length : Int) == (0 : Int)) then
        (some false)
      else (s_KnowOk_l4 k x0 x0 (x0.length : Int) (0 : Int)))
    else (none)) := by kernel_rfl
theorem s_KnowOk_l4_eq (k : Nat) (v0 : List (List Int)) (v16 : List (List Int)) (v17 : Int) (v18 : Int) : s_KnowOk_l4 (k + 1) v0 v16 v17 v18 =
  bif decide (v18 < v17) then
    (bif decide (0 ≤ v18) then
      (bif decide (v18 < (v16.length : Int)) then
        (bif decide ((0 : Int) < (v0.length : Int)) then
          ((s_IsArrangement k ((v0.getD 0 []), (v16.getD v18.toNat []))).bind fun y1 =>
          bif (!y1) then
            (some false)
          else (bif decide (v18 > (0 : Int)) then
              (bif decide (0 ≤ (IntKind.i64.wrap (v18 - (1 : Int)))) then
                (bif decide ((IntKind.i64.wrap (v18 - (1 : Int))) < (v0.length : Int)) then
                  ((s_l05Less k ((v0.getD (IntKind.i64.wrap (v18 - (1 : Int))).toNat []), (v16.getD v18.toNat []))).bind fun y2 =>
                  bif (!y2) then
                    (some false)
                  else (s_KnowOk_l4 k v0 v16 v17 (IntKind.i64.wrap (v18 + (1 : Int)))))
                else (none))
              else (none))
            else (s_KnowOk_l4 k v0 v16 v17 (IntKind.i64.wrap (v18 + (1 : Int))))))
        else (none))
      else (none))
    else (none))
  else (some true) := by kernel_rfl
theorem s_SeeCard_eq (k : Nat) (x0 : List (List Int)) (x1 : Int) (x2 : Int) : s_SeeCard (k + 1) (x0, x1, x2) =
  (s_KnowOk k x0).bind fun y1 =>
  bif (!y1) then
    (some [])
  else (s_SeeCard_l5 k x1 x2 x0 (x0.length : Int) (0 : Int) ([] : List (List Int))) := by kernel_rfl
theorem s_SeeCard_l5_eq (k : Nat) (v1 : Int) (v2 : Int) (v14 : List (List Int)) (v15 : Int) (v16 : Int) (o100007 : List (List Int)) : s_SeeCard_l5 (k + 1) v1 v2 v14 v15 v16 o100007 =
  bif decide (v16 < v15) then
    (bif decide (0 ≤ v16) then
      (bif decide (v16 < (v14.length : Int)) then
        ((s_l01In k (v1, ((0 : Int), (IntKind.i64.wrap (((v14.getD v16.toNat []).length : Int) - (1 : Int)))))).bind fun y1 =>
        bif y1 then
          (bif decide (0 ≤ v1) then
            (bif decide (v1 < ((v14.getD v16.toNat []).length : Int)) then
              ((s_CardOf k ((v14.getD v16.toNat []).getD v1.toNat (0 : Int))).bind fun y2 =>
              bif (y2 == v2) then
                (bif decide (([] : List Int).length + (v14.getD v16.toNat []).length ≤ rowMax) then
                  (bif decide (o100007.length + ([(([] : List Int) ++ (v14.getD v16.toNat []))]).length ≤ rowMax) then
                    (s_SeeCard_l5 k v1 v2 v14 v15 (IntKind.i64.wrap (v16 + (1 : Int))) (o100007 ++ ([(([] : List Int) ++ (v14.getD v16.toNat []))])))
                  else (none))
                else (none))
              else (s_SeeCard_l5 k v1 v2 v14 v15 (IntKind.i64.wrap (v16 + (1 : Int))) o100007))
            else (none))
          else (none))
        else (s_SeeCard_l5 k v1 v2 v14 v15 (IntKind.i64.wrap (v16 + (1 : Int))) o100007))
      else (none))
    else (none))
  else (some o100007) := by kernel_rfl
theorem i_CardOf_eq (k : Nat) (x0 : Int) : i_CardOf (k + 1) x0 =
  bif decide (x0 < (0 : Int)) then
    (bif decide ((IntKind.i64.wrap ((-1 : Int) - x0)) ≥ (12 : Int)) then
      (some (-1 : Int))
    else (some (IntKind.i64.wrap ((-1 : Int) - x0))))
  else (bif decide (x0 ≥ (12 : Int)) then
      (some (-1 : Int))
    else (some x0)) := by kernel_rfl
theorem i_PacketOk_eq (k : Nat) (x0 : List Int) : i_PacketOk (k + 1) x0 =
  i_PacketOk_l3 k x0 (x0.length : Int) (0 : Int) (List.replicate 12 false) := by kernel_rfl
theorem i_PacketOk_l3_eq (k : Nat) (v7 : List Int) (v8 : Int) (v9 : Int) (o400003 : List Bool) : i_PacketOk_l3 (k + 1) v7 v8 v9 o400003 =
  bif decide (v9 < v8) then
    (bif decide (0 ≤ v9) then
      (bif decide (v9 < (v7.length : Int)) then
        ((i_CardOf k (v7.getD v9.toNat (0 : Int))).bind fun y1 =>
        bif decide (y1 < (0 : Int)) then
          (some false)
        else (bif (Nat.beq o400003.length 12 && true) then
            (bif decide (0 ≤ y1) then
              (bif decide (y1 < (o400003.length : Int)) then
                (bif decide (y1.toNat < o400003.length) then
                  (bif (o400003.getD y1.toNat false) then
                    (some false)
                  else (bif (Nat.beq o400003.length 12 && true) then
                      (bif decide (0 ≤ y1) then
                        (bif decide (y1 < (o400003.length : Int)) then
                          (bif decide (y1.toNat < o400003.length) then
                            (i_PacketOk_l3 k v7 v8 (IntKind.i64.wrap (v9 + (1 : Int))) (o400003.set y1.toNat true))
                          else (none))
                        else (none))
                      else (none))
                    else (none)))
                else (none))
              else (none))
            else (none))
          else (none)))
      else (none))
    else (none))
  else (some true) := by kernel_rfl
theorem i_PositionOf_1_eq (k : Nat) (x0 : Int) (x1 : Int) : i_PositionOf_1 (k + 1) (x0, x1) =
  (i_CardOf k x0).bind fun y1 =>
  some (y1 == x1) := by kernel_rfl
theorem slices_IndexFunc_int_of_i_PositionOf_1_eq (k : Nat) (x0 : List Int) (x1 : Int) : slices_IndexFunc_int_of_i_PositionOf_1 (k + 1) (x0, x1) =
  slices_IndexFunc_int_of_i_PositionOf_1_l2 k x0 x1 (x0.length : Int) (0 : Int) := by kernel_rfl
theorem slices_IndexFunc_int_of_i_PositionOf_1_l2_eq (k : Nat) (v0 : List Int) (v1_0_0 : Int) (v7 : Int) (v8 : Int) : slices_IndexFunc_int_of_i_PositionOf_1_l2 (k + 1) v0 v1_0_0 v7 v8 =
  bif decide (v8 < v7) then
    (bif decide (0 ≤ v8) then
      (bif decide (v8 < (v0.length : Int)) then
        ((i_PositionOf_1 k ((v0.getD v8.toNat (0 : Int)), v1_0_0)).bind fun y1 =>
        bif y1 then
          (some v8)
        else (slices_IndexFunc_int_of_i_PositionOf_1_l2 k v0 v1_0_0 v7 (IntKind.i64.wrap (v8 + (1 : Int)))))
      else (none))
    else (none))
  else (some (-1 : Int)) := by kernel_rfl
theorem i_PositionOf_eq (k : Nat) (x0 : List Int) (x1 : Int) : i_PositionOf (k + 1) (x0, x1) =
  bif decide (x1 < (0 : Int)) then
    (some (-1 : Int))
  else ((slices_IndexFunc_int_of_i_PositionOf_1 k (x0, x1)).bind fun y1 =>
    some y1) := by kernel_rfl
theorem i_IsArrangement_1_eq (k : Nat) (x0 : Int) (x1 : List Int) : i_IsArrangement_1 (k + 1) (x0, x1) =
  (i_CardOf k x0).bind fun y1 =>
  (i_PositionOf k (x1, y1)).bind fun y2 =>
  some (decide (y2 < (0 : Int))) := by kernel_rfl
theorem slices_IndexFunc_int_of_i_IsArrangement_1_eq (k : Nat) (x0 : List Int) (x1 : List Int) : slices_IndexFunc_int_of_i_IsArrangement_1 (k + 1) (x0, x1) =
  slices_IndexFunc_int_of_i_IsArrangement_1_l2 k x0 x1 (x0.length : Int) (0 : Int) := by kernel_rfl
theorem slices_IndexFunc_int_of_i_IsArrangement_1_l2_eq (k : Nat) (v0 : List Int) (v1_0_0 : List Int) (v7 : Int) (v8 : Int) : slices_IndexFunc_int_of_i_IsArrangement_1_l2 (k + 1) v0 v1_0_0 v7 v8 =
  bif decide (v8 < v7) then
    (bif decide (0 ≤ v8) then
      (bif decide (v8 < (v0.length : Int)) then
        ((i_IsArrangement_1 k ((v0.getD v8.toNat (0 : Int)), v1_0_0)).bind fun y1 =>
        bif y1 then
          (some v8)
        else (slices_IndexFunc_int_of_i_IsArrangement_1_l2 k v0 v1_0_0 v7 (IntKind.i64.wrap (v8 + (1 : Int)))))
      else (none))
    else (none))
  else (some (-1 : Int)) := by kernel_rfl
theorem slices_ContainsFunc_int_of_i_IsArrangement_1_eq (k : Nat) (x0 : List Int) (x1 : List Int) : slices_ContainsFunc_int_of_i_IsArrangement_1 (k + 1) (x0, x1) =
  (slices_IndexFunc_int_of_i_IsArrangement_1 k (x0, x1)).bind fun y1 =>
  some (decide (y1 ≥ (0 : Int))) := by kernel_rfl
theorem i_IsArrangement_eq (k : Nat) (x0 : List Int) (x1 : List Int) : i_IsArrangement (k + 1) (x0, x1) =
  (i_PacketOk k x0).bind fun y1 =>
  bif (!y1) then
    (some false)
  else ((i_PacketOk k x1).bind fun y2 =>
    bif (!y2) then
      (some false)
    else (bif (!((x0.length : Int) == (x1.length : Int))) then
        (some false)
      else ((slices_ContainsFunc_int_of_i_IsArrangement_1 k (x0, x1)).bind fun y3 =>
        some (!y3)))) := by kernel_rfl
theorem cmp_isNaN_int_eq (k : Nat) (x0 : Int) : cmp_isNaN_int (k + 1) x0 =
  some (!(x0 == x0)) := by kernel_rfl
theorem cmp_Compare_int_eq (k : Nat) (x0 : Int) (x1 : Int) : cmp_Compare_int (k + 1) (x0, x1) =
  (cmp_isNaN_int k x0).bind fun y1 =>
  (cmp_isNaN_int k x1).bind fun y2 =>
  bif y1 then
    (bif y2 then
      (some (0 : Int))
    else (some (-1 : Int)))
  else (bif y2 then
      (some (1 : Int))
    else (bif decide (x0 < x1) then
        (some (-1 : Int))
      else (bif decide (x0 > x1) then
          (some (1 : Int))
        else (some (0 : Int))))) := by kernel_rfl
theorem slices_Compare_int_eq (k : Nat) (x0 : List Int) (x1 : List Int) : slices_Compare_int (k + 1) (x0, x1) =
  slices_Compare_int_l2 k x0 x1 x0 (x0.length : Int) (0 : Int) := by kernel_rfl
theorem slices_Compare_int_l2_eq (k : Nat) (v0 : List Int) (v1 : List Int) (v9 : List Int) (v10 : Int) (v11 : Int) : slices_Compare_int_l2 (k + 1) v0 v1 v9 v10 v11 =
  bif decide (v11 < v10) then
    (bif decide (0 ≤ v11) then
      (bif decide (v11 < (v9.length : Int)) then
        (bif decide (v11 ≥ (v1.length : Int)) then
          (some (1 : Int))
        else (bif decide (0 ≤ v11) then
            (bif decide (v11 < (v1.length : Int)) then
              ((cmp_Compare_int k ((v9.getD v11.toNat (0 : Int)), (v1.getD v11.toNat (0 : Int)))).bind fun y1 =>
              bif (!(y1 == (0 : Int))) then
                (some y1)
              else (slices_Compare_int_l2 k v0 v1 v9 v10 (IntKind.i64.wrap (v11 + (1 : Int)))))
            else (none))
          else (none)))
      else (none))
    else (none))
  else (bif decide ((v0.length : Int) < (v1.length : Int)) then
      (some (-1 : Int))
    else (some (0 : Int))) := by kernel_rfl
theorem i_KnowOk_eq (k : Nat) (x0 : List (List Int)) : i_KnowOk (k + 1) x0 =
  bif decide ((x0.length : Int) < (1 : Int)) then
    (some false)
  else (bif decide ((x0.length : Int) > (3000 : Int)) then
      (some false)
    else (bif decide ((0 : Int) < (x0.length : Int)) then
        (bif (((x0.getD 0 []).length : Int) == (0 : Int)) then
          (some false)
        else (i_KnowOk_l4 k x0 x0 (x0.length : Int) (0 : Int)))
      else (none))) := by kernel_rfl
theorem i_KnowOk_l4_eq (k : Nat) (v0 : List (List Int)) (v20 : List (List Int)) (v21 : Int) (v22 : Int) : i_KnowOk_l4 (k + 1) v0 v20 v21 v22 =
  bif decide (v22 < v21) then
    (bif decide (0 ≤ v22) then
      (bif decide (v22 < (v20.length : Int)) then
        (bif decide ((0 : Int) < (v0.length : Int)) then
          ((i_IsArrangement k ((v0.getD 0 []), (v20.getD v22.toNat []))).bind fun y1 =>
          bif (!y1) then
            (some false)
          else (bif decide (v22 > (0 : Int)) then
              (bif decide (0 ≤ (IntKind.i64.wrap (v22 - (1 : Int)))) then
                (bif decide ((IntKind.i64.wrap (v22 - (1 : Int))) < (v0.length : Int)) then
                  ((slices_Compare_int k ((v0.getD (IntKind.i64.wrap (v22 - (1 : Int))).toNat []), (v20.getD v22.toNat []))).bind fun y2 =>
                  bif decide (y2 ≥ (0 : Int)) then
                    (some false)
                  else (i_KnowOk_l4 k v0 v20 v21 (IntKind.i64.wrap (v22 + (1 : Int)))))
                else (none))
              else (none))
            else (i_KnowOk_l4 k v0 v20 v21 (IntKind.i64.wrap (v22 + (1 : Int))))))
        else (none))
      else (none))
    else (none))
  else (some true) := by kernel_rfl
theorem i_SeeCard_1_eq (k : Nat) (x0 : List Int) (x1 : Int) (x2 : Int) : i_SeeCard_1 (k + 1) (x0, x1, x2) =
  bif decide (x1 ≥ (0 : Int)) then
    (bif decide (x1 < (x0.length : Int)) then
      (bif decide (0 ≤ x1) then
        (bif decide (x1 < (x0.length : Int)) then
          ((i_CardOf k (x0.getD x1.toNat (0 : Int))).bind fun y1 =>
          some (y1 == x2))
        else (none))
      else (none))
    else (some false))
  else (some false) := by kernel_rfl
theorem slices_Clone_int_eq (k : Nat) (x0 : List Int) : slices_Clone_int (k + 1) x0 =
  bif (!x0.isEmpty) then
    (bif decide (([] : List Int).length + x0.length ≤ rowMax) then
      (some (([] : List Int) ++ x0))
    else (none))
  else (both (rs := flatRs slices_Clone_int_fi.rs) (ios := ioOf slices_Clone_int_fi.ps) (some [])
    (bif decide (([] : List Int).length + x0.length ≤ rowMax) then
        (some (([] : List Int) ++ x0))
      else (none))) := by kernel_rfl
theorem i_those_of_i_SeeCard_1_eq (k : Nat) (x0 : List (List Int)) (x1 : Int × Int) : i_those_of_i_SeeCard_1 (k + 1) (x0, x1) =
  (i_KnowOk k x0).bind fun y1 =>
  bif (!y1) then
    (some [])
  else (i_those_of_i_SeeCard_1_l5 k x1.1 x1.2 x0 (x0.length : Int) (0 : Int) []) := by kernel_rfl
theorem i_those_of_i_SeeCard_1_l5_eq (k : Nat) (v1_0_0 : Int) (v1_1_0 : Int) (v11 : List (List Int)) (v12 : Int) (v13 : Int) (o100005 : List (List Int)) : i_those_of_i_SeeCard_1_l5 (k + 1) v1_0_0 v1_1_0 v11 v12 v13 o100005 =
  bif decide (v13 < v12) then
    (bif decide (0 ≤ v13) then
      (bif decide (v13 < (v11.length : Int)) then
        ((i_SeeCard_1 k ((v11.getD v13.toNat []), (v1_0_0, v1_1_0))).bind fun y1 =>
        bif y1 then
          ((slices_Clone_int k (v11.getD v13.toNat [])).bind fun y2 =>
          bif decide (o100005.length + [y2].length ≤ rowMax) then
            (i_those_of_i_SeeCard_1_l5 k v1_0_0 v1_1_0 v11 v12 (IntKind.i64.wrap (v13 + (1 : Int))) (o100005 ++ [y2]))
          else (none))
        else (i_those_of_i_SeeCard_1_l5 k v1_0_0 v1_1_0 v11 v12 (IntKind.i64.wrap (v13 + (1 : Int))) o100005))
      else (none))
    else (none))
  else (some o100005) := by kernel_rfl
theorem i_SeeCard_eq (k : Nat) (x0 : List (List Int)) (x1 : Int) (x2 : Int) : i_SeeCard (k + 1) (x0, x1, x2) =
  (i_those_of_i_SeeCard_1 k (x0, (x1, x2))).bind fun y1 =>
  some y1 := by kernel_rfl
theorem w_eqIntSS_eq (k : Nat) (x0 : List (List Int)) (x1 : List (List Int)) : w_eqIntSS (k + 1) (x0, x1) =
  bif (!((x0.length : Int) == (x1.length : Int))) then
    (some false)
  else (w_eqIntSS_l4 k x0 x1 (0 : Int)) := by kernel_rfl
theorem w_eqIntSS_l4_eq (k : Nat) (v0 : List (List Int)) (v1 : List (List Int)) (v5 : Int) : w_eqIntSS_l4 (k + 1) v0 v1 v5 =
  bif decide (v5 < (v0.length : Int)) then
    (bif decide (0 ≤ v5) then
      (bif decide (v5 < (v0.length : Int)) then
        (bif decide (0 ≤ v5) then
          (bif decide (v5 < (v1.length : Int)) then
            ((w_eqIntS k ((v0.getD v5.toNat []), (v1.getD v5.toNat []))).bind fun y1 =>
            bif (!y1) then
              (some false)
            else (w_eqIntSS_l4 k v0 v1 (IntKind.i64.wrap (v5 + (1 : Int)))))
          else (none))
        else (none))
      else (none))
    else (none))
  else (some true) := by kernel_rfl
theorem w_markIntS_eq (k : Nat) (x0 : List Int) (x1 : Int) : w_markIntS (k + 1) (x0, x1) =
  w_markIntS_l2 k x1 (0 : Int) x0 := by kernel_rfl
theorem w_markIntS_l2_eq (k : Nat) (v1 : Int) (v5 : Int) (o500000 : List Int) : w_markIntS_l2 (k + 1) v1 v5 o500000 =
  bif decide (v5 < (o500000.length : Int)) then
    (bif decide (0 ≤ v5) then
      (bif decide (v5 < (o500000.length : Int)) then
        (bif decide (v5.toNat < o500000.length) then
          (w_markIntS_l2 k (IntKind.i64.wrap (v1 + (1 : Int))) (IntKind.i64.wrap (v5 + (1 : Int))) (o500000.set v5.toNat v1))
        else (none))
      else (none))
    else (none))
  else (some (v1, o500000)) := by kernel_rfl
theorem w_markIntSS_eq (k : Nat) (x0 : List (List Int)) (x1 : Int) : w_markIntSS (k + 1) (x0, x1) =
  w_markIntSS_l2 k x1 (0 : Int) x0 := by kernel_rfl
theorem w_markIntSS_l2_eq (k : Nat) (v1 : Int) (v5 : Int) (o500000 : List (List Int)) : w_markIntSS_l2 (k + 1) v1 v5 o500000 =
  bif decide (v5 < (o500000.length : Int)) then
    (bif decide (0 ≤ v5) then
      (bif decide (v5 < (o500000.length : Int)) then
        (bif decide (v5.toNat < o500000.length) then
          ((w_markIntS k ((o500000.getD v5.toNat []), v1)).bind fun y1 =>
          w_markIntSS_l2 k y1.1 (IntKind.i64.wrap (v5 + (1 : Int))) (o500000.set v5.toNat y1.2))
        else (none))
      else (none))
    else (none))
  else (some (v1, o500000)) := by kernel_rfl
theorem w_heldIntS_eq (k : Nat) (x0 : List Int) (x1 : Int) : w_heldIntS (k + 1) (x0, x1) =
  w_heldIntS_l2 k x0 x1 (0 : Int) := by kernel_rfl
theorem w_heldIntS_l2_eq (k : Nat) (v0 : List Int) (v1 : Int) (v5 : Int) : w_heldIntS_l2 (k + 1) v0 v1 v5 =
  bif decide (v5 < (v0.length : Int)) then
    (bif decide (0 ≤ v5) then
      (bif decide (v5 < (v0.length : Int)) then
        (bif (!((v0.getD v5.toNat (0 : Int)) == v1)) then
          (some (-1 : Int))
        else (w_heldIntS_l2 k v0 (IntKind.i64.wrap (v1 + (1 : Int))) (IntKind.i64.wrap (v5 + (1 : Int)))))
      else (none))
    else (none))
  else (some v1) := by kernel_rfl
theorem w_heldIntSS_eq (k : Nat) (x0 : List (List Int)) (x1 : Int) : w_heldIntSS (k + 1) (x0, x1) =
  w_heldIntSS_l2 k x0 x1 (0 : Int) := by kernel_rfl
theorem w_heldIntSS_l2_eq (k : Nat) (v0 : List (List Int)) (v1 : Int) (v5 : Int) : w_heldIntSS_l2 (k + 1) v0 v1 v5 =
  bif decide (v5 < (v0.length : Int)) then
    (bif decide (0 ≤ v5) then
      (bif decide (v5 < (v0.length : Int)) then
        ((w_heldIntS k ((v0.getD v5.toNat []), v1)).bind fun y1 =>
        bif decide (y1 < (0 : Int)) then
          (some (-1 : Int))
        else (w_heldIntSS_l2 k v0 y1 (IntKind.i64.wrap (v5 + (1 : Int)))))
      else (none))
    else (none))
  else (some v1) := by kernel_rfl
theorem w_FnExactSeeCard_eq (k : Nat) (x0 : List (List Int)) (x1 : Int) (x2 : Int) : w_FnExactSeeCard (k + 1) (x0, x1, x2) =
  (w_szIntSS k (x0, (1048576 : Int))).bind fun y1 =>
  bif decide (y1 < (0 : Int)) then
    (some true)
  else ((w_toIntSS k x0).bind fun y2 =>
    (s_SeeCard k (y2, (x1, x2))).bind fun y3 =>
    (w_toIntSS k x0).bind fun y4 =>
    (i_SeeCard k (y4, (x1, x2))).bind fun y5 =>
    (w_eqIntSS k (y5, y3)).bind fun y6 =>
    bif (!y6) then
      (some false)
    else ((w_toIntSS k x0).bind fun y7 =>
      (w_eqIntSS k (y4, y7)).bind fun y8 =>
      bif (!y8) then
        (some false)
      else ((w_markIntSS k (y4, (1 : Int))).bind fun y9 =>
        bif decide (y9.1 < (0 : Int)) then
          (some false)
        else ((w_eqIntSS k (y5, y3)).bind fun y10 =>
          bif (!y10) then
            (some false)
          else ((w_markIntSS k (y5, (1 : Int))).bind fun y11 =>
            (w_heldIntSS k (y11.2, (1 : Int))).bind fun y12 =>
            bif decide (y12 < (0 : Int)) then
              (some false)
            else (bif (!(y12 == y11.1)) then
                (some false)
              else ((w_toIntSS k x0).bind fun y13 =>
                (i_SeeCard k (y13, (x1, x2))).bind fun y14 =>
                (w_eqIntSS k (y14, y3)).bind fun y15 =>
                bif (!y15) then
                  (some false)
                else ((w_heldIntSS k (y11.2, (1 : Int))).bind fun y16 =>
                  bif decide (y16 < (0 : Int)) then
                    (some false)
                  else (bif (!(y16 == y11.1)) then
                      (some false)
                    else (some true)))))))))) := by kernel_rfl
theorem s_IsUp_eq (k : Nat) (x0 : Int) : s_IsUp (k + 1) x0 =
  (s_l01In k (x0, ((-12 : Int), (-1 : Int)))).bind fun y1 =>
  some y1 := by kernel_rfl
theorem s_l15Sides_eq (k : Nat) (x0 : List Int) (x1 : List Int) : s_l15Sides (k + 1) (x0, x1) =
  s_l15Sides_l2 k x1 x0 (x0.length : Int) (0 : Int) := by kernel_rfl
theorem s_l15Sides_l2_eq (k : Nat) (v1 : List Int) (v7 : List Int) (v8 : Int) (v9 : Int) : s_l15Sides_l2 (k + 1) v1 v7 v8 v9 =
  bif decide (v9 < v8) then
    (bif decide (0 ≤ v9) then
      (bif decide (v9 < (v7.length : Int)) then
        ((s_IsUp k (v7.getD v9.toNat (0 : Int))).bind fun y1 =>
        (s_l02Has k (v1, v9)).bind fun y2 =>
        bif (!(y1 == y2)) then
          (some false)
        else (s_l15Sides_l2 k v1 v7 v8 (IntKind.i64.wrap (v9 + (1 : Int)))))
      else (none))
    else (none))
  else (some true) := by kernel_rfl
theorem s_SeeSides_eq (k : Nat) (x0 : List (List Int)) (x1 : List Int) : s_SeeSides (k + 1) (x0, x1) =
  (s_KnowOk k x0).bind fun y1 =>
  bif (!y1) then
    (some [])
  else (s_SeeSides_l5 k x1 x0 (x0.length : Int) (0 : Int) ([] : List (List Int))) := by kernel_rfl
theorem s_SeeSides_l5_eq (k : Nat) (v1 : List Int) (v12 : List (List Int)) (v13 : Int) (v14 : Int) (o100005 : List (List Int)) : s_SeeSides_l5 (k + 1) v1 v12 v13 v14 o100005 =
  bif decide (v14 < v13) then
    (bif decide (0 ≤ v14) then
      (bif decide (v14 < (v12.length : Int)) then
        ((s_l15Sides k ((v12.getD v14.toNat []), v1)).bind fun y1 =>
        bif y1 then
          (bif decide (([] : List Int).length + (v12.getD v14.toNat []).length ≤ rowMax) then
            (bif decide (o100005.length + ([(([] : List Int) ++ (v12.getD v14.toNat []))]).length ≤ rowMax) then
              (s_SeeSides_l5 k v1 v12 v13 (IntKind.i64.wrap (v14 + (1 : Int))) (o100005 ++ ([(([] : List Int) ++ (v12.getD v14.toNat []))])))
            else (none))
          else (none))
        else (s_SeeSides_l5 k v1 v12 v13 (IntKind.i64.wrap (v14 + (1 : Int))) o100005))
      else (none))
    else (none))
  else (some o100005) := by kernel_rfl
theorem i_IsUp_eq (k : Nat) (x0 : Int) : i_IsUp (k + 1) x0 =
  bif decide (x0 < (0 : Int)) then
    ((i_CardOf k x0).bind fun y1 =>
    some (decide (y1 ≥ (0 : Int))))
  else (some false) := by kernel_rfl
theorem i_SeeSides_1_eq (k : Nat) (x0 : List Int) (x1 : List Int) : i_SeeSides_1 (k + 1) (x0, x1) =
  i_SeeSides_1_l2 k x1 x0 (x0.length : Int) (0 : Int) := by kernel_rfl
theorem i_SeeSides_1_l2_eq (k : Nat) (v1_0 : List Int) (v6 : List Int) (v7 : Int) (v8 : Int) : i_SeeSides_1_l2 (k + 1) v1_0 v6 v7 v8 =
  bif decide (v8 < v7) then
    (bif decide (0 ≤ v8) then
      (bif decide (v8 < (v6.length : Int)) then
        ((i_IsUp k (v6.getD v8.toNat (0 : Int))).bind fun y1 =>
        (slices_Contains_int k (v1_0, v8)).bind fun y2 =>
        bif (!(y1 == y2)) then
          (some false)
        else (i_SeeSides_1_l2 k v1_0 v6 v7 (IntKind.i64.wrap (v8 + (1 : Int)))))
      else (none))
    else (none))
  else (some true) := by kernel_rfl
theorem i_those_of_i_SeeSides_1_eq (k : Nat) (x0 : List (List Int)) (x1 : List Int) : i_those_of_i_SeeSides_1 (k + 1) (x0, x1) =
  (i_KnowOk k x0).bind fun y1 =>
  bif (!y1) then
    (some [])
  else (i_those_of_i_SeeSides_1_l5 k x1 x0 (x0.length : Int) (0 : Int) []) := by kernel_rfl
theorem i_those_of_i_SeeSides_1_l5_eq (k : Nat) (v1_0_0 : List Int) (v11 : List (List Int)) (v12 : Int) (v13 : Int) (o100005 : List (List Int)) : i_those_of_i_SeeSides_1_l5 (k + 1) v1_0_0 v11 v12 v13 o100005 =
  bif decide (v13 < v12) then
    (bif decide (0 ≤ v13) then
      (bif decide (v13 < (v11.length : Int)) then
        ((i_SeeSides_1 k ((v11.getD v13.toNat []), v1_0_0)).bind fun y1 =>
        bif y1 then
          ((slices_Clone_int k (v11.getD v13.toNat [])).bind fun y2 =>
          bif decide (o100005.length + [y2].length ≤ rowMax) then
            (i_those_of_i_SeeSides_1_l5 k v1_0_0 v11 v12 (IntKind.i64.wrap (v13 + (1 : Int))) (o100005 ++ [y2]))
          else (none))
        else (i_those_of_i_SeeSides_1_l5 k v1_0_0 v11 v12 (IntKind.i64.wrap (v13 + (1 : Int))) o100005))
      else (none))
    else (none))
  else (some o100005) := by kernel_rfl
theorem i_SeeSides_eq (k : Nat) (x0 : List (List Int)) (x1 : List Int) : i_SeeSides (k + 1) (x0, x1) =
  (i_those_of_i_SeeSides_1 k (x0, x1)).bind fun y1 =>
  some y1 := by kernel_rfl
theorem w_FnExactSeeSides_eq (k : Nat) (x0 : List (List Int)) (x1 : List Int) : w_FnExactSeeSides (k + 1) (x0, x1) =
  bif decide ((x1.length : Int) > (1048576 : Int)) then
    (some true)
  else ((w_szIntSS k (x0, (1048576 : Int))).bind fun y1 =>
    bif decide (y1 < (0 : Int)) then
      (some true)
    else ((w_toIntSS k x0).bind fun y2 =>
      (w_toIntS k x1).bind fun y3 =>
      (s_SeeSides k (y2, y3)).bind fun y4 =>
      (w_toIntSS k x0).bind fun y5 =>
      (w_toIntS k x1).bind fun y6 =>
      (i_SeeSides k (y5, y6)).bind fun y7 =>
      (w_eqIntSS k (y7, y4)).bind fun y8 =>
      bif (!y8) then
        (some false)
      else ((w_toIntSS k x0).bind fun y9 =>
        (w_eqIntSS k (y5, y9)).bind fun y10 =>
        bif (!y10) then
          (some false)
        else ((w_toIntS k x1).bind fun y11 =>
          (w_eqIntS k (y6, y11)).bind fun y12 =>
          bif (!y12) then
            (some false)
          else ((w_markIntSS k (y5, (1 : Int))).bind fun y13 =>
            (w_markIntS k (y6, y13.1)).bind fun y14 =>
            bif decide (y14.1 < (0 : Int)) then
              (some false)
            else ((w_eqIntSS k (y7, y4)).bind fun y15 =>
              bif (!y15) then
                (some false)
              else ((w_markIntSS k (y7, (1 : Int))).bind fun y16 =>
                (w_heldIntSS k (y16.2, (1 : Int))).bind fun y17 =>
                bif decide (y17 < (0 : Int)) then
                  (some false)
                else (bif (!(y17 == y16.1)) then
                    (some false)
                  else ((w_toIntSS k x0).bind fun y18 =>
                    (w_toIntS k x1).bind fun y19 =>
                    (i_SeeSides k (y18, y19)).bind fun y20 =>
                    (w_eqIntSS k (y20, y4)).bind fun y21 =>
                    bif (!y21) then
                      (some false)
                    else ((w_heldIntSS k (y16.2, (1 : Int))).bind fun y22 =>
                      bif decide (y22 < (0 : Int)) then
                        (some false)
                      else (bif (!(y22 == y16.1)) then
                          (some false)
                        else (some true)))))))))))) := by kernel_rfl

/-! ### the tables are right -/
/-- What holds of the world throughout. -/
abbrev gw : World → Prop := fun w => True
theorem ty_3 : TyOk Go.Proofs.Try.prog 3 (.one (.int .i64)) := tyOk_int (by kernel_rfl) (by kernel_rfl) (by kernel_rfl)
theorem ty_4 : TyOk Go.Proofs.Try.prog 4 (.one (.bool)) := tyOk_bool (by kernel_rfl) (by kernel_rfl) (by kernel_rfl)
theorem ty_22 : TyOk Go.Proofs.Try.prog 22 (.one (.slice (.int .i64))) := tyOk_slice (e := 3) (by kernel_rfl) (by kernel_rfl) (by kernel_rfl) (elemOk_of (by kernel_rfl) (by kernel_rfl) (by kernel_rfl))
theorem ty_27 : TyOk Go.Proofs.Try.prog 27 (.one (.slice (.slice (.int .i64)))) := tyOk_slice (e := 22) (by kernel_rfl) (by kernel_rfl) (by kernel_rfl) (elemOk_of (by kernel_rfl) (by kernel_rfl) (by kernel_rfl))
theorem ty_87 : TyOk Go.Proofs.Try.prog 87 (.arr 12 (.bool)) := tyOk_arr (e := 4) (by kernel_rfl) (elemOk_of (by kernel_rfl) (by kernel_rfl) (by kernel_rfl)) (by kernel_rfl) (by kernel_rfl)
theorem hE : ∀ T ti, E.ty T = some ti → TyOk Go.Proofs.Try.prog T ti := lookT_ok (l := tyL) ⟨ty_3, ty_4, ty_22, ty_27, ty_87, trivial⟩
theorem w_toIntS_ok : OneF Go.Proofs.Try.prog gw 11 w_toIntS_fi := fnOk_of (fn := Go.Proofs.Try.f11) (c := w_toIntS_c) Go.Proofs.Try.func11 (by kernel_rfl) (by kernel_rfl) rfl rfl (by kernel_rfl) (by kernel_rfl) rfl
theorem s_l01In_ok : OneF Go.Proofs.Try.prog gw 39 s_l01In_fi := fnOk_of (fn := Go.Proofs.Try.f39) (c := s_l01In_c) Go.Proofs.Try.func39 (by kernel_rfl) (by kernel_rfl) rfl rfl (by kernel_rfl) (by kernel_rfl) rfl
theorem s_l02Has_ok : OneF Go.Proofs.Try.prog gw 87 s_l02Has_fi := fnOk_of (fn := Go.Proofs.Try.f87) (c := s_l02Has_c) Go.Proofs.Try.func87 (by kernel_rfl) (by kernel_rfl) rfl rfl (by kernel_rfl) (by kernel_rfl) rfl
theorem s_PermOk_ok : OneF Go.Proofs.Try.prog gw 72 s_PermOk_fi := fnOk_of (fn := Go.Proofs.Try.f72) (c := s_PermOk_c) Go.Proofs.Try.func72 (by kernel_rfl) (by kernel_rfl) rfl rfl (by kernel_rfl) (by kernel_rfl) rfl
theorem s_CardOf_ok : OneF Go.Proofs.Try.prog gw 45 s_CardOf_fi := fnOk_of (fn := Go.Proofs.Try.f45) (c := s_CardOf_c) Go.Proofs.Try.func45 (by kernel_rfl) (by kernel_rfl) rfl rfl (by kernel_rfl) (by kernel_rfl) rfl
theorem s_PositionOf_ok : OneF Go.Proofs.Try.prog gw 90 s_PositionOf_fi := fnOk_of (fn := Go.Proofs.Try.f90) (c := s_PositionOf_c) Go.Proofs.Try.func90 (by kernel_rfl) (by kernel_rfl) rfl rfl (by kernel_rfl) (by kernel_rfl) rfl
theorem s_RisingSequences_ok : OneF Go.Proofs.Try.prog gw 73 s_RisingSequences_fi := fnOk_of (fn := Go.Proofs.Try.f73) (c := s_RisingSequences_c) Go.Proofs.Try.func73 (by kernel_rfl) (by kernel_rfl) rfl rfl (by kernel_rfl) (by kernel_rfl) rfl
theorem s_IsRiffle_ok : OneF Go.Proofs.Try.prog gw 38 s_IsRiffle_fi := fnOk_of (fn := Go.Proofs.Try.f38) (c := s_IsRiffle_c) Go.Proofs.Try.func38 (by kernel_rfl) (by kernel_rfl) rfl rfl (by kernel_rfl) (by kernel_rfl) rfl
theorem s_l19Ok_ok : OneF Go.Proofs.Try.prog gw 97 s_l19Ok_fi := fnOk_of (fn := Go.Proofs.Try.f97) (c := s_l19Ok_c) Go.Proofs.Try.func97 (by kernel_rfl) (by kernel_rfl) rfl rfl (by kernel_rfl) (by kernel_rfl) rfl
theorem s_l19Choose_ok : OneF Go.Proofs.Try.prog gw 111 s_l19Choose_fi := fnOk_of (fn := Go.Proofs.Try.f111) (c := s_l19Choose_c) Go.Proofs.Try.func111 (by kernel_rfl) (by kernel_rfl) rfl rfl (by kernel_rfl) (by kernel_rfl) rfl
theorem s_l19Ways_ok : OneF Go.Proofs.Try.prog gw 107 s_l19Ways_fi := fnOk_of (fn := Go.Proofs.Try.f107) (c := s_l19Ways_c) Go.Proofs.Try.func107 (by kernel_rfl) (by kernel_rfl) rfl rfl (by kernel_rfl) (by kernel_rfl) rfl
theorem s_WaysWith_ok : OneF Go.Proofs.Try.prog gw 98 s_WaysWith_fi := fnOk_of (fn := Go.Proofs.Try.f98) (c := s_WaysWith_c) Go.Proofs.Try.func98 (by kernel_rfl) (by kernel_rfl) rfl rfl (by kernel_rfl) (by kernel_rfl) rfl
theorem s_NextWays_ok : OneF Go.Proofs.Try.prog gw 74 s_NextWays_fi := fnOk_of (fn := Go.Proofs.Try.f74) (c := s_NextWays_c) Go.Proofs.Try.func74 (by kernel_rfl) (by kernel_rfl) rfl rfl (by kernel_rfl) (by kernel_rfl) rfl
theorem s_BestGuess_ok : OneF Go.Proofs.Try.prog gw 40 s_BestGuess_fi := fnOk_of (fn := Go.Proofs.Try.f40) (c := s_BestGuess_c) Go.Proofs.Try.func40 (by kernel_rfl) (by kernel_rfl) rfl rfl (by kernel_rfl) (by kernel_rfl) rfl
theorem s_GuessRun_ok : OneF Go.Proofs.Try.prog gw 10 s_GuessRun_fi := fnOk_of (fn := Go.Proofs.Try.f10) (c := s_GuessRun_c) Go.Proofs.Try.func10 (by kernel_rfl) (by kernel_rfl) rfl rfl (by kernel_rfl) (by kernel_rfl) rfl
theorem slices_Index_int_ok : OneF Go.Proofs.Try.prog gw 79 slices_Index_int_fi := fnOk_of (fn := Go.Proofs.Try.f79) (c := slices_Index_int_c) Go.Proofs.Try.func79 (by kernel_rfl) (by kernel_rfl) rfl rfl (by kernel_rfl) (by kernel_rfl) rfl
theorem slices_Contains_int_ok : OneF Go.Proofs.Try.prog gw 70 slices_Contains_int_fi := fnOk_of (fn := Go.Proofs.Try.f70) (c := slices_Contains_int_c) Go.Proofs.Try.func70 (by kernel_rfl) (by kernel_rfl) rfl rfl (by kernel_rfl) (by kernel_rfl) rfl
theorem i_PermOk_ok : OneF Go.Proofs.Try.prog gw 75 i_PermOk_fi := fnOk_of (fn := Go.Proofs.Try.f75) (c := i_PermOk_c) Go.Proofs.Try.func75 (by kernel_rfl) (by kernel_rfl) rfl rfl (by kernel_rfl) (by kernel_rfl) rfl
theorem i_inverse_ok : OneF Go.Proofs.Try.prog gw 99 i_inverse_fi := fnOk_of (fn := Go.Proofs.Try.f99) (c := i_inverse_c) Go.Proofs.Try.func99 (by kernel_rfl) (by kernel_rfl) rfl rfl (by kernel_rfl) (by kernel_rfl) rfl
theorem i_RisingSequences_ok : OneF Go.Proofs.Try.prog gw 76 i_RisingSequences_fi := fnOk_of (fn := Go.Proofs.Try.f76) (c := i_RisingSequences_c) Go.Proofs.Try.func76 (by kernel_rfl) (by kernel_rfl) rfl rfl (by kernel_rfl) (by kernel_rfl) rfl
theorem i_IsRiffle_ok : OneF Go.Proofs.Try.prog gw 41 i_IsRiffle_fi := fnOk_of (fn := Go.Proofs.Try.f41) (c := i_IsRiffle_c) Go.Proofs.Try.func41 (by kernel_rfl) (by kernel_rfl) rfl rfl (by kernel_rfl) (by kernel_rfl) rfl
theorem i_isPrefix_ok : OneF Go.Proofs.Try.prog gw 100 i_isPrefix_fi := fnOk_of (fn := Go.Proofs.Try.f100) (c := i_isPrefix_c) Go.Proofs.Try.func100 (by kernel_rfl) (by kernel_rfl) rfl rfl (by kernel_rfl) (by kernel_rfl) rfl
theorem i_upTo_ok : OneF Go.Proofs.Try.prog gw 84 i_upTo_fi := fnOk_of (fn := Go.Proofs.Try.f84) (c := i_upTo_c) Go.Proofs.Try.func84 (by kernel_rfl) (by kernel_rfl) rfl rfl (by kernel_rfl) (by kernel_rfl) rfl
theorem i_riffled_ok : OneF Go.Proofs.Try.prog gw 101 i_riffled_fi := fnOk_of (fn := Go.Proofs.Try.f101) (c := i_riffled_c) Go.Proofs.Try.func101 (by kernel_rfl) (by kernel_rfl) rfl rfl (by kernel_rfl) (by kernel_rfl) rfl
theorem slices_Equal_int_ok : OneF Go.Proofs.Try.prog gw 102 slices_Equal_int_fi := fnOk_of (fn := Go.Proofs.Try.f102) (c := slices_Equal_int_c) Go.Proofs.Try.func102 (by kernel_rfl) (by kernel_rfl) rfl rfl (by kernel_rfl) (by kernel_rfl) rfl
theorem i_NextWays_ok : OneF Go.Proofs.Try.prog gw 77 i_NextWays_fi := fnOk_of (fn := Go.Proofs.Try.f77) (c := i_NextWays_c) Go.Proofs.Try.func77 (by kernel_rfl) (by kernel_rfl) rfl rfl (by kernel_rfl) (by kernel_rfl) rfl
theorem slices_Max_int_ok : OneF Go.Proofs.Try.prog gw 78 slices_Max_int_fi := fnOk_of (fn := Go.Proofs.Try.f78) (c := slices_Max_int_c) Go.Proofs.Try.func78 (by kernel_rfl) (by kernel_rfl) rfl rfl (by kernel_rfl) (by kernel_rfl) rfl
theorem i_BestGuess_ok : OneF Go.Proofs.Try.prog gw 42 i_BestGuess_fi := fnOk_of (fn := Go.Proofs.Try.f42) (c := i_BestGuess_c) Go.Proofs.Try.func42 (by kernel_rfl) (by kernel_rfl) rfl rfl (by kernel_rfl) (by kernel_rfl) rfl
theorem i_GuessRun_ok : OneF Go.Proofs.Try.prog gw 12 i_GuessRun_fi := fnOk_of (fn := Go.Proofs.Try.f12) (c := i_GuessRun_c) Go.Proofs.Try.func12 (by kernel_rfl) (by kernel_rfl) rfl rfl (by kernel_rfl) (by kernel_rfl) rfl
theorem w_eqIntS_ok : OneF Go.Proofs.Try.prog gw 13 w_eqIntS_fi := fnOk_of (fn := Go.Proofs.Try.f13) (c := w_eqIntS_c) Go.Proofs.Try.func13 (by kernel_rfl) (by kernel_rfl) rfl rfl (by kernel_rfl) (by kernel_rfl) rfl
theorem w_FnExactGuessRun_ok : OneF Go.Proofs.Try.prog gw 3 w_FnExactGuessRun_fi := fnOk_of (fn := Go.Proofs.Try.f3) (c := w_FnExactGuessRun_c) Go.Proofs.Try.func3 (by kernel_rfl) (by kernel_rfl) rfl rfl (by kernel_rfl) (by kernel_rfl) rfl
theorem w_szIntS_ok : OneF Go.Proofs.Try.prog gw 43 w_szIntS_fi := fnOk_of (fn := Go.Proofs.Try.f43) (c := w_szIntS_c) Go.Proofs.Try.func43 (by kernel_rfl) (by kernel_rfl) rfl rfl (by kernel_rfl) (by kernel_rfl) rfl
theorem w_szIntSS_ok : OneF Go.Proofs.Try.prog gw 14 w_szIntSS_fi := fnOk_of (fn := Go.Proofs.Try.f14) (c := w_szIntSS_c) Go.Proofs.Try.func14 (by kernel_rfl) (by kernel_rfl) rfl rfl (by kernel_rfl) (by kernel_rfl) rfl
theorem w_toIntSS_ok : OneF Go.Proofs.Try.prog gw 16 w_toIntSS_fi := fnOk_of (fn := Go.Proofs.Try.f16) (c := w_toIntSS_c) Go.Proofs.Try.func16 (by kernel_rfl) (by kernel_rfl) rfl rfl (by kernel_rfl) (by kernel_rfl) rfl
theorem s_PacketOk_ok : OneF Go.Proofs.Try.prog gw 59 s_PacketOk_fi := fnOk_of (fn := Go.Proofs.Try.f59) (c := s_PacketOk_c) Go.Proofs.Try.func59 (by kernel_rfl) (by kernel_rfl) rfl rfl (by kernel_rfl) (by kernel_rfl) rfl
theorem s_IsArrangement_ok : OneF Go.Proofs.Try.prog gw 80 s_IsArrangement_fi := fnOk_of (fn := Go.Proofs.Try.f80) (c := s_IsArrangement_c) Go.Proofs.Try.func80 (by kernel_rfl) (by kernel_rfl) rfl rfl (by kernel_rfl) (by kernel_rfl) rfl
theorem s_l05Less_ok : OneF Go.Proofs.Try.prog gw 81 s_l05Less_fi := fnOk_of (fn := Go.Proofs.Try.f81) (c := s_l05Less_c) Go.Proofs.Try.func81 (by kernel_rfl) (by kernel_rfl) rfl rfl (by kernel_rfl) (by kernel_rfl) rfl
theorem s_KnowOk_ok : OneF Go.Proofs.Try.prog gw 44 s_KnowOk_fi := fnOk_of (fn := Go.Proofs.Try.f44) (c := s_KnowOk_c) Go.Proofs.Try.func44 (by kernel_rfl) (by kernel_rfl) rfl rfl (by kernel_rfl) (by kernel_rfl) rfl
theorem s_SeeCard_ok : OneF Go.Proofs.Try.prog gw 15 s_SeeCard_fi := fnOk_of (fn := Go.Proofs.Try.f15) (c := s_SeeCard_c) Go.Proofs.Try.func15 (by kernel_rfl) (by kernel_rfl) rfl rfl (by kernel_rfl) (by kernel_rfl) rfl
theorem i_CardOf_ok : OneF Go.Proofs.Try.prog gw 48 i_CardOf_fi := fnOk_of (fn := Go.Proofs.Try.f48) (c := i_CardOf_c) Go.Proofs.Try.func48 (by kernel_rfl) (by kernel_rfl) rfl rfl (by kernel_rfl) (by kernel_rfl) rfl
theorem i_PacketOk_ok : OneF Go.Proofs.Try.prog gw 63 i_PacketOk_fi := fnOk_of (fn := Go.Proofs.Try.f63) (c := i_PacketOk_c) Go.Proofs.Try.func63 (by kernel_rfl) (by kernel_rfl) rfl rfl (by kernel_rfl) (by kernel_rfl) rfl
theorem i_PositionOf_1_ok : OneF Go.Proofs.Try.prog gw 94 i_PositionOf_1_fi := fnOk_of (fn := Go.Proofs.Try.f94) (c := i_PositionOf_1_c) Go.Proofs.Try.func94 (by kernel_rfl) (by kernel_rfl) rfl rfl (by kernel_rfl) (by kernel_rfl) rfl
theorem slices_IndexFunc_int_of_i_PositionOf_1_ok : OneF Go.Proofs.Try.prog gw 93 slices_IndexFunc_int_of_i_PositionOf_1_fi := fnOk_of (fn := Go.Proofs.Try.f93) (c := slices_IndexFunc_int_of_i_PositionOf_1_c) Go.Proofs.Try.func93 (by kernel_rfl) (by kernel_rfl) rfl rfl (by kernel_rfl) (by kernel_rfl) rfl
theorem i_PositionOf_ok : OneF Go.Proofs.Try.prog gw 65 i_PositionOf_fi := fnOk_of (fn := Go.Proofs.Try.f65) (c := i_PositionOf_c) Go.Proofs.Try.func65 (by kernel_rfl) (by kernel_rfl) rfl rfl (by kernel_rfl) (by kernel_rfl) rfl
theorem i_IsArrangement_1_ok : OneF Go.Proofs.Try.prog gw 109 i_IsArrangement_1_fi := fnOk_of (fn := Go.Proofs.Try.f109) (c := i_IsArrangement_1_c) Go.Proofs.Try.func109 (by kernel_rfl) (by kernel_rfl) rfl rfl (by kernel_rfl) (by kernel_rfl) rfl
theorem slices_IndexFunc_int_of_i_IsArrangement_1_ok : OneF Go.Proofs.Try.prog gw 93 slices_IndexFunc_int_of_i_IsArrangement_1_fi := fnOk_of (fn := Go.Proofs.Try.f93) (c := slices_IndexFunc_int_of_i_IsArrangement_1_c) Go.Proofs.Try.func93 (by kernel_rfl) (by kernel_rfl) rfl rfl (by kernel_rfl) (by kernel_rfl) rfl
theorem slices_ContainsFunc_int_of_i_IsArrangement_1_ok : OneF Go.Proofs.Try.prog gw 108 slices_ContainsFunc_int_of_i_IsArrangement_1_fi := fnOk_of (fn := Go.Proofs.Try.f108) (c := slices_ContainsFunc_int_of_i_IsArrangement_1_c) Go.Proofs.Try.func108 (by kernel_rfl) (by kernel_rfl) rfl rfl (by kernel_rfl) (by kernel_rfl) rfl
theorem i_IsArrangement_ok : OneF Go.Proofs.Try.prog gw 103 i_IsArrangement_fi := fnOk_of (fn := Go.Proofs.Try.f103) (c := i_IsArrangement_c) Go.Proofs.Try.func103 (by kernel_rfl) (by kernel_rfl) rfl rfl (by kernel_rfl) (by kernel_rfl) rfl
theorem cmp_isNaN_int_ok : OneF Go.Proofs.Try.prog gw 112 cmp_isNaN_int_fi := fnOk_of (fn := Go.Proofs.Try.f112) (c := cmp_isNaN_int_c) Go.Proofs.Try.func112 (by kernel_rfl) (by kernel_rfl) rfl rfl (by kernel_rfl) (by kernel_rfl) rfl
theorem cmp_Compare_int_ok : OneF Go.Proofs.Try.prog gw 110 cmp_Compare_int_fi := fnOk_of (fn := Go.Proofs.Try.f110) (c := cmp_Compare_int_c) Go.Proofs.Try.func110 (by kernel_rfl) (by kernel_rfl) rfl rfl (by kernel_rfl) (by kernel_rfl) rfl
theorem slices_Compare_int_ok : OneF Go.Proofs.Try.prog gw 104 slices_Compare_int_fi := fnOk_of (fn := Go.Proofs.Try.f104) (c := slices_Compare_int_c) Go.Proofs.Try.func104 (by kernel_rfl) (by kernel_rfl) rfl rfl (by kernel_rfl) (by kernel_rfl) rfl
theorem i_KnowOk_ok : OneF Go.Proofs.Try.prog gw 82 i_KnowOk_fi := fnOk_of (fn := Go.Proofs.Try.f82) (c := i_KnowOk_c) Go.Proofs.Try.func82 (by kernel_rfl) (by kernel_rfl) rfl rfl (by kernel_rfl) (by kernel_rfl) rfl
theorem i_SeeCard_1_ok : OneF Go.Proofs.Try.prog gw 47 i_SeeCard_1_fi := fnOk_of (fn := Go.Proofs.Try.f47) (c := i_SeeCard_1_c) Go.Proofs.Try.func47 (by kernel_rfl) (by kernel_rfl) rfl rfl (by kernel_rfl) (by kernel_rfl) rfl
theorem slices_Clone_int_ok : OneF Go.Proofs.Try.prog gw 83 slices_Clone_int_fi := fnOk_of (fn := Go.Proofs.Try.f83) (c := slices_Clone_int_c) Go.Proofs.Try.func83 (by kernel_rfl) (by kernel_rfl) rfl rfl (by kernel_rfl) (by kernel_rfl) rfl
theorem i_those_of_i_SeeCard_1_ok : OneF Go.Proofs.Try.prog gw 46 i_those_of_i_SeeCard_1_fi := fnOk_of (fn := Go.Proofs.Try.f46) (c := i_those_of_i_SeeCard_1_c) Go.Proofs.Try.func46 (by kernel_rfl) (by kernel_rfl) rfl rfl (by kernel_rfl) (by kernel_rfl) rfl
theorem i_SeeCard_ok : OneF Go.Proofs.Try.prog gw 17 i_SeeCard_fi := fnOk_of (fn := Go.Proofs.Try.f17) (c := i_SeeCard_c) Go.Proofs.Try.func17 (by kernel_rfl) (by kernel_rfl) rfl rfl (by kernel_rfl) (by kernel_rfl) rfl
theorem w_eqIntSS_ok : OneF Go.Proofs.Try.prog gw 18 w_eqIntSS_fi := fnOk_of (fn := Go.Proofs.Try.f18) (c := w_eqIntSS_c) Go.Proofs.Try.func18 (by kernel_rfl) (by kernel_rfl) rfl rfl (by kernel_rfl) (by kernel_rfl) rfl
theorem w_markIntS_ok : OneF Go.Proofs.Try.prog gw 33 w_markIntS_fi := fnOk_of (fn := Go.Proofs.Try.f33) (c := w_markIntS_c) Go.Proofs.Try.func33 (by kernel_rfl) (by kernel_rfl) rfl rfl (by kernel_rfl) (by kernel_rfl) rfl
theorem w_markIntSS_ok : OneF Go.Proofs.Try.prog gw 19 w_markIntSS_fi := fnOk_of (fn := Go.Proofs.Try.f19) (c := w_markIntSS_c) Go.Proofs.Try.func19 (by kernel_rfl) (by kernel_rfl) rfl rfl (by kernel_rfl) (by kernel_rfl) rfl
theorem w_heldIntS_ok : OneF Go.Proofs.Try.prog gw 49 w_heldIntS_fi := fnOk_of (fn := Go.Proofs.Try.f49) (c := w_heldIntS_c) Go.Proofs.Try.func49 (by kernel_rfl) (by kernel_rfl) rfl rfl (by kernel_rfl) (by kernel_rfl) rfl
theorem w_heldIntSS_ok : OneF Go.Proofs.Try.prog gw 20 w_heldIntSS_fi := fnOk_of (fn := Go.Proofs.Try.f20) (c := w_heldIntSS_c) Go.Proofs.Try.func20 (by kernel_rfl) (by kernel_rfl) rfl rfl (by kernel_rfl) (by kernel_rfl) rfl
theorem w_FnExactSeeCard_ok : OneF Go.Proofs.Try.prog gw 4 w_FnExactSeeCard_fi := fnOk_of (fn := Go.Proofs.Try.f4) (c := w_FnExactSeeCard_c) Go.Proofs.Try.func4 (by kernel_rfl) (by kernel_rfl) rfl rfl (by kernel_rfl) (by kernel_rfl) rfl
theorem s_IsUp_ok : OneF Go.Proofs.Try.prog gw 96 s_IsUp_fi := fnOk_of (fn := Go.Proofs.Try.f96) (c := s_IsUp_c) Go.Proofs.Try.func96 (by kernel_rfl) (by kernel_rfl) rfl rfl (by kernel_rfl) (by kernel_rfl) rfl
theorem s_l15Sides_ok : OneF Go.Proofs.Try.prog gw 67 s_l15Sides_fi := fnOk_of (fn := Go.Proofs.Try.f67) (c := s_l15Sides_c) Go.Proofs.Try.func67 (by kernel_rfl) (by kernel_rfl) rfl rfl (by kernel_rfl) (by kernel_rfl) rfl
theorem s_SeeSides_ok : OneF Go.Proofs.Try.prog gw 31 s_SeeSides_fi := fnOk_of (fn := Go.Proofs.Try.f31) (c := s_SeeSides_c) Go.Proofs.Try.func31 (by kernel_rfl) (by kernel_rfl) rfl rfl (by kernel_rfl) (by kernel_rfl) rfl
theorem i_IsUp_ok : OneF Go.Proofs.Try.prog gw 69 i_IsUp_fi := fnOk_of (fn := Go.Proofs.Try.f69) (c := i_IsUp_c) Go.Proofs.Try.func69 (by kernel_rfl) (by kernel_rfl) rfl rfl (by kernel_rfl) (by kernel_rfl) rfl
theorem i_SeeSides_1_ok : OneF Go.Proofs.Try.prog gw 68 i_SeeSides_1_fi := fnOk_of (fn := Go.Proofs.Try.f68) (c := i_SeeSides_1_c) Go.Proofs.Try.func68 (by kernel_rfl) (by kernel_rfl) rfl rfl (by kernel_rfl) (by kernel_rfl) rfl
theorem i_those_of_i_SeeSides_1_ok : OneF Go.Proofs.Try.prog gw 46 i_those_of_i_SeeSides_1_fi := fnOk_of (fn := Go.Proofs.Try.f46) (c := i_those_of_i_SeeSides_1_c) Go.Proofs.Try.func46 (by kernel_rfl) (by kernel_rfl) rfl rfl (by kernel_rfl) (by kernel_rfl) rfl
theorem i_SeeSides_ok : OneF Go.Proofs.Try.prog gw 32 i_SeeSides_fi := fnOk_of (fn := Go.Proofs.Try.f32) (c := i_SeeSides_c) Go.Proofs.Try.func32 (by kernel_rfl) (by kernel_rfl) rfl rfl (by kernel_rfl) (by kernel_rfl) rfl
theorem w_FnExactSeeSides_ok : OneF Go.Proofs.Try.prog gw 7 w_FnExactSeeSides_fi := fnOk_of (fn := Go.Proofs.Try.f7) (c := w_FnExactSeeSides_c) Go.Proofs.Try.func7 (by kernel_rfl) (by kernel_rfl) rfl rfl (by kernel_rfl) (by kernel_rfl) rfl
theorem hF : FnOk Go.Proofs.Try.prog gw E := lookF_ok (l := fnL) ⟨w_toIntS_ok, s_l01In_ok, s_l02Has_ok, s_PermOk_ok, s_CardOf_ok, s_PositionOf_ok, s_RisingSequences_ok, s_IsRiffle_ok, s_l19Ok_ok, s_l19Choose_ok, s_l19Ways_ok, s_WaysWith_ok, s_NextWays_ok, s_BestGuess_ok, s_GuessRun_ok, slices_Index_int_ok, slices_Contains_int_ok, i_PermOk_ok, i_inverse_ok, i_RisingSequences_ok, i_IsRiffle_ok, i_isPrefix_ok, i_upTo_ok, i_riffled_ok, slices_Equal_int_ok, i_NextWays_ok, slices_Max_int_ok, i_BestGuess_ok, i_GuessRun_ok, w_eqIntS_ok, w_FnExactGuessRun_ok, w_szIntS_ok, w_szIntSS_ok, w_toIntSS_ok, s_PacketOk_ok, s_IsArrangement_ok, s_l05Less_ok, s_KnowOk_ok, s_SeeCard_ok, i_CardOf_ok, i_PacketOk_ok, i_PositionOf_1_ok, slices_IndexFunc_int_of_i_PositionOf_1_ok, i_PositionOf_ok, i_IsArrangement_1_ok, slices_IndexFunc_int_of_i_IsArrangement_1_ok, slices_ContainsFunc_int_of_i_IsArrangement_1_ok, i_IsArrangement_ok, cmp_isNaN_int_ok, cmp_Compare_int_ok, slices_Compare_int_ok, i_KnowOk_ok, i_SeeCard_1_ok, slices_Clone_int_ok, i_those_of_i_SeeCard_1_ok, i_SeeCard_ok, w_eqIntSS_ok, w_markIntS_ok, w_markIntSS_ok, w_heldIntS_ok, w_heldIntSS_ok, w_FnExactSeeCard_ok, s_IsUp_ok, s_l15Sides_ok, s_SeeSides_ok, i_IsUp_ok, i_SeeSides_1_ok, i_those_of_i_SeeSides_1_ok, i_SeeSides_ok, w_FnExactSeeSides_ok, trivial⟩
end Pt
