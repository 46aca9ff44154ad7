/-
  The plain machine's telling of functions of the program. Printed by gen.py.
  Conditions: none; these are definitions and equations that the kernel checks.
-/
import Derived.Test.YtbdaipnoibgcgaaXvza
import Derived.Test.YtbdaipnoibgcgaaXvzj
import Derived.Test.YtbdaipnoibgcgaaXvzk
import Derived.Test.YtbdaipnoibgcgaaProg
import Derived.Test.YtbdaipnoibgcgaaCmf
import Derived.Test.YtbdaipnoibgcgaaSrt
namespace Pt
open Go Go.Vt
set_option linter.unusedVariables false
set_option maxRecDepth 100000

noncomputable def tyL : List (Nat × TI) := [(3, .one (.int .i64)),
  (4, .one (.bool)),
  (5, .one (.int .u8)),
  (22, .one (.slice (.int .u8))),
  (24, .one (.slice (.slice (.int .i64)))),
  (27, .one (.slice (.int .i64))),
  (49, .struct [(0, 22), (1, 3), (2, 3)] [.slice (.int .u8), .int .i64, .int .i64] false),
  (51, .arr 12 (.bool)),
  (55, .struct [(0, 3), (1, 3)] [.int .i64, .int .i64] true),
  (5027023, .flag),
  (5027031, .flag)]

/-! ### s_l01New -/
noncomputable def s_l01New_c : Code := (Go.Proofs.Try.f25.body).getD .skip
noncomputable def s_l01New_h : Nat → Option (List Hint)
  | 3 => some [.keep 0, .keep 3, .keep 4]
  | _ => none
noncomputable def s_l01New_fi : Fi := ⟨[.v (.slice (.int .u8)) false], [(false, [⟨.pair (.slice (.int .u8)) (.pair (.int .i64) (.int .i64)), some (false, false)⟩])], none, s_l01New_c, Go.Proofs.Try.f25.results.toList, 32, s_l01New_h⟩
/-! ### s_l01Byte -/
noncomputable def s_l01Byte_c : Code := (Go.Proofs.Try.f15.body).getD .skip
noncomputable def s_l01Byte_h : Nat → Option (List Hint)
  | _ => none
noncomputable def s_l01Byte_fi : Fi := ⟨[.p (.slice (.int .u8)) (.pair (.int .i64) (.int .i64))], [(false, [⟨.int .i64, none⟩])], none, s_l01Byte_c, Go.Proofs.Try.f15.results.toList, 58, s_l01Byte_h⟩
/-! ### s_l23New -/
noncomputable def s_l23New_c : Code := (Go.Proofs.Try.f14.body).getD .skip
noncomputable def s_l23New_h : Nat → Option (List Hint)
  | 3 => some [.keep 1, .box 5 200005 [.keep, .keep, .keep], .keep 6]
  | _ => none
noncomputable def s_l23New_fi : Fi := ⟨[.v (.slice (.int .u8)) false, .v (.int .i64) false], [(false, [⟨.pair (.slice (.int .u8)) (.pair (.int .i64) (.int .i64)), some (false, false)⟩])], none, s_l23New_c, Go.Proofs.Try.f14.results.toList, 17, s_l23New_h⟩
/-! ### s_MakeNum -/
noncomputable def s_MakeNum_c : Code := (Go.Proofs.Try.f4.body).getD .skip
noncomputable def s_MakeNum_h : Nat → Option (List Hint)
  | _ => none
noncomputable def s_MakeNum_fi : Fi := ⟨[.v (.slice (.int .u8)) false, .v (.int .i64) false], [(false, [⟨.int .i64, none⟩])], none, s_MakeNum_c, Go.Proofs.Try.f4.results.toList, 15, s_MakeNum_h⟩
/-! ### i_upTo -/
noncomputable def i_upTo_c : Code := (Go.Proofs.Try.f19.body).getD .skip
noncomputable def i_upTo_h : Nat → Option (List Hint)
  | 3 => some [.keep 0, .cell 3 (.row 100003 (.int .i64) true true), .keep 4]
  | _ => none
noncomputable def i_upTo_fi : Fi := ⟨[.v (.int .i64) false], [(false, [⟨.slice (.int .i64), some (true, true)⟩])], none, i_upTo_c, Go.Proofs.Try.f19.results.toList, 15, i_upTo_h⟩
/-! ### i_NewPacket -/
noncomputable def i_NewPacket_c : Code := (Go.Proofs.Try.f6.body).getD .skip
noncomputable def i_NewPacket_h : Nat → Option (List Hint)
  | _ => none
noncomputable def i_NewPacket_fi : Fi := ⟨[.v (.int .i64) false], [(false, [⟨.slice (.int .i64), some (true, true)⟩])], none, i_NewPacket_c, Go.Proofs.Try.f6.results.toList, 11, i_NewPacket_h⟩
/-! ### i_CardOf -/
noncomputable def i_CardOf_c : Code := (Go.Proofs.Try.f33.body).getD .skip
noncomputable def i_CardOf_h : Nat → Option (List Hint)
  | _ => none
noncomputable def i_CardOf_fi : Fi := ⟨[.v (.int .i64) false], [(false, [⟨.int .i64, none⟩])], none, i_CardOf_c, Go.Proofs.Try.f33.results.toList, 10, i_CardOf_h⟩
/-! ### i_PacketOk -/
noncomputable def i_PacketOk_c : Code := (Go.Proofs.Try.f16.body).getD .skip
noncomputable def i_PacketOk_h : Nat → Option (List Hint)
  | 3 => some [.arr 3 400003, .keep 7, .keep 8, .keep 9]
  | _ => none
noncomputable def i_PacketOk_fi : Fi := ⟨[.v (.slice (.int .i64)) false], [(false, [⟨.bool, none⟩])], none, i_PacketOk_c, Go.Proofs.Try.f16.results.toList, 25, i_PacketOk_h⟩
/-! ### slices_Clone_int -/
noncomputable def slices_Clone_int_c : Code := (Go.Proofs.Try.f34.body).getD .skip
noncomputable def slices_Clone_int_h : Nat → Option (List Hint)
  | _ => none
noncomputable def slices_Clone_int_fi : Fi := ⟨[.v (.slice (.int .i64)) false], [(false, [⟨.slice (.int .i64), some (true, false)⟩])], none, slices_Clone_int_c, Go.Proofs.Try.f34.results.toList, 8, slices_Clone_int_h⟩
/-! ### slices_Grow_int -/
noncomputable abbrev slices_Grow_int_fi : Fi := growFi
/-! ### slices_Concat_int -/
noncomputable def slices_Concat_int_c : Code := (Go.Proofs.Try.f37.body).getD .skip
noncomputable def slices_Concat_int_h : Nat → Option (List Hint)
  | 3 => some [.keep 0, .keep 3, .keep 9, .keep 10, .keep 11]
  | 11 => some [.cell 6 (.row 100006 (.int .i64) true false), .keep 25, .keep 26, .keep 27]
  | _ => none
noncomputable def slices_Concat_int_fi : Fi := ⟨[.v (.slice (.slice (.int .i64))) false], [(false, [⟨.slice (.int .i64), some (true, false)⟩])], none, slices_Concat_int_c, Go.Proofs.Try.f37.results.toList, 36, slices_Concat_int_h⟩
/-! ### slices_Reverse_int -/
noncomputable abbrev slices_Reverse_int_fi : Fi := reverseFi
/-! ### i_reversed -/
noncomputable def i_reversed_c : Code := (Go.Proofs.Try.f49.body).getD .skip
noncomputable def i_reversed_h : Nat → Option (List Hint)
  | _ => none
noncomputable def i_reversed_fi : Fi := ⟨[.v (.slice (.int .i64)) false], [(false, [⟨.slice (.int .i64), some (true, false)⟩])], none, i_reversed_c, Go.Proofs.Try.f49.results.toList, 9, i_reversed_h⟩
/-! ### i_faro -/
noncomputable def i_faro_c : Code := (Go.Proofs.Try.f51.body).getD .skip
noncomputable def i_faro_h : Nat → Option (List Hint)
  | 4 => some [.keep 5, .keep 6, .cell 7 (.row 100007 (.int .i64) true true), .keep 8]
  | _ => none
noncomputable def i_faro_fi : Fi := ⟨[.v (.slice (.int .i64)) false, .v (.int .i64) false], [(false, [⟨.slice (.int .i64), some (true, true)⟩])], none, i_faro_c, Go.Proofs.Try.f51.results.toList, 59, i_faro_h⟩
/-! ### i_monge -/
noncomputable def i_monge_c : Code := (Go.Proofs.Try.f52.body).getD .skip
noncomputable def i_monge_h : Nat → Option (List Hint)
  | 3 => some [.keep 1, .cell 5 (.row 100005 (.int .i64) true false), .keep 8, .keep 9, .keep 10]
  | _ => none
noncomputable def i_monge_fi : Fi := ⟨[.v (.slice (.int .i64)) false, .v (.int .i64) false], [(false, [⟨.slice (.int .i64), some (true, false)⟩])], none, i_monge_c, Go.Proofs.Try.f52.results.toList, 34, i_monge_h⟩
/-! ### i_milk -/
noncomputable def i_milk_c : Code := (Go.Proofs.Try.f53.body).getD .skip
noncomputable def i_milk_h : Nat → Option (List Hint)
  | 2 => some [.keep 0, .cell 3 (.row 100003 (.int .i64) true false)]
  | _ => none
noncomputable def i_milk_fi : Fi := ⟨[.v (.slice (.int .i64)) false], [(false, [⟨.slice (.int .i64), some (true, false)⟩])], none, i_milk_c, Go.Proofs.Try.f53.results.toList, 28, i_milk_h⟩
/-! ### i_dealt -/
noncomputable def i_dealt_c : Code := (Go.Proofs.Try.f54.body).getD .skip
noncomputable def i_dealt_h : Nat → Option (List Hint)
  | 4 => some [.cell 5 (.row 100005 (.int .i64) true true), .cell 6 (.row 100006 (.int .i64) true false), .keep 7]
  | _ => none
noncomputable def i_dealt_fi : Fi := ⟨[.v (.slice (.int .i64)) false, .v (.int .i64) false], [(false, [⟨.slice (.int .i64), some (true, true)⟩])], none, i_dealt_c, Go.Proofs.Try.f54.results.toList, 35, i_dealt_h⟩
/-! ### i_TurnCard -/
noncomputable def i_TurnCard_c : Code := (Go.Proofs.Try.f50.body).getD .skip
noncomputable def i_TurnCard_h : Nat → Option (List Hint)
  | _ => none
noncomputable def i_TurnCard_fi : Fi := ⟨[.v (.int .i64) false], [(false, [⟨.int .i64, none⟩])], none, i_TurnCard_c, Go.Proofs.Try.f50.results.toList, 9, i_TurnCard_h⟩
/-! ### i_moved -/
noncomputable def i_moved_c : Code := (Go.Proofs.Try.f36.body).getD .skip
noncomputable def i_moved_h : Nat → Option (List Hint)
  | 10 => some [.keep 5, .cell 6 (.row 100006 (.int .i64) true false), .keep 7]
  | _ => none
noncomputable def i_moved_fi : Fi := ⟨[.v (.slice (.int .i64)) false, .v (.pair (.int .i64) (.int .i64)) true], [(false, [⟨.slice (.int .i64), some (true, false)⟩])], none, i_moved_c, Go.Proofs.Try.f36.results.toList, 106, i_moved_h⟩
/-! ### i_cuts -/
noncomputable def i_cuts_c : Code := (Go.Proofs.Try.f35.body).getD .skip
noncomputable def i_cuts_h : Nat → Option (List Hint)
  | 3 => some [.keep 0, .cell 3 (.row 100003 (.slice (.int .i64)) true true), .keep 6, .keep 7]
  | _ => none
noncomputable def i_cuts_fi : Fi := ⟨[.v (.slice (.int .i64)) false], [(false, [⟨.slice (.slice (.int .i64)), some (true, true)⟩])], none, i_cuts_c, Go.Proofs.Try.f35.results.toList, 19, i_cuts_h⟩
/-! ### i_riffled -/
noncomputable def i_riffled_c : Code := (Go.Proofs.Try.f22.body).getD .skip
noncomputable def i_riffled_h : Nat → Option (List Hint)
  | 3 => some [.keep 0, .keep 1, .keep 5, .keep 6, .keep 11, .keep 12]
  | 9 => some [.keep 0, .keep 1, .keep 5, .keep 6, .cell 8 (.row 100008 (.int .i64) true true), .keep 24, .keep 25]
  | _ => none
noncomputable def i_riffled_fi : Fi := ⟨[.v (.slice (.int .i64)) false, .v (.int .i64) false], [(false, [⟨.slice (.int .i64), some (true, true)⟩])], none, i_riffled_c, Go.Proofs.Try.f22.results.toList, 53, i_riffled_h⟩
/-! ### i_all -/
noncomputable def i_all_c : Code := (Go.Proofs.Try.f17.body).getD .skip
noncomputable def i_all_h : Nat → Option (List Hint)
  | 9 => some [.keep 0, .cell 6 (.row 100006 (.slice (.int .i64)) true true), .keep 7]
  | 20 => some [.keep 0, .cell 8 (.row 100008 (.slice (.int .i64)) true true), .keep 48, .keep 49]
  | _ => none
noncomputable def i_all_fi : Fi := ⟨[.v (.slice (.int .i64)) false, .v (.int .i64) false], [(false, [⟨.slice (.slice (.int .i64)), some (true, false)⟩]), (false, [⟨.bool, none⟩])], none, i_all_c, Go.Proofs.Try.f17.results.toList, 71, i_all_h⟩
/-! ### slices_SortFunc_int_int -/
noncomputable abbrev slices_SortFunc_int_int_fi : Fi := (sortFi 39)
/-! ### slices_CompactFunc_int_int -/
noncomputable abbrev slices_CompactFunc_int_int_fi : Fi := compactFi
/-! ### i_SortPackets -/
noncomputable def i_SortPackets_c : Code := (Go.Proofs.Try.f18.body).getD .skip
noncomputable def i_SortPackets_h : Nat → Option (List Hint)
  | 3 => some [.cell 3 (.row 100003 (.slice (.int .i64)) true true), .keep 6, .keep 7, .keep 8]
  | _ => none
noncomputable def i_SortPackets_fi : Fi := ⟨[.v (.slice (.slice (.int .i64))) false], [(false, [⟨.slice (.slice (.int .i64)), some (true, false)⟩])], none, i_SortPackets_c, Go.Proofs.Try.f18.results.toList, 22, i_SortPackets_h⟩
/-! ### i_ResultsOf -/
noncomputable def i_ResultsOf_c : Code := (Go.Proofs.Try.f5.body).getD .skip
noncomputable def i_ResultsOf_h : Nat → Option (List Hint)
  | _ => none
noncomputable def i_ResultsOf_fi : Fi := ⟨[.v (.slice (.int .i64)) false, .v (.int .i64) false], [(false, [⟨.slice (.slice (.int .i64)), some (true, false)⟩]), (false, [⟨.bool, none⟩])], none, i_ResultsOf_c, Go.Proofs.Try.f5.results.toList, 33, i_ResultsOf_h⟩
/-! ### slices_Index_int -/
noncomputable def slices_Index_int_c : Code := (Go.Proofs.Try.f31.body).getD .skip
noncomputable def slices_Index_int_h : Nat → Option (List Hint)
  | 2 => some [.keep 0, .keep 1, .keep 7, .keep 8]
  | _ => none
noncomputable def slices_Index_int_fi : Fi := ⟨[.v (.slice (.int .i64)) false, .v (.int .i64) false], [(false, [⟨.int .i64, none⟩])], none, slices_Index_int_c, Go.Proofs.Try.f31.results.toList, 19, slices_Index_int_h⟩
/-! ### slices_Contains_int -/
noncomputable def slices_Contains_int_c : Code := (Go.Proofs.Try.f41.body).getD .skip
noncomputable def slices_Contains_int_h : Nat → Option (List Hint)
  | _ => none
noncomputable def slices_Contains_int_fi : Fi := ⟨[.v (.slice (.int .i64)) false, .v (.int .i64) false], [(false, [⟨.bool, none⟩])], none, slices_Contains_int_c, Go.Proofs.Try.f41.results.toList, 9, slices_Contains_int_h⟩
/-! ### i_isPrefix -/
noncomputable def i_isPrefix_c : Code := (Go.Proofs.Try.f20.body).getD .skip
noncomputable def i_isPrefix_h : Nat → Option (List Hint)
  | 4 => some [.keep 0, .keep 1, .keep 13, .keep 14, .keep 15]
  | _ => none
noncomputable def i_isPrefix_fi : Fi := ⟨[.v (.int .i64) false, .v (.slice (.int .i64)) false], [(false, [⟨.bool, none⟩])], none, i_isPrefix_c, Go.Proofs.Try.f20.results.toList, 35, i_isPrefix_h⟩
/-! ### slices_Equal_int -/
noncomputable def slices_Equal_int_c : Code := (Go.Proofs.Try.f21.body).getD .skip
noncomputable def slices_Equal_int_h : Nat → Option (List Hint)
  | 4 => some [.keep 0, .keep 1, .keep 12, .keep 13]
  | _ => none
noncomputable def slices_Equal_int_fi : Fi := ⟨[.v (.slice (.int .i64)) false, .v (.slice (.int .i64)) false], [(false, [⟨.bool, none⟩])], none, slices_Equal_int_c, Go.Proofs.Try.f21.results.toList, 26, slices_Equal_int_h⟩
/-! ### i_WaysWith -/
noncomputable def i_WaysWith_c : Code := (Go.Proofs.Try.f7.body).getD .skip
noncomputable def i_WaysWith_h : Nat → Option (List Hint)
  | 5 => some [.keep 0, .keep 1, .cell 5 (.row 100005 (.int .i64) true true), .keep 6, .keep 7]
  | _ => none
noncomputable def i_WaysWith_fi : Fi := ⟨[.v (.int .i64) false, .v (.slice (.int .i64)) false], [(false, [⟨.int .i64, none⟩])], none, i_WaysWith_c, Go.Proofs.Try.f7.results.toList, 31, i_WaysWith_h⟩
/-! ### i_PermOk -/
noncomputable def i_PermOk_c : Code := (Go.Proofs.Try.f42.body).getD .skip
noncomputable def i_PermOk_h : Nat → Option (List Hint)
  | 2 => some [.keep 0, .keep 5, .keep 6, .keep 7]
  | _ => none
noncomputable def i_PermOk_fi : Fi := ⟨[.v (.slice (.int .i64)) false], [(false, [⟨.bool, none⟩])], none, i_PermOk_c, Go.Proofs.Try.f42.results.toList, 31, i_PermOk_h⟩
/-! ### i_inverse -/
noncomputable def i_inverse_c : Code := (Go.Proofs.Try.f43.body).getD .skip
noncomputable def i_inverse_h : Nat → Option (List Hint)
  | 3 => some [.cell 3 (.row 100003 (.int .i64) true false), .keep 9, .keep 10, .keep 11]
  | _ => none
noncomputable def i_inverse_fi : Fi := ⟨[.v (.slice (.int .i64)) false], [(false, [⟨.slice (.int .i64), some (true, false)⟩])], none, i_inverse_c, Go.Proofs.Try.f43.results.toList, 22, i_inverse_h⟩
/-! ### i_RisingSequences -/
noncomputable def i_RisingSequences_c : Code := (Go.Proofs.Try.f24.body).getD .skip
noncomputable def i_RisingSequences_h : Nat → Option (List Hint)
  | 6 => some [.cell 3 (.row 450003 (.slice (.int .i64)) true false), .cell 4 (.row 100004 (.int .i64) true false), .keep 12, .keep 13]
  | _ => none
noncomputable def i_RisingSequences_fi : Fi := ⟨[.v (.slice (.int .i64)) false], [(false, [⟨.slice (.slice (.int .i64)), some (true, false)⟩])], none, i_RisingSequences_c, Go.Proofs.Try.f24.results.toList, 49, i_RisingSequences_h⟩
/-! ### i_IsRiffle -/
noncomputable def i_IsRiffle_c : Code := (Go.Proofs.Try.f23.body).getD .skip
noncomputable def i_IsRiffle_h : Nat → Option (List Hint)
  | _ => none
noncomputable def i_IsRiffle_fi : Fi := ⟨[.v (.slice (.int .i64)) false], [(false, [⟨.bool, none⟩])], none, i_IsRiffle_c, Go.Proofs.Try.f23.results.toList, 11, i_IsRiffle_h⟩
/-! ### i_RiffleWays -/
noncomputable def i_RiffleWays_c : Code := (Go.Proofs.Try.f8.body).getD .skip
noncomputable def i_RiffleWays_h : Nat → Option (List Hint)
  | _ => none
noncomputable def i_RiffleWays_fi : Fi := ⟨[.v (.slice (.int .i64)) false], [(false, [⟨.int .i64, none⟩])], none, i_RiffleWays_c, Go.Proofs.Try.f8.results.toList, 15, i_RiffleWays_h⟩
/-! ### i_NextWays -/
noncomputable def i_NextWays_c : Code := (Go.Proofs.Try.f11.body).getD .skip
noncomputable def i_NextWays_h : Nat → Option (List Hint)
  | 5 => some [.keep 0, .keep 1, .cell 5 (.row 100005 (.int .i64) true true), .cell 6 (.row 100006 (.int .i64) true false), .keep 7]
  | _ => none
noncomputable def i_NextWays_fi : Fi := ⟨[.v (.int .i64) false, .v (.slice (.int .i64)) false], [(false, [⟨.slice (.int .i64), some (true, true)⟩])], none, i_NextWays_c, Go.Proofs.Try.f11.results.toList, 49, i_NextWays_h⟩
/-! ### slices_Max_int -/
noncomputable def slices_Max_int_c : Code := (Go.Proofs.Try.f30.body).getD .skip
noncomputable def slices_Max_int_h : Nat → Option (List Hint)
  | 5 => some [.keep 0, .keep 3, .keep 4]
  | _ => none
noncomputable def slices_Max_int_fi : Fi := ⟨[.v (.slice (.int .i64)) false], [(false, [⟨.int .i64, none⟩])], none, slices_Max_int_c, Go.Proofs.Try.f30.results.toList, 25, slices_Max_int_h⟩
/-! ### i_BestGuess -/
noncomputable def i_BestGuess_c : Code := (Go.Proofs.Try.f12.body).getD .skip
noncomputable def i_BestGuess_h : Nat → Option (List Hint)
  | _ => none
noncomputable def i_BestGuess_fi : Fi := ⟨[.v (.int .i64) false, .v (.slice (.int .i64)) false], [(false, [⟨.int .i64, none⟩])], none, i_BestGuess_c, Go.Proofs.Try.f12.results.toList, 20, i_BestGuess_h⟩
/-! ### i_GuessRun -/
noncomputable def i_GuessRun_c : Code := (Go.Proofs.Try.f9.body).getD .skip
noncomputable def i_GuessRun_h : Nat → Option (List Hint)
  | 5 => some [.keep 0, .keep 3, .keep 19, .keep 20, .keep 21]
  | _ => none
noncomputable def i_GuessRun_fi : Fi := ⟨[.v (.slice (.int .i64)) false], [(false, [⟨.int .i64, none⟩])], none, i_GuessRun_c, Go.Proofs.Try.f9.results.toList, 38, i_GuessRun_h⟩
/-! ### s_l01Below -/
noncomputable def s_l01Below_c : Code := (Go.Proofs.Try.f26.body).getD .skip
noncomputable def s_l01Below_h : Nat → Option (List Hint)
  | _ => none
noncomputable def s_l01Below_fi : Fi := ⟨[.p (.slice (.int .u8)) (.pair (.int .i64) (.int .i64)), .v (.int .i64) false], [(false, [⟨.int .i64, none⟩])], none, s_l01Below_c, Go.Proofs.Try.f26.results.toList, 37, s_l01Below_h⟩
/-! ### s_l01In -/
noncomputable def s_l01In_c : Code := (Go.Proofs.Try.f48.body).getD .skip
noncomputable def s_l01In_h : Nat → Option (List Hint)
  | _ => none
noncomputable def s_l01In_fi : Fi := ⟨[.v (.int .i64) false, .v (.int .i64) false, .v (.int .i64) false], [(false, [⟨.bool, none⟩])], none, s_l01In_c, Go.Proofs.Try.f48.results.toList, 15, s_l01In_h⟩
/-! ### s_NewPacket -/
noncomputable def s_NewPacket_c : Code := (Go.Proofs.Try.f29.body).getD .skip
noncomputable def s_NewPacket_h : Nat → Option (List Hint)
  | 5 => some [.keep 0, .cell 3 (.row 100003 (.int .i64) true false), .keep 4]
  | _ => none
noncomputable def s_NewPacket_fi : Fi := ⟨[.v (.int .i64) false], [(false, [⟨.slice (.int .i64), some (true, true)⟩])], none, s_NewPacket_c, Go.Proofs.Try.f29.results.toList, 19, s_NewPacket_h⟩
/-! ### s_CardOf -/
noncomputable def s_CardOf_c : Code := (Go.Proofs.Try.f79.body).getD .skip
noncomputable def s_CardOf_h : Nat → Option (List Hint)
  | _ => none
noncomputable def s_CardOf_fi : Fi := ⟨[.v (.int .i64) false], [(false, [⟨.int .i64, none⟩])], none, s_CardOf_c, Go.Proofs.Try.f79.results.toList, 10, s_CardOf_h⟩
/-! ### s_TurnCard -/
noncomputable def s_TurnCard_c : Code := (Go.Proofs.Try.f62.body).getD .skip
noncomputable def s_TurnCard_h : Nat → Option (List Hint)
  | _ => none
noncomputable def s_TurnCard_fi : Fi := ⟨[.v (.int .i64) false], [(false, [⟨.int .i64, none⟩])], none, s_TurnCard_c, Go.Proofs.Try.f62.results.toList, 9, s_TurnCard_h⟩
/-! ### s_l04Back -/
noncomputable def s_l04Back_c : Code := (Go.Proofs.Try.f47.body).getD .skip
noncomputable def s_l04Back_h : Nat → Option (List Hint)
  | 3 => some [.keep 0, .keep 1, .keep 2, .cell 7 (.row 100007 (.int .i64) true false), .keep 8]
  | _ => none
noncomputable def s_l04Back_fi : Fi := ⟨[.v (.slice (.int .i64)) false, .v (.int .i64) false, .v (.bool) false], [(false, [⟨.slice (.int .i64), some (true, false)⟩])], none, s_l04Back_c, Go.Proofs.Try.f47.results.toList, 37, s_l04Back_h⟩
/-! ### s_l04Faro -/
noncomputable def s_l04Faro_c : Code := (Go.Proofs.Try.f75.body).getD .skip
noncomputable def s_l04Faro_h : Nat → Option (List Hint)
  | 4 => some [.keep 1, .keep 5, .keep 6, .cell 7 (.row 100007 (.int .i64) true false)]
  | _ => none
noncomputable def s_l04Faro_fi : Fi := ⟨[.v (.slice (.int .i64)) false, .v (.int .i64) false], [(false, [⟨.slice (.int .i64), some (true, false)⟩])], none, s_l04Faro_c, Go.Proofs.Try.f75.results.toList, 59, s_l04Faro_h⟩
/-! ### s_l04Monge -/
noncomputable def s_l04Monge_c : Code := (Go.Proofs.Try.f76.body).getD .skip
noncomputable def s_l04Monge_h : Nat → Option (List Hint)
  | 3 => some [.keep 1, .cell 5 (.row 100005 (.int .i64) true false), .keep 9, .keep 10, .keep 11]
  | _ => none
noncomputable def s_l04Monge_fi : Fi := ⟨[.v (.slice (.int .i64)) false, .v (.int .i64) false], [(false, [⟨.slice (.int .i64), some (true, false)⟩])], none, s_l04Monge_c, Go.Proofs.Try.f76.results.toList, 34, s_l04Monge_h⟩
/-! ### s_l04Milk -/
noncomputable def s_l04Milk_c : Code := (Go.Proofs.Try.f77.body).getD .skip
noncomputable def s_l04Milk_h : Nat → Option (List Hint)
  | 2 => some [.keep 0, .cell 3 (.row 100003 (.int .i64) true false)]
  | _ => none
noncomputable def s_l04Milk_fi : Fi := ⟨[.v (.slice (.int .i64)) false], [(false, [⟨.slice (.int .i64), some (true, false)⟩])], none, s_l04Milk_c, Go.Proofs.Try.f77.results.toList, 30, s_l04Milk_h⟩
/-! ### s_l04Duck -/
noncomputable def s_l04Duck_c : Code := (Go.Proofs.Try.f78.body).getD .skip
noncomputable def s_l04Duck_h : Nat → Option (List Hint)
  | 4 => some [.cell 5 (.row 100005 (.int .i64) true false), .cell 6 (.row 100006 (.int .i64) true false), .keep 7]
  | _ => none
noncomputable def s_l04Duck_fi : Fi := ⟨[.v (.slice (.int .i64)) false, .v (.int .i64) false], [(false, [⟨.slice (.int .i64), some (true, false)⟩])], none, s_l04Duck_c, Go.Proofs.Try.f78.results.toList, 41, s_l04Duck_h⟩
/-! ### s_l04Do -/
noncomputable def s_l04Do_c : Code := (Go.Proofs.Try.f61.body).getD .skip
noncomputable def s_l04Do_h : Nat → Option (List Hint)
  | _ => none
noncomputable def s_l04Do_fi : Fi := ⟨[.v (.slice (.int .i64)) false, .v (.pair (.int .i64) (.int .i64)) true], [(false, [⟨.slice (.int .i64), some (true, false)⟩])], none, s_l04Do_c, Go.Proofs.Try.f61.results.toList, 90, s_l04Do_h⟩
/-! ### s_l05Cuts -/
noncomputable def s_l05Cuts_c : Code := (Go.Proofs.Try.f45.body).getD .skip
noncomputable def s_l05Cuts_h : Nat → Option (List Hint)
  | 3 => some [.keep 0, .cell 3 (.row 100003 (.slice (.int .i64)) true false), .keep 7, .keep 8]
  | _ => none
noncomputable def s_l05Cuts_fi : Fi := ⟨[.v (.slice (.int .i64)) false], [(false, [⟨.slice (.slice (.int .i64)), some (true, false)⟩])], none, s_l05Cuts_c, Go.Proofs.Try.f45.results.toList, 20, s_l05Cuts_h⟩
/-! ### s_l05Weave -/
noncomputable def s_l05Weave_c : Code := (Go.Proofs.Try.f46.body).getD .skip
noncomputable def s_l05Weave_h : Nat → Option (List Hint)
  | 999999 => some []
  | _ => none
noncomputable def s_l05Weave_fi : Fi := ⟨[.v (.slice (.slice (.int .i64))) false, .v (.slice (.int .i64)) false, .v (.slice (.int .i64)) false, .v (.slice (.int .i64)) false], [(false, [⟨.slice (.slice (.int .i64)), some (false, false)⟩])], none, s_l05Weave_c, Go.Proofs.Try.f46.results.toList, 54, s_l05Weave_h⟩
/-! ### s_l05Of -/
noncomputable def s_l05Of_c : Code := (Go.Proofs.Try.f28.body).getD .skip
noncomputable def s_l05Of_h : Nat → Option (List Hint)
  | 7 => some [.keep 0, .cell 5 (.row 100005 (.slice (.int .i64)) false false), .keep 6]
  | 15 => some [.keep 0, .cell 5 (.row 100005 (.slice (.int .i64)) true false), .keep 40, .keep 41, .keep 42]
  | _ => none
noncomputable def s_l05Of_fi : Fi := ⟨[.v (.slice (.int .i64)) false, .v (.int .i64) false], [(false, [⟨.slice (.slice (.int .i64)), some (false, false)⟩])], none, s_l05Of_c, Go.Proofs.Try.f28.results.toList, 69, s_l05Of_h⟩
/-! ### s_SamePacket -/
noncomputable def s_SamePacket_c : Code := (Go.Proofs.Try.f60.body).getD .skip
noncomputable def s_SamePacket_h : Nat → Option (List Hint)
  | 4 => some [.keep 1, .keep 12, .keep 13, .keep 14]
  | _ => none
noncomputable def s_SamePacket_fi : Fi := ⟨[.v (.slice (.int .i64)) false, .v (.slice (.int .i64)) false], [(false, [⟨.bool, none⟩])], none, s_SamePacket_c, Go.Proofs.Try.f60.results.toList, 26, s_SamePacket_h⟩
/-! ### s_l05Less -/
noncomputable def s_l05Less_c : Code := (Go.Proofs.Try.f59.body).getD .skip
noncomputable def s_l05Less_h : Nat → Option (List Hint)
  | 2 => some [.keep 0, .keep 1, .keep 7, .keep 8, .keep 9]
  | _ => none
noncomputable def s_l05Less_fi : Fi := ⟨[.v (.slice (.int .i64)) false, .v (.slice (.int .i64)) false], [(false, [⟨.bool, none⟩])], none, s_l05Less_c, Go.Proofs.Try.f59.results.toList, 36, s_l05Less_h⟩
/-! ### s_l05Merge -/
noncomputable def s_l05Merge_c : Code := (Go.Proofs.Try.f44.body).getD .skip
noncomputable def s_l05Merge_h : Nat → Option (List Hint)
  | 2 => some [.keep 0, .keep 1, .cell 5 (.row 450005 (.slice (.int .i64)) true false)]
  | _ => none
noncomputable def s_l05Merge_fi : Fi := ⟨[.v (.slice (.slice (.int .i64))) false, .v (.slice (.slice (.int .i64))) false], [(false, [⟨.slice (.slice (.int .i64)), some (true, false)⟩])], none, s_l05Merge_c, Go.Proofs.Try.f44.results.toList, 66, s_l05Merge_h⟩
/-! ### s_SortPackets -/
noncomputable def s_SortPackets_c : Code := (Go.Proofs.Try.f27.body).getD .skip
noncomputable def s_SortPackets_h : Nat → Option (List Hint)
  | _ => none
noncomputable def s_SortPackets_fi : Fi := ⟨[.v (.slice (.slice (.int .i64))) false], [(false, [⟨.slice (.slice (.int .i64)), some (true, false)⟩])], none, s_SortPackets_c, Go.Proofs.Try.f27.results.toList, 21, s_SortPackets_h⟩
/-! ### s_MakeRiffle -/
noncomputable def s_MakeRiffle_c : Code := (Go.Proofs.Try.f10.body).getD .skip
noncomputable def s_MakeRiffle_h : Nat → Option (List Hint)
  | _ => none
noncomputable def s_MakeRiffle_fi : Fi := ⟨[.v (.slice (.int .u8)) false], [(false, [⟨.slice (.int .i64), none⟩])], none, s_MakeRiffle_c, Go.Proofs.Try.f10.results.toList, 22, s_MakeRiffle_h⟩
/-! ### i_total -/
noncomputable def i_total_c : Code := (Go.Proofs.Try.f32.body).getD .skip
noncomputable def i_total_h : Nat → Option (List Hint)
  | 6 => some [.keep 0, .keep 1, .keep 6, .cell 16 (.row 100016 (.int .i64) true true), .keep 17, .keep 18]
  | _ => none
noncomputable def i_total_fi : Fi := ⟨[.v (.int .i64) false, .v (.slice (.int .i64)) false], [(false, [⟨.int .i64, none⟩])], none, i_total_c, Go.Proofs.Try.f32.results.toList, 36, i_total_h⟩
/-! ### i_GuessTotal -/
noncomputable def i_GuessTotal_c : Code := (Go.Proofs.Try.f13.body).getD .skip
noncomputable def i_GuessTotal_h : Nat → Option (List Hint)
  | _ => none
noncomputable def i_GuessTotal_fi : Fi := ⟨[.v (.int .i64) false], [(false, [⟨.int .i64, none⟩])], none, i_GuessTotal_c, Go.Proofs.Try.f13.results.toList, 11, i_GuessTotal_h⟩
/-! ### w_FnGuesses -/
noncomputable def w_FnGuesses_c : Code := (Go.Proofs.Try.f3.body).getD .skip
noncomputable def w_FnGuesses_h : Nat → Option (List Hint)
  | 9 => some [.keep 0, .keep 3, .keep 6, .cell 41 (.row 100041 (.slice (.int .i64)) false false), .keep 42, .keep 43]
  | 23 => some [.keep 3, .keep 6, .keep 11, .keep 12, .cell 13 (.val (.slice (.int .i64))), .keep 14, .keep 15, .cell 88 (.val (.slice (.int .i64))), .keep 89, .keep 90]
  | _ => none
noncomputable def w_FnGuesses_fi : Fi := ⟨[.v (.slice (.int .u8)) false], [(false, [⟨.bool, none⟩])], none, w_FnGuesses_c, Go.Proofs.Try.f3.results.toList, 146, w_FnGuesses_h⟩

noncomputable def fnL : List (Nat × List Nat × Fi) := [(25, [], s_l01New_fi),
  (15, [], s_l01Byte_fi),
  (14, [], s_l23New_fi),
  (4, [], s_MakeNum_fi),
  (19, [], i_upTo_fi),
  (6, [], i_NewPacket_fi),
  (33, [], i_CardOf_fi),
  (16, [], i_PacketOk_fi),
  (34, [], slices_Clone_int_fi),
  (55, [], slices_Grow_int_fi),
  (37, [], slices_Concat_int_fi),
  (63, [], slices_Reverse_int_fi),
  (49, [], i_reversed_fi),
  (51, [], i_faro_fi),
  (52, [], i_monge_fi),
  (53, [], i_milk_fi),
  (54, [], i_dealt_fi),
  (50, [], i_TurnCard_fi),
  (36, [], i_moved_fi),
  (35, [], i_cuts_fi),
  (22, [], i_riffled_fi),
  (17, [], i_all_fi),
  (38, [39], slices_SortFunc_int_int_fi),
  (40, [21], slices_CompactFunc_int_int_fi),
  (18, [], i_SortPackets_fi),
  (5, [], i_ResultsOf_fi),
  (31, [], slices_Index_int_fi),
  (41, [], slices_Contains_int_fi),
  (20, [], i_isPrefix_fi),
  (21, [], slices_Equal_int_fi),
  (7, [], i_WaysWith_fi),
  (42, [], i_PermOk_fi),
  (43, [], i_inverse_fi),
  (24, [], i_RisingSequences_fi),
  (23, [], i_IsRiffle_fi),
  (8, [], i_RiffleWays_fi),
  (11, [], i_NextWays_fi),
  (30, [], slices_Max_int_fi),
  (12, [], i_BestGuess_fi),
  (9, [], i_GuessRun_fi),
  (26, [], s_l01Below_fi),
  (48, [], s_l01In_fi),
  (29, [], s_NewPacket_fi),
  (79, [], s_CardOf_fi),
  (62, [], s_TurnCard_fi),
  (47, [], s_l04Back_fi),
  (75, [], s_l04Faro_fi),
  (76, [], s_l04Monge_fi),
  (77, [], s_l04Milk_fi),
  (78, [], s_l04Duck_fi),
  (61, [], s_l04Do_fi),
  (45, [], s_l05Cuts_fi),
  (46, [], s_l05Weave_fi),
  (28, [], s_l05Of_fi),
  (60, [], s_SamePacket_fi),
  (59, [], s_l05Less_fi),
  (44, [], s_l05Merge_fi),
  (27, [], s_SortPackets_fi),
  (10, [], s_MakeRiffle_fi),
  (32, [], i_total_fi),
  (13, [], i_GuessTotal_fi),
  (3, [], w_FnGuesses_fi)]
noncomputable def E : Env := ⟨lookT tyL, lookF fnL⟩

noncomputable def s_l01New (k : Nat) (x : List Int) : Option ((List Int) × Int × Int) := aFn E s_l01New_fi k x
noncomputable def s_l01New_l3 (k : Nat) (v0 : List Int) (v3 : Int) (v4 : Int) : Option ((List Int) × Int × Int) := aRun E k s_l01New_fi.rs (ioOf s_l01New_fi.ps) s_l01New_fi.res s_l01New_fi.hints [.code (sub s_l01New_c [1, 1, 0, 1, 0, 0, 0, 0]), .code (sub s_l01New_c [1, 1, 0, 1, 0, 0, 0, 1]), .code (sub s_l01New_c [1, 1, 0, 1, 0, 0, 1]), .inLoop (sub s_l01New_c [1, 1, 0, 1, 0, 0]), .inBlock 0, .code (sub s_l01New_c [1, 1, 1])] ⟨[.cv (.val (.slice (.int .u8)) v0), .cv .dead, .cv .dead, .cv (.val (.int .i64) v3), .cv (.val (.int .i64) v4), .cv .dead, .cv .dead, .cv .dead, .cv .dead, .cv .dead, .cv .dead, .cv .dead, .cv .dead, .cv .dead, .cv .dead, .cv .dead, .cv .dead, .cv .dead, .cv .dead, .cv .dead, .cv .dead, .cv .dead, .cv .dead, .cv .dead, .cv .dead, .cv .dead, .cv .dead, .cv .dead, .cv .dead, .cv .dead, .cv .dead, .cv .dead], [], true⟩
noncomputable def s_l01Byte (k : Nat) (x : (List Int) × Int × Int) : Option ((Int) × (List Int) × Int × Int) := aFn E s_l01Byte_fi k x
noncomputable def s_l23New (k : Nat) (x : (List Int) × Int) : Option ((List Int) × Int × Int) := aFn E s_l23New_fi k x
noncomputable def s_l23New_l3 (k : Nat) (v1 : Int) (v6 : Int) (o200005_0 : List Int) (o200005_1 : Int) (o200005_2 : Int) : Option ((List Int) × Int × Int) := aRun E k s_l23New_fi.rs (ioOf s_l23New_fi.ps) s_l23New_fi.res s_l23New_fi.hints [.code (sub s_l23New_c [1, 1, 0, 1, 0, 0, 0, 0]), .code (sub s_l23New_c [1, 1, 0, 1, 0, 0, 0, 1]), .code (sub s_l23New_c [1, 1, 0, 1, 0, 0, 1]), .inLoop (sub s_l23New_c [1, 1, 0, 1, 0, 0]), .inBlock 0, .code (sub s_l23New_c [1, 1, 1])] ⟨[.cv .dead, .cv (.val (.int .i64) v1), .cv .dead, .cv .dead, .cv .dead, .adr 200005 0, .cv (.val (.int .i64) v6), .cv .dead, .cv .dead, .cv .dead, .cv .dead, .cv .dead, .cv .dead, .cv .dead, .cv .dead, .cv .dead, .cv .dead], [(200005, .box [.val (.slice (.int .u8)) o200005_0, .val (.int .i64) o200005_1, .val (.int .i64) o200005_2])], true⟩
noncomputable def s_MakeNum (k : Nat) (x : (List Int) × Int) : Option (Int) := aFn E s_MakeNum_fi k x
noncomputable def i_upTo (k : Nat) (x : Int) : Option (List Int) := aFn E i_upTo_fi k x
noncomputable def i_upTo_l3 (k : Nat) (v0 : Int) (v4 : Int) (o100003 : List Int) : Option (List Int) := aRun E k i_upTo_fi.rs (ioOf i_upTo_fi.ps) i_upTo_fi.res i_upTo_fi.hints [.code (sub i_upTo_c [1, 1, 0, 1, 0, 0, 0, 0]), .code (sub i_upTo_c [1, 1, 0, 1, 0, 0, 0, 1]), .code (sub i_upTo_c [1, 1, 0, 1, 0, 0, 1]), .inLoop (sub i_upTo_c [1, 1, 0, 1, 0, 0]), .inBlock 0, .code (sub i_upTo_c [1, 1, 1])] ⟨[.cv (.val (.int .i64) v0), .cv .dead, .cv .dead, .cv (.own 100003), .cv (.val (.int .i64) v4), .cv .dead, .cv .dead, .cv .dead, .cv .dead, .cv .dead, .cv .dead, .cv .dead, .cv .dead, .cv .dead, .cv .dead], [(100003, .row (.int .i64) o100003 true true)], true⟩
noncomputable def i_NewPacket (k : Nat) (x : Int) : Option (List Int) := aFn E i_NewPacket_fi k x
noncomputable def i_CardOf (k : Nat) (x : Int) : Option (Int) := aFn E i_CardOf_fi k x
noncomputable def i_PacketOk (k : Nat) (x : List Int) : Option (Bool) := aFn E i_PacketOk_fi k x
noncomputable def i_PacketOk_l3 (k : Nat) (v7 : List Int) (v8 : Int) (v9 : Int) (o400003 : List Bool) : Option (Bool) := aRun E k i_PacketOk_fi.rs (ioOf i_PacketOk_fi.ps) i_PacketOk_fi.res i_PacketOk_fi.hints [.code (sub i_PacketOk_c [1, 1, 0, 1, 0, 0, 0]), .code (sub i_PacketOk_c [1, 1, 0, 1, 0, 0, 1]), .inLoop (sub i_PacketOk_c [1, 1, 0, 1, 0, 0]), .inBlock 0, .code (sub i_PacketOk_c [1, 1, 1])] ⟨[.cv .dead, .cv .dead, .cv .dead, .adr 400003 0, .cv .dead, .cv .dead, .cv .dead, .cv (.val (.slice (.int .i64)) v7), .cv (.val (.int .i64) v8), .cv (.val (.int .i64) v9), .cv .dead, .cv .dead, .cv .dead, .cv .dead, .cv .dead, .cv .dead, .cv .dead, .cv .dead, .cv .dead, .cv .dead, .cv .dead, .cv .dead, .cv .dead, .cv .dead, .cv .dead], [(400003, .arr (.bool) o400003)], true⟩
noncomputable def slices_Clone_int (k : Nat) (x : List Int) : Option (List Int) := aFn E slices_Clone_int_fi k x
noncomputable def slices_Grow_int (k : Nat) (x : (List Int) × Int) : Option (List Int) := aFn E slices_Grow_int_fi k x
noncomputable def slices_Concat_int (k : Nat) (x : List (List Int)) : Option (List Int) := aFn E slices_Concat_int_fi k x
noncomputable def slices_Concat_int_l3 (k : Nat) (v0 : List (List Int)) (v3 : Int) (v9 : List (List Int)) (v10 : Int) (v11 : Int) : Option (List Int) := aRun E k slices_Concat_int_fi.rs (ioOf slices_Concat_int_fi.ps) slices_Concat_int_fi.res slices_Concat_int_fi.hints [.code (sub slices_Concat_int_c [1, 1, 0, 1, 0, 0, 0]), .code (sub slices_Concat_int_c [1, 1, 0, 1, 0, 0, 1]), .inLoop (sub slices_Concat_int_c [1, 1, 0, 1, 0, 0]), .inBlock 0, .code (sub slices_Concat_int_c [1, 1, 1])] ⟨[.cv (.val (.slice (.slice (.int .i64))) v0), .cv .dead, .cv .dead, .cv (.val (.int .i64) v3), .cv .dead, .cv .dead, .cv .dead, .cv .dead, .cv .dead, .cv (.val (.slice (.slice (.int .i64))) v9), .cv (.val (.int .i64) v10), .cv (.val (.int .i64) v11), .cv .dead, .cv .dead, .cv .dead, .cv .dead, .cv .dead, .cv .dead, .cv .dead, .cv .dead, .cv .dead, .cv .dead, .cv .dead, .cv .dead, .cv .dead, .cv .dead, .cv .dead, .cv .dead, .cv .dead, .cv .dead, .cv .dead, .cv .dead, .cv .dead, .cv .dead, .cv .dead, .cv .dead], [], true⟩
noncomputable def slices_Concat_int_l11 (k : Nat) (v25 : List (List Int)) (v26 : Int) (v27 : Int) (o100006 : List Int) : Option (List Int) := aRun E k slices_Concat_int_fi.rs (ioOf slices_Concat_int_fi.ps) slices_Concat_int_fi.res slices_Concat_int_fi.hints [.code (sub slices_Concat_int_c [1, 1, 1, 1, 0, 1, 0, 0, 0]), .code (sub slices_Concat_int_c [1, 1, 1, 1, 0, 1, 0, 0, 1]), .inLoop (sub slices_Concat_int_c [1, 1, 1, 1, 0, 1, 0, 0]), .inBlock 2, .code (sub slices_Concat_int_c [1, 1, 1, 1, 1])] ⟨[.cv .dead, .cv .dead, .cv .dead, .cv .dead, .cv .dead, .cv .dead, .cv (.own 100006), .cv .dead, .cv .dead, .cv .dead, .cv .dead, .cv .dead, .cv .dead, .cv .dead, .cv .dead, .cv .dead, .cv .dead, .cv .dead, .cv .dead, .cv .dead, .cv .dead, .cv .dead, .cv .dead, .cv .dead, .cv .dead, .cv (.val (.slice (.slice (.int .i64))) v25), .cv (.val (.int .i64) v26), .cv (.val (.int .i64) v27), .cv .dead, .cv .dead, .cv .dead, .cv .dead, .cv .dead, .cv .dead, .cv .dead, .cv .dead], [(100006, .row (.int .i64) o100006 true false)], true⟩
noncomputable def slices_Reverse_int (k : Nat) (x : List Int) : Option ((Unit) × List Int) := aFn E slices_Reverse_int_fi k x
noncomputable def i_reversed (k : Nat) (x : List Int) : Option (List Int) := aFn E i_reversed_fi k x
noncomputable def i_faro (k : Nat) (x : (List Int) × Int) : Option (List Int) := aFn E i_faro_fi k x
noncomputable def i_faro_l4 (k : Nat) (v5 : List Int) (v6 : List Int) (v8 : Bool) (o100007 : List Int) : Option (List Int) := aRun E k i_faro_fi.rs (ioOf i_faro_fi.ps) i_faro_fi.res i_faro_fi.hints [.code (sub i_faro_c [1, 1, 1, 0, 1, 0, 0, 0, 0]), .code (sub i_faro_c [1, 1, 1, 0, 1, 0, 0, 0, 1]), .code (sub i_faro_c [1, 1, 1, 0, 1, 0, 0, 1]), .inLoop (sub i_faro_c [1, 1, 1, 0, 1, 0, 0]), .inBlock 0, .code (sub i_faro_c [1, 1, 1, 1])] ⟨[.cv .dead, .cv .dead, .cv .dead, .cv .dead, .cv .dead, .cv (.val (.slice (.int .i64)) v5), .cv (.val (.slice (.int .i64)) v6), .cv (.own 100007), .cv (.val (.bool) v8), .cv .dead, .cv .dead, .cv .dead, .cv .dead, .cv .dead, .cv .dead, .cv .dead, .cv .dead, .cv .dead, .cv .dead, .cv .dead, .cv .dead, .cv .dead, .cv .dead, .cv .dead, .cv .dead, .cv .dead, .cv .dead, .cv .dead, .cv .dead, .cv .dead, .cv .dead, .cv .dead, .cv .dead, .cv .dead, .cv .dead, .cv .dead, .cv .dead, .cv .dead, .cv .dead, .cv .dead, .cv .dead, .cv .dead, .cv .dead, .cv .dead, .cv .dead, .cv .dead, .cv .dead, .cv .dead, .cv .dead, .cv .dead, .cv .dead, .cv .dead, .cv .dead, .cv .dead, .cv .dead, .cv .dead, .cv .dead, .cv .dead, .cv .dead], [(100007, .row (.int .i64) o100007 true true)], true⟩
noncomputable def i_monge (k : Nat) (x : (List Int) × Int) : Option (List Int) := aFn E i_monge_fi k x
noncomputable def i_monge_l3 (k : Nat) (v1 : Int) (v8 : List Int) (v9 : Int) (v10 : Int) (o100005 : List Int) : Option (List Int) := aRun E k i_monge_fi.rs (ioOf i_monge_fi.ps) i_monge_fi.res i_monge_fi.hints [.code (sub i_monge_c [1, 1, 0, 1, 0, 0, 0]), .code (sub i_monge_c [1, 1, 0, 1, 0, 0, 1]), .inLoop (sub i_monge_c [1, 1, 0, 1, 0, 0]), .inBlock 0, .code (sub i_monge_c [1, 1, 1])] ⟨[.cv .dead, .cv (.val (.int .i64) v1), .cv .dead, .cv .dead, .cv .dead, .cv (.own 100005), .cv .dead, .cv .dead, .cv (.val (.slice (.int .i64)) v8), .cv (.val (.int .i64) v9), .cv (.val (.int .i64) v10), .cv .dead, .cv .dead, .cv .dead, .cv .dead, .cv .dead, .cv .dead, .cv .dead, .cv .dead, .cv .dead, .cv .dead, .cv .dead, .cv .dead, .cv .dead, .cv .dead, .cv .dead, .cv .dead, .cv .dead, .cv .dead, .cv .dead, .cv .dead, .cv .dead, .cv .dead, .cv .dead], [(100005, .row (.int .i64) o100005 true false)], true⟩
noncomputable def i_milk (k : Nat) (x : List Int) : Option (List Int) := aFn E i_milk_fi k x
noncomputable def i_milk_l2 (k : Nat) (v0 : List Int) (o100003 : List Int) : Option (List Int) := aRun E k i_milk_fi.rs (ioOf i_milk_fi.ps) i_milk_fi.res i_milk_fi.hints [.code (sub i_milk_c [1, 1, 0, 0, 0, 0, 0]), .code (sub i_milk_c [1, 1, 0, 0, 0, 0, 1]), .code (sub i_milk_c [1, 1, 0, 0, 0, 1]), .inLoop (sub i_milk_c [1, 1, 0, 0, 0]), .inBlock 0, .code (sub i_milk_c [1, 1, 1])] ⟨[.cv (.val (.slice (.int .i64)) v0), .cv .dead, .cv .dead, .cv (.own 100003), .cv .dead, .cv .dead, .cv .dead, .cv .dead, .cv .dead, .cv .dead, .cv .dead, .cv .dead, .cv .dead, .cv .dead, .cv .dead, .cv .dead, .cv .dead, .cv .dead, .cv .dead, .cv .dead, .cv .dead, .cv .dead, .cv .dead, .cv .dead, .cv .dead, .cv .dead, .cv .dead, .cv .dead], [(100003, .row (.int .i64) o100003 true false)], true⟩
noncomputable def i_dealt (k : Nat) (x : (List Int) × Int) : Option (List Int) := aFn E i_dealt_fi k x
noncomputable def i_dealt_l4 (k : Nat) (v7 : Bool) (o100005 : List Int) (o100006 : List Int) : Option (List Int) := aRun E k i_dealt_fi.rs (ioOf i_dealt_fi.ps) i_dealt_fi.res i_dealt_fi.hints [.code (sub i_dealt_c [1, 1, 1, 0, 1, 0, 0, 0, 0]), .code (sub i_dealt_c [1, 1, 1, 0, 1, 0, 0, 0, 1]), .code (sub i_dealt_c [1, 1, 1, 0, 1, 0, 0, 1]), .inLoop (sub i_dealt_c [1, 1, 1, 0, 1, 0, 0]), .inBlock 0, .code (sub i_dealt_c [1, 1, 1, 1])] ⟨[.cv .dead, .cv .dead, .cv .dead, .cv .dead, .cv .dead, .cv (.own 100005), .cv (.own 100006), .cv (.val (.bool) v7), .cv .dead, .cv .dead, .cv .dead, .cv .dead, .cv .dead, .cv .dead, .cv .dead, .cv .dead, .cv .dead, .cv .dead, .cv .dead, .cv .dead, .cv .dead, .cv .dead, .cv .dead, .cv .dead, .cv .dead, .cv .dead, .cv .dead, .cv .dead, .cv .dead, .cv .dead, .cv .dead, .cv .dead, .cv .dead, .cv .dead, .cv .dead], [(100005, .row (.int .i64) o100005 true true), (100006, .row (.int .i64) o100006 true false)], true⟩
noncomputable def i_TurnCard (k : Nat) (x : Int) : Option (Int) := aFn E i_TurnCard_fi k x
noncomputable def i_moved (k : Nat) (x : (List Int) × Int × Int) : Option (List Int) := aFn E i_moved_fi k x
noncomputable def i_moved_l10 (k : Nat) (v5 : Int) (v7 : Int) (o100006 : List Int) : Option (List Int) := aRun E k i_moved_fi.rs (ioOf i_moved_fi.ps) i_moved_fi.res i_moved_fi.hints [.code (sub i_moved_c [1, 1, 0, 1, 0, 1, 1, 1, 1, 1, 0, 1, 0, 1, 0, 0, 0, 0]), .code (sub i_moved_c [1, 1, 0, 1, 0, 1, 1, 1, 1, 1, 0, 1, 0, 1, 0, 0, 0, 1]), .code (sub i_moved_c [1, 1, 0, 1, 0, 1, 1, 1, 1, 1, 0, 1, 0, 1, 0, 0, 1]), .inLoop (sub i_moved_c [1, 1, 0, 1, 0, 1, 1, 1, 1, 1, 0, 1, 0, 1, 0, 0]), .inBlock 1, .code (sub i_moved_c [1, 1, 0, 1, 0, 1, 1, 1, 1, 1, 0, 1, 1]), .inBlock 0, .code (sub i_moved_c [1, 1, 1])] ⟨[.cv .dead, .cv .dead, .cv .dead, .cv .dead, .cv .dead, .cv (.val (.int .i64) v5), .cv (.own 100006), .cv (.val (.int .i64) v7), .cv .dead, .cv .dead, .cv .dead, .cv .dead, .cv .dead, .cv .dead, .cv .dead, .cv .dead, .cv .dead, .cv .dead, .cv .dead, .cv .dead, .cv .dead, .cv .dead, .cv .dead, .cv .dead, .cv .dead, .cv .dead, .cv .dead, .cv .dead, .cv .dead, .cv .dead, .cv .dead, .cv .dead, .cv .dead, .cv .dead, .cv .dead, .cv .dead, .cv .dead, .cv .dead, .cv .dead, .cv .dead, .cv .dead, .cv .dead, .cv .dead, .cv .dead, .cv .dead, .cv .dead, .cv .dead, .cv .dead, .cv .dead, .cv .dead, .cv .dead, .cv .dead, .cv .dead, .cv .dead, .cv .dead, .cv .dead, .cv .dead, .cv .dead, .cv .dead, .cv .dead, .cv .dead, .cv .dead, .cv .dead, .cv .dead, .cv .dead, .cv .dead, .cv .dead, .cv .dead, .cv .dead, .cv .dead, .cv .dead, .cv .dead, .cv .dead, .cv .dead, .cv .dead, .cv .dead, .cv .dead, .cv .dead, .cv .dead, .cv .dead, .cv .dead, .cv .dead, .cv .dead, .cv .dead, .cv .dead, .cv .dead, .cv .dead, .cv .dead, .cv .dead, .cv .dead, .cv .dead, .cv .dead, .cv .dead, .cv .dead, .cv .dead, .cv .dead, .cv .dead, .cv .dead, .cv .dead, .cv .dead, .cv .dead, .cv .dead, .cv .dead, .cv .dead, .cv .dead, .cv .dead], [(100006, .row (.int .i64) o100006 true false)], true⟩
noncomputable def i_cuts (k : Nat) (x : List Int) : Option (List (List Int)) := aFn E i_cuts_fi k x
noncomputable def i_cuts_l3 (k : Nat) (v0 : List Int) (v6 : Int) (v7 : Int) (o100003 : List (List Int)) : Option (List (List Int)) := aRun E k i_cuts_fi.rs (ioOf i_cuts_fi.ps) i_cuts_fi.res i_cuts_fi.hints [.code (sub i_cuts_c [1, 1, 0, 1, 0, 0, 0]), .code (sub i_cuts_c [1, 1, 0, 1, 0, 0, 1]), .inLoop (sub i_cuts_c [1, 1, 0, 1, 0, 0]), .inBlock 0, .code (sub i_cuts_c [1, 1, 1])] ⟨[.cv (.val (.slice (.int .i64)) v0), .cv .dead, .cv .dead, .cv (.own 100003), .cv .dead, .cv .dead, .cv (.val (.int .i64) v6), .cv (.val (.int .i64) v7), .cv .dead, .cv .dead, .cv .dead, .cv .dead, .cv .dead, .cv .dead, .cv .dead, .cv .dead, .cv .dead, .cv .dead, .cv .dead], [(100003, .row (.slice (.int .i64)) o100003 true true)], true⟩
noncomputable def i_riffled (k : Nat) (x : (List Int) × Int) : Option (List Int) := aFn E i_riffled_fi k x
noncomputable def i_riffled_l3 (k : Nat) (v0 : List Int) (v1 : Int) (v5 : Int) (v6 : Int) (v11 : Int) (v12 : Int) : Option (List Int) := aRun E k i_riffled_fi.rs (ioOf i_riffled_fi.ps) i_riffled_fi.res i_riffled_fi.hints [.code (sub i_riffled_c [1, 1, 0, 1, 0, 0, 0]), .code (sub i_riffled_c [1, 1, 0, 1, 0, 0, 1]), .inLoop (sub i_riffled_c [1, 1, 0, 1, 0, 0]), .inBlock 0, .code (sub i_riffled_c [1, 1, 1])] ⟨[.cv (.val (.slice (.int .i64)) v0), .cv (.val (.int .i64) v1), .cv .dead, .cv .dead, .cv .dead, .cv (.val (.int .i64) v5), .cv (.val (.int .i64) v6), .cv .dead, .cv .dead, .cv .dead, .cv .dead, .cv (.val (.int .i64) v11), .cv (.val (.int .i64) v12), .cv .dead, .cv .dead, .cv .dead, .cv .dead, .cv .dead, .cv .dead, .cv .dead, .cv .dead, .cv .dead, .cv .dead, .cv .dead, .cv .dead, .cv .dead, .cv .dead, .cv .dead, .cv .dead, .cv .dead, .cv .dead, .cv .dead, .cv .dead, .cv .dead, .cv .dead, .cv .dead, .cv .dead, .cv .dead, .cv .dead, .cv .dead, .cv .dead, .cv .dead, .cv .dead, .cv .dead, .cv .dead, .cv .dead, .cv .dead, .cv .dead, .cv .dead, .cv .dead, .cv .dead, .cv .dead, .cv .dead], [], true⟩
noncomputable def i_riffled_l9 (k : Nat) (v0 : List Int) (v1 : Int) (v5 : Int) (v6 : Int) (v24 : Int) (v25 : Int) (o100008 : List Int) : Option (List Int) := aRun E k i_riffled_fi.rs (ioOf i_riffled_fi.ps) i_riffled_fi.res i_riffled_fi.hints [.code (sub i_riffled_c [1, 1, 1, 1, 0, 1, 0, 0, 0]), .code (sub i_riffled_c [1, 1, 1, 1, 0, 1, 0, 0, 1]), .inLoop (sub i_riffled_c [1, 1, 1, 1, 0, 1, 0, 0]), .inBlock 2, .code (sub i_riffled_c [1, 1, 1, 1, 1])] ⟨[.cv (.val (.slice (.int .i64)) v0), .cv (.val (.int .i64) v1), .cv .dead, .cv .dead, .cv .dead, .cv (.val (.int .i64) v5), .cv (.val (.int .i64) v6), .cv .dead, .cv (.own 100008), .cv .dead, .cv .dead, .cv .dead, .cv .dead, .cv .dead, .cv .dead, .cv .dead, .cv .dead, .cv .dead, .cv .dead, .cv .dead, .cv .dead, .cv .dead, .cv .dead, .cv .dead, .cv (.val (.int .i64) v24), .cv (.val (.int .i64) v25), .cv .dead, .cv .dead, .cv .dead, .cv .dead, .cv .dead, .cv .dead, .cv .dead, .cv .dead, .cv .dead, .cv .dead, .cv .dead, .cv .dead, .cv .dead, .cv .dead, .cv .dead, .cv .dead, .cv .dead, .cv .dead, .cv .dead, .cv .dead, .cv .dead, .cv .dead, .cv .dead, .cv .dead, .cv .dead, .cv .dead, .cv .dead], [(100008, .row (.int .i64) o100008 true true)], true⟩
noncomputable def i_all (k : Nat) (x : (List Int) × Int) : Option ((List (List Int)) × Bool) := aFn E i_all_fi k x
noncomputable def i_all_l9 (k : Nat) (v0 : List Int) (v7 : Int) (o100006 : List (List Int)) : Option ((List (List Int)) × Bool) := aRun E k i_all_fi.rs (ioOf i_all_fi.ps) i_all_fi.res i_all_fi.hints [.code (sub i_all_c [1, 0, 1, 0, 1, 1, 1, 1, 1, 0, 1, 0, 1, 0, 0, 0, 0]), .code (sub i_all_c [1, 0, 1, 0, 1, 1, 1, 1, 1, 0, 1, 0, 1, 0, 0, 0, 1]), .code (sub i_all_c [1, 0, 1, 0, 1, 1, 1, 1, 1, 0, 1, 0, 1, 0, 0, 1]), .inLoop (sub i_all_c [1, 0, 1, 0, 1, 1, 1, 1, 1, 0, 1, 0, 1, 0, 0]), .inBlock 1, .code (sub i_all_c [1, 0, 1, 0, 1, 1, 1, 1, 1, 0, 1, 1]), .inBlock 0, .code (sub i_all_c [1, 1])] ⟨[.cv (.val (.slice (.int .i64)) v0), .cv .dead, .cv .dead, .cv .dead, .cv .dead, .cv .dead, .cv (.own 100006), .cv (.val (.int .i64) v7), .cv .dead, .cv .dead, .cv .dead, .cv .dead, .cv .dead, .cv .dead, .cv .dead, .cv .dead, .cv .dead, .cv .dead, .cv .dead, .cv .dead, .cv .dead, .cv .dead, .cv .dead, .cv .dead, .cv .dead, .cv .dead, .cv .dead, .cv .dead, .cv .dead, .cv .dead, .cv .dead, .cv .dead, .cv .dead, .cv .dead, .cv .dead, .cv .dead, .cv .dead, .cv .dead, .cv .dead, .cv .dead, .cv .dead, .cv .dead, .cv .dead, .cv .dead, .cv .dead, .cv .dead, .cv .dead, .cv .dead, .cv .dead, .cv .dead, .cv .dead, .cv .dead, .cv .dead, .cv .dead, .cv .dead, .cv .dead, .cv .dead, .cv .dead, .cv .dead, .cv .dead, .cv .dead, .cv .dead, .cv .dead, .cv .dead, .cv .dead, .cv .dead, .cv .dead, .cv .dead, .cv .dead, .cv .dead, .cv .dead], [(100006, .row (.slice (.int .i64)) o100006 true true)], true⟩
noncomputable def i_all_l20 (k : Nat) (v0 : List Int) (v48 : Int) (v49 : Int) (o100008 : List (List Int)) : Option ((List (List Int)) × Bool) := aRun E k i_all_fi.rs (ioOf i_all_fi.ps) i_all_fi.res i_all_fi.hints [.code (sub i_all_c [1, 0, 1, 0, 1, 1, 1, 1, 1, 1, 1, 1, 1, 0, 1, 0, 1, 0, 0, 0]), .code (sub i_all_c [1, 0, 1, 0, 1, 1, 1, 1, 1, 1, 1, 1, 1, 0, 1, 0, 1, 0, 0, 1]), .inLoop (sub i_all_c [1, 0, 1, 0, 1, 1, 1, 1, 1, 1, 1, 1, 1, 0, 1, 0, 1, 0, 0]), .inBlock 3, .code (sub i_all_c [1, 0, 1, 0, 1, 1, 1, 1, 1, 1, 1, 1, 1, 0, 1, 1]), .inBlock 0, .code (sub i_all_c [1, 1])] ⟨[.cv (.val (.slice (.int .i64)) v0), .cv .dead, .cv .dead, .cv .dead, .cv .dead, .cv .dead, .cv .dead, .cv .dead, .cv (.own 100008), .cv .dead, .cv .dead, .cv .dead, .cv .dead, .cv .dead, .cv .dead, .cv .dead, .cv .dead, .cv .dead, .cv .dead, .cv .dead, .cv .dead, .cv .dead, .cv .dead, .cv .dead, .cv .dead, .cv .dead, .cv .dead, .cv .dead, .cv .dead, .cv .dead, .cv .dead, .cv .dead, .cv .dead, .cv .dead, .cv .dead, .cv .dead, .cv .dead, .cv .dead, .cv .dead, .cv .dead, .cv .dead, .cv .dead, .cv .dead, .cv .dead, .cv .dead, .cv .dead, .cv .dead, .cv .dead, .cv (.val (.int .i64) v48), .cv (.val (.int .i64) v49), .cv .dead, .cv .dead, .cv .dead, .cv .dead, .cv .dead, .cv .dead, .cv .dead, .cv .dead, .cv .dead, .cv .dead, .cv .dead, .cv .dead, .cv .dead, .cv .dead, .cv .dead, .cv .dead, .cv .dead, .cv .dead, .cv .dead, .cv .dead, .cv .dead], [(100008, .row (.slice (.int .i64)) o100008 true true)], true⟩
noncomputable def slices_SortFunc_int_int (k : Nat) (x : (List (List Int)) × Bool) : Option ((Unit) × List (List Int)) := aFn E slices_SortFunc_int_int_fi k x
noncomputable def slices_CompactFunc_int_int (k : Nat) (x : (List (List Int)) × Bool) : Option (List (List Int)) := aFn E slices_CompactFunc_int_int_fi k x
noncomputable def i_SortPackets (k : Nat) (x : List (List Int)) : Option (List (List Int)) := aFn E i_SortPackets_fi k x
noncomputable def i_SortPackets_l3 (k : Nat) (v6 : List (List Int)) (v7 : Int) (v8 : Int) (o100003 : List (List Int)) : Option (List (List Int)) := aRun E k i_SortPackets_fi.rs (ioOf i_SortPackets_fi.ps) i_SortPackets_fi.res i_SortPackets_fi.hints [.code (sub i_SortPackets_c [1, 1, 0, 1, 0, 0, 0]), .code (sub i_SortPackets_c [1, 1, 0, 1, 0, 0, 1]), .inLoop (sub i_SortPackets_c [1, 1, 0, 1, 0, 0]), .inBlock 0, .code (sub i_SortPackets_c [1, 1, 1])] ⟨[.cv .dead, .cv .dead, .cv .dead, .cv (.own 100003), .cv .dead, .cv .dead, .cv (.val (.slice (.slice (.int .i64))) v6), .cv (.val (.int .i64) v7), .cv (.val (.int .i64) v8), .cv .dead, .cv .dead, .cv .dead, .cv .dead, .cv .dead, .cv .dead, .cv .dead, .cv .dead, .cv .dead, .cv .dead, .cv .dead, .cv .dead, .cv .dead], [(100003, .row (.slice (.int .i64)) o100003 true true)], true⟩
noncomputable def i_ResultsOf (k : Nat) (x : (List Int) × Int) : Option ((List (List Int)) × Bool) := aFn E i_ResultsOf_fi k x
noncomputable def slices_Index_int (k : Nat) (x : (List Int) × Int) : Option (Int) := aFn E slices_Index_int_fi k x
noncomputable def slices_Index_int_l2 (k : Nat) (v0 : List Int) (v1 : Int) (v7 : Int) (v8 : Int) : Option (Int) := aRun E k slices_Index_int_fi.rs (ioOf slices_Index_int_fi.ps) slices_Index_int_fi.res slices_Index_int_fi.hints [.code (sub slices_Index_int_c [1, 0, 1, 0, 0, 0]), .code (sub slices_Index_int_c [1, 0, 1, 0, 0, 1]), .inLoop (sub slices_Index_int_c [1, 0, 1, 0, 0]), .inBlock 0, .code (sub slices_Index_int_c [1, 1])] ⟨[.cv (.val (.slice (.int .i64)) v0), .cv (.val (.int .i64) v1), .cv .dead, .cv .dead, .cv .dead, .cv .dead, .cv .dead, .cv (.val (.int .i64) v7), .cv (.val (.int .i64) v8), .cv .dead, .cv .dead, .cv .dead, .cv .dead, .cv .dead, .cv .dead, .cv .dead, .cv .dead, .cv .dead, .cv .dead], [], true⟩
noncomputable def slices_Contains_int (k : Nat) (x : (List Int) × Int) : Option (Bool) := aFn E slices_Contains_int_fi k x
noncomputable def i_isPrefix (k : Nat) (x : Int × List Int) : Option (Bool) := aFn E i_isPrefix_fi k x
noncomputable def i_isPrefix_l4 (k : Nat) (v0 : Int) (v1 : List Int) (v13 : List Int) (v14 : Int) (v15 : Int) : Option (Bool) := aRun E k i_isPrefix_fi.rs (ioOf i_isPrefix_fi.ps) i_isPrefix_fi.res i_isPrefix_fi.hints [.code (sub i_isPrefix_c [1, 1, 0, 1, 0, 0, 0]), .code (sub i_isPrefix_c [1, 1, 0, 1, 0, 0, 1]), .inLoop (sub i_isPrefix_c [1, 1, 0, 1, 0, 0]), .inBlock 0, .code (sub i_isPrefix_c [1, 1, 1])] ⟨[.cv (.val (.int .i64) v0), .cv (.val (.slice (.int .i64)) v1), .cv .dead, .cv .dead, .cv .dead, .cv .dead, .cv .dead, .cv .dead, .cv .dead, .cv .dead, .cv .dead, .cv .dead, .cv .dead, .cv (.val (.slice (.int .i64)) v13), .cv (.val (.int .i64) v14), .cv (.val (.int .i64) v15), .cv .dead, .cv .dead, .cv .dead, .cv .dead, .cv .dead, .cv .dead, .cv .dead, .cv .dead, .cv .dead, .cv .dead, .cv .dead, .cv .dead, .cv .dead, .cv .dead, .cv .dead, .cv .dead, .cv .dead, .cv .dead, .cv .dead], [], true⟩
noncomputable def slices_Equal_int (k : Nat) (x : (List Int) × List Int) : Option (Bool) := aFn E slices_Equal_int_fi k x
noncomputable def slices_Equal_int_l4 (k : Nat) (v0 : List Int) (v1 : List Int) (v12 : Int) (v13 : Int) : Option (Bool) := aRun E k slices_Equal_int_fi.rs (ioOf slices_Equal_int_fi.ps) slices_Equal_int_fi.res slices_Equal_int_fi.hints [.code (sub slices_Equal_int_c [1, 1, 0, 1, 0, 0, 0]), .code (sub slices_Equal_int_c [1, 1, 0, 1, 0, 0, 1]), .inLoop (sub slices_Equal_int_c [1, 1, 0, 1, 0, 0]), .inBlock 0, .code (sub slices_Equal_int_c [1, 1, 1])] ⟨[.cv (.val (.slice (.int .i64)) v0), .cv (.val (.slice (.int .i64)) v1), .cv .dead, .cv .dead, .cv .dead, .cv .dead, .cv .dead, .cv .dead, .cv .dead, .cv .dead, .cv .dead, .cv .dead, .cv (.val (.int .i64) v12), .cv (.val (.int .i64) v13), .cv .dead, .cv .dead, .cv .dead, .cv .dead, .cv .dead, .cv .dead, .cv .dead, .cv .dead, .cv .dead, .cv .dead, .cv .dead, .cv .dead], [], true⟩
noncomputable def i_WaysWith (k : Nat) (x : Int × List Int) : Option (Int) := aFn E i_WaysWith_fi k x
noncomputable def i_WaysWith_l5 (k : Nat) (v0 : Int) (v1 : List Int) (v6 : Int) (v7 : Int) (o100005 : List Int) : Option (Int) := aRun E k i_WaysWith_fi.rs (ioOf i_WaysWith_fi.ps) i_WaysWith_fi.res i_WaysWith_fi.hints [.code (sub i_WaysWith_c [1, 1, 1, 0, 1, 0, 0, 0, 0]), .code (sub i_WaysWith_c [1, 1, 1, 0, 1, 0, 0, 0, 1]), .code (sub i_WaysWith_c [1, 1, 1, 0, 1, 0, 0, 1]), .inLoop (sub i_WaysWith_c [1, 1, 1, 0, 1, 0, 0]), .inBlock 0, .code (sub i_WaysWith_c [1, 1, 1, 1])] ⟨[.cv (.val (.int .i64) v0), .cv (.val (.slice (.int .i64)) v1), .cv .dead, .cv .dead, .cv .dead, .cv (.own 100005), .cv (.val (.int .i64) v6), .cv (.val (.int .i64) v7), .cv .dead, .cv .dead, .cv .dead, .cv .dead, .cv .dead, .cv .dead, .cv .dead, .cv .dead, .cv .dead, .cv .dead, .cv .dead, .cv .dead, .cv .dead, .cv .dead, .cv .dead, .cv .dead, .cv .dead, .cv .dead, .cv .dead, .cv .dead, .cv .dead, .cv .dead, .cv .dead], [(100005, .row (.int .i64) o100005 true true)], true⟩
noncomputable def i_PermOk (k : Nat) (x : List Int) : Option (Bool) := aFn E i_PermOk_fi k x
noncomputable def i_PermOk_l2 (k : Nat) (v0 : List Int) (v5 : List Int) (v6 : Int) (v7 : Int) : Option (Bool) := aRun E k i_PermOk_fi.rs (ioOf i_PermOk_fi.ps) i_PermOk_fi.res i_PermOk_fi.hints [.code (sub i_PermOk_c [1, 0, 1, 0, 0, 0]), .code (sub i_PermOk_c [1, 0, 1, 0, 0, 1]), .inLoop (sub i_PermOk_c [1, 0, 1, 0, 0]), .inBlock 0, .code (sub i_PermOk_c [1, 1])] ⟨[.cv (.val (.slice (.int .i64)) v0), .cv .dead, .cv .dead, .cv .dead, .cv .dead, .cv (.val (.slice (.int .i64)) v5), .cv (.val (.int .i64) v6), .cv (.val (.int .i64) v7), .cv .dead, .cv .dead, .cv .dead, .cv .dead, .cv .dead, .cv .dead, .cv .dead, .cv .dead, .cv .dead, .cv .dead, .cv .dead, .cv .dead, .cv .dead, .cv .dead, .cv .dead, .cv .dead, .cv .dead, .cv .dead, .cv .dead, .cv .dead, .cv .dead, .cv .dead, .cv .dead], [], true⟩
noncomputable def i_inverse (k : Nat) (x : List Int) : Option (List Int) := aFn E i_inverse_fi k x
noncomputable def i_inverse_l3 (k : Nat) (v9 : List Int) (v10 : Int) (v11 : Int) (o100003 : List Int) : Option (List Int) := aRun E k i_inverse_fi.rs (ioOf i_inverse_fi.ps) i_inverse_fi.res i_inverse_fi.hints [.code (sub i_inverse_c [1, 1, 0, 1, 0, 0, 0]), .code (sub i_inverse_c [1, 1, 0, 1, 0, 0, 1]), .inLoop (sub i_inverse_c [1, 1, 0, 1, 0, 0]), .inBlock 0, .code (sub i_inverse_c [1, 1, 1])] ⟨[.cv .dead, .cv .dead, .cv .dead, .cv (.own 100003), .cv .dead, .cv .dead, .cv .dead, .cv .dead, .cv .dead, .cv (.val (.slice (.int .i64)) v9), .cv (.val (.int .i64) v10), .cv (.val (.int .i64) v11), .cv .dead, .cv .dead, .cv .dead, .cv .dead, .cv .dead, .cv .dead, .cv .dead, .cv .dead, .cv .dead, .cv .dead], [(100003, .row (.int .i64) o100003 true false)], true⟩
noncomputable def i_RisingSequences (k : Nat) (x : List Int) : Option (List (List Int)) := aFn E i_RisingSequences_fi k x
noncomputable def i_RisingSequences_l6 (k : Nat) (v12 : Int) (v13 : Int) (o450003 : List (List Int)) (o100004 : List Int) : Option (List (List Int)) := aRun E k i_RisingSequences_fi.rs (ioOf i_RisingSequences_fi.ps) i_RisingSequences_fi.res i_RisingSequences_fi.hints [.code (sub i_RisingSequences_c [1, 1, 1, 1, 0, 1, 0, 0, 0]), .code (sub i_RisingSequences_c [1, 1, 1, 1, 0, 1, 0, 0, 1]), .inLoop (sub i_RisingSequences_c [1, 1, 1, 1, 0, 1, 0, 0]), .inBlock 0, .code (sub i_RisingSequences_c [1, 1, 1, 1, 1])] ⟨[.cv .dead, .cv .dead, .cv .dead, .cv (.own 450003), .cv (.own 100004), .cv .dead, .cv .dead, .cv .dead, .cv .dead, .cv .dead, .cv .dead, .cv .dead, .cv (.val (.int .i64) v12), .cv (.val (.int .i64) v13), .cv .dead, .cv .dead, .cv .dead, .cv .dead, .cv .dead, .cv .dead, .cv .dead, .cv .dead, .cv .dead, .cv .dead, .cv .dead, .cv .dead, .cv .dead, .cv .dead, .cv .dead, .cv .dead, .cv .dead, .cv .dead, .cv .dead, .cv .dead, .cv .dead, .cv .dead, .cv .dead, .cv .dead, .cv .dead, .cv .dead, .cv .dead, .cv .dead, .cv .dead, .cv .dead, .cv .dead, .cv .dead, .cv .dead, .cv .dead, .cv .dead], [(450003, .row (.slice (.int .i64)) o450003 true false), (100004, .row (.int .i64) o100004 true false)], true⟩
noncomputable def i_IsRiffle (k : Nat) (x : List Int) : Option (Bool) := aFn E i_IsRiffle_fi k x
noncomputable def i_RiffleWays (k : Nat) (x : List Int) : Option (Int) := aFn E i_RiffleWays_fi k x
noncomputable def i_NextWays (k : Nat) (x : Int × List Int) : Option (List Int) := aFn E i_NextWays_fi k x
noncomputable def i_NextWays_l5 (k : Nat) (v0 : Int) (v1 : List Int) (v7 : Int) (o100005 : List Int) (o100006 : List Int) : Option (List Int) := aRun E k i_NextWays_fi.rs (ioOf i_NextWays_fi.ps) i_NextWays_fi.res i_NextWays_fi.hints [.code (sub i_NextWays_c [1, 1, 1, 0, 1, 0, 0, 0, 0]), .code (sub i_NextWays_c [1, 1, 1, 0, 1, 0, 0, 0, 1]), .code (sub i_NextWays_c [1, 1, 1, 0, 1, 0, 0, 1]), .inLoop (sub i_NextWays_c [1, 1, 1, 0, 1, 0, 0]), .inBlock 0, .code (sub i_NextWays_c [1, 1, 1, 1])] ⟨[.cv (.val (.int .i64) v0), .cv (.val (.slice (.int .i64)) v1), .cv .dead, .cv .dead, .cv .dead, .cv (.own 100005), .cv (.own 100006), .cv (.val (.int .i64) v7), .cv .dead, .cv .dead, .cv .dead, .cv .dead, .cv .dead, .cv .dead, .cv .dead, .cv .dead, .cv .dead, .cv .dead, .cv .dead, .cv .dead, .cv .dead, .cv .dead, .cv .dead, .cv .dead, .cv .dead, .cv .dead, .cv .dead, .cv .dead, .cv .dead, .cv .dead, .cv .dead, .cv .dead, .cv .dead, .cv .dead, .cv .dead, .cv .dead, .cv .dead, .cv .dead, .cv .dead, .cv .dead, .cv .dead, .cv .dead, .cv .dead, .cv .dead, .cv .dead, .cv .dead, .cv .dead, .cv .dead, .cv .dead], [(100005, .row (.int .i64) o100005 true true), (100006, .row (.int .i64) o100006 true false)], true⟩
noncomputable def slices_Max_int (k : Nat) (x : List Int) : Option (Int) := aFn E slices_Max_int_fi k x
noncomputable def slices_Max_int_l5 (k : Nat) (v0 : List Int) (v3 : Int) (v4 : Int) : Option (Int) := aRun E k slices_Max_int_fi.rs (ioOf slices_Max_int_fi.ps) slices_Max_int_fi.res slices_Max_int_fi.hints [.code (sub slices_Max_int_c [1, 1, 1, 0, 1, 0, 0, 0, 0]), .code (sub slices_Max_int_c [1, 1, 1, 0, 1, 0, 0, 0, 1]), .code (sub slices_Max_int_c [1, 1, 1, 0, 1, 0, 0, 1]), .inLoop (sub slices_Max_int_c [1, 1, 1, 0, 1, 0, 0]), .inBlock 0, .code (sub slices_Max_int_c [1, 1, 1, 1])] ⟨[.cv (.val (.slice (.int .i64)) v0), .cv .dead, .cv .dead, .cv (.val (.int .i64) v3), .cv (.val (.int .i64) v4), .cv .dead, .cv .dead, .cv .dead, .cv .dead, .cv .dead, .cv .dead, .cv .dead, .cv .dead, .cv .dead, .cv .dead, .cv .dead, .cv .dead, .cv .dead, .cv .dead, .cv .dead, .cv .dead, .cv .dead, .cv .dead, .cv .dead, .cv .dead], [], true⟩
noncomputable def i_BestGuess (k : Nat) (x : Int × List Int) : Option (Int) := aFn E i_BestGuess_fi k x
noncomputable def i_GuessRun (k : Nat) (x : List Int) : Option (Int) := aFn E i_GuessRun_fi k x
noncomputable def i_GuessRun_l5 (k : Nat) (v0 : List Int) (v3 : Int) (v19 : List Int) (v20 : Int) (v21 : Int) : Option (Int) := aRun E k i_GuessRun_fi.rs (ioOf i_GuessRun_fi.ps) i_GuessRun_fi.res i_GuessRun_fi.hints [.code (sub i_GuessRun_c [1, 1, 1, 0, 1, 0, 0, 0]), .code (sub i_GuessRun_c [1, 1, 1, 0, 1, 0, 0, 1]), .inLoop (sub i_GuessRun_c [1, 1, 1, 0, 1, 0, 0]), .inBlock 0, .code (sub i_GuessRun_c [1, 1, 1, 1])] ⟨[.cv (.val (.slice (.int .i64)) v0), .cv .dead, .cv .dead, .cv (.val (.int .i64) v3), .cv .dead, .cv .dead, .cv .dead, .cv .dead, .cv .dead, .cv .dead, .cv .dead, .cv .dead, .cv .dead, .cv .dead, .cv .dead, .cv .dead, .cv .dead, .cv .dead, .cv .dead, .cv (.val (.slice (.int .i64)) v19), .cv (.val (.int .i64) v20), .cv (.val (.int .i64) v21), .cv .dead, .cv .dead, .cv .dead, .cv .dead, .cv .dead, .cv .dead, .cv .dead, .cv .dead, .cv .dead, .cv .dead, .cv .dead, .cv .dead, .cv .dead, .cv .dead, .cv .dead, .cv .dead], [], true⟩
noncomputable def s_l01Below (k : Nat) (x : ((List Int) × Int × Int) × Int) : Option ((Int) × (List Int) × Int × Int) := aFn E s_l01Below_fi k x
noncomputable def s_l01In (k : Nat) (x : Int × Int × Int) : Option (Bool) := aFn E s_l01In_fi k x
noncomputable def s_NewPacket (k : Nat) (x : Int) : Option (List Int) := aFn E s_NewPacket_fi k x
noncomputable def s_NewPacket_l5 (k : Nat) (v0 : Int) (v4 : Int) (o100003 : List Int) : Option (List Int) := aRun E k s_NewPacket_fi.rs (ioOf s_NewPacket_fi.ps) s_NewPacket_fi.res s_NewPacket_fi.hints [.code (sub s_NewPacket_c [1, 1, 1, 0, 1, 0, 0, 0, 0]), .code (sub s_NewPacket_c [1, 1, 1, 0, 1, 0, 0, 0, 1]), .code (sub s_NewPacket_c [1, 1, 1, 0, 1, 0, 0, 1]), .inLoop (sub s_NewPacket_c [1, 1, 1, 0, 1, 0, 0]), .inBlock 0, .code (sub s_NewPacket_c [1, 1, 1, 1])] ⟨[.cv (.val (.int .i64) v0), .cv .dead, .cv .dead, .cv (.own 100003), .cv (.val (.int .i64) v4), .cv .dead, .cv .dead, .cv .dead, .cv .dead, .cv .dead, .cv .dead, .cv .dead, .cv .dead, .cv .dead, .cv .dead, .cv .dead, .cv .dead, .cv .dead, .cv .dead], [(100003, .row (.int .i64) o100003 true false)], true⟩
noncomputable def s_CardOf (k : Nat) (x : Int) : Option (Int) := aFn E s_CardOf_fi k x
noncomputable def s_TurnCard (k : Nat) (x : Int) : Option (Int) := aFn E s_TurnCard_fi k x
noncomputable def s_l04Back (k : Nat) (x : (List Int) × Int × Bool) : Option (List Int) := aFn E s_l04Back_fi k x
noncomputable def s_l04Back_l3 (k : Nat) (v0 : List Int) (v1 : Int) (v2 : Bool) (v8 : Int) (o100007 : List Int) : Option (List Int) := aRun E k s_l04Back_fi.rs (ioOf s_l04Back_fi.ps) s_l04Back_fi.res s_l04Back_fi.hints [.code (sub s_l04Back_c [1, 1, 0, 1, 0, 0, 0, 0]), .code (sub s_l04Back_c [1, 1, 0, 1, 0, 0, 0, 1]), .code (sub s_l04Back_c [1, 1, 0, 1, 0, 0, 1]), .inLoop (sub s_l04Back_c [1, 1, 0, 1, 0, 0]), .inBlock 0, .code (sub s_l04Back_c [1, 1, 1])] ⟨[.cv (.val (.slice (.int .i64)) v0), .cv (.val (.int .i64) v1), .cv (.val (.bool) v2), .cv .dead, .cv .dead, .cv .dead, .cv .dead, .cv (.own 100007), .cv (.val (.int .i64) v8), .cv .dead, .cv .dead, .cv .dead, .cv .dead, .cv .dead, .cv .dead, .cv .dead, .cv .dead, .cv .dead, .cv .dead, .cv .dead, .cv .dead, .cv .dead, .cv .dead, .cv .dead, .cv .dead, .cv .dead, .cv .dead, .cv .dead, .cv .dead, .cv .dead, .cv .dead, .cv .dead, .cv .dead, .cv .dead, .cv .dead, .cv .dead, .cv .dead], [(100007, .row (.int .i64) o100007 true false)], true⟩
noncomputable def s_l04Faro (k : Nat) (x : (List Int) × Int) : Option (List Int) := aFn E s_l04Faro_fi k x
noncomputable def s_l04Faro_l4 (k : Nat) (v1 : Int) (v5 : List Int) (v6 : List Int) (o100007 : List Int) : Option (List Int) := aRun E k s_l04Faro_fi.rs (ioOf s_l04Faro_fi.ps) s_l04Faro_fi.res s_l04Faro_fi.hints [.code (sub s_l04Faro_c [1, 1, 1, 1, 0, 0, 0, 0, 0]), .code (sub s_l04Faro_c [1, 1, 1, 1, 0, 0, 0, 0, 1]), .code (sub s_l04Faro_c [1, 1, 1, 1, 0, 0, 0, 1]), .inLoop (sub s_l04Faro_c [1, 1, 1, 1, 0, 0, 0]), .inBlock 0, .code (sub s_l04Faro_c [1, 1, 1, 1, 1])] ⟨[.cv .dead, .cv (.val (.int .i64) v1), .cv .dead, .cv .dead, .cv .dead, .cv (.val (.slice (.int .i64)) v5), .cv (.val (.slice (.int .i64)) v6), .cv (.own 100007), .cv .dead, .cv .dead, .cv .dead, .cv .dead, .cv .dead, .cv .dead, .cv .dead, .cv .dead, .cv .dead, .cv .dead, .cv .dead, .cv .dead, .cv .dead, .cv .dead, .cv .dead, .cv .dead, .cv .dead, .cv .dead, .cv .dead, .cv .dead, .cv .dead, .cv .dead, .cv .dead, .cv .dead, .cv .dead, .cv .dead, .cv .dead, .cv .dead, .cv .dead, .cv .dead, .cv .dead, .cv .dead, .cv .dead, .cv .dead, .cv .dead, .cv .dead, .cv .dead, .cv .dead, .cv .dead, .cv .dead, .cv .dead, .cv .dead, .cv .dead, .cv .dead, .cv .dead, .cv .dead, .cv .dead, .cv .dead, .cv .dead, .cv .dead, .cv .dead], [(100007, .row (.int .i64) o100007 true false)], true⟩
noncomputable def s_l04Monge (k : Nat) (x : (List Int) × Int) : Option (List Int) := aFn E s_l04Monge_fi k x
noncomputable def s_l04Monge_l3 (k : Nat) (v1 : Int) (v9 : List Int) (v10 : Int) (v11 : Int) (o100005 : List Int) : Option (List Int) := aRun E k s_l04Monge_fi.rs (ioOf s_l04Monge_fi.ps) s_l04Monge_fi.res s_l04Monge_fi.hints [.code (sub s_l04Monge_c [1, 1, 0, 1, 0, 0, 0]), .code (sub s_l04Monge_c [1, 1, 0, 1, 0, 0, 1]), .inLoop (sub s_l04Monge_c [1, 1, 0, 1, 0, 0]), .inBlock 0, .code (sub s_l04Monge_c [1, 1, 1])] ⟨[.cv .dead, .cv (.val (.int .i64) v1), .cv .dead, .cv .dead, .cv .dead, .cv (.own 100005), .cv .dead, .cv .dead, .cv .dead, .cv (.val (.slice (.int .i64)) v9), .cv (.val (.int .i64) v10), .cv (.val (.int .i64) v11), .cv .dead, .cv .dead, .cv .dead, .cv .dead, .cv .dead, .cv .dead, .cv .dead, .cv .dead, .cv .dead, .cv .dead, .cv .dead, .cv .dead, .cv .dead, .cv .dead, .cv .dead, .cv .dead, .cv .dead, .cv .dead, .cv .dead, .cv .dead, .cv .dead, .cv .dead], [(100005, .row (.int .i64) o100005 true false)], true⟩
noncomputable def s_l04Milk (k : Nat) (x : List Int) : Option (List Int) := aFn E s_l04Milk_fi k x
noncomputable def s_l04Milk_l2 (k : Nat) (v0 : List Int) (o100003 : List Int) : Option (List Int) := aRun E k s_l04Milk_fi.rs (ioOf s_l04Milk_fi.ps) s_l04Milk_fi.res s_l04Milk_fi.hints [.code (sub s_l04Milk_c [1, 1, 0, 0, 0, 0, 0]), .code (sub s_l04Milk_c [1, 1, 0, 0, 0, 0, 1]), .code (sub s_l04Milk_c [1, 1, 0, 0, 0, 1]), .inLoop (sub s_l04Milk_c [1, 1, 0, 0, 0]), .inBlock 0, .code (sub s_l04Milk_c [1, 1, 1])] ⟨[.cv (.val (.slice (.int .i64)) v0), .cv .dead, .cv .dead, .cv (.own 100003), .cv .dead, .cv .dead, .cv .dead, .cv .dead, .cv .dead, .cv .dead, .cv .dead, .cv .dead, .cv .dead, .cv .dead, .cv .dead, .cv .dead, .cv .dead, .cv .dead, .cv .dead, .cv .dead, .cv .dead, .cv .dead, .cv .dead, .cv .dead, .cv .dead, .cv .dead, .cv .dead, .cv .dead, .cv .dead, .cv .dead], [(100003, .row (.int .i64) o100003 true false)], true⟩
noncomputable def s_l04Duck (k : Nat) (x : (List Int) × Int) : Option (List Int) := aFn E s_l04Duck_fi k x
noncomputable def s_l04Duck_l4 (k : Nat) (v7 : Int) (o100005 : List Int) (o100006 : List Int) : Option (List Int) := aRun E k s_l04Duck_fi.rs (ioOf s_l04Duck_fi.ps) s_l04Duck_fi.res s_l04Duck_fi.hints [.code (sub s_l04Duck_c [1, 1, 1, 0, 1, 0, 0, 0, 0]), .code (sub s_l04Duck_c [1, 1, 1, 0, 1, 0, 0, 0, 1]), .code (sub s_l04Duck_c [1, 1, 1, 0, 1, 0, 0, 1]), .inLoop (sub s_l04Duck_c [1, 1, 1, 0, 1, 0, 0]), .inBlock 0, .code (sub s_l04Duck_c [1, 1, 1, 1])] ⟨[.cv .dead, .cv .dead, .cv .dead, .cv .dead, .cv .dead, .cv (.own 100005), .cv (.own 100006), .cv (.val (.int .i64) v7), .cv .dead, .cv .dead, .cv .dead, .cv .dead, .cv .dead, .cv .dead, .cv .dead, .cv .dead, .cv .dead, .cv .dead, .cv .dead, .cv .dead, .cv .dead, .cv .dead, .cv .dead, .cv .dead, .cv .dead, .cv .dead, .cv .dead, .cv .dead, .cv .dead, .cv .dead, .cv .dead, .cv .dead, .cv .dead, .cv .dead, .cv .dead, .cv .dead, .cv .dead, .cv .dead, .cv .dead, .cv .dead, .cv .dead], [(100005, .row (.int .i64) o100005 true false), (100006, .row (.int .i64) o100006 true false)], true⟩
noncomputable def s_l04Do (k : Nat) (x : (List Int) × Int × Int) : Option (List Int) := aFn E s_l04Do_fi k x
noncomputable def s_l05Cuts (k : Nat) (x : List Int) : Option (List (List Int)) := aFn E s_l05Cuts_fi k x
noncomputable def s_l05Cuts_l3 (k : Nat) (v0 : List Int) (v7 : Int) (v8 : Int) (o100003 : List (List Int)) : Option (List (List Int)) := aRun E k s_l05Cuts_fi.rs (ioOf s_l05Cuts_fi.ps) s_l05Cuts_fi.res s_l05Cuts_fi.hints [.code (sub s_l05Cuts_c [1, 1, 0, 1, 0, 0, 0]), .code (sub s_l05Cuts_c [1, 1, 0, 1, 0, 0, 1]), .inLoop (sub s_l05Cuts_c [1, 1, 0, 1, 0, 0]), .inBlock 0, .code (sub s_l05Cuts_c [1, 1, 1])] ⟨[.cv (.val (.slice (.int .i64)) v0), .cv .dead, .cv .dead, .cv (.own 100003), .cv .dead, .cv .dead, .cv .dead, .cv (.val (.int .i64) v7), .cv (.val (.int .i64) v8), .cv .dead, .cv .dead, .cv .dead, .cv .dead, .cv .dead, .cv .dead, .cv .dead, .cv .dead, .cv .dead, .cv .dead, .cv .dead], [(100003, .row (.slice (.int .i64)) o100003 true false)], true⟩
noncomputable def s_l05Weave (k : Nat) (x : (List (List Int)) × (List Int) × (List Int) × List Int) : Option (List (List Int)) := aFn E s_l05Weave_fi k x
noncomputable def s_l05Of (k : Nat) (x : (List Int) × Int) : Option (List (List Int)) := aFn E s_l05Of_fi k x
noncomputable def s_l05Of_l7 (k : Nat) (v0 : List Int) (v6 : Int) (o100005 : List (List Int)) : Option (List (List Int)) := aRun E k s_l05Of_fi.rs (ioOf s_l05Of_fi.ps) s_l05Of_fi.res s_l05Of_fi.hints [.code (sub s_l05Of_c [1, 1, 0, 1, 0, 1, 1, 1, 0, 0, 1, 0, 0, 0, 0]), .code (sub s_l05Of_c [1, 1, 0, 1, 0, 1, 1, 1, 0, 0, 1, 0, 0, 0, 1]), .code (sub s_l05Of_c [1, 1, 0, 1, 0, 1, 1, 1, 0, 0, 1, 0, 0, 1]), .inLoop (sub s_l05Of_c [1, 1, 0, 1, 0, 1, 1, 1, 0, 0, 1, 0, 0]), .inBlock 1, .code (sub s_l05Of_c [1, 1, 0, 1, 0, 1, 1, 1, 0, 1]), .inBlock 0, .code (sub s_l05Of_c [1, 1, 1])] ⟨[.cv (.val (.slice (.int .i64)) v0), .cv .dead, .cv .dead, .cv .dead, .cv .dead, .cv (.own 100005), .cv (.val (.int .i64) v6), .cv .dead, .cv .dead, .cv .dead, .cv .dead, .cv .dead, .cv .dead, .cv .dead, .cv .dead, .cv .dead, .cv .dead, .cv .dead, .cv .dead, .cv .dead, .cv .dead, .cv .dead, .cv .dead, .cv .dead, .cv .dead, .cv .dead, .cv .dead, .cv .dead, .cv .dead, .cv .dead, .cv .dead, .cv .dead, .cv .dead, .cv .dead, .cv .dead, .cv .dead, .cv .dead, .cv .dead, .cv .dead, .cv .dead, .cv .dead, .cv .dead, .cv .dead, .cv .dead, .cv .dead, .cv .dead, .cv .dead, .cv .dead, .cv .dead, .cv .dead, .cv .dead, .cv .dead, .cv .dead, .cv .dead, .cv .dead, .cv .dead, .cv .dead, .cv .dead, .cv .dead, .cv .dead, .cv .dead, .cv .dead, .cv .dead, .cv .dead, .cv .dead, .cv .dead, .cv .dead, .cv .dead, .cv .dead], [(100005, .row (.slice (.int .i64)) o100005 false false)], true⟩
noncomputable def s_l05Of_l15 (k : Nat) (v0 : List Int) (v40 : List Int) (v41 : Int) (v42 : Int) (o100005 : List (List Int)) : Option (List (List Int)) := aRun E k s_l05Of_fi.rs (ioOf s_l05Of_fi.ps) s_l05Of_fi.res s_l05Of_fi.hints [.code (sub s_l05Of_c [1, 1, 0, 1, 0, 1, 1, 1, 1, 1, 1, 1, 0, 0, 1, 0, 0, 0]), .code (sub s_l05Of_c [1, 1, 0, 1, 0, 1, 1, 1, 1, 1, 1, 1, 0, 0, 1, 0, 0, 1]), .inLoop (sub s_l05Of_c [1, 1, 0, 1, 0, 1, 1, 1, 1, 1, 1, 1, 0, 0, 1, 0, 0]), .inBlock 3, .code (sub s_l05Of_c [1, 1, 0, 1, 0, 1, 1, 1, 1, 1, 1, 1, 0, 1]), .inBlock 0, .code (sub s_l05Of_c [1, 1, 1])] ⟨[.cv (.val (.slice (.int .i64)) v0), .cv .dead, .cv .dead, .cv .dead, .cv .dead, .cv (.own 100005), .cv .dead, .cv .dead, .cv .dead, .cv .dead, .cv .dead, .cv .dead, .cv .dead, .cv .dead, .cv .dead, .cv .dead, .cv .dead, .cv .dead, .cv .dead, .cv .dead, .cv .dead, .cv .dead, .cv .dead, .cv .dead, .cv .dead, .cv .dead, .cv .dead, .cv .dead, .cv .dead, .cv .dead, .cv .dead, .cv .dead, .cv .dead, .cv .dead, .cv .dead, .cv .dead, .cv .dead, .cv .dead, .cv .dead, .cv .dead, .cv (.val (.slice (.int .i64)) v40), .cv (.val (.int .i64) v41), .cv (.val (.int .i64) v42), .cv .dead, .cv .dead, .cv .dead, .cv .dead, .cv .dead, .cv .dead, .cv .dead, .cv .dead, .cv .dead, .cv .dead, .cv .dead, .cv .dead, .cv .dead, .cv .dead, .cv .dead, .cv .dead, .cv .dead, .cv .dead, .cv .dead, .cv .dead, .cv .dead, .cv .dead, .cv .dead, .cv .dead, .cv .dead, .cv .dead], [(100005, .row (.slice (.int .i64)) o100005 true false)], true⟩
noncomputable def s_SamePacket (k : Nat) (x : (List Int) × List Int) : Option (Bool) := aFn E s_SamePacket_fi k x
noncomputable def s_SamePacket_l4 (k : Nat) (v1 : List Int) (v12 : List Int) (v13 : Int) (v14 : Int) : Option (Bool) := aRun E k s_SamePacket_fi.rs (ioOf s_SamePacket_fi.ps) s_SamePacket_fi.res s_SamePacket_fi.hints [.code (sub s_SamePacket_c [1, 1, 0, 1, 0, 0, 0]), .code (sub s_SamePacket_c [1, 1, 0, 1, 0, 0, 1]), .inLoop (sub s_SamePacket_c [1, 1, 0, 1, 0, 0]), .inBlock 0, .code (sub s_SamePacket_c [1, 1, 1])] ⟨[.cv .dead, .cv (.val (.slice (.int .i64)) v1), .cv .dead, .cv .dead, .cv .dead, .cv .dead, .cv .dead, .cv .dead, .cv .dead, .cv .dead, .cv .dead, .cv .dead, .cv (.val (.slice (.int .i64)) v12), .cv (.val (.int .i64) v13), .cv (.val (.int .i64) v14), .cv .dead, .cv .dead, .cv .dead, .cv .dead, .cv .dead, .cv .dead, .cv .dead, .cv .dead, .cv .dead, .cv .dead, .cv .dead], [], true⟩
noncomputable def s_l05Less (k : Nat) (x : (List Int) × List Int) : Option (Bool) := aFn E s_l05Less_fi k x
noncomputable def s_l05Less_l2 (k : Nat) (v0 : List Int) (v1 : List Int) (v7 : List Int) (v8 : Int) (v9 : Int) : Option (Bool) := aRun E k s_l05Less_fi.rs (ioOf s_l05Less_fi.ps) s_l05Less_fi.res s_l05Less_fi.hints [.code (sub s_l05Less_c [1, 0, 1, 0, 0, 0]), .code (sub s_l05Less_c [1, 0, 1, 0, 0, 1]), .inLoop (sub s_l05Less_c [1, 0, 1, 0, 0]), .inBlock 0, .code (sub s_l05Less_c [1, 1])] ⟨[.cv (.val (.slice (.int .i64)) v0), .cv (.val (.slice (.int .i64)) v1), .cv .dead, .cv .dead, .cv .dead, .cv .dead, .cv .dead, .cv (.val (.slice (.int .i64)) v7), .cv (.val (.int .i64) v8), .cv (.val (.int .i64) v9), .cv .dead, .cv .dead, .cv .dead, .cv .dead, .cv .dead, .cv .dead, .cv .dead, .cv .dead, .cv .dead, .cv .dead, .cv .dead, .cv .dead, .cv .dead, .cv .dead, .cv .dead, .cv .dead, .cv .dead, .cv .dead, .cv .dead, .cv .dead, .cv .dead, .cv .dead, .cv .dead, .cv .dead, .cv .dead, .cv .dead], [], true⟩
noncomputable def s_l05Merge (k : Nat) (x : (List (List Int)) × List (List Int)) : Option (List (List Int)) := aFn E s_l05Merge_fi k x
noncomputable def s_l05Merge_l2 (k : Nat) (v0 : List (List Int)) (v1 : List (List Int)) (o450005 : List (List Int)) : Option (List (List Int)) := aRun E k s_l05Merge_fi.rs (ioOf s_l05Merge_fi.ps) s_l05Merge_fi.res s_l05Merge_fi.hints [.code (sub s_l05Merge_c [1, 1, 0, 0, 0, 0, 0]), .code (sub s_l05Merge_c [1, 1, 0, 0, 0, 0, 1]), .code (sub s_l05Merge_c [1, 1, 0, 0, 0, 1]), .inLoop (sub s_l05Merge_c [1, 1, 0, 0, 0]), .inBlock 0, .code (sub s_l05Merge_c [1, 1, 1])] ⟨[.cv (.val (.slice (.slice (.int .i64))) v0), .cv (.val (.slice (.slice (.int .i64))) v1), .cv .dead, .cv .dead, .cv .dead, .cv (.own 450005), .cv .dead, .cv .dead, .cv .dead, .cv .dead, .cv .dead, .cv .dead, .cv .dead, .cv .dead, .cv .dead, .cv .dead, .cv .dead, .cv .dead, .cv .dead, .cv .dead, .cv .dead, .cv .dead, .cv .dead, .cv .dead, .cv .dead, .cv .dead, .cv .dead, .cv .dead, .cv .dead, .cv .dead, .cv .dead, .cv .dead, .cv .dead, .cv .dead, .cv .dead, .cv .dead, .cv .dead, .cv .dead, .cv .dead, .cv .dead, .cv .dead, .cv .dead, .cv .dead, .cv .dead, .cv .dead, .cv .dead, .cv .dead, .cv .dead, .cv .dead, .cv .dead, .cv .dead, .cv .dead, .cv .dead, .cv .dead, .cv .dead, .cv .dead, .cv .dead, .cv .dead, .cv .dead, .cv .dead, .cv .dead, .cv .dead, .cv .dead, .cv .dead, .cv .dead, .cv .dead], [(450005, .row (.slice (.int .i64)) o450005 true false)], true⟩
noncomputable def s_SortPackets (k : Nat) (x : List (List Int)) : Option (List (List Int)) := aFn E s_SortPackets_fi k x
noncomputable def s_MakeRiffle (k : Nat) (x : List Int) : Option (List Int) := aFn E s_MakeRiffle_fi k x
noncomputable def i_total (k : Nat) (x : Int × List Int) : Option (Int) := aFn E i_total_fi k x
noncomputable def i_total_l6 (k : Nat) (v0 : Int) (v1 : List Int) (v6 : Int) (v17 : Int) (v18 : Int) (o100016 : List Int) : Option (Int) := aRun E k i_total_fi.rs (ioOf i_total_fi.ps) i_total_fi.res i_total_fi.hints [.code (sub i_total_c [1, 1, 1, 1, 0, 1, 0, 0, 0]), .code (sub i_total_c [1, 1, 1, 1, 0, 1, 0, 0, 1]), .inLoop (sub i_total_c [1, 1, 1, 1, 0, 1, 0, 0]), .inBlock 0, .code (sub i_total_c [1, 1, 1, 1, 1])] ⟨[.cv (.val (.int .i64) v0), .cv (.val (.slice (.int .i64)) v1), .cv .dead, .cv .dead, .cv .dead, .cv .dead, .cv (.val (.int .i64) v6), .cv .dead, .cv .dead, .cv .dead, .cv .dead, .cv .dead, .cv .dead, .cv .dead, .cv .dead, .cv .dead, .cv (.own 100016), .cv (.val (.int .i64) v17), .cv (.val (.int .i64) v18), .cv .dead, .cv .dead, .cv .dead, .cv .dead, .cv .dead, .cv .dead, .cv .dead, .cv .dead, .cv .dead, .cv .dead, .cv .dead, .cv .dead, .cv .dead, .cv .dead, .cv .dead, .cv .dead, .cv .dead], [(100016, .row (.int .i64) o100016 true true)], true⟩
noncomputable def i_GuessTotal (k : Nat) (x : Int) : Option (Int) := aFn E i_GuessTotal_fi k x
noncomputable def w_FnGuesses (k : Nat) (x : List Int) : Option (Bool) := aFn E w_FnGuesses_fi k x
noncomputable def w_FnGuesses_l9 (k : Nat) (v0 : List Int) (v3 : Int) (v6 : Int) (v42 : Int) (v43 : Int) (o100041 : List (List Int)) : Option (Bool) := aRun E k w_FnGuesses_fi.rs (ioOf w_FnGuesses_fi.ps) w_FnGuesses_fi.res w_FnGuesses_fi.hints [.code (sub w_FnGuesses_c [1, 1, 1, 1, 1, 1, 0, 1, 0, 0, 0]), .code (sub w_FnGuesses_c [1, 1, 1, 1, 1, 1, 0, 1, 0, 0, 1]), .inLoop (sub w_FnGuesses_c [1, 1, 1, 1, 1, 1, 0, 1, 0, 0]), .inBlock 0, .code (sub w_FnGuesses_c [1, 1, 1, 1, 1, 1, 1])] ⟨[.cv (.val (.slice (.int .u8)) v0), .cv .dead, .cv .dead, .cv (.val (.int .i64) v3), .cv .dead, .cv .dead, .cv (.val (.int .i64) v6), .cv .dead, .cv .dead, .cv .dead, .cv .dead, .cv .dead, .cv .dead, .cv .dead, .cv .dead, .cv .dead, .cv .dead, .cv .dead, .cv .dead, .cv .dead, .cv .dead, .cv .dead, .cv .dead, .cv .dead, .cv .dead, .cv .dead, .cv .dead, .cv .dead, .cv .dead, .cv .dead, .cv .dead, .cv .dead, .cv .dead, .cv .dead, .cv .dead, .cv .dead, .cv .dead, .cv .dead, .cv .dead, .cv .dead, .cv .dead, .cv (.own 100041), .cv (.val (.int .i64) v42), .cv (.val (.int .i64) v43), .cv .dead, .cv .dead, .cv .dead, .cv .dead, .cv .dead, .cv .dead, .cv .dead, .cv .dead, .cv .dead, .cv .dead, .cv .dead, .cv .dead, .cv .dead, .cv .dead, .cv .dead, .cv .dead, .cv .dead, .cv .dead, .cv .dead, .cv .dead, .cv .dead, .cv .dead, .cv .dead, .cv .dead, .cv .dead, .cv .dead, .cv .dead, .cv .dead, .cv .dead, .cv .dead, .cv .dead, .cv .dead, .cv .dead, .cv .dead, .cv .dead, .cv .dead, .cv .dead, .cv .dead, .cv .dead, .cv .dead, .cv .dead, .cv .dead, .cv .dead, .cv .dead, .cv .dead, .cv .dead, .cv .dead, .cv .dead, .cv .dead, .cv .dead, .cv .dead, .cv .dead, .cv .dead, .cv .dead, .cv .dead, .cv .dead, .cv .dead, .cv .dead, .cv .dead, .cv .dead, .cv .dead, .cv .dead, .cv .dead, .cv .dead, .cv .dead, .cv .dead, .cv .dead, .cv .dead, .cv .dead, .cv .dead, .cv .dead, .cv .dead, .cv .dead, .cv .dead, .cv .dead, .cv .dead, .cv .dead, .cv .dead, .cv .dead, .cv .dead, .cv .dead, .cv .dead, .cv .dead, .cv .dead, .cv .dead, .cv .dead, .cv .dead, .cv .dead, .cv .dead, .cv .dead, .cv .dead, .cv .dead, .cv .dead, .cv .dead, .cv .dead, .cv .dead, .cv .dead, .cv .dead, .cv .dead, .cv .dead, .cv .dead, .cv .dead], [(100041, .row (.slice (.int .i64)) o100041 false false)], true⟩
noncomputable def w_FnGuesses_l23 (k : Nat) (v3 : Int) (v6 : Int) (v11 : List Int) (v12 : Int) (v13 : List Int) (v14 : Int) (v15 : Int) (v88 : List Int) (v89 : Int) (v90 : Int) : Option (Bool) := aRun E k w_FnGuesses_fi.rs (ioOf w_FnGuesses_fi.ps) w_FnGuesses_fi.res w_FnGuesses_fi.hints [.code (sub w_FnGuesses_c [1, 1, 1, 1, 1, 1, 1, 1, 1, 1, 1, 1, 0, 1, 0, 0, 0]), .code (sub w_FnGuesses_c [1, 1, 1, 1, 1, 1, 1, 1, 1, 1, 1, 1, 0, 1, 0, 0, 1]), .inLoop (sub w_FnGuesses_c [1, 1, 1, 1, 1, 1, 1, 1, 1, 1, 1, 1, 0, 1, 0, 0]), .inBlock 2, .code (sub w_FnGuesses_c [1, 1, 1, 1, 1, 1, 1, 1, 1, 1, 1, 1, 1])] ⟨[.cv .dead, .cv .dead, .cv .dead, .cv (.val (.int .i64) v3), .cv .dead, .cv .dead, .cv (.val (.int .i64) v6), .cv .dead, .cv .dead, .cv .dead, .cv .dead, .cv (.val (.slice (.int .i64)) v11), .cv (.val (.int .i64) v12), .cv (.val (.slice (.int .i64)) v13), .cv (.val (.int .i64) v14), .cv (.val (.int .i64) v15), .cv .dead, .cv .dead, .cv .dead, .cv .dead, .cv .dead, .cv .dead, .cv .dead, .cv .dead, .cv .dead, .cv .dead, .cv .dead, .cv .dead, .cv .dead, .cv .dead, .cv .dead, .cv .dead, .cv .dead, .cv .dead, .cv .dead, .cv .dead, .cv .dead, .cv .dead, .cv .dead, .cv .dead, .cv .dead, .cv .dead, .cv .dead, .cv .dead, .cv .dead, .cv .dead, .cv .dead, .cv .dead, .cv .dead, .cv .dead, .cv .dead, .cv .dead, .cv .dead, .cv .dead, .cv .dead, .cv .dead, .cv .dead, .cv .dead, .cv .dead, .cv .dead, .cv .dead, .cv .dead, .cv .dead, .cv .dead, .cv .dead, .cv .dead, .cv .dead, .cv .dead, .cv .dead, .cv .dead, .cv .dead, .cv .dead, .cv .dead, .cv .dead, .cv .dead, .cv .dead, .cv .dead, .cv .dead, .cv .dead, .cv .dead, .cv .dead, .cv .dead, .cv .dead, .cv .dead, .cv .dead, .cv .dead, .cv .dead, .cv .dead, .cv (.val (.slice (.int .i64)) v88), .cv (.val (.int .i64) v89), .cv (.val (.int .i64) v90), .cv .dead, .cv .dead, .cv .dead, .cv .dead, .cv .dead, .cv .dead, .cv .dead, .cv .dead, .cv .dead, .cv .dead, .cv .dead, .cv .dead, .cv .dead, .cv .dead, .cv .dead, .cv .dead, .cv .dead, .cv .dead, .cv .dead, .cv .dead, .cv .dead, .cv .dead, .cv .dead, .cv .dead, .cv .dead, .cv .dead, .cv .dead, .cv .dead, .cv .dead, .cv .dead, .cv .dead, .cv .dead, .cv .dead, .cv .dead, .cv .dead, .cv .dead, .cv .dead, .cv .dead, .cv .dead, .cv .dead, .cv .dead, .cv .dead, .cv .dead, .cv .dead, .cv .dead, .cv .dead, .cv .dead, .cv .dead, .cv .dead, .cv .dead, .cv .dead, .cv .dead, .cv .dead, .cv .dead, .cv .dead], [], true⟩

theorem s_l01New_eq (k : Nat) (x0 : List Int) : s_l01New (k + 1) x0 =
  s_l01New_l3 k x0 (IntKind.i64.wrap ((2070 : Int) + (x0.length : Int))) (0 : Int) := by kernel_rfl
theorem s_l01New_l3_eq (k : Nat) (v0 : List Int) (v3 : Int) (v4 : Int) : s_l01New_l3 (k + 1) v0 v3 v4 =
  bif decide (v4 < (v0.length : Int)) then
    (bif decide (v4 < (4000 : Int)) then
      (bif decide (0 ≤ v4) then
        (bif decide (v4 < (v0.length : Int)) then
          (s_l01New_l3 k v0 (IntKind.i64.wrap (((BitVec.ofInt IntKind.i64.bits (IntKind.i64.wrap ((IntKind.i64.wrap ((IntKind.i64.wrap (v3 * (101 : Int))) + (IntKind.i64.wrap (v0.getD v4.toNat (0 : Int))))) + (7 : Int))) &&& BitVec.ofInt IntKind.i64.bits (1073741823 : Int)).toNat : Int))) (IntKind.i64.wrap (v4 + (1 : Int))))
        else (none))
      else (none))
    else (some (v0, ((0 : Int), v3))))
  else (some (v0, ((0 : Int), v3))) := by kernel_rfl
theorem s_l01Byte_eq (k : Nat) (x0 : (List Int) × Int × Int) : s_l01Byte (k + 1) x0 =
  bif decide (x0.2.1 < (x0.1.length : Int)) then
    (bif decide (0 ≤ x0.2.1) then
      (bif decide (x0.2.1 < (x0.1.length : Int)) then
        (some ((IntKind.i64.wrap (((BitVec.ofInt IntKind.i64.bits (IntKind.i64.wrap ((IntKind.i64.wrap (((BitVec.ofInt IntKind.i64.bits (IntKind.i64.wrap (((BitVec.ofInt IntKind.i64.bits ((IntKind.i64.wrap ((IntKind.i64.wrap (x0.2.2 * (6364136223846793005 : Int))) + (1442695040888963407 : Int))).fdiv (2 ^ (min 33 IntKind.i64.bits))) ^^^ BitVec.ofInt IntKind.i64.bits ((IntKind.i64.wrap ((IntKind.i64.wrap (x0.2.2 * (6364136223846793005 : Int))) + (1442695040888963407 : Int))).fdiv (2 ^ (min 45 IntKind.i64.bits)))).toNat : Int))) &&& BitVec.ofInt IntKind.i64.bits (255 : Int)).toNat : Int))) + (IntKind.i64.wrap (x0.1.getD x0.2.1.toNat (0 : Int))))) &&& BitVec.ofInt IntKind.i64.bits (255 : Int)).toNat : Int))), (x0.1, ((IntKind.i64.wrap (x0.2.1 + (1 : Int))), (IntKind.i64.wrap ((IntKind.i64.wrap (x0.2.2 * (6364136223846793005 : Int))) + (1442695040888963407 : Int)))))))
      else (none))
    else (none))
  else (some ((IntKind.i64.wrap (((BitVec.ofInt IntKind.i64.bits (IntKind.i64.wrap (((BitVec.ofInt IntKind.i64.bits ((IntKind.i64.wrap ((IntKind.i64.wrap (x0.2.2 * (6364136223846793005 : Int))) + (1442695040888963407 : Int))).fdiv (2 ^ (min 33 IntKind.i64.bits))) ^^^ BitVec.ofInt IntKind.i64.bits ((IntKind.i64.wrap ((IntKind.i64.wrap (x0.2.2 * (6364136223846793005 : Int))) + (1442695040888963407 : Int))).fdiv (2 ^ (min 45 IntKind.i64.bits)))).toNat : Int))) &&& BitVec.ofInt IntKind.i64.bits (255 : Int)).toNat : Int))), (x0.1, (x0.2.1, (IntKind.i64.wrap ((IntKind.i64.wrap (x0.2.2 * (6364136223846793005 : Int))) + (1442695040888963407 : Int))))))) := by kernel_rfl
theorem s_l23New_eq (k : Nat) (x0 : List Int) (x1 : Int) : s_l23New (k + 1) (x0, x1) =
  (s_l01New k x0).bind fun y1 =>
  s_l23New_l3 k x1 (0 : Int) y1.1 y1.2.1 y1.2.2 := by kernel_rfl
theorem s_l23New_l3_eq (k : Nat) (v1 : Int) (v6 : Int) (o200005_0 : List Int) (o200005_1 : Int) (o200005_2 : Int) : s_l23New_l3 (k + 1) v1 v6 o200005_0 o200005_1 o200005_2 =
  bif decide (v6 < v1) then
    ((s_l01Byte k (o200005_0, (o200005_1, o200005_2))).bind fun y1 =>
    s_l23New_l3 k v1 (IntKind.i64.wrap (v6 + (1 : Int))) y1.2.1 y1.2.2.1 y1.2.2.2)
  else (some (o200005_0, (o200005_1, o200005_2))) := by kernel_rfl
theorem s_MakeNum_eq (k : Nat) (x0 : List Int) (x1 : Int) : s_MakeNum (k + 1) (x0, x1) =
  (s_l23New k (x0, x1)).bind fun y1 =>
  (s_l01Byte k y1).bind fun y2 =>
  (s_l01Byte k y2.2).bind fun y3 =>
  some (IntKind.i64.wrap ((IntKind.i64.wrap (y2.1 * (256 : Int))) + y3.1)) := by kernel_rfl
theorem i_upTo_eq (k : Nat) (x0 : Int) : i_upTo (k + 1) x0 =
  i_upTo_l3 k x0 (0 : Int) [] := by kernel_rfl
theorem i_upTo_l3_eq (k : Nat) (v0 : Int) (v4 : Int) (o100003 : List Int) : i_upTo_l3 (k + 1) v0 v4 o100003 =
  bif decide (v4 < v0) then
    (bif decide (o100003.length + [v4].length ≤ rowMax) then
      (i_upTo_l3 k v0 (IntKind.i64.wrap (v4 + (1 : Int))) (o100003 ++ [v4]))
    else (none))
  else (some o100003) := by kernel_rfl
theorem i_NewPacket_eq (k : Nat) (x0 : Int) : i_NewPacket (k + 1) x0 =
  bif decide (x0 < (0 : Int)) then
    (some [])
  else (bif decide (x0 > (12 : Int)) then
      (some [])
    else ((i_upTo k x0).bind fun y1 =>
      some y1)) := by kernel_rfl
theorem i_CardOf_eq (k : Nat) (x0 : Int) : i_CardOf (k + 1) x0 =
  bif decide (x0 < (0 : Int)) then
    (bif decide ((IntKind.i64.wrap ((-1 : Int) - x0)) ≥ (12 : Int)) then
      (some (-1 : Int))
    else (some (IntKind.i64.wrap ((-1 : Int) - x0))))
  else (bif decide (x0 ≥ (12 : Int)) then
      (some (-1 : Int))
    else (some x0)) := by kernel_rfl
theorem i_PacketOk_eq (k : Nat) (x0 : List Int) : i_PacketOk (k + 1) x0 =
  i_PacketOk_l3 k x0 (x0.length : Int) (0 : Int) (List.replicate 12 false) := by kernel_rfl
theorem i_PacketOk_l3_eq (k : Nat) (v7 : List Int) (v8 : Int) (v9 : Int) (o400003 : List Bool) : i_PacketOk_l3 (k + 1) v7 v8 v9 o400003 =
  bif decide (v9 < v8) then
    (bif decide (0 ≤ v9) then
      (bif decide (v9 < (v7.length : Int)) then
        ((i_CardOf k (v7.getD v9.toNat (0 : Int))).bind fun y1 =>
        bif decide (y1 < (0 : Int)) then
          (some false)
        else (bif (Nat.beq o400003.length 12 && true) then
            (bif decide (0 ≤ y1) then
              (bif decide (y1 < (o400003.length : Int)) then
                (bif decide (y1.toNat < o400003.length) then
                  (bif (o400003.getD y1.toNat false) then
                    (some false)
                  else (bif (Nat.beq o400003.length 12 && true) then
                      (bif decide (0 ≤ y1) then
                        (bif decide (y1 < (o400003.length : Int)) then
                          (bif decide (y1.toNat < o400003.length) then
                            (i_PacketOk_l3 k v7 v8 (IntKind.i64.wrap (v9 + (1 : Int))) (o400003.set y1.toNat true))
                          else (none))
                        else (none))
                      else (none))
                    else (none)))
                else (none))
              else (none))
            else (none))
          else (none)))
      else (none))
    else (none))
  else (some true) := by kernel_rfl
theorem slices_Clone_int_eq (k : Nat) (x0 : List Int) : slices_Clone_int (k + 1) x0 =
  bif (!x0.isEmpty) then
    (bif decide (([] : List Int).length + x0.length ≤ rowMax) then
      (some (([] : List Int) ++ x0))
    else (none))
  else (both (rs := flatRs slices_Clone_int_fi.rs) (ios := ioOf slices_Clone_int_fi.ps) (some [])
    (bif decide (([] : List Int).length + x0.length ≤ rowMax) then
        (some (([] : List Int) ++ x0))
      else (none))) := by kernel_rfl
theorem slices_Grow_int_eq (k : Nat) (x0 : List Int) (x1 : Int) : slices_Grow_int k (x0, x1) = (fun _ n => growF n) x0 x1 := by kernel_rfl
theorem slices_Concat_int_eq (k : Nat) (x0 : List (List Int)) : slices_Concat_int (k + 1) x0 =
  slices_Concat_int_l3 k x0 (0 : Int) x0 (x0.length : Int) (0 : Int) := by kernel_rfl
theorem slices_Concat_int_l3_eq (k : Nat) (v0 : List (List Int)) (v3 : Int) (v9 : List (List Int)) (v10 : Int) (v11 : Int) : slices_Concat_int_l3 (k + 1) v0 v3 v9 v10 v11 =
  bif decide (v11 < v10) then
    (bif decide (0 ≤ v11) then
      (bif decide (v11 < (v9.length : Int)) then
        (bif decide ((IntKind.i64.wrap (v3 + ((v9.getD v11.toNat []).length : Int))) < (0 : Int)) then
          (none)
        else (slices_Concat_int_l3 k v0 (IntKind.i64.wrap (v3 + ((v9.getD v11.toNat []).length : Int))) v9 v10 (IntKind.i64.wrap (v11 + (1 : Int)))))
      else (none))
    else (none))
  else ((slices_Grow_int k ([], v3)).bind fun y1 =>
    slices_Concat_int_l11 k v0 (v0.length : Int) (0 : Int) y1) := by kernel_rfl
theorem slices_Concat_int_l11_eq (k : Nat) (v25 : List (List Int)) (v26 : Int) (v27 : Int) (o100006 : List Int) : slices_Concat_int_l11 (k + 1) v25 v26 v27 o100006 =
  bif decide (v27 < v26) then
    (bif decide (0 ≤ v27) then
      (bif decide (v27 < (v25.length : Int)) then
        (bif decide (o100006.length + (v25.getD v27.toNat []).length ≤ rowMax) then
          (slices_Concat_int_l11 k v25 v26 (IntKind.i64.wrap (v27 + (1 : Int))) (o100006 ++ (v25.getD v27.toNat [])))
        else (none))
      else (none))
    else (none))
  else (some o100006) := by kernel_rfl
theorem slices_Reverse_int_eq (k : Nat) (x0 : List Int) : slices_Reverse_int k x0 = reverseF x0 := by kernel_rfl
theorem i_reversed_eq (k : Nat) (x0 : List Int) : i_reversed (k + 1) x0 =
  (slices_Clone_int k x0).bind fun y1 =>
  (slices_Reverse_int k y1).bind fun y2 =>
  some y2.2 := by kernel_rfl
theorem i_faro_eq (k : Nat) (x0 : List Int) (x1 : Int) : i_faro (k + 1) (x0, x1) =
  bif decide (0 ≤ (IntKind.i64.wrap ((x0.length : Int).tdiv (2 : Int)))) then
    (bif decide ((IntKind.i64.wrap ((x0.length : Int).tdiv (2 : Int))) ≤ (x0.length : Int)) then
      (bif decide (0 ≤ (IntKind.i64.wrap ((x0.length : Int).tdiv (2 : Int)))) then
        (bif decide ((IntKind.i64.wrap ((x0.length : Int).tdiv (2 : Int))) ≤ (x0.length : Int)) then
          (bif decide ((x0.length : Int) ≤ (x0.length : Int)) then
            (i_faro_l4 k ((x0.take (IntKind.i64.wrap ((x0.length : Int).tdiv (2 : Int))).toNat).drop 0) ((x0.take ((x0.length : Int)).toNat).drop (IntKind.i64.wrap ((x0.length : Int).tdiv (2 : Int))).toNat) (x1 == (0 : Int)) [])
          else (none))
        else (none))
      else (none))
    else (none))
  else (none) := by kernel_rfl
theorem i_faro_l4_eq (k : Nat) (v5 : List Int) (v6 : List Int) (v8 : Bool) (o100007 : List Int) : i_faro_l4 (k + 1) v5 v6 v8 o100007 =
  bif decide ((v5.length : Int) > (0 : Int)) then
    (bif v8 then
      (bif decide ((v5.length : Int) > (0 : Int)) then
        (bif decide ((1 : Int) ≤ (v5.length : Int)) then
          (bif decide ((v5.length : Int) ≤ (v5.length : Int)) then
            (bif decide ((0 : Int) < (v5.length : Int)) then
              (bif decide (o100007.length + [(v5.getD 0 (0 : Int))].length ≤ rowMax) then
                (i_faro_l4 k ((v5.take ((v5.length : Int)).toNat).drop 1) v6 (!v8) (o100007 ++ [(v5.getD 0 (0 : Int))]))
              else (none))
            else (none))
          else (none))
        else (none))
      else (bif ((v6.length : Int) == (0 : Int)) then
          (bif decide ((1 : Int) ≤ (v5.length : Int)) then
            (bif decide ((v5.length : Int) ≤ (v5.length : Int)) then
              (bif decide ((0 : Int) < (v5.length : Int)) then
                (bif decide (o100007.length + [(v5.getD 0 (0 : Int))].length ≤ rowMax) then
                  (i_faro_l4 k ((v5.take ((v5.length : Int)).toNat).drop 1) v6 (!v8) (o100007 ++ [(v5.getD 0 (0 : Int))]))
                else (none))
              else (none))
            else (none))
          else (none))
        else (bif decide ((1 : Int) ≤ (v6.length : Int)) then
            (bif decide ((v6.length : Int) ≤ (v6.length : Int)) then
              (bif decide ((0 : Int) < (v6.length : Int)) then
                (bif decide (o100007.length + [(v6.getD 0 (0 : Int))].length ≤ rowMax) then
                  (i_faro_l4 k v5 ((v6.take ((v6.length : Int)).toNat).drop 1) (!v8) (o100007 ++ [(v6.getD 0 (0 : Int))]))
                else (none))
              else (none))
            else (none))
          else (none))))
    else (bif ((v6.length : Int) == (0 : Int)) then
        (bif decide ((1 : Int) ≤ (v5.length : Int)) then
          (bif decide ((v5.length : Int) ≤ (v5.length : Int)) then
            (bif decide ((0 : Int) < (v5.length : Int)) then
              (bif decide (o100007.length + [(v5.getD 0 (0 : Int))].length ≤ rowMax) then
                (i_faro_l4 k ((v5.take ((v5.length : Int)).toNat).drop 1) v6 (!v8) (o100007 ++ [(v5.getD 0 (0 : Int))]))
              else (none))
            else (none))
          else (none))
        else (none))
      else (bif decide ((1 : Int) ≤ (v6.length : Int)) then
          (bif decide ((v6.length : Int) ≤ (v6.length : Int)) then
            (bif decide ((0 : Int) < (v6.length : Int)) then
              (bif decide (o100007.length + [(v6.getD 0 (0 : Int))].length ≤ rowMax) then
                (i_faro_l4 k v5 ((v6.take ((v6.length : Int)).toNat).drop 1) (!v8) (o100007 ++ [(v6.getD 0 (0 : Int))]))
              else (none))
            else (none))
          else (none))
        else (none))))
  else (bif decide ((v6.length : Int) > (0 : Int)) then
      (bif v8 then
        (bif decide ((v5.length : Int) > (0 : Int)) then
          (bif decide ((1 : Int) ≤ (v5.length : Int)) then
            (bif decide ((v5.length : Int) ≤ (v5.length : Int)) then
              (bif decide ((0 : Int) < (v5.length : Int)) then
                (bif decide (o100007.length + [(v5.getD 0 (0 : Int))].length ≤ rowMax) then
                  (i_faro_l4 k ((v5.take ((v5.length : Int)).toNat).drop 1) v6 (!v8) (o100007 ++ [(v5.getD 0 (0 : Int))]))
                else (none))
              else (none))
            else (none))
          else (none))
        else (bif ((v6.length : Int) == (0 : Int)) then
            (bif decide ((1 : Int) ≤ (v5.length : Int)) then
              (bif decide ((v5.length : Int) ≤ (v5.length : Int)) then
                (bif decide ((0 : Int) < (v5.length : Int)) then
                  (bif decide (o100007.length + [(v5.getD 0 (0 : Int))].length ≤ rowMax) then
                    (i_faro_l4 k ((v5.take ((v5.length : Int)).toNat).drop 1) v6 (!v8) (o100007 ++ [(v5.getD 0 (0 : Int))]))
                  else (none))
                else (none))
              else (none))
            else (none))
          else (bif decide ((1 : Int) ≤ (v6.length : Int)) then
              (bif decide ((v6.length : Int) ≤ (v6.length : Int)) then
                (bif decide ((0 : Int) < (v6.length : Int)) then
                  (bif decide (o100007.length + [(v6.getD 0 (0 : Int))].length ≤ rowMax) then
                    (i_faro_l4 k v5 ((v6.take ((v6.length : Int)).toNat).drop 1) (!v8) (o100007 ++ [(v6.getD 0 (0 : Int))]))
                  else (none))
                else (none))
              else (none))
            else (none))))
      else (bif ((v6.length : Int) == (0 : Int)) then
          (bif decide ((1 : Int) ≤ (v5.length : Int)) then
            (bif decide ((v5.length : Int) ≤ (v5.length : Int)) then
              (bif decide ((0 : Int) < (v5.length : Int)) then
                (bif decide (o100007.length + [(v5.getD 0 (0 : Int))].length ≤ rowMax) then
                  (i_faro_l4 k ((v5.take ((v5.length : Int)).toNat).drop 1) v6 (!v8) (o100007 ++ [(v5.getD 0 (0 : Int))]))
                else (none))
              else (none))
            else (none))
          else (none))
        else (bif decide ((1 : Int) ≤ (v6.length : Int)) then
            (bif decide ((v6.length : Int) ≤ (v6.length : Int)) then
              (bif decide ((0 : Int) < (v6.length : Int)) then
                (bif decide (o100007.length + [(v6.getD 0 (0 : Int))].length ≤ rowMax) then
                  (i_faro_l4 k v5 ((v6.take ((v6.length : Int)).toNat).drop 1) (!v8) (o100007 ++ [(v6.getD 0 (0 : Int))]))
                else (none))
              else (none))
            else (none))
          else (none))))
    else (some o100007)) := by kernel_rfl
theorem i_monge_eq (k : Nat) (x0 : List Int) (x1 : Int) : i_monge (k + 1) (x0, x1) =
  i_monge_l3 k x1 x0 (x0.length : Int) (0 : Int) [] := by kernel_rfl
theorem i_monge_l3_eq (k : Nat) (v1 : Int) (v8 : List Int) (v9 : Int) (v10 : Int) (o100005 : List Int) : i_monge_l3 (k + 1) v1 v8 v9 v10 o100005 =
  bif decide (v10 < v9) then
    (bif decide (0 ≤ v10) then
      (bif decide (v10 < (v8.length : Int)) then
        (bif decide (v10 > (0 : Int)) then
          (bif (((IntKind.i64.wrap (v10 + v1)).tmod (2 : Int)) == (1 : Int)) then
            (bif decide ([(v8.getD v10.toNat (0 : Int))].length + o100005.length ≤ rowMax) then
              (i_monge_l3 k v1 v8 v9 (IntKind.i64.wrap (v10 + (1 : Int))) ([(v8.getD v10.toNat (0 : Int))] ++ o100005))
            else (none))
          else (bif decide (o100005.length + [(v8.getD v10.toNat (0 : Int))].length ≤ rowMax) then
              (i_monge_l3 k v1 v8 v9 (IntKind.i64.wrap (v10 + (1 : Int))) (o100005 ++ [(v8.getD v10.toNat (0 : Int))]))
            else (none)))
        else (bif decide (o100005.length + [(v8.getD v10.toNat (0 : Int))].length ≤ rowMax) then
            (i_monge_l3 k v1 v8 v9 (IntKind.i64.wrap (v10 + (1 : Int))) (o100005 ++ [(v8.getD v10.toNat (0 : Int))]))
          else (none)))
      else (none))
    else (none))
  else (some o100005) := by kernel_rfl
theorem i_milk_eq (k : Nat) (x0 : List Int) : i_milk (k + 1) x0 =
  i_milk_l2 k x0 [] := by kernel_rfl
theorem i_milk_l2_eq (k : Nat) (v0 : List Int) (o100003 : List Int) : i_milk_l2 (k + 1) v0 o100003 =
  bif decide ((v0.length : Int) > (1 : Int)) then
    (bif decide ((0 : Int) < (v0.length : Int)) then
      (bif decide (0 ≤ (IntKind.i64.wrap ((v0.length : Int) - (1 : Int)))) then
        (bif decide ((IntKind.i64.wrap ((v0.length : Int) - (1 : Int))) < (v0.length : Int)) then
          (bif decide ([(v0.getD 0 (0 : Int)), (v0.getD (IntKind.i64.wrap ((v0.length : Int) - (1 : Int))).toNat (0 : Int))].length + o100003.length ≤ rowMax) then
            (bif decide ((1 : Int) ≤ (IntKind.i64.wrap ((v0.length : Int) - (1 : Int)))) then
              (bif decide ((IntKind.i64.wrap ((v0.length : Int) - (1 : Int))) ≤ (v0.length : Int)) then
                (i_milk_l2 k ((v0.take (IntKind.i64.wrap ((v0.length : Int) - (1 : Int))).toNat).drop 1) ([(v0.getD 0 (0 : Int)), (v0.getD (IntKind.i64.wrap ((v0.length : Int) - (1 : Int))).toNat (0 : Int))] ++ o100003))
              else (none))
            else (none))
          else (none))
        else (none))
      else (none))
    else (none))
  else ((slices_Clone_int k v0).bind fun y1 =>
    bif decide (y1.length + o100003.length ≤ rowMax) then
      (some (y1 ++ o100003))
    else (none)) := by kernel_rfl
theorem i_dealt_eq (k : Nat) (x0 : List Int) (x1 : Int) : i_dealt (k + 1) (x0, x1) =
  (slices_Clone_int k x0).bind fun y1 =>
  i_dealt_l4 k (x1 == (1 : Int)) [] y1 := by kernel_rfl
theorem i_dealt_l4_eq (k : Nat) (v7 : Bool) (o100005 : List Int) (o100006 : List Int) : i_dealt_l4 (k + 1) v7 o100005 o100006 =
  bif decide ((o100006.length : Int) > (1 : Int)) then
    (bif v7 then
      (bif decide ((0 : Int) < (o100006.length : Int)) then
        (bif decide (0 < o100006.length) then
          (bif decide (o100005.length + [(o100006.getD 0 (0 : Int))].length ≤ rowMax) then
            (bif decide ((1 : Int) ≤ (o100006.length : Int)) then
              (bif decide ((o100006.length : Int) ≤ (o100006.length : Int)) then
                (i_dealt_l4 k (!v7) (o100005 ++ [(o100006.getD 0 (0 : Int))]) ((o100006.take ((o100006.length : Int)).toNat).drop 1))
              else (none))
            else (none))
          else (none))
        else (none))
      else (none))
    else (bif decide ((0 : Int) < (o100006.length : Int)) then
        (bif decide (0 < o100006.length) then
          (bif decide (o100006.length + [(o100006.getD 0 (0 : Int))].length ≤ rowMax) then
            (bif decide ((1 : Int) ≤ ((o100006 ++ [(o100006.getD 0 (0 : Int))]).length : Int)) then
              (bif decide (((o100006 ++ [(o100006.getD 0 (0 : Int))]).length : Int) ≤ ((o100006 ++ [(o100006.getD 0 (0 : Int))]).length : Int)) then
                (i_dealt_l4 k (!v7) o100005 (((o100006 ++ [(o100006.getD 0 (0 : Int))]).take (((o100006 ++ [(o100006.getD 0 (0 : Int))]).length : Int)).toNat).drop 1))
              else (none))
            else (none))
          else (none))
        else (none))
      else (none)))
  else (bif decide (o100005.length + o100006.length ≤ rowMax) then
      (some (o100005 ++ o100006))
    else (none)) := by kernel_rfl
theorem i_TurnCard_eq (k : Nat) (x0 : Int) : i_TurnCard (k + 1) x0 =
  (i_CardOf k x0).bind fun y1 =>
  bif decide (y1 < (0 : Int)) then
    (some x0)
  else (some (IntKind.i64.wrap ((-1 : Int) - x0))) := by kernel_rfl
theorem i_moved_eq (k : Nat) (x0 : List Int) (x1 : Int × Int) : i_moved (k + 1) (x0, x1) =
  bif (x1.1 == (1 : Int)) then
    (bif decide (0 ≤ x1.2) then
      (bif decide (x1.2 ≤ (x0.length : Int)) then
        (bif decide ((x0.length : Int) ≤ (x0.length : Int)) then
          (bif decide (0 ≤ x1.2) then
            (bif decide (x1.2 ≤ (x0.length : Int)) then
              ((slices_Concat_int k [((x0.take ((x0.length : Int)).toNat).drop x1.2.toNat), ((x0.take x1.2.toNat).drop 0)]).bind fun y1 =>
              some y1)
            else (none))
          else (none))
        else (none))
      else (none))
    else (none))
  else (bif (x1.1 == (2 : Int)) then
      (bif decide (0 ≤ x1.2) then
        (bif decide (x1.2 ≤ (x0.length : Int)) then
          ((i_reversed k ((x0.take x1.2.toNat).drop 0)).bind fun y2 =>
          bif decide (0 ≤ x1.2) then
            (bif decide (x1.2 ≤ (x0.length : Int)) then
              (bif decide ((x0.length : Int) ≤ (x0.length : Int)) then
                ((slices_Concat_int k [y2, ((x0.take ((x0.length : Int)).toNat).drop x1.2.toNat)]).bind fun y3 =>
                some y3)
              else (none))
            else (none))
          else (none))
        else (none))
      else (none))
    else (bif (x1.1 == (3 : Int)) then
        (bif decide (0 ≤ x1.2) then
          (bif decide (x1.2 ≤ (x0.length : Int)) then
            ((i_reversed k ((x0.take x1.2.toNat).drop 0)).bind fun y4 =>
            bif decide (0 ≤ x1.2) then
              (bif decide (x1.2 ≤ (x0.length : Int)) then
                (bif decide ((x0.length : Int) ≤ (x0.length : Int)) then
                  ((slices_Concat_int k [y4, ((x0.take ((x0.length : Int)).toNat).drop x1.2.toNat)]).bind fun y5 =>
                  i_moved_l10 k x1.2 (0 : Int) y5)
                else (none))
              else (none))
            else (none))
          else (none))
        else (none))
      else (bif (x1.1 == (4 : Int)) then
          ((i_faro k (x0, x1.2)).bind fun y6 =>
          some y6)
        else (bif (x1.1 == (5 : Int)) then
            ((i_monge k (x0, x1.2)).bind fun y7 =>
            some y7)
          else (bif (x1.1 == (6 : Int)) then
              ((i_milk k x0).bind fun y8 =>
              some y8)
            else (bif (x1.1 == (7 : Int)) then
                ((i_dealt k (x0, x1.2)).bind fun y9 =>
                (i_reversed k y9).bind fun y10 =>
                some y10)
              else (bif (x1.1 == (8 : Int)) then
                  ((slices_Clone_int k x0).bind fun y11 =>
                  bif decide (0 ≤ x1.2) then
                    (bif decide (x1.2 < (y11.length : Int)) then
                      (bif decide (x1.2.toNat < y11.length) then
                        ((i_TurnCard k (y11.getD x1.2.toNat (0 : Int))).bind fun y12 =>
                        bif decide (0 ≤ x1.2) then
                          (bif decide (x1.2 < (y11.length : Int)) then
                            (bif decide (x1.2.toNat < y11.length) then
                              (some (y11.set x1.2.toNat y12))
                            else (none))
                          else (none))
                        else (none))
                      else (none))
                    else (none))
                  else (none))
                else (bif decide (0 ≤ x1.2) then
                    (bif decide (x1.2 ≤ (x0.length : Int)) then
                      (bif decide (0 ≤ (IntKind.i64.wrap (x1.2 + (1 : Int)))) then
                        (bif decide ((IntKind.i64.wrap (x1.2 + (1 : Int))) ≤ (x0.length : Int)) then
                          (bif decide ((x0.length : Int) ≤ (x0.length : Int)) then
                            (bif decide (0 ≤ x1.2) then
                              (bif decide (x1.2 ≤ (IntKind.i64.wrap (x1.2 + (1 : Int)))) then
                                (bif decide ((IntKind.i64.wrap (x1.2 + (1 : Int))) ≤ (x0.length : Int)) then
                                  ((slices_Concat_int k [((x0.take x1.2.toNat).drop 0), ((x0.take ((x0.length : Int)).toNat).drop (IntKind.i64.wrap (x1.2 + (1 : Int))).toNat), ((x0.take (IntKind.i64.wrap (x1.2 + (1 : Int))).toNat).drop x1.2.toNat)]).bind fun y13 =>
                                  some y13)
                                else (none))
                              else (none))
                            else (none))
                          else (none))
                        else (none))
                      else (none))
                    else (none))
                  else (none))))))))) := by kernel_rfl
theorem i_moved_l10_eq (k : Nat) (v5 : Int) (v7 : Int) (o100006 : List Int) : i_moved_l10 (k + 1) v5 v7 o100006 =
  bif decide (v7 < v5) then
    (bif decide (0 ≤ v7) then
      (bif decide (v7 < (o100006.length : Int)) then
        (bif decide (v7.toNat < o100006.length) then
          ((i_TurnCard k (o100006.getD v7.toNat (0 : Int))).bind fun y1 =>
          bif decide (0 ≤ v7) then
            (bif decide (v7 < (o100006.length : Int)) then
              (bif decide (v7.toNat < o100006.length) then
                (i_moved_l10 k v5 (IntKind.i64.wrap (v7 + (1 : Int))) (o100006.set v7.toNat y1))
              else (none))
            else (none))
          else (none))
        else (none))
      else (none))
    else (none))
  else (some o100006) := by kernel_rfl
theorem i_cuts_eq (k : Nat) (x0 : List Int) : i_cuts (k + 1) x0 =
  i_cuts_l3 k x0 (x0.length : Int) (0 : Int) [] := by kernel_rfl
theorem i_cuts_l3_eq (k : Nat) (v0 : List Int) (v6 : Int) (v7 : Int) (o100003 : List (List Int)) : i_cuts_l3 (k + 1) v0 v6 v7 o100003 =
  bif decide (v7 < v6) then
    ((i_moved k (v0, ((1 : Int), v7))).bind fun y1 =>
    bif decide (o100003.length + [y1].length ≤ rowMax) then
      (i_cuts_l3 k v0 v6 (IntKind.i64.wrap (v7 + (1 : Int))) (o100003 ++ [y1]))
    else (none))
  else (some o100003) := by kernel_rfl
theorem i_riffled_eq (k : Nat) (x0 : List Int) (x1 : Int) : i_riffled (k + 1) (x0, x1) =
  i_riffled_l3 k x0 x1 (0 : Int) (0 : Int) (x0.length : Int) (0 : Int) := by kernel_rfl
theorem i_riffled_l3_eq (k : Nat) (v0 : List Int) (v1 : Int) (v5 : Int) (v6 : Int) (v11 : Int) (v12 : Int) : i_riffled_l3 (k + 1) v0 v1 v5 v6 v11 v12 =
  bif decide (v12 < v11) then
    (bif decide (0 ≤ v12) then
      (i_riffled_l3 k v0 v1 v5 (IntKind.i64.wrap (v6 + (IntKind.i64.wrap ((1 : Int) - (IntKind.i64.wrap (((BitVec.ofInt IntKind.i64.bits (v1.fdiv (2 ^ (min v12.toNat IntKind.i64.bits))) &&& BitVec.ofInt IntKind.i64.bits (1 : Int)).toNat : Int))))))) v11 (IntKind.i64.wrap (v12 + (1 : Int))))
    else (none))
  else (i_riffled_l9 k v0 v1 v5 v6 (v0.length : Int) (0 : Int) []) := by kernel_rfl
theorem i_riffled_l9_eq (k : Nat) (v0 : List Int) (v1 : Int) (v5 : Int) (v6 : Int) (v24 : Int) (v25 : Int) (o100008 : List Int) : i_riffled_l9 (k + 1) v0 v1 v5 v6 v24 v25 o100008 =
  bif decide (v25 < v24) then
    (bif decide (0 ≤ v25) then
      (bif ((IntKind.i64.wrap (((BitVec.ofInt IntKind.i64.bits (v1.fdiv (2 ^ (min v25.toNat IntKind.i64.bits))) &&& BitVec.ofInt IntKind.i64.bits (1 : Int)).toNat : Int))) == (1 : Int)) then
        (bif decide (0 ≤ v6) then
          (bif decide (v6 < (v0.length : Int)) then
            (bif decide (o100008.length + [(v0.getD v6.toNat (0 : Int))].length ≤ rowMax) then
              (i_riffled_l9 k v0 v1 v5 (IntKind.i64.wrap (v6 + (1 : Int))) v24 (IntKind.i64.wrap (v25 + (1 : Int))) (o100008 ++ [(v0.getD v6.toNat (0 : Int))]))
            else (none))
          else (none))
        else (none))
      else (bif decide (0 ≤ v5) then
          (bif decide (v5 < (v0.length : Int)) then
            (bif decide (o100008.length + [(v0.getD v5.toNat (0 : Int))].length ≤ rowMax) then
              (i_riffled_l9 k v0 v1 (IntKind.i64.wrap (v5 + (1 : Int))) v6 v24 (IntKind.i64.wrap (v25 + (1 : Int))) (o100008 ++ [(v0.getD v5.toNat (0 : Int))]))
            else (none))
          else (none))
        else (none)))
    else (none))
  else (some o100008) := by kernel_rfl
theorem i_all_eq (k : Nat) (x0 : List Int) (x1 : Int) : i_all (k + 1) (x0, x1) =
  bif (x1 == (0 : Int)) then
    ((slices_Clone_int k x0).bind fun y1 =>
    some ([y1], true))
  else (bif (x1 == (1 : Int)) then
      ((i_cuts k x0).bind fun y2 =>
      some (y2, true))
    else (bif (x1 == (2 : Int)) then
        (i_all_l9 k x0 (0 : Int) [])
      else (bif (x1 == (3 : Int)) then
          (bif decide ((x0.length : Int) < (2 : Int)) then
            (some ([], false))
          else ((i_moved k (x0, ((3 : Int), (2 : Int)))).bind fun y3 =>
            (i_cuts k y3).bind fun y4 =>
            some (y4, true)))
        else (bif (x1 == (4 : Int)) then
            (i_all_l20 k x0 (x0.length : Int) (0 : Int) [])
          else (some ([], false)))))) := by kernel_rfl
theorem i_all_l9_eq (k : Nat) (v0 : List Int) (v7 : Int) (o100006 : List (List Int)) : i_all_l9 (k + 1) v0 v7 o100006 =
  bif decide (0 ≤ (v0.length : Int)) then
    (bif decide (v7 < (IntKind.i64.wrap ((1 : Int) * 2 ^ (min (v0.length : Int).toNat IntKind.i64.bits)))) then
      ((i_riffled k (v0, v7)).bind fun y1 =>
      bif decide (o100006.length + [y1].length ≤ rowMax) then
        (i_all_l9 k v0 (IntKind.i64.wrap (v7 + (1 : Int))) (o100006 ++ [y1]))
      else (none))
    else (some (o100006, true)))
  else (none) := by kernel_rfl
theorem i_all_l20_eq (k : Nat) (v0 : List Int) (v48 : Int) (v49 : Int) (o100008 : List (List Int)) : i_all_l20 (k + 1) v0 v48 v49 o100008 =
  bif decide (v49 < v48) then
    (bif decide (0 ≤ v49) then
      (bif decide (v49 ≤ (IntKind.i64.wrap (v49 + (1 : Int)))) then
        (bif decide ((IntKind.i64.wrap (v49 + (1 : Int))) ≤ (v0.length : Int)) then
          (bif decide (0 ≤ v49) then
            (bif decide (v49 ≤ (v0.length : Int)) then
              (bif decide (0 ≤ (IntKind.i64.wrap (v49 + (1 : Int)))) then
                (bif decide ((IntKind.i64.wrap (v49 + (1 : Int))) ≤ (v0.length : Int)) then
                  (bif decide ((v0.length : Int) ≤ (v0.length : Int)) then
                    ((slices_Concat_int k [((v0.take (IntKind.i64.wrap (v49 + (1 : Int))).toNat).drop v49.toNat), ((v0.take v49.toNat).drop 0), ((v0.take ((v0.length : Int)).toNat).drop (IntKind.i64.wrap (v49 + (1 : Int))).toNat)]).bind fun y1 =>
                    bif decide (o100008.length + [y1].length ≤ rowMax) then
                      (i_all_l20 k v0 v48 (IntKind.i64.wrap (v49 + (1 : Int))) (o100008 ++ [y1]))
                    else (none))
                  else (none))
                else (none))
              else (none))
            else (none))
          else (none))
        else (none))
      else (none))
    else (none))
  else (some (o100008, true)) := by kernel_rfl
theorem slices_SortFunc_int_int_eq (k : Nat) (x0 : List (List Int)) (x1 : Bool) : slices_SortFunc_int_int k (x0, x1) = (fun a _ => sortF a) x0 x1 := by kernel_rfl
theorem slices_CompactFunc_int_int_eq (k : Nat) (x0 : List (List Int)) (x1 : Bool) : slices_CompactFunc_int_int k (x0, x1) = (fun a _ => compactF a) x0 x1 := by kernel_rfl
theorem i_SortPackets_eq (k : Nat) (x0 : List (List Int)) : i_SortPackets (k + 1) x0 =
  i_SortPackets_l3 k x0 (x0.length : Int) (0 : Int) [] := by kernel_rfl
theorem i_SortPackets_l3_eq (k : Nat) (v6 : List (List Int)) (v7 : Int) (v8 : Int) (o100003 : List (List Int)) : i_SortPackets_l3 (k + 1) v6 v7 v8 o100003 =
  bif decide (v8 < v7) then
    (bif decide (0 ≤ v8) then
      (bif decide (v8 < (v6.length : Int)) then
        ((slices_Clone_int k (v6.getD v8.toNat [])).bind fun y1 =>
        bif decide (o100003.length + [y1].length ≤ rowMax) then
          (i_SortPackets_l3 k v6 v7 (IntKind.i64.wrap (v8 + (1 : Int))) (o100003 ++ [y1]))
        else (none))
      else (none))
    else (none))
  else ((slices_SortFunc_int_int k (o100003, false)).bind fun y2 =>
    (slices_CompactFunc_int_int k (y2.2, false)).bind fun y3 =>
    some y3) := by kernel_rfl
theorem i_ResultsOf_eq (k : Nat) (x0 : List Int) (x1 : Int) : i_ResultsOf (k + 1) (x0, x1) =
  (i_PacketOk k x0).bind fun y1 =>
  bif (!y1) then
    (some ([], false))
  else (bif ((x0.length : Int) == (0 : Int)) then
      (some ([], false))
    else ((i_all k (x0, x1)).bind fun y2 =>
      (i_SortPackets k y2.1).bind fun y3 =>
      bif (!y2.2) then
        (some ([], false))
      else (bif decide ((y3.length : Int) > (3000 : Int)) then
          (some ([], false))
        else (some (y3, true))))) := by kernel_rfl
theorem slices_Index_int_eq (k : Nat) (x0 : List Int) (x1 : Int) : slices_Index_int (k + 1) (x0, x1) =
  slices_Index_int_l2 k x0 x1 (x0.length : Int) (0 : Int) := by kernel_rfl
theorem slices_Index_int_l2_eq (k : Nat) (v0 : List Int) (v1 : Int) (v7 : Int) (v8 : Int) : slices_Index_int_l2 (k + 1) v0 v1 v7 v8 =
  bif decide (v8 < v7) then
    (bif decide (0 ≤ v8) then
      (bif decide (v8 < (v0.length : Int)) then
        (bif (v1 == (v0.getD v8.toNat (0 : Int))) then
          (some v8)
        else (slices_Index_int_l2 k v0 v1 v7 (IntKind.i64.wrap (v8 + (1 : Int)))))
      else (none))
    else (none))
  else (some (-1 : Int)) := by kernel_rfl
theorem slices_Contains_int_eq (k : Nat) (x0 : List Int) (x1 : Int) : slices_Contains_int (k + 1) (x0, x1) =
  (slices_Index_int k (x0, x1)).bind fun y1 =>
  some (decide (y1 ≥ (0 : Int))) := by kernel_rfl
theorem i_isPrefix_eq (k : Nat) (x0 : Int) (x1 : List Int) : i_isPrefix (k + 1) (x0, x1) =
  bif decide (x0 < (1 : Int)) then
    (some false)
  else (bif decide (x0 > (12 : Int)) then
      (some false)
    else (i_isPrefix_l4 k x0 x1 x1 (x1.length : Int) (0 : Int))) := by kernel_rfl
theorem i_isPrefix_l4_eq (k : Nat) (v0 : Int) (v1 : List Int) (v13 : List Int) (v14 : Int) (v15 : Int) : i_isPrefix_l4 (k + 1) v0 v1 v13 v14 v15 =
  bif decide (v15 < v14) then
    (bif decide (0 ≤ v15) then
      (bif decide (v15 < (v13.length : Int)) then
        (bif decide ((v13.getD v15.toNat (0 : Int)) < (0 : Int)) then
          (some false)
        else (bif decide ((v13.getD v15.toNat (0 : Int)) ≥ v0) then
            (some false)
          else (bif decide (0 ≤ v15) then
              (bif decide (v15 ≤ (v1.length : Int)) then
                ((slices_Contains_int k (((v1.take v15.toNat).drop 0), (v13.getD v15.toNat (0 : Int)))).bind fun y1 =>
                bif y1 then
                  (some false)
                else (i_isPrefix_l4 k v0 v1 v13 v14 (IntKind.i64.wrap (v15 + (1 : Int)))))
              else (none))
            else (none))))
      else (none))
    else (none))
  else (some true) := by kernel_rfl
theorem slices_Equal_int_eq (k : Nat) (x0 : List Int) (x1 : List Int) : slices_Equal_int (k + 1) (x0, x1) =
  bif (!((x0.length : Int) == (x1.length : Int))) then
    (some false)
  else (slices_Equal_int_l4 k x0 x1 (x0.length : Int) (0 : Int)) := by kernel_rfl
theorem slices_Equal_int_l4_eq (k : Nat) (v0 : List Int) (v1 : List Int) (v12 : Int) (v13 : Int) : slices_Equal_int_l4 (k + 1) v0 v1 v12 v13 =
  bif decide (v13 < v12) then
    (bif decide (0 ≤ v13) then
      (bif decide (v13 < (v0.length : Int)) then
        (bif decide (0 ≤ v13) then
          (bif decide (v13 < (v1.length : Int)) then
            (bif (!((v0.getD v13.toNat (0 : Int)) == (v1.getD v13.toNat (0 : Int)))) then
              (some false)
            else (slices_Equal_int_l4 k v0 v1 v12 (IntKind.i64.wrap (v13 + (1 : Int)))))
          else (none))
        else (none))
      else (none))
    else (none))
  else (some true) := by kernel_rfl
theorem i_WaysWith_eq (k : Nat) (x0 : Int) (x1 : List Int) : i_WaysWith (k + 1) (x0, x1) =
  (i_isPrefix k (x0, x1)).bind fun y1 =>
  bif (!y1) then
    (some (-1 : Int))
  else ((i_upTo k x0).bind fun y2 =>
    i_WaysWith_l5 k x0 x1 (0 : Int) (0 : Int) y2) := by kernel_rfl
theorem i_WaysWith_l5_eq (k : Nat) (v0 : Int) (v1 : List Int) (v6 : Int) (v7 : Int) (o100005 : List Int) : i_WaysWith_l5 (k + 1) v0 v1 v6 v7 o100005 =
  bif decide (0 ≤ v0) then
    (bif decide (v7 < (IntKind.i64.wrap ((1 : Int) * 2 ^ (min v0.toNat IntKind.i64.bits)))) then
      ((i_riffled k (o100005, v7)).bind fun y1 =>
      bif decide (0 ≤ (v1.length : Int)) then
        (bif decide ((v1.length : Int) ≤ (y1.length : Int)) then
          ((slices_Equal_int k (((y1.take (v1.length : Int).toNat).drop 0), v1)).bind fun y2 =>
          bif y2 then
            (i_WaysWith_l5 k v0 v1 (IntKind.i64.wrap (v6 + (1 : Int))) (IntKind.i64.wrap (v7 + (1 : Int))) o100005)
          else (i_WaysWith_l5 k v0 v1 v6 (IntKind.i64.wrap (v7 + (1 : Int))) o100005))
        else (none))
      else (none))
    else (some v6))
  else (none) := by kernel_rfl
theorem i_PermOk_eq (k : Nat) (x0 : List Int) : i_PermOk (k + 1) x0 =
  i_PermOk_l2 k x0 x0 (x0.length : Int) (0 : Int) := by kernel_rfl
theorem i_PermOk_l2_eq (k : Nat) (v0 : List Int) (v5 : List Int) (v6 : Int) (v7 : Int) : i_PermOk_l2 (k + 1) v0 v5 v6 v7 =
  bif decide (v7 < v6) then
    (bif decide (0 ≤ v7) then
      (bif decide (v7 < (v5.length : Int)) then
        (bif decide ((v5.getD v7.toNat (0 : Int)) < (0 : Int)) then
          (some false)
        else (bif decide ((v5.getD v7.toNat (0 : Int)) ≥ (v0.length : Int)) then
            (some false)
          else (bif decide (0 ≤ v7) then
              (bif decide (v7 ≤ (v0.length : Int)) then
                ((slices_Contains_int k (((v0.take v7.toNat).drop 0), (v5.getD v7.toNat (0 : Int)))).bind fun y1 =>
                bif y1 then
                  (some false)
                else (i_PermOk_l2 k v0 v5 v6 (IntKind.i64.wrap (v7 + (1 : Int)))))
              else (none))
            else (none))))
      else (none))
    else (none))
  else (some (decide ((v0.length : Int) ≤ (12 : Int)))) := by kernel_rfl
theorem i_inverse_eq (k : Nat) (x0 : List Int) : i_inverse (k + 1) x0 =
  bif decide (0 ≤ (x0.length : Int)) then
    (bif decide ((x0.length : Int) ≤ (rowMax : Int)) then
      (bif ((x0.length : Int) == (x0.length : Int)) then
        (i_inverse_l3 k x0 (x0.length : Int) (0 : Int) (List.replicate (x0.length : Int).toNat (0 : Int)))
      else (none))
    else (none))
  else (none) := by kernel_rfl
theorem i_inverse_l3_eq (k : Nat) (v9 : List Int) (v10 : Int) (v11 : Int) (o100003 : List Int) : i_inverse_l3 (k + 1) v9 v10 v11 o100003 =
  bif decide (v11 < v10) then
    (bif decide (0 ≤ v11) then
      (bif decide (v11 < (v9.length : Int)) then
        (bif decide (0 ≤ (v9.getD v11.toNat (0 : Int))) then
          (bif decide ((v9.getD v11.toNat (0 : Int)) < (o100003.length : Int)) then
            (bif decide ((v9.getD v11.toNat (0 : Int)).toNat < o100003.length) then
              (i_inverse_l3 k v9 v10 (IntKind.i64.wrap (v11 + (1 : Int))) (o100003.set (v9.getD v11.toNat (0 : Int)).toNat v11))
            else (none))
          else (none))
        else (none))
      else (none))
    else (none))
  else (some o100003) := by kernel_rfl
theorem i_RisingSequences_eq (k : Nat) (x0 : List Int) : i_RisingSequences (k + 1) x0 =
  (i_PermOk k x0).bind fun y1 =>
  bif (!y1) then
    (some [])
  else ((i_inverse k x0).bind fun y2 =>
    i_RisingSequences_l6 k (x0.length : Int) (0 : Int) [] y2) := by kernel_rfl
theorem i_RisingSequences_l6_eq (k : Nat) (v12 : Int) (v13 : Int) (o450003 : List (List Int)) (o100004 : List Int) : i_RisingSequences_l6 (k + 1) v12 v13 o450003 o100004 =
  bif decide (v13 < v12) then
    (bif (v13 == (0 : Int)) then
      (bif decide (o450003.length + ([[]] : List (List Int)).length ≤ rowMax) then
        (bif decide (0 ≤ (IntKind.i64.wrap (((o450003 ++ ([[]])).length : Int) - (1 : Int)))) then
          (bif decide ((IntKind.i64.wrap (((o450003 ++ ([[]])).length : Int) - (1 : Int))) < ((o450003 ++ ([[]])).length : Int)) then
            (bif decide ((IntKind.i64.wrap (((o450003 ++ ([[]])).length : Int) - (1 : Int))).toNat < (o450003 ++ ([[]])).length) then
              (bif decide (((o450003 ++ ([[]])).getD (IntKind.i64.wrap (((o450003 ++ ([[]])).length : Int) - (1 : Int))).toNat []).length + [v13].length ≤ rowMax) then
                (bif decide (0 ≤ (IntKind.i64.wrap (((o450003 ++ ([[]])).length : Int) - (1 : Int)))) then
                  (bif decide ((IntKind.i64.wrap (((o450003 ++ ([[]])).length : Int) - (1 : Int))) < ((o450003 ++ ([[]])).length : Int)) then
                    (bif (Nat.beq ((IntKind.i64.wrap (((o450003 ++ ([[]])).length : Int) - (1 : Int))).toNat) ((IntKind.i64.wrap (((o450003 ++ ([[]])).length : Int) - (1 : Int))).toNat)) then
                      (i_RisingSequences_l6 k v12 (IntKind.i64.wrap (v13 + (1 : Int))) ((o450003 ++ ([[]])).set (IntKind.i64.wrap (((o450003 ++ ([[]])).length : Int) - (1 : Int))).toNat (((o450003 ++ ([[]])).getD (IntKind.i64.wrap (((o450003 ++ ([[]])).length : Int) - (1 : Int))).toNat []) ++ [v13])) o100004)
                    else (none))
                  else (none))
                else (none))
              else (none))
            else (none))
          else (none))
        else (none))
      else (none))
    else (bif decide (0 ≤ v13) then
        (bif decide (v13 < (o100004.length : Int)) then
          (bif decide (v13.toNat < o100004.length) then
            (bif decide (0 ≤ (IntKind.i64.wrap (v13 - (1 : Int)))) then
              (bif decide ((IntKind.i64.wrap (v13 - (1 : Int))) < (o100004.length : Int)) then
                (bif decide ((IntKind.i64.wrap (v13 - (1 : Int))).toNat < o100004.length) then
                  (bif decide ((o100004.getD v13.toNat (0 : Int)) < (o100004.getD (IntKind.i64.wrap (v13 - (1 : Int))).toNat (0 : Int))) then
                    (bif decide (o450003.length + ([[]] : List (List Int)).length ≤ rowMax) then
                      (bif decide (0 ≤ (IntKind.i64.wrap (((o450003 ++ ([[]])).length : Int) - (1 : Int)))) then
                        (bif decide ((IntKind.i64.wrap (((o450003 ++ ([[]])).length : Int) - (1 : Int))) < ((o450003 ++ ([[]])).length : Int)) then
                          (bif decide ((IntKind.i64.wrap (((o450003 ++ ([[]])).length : Int) - (1 : Int))).toNat < (o450003 ++ ([[]])).length) then
                            (bif decide (((o450003 ++ ([[]])).getD (IntKind.i64.wrap (((o450003 ++ ([[]])).length : Int) - (1 : Int))).toNat []).length + [v13].length ≤ rowMax) then
                              (bif decide (0 ≤ (IntKind.i64.wrap (((o450003 ++ ([[]])).length : Int) - (1 : Int)))) then
                                (bif decide ((IntKind.i64.wrap (((o450003 ++ ([[]])).length : Int) - (1 : Int))) < ((o450003 ++ ([[]])).length : Int)) then
                                  (bif (Nat.beq ((IntKind.i64.wrap (((o450003 ++ ([[]])).length : Int) - (1 : Int))).toNat) ((IntKind.i64.wrap (((o450003 ++ ([[]])).length : Int) - (1 : Int))).toNat)) then
                                    (i_RisingSequences_l6 k v12 (IntKind.i64.wrap (v13 + (1 : Int))) ((o450003 ++ ([[]])).set (IntKind.i64.wrap (((o450003 ++ ([[]])).length : Int) - (1 : Int))).toNat (((o450003 ++ ([[]])).getD (IntKind.i64.wrap (((o450003 ++ ([[]])).length : Int) - (1 : Int))).toNat []) ++ [v13])) o100004)
                                  else (none))
                                else (none))
                              else (none))
                            else (none))
                          else (none))
                        else (none))
                      else (none))
                    else (none))
                  else (bif decide (0 ≤ (IntKind.i64.wrap ((o450003.length : Int) - (1 : Int)))) then
                      (bif decide ((IntKind.i64.wrap ((o450003.length : Int) - (1 : Int))) < (o450003.length : Int)) then
                        (bif decide ((IntKind.i64.wrap ((o450003.length : Int) - (1 : Int))).toNat < o450003.length) then
                          (bif decide ((o450003.getD (IntKind.i64.wrap ((o450003.length : Int) - (1 : Int))).toNat []).length + [v13].length ≤ rowMax) then
                            (bif decide (0 ≤ (IntKind.i64.wrap ((o450003.length : Int) - (1 : Int)))) then
                              (bif decide ((IntKind.i64.wrap ((o450003.length : Int) - (1 : Int))) < (o450003.length : Int)) then
                                (bif (Nat.beq ((IntKind.i64.wrap ((o450003.length : Int) - (1 : Int))).toNat) ((IntKind.i64.wrap ((o450003.length : Int) - (1 : Int))).toNat)) then
                                  (i_RisingSequences_l6 k v12 (IntKind.i64.wrap (v13 + (1 : Int))) (o450003.set (IntKind.i64.wrap ((o450003.length : Int) - (1 : Int))).toNat ((o450003.getD (IntKind.i64.wrap ((o450003.length : Int) - (1 : Int))).toNat []) ++ [v13])) o100004)
                                else (none))
                              else (none))
                            else (none))
                          else (none))
                        else (none))
                      else (none))
                    else (none)))
                else (none))
              else (none))
            else (none))
          else (none))
        else (none))
      else (none)))
  else (some o450003) := by kernel_rfl
theorem i_IsRiffle_eq (k : Nat) (x0 : List Int) : i_IsRiffle (k + 1) x0 =
  (i_PermOk k x0).bind fun y1 =>
  bif y1 then
    ((i_RisingSequences k x0).bind fun y2 =>
    some (decide ((y2.length : Int) ≤ (2 : Int))))
  else (some false) := by kernel_rfl
theorem i_RiffleWays_eq (k : Nat) (x0 : List Int) : i_RiffleWays (k + 1) x0 =
  (i_IsRiffle k x0).bind fun y1 =>
  bif (!y1) then
    (some (0 : Int))
  else ((i_RisingSequences k x0).bind fun y2 =>
    bif ((y2.length : Int) == (2 : Int)) then
      (some (1 : Int))
    else (some (IntKind.i64.wrap ((x0.length : Int) + (1 : Int))))) := by kernel_rfl
theorem i_NextWays_eq (k : Nat) (x0 : Int) (x1 : List Int) : i_NextWays (k + 1) (x0, x1) =
  (i_isPrefix k (x0, x1)).bind fun y1 =>
  bif (!y1) then
    (some [])
  else (bif ((x1.length : Int) == x0) then
      (some [])
    else ((i_upTo k x0).bind fun y2 =>
      bif decide (0 ≤ x0) then
        (bif decide (x0 ≤ (rowMax : Int)) then
          (bif (x0 == x0) then
            (i_NextWays_l5 k x0 x1 (0 : Int) y2 (List.replicate x0.toNat (0 : Int)))
          else (none))
        else (none))
      else (none))) := by kernel_rfl
theorem i_NextWays_l5_eq (k : Nat) (v0 : Int) (v1 : List Int) (v7 : Int) (o100005 : List Int) (o100006 : List Int) : i_NextWays_l5 (k + 1) v0 v1 v7 o100005 o100006 =
  bif decide (0 ≤ v0) then
    (bif decide (v7 < (IntKind.i64.wrap ((1 : Int) * 2 ^ (min v0.toNat IntKind.i64.bits)))) then
      ((i_riffled k (o100005, v7)).bind fun y1 =>
      bif decide (0 ≤ (v1.length : Int)) then
        (bif decide ((v1.length : Int) ≤ (y1.length : Int)) then
          ((slices_Equal_int k (((y1.take (v1.length : Int).toNat).drop 0), v1)).bind fun y2 =>
          bif y2 then
            (bif decide (0 ≤ (v1.length : Int)) then
              (bif decide ((v1.length : Int) < (y1.length : Int)) then
                (bif decide (0 ≤ (y1.getD (v1.length : Int).toNat (0 : Int))) then
                  (bif decide ((y1.getD (v1.length : Int).toNat (0 : Int)) < (o100006.length : Int)) then
                    (bif decide ((y1.getD (v1.length : Int).toNat (0 : Int)).toNat < o100006.length) then
                      (bif decide (0 ≤ (y1.getD (v1.length : Int).toNat (0 : Int))) then
                        (bif decide ((y1.getD (v1.length : Int).toNat (0 : Int)) < (o100006.length : Int)) then
                          (bif decide ((y1.getD (v1.length : Int).toNat (0 : Int)).toNat < o100006.length) then
                            (i_NextWays_l5 k v0 v1 (IntKind.i64.wrap (v7 + (1 : Int))) o100005 (o100006.set (y1.getD (v1.length : Int).toNat (0 : Int)).toNat (IntKind.i64.wrap ((o100006.getD (y1.getD (v1.length : Int).toNat (0 : Int)).toNat (0 : Int)) + (1 : Int)))))
                          else (none))
                        else (none))
                      else (none))
                    else (none))
                  else (none))
                else (none))
              else (none))
            else (none))
          else (i_NextWays_l5 k v0 v1 (IntKind.i64.wrap (v7 + (1 : Int))) o100005 o100006))
        else (none))
      else (none))
    else (bif (!o100006.isEmpty) then
        (some o100006)
      else (none)))
  else (none) := by kernel_rfl
theorem slices_Max_int_eq (k : Nat) (x0 : List Int) : slices_Max_int (k + 1) x0 =
  bif decide ((x0.length : Int) < (1 : Int)) then
    (none)
  else (bif decide ((0 : Int) < (x0.length : Int)) then
      (slices_Max_int_l5 k x0 (x0.getD 0 (0 : Int)) (1 : Int))
    else (none)) := by kernel_rfl
theorem slices_Max_int_l5_eq (k : Nat) (v0 : List Int) (v3 : Int) (v4 : Int) : slices_Max_int_l5 (k + 1) v0 v3 v4 =
  bif decide (v4 < (v0.length : Int)) then
    (bif decide (0 ≤ v4) then
      (bif decide (v4 < (v0.length : Int)) then
        (slices_Max_int_l5 k v0 (bif decide ((v0.getD v4.toNat (0 : Int)) > v3) then (v0.getD v4.toNat (0 : Int)) else v3) (IntKind.i64.wrap (v4 + (1 : Int))))
      else (none))
    else (none))
  else (some v3) := by kernel_rfl
theorem i_BestGuess_eq (k : Nat) (x0 : Int) (x1 : List Int) : i_BestGuess (k + 1) (x0, x1) =
  (i_NextWays k (x0, x1)).bind fun y1 =>
  bif y1.isEmpty then
    (some (-1 : Int))
  else ((slices_Max_int k y1).bind fun y2 =>
    bif (y2 == (0 : Int)) then
      (some (-1 : Int))
    else ((slices_Max_int k y1).bind fun y3 =>
      (slices_Index_int k (y1, y3)).bind fun y4 =>
      some y4)) := by kernel_rfl
theorem i_GuessRun_eq (k : Nat) (x0 : List Int) : i_GuessRun (k + 1) x0 =
  (i_IsRiffle k x0).bind fun y1 =>
  bif (!y1) then
    (some (-1 : Int))
  else (bif decide ((x0.length : Int) < (1 : Int)) then
      (some (-1 : Int))
    else (bif decide ((x0.length : Int) > (8 : Int)) then
        (some (-1 : Int))
      else (i_GuessRun_l5 k x0 (0 : Int) x0 (x0.length : Int) (0 : Int)))) := by kernel_rfl
theorem i_GuessRun_l5_eq (k : Nat) (v0 : List Int) (v3 : Int) (v19 : List Int) (v20 : Int) (v21 : Int) : i_GuessRun_l5 (k + 1) v0 v3 v19 v20 v21 =
  bif decide (v21 < v20) then
    (bif decide (0 ≤ v21) then
      (bif decide (v21 < (v19.length : Int)) then
        (bif decide (0 ≤ v21) then
          (bif decide (v21 ≤ (v0.length : Int)) then
            ((i_BestGuess k ((v0.length : Int), ((v0.take v21.toNat).drop 0))).bind fun y1 =>
            bif (y1 == (v19.getD v21.toNat (0 : Int))) then
              (i_GuessRun_l5 k v0 (IntKind.i64.wrap (v3 + (1 : Int))) v19 v20 (IntKind.i64.wrap (v21 + (1 : Int))))
            else (i_GuessRun_l5 k v0 v3 v19 v20 (IntKind.i64.wrap (v21 + (1 : Int)))))
          else (none))
        else (none))
      else (none))
    else (none))
  else (some v3) := by kernel_rfl
theorem s_l01Below_eq (k : Nat) (x0 : (List Int) × Int × Int) (x1 : Int) : s_l01Below (k + 1) (x0, x1) =
  bif decide (x1 ≤ (0 : Int)) then
    (some ((0 : Int), x0))
  else (bif decide (x1 ≤ (256 : Int)) then
      ((s_l01Byte k x0).bind fun y1 =>
      bif (!(x1 == 0)) then
        (some ((y1.1.tmod x1), y1.2))
      else (none))
    else ((s_l01Byte k x0).bind fun y2 =>
      (s_l01Byte k y2.2).bind fun y3 =>
      (s_l01Byte k y3.2).bind fun y4 =>
      (s_l01Byte k y4.2).bind fun y5 =>
      bif (!(x1 == 0)) then
        (some (((IntKind.i64.wrap ((IntKind.i64.wrap ((IntKind.i64.wrap ((IntKind.i64.wrap (y2.1 * (16777216 : Int))) + (IntKind.i64.wrap (y3.1 * (65536 : Int))))) + (IntKind.i64.wrap (y4.1 * (256 : Int))))) + y5.1)).tmod x1), y5.2))
      else (none))) := by kernel_rfl
theorem s_l01In_eq (k : Nat) (x0 : Int) (x1 : Int) (x2 : Int) : s_l01In (k + 1) (x0, x1, x2) =
  bif decide (x0 ≥ x1) then
    (some (decide (x0 ≤ x2)))
  else (some false) := by kernel_rfl
theorem s_NewPacket_eq (k : Nat) (x0 : Int) : s_NewPacket (k + 1) x0 =
  (s_l01In k (x0, ((0 : Int), (12 : Int)))).bind fun y1 =>
  bif (!y1) then
    (some [])
  else (s_NewPacket_l5 k x0 (0 : Int) ([] : List Int)) := by kernel_rfl
theorem s_NewPacket_l5_eq (k : Nat) (v0 : Int) (v4 : Int) (o100003 : List Int) : s_NewPacket_l5 (k + 1) v0 v4 o100003 =
  bif decide (v4 < v0) then
    (bif decide (o100003.length + [v4].length ≤ rowMax) then
      (s_NewPacket_l5 k v0 (IntKind.i64.wrap (v4 + (1 : Int))) (o100003 ++ [v4]))
    else (none))
  else (bif (!o100003.isEmpty) then
      (some o100003)
    else (none)) := by kernel_rfl
theorem s_CardOf_eq (k : Nat) (x0 : Int) : s_CardOf (k + 1) x0 =
  (s_l01In k (x0, ((0 : Int), (11 : Int)))).bind fun y1 =>
  bif y1 then
    (some x0)
  else ((s_l01In k (x0, ((-12 : Int), (-1 : Int)))).bind fun y2 =>
    bif y2 then
      (some (IntKind.i64.wrap ((-1 : Int) - x0)))
    else (some (-1 : Int))) := by kernel_rfl
theorem s_TurnCard_eq (k : Nat) (x0 : Int) : s_TurnCard (k + 1) x0 =
  (s_CardOf k x0).bind fun y1 =>
  bif decide (y1 < (0 : Int)) then
    (some x0)
  else (some (IntKind.i64.wrap ((-1 : Int) - x0))) := by kernel_rfl
theorem s_l04Back_eq (k : Nat) (x0 : List Int) (x1 : Int) (x2 : Bool) : s_l04Back (k + 1) (x0, x1, x2) =
  s_l04Back_l3 k x0 x1 x2 (IntKind.i64.wrap (x1 - (1 : Int))) ([] : List Int) := by kernel_rfl
theorem s_l04Back_l3_eq (k : Nat) (v0 : List Int) (v1 : Int) (v2 : Bool) (v8 : Int) (o100007 : List Int) : s_l04Back_l3 (k + 1) v0 v1 v2 v8 o100007 =
  bif decide (v8 ≥ (0 : Int)) then
    (bif v2 then
      (bif decide (0 ≤ v8) then
        (bif decide (v8 < (v0.length : Int)) then
          ((s_TurnCard k (v0.getD v8.toNat (0 : Int))).bind fun y1 =>
          bif decide (o100007.length + [y1].length ≤ rowMax) then
            (s_l04Back_l3 k v0 v1 v2 (IntKind.i64.wrap (v8 - (1 : Int))) (o100007 ++ [y1]))
          else (none))
        else (none))
      else (none))
    else (bif decide (0 ≤ v8) then
        (bif decide (v8 < (v0.length : Int)) then
          (bif decide (o100007.length + [(v0.getD v8.toNat (0 : Int))].length ≤ rowMax) then
            (s_l04Back_l3 k v0 v1 v2 (IntKind.i64.wrap (v8 - (1 : Int))) (o100007 ++ [(v0.getD v8.toNat (0 : Int))]))
          else (none))
        else (none))
      else (none)))
  else (bif decide (0 ≤ v1) then
      (bif decide (v1 ≤ (v0.length : Int)) then
        (bif decide ((v0.length : Int) ≤ (v0.length : Int)) then
          (bif decide (o100007.length + ((v0.take ((v0.length : Int)).toNat).drop v1.toNat).length ≤ rowMax) then
            (some (o100007 ++ ((v0.take ((v0.length : Int)).toNat).drop v1.toNat)))
          else (none))
        else (none))
      else (none))
    else (none)) := by kernel_rfl
theorem s_l04Faro_eq (k : Nat) (x0 : List Int) (x1 : Int) : s_l04Faro (k + 1) (x0, x1) =
  bif decide (0 ≤ (IntKind.i64.wrap ((x0.length : Int).tdiv (2 : Int)))) then
    (bif decide ((IntKind.i64.wrap ((x0.length : Int).tdiv (2 : Int))) ≤ (x0.length : Int)) then
      (bif decide (0 ≤ (IntKind.i64.wrap ((x0.length : Int).tdiv (2 : Int)))) then
        (bif decide ((IntKind.i64.wrap ((x0.length : Int).tdiv (2 : Int))) ≤ (x0.length : Int)) then
          (bif decide ((x0.length : Int) ≤ (x0.length : Int)) then
            (s_l04Faro_l4 k x1 ((x0.take (IntKind.i64.wrap ((x0.length : Int).tdiv (2 : Int))).toNat).drop 0) ((x0.take ((x0.length : Int)).toNat).drop (IntKind.i64.wrap ((x0.length : Int).tdiv (2 : Int))).toNat) ([] : List Int))
          else (none))
        else (none))
      else (none))
    else (none))
  else (none) := by kernel_rfl
theorem s_l04Faro_l4_eq (k : Nat) (v1 : Int) (v5 : List Int) (v6 : List Int) (o100007 : List Int) : s_l04Faro_l4 (k + 1) v1 v5 v6 o100007 =
  bif decide ((v5.length : Int) > (0 : Int)) then
    (bif ((v6.length : Int) == (0 : Int)) then
      (bif decide ((0 : Int) < (v5.length : Int)) then
        (bif decide (o100007.length + [(v5.getD 0 (0 : Int))].length ≤ rowMax) then
          (bif decide ((1 : Int) ≤ (v5.length : Int)) then
            (bif decide ((v5.length : Int) ≤ (v5.length : Int)) then
              (s_l04Faro_l4 k v1 ((v5.take ((v5.length : Int)).toNat).drop 1) v6 (o100007 ++ [(v5.getD 0 (0 : Int))]))
            else (none))
          else (none))
        else (none))
      else (none))
    else (bif decide ((v5.length : Int) > (0 : Int)) then
        (bif (((o100007.length : Int).tmod (2 : Int)) == v1) then
          (bif decide ((0 : Int) < (v5.length : Int)) then
            (bif decide (o100007.length + [(v5.getD 0 (0 : Int))].length ≤ rowMax) then
              (bif decide ((1 : Int) ≤ (v5.length : Int)) then
                (bif decide ((v5.length : Int) ≤ (v5.length : Int)) then
                  (s_l04Faro_l4 k v1 ((v5.take ((v5.length : Int)).toNat).drop 1) v6 (o100007 ++ [(v5.getD 0 (0 : Int))]))
                else (none))
              else (none))
            else (none))
          else (none))
        else (bif decide ((0 : Int) < (v6.length : Int)) then
            (bif decide (o100007.length + [(v6.getD 0 (0 : Int))].length ≤ rowMax) then
              (bif decide ((1 : Int) ≤ (v6.length : Int)) then
                (bif decide ((v6.length : Int) ≤ (v6.length : Int)) then
                  (s_l04Faro_l4 k v1 v5 ((v6.take ((v6.length : Int)).toNat).drop 1) (o100007 ++ [(v6.getD 0 (0 : Int))]))
                else (none))
              else (none))
            else (none))
          else (none)))
      else (bif decide ((0 : Int) < (v6.length : Int)) then
          (bif decide (o100007.length + [(v6.getD 0 (0 : Int))].length ≤ rowMax) then
            (bif decide ((1 : Int) ≤ (v6.length : Int)) then
              (bif decide ((v6.length : Int) ≤ (v6.length : Int)) then
                (s_l04Faro_l4 k v1 v5 ((v6.take ((v6.length : Int)).toNat).drop 1) (o100007 ++ [(v6.getD 0 (0 : Int))]))
              else (none))
            else (none))
          else (none))
        else (none))))
  else (bif decide ((v6.length : Int) > (0 : Int)) then
      (bif ((v6.length : Int) == (0 : Int)) then
        (bif decide ((0 : Int) < (v5.length : Int)) then
          (bif decide (o100007.length + [(v5.getD 0 (0 : Int))].length ≤ rowMax) then
            (bif decide ((1 : Int) ≤ (v5.length : Int)) then
              (bif decide ((v5.length : Int) ≤ (v5.length : Int)) then
                (s_l04Faro_l4 k v1 ((v5.take ((v5.length : Int)).toNat).drop 1) v6 (o100007 ++ [(v5.getD 0 (0 : Int))]))
              else (none))
            else (none))
          else (none))
        else (none))
      else (bif decide ((v5.length : Int) > (0 : Int)) then
          (bif (((o100007.length : Int).tmod (2 : Int)) == v1) then
            (bif decide ((0 : Int) < (v5.length : Int)) then
              (bif decide (o100007.length + [(v5.getD 0 (0 : Int))].length ≤ rowMax) then
                (bif decide ((1 : Int) ≤ (v5.length : Int)) then
                  (bif decide ((v5.length : Int) ≤ (v5.length : Int)) then
                    (s_l04Faro_l4 k v1 ((v5.take ((v5.length : Int)).toNat).drop 1) v6 (o100007 ++ [(v5.getD 0 (0 : Int))]))
                  else (none))
                else (none))
              else (none))
            else (none))
          else (bif decide ((0 : Int) < (v6.length : Int)) then
              (bif decide (o100007.length + [(v6.getD 0 (0 : Int))].length ≤ rowMax) then
                (bif decide ((1 : Int) ≤ (v6.length : Int)) then
                  (bif decide ((v6.length : Int) ≤ (v6.length : Int)) then
                    (s_l04Faro_l4 k v1 v5 ((v6.take ((v6.length : Int)).toNat).drop 1) (o100007 ++ [(v6.getD 0 (0 : Int))]))
                  else (none))
                else (none))
              else (none))
            else (none)))
        else (bif decide ((0 : Int) < (v6.length : Int)) then
            (bif decide (o100007.length + [(v6.getD 0 (0 : Int))].length ≤ rowMax) then
              (bif decide ((1 : Int) ≤ (v6.length : Int)) then
                (bif decide ((v6.length : Int) ≤ (v6.length : Int)) then
                  (s_l04Faro_l4 k v1 v5 ((v6.take ((v6.length : Int)).toNat).drop 1) (o100007 ++ [(v6.getD 0 (0 : Int))]))
                else (none))
              else (none))
            else (none))
          else (none))))
    else (some o100007)) := by kernel_rfl
theorem s_l04Monge_eq (k : Nat) (x0 : List Int) (x1 : Int) : s_l04Monge (k + 1) (x0, x1) =
  s_l04Monge_l3 k x1 x0 (x0.length : Int) (0 : Int) ([] : List Int) := by kernel_rfl
theorem s_l04Monge_l3_eq (k : Nat) (v1 : Int) (v9 : List Int) (v10 : Int) (v11 : Int) (o100005 : List Int) : s_l04Monge_l3 (k + 1) v1 v9 v10 v11 o100005 =
  bif decide (v11 < v10) then
    (bif decide (0 ≤ v11) then
      (bif decide (v11 < (v9.length : Int)) then
        (bif (v11 == (0 : Int)) then
          (bif decide (o100005.length + [(v9.getD v11.toNat (0 : Int))].length ≤ rowMax) then
            (s_l04Monge_l3 k v1 v9 v10 (IntKind.i64.wrap (v11 + (1 : Int))) (o100005 ++ [(v9.getD v11.toNat (0 : Int))]))
          else (none))
        else (bif ((v11.tmod (2 : Int)) == v1) then
            (bif decide (o100005.length + [(v9.getD v11.toNat (0 : Int))].length ≤ rowMax) then
              (s_l04Monge_l3 k v1 v9 v10 (IntKind.i64.wrap (v11 + (1 : Int))) (o100005 ++ [(v9.getD v11.toNat (0 : Int))]))
            else (none))
          else (bif decide ([(v9.getD v11.toNat (0 : Int))].length + o100005.length ≤ rowMax) then
              (s_l04Monge_l3 k v1 v9 v10 (IntKind.i64.wrap (v11 + (1 : Int))) ([(v9.getD v11.toNat (0 : Int))] ++ o100005))
            else (none))))
      else (none))
    else (none))
  else (some o100005) := by kernel_rfl
theorem s_l04Milk_eq (k : Nat) (x0 : List Int) : s_l04Milk (k + 1) x0 =
  s_l04Milk_l2 k x0 ([] : List Int) := by kernel_rfl
theorem s_l04Milk_l2_eq (k : Nat) (v0 : List Int) (o100003 : List Int) : s_l04Milk_l2 (k + 1) v0 o100003 =
  bif decide ((v0.length : Int) > (1 : Int)) then
    (bif decide ((0 : Int) < (v0.length : Int)) then
      (bif decide (0 ≤ (IntKind.i64.wrap ((v0.length : Int) - (1 : Int)))) then
        (bif decide ((IntKind.i64.wrap ((v0.length : Int) - (1 : Int))) < (v0.length : Int)) then
          (bif decide ([(v0.getD 0 (0 : Int)), (v0.getD (IntKind.i64.wrap ((v0.length : Int) - (1 : Int))).toNat (0 : Int))].length + o100003.length ≤ rowMax) then
            (bif decide ((1 : Int) ≤ (IntKind.i64.wrap ((v0.length : Int) - (1 : Int)))) then
              (bif decide ((IntKind.i64.wrap ((v0.length : Int) - (1 : Int))) ≤ (v0.length : Int)) then
                (s_l04Milk_l2 k ((v0.take (IntKind.i64.wrap ((v0.length : Int) - (1 : Int))).toNat).drop 1) ([(v0.getD 0 (0 : Int)), (v0.getD (IntKind.i64.wrap ((v0.length : Int) - (1 : Int))).toNat (0 : Int))] ++ o100003))
              else (none))
            else (none))
          else (none))
        else (none))
      else (none))
    else (none))
  else (bif decide (([] : List Int).length + v0.length ≤ rowMax) then
      (bif decide ((([] : List Int) ++ v0).length + o100003.length ≤ rowMax) then
        (some ((([] : List Int) ++ v0) ++ o100003))
      else (none))
    else (none)) := by kernel_rfl
theorem s_l04Duck_eq (k : Nat) (x0 : List Int) (x1 : Int) : s_l04Duck (k + 1) (x0, x1) =
  bif decide (([] : List Int).length + x0.length ≤ rowMax) then
    (s_l04Duck_l4 k x1 (([] : List Int) ++ x0) ([] : List Int))
  else (none) := by kernel_rfl
theorem s_l04Duck_l4_eq (k : Nat) (v7 : Int) (o100005 : List Int) (o100006 : List Int) : s_l04Duck_l4 (k + 1) v7 o100005 o100006 =
  bif decide ((o100005.length : Int) > (1 : Int)) then
    (bif decide ((0 : Int) < (o100005.length : Int)) then
      (bif decide (0 < o100005.length) then
        (bif decide ((1 : Int) ≤ (o100005.length : Int)) then
          (bif decide ((o100005.length : Int) ≤ (o100005.length : Int)) then
            (bif ((v7.tmod (2 : Int)) == (1 : Int)) then
              (bif decide ([(o100005.getD 0 (0 : Int))].length + o100006.length ≤ rowMax) then
                (s_l04Duck_l4 k (IntKind.i64.wrap (v7 + (1 : Int))) ((o100005.take ((o100005.length : Int)).toNat).drop 1) ([(o100005.getD 0 (0 : Int))] ++ o100006))
              else (none))
            else (bif decide (((o100005.take ((o100005.length : Int)).toNat).drop 1).length + [(o100005.getD 0 (0 : Int))].length ≤ rowMax) then
                (s_l04Duck_l4 k (IntKind.i64.wrap (v7 + (1 : Int))) (((o100005.take ((o100005.length : Int)).toNat).drop 1) ++ [(o100005.getD 0 (0 : Int))]) o100006)
              else (none)))
          else (none))
        else (none))
      else (none))
    else (none))
  else (bif decide ((0 : Int) < (o100005.length : Int)) then
      (bif decide (0 < o100005.length) then
        (bif decide ([(o100005.getD 0 (0 : Int))].length + o100006.length ≤ rowMax) then
          (some ([(o100005.getD 0 (0 : Int))] ++ o100006))
        else (none))
      else (none))
    else (none)) := by kernel_rfl
theorem s_l04Do_eq (k : Nat) (x0 : List Int) (x1 : Int × Int) : s_l04Do (k + 1) (x0, x1) =
  bif (x1.1 == (1 : Int)) then
    (bif decide (0 ≤ x1.2) then
      (bif decide (x1.2 ≤ (x0.length : Int)) then
        (bif decide ((x0.length : Int) ≤ (x0.length : Int)) then
          (bif decide (([] : List Int).length + ((x0.take ((x0.length : Int)).toNat).drop x1.2.toNat).length ≤ rowMax) then
            (bif decide (0 ≤ x1.2) then
              (bif decide (x1.2 ≤ (x0.length : Int)) then
                (bif decide ((([] : List Int) ++ ((x0.take ((x0.length : Int)).toNat).drop x1.2.toNat)).length + ((x0.take x1.2.toNat).drop 0).length ≤ rowMax) then
                  (some ((([] : List Int) ++ ((x0.take ((x0.length : Int)).toNat).drop x1.2.toNat)) ++ ((x0.take x1.2.toNat).drop 0)))
                else (none))
              else (none))
            else (none))
          else (none))
        else (none))
      else (none))
    else (none))
  else (bif (x1.1 == (2 : Int)) then
      ((s_l04Back k (x0, (x1.2, false))).bind fun y1 =>
      some y1)
    else (bif (x1.1 == (3 : Int)) then
        ((s_l04Back k (x0, (x1.2, true))).bind fun y2 =>
        some y2)
      else (bif (x1.1 == (4 : Int)) then
          ((s_l04Faro k (x0, x1.2)).bind fun y3 =>
          some y3)
        else (bif (x1.1 == (5 : Int)) then
            ((s_l04Monge k (x0, x1.2)).bind fun y4 =>
            some y4)
          else (bif (x1.1 == (6 : Int)) then
              ((s_l04Milk k x0).bind fun y5 =>
              some y5)
            else (bif (x1.1 == (7 : Int)) then
                ((s_l04Duck k (x0, x1.2)).bind fun y6 =>
                some y6)
              else (bif (x1.1 == (8 : Int)) then
                  (bif decide (([] : List Int).length + x0.length ≤ rowMax) then
                    (bif decide (0 ≤ x1.2) then
                      (bif decide (x1.2 < (x0.length : Int)) then
                        ((s_TurnCard k (x0.getD x1.2.toNat (0 : Int))).bind fun y7 =>
                        bif decide (0 ≤ x1.2) then
                          (bif decide (x1.2 < ((([] : List Int) ++ x0).length : Int)) then
                            (bif decide (x1.2.toNat < (([] : List Int) ++ x0).length) then
                              (some ((([] : List Int) ++ x0).set x1.2.toNat y7))
                            else (none))
                          else (none))
                        else (none))
                      else (none))
                    else (none))
                  else (none))
                else (bif decide (0 ≤ x1.2) then
                    (bif decide (x1.2 ≤ (x0.length : Int)) then
                      (bif decide (([] : List Int).length + ((x0.take x1.2.toNat).drop 0).length ≤ rowMax) then
                        (bif decide (0 ≤ (IntKind.i64.wrap (x1.2 + (1 : Int)))) then
                          (bif decide ((IntKind.i64.wrap (x1.2 + (1 : Int))) ≤ (x0.length : Int)) then
                            (bif decide ((x0.length : Int) ≤ (x0.length : Int)) then
                              (bif decide ((([] : List Int) ++ ((x0.take x1.2.toNat).drop 0)).length + ((x0.take ((x0.length : Int)).toNat).drop (IntKind.i64.wrap (x1.2 + (1 : Int))).toNat).length ≤ rowMax) then
                                (bif decide (0 ≤ x1.2) then
                                  (bif decide (x1.2 < (x0.length : Int)) then
                                    (bif decide (((([] : List Int) ++ ((x0.take x1.2.toNat).drop 0)) ++ ((x0.take ((x0.length : Int)).toNat).drop (IntKind.i64.wrap (x1.2 + (1 : Int))).toNat)).length + [(x0.getD x1.2.toNat (0 : Int))].length ≤ rowMax) then
                                      (some (((([] : List Int) ++ ((x0.take x1.2.toNat).drop 0)) ++ ((x0.take ((x0.length : Int)).toNat).drop (IntKind.i64.wrap (x1.2 + (1 : Int))).toNat)) ++ [(x0.getD x1.2.toNat (0 : Int))]))
                                    else (none))
                                  else (none))
                                else (none))
                              else (none))
                            else (none))
                          else (none))
                        else (none))
                      else (none))
                    else (none))
                  else (none))))))))) := by kernel_rfl
theorem s_l05Cuts_eq (k : Nat) (x0 : List Int) : s_l05Cuts (k + 1) x0 =
  s_l05Cuts_l3 k x0 (x0.length : Int) (0 : Int) ([] : List (List Int)) := by kernel_rfl
theorem s_l05Cuts_l3_eq (k : Nat) (v0 : List Int) (v7 : Int) (v8 : Int) (o100003 : List (List Int)) : s_l05Cuts_l3 (k + 1) v0 v7 v8 o100003 =
  bif decide (v8 < v7) then
    ((s_l04Do k (v0, ((1 : Int), v8))).bind fun y1 =>
    bif decide (o100003.length + [y1].length ≤ rowMax) then
      (s_l05Cuts_l3 k v0 v7 (IntKind.i64.wrap (v8 + (1 : Int))) (o100003 ++ [y1]))
    else (none))
  else (some o100003) := by kernel_rfl
theorem s_l05Weave_eq (k : Nat) (x0 : List (List Int)) (x1 : List Int) (x2 : List Int) (x3 : List Int) : s_l05Weave (k + 1) (x0, x1, x2, x3) =
  bif ((x2.length : Int) == (0 : Int)) then
    (bif ((x3.length : Int) == (0 : Int)) then
      (bif decide (x0.length + [x1].length ≤ rowMax) then
        (some (x0 ++ [x1]))
      else (none))
    else (bif decide ((x2.length : Int) > (0 : Int)) then
        (bif decide (([] : List Int).length + x1.length ≤ rowMax) then
          (bif decide ((0 : Int) < (x2.length : Int)) then
            (bif decide ((([] : List Int) ++ x1).length + [(x2.getD 0 (0 : Int))].length ≤ rowMax) then
              (bif decide ((1 : Int) ≤ (x2.length : Int)) then
                (bif decide ((x2.length : Int) ≤ (x2.length : Int)) then
                  ((s_l05Weave k (x0, (((([] : List Int) ++ x1) ++ [(x2.getD 0 (0 : Int))]), (((x2.take ((x2.length : Int)).toNat).drop 1), x3)))).bind fun y1 =>
                  bif decide ((x3.length : Int) > (0 : Int)) then
                    (bif decide (([] : List Int).length + x1.length ≤ rowMax) then
                      (bif decide ((0 : Int) < (x3.length : Int)) then
                        (bif decide ((([] : List Int) ++ x1).length + [(x3.getD 0 (0 : Int))].length ≤ rowMax) then
                          (bif decide ((1 : Int) ≤ (x3.length : Int)) then
                            (bif decide ((x3.length : Int) ≤ (x3.length : Int)) then
                              ((s_l05Weave k (y1, (((([] : List Int) ++ x1) ++ [(x3.getD 0 (0 : Int))]), (x2, ((x3.take ((x3.length : Int)).toNat).drop 1))))).bind fun y2 =>
                              some y2)
                            else (none))
                          else (none))
                        else (none))
                      else (none))
                    else (none))
                  else (some y1))
                else (none))
              else (none))
            else (none))
          else (none))
        else (none))
      else (bif decide ((x3.length : Int) > (0 : Int)) then
          (bif decide (([] : List Int).length + x1.length ≤ rowMax) then
            (bif decide ((0 : Int) < (x3.length : Int)) then
              (bif decide ((([] : List Int) ++ x1).length + [(x3.getD 0 (0 : Int))].length ≤ rowMax) then
                (bif decide ((1 : Int) ≤ (x3.length : Int)) then
                  (bif decide ((x3.length : Int) ≤ (x3.length : Int)) then
                    ((s_l05Weave k (x0, (((([] : List Int) ++ x1) ++ [(x3.getD 0 (0 : Int))]), (x2, ((x3.take ((x3.length : Int)).toNat).drop 1))))).bind fun y3 =>
                    some y3)
                  else (none))
                else (none))
              else (none))
            else (none))
          else (none))
        else (some x0))))
  else (bif decide ((x2.length : Int) > (0 : Int)) then
      (bif decide (([] : List Int).length + x1.length ≤ rowMax) then
        (bif decide ((0 : Int) < (x2.length : Int)) then
          (bif decide ((([] : List Int) ++ x1).length + [(x2.getD 0 (0 : Int))].length ≤ rowMax) then
            (bif decide ((1 : Int) ≤ (x2.length : Int)) then
              (bif decide ((x2.length : Int) ≤ (x2.length : Int)) then
                ((s_l05Weave k (x0, (((([] : List Int) ++ x1) ++ [(x2.getD 0 (0 : Int))]), (((x2.take ((x2.length : Int)).toNat).drop 1), x3)))).bind fun y4 =>
                bif decide ((x3.length : Int) > (0 : Int)) then
                  (bif decide (([] : List Int).length + x1.length ≤ rowMax) then
                    (bif decide ((0 : Int) < (x3.length : Int)) then
                      (bif decide ((([] : List Int) ++ x1).length + [(x3.getD 0 (0 : Int))].length ≤ rowMax) then
                        (bif decide ((1 : Int) ≤ (x3.length : Int)) then
                          (bif decide ((x3.length : Int) ≤ (x3.length : Int)) then
                            ((s_l05Weave k (y4, (((([] : List Int) ++ x1) ++ [(x3.getD 0 (0 : Int))]), (x2, ((x3.take ((x3.length : Int)).toNat).drop 1))))).bind fun y5 =>
                            some y5)
                          else (none))
                        else (none))
                      else (none))
                    else (none))
                  else (none))
                else (some y4))
              else (none))
            else (none))
          else (none))
        else (none))
      else (none))
    else (bif decide ((x3.length : Int) > (0 : Int)) then
        (bif decide (([] : List Int).length + x1.length ≤ rowMax) then
          (bif decide ((0 : Int) < (x3.length : Int)) then
            (bif decide ((([] : List Int) ++ x1).length + [(x3.getD 0 (0 : Int))].length ≤ rowMax) then
              (bif decide ((1 : Int) ≤ (x3.length : Int)) then
                (bif decide ((x3.length : Int) ≤ (x3.length : Int)) then
                  ((s_l05Weave k (x0, (((([] : List Int) ++ x1) ++ [(x3.getD 0 (0 : Int))]), (x2, ((x3.take ((x3.length : Int)).toNat).drop 1))))).bind fun y6 =>
                  some y6)
                else (none))
              else (none))
            else (none))
          else (none))
        else (none))
      else (some x0))) := by kernel_rfl
theorem s_l05Of_eq (k : Nat) (x0 : List Int) (x1 : Int) : s_l05Of (k + 1) (x0, x1) =
  bif (x1 == (1 : Int)) then
    ((s_l05Cuts k x0).bind fun y1 =>
    some y1)
  else (bif (x1 == (2 : Int)) then
      (s_l05Of_l7 k x0 (0 : Int) ([] : List (List Int)))
    else (bif (x1 == (3 : Int)) then
        ((s_l04Back k (x0, ((2 : Int), true))).bind fun y2 =>
        (s_l05Cuts k y2).bind fun y3 =>
        some y3)
      else (bif (x1 == (4 : Int)) then
          (s_l05Of_l15 k x0 x0 (x0.length : Int) (0 : Int) ([] : List (List Int)))
        else (bif decide (([] : List (List Int)).length + [x0].length ≤ rowMax) then
            (some (([] : List (List Int)) ++ [x0]))
          else (none))))) := by kernel_rfl
theorem s_l05Of_l7_eq (k : Nat) (v0 : List Int) (v6 : Int) (o100005 : List (List Int)) : s_l05Of_l7 (k + 1) v0 v6 o100005 =
  bif decide (v6 ≤ (v0.length : Int)) then
    (bif decide (0 ≤ v6) then
      (bif decide (v6 ≤ (v0.length : Int)) then
        (bif decide (0 ≤ v6) then
          (bif decide (v6 ≤ (v0.length : Int)) then
            (bif decide ((v0.length : Int) ≤ (v0.length : Int)) then
              ((s_l05Weave k (o100005, (([] : List Int), (((v0.take v6.toNat).drop 0), ((v0.take ((v0.length : Int)).toNat).drop v6.toNat))))).bind fun y1 =>
              s_l05Of_l7 k v0 (IntKind.i64.wrap (v6 + (1 : Int))) y1)
            else (none))
          else (none))
        else (none))
      else (none))
    else (none))
  else (some o100005) := by kernel_rfl
theorem s_l05Of_l15_eq (k : Nat) (v0 : List Int) (v40 : List Int) (v41 : Int) (v42 : Int) (o100005 : List (List Int)) : s_l05Of_l15 (k + 1) v0 v40 v41 v42 o100005 =
  bif decide (v42 < v41) then
    (bif decide (0 ≤ v42) then
      (bif decide (v42 < (v40.length : Int)) then
        (bif decide (0 ≤ v42) then
          (bif decide (v42 ≤ (v0.length : Int)) then
            (bif decide (([] : List Int).length + ((v0.take v42.toNat).drop 0).length ≤ rowMax) then
              (bif decide (0 ≤ (IntKind.i64.wrap (v42 + (1 : Int)))) then
                (bif decide ((IntKind.i64.wrap (v42 + (1 : Int))) ≤ (v0.length : Int)) then
                  (bif decide ((v0.length : Int) ≤ (v0.length : Int)) then
                    (bif decide ((([] : List Int) ++ ((v0.take v42.toNat).drop 0)).length + ((v0.take ((v0.length : Int)).toNat).drop (IntKind.i64.wrap (v42 + (1 : Int))).toNat).length ≤ rowMax) then
                      (bif decide ([(v40.getD v42.toNat (0 : Int))].length + ((([] : List Int) ++ ((v0.take v42.toNat).drop 0)) ++ ((v0.take ((v0.length : Int)).toNat).drop (IntKind.i64.wrap (v42 + (1 : Int))).toNat)).length ≤ rowMax) then
                        (bif decide (o100005.length + ([([(v40.getD v42.toNat (0 : Int))] ++ ((([] : List Int) ++ ((v0.take v42.toNat).drop 0)) ++ ((v0.take ((v0.length : Int)).toNat).drop (IntKind.i64.wrap (v42 + (1 : Int))).toNat)))]).length ≤ rowMax) then
                          (s_l05Of_l15 k v0 v40 v41 (IntKind.i64.wrap (v42 + (1 : Int))) (o100005 ++ ([([(v40.getD v42.toNat (0 : Int))] ++ ((([] : List Int) ++ ((v0.take v42.toNat).drop 0)) ++ ((v0.take ((v0.length : Int)).toNat).drop (IntKind.i64.wrap (v42 + (1 : Int))).toNat)))])))
                        else (none))
                      else (none))
                    else (none))
                  else (none))
                else (none))
              else (none))
            else (none))
          else (none))
        else (none))
      else (none))
    else (none))
  else (some o100005) := by kernel_rfl
theorem s_SamePacket_eq (k : Nat) (x0 : List Int) (x1 : List Int) : s_SamePacket (k + 1) (x0, x1) =
  bif (!((x0.length : Int) == (x1.length : Int))) then
    (some false)
  else (s_SamePacket_l4 k x1 x0 (x0.length : Int) (0 : Int)) := by kernel_rfl
theorem s_SamePacket_l4_eq (k : Nat) (v1 : List Int) (v12 : List Int) (v13 : Int) (v14 : Int) : s_SamePacket_l4 (k + 1) v1 v12 v13 v14 =
  bif decide (v14 < v13) then
    (bif decide (0 ≤ v14) then
      (bif decide (v14 < (v12.length : Int)) then
        (bif decide (0 ≤ v14) then
          (bif decide (v14 < (v1.length : Int)) then
            (bif (!((v12.getD v14.toNat (0 : Int)) == (v1.getD v14.toNat (0 : Int)))) then
              (some false)
            else (s_SamePacket_l4 k v1 v12 v13 (IntKind.i64.wrap (v14 + (1 : Int)))))
          else (none))
        else (none))
      else (none))
    else (none))
  else (some true) := by kernel_rfl
theorem s_l05Less_eq (k : Nat) (x0 : List Int) (x1 : List Int) : s_l05Less (k + 1) (x0, x1) =
  s_l05Less_l2 k x0 x1 x0 (x0.length : Int) (0 : Int) := by kernel_rfl
theorem s_l05Less_l2_eq (k : Nat) (v0 : List Int) (v1 : List Int) (v7 : List Int) (v8 : Int) (v9 : Int) : s_l05Less_l2 (k + 1) v0 v1 v7 v8 v9 =
  bif decide (v9 < v8) then
    (bif decide (0 ≤ v9) then
      (bif decide (v9 < (v7.length : Int)) then
        (bif decide (v9 ≥ (v1.length : Int)) then
          (some false)
        else (bif decide (0 ≤ v9) then
            (bif decide (v9 < (v1.length : Int)) then
              (bif (!((v7.getD v9.toNat (0 : Int)) == (v1.getD v9.toNat (0 : Int)))) then
                (bif decide (0 ≤ v9) then
                  (bif decide (v9 < (v1.length : Int)) then
                    (some (decide ((v7.getD v9.toNat (0 : Int)) < (v1.getD v9.toNat (0 : Int)))))
                  else (none))
                else (none))
              else (s_l05Less_l2 k v0 v1 v7 v8 (IntKind.i64.wrap (v9 + (1 : Int)))))
            else (none))
          else (none)))
      else (none))
    else (none))
  else (some (decide ((v0.length : Int) < (v1.length : Int)))) := by kernel_rfl
theorem s_l05Merge_eq (k : Nat) (x0 : List (List Int)) (x1 : List (List Int)) : s_l05Merge (k + 1) (x0, x1) =
  s_l05Merge_l2 k x0 x1 ([] : List (List Int)) := by kernel_rfl
theorem s_l05Merge_l2_eq (k : Nat) (v0 : List (List Int)) (v1 : List (List Int)) (o450005 : List (List Int)) : s_l05Merge_l2 (k + 1) v0 v1 o450005 =
  bif decide ((v0.length : Int) > (0 : Int)) then
    (bif ((v1.length : Int) == (0 : Int)) then
      (bif decide ((0 : Int) < (v0.length : Int)) then
        (bif decide ((1 : Int) ≤ (v0.length : Int)) then
          (bif decide ((v0.length : Int) ≤ (v0.length : Int)) then
            (bif ((o450005.length : Int) == (0 : Int)) then
              (bif decide (([] : List Int).length + (v0.getD 0 []).length ≤ rowMax) then
                (bif decide (o450005.length + ([(([] : List Int) ++ (v0.getD 0 []))]).length ≤ rowMax) then
                  (s_l05Merge_l2 k ((v0.take ((v0.length : Int)).toNat).drop 1) v1 (o450005 ++ ([(([] : List Int) ++ (v0.getD 0 []))])))
                else (none))
              else (none))
            else (bif decide (0 ≤ (IntKind.i64.wrap ((o450005.length : Int) - (1 : Int)))) then
                (bif decide ((IntKind.i64.wrap ((o450005.length : Int) - (1 : Int))) < (o450005.length : Int)) then
                  (bif decide ((IntKind.i64.wrap ((o450005.length : Int) - (1 : Int))).toNat < o450005.length) then
                    ((s_SamePacket k ((o450005.getD (IntKind.i64.wrap ((o450005.length : Int) - (1 : Int))).toNat []), (v0.getD 0 []))).bind fun y1 =>
                    bif (!y1) then
                      (bif decide (([] : List Int).length + (v0.getD 0 []).length ≤ rowMax) then
                        (bif decide ((o450005.set (IntKind.i64.wrap ((o450005.length : Int) - (1 : Int))).toNat (o450005.getD (IntKind.i64.wrap ((o450005.length : Int) - (1 : Int))).toNat [])).length + ([(([] : List Int) ++ (v0.getD 0 []))]).length ≤ rowMax) then
                          (s_l05Merge_l2 k ((v0.take ((v0.length : Int)).toNat).drop 1) v1 ((o450005.set (IntKind.i64.wrap ((o450005.length : Int) - (1 : Int))).toNat (o450005.getD (IntKind.i64.wrap ((o450005.length : Int) - (1 : Int))).toNat [])) ++ ([(([] : List Int) ++ (v0.getD 0 []))])))
                        else (none))
                      else (none))
                    else (s_l05Merge_l2 k ((v0.take ((v0.length : Int)).toNat).drop 1) v1 (o450005.set (IntKind.i64.wrap ((o450005.length : Int) - (1 : Int))).toNat (o450005.getD (IntKind.i64.wrap ((o450005.length : Int) - (1 : Int))).toNat []))))
                  else (none))
                else (none))
              else (none)))
          else (none))
        else (none))
      else (none))
    else (bif decide ((v0.length : Int) > (0 : Int)) then
        (bif decide ((0 : Int) < (v1.length : Int)) then
          (bif decide ((0 : Int) < (v0.length : Int)) then
            ((s_l05Less k ((v1.getD 0 []), (v0.getD 0 []))).bind fun y2 =>
            bif (!y2) then
              (bif decide ((0 : Int) < (v0.length : Int)) then
                (bif decide ((1 : Int) ≤ (v0.length : Int)) then
                  (bif decide ((v0.length : Int) ≤ (v0.length : Int)) then
                    (bif ((o450005.length : Int) == (0 : Int)) then
                      (bif decide (([] : List Int).length + (v0.getD 0 []).length ≤ rowMax) then
                        (bif decide (o450005.length + ([(([] : List Int) ++ (v0.getD 0 []))]).length ≤ rowMax) then
                          (s_l05Merge_l2 k ((v0.take ((v0.length : Int)).toNat).drop 1) v1 (o450005 ++ ([(([] : List Int) ++ (v0.getD 0 []))])))
                        else (none))
                      else (none))
                    else (bif decide (0 ≤ (IntKind.i64.wrap ((o450005.length : Int) - (1 : Int)))) then
                        (bif decide ((IntKind.i64.wrap ((o450005.length : Int) - (1 : Int))) < (o450005.length : Int)) then
                          (bif decide ((IntKind.i64.wrap ((o450005.length : Int) - (1 : Int))).toNat < o450005.length) then
                            ((s_SamePacket k ((o450005.getD (IntKind.i64.wrap ((o450005.length : Int) - (1 : Int))).toNat []), (v0.getD 0 []))).bind fun y3 =>
                            bif (!y3) then
                              (bif decide (([] : List Int).length + (v0.getD 0 []).length ≤ rowMax) then
                                (bif decide ((o450005.set (IntKind.i64.wrap ((o450005.length : Int) - (1 : Int))).toNat (o450005.getD (IntKind.i64.wrap ((o450005.length : Int) - (1 : Int))).toNat [])).length + ([(([] : List Int) ++ (v0.getD 0 []))]).length ≤ rowMax) then
                                  (s_l05Merge_l2 k ((v0.take ((v0.length : Int)).toNat).drop 1) v1 ((o450005.set (IntKind.i64.wrap ((o450005.length : Int) - (1 : Int))).toNat (o450005.getD (IntKind.i64.wrap ((o450005.length : Int) - (1 : Int))).toNat [])) ++ ([(([] : List Int) ++ (v0.getD 0 []))])))
                                else (none))
                              else (none))
                            else (s_l05Merge_l2 k ((v0.take ((v0.length : Int)).toNat).drop 1) v1 (o450005.set (IntKind.i64.wrap ((o450005.length : Int) - (1 : Int))).toNat (o450005.getD (IntKind.i64.wrap ((o450005.length : Int) - (1 : Int))).toNat []))))
                          else (none))
                        else (none))
                      else (none)))
                  else (none))
                else (none))
              else (none))
            else (bif decide ((0 : Int) < (v1.length : Int)) then
                (bif decide ((1 : Int) ≤ (v1.length : Int)) then
                  (bif decide ((v1.length : Int) ≤ (v1.length : Int)) then
                    (bif ((o450005.length : Int) == (0 : Int)) then
                      (bif decide (([] : List Int).length + (v1.getD 0 []).length ≤ rowMax) then
                        (bif decide (o450005.length + ([(([] : List Int) ++ (v1.getD 0 []))]).length ≤ rowMax) then
                          (s_l05Merge_l2 k v0 ((v1.take ((v1.length : Int)).toNat).drop 1) (o450005 ++ ([(([] : List Int) ++ (v1.getD 0 []))])))
                        else (none))
                      else (none))
                    else (bif decide (0 ≤ (IntKind.i64.wrap ((o450005.length : Int) - (1 : Int)))) then
                        (bif decide ((IntKind.i64.wrap ((o450005.length : Int) - (1 : Int))) < (o450005.length : Int)) then
                          (bif decide ((IntKind.i64.wrap ((o450005.length : Int) - (1 : Int))).toNat < o450005.length) then
                            ((s_SamePacket k ((o450005.getD (IntKind.i64.wrap ((o450005.length : Int) - (1 : Int))).toNat []), (v1.getD 0 []))).bind fun y4 =>
                            bif (!y4) then
                              (bif decide (([] : List Int).length + (v1.getD 0 []).length ≤ rowMax) then
                                (bif decide ((o450005.set (IntKind.i64.wrap ((o450005.length : Int) - (1 : Int))).toNat (o450005.getD (IntKind.i64.wrap ((o450005.length : Int) - (1 : Int))).toNat [])).length + ([(([] : List Int) ++ (v1.getD 0 []))]).length ≤ rowMax) then
                                  (s_l05Merge_l2 k v0 ((v1.take ((v1.length : Int)).toNat).drop 1) ((o450005.set (IntKind.i64.wrap ((o450005.length : Int) - (1 : Int))).toNat (o450005.getD (IntKind.i64.wrap ((o450005.length : Int) - (1 : Int))).toNat [])) ++ ([(([] : List Int) ++ (v1.getD 0 []))])))
                                else (none))
                              else (none))
                            else (s_l05Merge_l2 k v0 ((v1.take ((v1.length : Int)).toNat).drop 1) (o450005.set (IntKind.i64.wrap ((o450005.length : Int) - (1 : Int))).toNat (o450005.getD (IntKind.i64.wrap ((o450005.length : Int) - (1 : Int))).toNat []))))
                          else (none))
                        else (none))
                      else (none)))
                  else (none))
                else (none))
              else (none)))
          else (none))
        else (none))
      else (bif decide ((0 : Int) < (v1.length : Int)) then
          (bif decide ((1 : Int) ≤ (v1.length : Int)) then
            (bif decide ((v1.length : Int) ≤ (v1.length : Int)) then
              (bif ((o450005.length : Int) == (0 : Int)) then
                (bif decide (([] : List Int).length + (v1.getD 0 []).length ≤ rowMax) then
                  (bif decide (o450005.length + ([(([] : List Int) ++ (v1.getD 0 []))]).length ≤ rowMax) then
                    (s_l05Merge_l2 k v0 ((v1.take ((v1.length : Int)).toNat).drop 1) (o450005 ++ ([(([] : List Int) ++ (v1.getD 0 []))])))
                  else (none))
                else (none))
              else (bif decide (0 ≤ (IntKind.i64.wrap ((o450005.length : Int) - (1 : Int)))) then
                  (bif decide ((IntKind.i64.wrap ((o450005.length : Int) - (1 : Int))) < (o450005.length : Int)) then
                    (bif decide ((IntKind.i64.wrap ((o450005.length : Int) - (1 : Int))).toNat < o450005.length) then
                      ((s_SamePacket k ((o450005.getD (IntKind.i64.wrap ((o450005.length : Int) - (1 : Int))).toNat []), (v1.getD 0 []))).bind fun y5 =>
                      bif (!y5) then
                        (bif decide (([] : List Int).length + (v1.getD 0 []).length ≤ rowMax) then
                          (bif decide ((o450005.set (IntKind.i64.wrap ((o450005.length : Int) - (1 : Int))).toNat (o450005.getD (IntKind.i64.wrap ((o450005.length : Int) - (1 : Int))).toNat [])).length + ([(([] : List Int) ++ (v1.getD 0 []))]).length ≤ rowMax) then
                            (s_l05Merge_l2 k v0 ((v1.take ((v1.length : Int)).toNat).drop 1) ((o450005.set (IntKind.i64.wrap ((o450005.length : Int) - (1 : Int))).toNat (o450005.getD (IntKind.i64.wrap ((o450005.length : Int) - (1 : Int))).toNat [])) ++ ([(([] : List Int) ++ (v1.getD 0 []))])))
                          else (none))
                        else (none))
                      else (s_l05Merge_l2 k v0 ((v1.take ((v1.length : Int)).toNat).drop 1) (o450005.set (IntKind.i64.wrap ((o450005.length : Int) - (1 : Int))).toNat (o450005.getD (IntKind.i64.wrap ((o450005.length : Int) - (1 : Int))).toNat []))))
                    else (none))
                  else (none))
                else (none)))
            else (none))
          else (none))
        else (none))))
  else (bif decide ((v1.length : Int) > (0 : Int)) then
      (bif ((v1.length : Int) == (0 : Int)) then
        (bif decide ((0 : Int) < (v0.length : Int)) then
          (bif decide ((1 : Int) ≤ (v0.length : Int)) then
            (bif decide ((v0.length : Int) ≤ (v0.length : Int)) then
              (bif ((o450005.length : Int) == (0 : Int)) then
                (bif decide (([] : List Int).length + (v0.getD 0 []).length ≤ rowMax) then
                  (bif decide (o450005.length + ([(([] : List Int) ++ (v0.getD 0 []))]).length ≤ rowMax) then
                    (s_l05Merge_l2 k ((v0.take ((v0.length : Int)).toNat).drop 1) v1 (o450005 ++ ([(([] : List Int) ++ (v0.getD 0 []))])))
                  else (none))
                else (none))
              else (bif decide (0 ≤ (IntKind.i64.wrap ((o450005.length : Int) - (1 : Int)))) then
                  (bif decide ((IntKind.i64.wrap ((o450005.length : Int) - (1 : Int))) < (o450005.length : Int)) then
                    (bif decide ((IntKind.i64.wrap ((o450005.length : Int) - (1 : Int))).toNat < o450005.length) then
                      ((s_SamePacket k ((o450005.getD (IntKind.i64.wrap ((o450005.length : Int) - (1 : Int))).toNat []), (v0.getD 0 []))).bind fun y6 =>
                      bif (!y6) then
                        (bif decide (([] : List Int).length + (v0.getD 0 []).length ≤ rowMax) then
                          (bif decide ((o450005.set (IntKind.i64.wrap ((o450005.length : Int) - (1 : Int))).toNat (o450005.getD (IntKind.i64.wrap ((o450005.length : Int) - (1 : Int))).toNat [])).length + ([(([] : List Int) ++ (v0.getD 0 []))]).length ≤ rowMax) then
                            (s_l05Merge_l2 k ((v0.take ((v0.length : Int)).toNat).drop 1) v1 ((o450005.set (IntKind.i64.wrap ((o450005.length : Int) - (1 : Int))).toNat (o450005.getD (IntKind.i64.wrap ((o450005.length : Int) - (1 : Int))).toNat [])) ++ ([(([] : List Int) ++ (v0.getD 0 []))])))
                          else (none))
                        else (none))
                      else (s_l05Merge_l2 k ((v0.take ((v0.length : Int)).toNat).drop 1) v1 (o450005.set (IntKind.i64.wrap ((o450005.length : Int) - (1 : Int))).toNat (o450005.getD (IntKind.i64.wrap ((o450005.length : Int) - (1 : Int))).toNat []))))
                    else (none))
                  else (none))
                else (none)))
            else (none))
          else (none))
        else (none))
      else (bif decide ((v0.length : Int) > (0 : Int)) then
          (bif decide ((0 : Int) < (v1.length : Int)) then
            (bif decide ((0 : Int) < (v0.length : Int)) then
              ((s_l05Less k ((v1.getD 0 []), (v0.getD 0 []))).bind fun y7 =>
              bif (!y7) then
                (bif decide ((0 : Int) < (v0.length : Int)) then
                  (bif decide ((1 : Int) ≤ (v0.length : Int)) then
                    (bif decide ((v0.length : Int) ≤ (v0.length : Int)) then
                      (bif ((o450005.length : Int) == (0 : Int)) then
                        (bif decide (([] : List Int).length + (v0.getD 0 []).length ≤ rowMax) then
                          (bif decide (o450005.length + ([(([] : List Int) ++ (v0.getD 0 []))]).length ≤ rowMax) then
                            (s_l05Merge_l2 k ((v0.take ((v0.length : Int)).toNat).drop 1) v1 (o450005 ++ ([(([] : List Int) ++ (v0.getD 0 []))])))
                          else (none))
                        else (none))
                      else (bif decide (0 ≤ (IntKind.i64.wrap ((o450005.length : Int) - (1 : Int)))) then
                          (bif decide ((IntKind.i64.wrap ((o450005.length : Int) - (1 : Int))) < (o450005.length : Int)) then
                            (bif decide ((IntKind.i64.wrap ((o450005.length : Int) - (1 : Int))).toNat < o450005.length) then
                              ((s_SamePacket k ((o450005.getD (IntKind.i64.wrap ((o450005.length : Int) - (1 : Int))).toNat []), (v0.getD 0 []))).bind fun y8 =>
                              bif (!y8) then
                                (bif decide (([] : List Int).length + (v0.getD 0 []).length ≤ rowMax) then
                                  (bif decide ((o450005.set (IntKind.i64.wrap ((o450005.length : Int) - (1 : Int))).toNat (o450005.getD (IntKind.i64.wrap ((o450005.length : Int) - (1 : Int))).toNat [])).length + ([(([] : List Int) ++ (v0.getD 0 []))]).length ≤ rowMax) then
                                    (s_l05Merge_l2 k ((v0.take ((v0.length : Int)).toNat).drop 1) v1 ((o450005.set (IntKind.i64.wrap ((o450005.length : Int) - (1 : Int))).toNat (o450005.getD (IntKind.i64.wrap ((o450005.length : Int) - (1 : Int))).toNat [])) ++ ([(([] : List Int) ++ (v0.getD 0 []))])))
                                  else (none))
                                else (none))
                              else (s_l05Merge_l2 k ((v0.take ((v0.length : Int)).toNat).drop 1) v1 (o450005.set (IntKind.i64.wrap ((o450005.length : Int) - (1 : Int))).toNat (o450005.getD (IntKind.i64.wrap ((o450005.length : Int) - (1 : Int))).toNat []))))
                            else (none))
                          else (none))
                        else (none)))
                    else (none))
                  else (none))
                else (none))
              else (bif decide ((0 : Int) < (v1.length : Int)) then
                  (bif decide ((1 : Int) ≤ (v1.length : Int)) then
                    (bif decide ((v1.length : Int) ≤ (v1.length : Int)) then
                      (bif ((o450005.length : Int) == (0 : Int)) then
                        (bif decide (([] : List Int).length + (v1.getD 0 []).length ≤ rowMax) then
                          (bif decide (o450005.length + ([(([] : List Int) ++ (v1.getD 0 []))]).length ≤ rowMax) then
                            (s_l05Merge_l2 k v0 ((v1.take ((v1.length : Int)).toNat).drop 1) (o450005 ++ ([(([] : List Int) ++ (v1.getD 0 []))])))
                          else (none))
                        else (none))
                      else (bif decide (0 ≤ (IntKind.i64.wrap ((o450005.length : Int) - (1 : Int)))) then
                          (bif decide ((IntKind.i64.wrap ((o450005.length : Int) - (1 : Int))) < (o450005.length : Int)) then
                            (bif decide ((IntKind.i64.wrap ((o450005.length : Int) - (1 : Int))).toNat < o450005.length) then
                              ((s_SamePacket k ((o450005.getD (IntKind.i64.wrap ((o450005.length : Int) - (1 : Int))).toNat []), (v1.getD 0 []))).bind fun y9 =>
                              bif (!y9) then
                                (bif decide (([] : List Int).length + (v1.getD 0 []).length ≤ rowMax) then
                                  (bif decide ((o450005.set (IntKind.i64.wrap ((o450005.length : Int) - (1 : Int))).toNat (o450005.getD (IntKind.i64.wrap ((o450005.length : Int) - (1 : Int))).toNat [])).length + ([(([] : List Int) ++ (v1.getD 0 []))]).length ≤ rowMax) then
                                    (s_l05Merge_l2 k v0 ((v1.take ((v1.length : Int)).toNat).drop 1) ((o450005.set (IntKind.i64.wrap ((o450005.length : Int) - (1 : Int))).toNat (o450005.getD (IntKind.i64.wrap ((o450005.length : Int) - (1 : Int))).toNat [])) ++ ([(([] : List Int) ++ (v1.getD 0 []))])))
                                  else (none))
                                else (none))
                              else (s_l05Merge_l2 k v0 ((v1.take ((v1.length : Int)).toNat).drop 1) (o450005.set (IntKind.i64.wrap ((o450005.length : Int) - (1 : Int))).toNat (o450005.getD (IntKind.i64.wrap ((o450005.length : Int) - (1 : Int))).toNat []))))
                            else (none))
                          else (none))
                        else (none)))
                    else (none))
                  else (none))
                else (none)))
            else (none))
          else (none))
        else (bif decide ((0 : Int) < (v1.length : Int)) then
            (bif decide ((1 : Int) ≤ (v1.length : Int)) then
              (bif decide ((v1.length : Int) ≤ (v1.length : Int)) then
                (bif ((o450005.length : Int) == (0 : Int)) then
                  (bif decide (([] : List Int).length + (v1.getD 0 []).length ≤ rowMax) then
                    (bif decide (o450005.length + ([(([] : List Int) ++ (v1.getD 0 []))]).length ≤ rowMax) then
                      (s_l05Merge_l2 k v0 ((v1.take ((v1.length : Int)).toNat).drop 1) (o450005 ++ ([(([] : List Int) ++ (v1.getD 0 []))])))
                    else (none))
                  else (none))
                else (bif decide (0 ≤ (IntKind.i64.wrap ((o450005.length : Int) - (1 : Int)))) then
                    (bif decide ((IntKind.i64.wrap ((o450005.length : Int) - (1 : Int))) < (o450005.length : Int)) then
                      (bif decide ((IntKind.i64.wrap ((o450005.length : Int) - (1 : Int))).toNat < o450005.length) then
                        ((s_SamePacket k ((o450005.getD (IntKind.i64.wrap ((o450005.length : Int) - (1 : Int))).toNat []), (v1.getD 0 []))).bind fun y10 =>
                        bif (!y10) then
                          (bif decide (([] : List Int).length + (v1.getD 0 []).length ≤ rowMax) then
                            (bif decide ((o450005.set (IntKind.i64.wrap ((o450005.length : Int) - (1 : Int))).toNat (o450005.getD (IntKind.i64.wrap ((o450005.length : Int) - (1 : Int))).toNat [])).length + ([(([] : List Int) ++ (v1.getD 0 []))]).length ≤ rowMax) then
                              (s_l05Merge_l2 k v0 ((v1.take ((v1.length : Int)).toNat).drop 1) ((o450005.set (IntKind.i64.wrap ((o450005.length : Int) - (1 : Int))).toNat (o450005.getD (IntKind.i64.wrap ((o450005.length : Int) - (1 : Int))).toNat [])) ++ ([(([] : List Int) ++ (v1.getD 0 []))])))
                            else (none))
                          else (none))
                        else (s_l05Merge_l2 k v0 ((v1.take ((v1.length : Int)).toNat).drop 1) (o450005.set (IntKind.i64.wrap ((o450005.length : Int) - (1 : Int))).toNat (o450005.getD (IntKind.i64.wrap ((o450005.length : Int) - (1 : Int))).toNat []))))
                      else (none))
                    else (none))
                  else (none)))
              else (none))
            else (none))
          else (none))))
    else (some o450005)) := by kernel_rfl
theorem s_SortPackets_eq (k : Nat) (x0 : List (List Int)) : s_SortPackets (k + 1) x0 =
  bif decide ((x0.length : Int) < (2 : Int)) then
    ((s_l05Merge k (x0, [])).bind fun y1 =>
    some y1)
  else (bif decide (0 ≤ (IntKind.i64.wrap ((x0.length : Int).tdiv (2 : Int)))) then
      (bif decide ((IntKind.i64.wrap ((x0.length : Int).tdiv (2 : Int))) ≤ (x0.length : Int)) then
        ((s_SortPackets k ((x0.take (IntKind.i64.wrap ((x0.length : Int).tdiv (2 : Int))).toNat).drop 0)).bind fun y2 =>
        bif decide (0 ≤ (IntKind.i64.wrap ((x0.length : Int).tdiv (2 : Int)))) then
          (bif decide ((IntKind.i64.wrap ((x0.length : Int).tdiv (2 : Int))) ≤ (x0.length : Int)) then
            (bif decide ((x0.length : Int) ≤ (x0.length : Int)) then
              ((s_SortPackets k ((x0.take ((x0.length : Int)).toNat).drop (IntKind.i64.wrap ((x0.length : Int).tdiv (2 : Int))).toNat)).bind fun y3 =>
              (s_l05Merge k (y2, y3)).bind fun y4 =>
              some y4)
            else (none))
          else (none))
        else (none))
      else (none))
    else (none)) := by kernel_rfl
theorem s_MakeRiffle_eq (k : Nat) (x0 : List Int) : s_MakeRiffle (k + 1) x0 =
  (s_l01New k x0).bind fun y1 =>
  (s_l01Below k (y1, (7 : Int))).bind fun y2 =>
  (s_NewPacket k (IntKind.i64.wrap ((1 : Int) + y2.1))).bind fun y3 =>
  (s_l05Of k (y3, (2 : Int))).bind fun y4 =>
  (s_SortPackets k y4).bind fun y5 =>
  (s_l01Below k (y2.2, (y5.length : Int))).bind fun y6 =>
  bif decide (0 ≤ y6.1) then
    (bif decide (y6.1 < (y5.length : Int)) then
      (bif decide (y6.1.toNat < y5.length) then
        (some (y5.getD y6.1.toNat []))
      else (none))
    else (none))
  else (none) := by kernel_rfl
theorem i_total_eq (k : Nat) (x0 : Int) (x1 : List Int) : i_total (k + 1) (x0, x1) =
  (i_NextWays k (x0, x1)).bind fun y1 =>
  bif y1.isEmpty then
    (some (0 : Int))
  else ((slices_Max_int k y1).bind fun y2 =>
    i_total_l6 k x0 x1 y2 (y1.length : Int) (0 : Int) y1) := by kernel_rfl
theorem i_total_l6_eq (k : Nat) (v0 : Int) (v1 : List Int) (v6 : Int) (v17 : Int) (v18 : Int) (o100016 : List Int) : i_total_l6 (k + 1) v0 v1 v6 v17 v18 o100016 =
  bif decide (v18 < v17) then
    (bif decide (0 ≤ v18) then
      (bif decide (v18 < (o100016.length : Int)) then
        (bif decide (v18.toNat < o100016.length) then
          (bif decide ((o100016.getD v18.toNat (0 : Int)) > (0 : Int)) then
            ((slices_Clone_int k v1).bind fun y1 =>
            bif decide (y1.length + [v18].length ≤ rowMax) then
              ((i_total k (v0, (y1 ++ [v18]))).bind fun y2 =>
              i_total_l6 k v0 v1 (IntKind.i64.wrap (v6 + y2)) v17 (IntKind.i64.wrap (v18 + (1 : Int))) o100016)
            else (none))
          else (i_total_l6 k v0 v1 v6 v17 (IntKind.i64.wrap (v18 + (1 : Int))) o100016))
        else (none))
      else (none))
    else (none))
  else (some v6) := by kernel_rfl
theorem i_GuessTotal_eq (k : Nat) (x0 : Int) : i_GuessTotal (k + 1) x0 =
  bif decide (x0 < (1 : Int)) then
    (some (-1 : Int))
  else (bif decide (x0 > (8 : Int)) then
      (some (-1 : Int))
    else ((i_total k (x0, [])).bind fun y1 =>
      some y1)) := by kernel_rfl
theorem w_FnGuesses_eq (k : Nat) (x0 : List Int) : w_FnGuesses (k + 1) x0 =
  bif decide ((x0.length : Int) > (1048576 : Int)) then
    (some true)
  else ((s_MakeNum k (x0, (1 : Int))).bind fun y1 =>
    (i_NewPacket k (IntKind.i64.wrap ((1 : Int) + (y1.tmod (5 : Int))))).bind fun y2 =>
    (i_ResultsOf k (y2, (2 : Int))).bind fun y3 =>
    bif (!y3.2) then
      (some false)
    else ((i_WaysWith k ((IntKind.i64.wrap ((1 : Int) + (y1.tmod (5 : Int)))), [])).bind fun y4 =>
      bif decide (0 ≤ (IntKind.i64.wrap ((1 : Int) + (y1.tmod (5 : Int))))) then
        (bif (!(y4 == (IntKind.i64.wrap ((1 : Int) * 2 ^ (min (IntKind.i64.wrap ((1 : Int) + (y1.tmod (5 : Int)))).toNat IntKind.i64.bits))))) then
          (some false)
        else (w_FnGuesses_l9 k x0 (IntKind.i64.wrap ((1 : Int) + (y1.tmod (5 : Int)))) (0 : Int) (y3.1.length : Int) (0 : Int) y3.1))
      else (none))) := by kernel_rfl
theorem w_FnGuesses_l9_eq (k : Nat) (v0 : List Int) (v3 : Int) (v6 : Int) (v42 : Int) (v43 : Int) (o100041 : List (List Int)) : w_FnGuesses_l9 (k + 1) v0 v3 v6 v42 v43 o100041 =
  bif decide (v43 < v42) then
    (bif decide (0 ≤ v43) then
      (bif decide (v43 < (o100041.length : Int)) then
        (bif decide (v43.toNat < o100041.length) then
          ((i_RiffleWays k (o100041.getD v43.toNat [])).bind fun y1 =>
          (i_GuessRun k (o100041.getD v43.toNat [])).bind fun y2 =>
          bif decide (y1 < (1 : Int)) then
            (some false)
          else (bif decide (y2 < (0 : Int)) then
              (some false)
            else (bif decide (y2 > v3) then
                (some false)
              else ((i_WaysWith k (v3, (o100041.getD v43.toNat []))).bind fun y3 =>
                bif (!(y3 == y1)) then
                  (some false)
                else (w_FnGuesses_l9 k v0 v3 (IntKind.i64.wrap (v6 + (IntKind.i64.wrap (y1 * y2)))) v42 (IntKind.i64.wrap (v43 + (1 : Int))) o100041)))))
        else (none))
      else (none))
    else (none))
  else ((s_MakeRiffle k v0).bind fun y4 =>
    (s_MakeNum k (v0, (40 : Int))).bind fun y5 =>
    bif (!((y4.length : Int) == 0)) then
      (bif decide (0 ≤ (y5.tmod (y4.length : Int))) then
        (bif decide ((y5.tmod (y4.length : Int)) ≤ (y4.length : Int)) then
          ((i_NextWays k ((y4.length : Int), ((y4.take (y5.tmod (y4.length : Int)).toNat).drop 0))).bind fun y6 =>
          w_FnGuesses_l23 k v3 v6 y4 (y5.tmod (y4.length : Int)) y6 (0 : Int) (0 : Int) y6 (y6.length : Int) (0 : Int))
        else (none))
      else (none))
    else (none)) := by kernel_rfl
theorem w_FnGuesses_l23_eq (k : Nat) (v3 : Int) (v6 : Int) (v11 : List Int) (v12 : Int) (v13 : List Int) (v14 : Int) (v15 : Int) (v88 : List Int) (v89 : Int) (v90 : Int) : w_FnGuesses_l23 (k + 1) v3 v6 v11 v12 v13 v14 v15 v88 v89 v90 =
  bif decide (v90 < v89) then
    (bif decide (0 ≤ v90) then
      (bif decide (v90 < (v88.length : Int)) then
        (w_FnGuesses_l23 k v3 v6 v11 v12 v13 (IntKind.i64.wrap (v14 + (v88.getD v90.toNat (0 : Int)))) (bif decide ((v88.getD v90.toNat (0 : Int)) > v15) then (v88.getD v90.toNat (0 : Int)) else v15) v88 v89 (IntKind.i64.wrap (v90 + (1 : Int))))
      else (none))
    else (none))
  else (bif decide (0 ≤ v12) then
      (bif decide (v12 ≤ (v11.length : Int)) then
        ((i_BestGuess k ((v11.length : Int), ((v11.take v12.toNat).drop 0))).bind fun y1 =>
        (i_GuessTotal k v3).bind fun y2 =>
        bif (v6 == y2) then
          (bif ((v13.length : Int) == (v11.length : Int)) then
            (bif decide (0 ≤ v12) then
              (bif decide (v12 ≤ (v11.length : Int)) then
                ((i_WaysWith k ((v11.length : Int), ((v11.take v12.toNat).drop 0))).bind fun y3 =>
                bif (v14 == y3) then
                  (bif decide (y1 ≥ (0 : Int)) then
                    (bif decide (y1 < (v13.length : Int)) then
                      (bif decide (0 ≤ y1) then
                        (bif decide (y1 < (v13.length : Int)) then
                          (some ((v13.getD y1.toNat (0 : Int)) == v15))
                        else (none))
                      else (none))
                    else (some false))
                  else (some false))
                else (some false))
              else (none))
            else (none))
          else (some false))
        else (some false))
      else (none))
    else (none)) := by kernel_rfl

/-! ### the tables are right -/
/-- What holds of the world throughout. -/
abbrev gw : Gw := ⟨fun w => True, true⟩
theorem ty_3 : TyOk Go.Proofs.Try.prog 3 (.one (.int .i64)) := tyOk_int (by kernel_rfl) (by kernel_rfl) (by kernel_rfl)
theorem ty_4 : TyOk Go.Proofs.Try.prog 4 (.one (.bool)) := tyOk_bool (by kernel_rfl) (by kernel_rfl) (by kernel_rfl)
theorem ty_5 : TyOk Go.Proofs.Try.prog 5 (.one (.int .u8)) := tyOk_int (by kernel_rfl) (by kernel_rfl) (by kernel_rfl)
theorem ty_22 : TyOk Go.Proofs.Try.prog 22 (.one (.slice (.int .u8))) := tyOk_slice (e := 5) (by kernel_rfl) (by kernel_rfl) (by kernel_rfl) (elemOk_of (by kernel_rfl) (by kernel_rfl) (by kernel_rfl))
theorem ty_24 : TyOk Go.Proofs.Try.prog 24 (.one (.slice (.slice (.int .i64)))) := tyOk_slice (e := 27) (by kernel_rfl) (by kernel_rfl) (by kernel_rfl) (elemOk_of (by kernel_rfl) (by kernel_rfl) (by kernel_rfl))
theorem ty_27 : TyOk Go.Proofs.Try.prog 27 (.one (.slice (.int .i64))) := tyOk_slice (e := 3) (by kernel_rfl) (by kernel_rfl) (by kernel_rfl) (elemOk_of (by kernel_rfl) (by kernel_rfl) (by kernel_rfl))
theorem ty_49 : TyOk Go.Proofs.Try.prog 49 (.struct [(0, 22), (1, 3), (2, 3)] [.slice (.int .u8), .int .i64, .int .i64] false) := tyOk_struct (fields := Go.Proofs.Try.prog.fieldsOf 49) (by kernel_rfl) (by kernel_rfl) (by kernel_rfl) (by kernel_rfl) (by kernel_rfl) (by kernel_rfl) (fun e => by cases e)
theorem ty_51 : TyOk Go.Proofs.Try.prog 51 (.arr 12 (.bool)) := tyOk_arr (e := 4) (by kernel_rfl) (elemOk_of (by kernel_rfl) (by kernel_rfl) (by kernel_rfl)) (by kernel_rfl) (by kernel_rfl)
theorem ty_55 : TyOk Go.Proofs.Try.prog 55 (.struct [(0, 3), (1, 3)] [.int .i64, .int .i64] true) := tyOk_struct (fields := Go.Proofs.Try.prog.fieldsOf 55) (by kernel_rfl) (by kernel_rfl) (by kernel_rfl) (by kernel_rfl) (by kernel_rfl) (by kernel_rfl) (fun _ => structEq_ok (d := 20) (fields := Go.Proofs.Try.prog.fieldsOf 55) (by kernel_rfl) (by kernel_rfl) (by decide) (by kernel_rfl))
theorem ty_5027023 : TyOk Go.Proofs.Try.prog 5027023 (.flag) := trivial
theorem ty_5027031 : TyOk Go.Proofs.Try.prog 5027031 (.flag) := trivial
theorem hE : ∀ T ti, E.ty T = some ti → TyOk Go.Proofs.Try.prog T ti := lookT_ok (l := tyL) ⟨ty_3, ty_4, ty_5, ty_22, ty_24, ty_27, ty_49, ty_51, ty_55, ty_5027023, ty_5027031, trivial⟩
theorem s_l01New_ok : OneF Go.Proofs.Try.prog gw 25 s_l01New_fi := fnOk_of (fn := Go.Proofs.Try.f25) (c := s_l01New_c) Go.Proofs.Try.func25 (by kernel_rfl) (by kernel_rfl) rfl rfl (by kernel_rfl) (by kernel_rfl) rfl
theorem s_l01Byte_ok : OneF Go.Proofs.Try.prog gw 15 s_l01Byte_fi := fnOk_of (fn := Go.Proofs.Try.f15) (c := s_l01Byte_c) Go.Proofs.Try.func15 (by kernel_rfl) (by kernel_rfl) rfl rfl (by kernel_rfl) (by kernel_rfl) rfl
theorem s_l23New_ok : OneF Go.Proofs.Try.prog gw 14 s_l23New_fi := fnOk_of (fn := Go.Proofs.Try.f14) (c := s_l23New_c) Go.Proofs.Try.func14 (by kernel_rfl) (by kernel_rfl) rfl rfl (by kernel_rfl) (by kernel_rfl) rfl
theorem s_MakeNum_ok : OneF Go.Proofs.Try.prog gw 4 s_MakeNum_fi := fnOk_of (fn := Go.Proofs.Try.f4) (c := s_MakeNum_c) Go.Proofs.Try.func4 (by kernel_rfl) (by kernel_rfl) rfl rfl (by kernel_rfl) (by kernel_rfl) rfl
theorem i_upTo_ok : OneF Go.Proofs.Try.prog gw 19 i_upTo_fi := fnOk_of (fn := Go.Proofs.Try.f19) (c := i_upTo_c) Go.Proofs.Try.func19 (by kernel_rfl) (by kernel_rfl) rfl rfl (by kernel_rfl) (by kernel_rfl) rfl
theorem i_NewPacket_ok : OneF Go.Proofs.Try.prog gw 6 i_NewPacket_fi := fnOk_of (fn := Go.Proofs.Try.f6) (c := i_NewPacket_c) Go.Proofs.Try.func6 (by kernel_rfl) (by kernel_rfl) rfl rfl (by kernel_rfl) (by kernel_rfl) rfl
theorem i_CardOf_ok : OneF Go.Proofs.Try.prog gw 33 i_CardOf_fi := fnOk_of (fn := Go.Proofs.Try.f33) (c := i_CardOf_c) Go.Proofs.Try.func33 (by kernel_rfl) (by kernel_rfl) rfl rfl (by kernel_rfl) (by kernel_rfl) rfl
theorem i_PacketOk_ok : OneF Go.Proofs.Try.prog gw 16 i_PacketOk_fi := fnOk_of (fn := Go.Proofs.Try.f16) (c := i_PacketOk_c) Go.Proofs.Try.func16 (by kernel_rfl) (by kernel_rfl) rfl rfl (by kernel_rfl) (by kernel_rfl) rfl
theorem slices_Clone_int_ok : OneF Go.Proofs.Try.prog gw 34 slices_Clone_int_fi := fnOk_of (fn := Go.Proofs.Try.f34) (c := slices_Clone_int_c) Go.Proofs.Try.func34 (by kernel_rfl) (by kernel_rfl) rfl rfl (by kernel_rfl) (by kernel_rfl) rfl
theorem slices_Grow_int_ok : OneF Go.Proofs.Try.prog gw 55 slices_Grow_int_fi := Go.Proofs.Try.growOne
theorem slices_Concat_int_ok : OneF Go.Proofs.Try.prog gw 37 slices_Concat_int_fi := fnOk_of (fn := Go.Proofs.Try.f37) (c := slices_Concat_int_c) Go.Proofs.Try.func37 (by kernel_rfl) (by kernel_rfl) rfl rfl (by kernel_rfl) (by kernel_rfl) rfl
theorem slices_Reverse_int_ok : OneF Go.Proofs.Try.prog gw 63 slices_Reverse_int_fi := Go.Proofs.Try.revOne
theorem i_reversed_ok : OneF Go.Proofs.Try.prog gw 49 i_reversed_fi := fnOk_of (fn := Go.Proofs.Try.f49) (c := i_reversed_c) Go.Proofs.Try.func49 (by kernel_rfl) (by kernel_rfl) rfl rfl (by kernel_rfl) (by kernel_rfl) rfl
theorem i_faro_ok : OneF Go.Proofs.Try.prog gw 51 i_faro_fi := fnOk_of (fn := Go.Proofs.Try.f51) (c := i_faro_c) Go.Proofs.Try.func51 (by kernel_rfl) (by kernel_rfl) rfl rfl (by kernel_rfl) (by kernel_rfl) rfl
theorem i_monge_ok : OneF Go.Proofs.Try.prog gw 52 i_monge_fi := fnOk_of (fn := Go.Proofs.Try.f52) (c := i_monge_c) Go.Proofs.Try.func52 (by kernel_rfl) (by kernel_rfl) rfl rfl (by kernel_rfl) (by kernel_rfl) rfl
theorem i_milk_ok : OneF Go.Proofs.Try.prog gw 53 i_milk_fi := fnOk_of (fn := Go.Proofs.Try.f53) (c := i_milk_c) Go.Proofs.Try.func53 (by kernel_rfl) (by kernel_rfl) rfl rfl (by kernel_rfl) (by kernel_rfl) rfl
theorem i_dealt_ok : OneF Go.Proofs.Try.prog gw 54 i_dealt_fi := fnOk_of (fn := Go.Proofs.Try.f54) (c := i_dealt_c) Go.Proofs.Try.func54 (by kernel_rfl) (by kernel_rfl) rfl rfl (by kernel_rfl) (by kernel_rfl) rfl
theorem i_TurnCard_ok : OneF Go.Proofs.Try.prog gw 50 i_TurnCard_fi := fnOk_of (fn := Go.Proofs.Try.f50) (c := i_TurnCard_c) Go.Proofs.Try.func50 (by kernel_rfl) (by kernel_rfl) rfl rfl (by kernel_rfl) (by kernel_rfl) rfl
theorem i_moved_ok : OneF Go.Proofs.Try.prog gw 36 i_moved_fi := fnOk_of (fn := Go.Proofs.Try.f36) (c := i_moved_c) Go.Proofs.Try.func36 (by kernel_rfl) (by kernel_rfl) rfl rfl (by kernel_rfl) (by kernel_rfl) rfl
theorem i_cuts_ok : OneF Go.Proofs.Try.prog gw 35 i_cuts_fi := fnOk_of (fn := Go.Proofs.Try.f35) (c := i_cuts_c) Go.Proofs.Try.func35 (by kernel_rfl) (by kernel_rfl) rfl rfl (by kernel_rfl) (by kernel_rfl) rfl
theorem i_riffled_ok : OneF Go.Proofs.Try.prog gw 22 i_riffled_fi := fnOk_of (fn := Go.Proofs.Try.f22) (c := i_riffled_c) Go.Proofs.Try.func22 (by kernel_rfl) (by kernel_rfl) rfl rfl (by kernel_rfl) (by kernel_rfl) rfl
theorem i_all_ok : OneF Go.Proofs.Try.prog gw 17 i_all_fi := fnOk_of (fn := Go.Proofs.Try.f17) (c := i_all_c) Go.Proofs.Try.func17 (by kernel_rfl) (by kernel_rfl) rfl rfl (by kernel_rfl) (by kernel_rfl) rfl
theorem slices_SortFunc_int_int_ok : OneF Go.Proofs.Try.prog gw 38 slices_SortFunc_int_int_fi := Go.Proofs.Try.sortOne
theorem slices_CompactFunc_int_int_ok : OneF Go.Proofs.Try.prog gw 40 slices_CompactFunc_int_int_fi := Go.Proofs.Try.compactOne
theorem i_SortPackets_ok : OneF Go.Proofs.Try.prog gw 18 i_SortPackets_fi := fnOk_of (fn := Go.Proofs.Try.f18) (c := i_SortPackets_c) Go.Proofs.Try.func18 (by kernel_rfl) (by kernel_rfl) rfl rfl (by kernel_rfl) (by kernel_rfl) rfl
theorem i_ResultsOf_ok : OneF Go.Proofs.Try.prog gw 5 i_ResultsOf_fi := fnOk_of (fn := Go.Proofs.Try.f5) (c := i_ResultsOf_c) Go.Proofs.Try.func5 (by kernel_rfl) (by kernel_rfl) rfl rfl (by kernel_rfl) (by kernel_rfl) rfl
theorem slices_Index_int_ok : OneF Go.Proofs.Try.prog gw 31 slices_Index_int_fi := fnOk_of (fn := Go.Proofs.Try.f31) (c := slices_Index_int_c) Go.Proofs.Try.func31 (by kernel_rfl) (by kernel_rfl) rfl rfl (by kernel_rfl) (by kernel_rfl) rfl
theorem slices_Contains_int_ok : OneF Go.Proofs.Try.prog gw 41 slices_Contains_int_fi := fnOk_of (fn := Go.Proofs.Try.f41) (c := slices_Contains_int_c) Go.Proofs.Try.func41 (by kernel_rfl) (by kernel_rfl) rfl rfl (by kernel_rfl) (by kernel_rfl) rfl
theorem i_isPrefix_ok : OneF Go.Proofs.Try.prog gw 20 i_isPrefix_fi := fnOk_of (fn := Go.Proofs.Try.f20) (c := i_isPrefix_c) Go.Proofs.Try.func20 (by kernel_rfl) (by kernel_rfl) rfl rfl (by kernel_rfl) (by kernel_rfl) rfl
theorem slices_Equal_int_ok : OneF Go.Proofs.Try.prog gw 21 slices_Equal_int_fi := fnOk_of (fn := Go.Proofs.Try.f21) (c := slices_Equal_int_c) Go.Proofs.Try.func21 (by kernel_rfl) (by kernel_rfl) rfl rfl (by kernel_rfl) (by kernel_rfl) rfl
theorem i_WaysWith_ok : OneF Go.Proofs.Try.prog gw 7 i_WaysWith_fi := fnOk_of (fn := Go.Proofs.Try.f7) (c := i_WaysWith_c) Go.Proofs.Try.func7 (by kernel_rfl) (by kernel_rfl) rfl rfl (by kernel_rfl) (by kernel_rfl) rfl
theorem i_PermOk_ok : OneF Go.Proofs.Try.prog gw 42 i_PermOk_fi := fnOk_of (fn := Go.Proofs.Try.f42) (c := i_PermOk_c) Go.Proofs.Try.func42 (by kernel_rfl) (by kernel_rfl) rfl rfl (by kernel_rfl) (by kernel_rfl) rfl
theorem i_inverse_ok : OneF Go.Proofs.Try.prog gw 43 i_inverse_fi := fnOk_of (fn := Go.Proofs.Try.f43) (c := i_inverse_c) Go.Proofs.Try.func43 (by kernel_rfl) (by kernel_rfl) rfl rfl (by kernel_rfl) (by kernel_rfl) rfl
theorem i_RisingSequences_ok : OneF Go.Proofs.Try.prog gw 24 i_RisingSequences_fi := fnOk_of (fn := Go.Proofs.Try.f24) (c := i_RisingSequences_c) Go.Proofs.Try.func24 (by kernel_rfl) (by kernel_rfl) rfl rfl (by kernel_rfl) (by kernel_rfl) rfl
theorem i_IsRiffle_ok : OneF Go.Proofs.Try.prog gw 23 i_IsRiffle_fi := fnOk_of (fn := Go.Proofs.Try.f23) (c := i_IsRiffle_c) Go.Proofs.Try.func23 (by kernel_rfl) (by kernel_rfl) rfl rfl (by kernel_rfl) (by kernel_rfl) rfl
theorem i_RiffleWays_ok : OneF Go.Proofs.Try.prog gw 8 i_RiffleWays_fi := fnOk_of (fn := Go.Proofs.Try.f8) (c := i_RiffleWays_c) Go.Proofs.Try.func8 (by kernel_rfl) (by kernel_rfl) rfl rfl (by kernel_rfl) (by kernel_rfl) rfl
theorem i_NextWays_ok : OneF Go.Proofs.Try.prog gw 11 i_NextWays_fi := fnOk_of (fn := Go.Proofs.Try.f11) (c := i_NextWays_c) Go.Proofs.Try.func11 (by kernel_rfl) (by kernel_rfl) rfl rfl (by kernel_rfl) (by kernel_rfl) rfl
theorem slices_Max_int_ok : OneF Go.Proofs.Try.prog gw 30 slices_Max_int_fi := fnOk_of (fn := Go.Proofs.Try.f30) (c := slices_Max_int_c) Go.Proofs.Try.func30 (by kernel_rfl) (by kernel_rfl) rfl rfl (by kernel_rfl) (by kernel_rfl) rfl
theorem i_BestGuess_ok : OneF Go.Proofs.Try.prog gw 12 i_BestGuess_fi := fnOk_of (fn := Go.Proofs.Try.f12) (c := i_BestGuess_c) Go.Proofs.Try.func12 (by kernel_rfl) (by kernel_rfl) rfl rfl (by kernel_rfl) (by kernel_rfl) rfl
theorem i_GuessRun_ok : OneF Go.Proofs.Try.prog gw 9 i_GuessRun_fi := fnOk_of (fn := Go.Proofs.Try.f9) (c := i_GuessRun_c) Go.Proofs.Try.func9 (by kernel_rfl) (by kernel_rfl) rfl rfl (by kernel_rfl) (by kernel_rfl) rfl
theorem s_l01Below_ok : OneF Go.Proofs.Try.prog gw 26 s_l01Below_fi := fnOk_of (fn := Go.Proofs.Try.f26) (c := s_l01Below_c) Go.Proofs.Try.func26 (by kernel_rfl) (by kernel_rfl) rfl rfl (by kernel_rfl) (by kernel_rfl) rfl
theorem s_l01In_ok : OneF Go.Proofs.Try.prog gw 48 s_l01In_fi := fnOk_of (fn := Go.Proofs.Try.f48) (c := s_l01In_c) Go.Proofs.Try.func48 (by kernel_rfl) (by kernel_rfl) rfl rfl (by kernel_rfl) (by kernel_rfl) rfl
theorem s_NewPacket_ok : OneF Go.Proofs.Try.prog gw 29 s_NewPacket_fi := fnOk_of (fn := Go.Proofs.Try.f29) (c := s_NewPacket_c) Go.Proofs.Try.func29 (by kernel_rfl) (by kernel_rfl) rfl rfl (by kernel_rfl) (by kernel_rfl) rfl
theorem s_CardOf_ok : OneF Go.Proofs.Try.prog gw 79 s_CardOf_fi := fnOk_of (fn := Go.Proofs.Try.f79) (c := s_CardOf_c) Go.Proofs.Try.func79 (by kernel_rfl) (by kernel_rfl) rfl rfl (by kernel_rfl) (by kernel_rfl) rfl
theorem s_TurnCard_ok : OneF Go.Proofs.Try.prog gw 62 s_TurnCard_fi := fnOk_of (fn := Go.Proofs.Try.f62) (c := s_TurnCard_c) Go.Proofs.Try.func62 (by kernel_rfl) (by kernel_rfl) rfl rfl (by kernel_rfl) (by kernel_rfl) rfl
theorem s_l04Back_ok : OneF Go.Proofs.Try.prog gw 47 s_l04Back_fi := fnOk_of (fn := Go.Proofs.Try.f47) (c := s_l04Back_c) Go.Proofs.Try.func47 (by kernel_rfl) (by kernel_rfl) rfl rfl (by kernel_rfl) (by kernel_rfl) rfl
theorem s_l04Faro_ok : OneF Go.Proofs.Try.prog gw 75 s_l04Faro_fi := fnOk_of (fn := Go.Proofs.Try.f75) (c := s_l04Faro_c) Go.Proofs.Try.func75 (by kernel_rfl) (by kernel_rfl) rfl rfl (by kernel_rfl) (by kernel_rfl) rfl
theorem s_l04Monge_ok : OneF Go.Proofs.Try.prog gw 76 s_l04Monge_fi := fnOk_of (fn := Go.Proofs.Try.f76) (c := s_l04Monge_c) Go.Proofs.Try.func76 (by kernel_rfl) (by kernel_rfl) rfl rfl (by kernel_rfl) (by kernel_rfl) rfl
theorem s_l04Milk_ok : OneF Go.Proofs.Try.prog gw 77 s_l04Milk_fi := fnOk_of (fn := Go.Proofs.Try.f77) (c := s_l04Milk_c) Go.Proofs.Try.func77 (by kernel_rfl) (by kernel_rfl) rfl rfl (by kernel_rfl) (by kernel_rfl) rfl
theorem s_l04Duck_ok : OneF Go.Proofs.Try.prog gw 78 s_l04Duck_fi := fnOk_of (fn := Go.Proofs.Try.f78) (c := s_l04Duck_c) Go.Proofs.Try.func78 (by kernel_rfl) (by kernel_rfl) rfl rfl (by kernel_rfl) (by kernel_rfl) rfl
theorem s_l04Do_ok : OneF Go.Proofs.Try.prog gw 61 s_l04Do_fi := fnOk_of (fn := Go.Proofs.Try.f61) (c := s_l04Do_c) Go.Proofs.Try.func61 (by kernel_rfl) (by kernel_rfl) rfl rfl (by kernel_rfl) (by kernel_rfl) rfl
theorem s_l05Cuts_ok : OneF Go.Proofs.Try.prog gw 45 s_l05Cuts_fi := fnOk_of (fn := Go.Proofs.Try.f45) (c := s_l05Cuts_c) Go.Proofs.Try.func45 (by kernel_rfl) (by kernel_rfl) rfl rfl (by kernel_rfl) (by kernel_rfl) rfl
theorem s_l05Weave_ok : OneF Go.Proofs.Try.prog gw 46 s_l05Weave_fi := fnOk_of (fn := Go.Proofs.Try.f46) (c := s_l05Weave_c) Go.Proofs.Try.func46 (by kernel_rfl) (by kernel_rfl) rfl rfl (by kernel_rfl) (by kernel_rfl) rfl
theorem s_l05Of_ok : OneF Go.Proofs.Try.prog gw 28 s_l05Of_fi := fnOk_of (fn := Go.Proofs.Try.f28) (c := s_l05Of_c) Go.Proofs.Try.func28 (by kernel_rfl) (by kernel_rfl) rfl rfl (by kernel_rfl) (by kernel_rfl) rfl
theorem s_SamePacket_ok : OneF Go.Proofs.Try.prog gw 60 s_SamePacket_fi := fnOk_of (fn := Go.Proofs.Try.f60) (c := s_SamePacket_c) Go.Proofs.Try.func60 (by kernel_rfl) (by kernel_rfl) rfl rfl (by kernel_rfl) (by kernel_rfl) rfl
theorem s_l05Less_ok : OneF Go.Proofs.Try.prog gw 59 s_l05Less_fi := fnOk_of (fn := Go.Proofs.Try.f59) (c := s_l05Less_c) Go.Proofs.Try.func59 (by kernel_rfl) (by kernel_rfl) rfl rfl (by kernel_rfl) (by kernel_rfl) rfl
theorem s_l05Merge_ok : OneF Go.Proofs.Try.prog gw 44 s_l05Merge_fi := fnOk_of (fn := Go.Proofs.Try.f44) (c := s_l05Merge_c) Go.Proofs.Try.func44 (by kernel_rfl) (by kernel_rfl) rfl rfl (by kernel_rfl) (by kernel_rfl) rfl
theorem s_SortPackets_ok : OneF Go.Proofs.Try.prog gw 27 s_SortPackets_fi := fnOk_of (fn := Go.Proofs.Try.f27) (c := s_SortPackets_c) Go.Proofs.Try.func27 (by kernel_rfl) (by kernel_rfl) rfl rfl (by kernel_rfl) (by kernel_rfl) rfl
theorem s_MakeRiffle_ok : OneF Go.Proofs.Try.prog gw 10 s_MakeRiffle_fi := fnOk_of (fn := Go.Proofs.Try.f10) (c := s_MakeRiffle_c) Go.Proofs.Try.func10 (by kernel_rfl) (by kernel_rfl) rfl rfl (by kernel_rfl) (by kernel_rfl) rfl
theorem i_total_ok : OneF Go.Proofs.Try.prog gw 32 i_total_fi := fnOk_of (fn := Go.Proofs.Try.f32) (c := i_total_c) Go.Proofs.Try.func32 (by kernel_rfl) (by kernel_rfl) rfl rfl (by kernel_rfl) (by kernel_rfl) rfl
theorem i_GuessTotal_ok : OneF Go.Proofs.Try.prog gw 13 i_GuessTotal_fi := fnOk_of (fn := Go.Proofs.Try.f13) (c := i_GuessTotal_c) Go.Proofs.Try.func13 (by kernel_rfl) (by kernel_rfl) rfl rfl (by kernel_rfl) (by kernel_rfl) rfl
theorem w_FnGuesses_ok : OneF Go.Proofs.Try.prog gw 3 w_FnGuesses_fi := fnOk_of (fn := Go.Proofs.Try.f3) (c := w_FnGuesses_c) Go.Proofs.Try.func3 (by kernel_rfl) (by kernel_rfl) rfl rfl (by kernel_rfl) (by kernel_rfl) rfl
theorem hF : FnOk Go.Proofs.Try.prog gw E := lookF_ok (l := fnL) ⟨s_l01New_ok, s_l01Byte_ok, s_l23New_ok, s_MakeNum_ok, i_upTo_ok, i_NewPacket_ok, i_CardOf_ok, i_PacketOk_ok, slices_Clone_int_ok, slices_Grow_int_ok, slices_Concat_int_ok, slices_Reverse_int_ok, i_reversed_ok, i_faro_ok, i_monge_ok, i_milk_ok, i_dealt_ok, i_TurnCard_ok, i_moved_ok, i_cuts_ok, i_riffled_ok, i_all_ok, slices_SortFunc_int_int_ok, slices_CompactFunc_int_int_ok, i_SortPackets_ok, i_ResultsOf_ok, slices_Index_int_ok, slices_Contains_int_ok, i_isPrefix_ok, slices_Equal_int_ok, i_WaysWith_ok, i_PermOk_ok, i_inverse_ok, i_RisingSequences_ok, i_IsRiffle_ok, i_RiffleWays_ok, i_NextWays_ok, slices_Max_int_ok, i_BestGuess_ok, i_GuessRun_ok, s_l01Below_ok, s_l01In_ok, s_NewPacket_ok, s_CardOf_ok, s_TurnCard_ok, s_l04Back_ok, s_l04Faro_ok, s_l04Monge_ok, s_l04Milk_ok, s_l04Duck_ok, s_l04Do_ok, s_l05Cuts_ok, s_l05Weave_ok, s_l05Of_ok, s_SamePacket_ok, s_l05Less_ok, s_l05Merge_ok, s_SortPackets_ok, s_MakeRiffle_ok, i_total_ok, i_GuessTotal_ok, w_FnGuesses_ok, trivial⟩
end Pt
