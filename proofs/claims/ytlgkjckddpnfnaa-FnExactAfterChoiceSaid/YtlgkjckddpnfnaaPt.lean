/-
  The plain machine's telling of functions of the program. Printed by gen.py.
  Conditions: none; these are definitions and equations that the kernel checks.
-/
import Derived.Test.YtlgkjckddpnfnaaXvza
import Derived.Test.YtlgkjckddpnfnaaProg
import Derived.Test.YtlgkjckddpnfnaaDel
import Derived.Test.YtlgkjckddpnfnaaSrt
namespace Pt
open Go Go.Vt
set_option linter.unusedVariables false
set_option maxRecDepth 100000

noncomputable def tyL : List (Nat × TI) := [(3, .one (.int .i64)),
  (4, .one (.bool)),
  (22, .one (.slice (.int .i64))),
  (38, .one (.slice (.slice (.int .i64)))),
  (45, .struct [(0, 3), (1, 3)] [.int .i64, .int .i64] true),
  (121, .arr 12 (.bool)),
  (5022023, .flag),
  (5022031, .flag)]

/-! ### w_szIntS -/
noncomputable def w_szIntS_c : Code := (Go.Proofs.Try.f52.body).getD .skip
noncomputable def w_szIntS_h : Nat → Option (List Hint)
  | _ => none
noncomputable def w_szIntS_fi : Fi := ⟨[.v (.slice (.int .i64)) false, .v (.int .i64) false], [(false, [⟨.int .i64, none⟩])], none, w_szIntS_c, Go.Proofs.Try.f52.results.toList, 12, w_szIntS_h⟩
/-! ### w_szIntSS -/
noncomputable def w_szIntSS_c : Code := (Go.Proofs.Try.f19.body).getD .skip
noncomputable def w_szIntSS_h : Nat → Option (List Hint)
  | 5 => some [.keep 0, .keep 1, .keep 5]
  | _ => none
noncomputable def w_szIntSS_fi : Fi := ⟨[.v (.slice (.slice (.int .i64))) false, .v (.int .i64) false], [(false, [⟨.int .i64, none⟩])], none, w_szIntSS_c, Go.Proofs.Try.f19.results.toList, 27, w_szIntSS_h⟩
/-! ### w_toIntS -/
noncomputable def w_toIntS_c : Code := (Go.Proofs.Try.f40.body).getD .skip
noncomputable def w_toIntS_h : Nat → Option (List Hint)
  | 3 => some [.keep 0, .cell 3 (.row 100003 (.int .i64) true false), .keep 4]
  | _ => none
noncomputable def w_toIntS_fi : Fi := ⟨[.v (.slice (.int .i64)) false], [(false, [⟨.slice (.int .i64), some (true, false)⟩])], none, w_toIntS_c, Go.Proofs.Try.f40.results.toList, 22, w_toIntS_h⟩
/-! ### w_toIntSS -/
noncomputable def w_toIntSS_c : Code := (Go.Proofs.Try.f21.body).getD .skip
noncomputable def w_toIntSS_h : Nat → Option (List Hint)
  | 3 => some [.keep 0, .cell 3 (.row 100003 (.slice (.int .i64)) true false), .keep 4]
  | _ => none
noncomputable def w_toIntSS_fi : Fi := ⟨[.v (.slice (.slice (.int .i64))) false], [(false, [⟨.slice (.slice (.int .i64)), some (true, false)⟩])], none, w_toIntSS_c, Go.Proofs.Try.f21.results.toList, 23, w_toIntSS_h⟩
/-! ### s_l01In -/
noncomputable def s_l01In_c : Code := (Go.Proofs.Try.f55.body).getD .skip
noncomputable def s_l01In_h : Nat → Option (List Hint)
  | _ => none
noncomputable def s_l01In_fi : Fi := ⟨[.v (.int .i64) false, .v (.int .i64) false, .v (.int .i64) false], [(false, [⟨.bool, none⟩])], none, s_l01In_c, Go.Proofs.Try.f55.results.toList, 15, s_l01In_h⟩
/-! ### s_CardOf -/
noncomputable def s_CardOf_c : Code := (Go.Proofs.Try.f122.body).getD .skip
noncomputable def s_CardOf_h : Nat → Option (List Hint)
  | _ => none
noncomputable def s_CardOf_fi : Fi := ⟨[.v (.int .i64) false], [(false, [⟨.int .i64, none⟩])], none, s_CardOf_c, Go.Proofs.Try.f122.results.toList, 10, s_CardOf_h⟩
/-! ### s_l02Has -/
noncomputable def s_l02Has_c : Code := (Go.Proofs.Try.f123.body).getD .skip
noncomputable def s_l02Has_h : Nat → Option (List Hint)
  | 2 => some [.keep 1, .keep 7, .keep 8, .keep 9]
  | _ => none
noncomputable def s_l02Has_fi : Fi := ⟨[.v (.slice (.int .i64)) false, .v (.int .i64) false], [(false, [⟨.bool, none⟩])], none, s_l02Has_c, Go.Proofs.Try.f123.results.toList, 17, s_l02Has_h⟩
/-! ### s_PacketOk -/
noncomputable def s_PacketOk_c : Code := (Go.Proofs.Try.f75.body).getD .skip
noncomputable def s_PacketOk_h : Nat → Option (List Hint)
  | 5 => some [.cell 3 (.row 100003 (.int .i64) true false), .keep 11, .keep 12, .keep 13]
  | _ => none
noncomputable def s_PacketOk_fi : Fi := ⟨[.v (.slice (.int .i64)) false], [(false, [⟨.bool, none⟩])], none, s_PacketOk_c, Go.Proofs.Try.f75.results.toList, 31, s_PacketOk_h⟩
/-! ### s_PositionOf -/
noncomputable def s_PositionOf_c : Code := (Go.Proofs.Try.f133.body).getD .skip
noncomputable def s_PositionOf_h : Nat → Option (List Hint)
  | 2 => some [.keep 1, .keep 7, .keep 8, .keep 9]
  | _ => none
noncomputable def s_PositionOf_fi : Fi := ⟨[.v (.slice (.int .i64)) false, .v (.int .i64) false], [(false, [⟨.int .i64, none⟩])], none, s_PositionOf_c, Go.Proofs.Try.f133.results.toList, 24, s_PositionOf_h⟩
/-! ### s_IsArrangement -/
noncomputable def s_IsArrangement_c : Code := (Go.Proofs.Try.f101.body).getD .skip
noncomputable def s_IsArrangement_h : Nat → Option (List Hint)
  | 4 => some [.keep 1, .keep 22, .keep 23, .keep 24]
  | _ => none
noncomputable def s_IsArrangement_fi : Fi := ⟨[.v (.slice (.int .i64)) false, .v (.slice (.int .i64)) false], [(false, [⟨.bool, none⟩])], none, s_IsArrangement_c, Go.Proofs.Try.f101.results.toList, 34, s_IsArrangement_h⟩
/-! ### s_l05Less -/
noncomputable def s_l05Less_c : Code := (Go.Proofs.Try.f102.body).getD .skip
noncomputable def s_l05Less_h : Nat → Option (List Hint)
  | 2 => some [.keep 0, .keep 1, .keep 7, .keep 8, .keep 9]
  | _ => none
noncomputable def s_l05Less_fi : Fi := ⟨[.v (.slice (.int .i64)) false, .v (.slice (.int .i64)) false], [(false, [⟨.bool, none⟩])], none, s_l05Less_c, Go.Proofs.Try.f102.results.toList, 36, s_l05Less_h⟩
/-! ### s_KnowOk -/
noncomputable def s_KnowOk_c : Code := (Go.Proofs.Try.f66.body).getD .skip
noncomputable def s_KnowOk_h : Nat → Option (List Hint)
  | 4 => some [.keep 0, .keep 16, .keep 17, .keep 18]
  | _ => none
noncomputable def s_KnowOk_fi : Fi := ⟨[.v (.slice (.slice (.int .i64))) false], [(false, [⟨.bool, none⟩])], none, s_KnowOk_c, Go.Proofs.Try.f66.results.toList, 44, s_KnowOk_h⟩
/-! ### s_l05Ok -/
noncomputable def s_l05Ok_c : Code := (Go.Proofs.Try.f120.body).getD .skip
noncomputable def s_l05Ok_h : Nat → Option (List Hint)
  | _ => none
noncomputable def s_l05Ok_fi : Fi := ⟨[.v (.slice (.int .i64)) false, .v (.int .i64) false], [(false, [⟨.bool, none⟩])], none, s_l05Ok_c, Go.Proofs.Try.f120.results.toList, 34, s_l05Ok_h⟩
/-! ### s_TurnCard -/
noncomputable def s_TurnCard_c : Code := (Go.Proofs.Try.f108.body).getD .skip
noncomputable def s_TurnCard_h : Nat → Option (List Hint)
  | _ => none
noncomputable def s_TurnCard_fi : Fi := ⟨[.v (.int .i64) false], [(false, [⟨.int .i64, none⟩])], none, s_TurnCard_c, Go.Proofs.Try.f108.results.toList, 9, s_TurnCard_h⟩
/-! ### s_l04Back -/
noncomputable def s_l04Back_c : Code := (Go.Proofs.Try.f103.body).getD .skip
noncomputable def s_l04Back_h : Nat → Option (List Hint)
  | 3 => some [.keep 0, .keep 1, .keep 2, .cell 7 (.row 100007 (.int .i64) true false), .keep 8]
  | _ => none
noncomputable def s_l04Back_fi : Fi := ⟨[.v (.slice (.int .i64)) false, .v (.int .i64) false, .v (.bool) false], [(false, [⟨.slice (.int .i64), some (true, false)⟩])], none, s_l04Back_c, Go.Proofs.Try.f103.results.toList, 37, s_l04Back_h⟩
/-! ### s_l04Faro -/
noncomputable def s_l04Faro_c : Code := (Go.Proofs.Try.f104.body).getD .skip
noncomputable def s_l04Faro_h : Nat → Option (List Hint)
  | 4 => some [.keep 1, .keep 5, .keep 6, .cell 7 (.row 100007 (.int .i64) true false)]
  | _ => none
noncomputable def s_l04Faro_fi : Fi := ⟨[.v (.slice (.int .i64)) false, .v (.int .i64) false], [(false, [⟨.slice (.int .i64), some (true, false)⟩])], none, s_l04Faro_c, Go.Proofs.Try.f104.results.toList, 59, s_l04Faro_h⟩
/-! ### s_l04Monge -/
noncomputable def s_l04Monge_c : Code := (Go.Proofs.Try.f105.body).getD .skip
noncomputable def s_l04Monge_h : Nat → Option (List Hint)
  | 3 => some [.keep 1, .cell 5 (.row 100005 (.int .i64) true false), .keep 9, .keep 10, .keep 11]
  | _ => none
noncomputable def s_l04Monge_fi : Fi := ⟨[.v (.slice (.int .i64)) false, .v (.int .i64) false], [(false, [⟨.slice (.int .i64), some (true, false)⟩])], none, s_l04Monge_c, Go.Proofs.Try.f105.results.toList, 34, s_l04Monge_h⟩
/-! ### s_l04Milk -/
noncomputable def s_l04Milk_c : Code := (Go.Proofs.Try.f106.body).getD .skip
noncomputable def s_l04Milk_h : Nat → Option (List Hint)
  | 2 => some [.keep 0, .cell 3 (.row 100003 (.int .i64) true false)]
  | _ => none
noncomputable def s_l04Milk_fi : Fi := ⟨[.v (.slice (.int .i64)) false], [(false, [⟨.slice (.int .i64), some (true, false)⟩])], none, s_l04Milk_c, Go.Proofs.Try.f106.results.toList, 30, s_l04Milk_h⟩
/-! ### s_l04Duck -/
noncomputable def s_l04Duck_c : Code := (Go.Proofs.Try.f107.body).getD .skip
noncomputable def s_l04Duck_h : Nat → Option (List Hint)
  | 4 => some [.cell 5 (.row 100005 (.int .i64) true false), .cell 6 (.row 100006 (.int .i64) true false), .keep 7]
  | _ => none
noncomputable def s_l04Duck_fi : Fi := ⟨[.v (.slice (.int .i64)) false, .v (.int .i64) false], [(false, [⟨.slice (.int .i64), some (true, false)⟩])], none, s_l04Duck_c, Go.Proofs.Try.f107.results.toList, 41, s_l04Duck_h⟩
/-! ### s_l04Do -/
noncomputable def s_l04Do_c : Code := (Go.Proofs.Try.f68.body).getD .skip
noncomputable def s_l04Do_h : Nat → Option (List Hint)
  | _ => none
noncomputable def s_l04Do_fi : Fi := ⟨[.v (.slice (.int .i64)) false, .v (.pair (.int .i64) (.int .i64)) true], [(false, [⟨.slice (.int .i64), some (true, false)⟩])], none, s_l04Do_c, Go.Proofs.Try.f68.results.toList, 90, s_l04Do_h⟩
/-! ### s_l05Cuts -/
noncomputable def s_l05Cuts_c : Code := (Go.Proofs.Try.f142.body).getD .skip
noncomputable def s_l05Cuts_h : Nat → Option (List Hint)
  | 3 => some [.keep 0, .cell 3 (.row 100003 (.slice (.int .i64)) true false), .keep 7, .keep 8]
  | _ => none
noncomputable def s_l05Cuts_fi : Fi := ⟨[.v (.slice (.int .i64)) false], [(false, [⟨.slice (.slice (.int .i64)), some (true, false)⟩])], none, s_l05Cuts_c, Go.Proofs.Try.f142.results.toList, 20, s_l05Cuts_h⟩
/-! ### s_l05Weave -/
noncomputable def s_l05Weave_c : Code := (Go.Proofs.Try.f143.body).getD .skip
noncomputable def s_l05Weave_h : Nat → Option (List Hint)
  | 999999 => some []
  | _ => none
noncomputable def s_l05Weave_fi : Fi := ⟨[.v (.slice (.slice (.int .i64))) false, .v (.slice (.int .i64)) false, .v (.slice (.int .i64)) false, .v (.slice (.int .i64)) false], [(false, [⟨.slice (.slice (.int .i64)), some (false, false)⟩])], none, s_l05Weave_c, Go.Proofs.Try.f143.results.toList, 54, s_l05Weave_h⟩
/-! ### s_l05Of -/
noncomputable def s_l05Of_c : Code := (Go.Proofs.Try.f121.body).getD .skip
noncomputable def s_l05Of_h : Nat → Option (List Hint)
  | 7 => some [.keep 0, .cell 5 (.row 100005 (.slice (.int .i64)) false false), .keep 6]
  | 15 => some [.keep 0, .cell 5 (.row 100005 (.slice (.int .i64)) true false), .keep 40, .keep 41, .keep 42]
  | _ => none
noncomputable def s_l05Of_fi : Fi := ⟨[.v (.slice (.int .i64)) false, .v (.int .i64) false], [(false, [⟨.slice (.slice (.int .i64)), some (false, false)⟩])], none, s_l05Of_c, Go.Proofs.Try.f121.results.toList, 69, s_l05Of_h⟩
/-! ### s_SamePacket -/
noncomputable def s_SamePacket_c : Code := (Go.Proofs.Try.f137.body).getD .skip
noncomputable def s_SamePacket_h : Nat → Option (List Hint)
  | 4 => some [.keep 1, .keep 12, .keep 13, .keep 14]
  | _ => none
noncomputable def s_SamePacket_fi : Fi := ⟨[.v (.slice (.int .i64)) false, .v (.slice (.int .i64)) false], [(false, [⟨.bool, none⟩])], none, s_SamePacket_c, Go.Proofs.Try.f137.results.toList, 26, s_SamePacket_h⟩
/-! ### s_l05Merge -/
noncomputable def s_l05Merge_c : Code := (Go.Proofs.Try.f109.body).getD .skip
noncomputable def s_l05Merge_h : Nat → Option (List Hint)
  | 2 => some [.keep 0, .keep 1, .cell 5 (.row 450005 (.slice (.int .i64)) true false)]
  | _ => none
noncomputable def s_l05Merge_fi : Fi := ⟨[.v (.slice (.slice (.int .i64))) false, .v (.slice (.slice (.int .i64))) false], [(false, [⟨.slice (.slice (.int .i64)), some (true, false)⟩])], none, s_l05Merge_c, Go.Proofs.Try.f109.results.toList, 66, s_l05Merge_h⟩
/-! ### s_SortPackets -/
noncomputable def s_SortPackets_c : Code := (Go.Proofs.Try.f69.body).getD .skip
noncomputable def s_SortPackets_h : Nat → Option (List Hint)
  | _ => none
noncomputable def s_SortPackets_fi : Fi := ⟨[.v (.slice (.slice (.int .i64))) false], [(false, [⟨.slice (.slice (.int .i64)), some (true, false)⟩])], none, s_SortPackets_c, Go.Proofs.Try.f69.results.toList, 21, s_SortPackets_h⟩
/-! ### s_ResultsAfter -/
noncomputable def s_ResultsAfter_c : Code := (Go.Proofs.Try.f73.body).getD .skip
noncomputable def s_ResultsAfter_h : Nat → Option (List Hint)
  | 3 => some [.keep 1, .cell 6 (.row 100006 (.slice (.int .i64)) true false), .keep 10, .keep 11, .keep 12]
  | _ => none
noncomputable def s_ResultsAfter_fi : Fi := ⟨[.v (.slice (.slice (.int .i64))) false, .v (.int .i64) false], [(false, [⟨.slice (.slice (.int .i64)), some (true, false)⟩]), (false, [⟨.bool, none⟩])], none, s_ResultsAfter_c, Go.Proofs.Try.f73.results.toList, 31, s_ResultsAfter_h⟩
/-! ### s_AfterChoice -/
noncomputable def s_AfterChoice_c : Code := (Go.Proofs.Try.f27.body).getD .skip
noncomputable def s_AfterChoice_h : Nat → Option (List Hint)
  | _ => none
noncomputable def s_AfterChoice_fi : Fi := ⟨[.v (.slice (.slice (.int .i64))) false, .v (.int .i64) false], [(false, [⟨.slice (.slice (.int .i64)), some (true, false)⟩]), (false, [⟨.bool, none⟩])], none, s_AfterChoice_c, Go.Proofs.Try.f27.results.toList, 14, s_AfterChoice_h⟩
/-! ### i_CardOf -/
noncomputable def i_CardOf_c : Code := (Go.Proofs.Try.f81.body).getD .skip
noncomputable def i_CardOf_h : Nat → Option (List Hint)
  | _ => none
noncomputable def i_CardOf_fi : Fi := ⟨[.v (.int .i64) false], [(false, [⟨.int .i64, none⟩])], none, i_CardOf_c, Go.Proofs.Try.f81.results.toList, 10, i_CardOf_h⟩
/-! ### i_PacketOk -/
noncomputable def i_PacketOk_c : Code := (Go.Proofs.Try.f78.body).getD .skip
noncomputable def i_PacketOk_h : Nat → Option (List Hint)
  | 3 => some [.arr 3 400003, .keep 7, .keep 8, .keep 9]
  | _ => none
noncomputable def i_PacketOk_fi : Fi := ⟨[.v (.slice (.int .i64)) false], [(false, [⟨.bool, none⟩])], none, i_PacketOk_c, Go.Proofs.Try.f78.results.toList, 25, i_PacketOk_h⟩
/-! ### i_PositionOf_1 -/
noncomputable def i_PositionOf_1_c : Code := (Go.Proofs.Try.f135.body).getD .skip
noncomputable def i_PositionOf_1_h : Nat → Option (List Hint)
  | _ => none
noncomputable def i_PositionOf_1_fi : Fi := ⟨[.v (.int .i64) false, .r (.int .i64)], [(false, [⟨.bool, none⟩])], none, i_PositionOf_1_c, Go.Proofs.Try.f135.results.toList, 8, i_PositionOf_1_h⟩
/-! ### slices_IndexFunc_int_of_i_PositionOf_1 -/
noncomputable def slices_IndexFunc_int_of_i_PositionOf_1_c : Code := (Go.Proofs.Try.f134.body).getD .skip
noncomputable def slices_IndexFunc_int_of_i_PositionOf_1_h : Nat → Option (List Hint)
  | 2 => some [.keep 0, .keep 1, .keep 7, .keep 8]
  | _ => none
noncomputable def slices_IndexFunc_int_of_i_PositionOf_1_fi : Fi := ⟨[.v (.slice (.int .i64)) false, .fn 135 [.int .i64]], [(false, [⟨.int .i64, none⟩])], none, slices_IndexFunc_int_of_i_PositionOf_1_c, Go.Proofs.Try.f134.results.toList, 19, slices_IndexFunc_int_of_i_PositionOf_1_h⟩
/-! ### i_PositionOf -/
noncomputable def i_PositionOf_c : Code := (Go.Proofs.Try.f98.body).getD .skip
noncomputable def i_PositionOf_h : Nat → Option (List Hint)
  | _ => none
noncomputable def i_PositionOf_fi : Fi := ⟨[.v (.slice (.int .i64)) false, .v (.int .i64) false], [(false, [⟨.int .i64, none⟩])], none, i_PositionOf_c, Go.Proofs.Try.f98.results.toList, 10, i_PositionOf_h⟩
/-! ### i_IsArrangement_1 -/
noncomputable def i_IsArrangement_1_c : Code := (Go.Proofs.Try.f130.body).getD .skip
noncomputable def i_IsArrangement_1_h : Nat → Option (List Hint)
  | _ => none
noncomputable def i_IsArrangement_1_fi : Fi := ⟨[.v (.int .i64) false, .r (.slice (.int .i64))], [(false, [⟨.bool, none⟩])], none, i_IsArrangement_1_c, Go.Proofs.Try.f130.results.toList, 9, i_IsArrangement_1_h⟩
/-! ### slices_IndexFunc_int_of_i_IsArrangement_1 -/
noncomputable def slices_IndexFunc_int_of_i_IsArrangement_1_c : Code := (Go.Proofs.Try.f134.body).getD .skip
noncomputable def slices_IndexFunc_int_of_i_IsArrangement_1_h : Nat → Option (List Hint)
  | 2 => some [.keep 0, .keep 1, .keep 7, .keep 8]
  | _ => none
noncomputable def slices_IndexFunc_int_of_i_IsArrangement_1_fi : Fi := ⟨[.v (.slice (.int .i64)) false, .fn 130 [.slice (.int .i64)]], [(false, [⟨.int .i64, none⟩])], none, slices_IndexFunc_int_of_i_IsArrangement_1_c, Go.Proofs.Try.f134.results.toList, 19, slices_IndexFunc_int_of_i_IsArrangement_1_h⟩
/-! ### slices_ContainsFunc_int_of_i_IsArrangement_1 -/
noncomputable def slices_ContainsFunc_int_of_i_IsArrangement_1_c : Code := (Go.Proofs.Try.f129.body).getD .skip
noncomputable def slices_ContainsFunc_int_of_i_IsArrangement_1_h : Nat → Option (List Hint)
  | _ => none
noncomputable def slices_ContainsFunc_int_of_i_IsArrangement_1_fi : Fi := ⟨[.v (.slice (.int .i64)) false, .fn 130 [.slice (.int .i64)]], [(false, [⟨.bool, none⟩])], none, slices_ContainsFunc_int_of_i_IsArrangement_1_c, Go.Proofs.Try.f129.results.toList, 9, slices_ContainsFunc_int_of_i_IsArrangement_1_h⟩
/-! ### i_IsArrangement -/
noncomputable def i_IsArrangement_c : Code := (Go.Proofs.Try.f91.body).getD .skip
noncomputable def i_IsArrangement_h : Nat → Option (List Hint)
  | _ => none
noncomputable def i_IsArrangement_fi : Fi := ⟨[.v (.slice (.int .i64)) false, .v (.slice (.int .i64)) false], [(false, [⟨.bool, none⟩])], none, i_IsArrangement_c, Go.Proofs.Try.f91.results.toList, 24, i_IsArrangement_h⟩
/-! ### cmp_isNaN_int -/
noncomputable def cmp_isNaN_int_c : Code := (Go.Proofs.Try.f148.body).getD .skip
noncomputable def cmp_isNaN_int_h : Nat → Option (List Hint)
  | _ => none
noncomputable def cmp_isNaN_int_fi : Fi := ⟨[.v (.int .i64) false], [(false, [⟨.bool, none⟩])], none, cmp_isNaN_int_c, Go.Proofs.Try.f148.results.toList, 6, cmp_isNaN_int_h⟩
/-! ### cmp_Compare_int -/
noncomputable def cmp_Compare_int_c : Code := (Go.Proofs.Try.f131.body).getD .skip
noncomputable def cmp_Compare_int_h : Nat → Option (List Hint)
  | _ => none
noncomputable def cmp_Compare_int_fi : Fi := ⟨[.v (.int .i64) false, .v (.int .i64) false], [(false, [⟨.int .i64, none⟩])], none, cmp_Compare_int_c, Go.Proofs.Try.f131.results.toList, 20, cmp_Compare_int_h⟩
/-! ### slices_Compare_int -/
noncomputable def slices_Compare_int_c : Code := (Go.Proofs.Try.f92.body).getD .skip
noncomputable def slices_Compare_int_h : Nat → Option (List Hint)
  | 2 => some [.keep 0, .keep 1, .keep 9, .keep 10, .keep 11]
  | _ => none
noncomputable def slices_Compare_int_fi : Fi := ⟨[.v (.slice (.int .i64)) false, .v (.slice (.int .i64)) false], [(false, [⟨.int .i64, none⟩])], none, slices_Compare_int_c, Go.Proofs.Try.f92.results.toList, 36, slices_Compare_int_h⟩
/-! ### i_KnowOk -/
noncomputable def i_KnowOk_c : Code := (Go.Proofs.Try.f47.body).getD .skip
noncomputable def i_KnowOk_h : Nat → Option (List Hint)
  | 4 => some [.keep 0, .keep 20, .keep 21, .keep 22]
  | _ => none
noncomputable def i_KnowOk_fi : Fi := ⟨[.v (.slice (.slice (.int .i64))) false], [(false, [⟨.bool, none⟩])], none, i_KnowOk_c, Go.Proofs.Try.f47.results.toList, 48, i_KnowOk_h⟩
/-! ### slices_Clone_int -/
noncomputable def slices_Clone_int_c : Code := (Go.Proofs.Try.f80.body).getD .skip
noncomputable def slices_Clone_int_h : Nat → Option (List Hint)
  | _ => none
noncomputable def slices_Clone_int_fi : Fi := ⟨[.v (.slice (.int .i64)) false], [(false, [⟨.slice (.int .i64), some (true, false)⟩])], none, slices_Clone_int_c, Go.Proofs.Try.f80.results.toList, 8, slices_Clone_int_h⟩
/-! ### slices_Grow_int -/
noncomputable abbrev slices_Grow_int_fi : Fi := growFi
/-! ### slices_Concat_int -/
noncomputable def slices_Concat_int_c : Code := (Go.Proofs.Try.f110.body).getD .skip
noncomputable def slices_Concat_int_h : Nat → Option (List Hint)
  | 3 => some [.keep 0, .keep 3, .keep 9, .keep 10, .keep 11]
  | 11 => some [.cell 6 (.row 100006 (.int .i64) true false), .keep 25, .keep 26, .keep 27]
  | _ => none
noncomputable def slices_Concat_int_fi : Fi := ⟨[.v (.slice (.slice (.int .i64))) false], [(false, [⟨.slice (.int .i64), some (true, false)⟩])], none, slices_Concat_int_c, Go.Proofs.Try.f110.results.toList, 36, slices_Concat_int_h⟩
/-! ### slices_Reverse_int -/
noncomputable abbrev slices_Reverse_int_fi : Fi := reverseFi
/-! ### i_reversed -/
noncomputable def i_reversed_c : Code := (Go.Proofs.Try.f111.body).getD .skip
noncomputable def i_reversed_h : Nat → Option (List Hint)
  | _ => none
noncomputable def i_reversed_fi : Fi := ⟨[.v (.slice (.int .i64)) false], [(false, [⟨.slice (.int .i64), some (true, false)⟩])], none, i_reversed_c, Go.Proofs.Try.f111.results.toList, 9, i_reversed_h⟩
/-! ### i_faro -/
noncomputable def i_faro_c : Code := (Go.Proofs.Try.f113.body).getD .skip
noncomputable def i_faro_h : Nat → Option (List Hint)
  | 4 => some [.keep 5, .keep 6, .cell 7 (.row 100007 (.int .i64) true true), .keep 8]
  | _ => none
noncomputable def i_faro_fi : Fi := ⟨[.v (.slice (.int .i64)) false, .v (.int .i64) false], [(false, [⟨.slice (.int .i64), some (true, true)⟩])], none, i_faro_c, Go.Proofs.Try.f113.results.toList, 59, i_faro_h⟩
/-! ### i_monge -/
noncomputable def i_monge_c : Code := (Go.Proofs.Try.f114.body).getD .skip
noncomputable def i_monge_h : Nat → Option (List Hint)
  | 3 => some [.keep 1, .cell 5 (.row 100005 (.int .i64) true false), .keep 8, .keep 9, .keep 10]
  | _ => none
noncomputable def i_monge_fi : Fi := ⟨[.v (.slice (.int .i64)) false, .v (.int .i64) false], [(false, [⟨.slice (.int .i64), some (true, false)⟩])], none, i_monge_c, Go.Proofs.Try.f114.results.toList, 34, i_monge_h⟩
/-! ### i_milk -/
noncomputable def i_milk_c : Code := (Go.Proofs.Try.f115.body).getD .skip
noncomputable def i_milk_h : Nat → Option (List Hint)
  | 2 => some [.keep 0, .cell 3 (.row 100003 (.int .i64) true false)]
  | _ => none
noncomputable def i_milk_fi : Fi := ⟨[.v (.slice (.int .i64)) false], [(false, [⟨.slice (.int .i64), some (true, false)⟩])], none, i_milk_c, Go.Proofs.Try.f115.results.toList, 28, i_milk_h⟩
/-! ### i_dealt -/
noncomputable def i_dealt_c : Code := (Go.Proofs.Try.f116.body).getD .skip
noncomputable def i_dealt_h : Nat → Option (List Hint)
  | 4 => some [.cell 5 (.row 100005 (.int .i64) true true), .cell 6 (.row 100006 (.int .i64) true false), .keep 7]
  | _ => none
noncomputable def i_dealt_fi : Fi := ⟨[.v (.slice (.int .i64)) false, .v (.int .i64) false], [(false, [⟨.slice (.int .i64), some (true, true)⟩])], none, i_dealt_c, Go.Proofs.Try.f116.results.toList, 35, i_dealt_h⟩
/-! ### i_TurnCard -/
noncomputable def i_TurnCard_c : Code := (Go.Proofs.Try.f112.body).getD .skip
noncomputable def i_TurnCard_h : Nat → Option (List Hint)
  | _ => none
noncomputable def i_TurnCard_fi : Fi := ⟨[.v (.int .i64) false], [(false, [⟨.int .i64, none⟩])], none, i_TurnCard_c, Go.Proofs.Try.f112.results.toList, 9, i_TurnCard_h⟩
/-! ### i_moved -/
noncomputable def i_moved_c : Code := (Go.Proofs.Try.f71.body).getD .skip
noncomputable def i_moved_h : Nat → Option (List Hint)
  | 10 => some [.keep 5, .cell 6 (.row 100006 (.int .i64) true false), .keep 7]
  | _ => none
noncomputable def i_moved_fi : Fi := ⟨[.v (.slice (.int .i64)) false, .v (.pair (.int .i64) (.int .i64)) true], [(false, [⟨.slice (.int .i64), some (true, false)⟩])], none, i_moved_c, Go.Proofs.Try.f71.results.toList, 106, i_moved_h⟩
/-! ### i_cuts -/
noncomputable def i_cuts_c : Code := (Go.Proofs.Try.f144.body).getD .skip
noncomputable def i_cuts_h : Nat → Option (List Hint)
  | 3 => some [.keep 0, .cell 3 (.row 100003 (.slice (.int .i64)) true true), .keep 6, .keep 7]
  | _ => none
noncomputable def i_cuts_fi : Fi := ⟨[.v (.slice (.int .i64)) false], [(false, [⟨.slice (.slice (.int .i64)), some (true, true)⟩])], none, i_cuts_c, Go.Proofs.Try.f144.results.toList, 19, i_cuts_h⟩
/-! ### i_riffled -/
noncomputable def i_riffled_c : Code := (Go.Proofs.Try.f145.body).getD .skip
noncomputable def i_riffled_h : Nat → Option (List Hint)
  | 3 => some [.keep 0, .keep 1, .keep 5, .keep 6, .keep 11, .keep 12]
  | 9 => some [.keep 0, .keep 1, .keep 5, .keep 6, .cell 8 (.row 100008 (.int .i64) true true), .keep 24, .keep 25]
  | _ => none
noncomputable def i_riffled_fi : Fi := ⟨[.v (.slice (.int .i64)) false, .v (.int .i64) false], [(false, [⟨.slice (.int .i64), some (true, true)⟩])], none, i_riffled_c, Go.Proofs.Try.f145.results.toList, 53, i_riffled_h⟩
/-! ### i_all -/
noncomputable def i_all_c : Code := (Go.Proofs.Try.f125.body).getD .skip
noncomputable def i_all_h : Nat → Option (List Hint)
  | 9 => some [.keep 0, .cell 6 (.row 100006 (.slice (.int .i64)) true true), .keep 7]
  | 20 => some [.keep 0, .cell 8 (.row 100008 (.slice (.int .i64)) true true), .keep 48, .keep 49]
  | _ => none
noncomputable def i_all_fi : Fi := ⟨[.v (.slice (.int .i64)) false, .v (.int .i64) false], [(false, [⟨.slice (.slice (.int .i64)), some (true, false)⟩]), (false, [⟨.bool, none⟩])], none, i_all_c, Go.Proofs.Try.f125.results.toList, 71, i_all_h⟩
/-! ### slices_SortFunc_int_int -/
noncomputable abbrev slices_SortFunc_int_int_fi : Fi := (sortFi 92)
/-! ### slices_CompactFunc_int_int -/
noncomputable abbrev slices_CompactFunc_int_int_fi : Fi := compactFi
/-! ### i_SortPackets -/
noncomputable def i_SortPackets_c : Code := (Go.Proofs.Try.f72.body).getD .skip
noncomputable def i_SortPackets_h : Nat → Option (List Hint)
  | 3 => some [.cell 3 (.row 100003 (.slice (.int .i64)) true true), .keep 6, .keep 7, .keep 8]
  | _ => none
noncomputable def i_SortPackets_fi : Fi := ⟨[.v (.slice (.slice (.int .i64))) false], [(false, [⟨.slice (.slice (.int .i64)), some (true, false)⟩])], none, i_SortPackets_c, Go.Proofs.Try.f72.results.toList, 22, i_SortPackets_h⟩
/-! ### i_ResultsOf -/
noncomputable def i_ResultsOf_c : Code := (Go.Proofs.Try.f82.body).getD .skip
noncomputable def i_ResultsOf_h : Nat → Option (List Hint)
  | _ => none
noncomputable def i_ResultsOf_fi : Fi := ⟨[.v (.slice (.int .i64)) false, .v (.int .i64) false], [(false, [⟨.slice (.slice (.int .i64)), some (true, false)⟩]), (false, [⟨.bool, none⟩])], none, i_ResultsOf_c, Go.Proofs.Try.f82.results.toList, 33, i_ResultsOf_h⟩
/-! ### i_ResultsAfter -/
noncomputable def i_ResultsAfter_c : Code := (Go.Proofs.Try.f74.body).getD .skip
noncomputable def i_ResultsAfter_h : Nat → Option (List Hint)
  | 3 => some [.keep 1, .cell 6 (.row 100006 (.slice (.int .i64)) true false), .keep 11, .keep 12, .keep 13]
  | _ => none
noncomputable def i_ResultsAfter_fi : Fi := ⟨[.v (.slice (.slice (.int .i64))) false, .v (.int .i64) false], [(false, [⟨.slice (.slice (.int .i64)), some (true, false)⟩]), (false, [⟨.bool, none⟩])], none, i_ResultsAfter_c, Go.Proofs.Try.f74.results.toList, 40, i_ResultsAfter_h⟩
/-! ### i_AfterChoice -/
noncomputable def i_AfterChoice_c : Code := (Go.Proofs.Try.f28.body).getD .skip
noncomputable def i_AfterChoice_h : Nat → Option (List Hint)
  | _ => none
noncomputable def i_AfterChoice_fi : Fi := ⟨[.v (.slice (.slice (.int .i64))) false, .v (.int .i64) false], [(false, [⟨.slice (.slice (.int .i64)), some (true, false)⟩]), (false, [⟨.bool, none⟩])], none, i_AfterChoice_c, Go.Proofs.Try.f28.results.toList, 14, i_AfterChoice_h⟩
/-! ### w_eqIntS -/
noncomputable def w_eqIntS_c : Code := (Go.Proofs.Try.f42.body).getD .skip
noncomputable def w_eqIntS_h : Nat → Option (List Hint)
  | 4 => some [.keep 0, .keep 1, .keep 5]
  | _ => none
noncomputable def w_eqIntS_fi : Fi := ⟨[.v (.slice (.int .i64)) false, .v (.slice (.int .i64)) false], [(false, [⟨.bool, none⟩])], none, w_eqIntS_c, Go.Proofs.Try.f42.results.toList, 26, w_eqIntS_h⟩
/-! ### w_eqIntSS -/
noncomputable def w_eqIntSS_c : Code := (Go.Proofs.Try.f24.body).getD .skip
noncomputable def w_eqIntSS_h : Nat → Option (List Hint)
  | 4 => some [.keep 0, .keep 1, .keep 5]
  | _ => none
noncomputable def w_eqIntSS_fi : Fi := ⟨[.v (.slice (.slice (.int .i64))) false, .v (.slice (.slice (.int .i64))) false], [(false, [⟨.bool, none⟩])], none, w_eqIntSS_c, Go.Proofs.Try.f24.results.toList, 27, w_eqIntSS_h⟩
/-! ### w_markIntS -/
noncomputable def w_markIntS_c : Code := (Go.Proofs.Try.f43.body).getD .skip
noncomputable def w_markIntS_h : Nat → Option (List Hint)
  | 2 => some [.cell 0 (.row 500000 (.int .i64) true false), .keep 1, .keep 5]
  | _ => none
noncomputable def w_markIntS_fi : Fi := ⟨[.o [.o (.int .i64) true] false, .v (.int .i64) false], [(false, [⟨.int .i64, none⟩])], none, w_markIntS_c, Go.Proofs.Try.f43.results.toList, 19, w_markIntS_h⟩
/-! ### w_markIntSS -/
noncomputable def w_markIntSS_c : Code := (Go.Proofs.Try.f25.body).getD .skip
noncomputable def w_markIntSS_h : Nat → Option (List Hint)
  | 2 => some [.cell 0 (.row 500000 (.slice (.int .i64)) true false), .keep 1, .keep 5]
  | _ => none
noncomputable def w_markIntSS_fi : Fi := ⟨[.o [.o (.slice (.int .i64)) true] false, .v (.int .i64) false], [(false, [⟨.int .i64, none⟩])], none, w_markIntSS_c, Go.Proofs.Try.f25.results.toList, 19, w_markIntSS_h⟩
/-! ### w_heldIntS -/
noncomputable def w_heldIntS_c : Code := (Go.Proofs.Try.f63.body).getD .skip
noncomputable def w_heldIntS_h : Nat → Option (List Hint)
  | 2 => some [.keep 0, .keep 1, .keep 5]
  | _ => none
noncomputable def w_heldIntS_fi : Fi := ⟨[.v (.slice (.int .i64)) false, .v (.int .i64) false], [(false, [⟨.int .i64, none⟩])], none, w_heldIntS_c, Go.Proofs.Try.f63.results.toList, 21, w_heldIntS_h⟩
/-! ### w_heldIntSS -/
noncomputable def w_heldIntSS_c : Code := (Go.Proofs.Try.f26.body).getD .skip
noncomputable def w_heldIntSS_h : Nat → Option (List Hint)
  | 2 => some [.keep 0, .keep 1, .keep 5]
  | _ => none
noncomputable def w_heldIntSS_fi : Fi := ⟨[.v (.slice (.slice (.int .i64))) false, .v (.int .i64) false], [(false, [⟨.int .i64, none⟩])], none, w_heldIntSS_c, Go.Proofs.Try.f26.results.toList, 21, w_heldIntSS_h⟩
/-! ### w_FnExactAfterChoice -/
noncomputable def w_FnExactAfterChoice_c : Code := (Go.Proofs.Try.f6.body).getD .skip
noncomputable def w_FnExactAfterChoice_h : Nat → Option (List Hint)
  | _ => none
noncomputable def w_FnExactAfterChoice_fi : Fi := ⟨[.v (.slice (.slice (.int .i64))) false, .v (.int .i64) false], [(false, [⟨.bool, none⟩])], none, w_FnExactAfterChoice_c, Go.Proofs.Try.f6.results.toList, 101, w_FnExactAfterChoice_h⟩

noncomputable def fnL : List (Nat × List Nat × Fi) := [(52, [], w_szIntS_fi),
  (19, [], w_szIntSS_fi),
  (40, [], w_toIntS_fi),
  (21, [], w_toIntSS_fi),
  (55, [], s_l01In_fi),
  (122, [], s_CardOf_fi),
  (123, [], s_l02Has_fi),
  (75, [], s_PacketOk_fi),
  (133, [], s_PositionOf_fi),
  (101, [], s_IsArrangement_fi),
  (102, [], s_l05Less_fi),
  (66, [], s_KnowOk_fi),
  (120, [], s_l05Ok_fi),
  (108, [], s_TurnCard_fi),
  (103, [], s_l04Back_fi),
  (104, [], s_l04Faro_fi),
  (105, [], s_l04Monge_fi),
  (106, [], s_l04Milk_fi),
  (107, [], s_l04Duck_fi),
  (68, [], s_l04Do_fi),
  (142, [], s_l05Cuts_fi),
  (143, [], s_l05Weave_fi),
  (121, [], s_l05Of_fi),
  (137, [], s_SamePacket_fi),
  (109, [], s_l05Merge_fi),
  (69, [], s_SortPackets_fi),
  (73, [], s_ResultsAfter_fi),
  (27, [], s_AfterChoice_fi),
  (81, [], i_CardOf_fi),
  (78, [], i_PacketOk_fi),
  (135, [], i_PositionOf_1_fi),
  (134, [135], slices_IndexFunc_int_of_i_PositionOf_1_fi),
  (98, [], i_PositionOf_fi),
  (130, [], i_IsArrangement_1_fi),
  (134, [130], slices_IndexFunc_int_of_i_IsArrangement_1_fi),
  (129, [130], slices_ContainsFunc_int_of_i_IsArrangement_1_fi),
  (91, [], i_IsArrangement_fi),
  (148, [], cmp_isNaN_int_fi),
  (131, [], cmp_Compare_int_fi),
  (92, [], slices_Compare_int_fi),
  (47, [], i_KnowOk_fi),
  (80, [], slices_Clone_int_fi),
  (138, [], slices_Grow_int_fi),
  (110, [], slices_Concat_int_fi),
  (139, [], slices_Reverse_int_fi),
  (111, [], i_reversed_fi),
  (113, [], i_faro_fi),
  (114, [], i_monge_fi),
  (115, [], i_milk_fi),
  (116, [], i_dealt_fi),
  (112, [], i_TurnCard_fi),
  (71, [], i_moved_fi),
  (144, [], i_cuts_fi),
  (145, [], i_riffled_fi),
  (125, [], i_all_fi),
  (117, [92], slices_SortFunc_int_int_fi),
  (118, [119], slices_CompactFunc_int_int_fi),
  (72, [], i_SortPackets_fi),
  (82, [], i_ResultsOf_fi),
  (74, [], i_ResultsAfter_fi),
  (28, [], i_AfterChoice_fi),
  (42, [], w_eqIntS_fi),
  (24, [], w_eqIntSS_fi),
  (43, [], w_markIntS_fi),
  (25, [], w_markIntSS_fi),
  (63, [], w_heldIntS_fi),
  (26, [], w_heldIntSS_fi),
  (6, [], w_FnExactAfterChoice_fi)]
noncomputable def E : Env := ⟨lookT tyL, lookF fnL⟩

noncomputable def w_szIntS (k : Nat) (x : (List Int) × Int) : Option (Int) := aFn E w_szIntS_fi k x
noncomputable def w_szIntSS (k : Nat) (x : (List (List Int)) × Int) : Option (Int) := aFn E w_szIntSS_fi k x
noncomputable def w_szIntSS_l5 (k : Nat) (v0 : List (List Int)) (v1 : Int) (v5 : Int) : Option (Int) := aRun E k w_szIntSS_fi.rs (ioOf w_szIntSS_fi.ps) w_szIntSS_fi.res w_szIntSS_fi.hints [.code (sub w_szIntSS_c [1, 1, 1, 0, 1, 0, 0, 0, 0]), .code (sub w_szIntSS_c [1, 1, 1, 0, 1, 0, 0, 0, 1]), .code (sub w_szIntSS_c [1, 1, 1, 0, 1, 0, 0, 1]), .inLoop (sub w_szIntSS_c [1, 1, 1, 0, 1, 0, 0]), .inBlock 0, .code (sub w_szIntSS_c [1, 1, 1, 1])] ⟨[.cv (.val (.slice (.slice (.int .i64))) v0), .cv (.val (.int .i64) v1), .cv .dead, .cv .dead, .cv .dead, .cv (.val (.int .i64) v5), .cv .dead, .cv .dead, .cv .dead, .cv .dead, .cv .dead, .cv .dead, .cv .dead, .cv .dead, .cv .dead, .cv .dead, .cv .dead, .cv .dead, .cv .dead, .cv .dead, .cv .dead, .cv .dead, .cv .dead, .cv .dead, .cv .dead, .cv .dead, .cv .dead], [], true⟩
noncomputable def w_toIntS (k : Nat) (x : List Int) : Option (List Int) := aFn E w_toIntS_fi k x
noncomputable def w_toIntS_l3 (k : Nat) (v0 : List Int) (v4 : Int) (o100003 : List Int) : Option (List Int) := aRun E k w_toIntS_fi.rs (ioOf w_toIntS_fi.ps) w_toIntS_fi.res w_toIntS_fi.hints [.code (sub w_toIntS_c [1, 1, 0, 1, 0, 0, 0, 0]), .code (sub w_toIntS_c [1, 1, 0, 1, 0, 0, 0, 1]), .code (sub w_toIntS_c [1, 1, 0, 1, 0, 0, 1]), .inLoop (sub w_toIntS_c [1, 1, 0, 1, 0, 0]), .inBlock 0, .code (sub w_toIntS_c [1, 1, 1])] ⟨[.cv (.val (.slice (.int .i64)) v0), .cv .dead, .cv .dead, .cv (.own 100003), .cv (.val (.int .i64) v4), .cv .dead, .cv .dead, .cv .dead, .cv .dead, .cv .dead, .cv .dead, .cv .dead, .cv .dead, .cv .dead, .cv .dead, .cv .dead, .cv .dead, .cv .dead, .cv .dead, .cv .dead, .cv .dead, .cv .dead], [(100003, .row (.int .i64) o100003 true false)], true⟩
noncomputable def w_toIntSS (k : Nat) (x : List (List Int)) : Option (List (List Int)) := aFn E w_toIntSS_fi k x
noncomputable def w_toIntSS_l3 (k : Nat) (v0 : List (List Int)) (v4 : Int) (o100003 : List (List Int)) : Option (List (List Int)) := aRun E k w_toIntSS_fi.rs (ioOf w_toIntSS_fi.ps) w_toIntSS_fi.res w_toIntSS_fi.hints [.code (sub w_toIntSS_c [1, 1, 0, 1, 0, 0, 0, 0]), .code (sub w_toIntSS_c [1, 1, 0, 1, 0, 0, 0, 1]), .code (sub w_toIntSS_c [1, 1, 0, 1, 0, 0, 1]), .inLoop (sub w_toIntSS_c [1, 1, 0, 1, 0, 0]), .inBlock 0, .code (sub w_toIntSS_c [1, 1, 1])] ⟨[.cv (.val (.slice (.slice (.int .i64))) v0), .cv .dead, .cv .dead, .cv (.own 100003), .cv (.val (.int .i64) v4), .cv .dead, .cv .dead, .cv .dead, .cv .dead, .cv .dead, .cv .dead, .cv .dead, .cv .dead, .cv .dead, .cv .dead, .cv .dead, .cv .dead, .cv .dead, .cv .dead, .cv .dead, .cv .dead, .cv .dead, .cv .dead], [(100003, .row (.slice (.int .i64)) o100003 true false)], true⟩
noncomputable def s_l01In (k : Nat) (x : Int × Int × Int) : Option (Bool) := aFn E s_l01In_fi k x
noncomputable def s_CardOf (k : Nat) (x : Int) : Option (Int) := aFn E s_CardOf_fi k x
noncomputable def s_l02Has (k : Nat) (x : (List Int) × Int) : Option (Bool) := aFn E s_l02Has_fi k x
noncomputable def s_l02Has_l2 (k : Nat) (v1 : Int) (v7 : List Int) (v8 : Int) (v9 : Int) : Option (Bool) := aRun E k s_l02Has_fi.rs (ioOf s_l02Has_fi.ps) s_l02Has_fi.res s_l02Has_fi.hints [.code (sub s_l02Has_c [1, 0, 1, 0, 0, 0]), .code (sub s_l02Has_c [1, 0, 1, 0, 0, 1]), .inLoop (sub s_l02Has_c [1, 0, 1, 0, 0]), .inBlock 0, .code (sub s_l02Has_c [1, 1])] ⟨[.cv .dead, .cv (.val (.int .i64) v1), .cv .dead, .cv .dead, .cv .dead, .cv .dead, .cv .dead, .cv (.val (.slice (.int .i64)) v7), .cv (.val (.int .i64) v8), .cv (.val (.int .i64) v9), .cv .dead, .cv .dead, .cv .dead, .cv .dead, .cv .dead, .cv .dead, .cv .dead], [], true⟩
noncomputable def s_PacketOk (k : Nat) (x : List Int) : Option (Bool) := aFn E s_PacketOk_fi k x
noncomputable def s_PacketOk_l5 (k : Nat) (v11 : List Int) (v12 : Int) (v13 : Int) (o100003 : List Int) : Option (Bool) := aRun E k s_PacketOk_fi.rs (ioOf s_PacketOk_fi.ps) s_PacketOk_fi.res s_PacketOk_fi.hints [.code (sub s_PacketOk_c [1, 1, 1, 0, 1, 0, 0, 0]), .code (sub s_PacketOk_c [1, 1, 1, 0, 1, 0, 0, 1]), .inLoop (sub s_PacketOk_c [1, 1, 1, 0, 1, 0, 0]), .inBlock 0, .code (sub s_PacketOk_c [1, 1, 1, 1])] ⟨[.cv .dead, .cv .dead, .cv .dead, .cv (.own 100003), .cv .dead, .cv .dead, .cv .dead, .cv .dead, .cv .dead, .cv .dead, .cv .dead, .cv (.val (.slice (.int .i64)) v11), .cv (.val (.int .i64) v12), .cv (.val (.int .i64) v13), .cv .dead, .cv .dead, .cv .dead, .cv .dead, .cv .dead, .cv .dead, .cv .dead, .cv .dead, .cv .dead, .cv .dead, .cv .dead, .cv .dead, .cv .dead, .cv .dead, .cv .dead, .cv .dead, .cv .dead], [(100003, .row (.int .i64) o100003 true false)], true⟩
noncomputable def s_PositionOf (k : Nat) (x : (List Int) × Int) : Option (Int) := aFn E s_PositionOf_fi k x
noncomputable def s_PositionOf_l2 (k : Nat) (v1 : Int) (v7 : List Int) (v8 : Int) (v9 : Int) : Option (Int) := aRun E k s_PositionOf_fi.rs (ioOf s_PositionOf_fi.ps) s_PositionOf_fi.res s_PositionOf_fi.hints [.code (sub s_PositionOf_c [1, 0, 1, 0, 0, 0]), .code (sub s_PositionOf_c [1, 0, 1, 0, 0, 1]), .inLoop (sub s_PositionOf_c [1, 0, 1, 0, 0]), .inBlock 0, .code (sub s_PositionOf_c [1, 1])] ⟨[.cv .dead, .cv (.val (.int .i64) v1), .cv .dead, .cv .dead, .cv .dead, .cv .dead, .cv .dead, .cv (.val (.slice (.int .i64)) v7), .cv (.val (.int .i64) v8), .cv (.val (.int .i64) v9), .cv .dead, .cv .dead, .cv .dead, .cv .dead, .cv .dead, .cv .dead, .cv .dead, .cv .dead, .cv .dead, .cv .dead, .cv .dead, .cv .dead, .cv .dead, .cv .dead], [], true⟩
noncomputable def s_IsArrangement (k : Nat) (x : (List Int) × List Int) : Option (Bool) := aFn E s_IsArrangement_fi k x
noncomputable def s_IsArrangement_l4 (k : Nat) (v1 : List Int) (v22 : List Int) (v23 : Int) (v24 : Int) : Option (Bool) := aRun E k s_IsArrangement_fi.rs (ioOf s_IsArrangement_fi.ps) s_IsArrangement_fi.res s_IsArrangement_fi.hints [.code (sub s_IsArrangement_c [1, 1, 0, 1, 0, 0, 0]), .code (sub s_IsArrangement_c [1, 1, 0, 1, 0, 0, 1]), .inLoop (sub s_IsArrangement_c [1, 1, 0, 1, 0, 0]), .inBlock 0, .code (sub s_IsArrangement_c [1, 1, 1])] ⟨[.cv .dead, .cv (.val (.slice (.int .i64)) v1), .cv .dead, .cv .dead, .cv .dead, .cv .dead, .cv .dead, .cv .dead, .cv .dead, .cv .dead, .cv .dead, .cv .dead, .cv .dead, .cv .dead, .cv .dead, .cv .dead, .cv .dead, .cv .dead, .cv .dead, .cv .dead, .cv .dead, .cv .dead, .cv (.val (.slice (.int .i64)) v22), .cv (.val (.int .i64) v23), .cv (.val (.int .i64) v24), .cv .dead, .cv .dead, .cv .dead, .cv .dead, .cv .dead, .cv .dead, .cv .dead, .cv .dead, .cv .dead], [], true⟩
noncomputable def s_l05Less (k : Nat) (x : (List Int) × List Int) : Option (Bool) := aFn E s_l05Less_fi k x
noncomputable def s_l05Less_l2 (k : Nat) (v0 : List Int) (v1 : List Int) (v7 : List Int) (v8 : Int) (v9 : Int) : Option (Bool) := aRun E k s_l05Less_fi.rs (ioOf s_l05Less_fi.ps) s_l05Less_fi.res s_l05Less_fi.hints [.code (sub s_l05Less_c [1, 0, 1, 0, 0, 0]), .code (sub s_l05Less_c [1, 0, 1, 0, 0, 1]), .inLoop (sub s_l05Less_c [1, 0, 1, 0, 0]), .inBlock 0, .code (sub s_l05Less_c [1, 1])] ⟨[.cv (.val (.slice (.int .i64)) v0), .cv (.val (.slice (.int .i64)) v1), .cv .dead, .cv .dead, .cv .dead, .cv .dead, .cv .dead, .cv (.val (.slice (.int .i64)) v7), .cv (.val (.int .i64) v8), .cv (.val (.int .i64) v9), .cv .dead, .cv .dead, .cv .dead, .cv .dead, .cv .dead, .cv .dead, .cv .dead, .cv .dead, .cv .dead, .cv .dead, .cv .dead, .cv .dead, .cv .dead, .cv .dead, .cv .dead, .cv .dead, .cv .dead, .cv .dead, .cv .dead, .cv .dead, .cv .dead, .cv .dead, .cv .dead, .cv .dead, .cv .dead, .cv .dead], [], true⟩
noncomputable def s_KnowOk (k : Nat) (x : List (List Int)) : Option (Bool) := aFn E s_KnowOk_fi k x
noncomputable def s_KnowOk_l4 (k : Nat) (v0 : List (List Int)) (v16 : List (List Int)) (v17 : Int) (v18 : Int) : Option (Bool) := aRun E k s_KnowOk_fi.rs (ioOf s_KnowOk_fi.ps) s_KnowOk_fi.res s_KnowOk_fi.hints [.code (sub s_KnowOk_c [1, 1, 0, 1, 0, 0, 0]), .code (sub s_KnowOk_c [1, 1, 0, 1, 0, 0, 1]), .inLoop (sub s_KnowOk_c [1, 1, 0, 1, 0, 0]), .inBlock 0, .code (sub s_KnowOk_c [1, 1, 1])] ⟨[.cv (.val (.slice (.slice (.int .i64))) v0), .cv .dead, .cv .dead, .cv .dead, .cv .dead, .cv .dead, .cv .dead, .cv .dead, .cv .dead, .cv .dead, .cv .dead, .cv .dead, .cv .dead, .cv .dead, .cv .dead, .cv .dead, .cv (.val (.slice (.slice (.int .i64))) v16), .cv (.val (.int .i64) v17), .cv (.val (.int .i64) v18), .cv .dead, .cv .dead, .cv .dead, .cv .dead, .cv .dead, .cv .dead, .cv .dead, .cv .dead, .cv .dead, .cv .dead, .cv .dead, .cv .dead, .cv .dead, .cv .dead, .cv .dead, .cv .dead, .cv .dead, .cv .dead, .cv .dead, .cv .dead, .cv .dead, .cv .dead, .cv .dead, .cv .dead, .cv .dead], [], true⟩
noncomputable def s_l05Ok (k : Nat) (x : (List Int) × Int) : Option (Bool) := aFn E s_l05Ok_fi k x
noncomputable def s_TurnCard (k : Nat) (x : Int) : Option (Int) := aFn E s_TurnCard_fi k x
noncomputable def s_l04Back (k : Nat) (x : (List Int) × Int × Bool) : Option (List Int) := aFn E s_l04Back_fi k x
noncomputable def s_l04Back_l3 (k : Nat) (v0 : List Int) (v1 : Int) (v2 : Bool) (v8 : Int) (o100007 : List Int) : Option (List Int) := aRun E k s_l04Back_fi.rs (ioOf s_l04Back_fi.ps) s_l04Back_fi.res s_l04Back_fi.hints [.code (sub s_l04Back_c [1, 1, 0, 1, 0, 0, 0, 0]), .code (sub s_l04Back_c [1, 1, 0, 1, 0, 0, 0, 1]), .code (sub s_l04Back_c [1, 1, 0, 1, 0, 0, 1]), .inLoop (sub s_l04Back_c [1, 1, 0, 1, 0, 0]), .inBlock 0, .code (sub s_l04Back_c [1, 1, 1])] ⟨[.cv (.val (.slice (.int .i64)) v0), .cv (.val (.int .i64) v1), .cv (.val (.bool) v2), .cv .dead, .cv .dead, .cv .dead, .cv .dead, .cv (.own 100007), .cv (.val (.int .i64) v8), .cv .dead, .cv .dead, .cv .dead, .cv .dead, .cv .dead, .cv .dead, .cv .dead, .cv .dead, .cv .dead, .cv .dead, .cv .dead, .cv .dead, .cv .dead, .cv .dead, .cv .dead, .cv .dead, .cv .dead, .cv .dead, .cv .dead, .cv .dead, .cv .dead, .cv .dead, .cv .dead, .cv .dead, .cv .dead, .cv .dead, .cv .dead, .cv .dead], [(100007, .row (.int .i64) o100007 true false)], true⟩
noncomputable def s_l04Faro (k : Nat) (x : (List Int) × Int) : Option (List Int) := aFn E s_l04Faro_fi k x
noncomputable def s_l04Faro_l4 (k : Nat) (v1 : Int) (v5 : List Int) (v6 : List Int) (o100007 : List Int) : Option (List Int) := aRun E k s_l04Faro_fi.rs (ioOf s_l04Faro_fi.ps) s_l04Faro_fi.res s_l04Faro_fi.hints [.code (sub s_l04Faro_c [1, 1, 1, 1, 0, 0, 0, 0, 0]), .code (sub s_l04Faro_c [1, 1, 1, 1, 0, 0, 0, 0, 1]), .code (sub s_l04Faro_c [1, 1, 1, 1, 0, 0, 0, 1]), .inLoop (sub s_l04Faro_c [1, 1, 1, 1, 0, 0, 0]), .inBlock 0, .code (sub s_l04Faro_c [1, 1, 1, 1, 1])] ⟨[.cv .dead, .cv (.val (.int .i64) v1), .cv .dead, .cv .dead, .cv .dead, .cv (.val (.slice (.int .i64)) v5), .cv (.val (.slice (.int .i64)) v6), .cv (.own 100007), .cv .dead, .cv .dead, .cv .dead, .cv .dead, .cv .dead, .cv .dead, .cv .dead, .cv .dead, .cv .dead, .cv .dead, .cv .dead, .cv .dead, .cv .dead, .cv .dead, .cv .dead, .cv .dead, .cv .dead, .cv .dead, .cv .dead, .cv .dead, .cv .dead, .cv .dead, .cv .dead, .cv .dead, .cv .dead, .cv .dead, .cv .dead, .cv .dead, .cv .dead, .cv .dead, .cv .dead, .cv .dead, .cv .dead, .cv .dead, .cv .dead, .cv .dead, .cv .dead, .cv .dead, .cv .dead, .cv .dead, .cv .dead, .cv .dead, .cv .dead, .cv .dead, .cv .dead, .cv .dead, .cv .dead, .cv .dead, .cv .dead, .cv .dead, .cv .dead], [(100007, .row (.int .i64) o100007 true false)], true⟩
noncomputable def s_l04Monge (k : Nat) (x : (List Int) × Int) : Option (List Int) := aFn E s_l04Monge_fi k x
noncomputable def s_l04Monge_l3 (k : Nat) (v1 : Int) (v9 : List Int) (v10 : Int) (v11 : Int) (o100005 : List Int) : Option (List Int) := aRun E k s_l04Monge_fi.rs (ioOf s_l04Monge_fi.ps) s_l04Monge_fi.res s_l04Monge_fi.hints [.code (sub s_l04Monge_c [1, 1, 0, 1, 0, 0, 0]), .code (sub s_l04Monge_c [1, 1, 0, 1, 0, 0, 1]), .inLoop (sub s_l04Monge_c [1, 1, 0, 1, 0, 0]), .inBlock 0, .code (sub s_l04Monge_c [1, 1, 1])] ⟨[.cv .dead, .cv (.val (.int .i64) v1), .cv .dead, .cv .dead, .cv .dead, .cv (.own 100005), .cv .dead, .cv .dead, .cv .dead, .cv (.val (.slice (.int .i64)) v9), .cv (.val (.int .i64) v10), .cv (.val (.int .i64) v11), .cv .dead, .cv .dead, .cv .dead, .cv .dead, .cv .dead, .cv .dead, .cv .dead, .cv .dead, .cv .dead, .cv .dead, .cv .dead, .cv .dead, .cv .dead, .cv .dead, .cv .dead, .cv .dead, .cv .dead, .cv .dead, .cv .dead, .cv .dead, .cv .dead, .cv .dead], [(100005, .row (.int .i64) o100005 true false)], true⟩
noncomputable def s_l04Milk (k : Nat) (x : List Int) : Option (List Int) := aFn E s_l04Milk_fi k x
noncomputable def s_l04Milk_l2 (k : Nat) (v0 : List Int) (o100003 : List Int) : Option (List Int) := aRun E k s_l04Milk_fi.rs (ioOf s_l04Milk_fi.ps) s_l04Milk_fi.res s_l04Milk_fi.hints [.code (sub s_l04Milk_c [1, 1, 0, 0, 0, 0, 0]), .code (sub s_l04Milk_c [1, 1, 0, 0, 0, 0, 1]), .code (sub s_l04Milk_c [1, 1, 0, 0, 0, 1]), .inLoop (sub s_l04Milk_c [1, 1, 0, 0, 0]), .inBlock 0, .code (sub s_l04Milk_c [1, 1, 1])] ⟨[.cv (.val (.slice (.int .i64)) v0), .cv .dead, .cv .dead, .cv (.own 100003), .cv .dead, .cv .dead, .cv .dead, .cv .dead, .cv .dead, .cv .dead, .cv .dead, .cv .dead, .cv .dead, .cv .dead, .cv .dead, .cv .dead, .cv .dead, .cv .dead, .cv .dead, .cv .dead, .cv .dead, .cv .dead, .cv .dead, .cv .dead, .cv .dead, .cv .dead, .cv .dead, .cv .dead, .cv .dead, .cv .dead], [(100003, .row (.int .i64) o100003 true false)], true⟩
noncomputable def s_l04Duck (k : Nat) (x : (List Int) × Int) : Option (List Int) := aFn E s_l04Duck_fi k x
noncomputable def s_l04Duck_l4 (k : Nat) (v7 : Int) (o100005 : List Int) (o100006 : List Int) : Option (List Int) := aRun E k s_l04Duck_fi.rs (ioOf s_l04Duck_fi.ps) s_l04Duck_fi.res s_l04Duck_fi.hints [.code (sub s_l04Duck_c [1, 1, 1, 0, 1, 0, 0, 0, 0]), .code (sub s_l04Duck_c [1, 1, 1, 0, 1, 0, 0, 0, 1]), .code (sub s_l04Duck_c [1, 1, 1, 0, 1, 0, 0, 1]), .inLoop (sub s_l04Duck_c [1, 1, 1, 0, 1, 0, 0]), .inBlock 0, .code (sub s_l04Duck_c [1, 1, 1, 1])] ⟨[.cv .dead, .cv .dead, .cv .dead, .cv .dead, .cv .dead, .cv (.own 100005), .cv (.own 100006), .cv (.val (.int .i64) v7), .cv .dead, .cv .dead, .cv .dead, .cv .dead, .cv .dead, .cv .dead, .cv .dead, .cv .dead, .cv .dead, .cv .dead, .cv .dead, .cv .dead, .cv .dead, .cv .dead, .cv .dead, .cv .dead, .cv .dead, .cv .dead, .cv .dead, .cv .dead, .cv .dead, .cv .dead, .cv .dead, .cv .dead, .cv .dead, .cv .dead, .cv .dead, .cv .dead, .cv .dead, .cv .dead, .cv .dead, .cv .dead, .cv .dead], [(100005, .row (.int .i64) o100005 true false), (100006, .row (.int .i64) o100006 true false)], true⟩
noncomputable def s_l04Do (k : Nat) (x : (List Int) × Int × Int) : Option (List Int) := aFn E s_l04Do_fi k x
noncomputable def s_l05Cuts (k : Nat) (x : List Int) : Option (List (List Int)) := aFn E s_l05Cuts_fi k x
noncomputable def s_l05Cuts_l3 (k : Nat) (v0 : List Int) (v7 : Int) (v8 : Int) (o100003 : List (List Int)) : Option (List (List Int)) := aRun E k s_l05Cuts_fi.rs (ioOf s_l05Cuts_fi.ps) s_l05Cuts_fi.res s_l05Cuts_fi.hints [.code (sub s_l05Cuts_c [1, 1, 0, 1, 0, 0, 0]), .code (sub s_l05Cuts_c [1, 1, 0, 1, 0, 0, 1]), .inLoop (sub s_l05Cuts_c [1, 1, 0, 1, 0, 0]), .inBlock 0, .code (sub s_l05Cuts_c [1, 1, 1])] ⟨[.cv (.val (.slice (.int .i64)) v0), .cv .dead, .cv .dead, .cv (.own 100003), .cv .dead, .cv .dead, .cv .dead, .cv (.val (.int .i64) v7), .cv (.val (.int .i64) v8), .cv .dead, .cv .dead, .cv .dead, .cv .dead, .cv .dead, .cv .dead, .cv .dead, .cv .dead, .cv .dead, .cv .dead, .cv .dead], [(100003, .row (.slice (.int .i64)) o100003 true false)], true⟩
noncomputable def s_l05Weave (k : Nat) (x : (List (List Int)) × (List Int) × (List Int) × List Int) : Option (List (List Int)) := aFn E s_l05Weave_fi k x
noncomputable def s_l05Of (k : Nat) (x : (List Int) × Int) : Option (List (List Int)) := aFn E s_l05Of_fi k x
noncomputable def s_l05Of_l7 (k : Nat) (v0 : List Int) (v6 : Int) (o100005 : List (List Int)) : Option (List (List Int)) := aRun E k s_l05Of_fi.rs (ioOf s_l05Of_fi.ps) s_l05Of_fi.res s_l05Of_fi.hints [.code (sub s_l05Of_c [1, 1, 0, 1, 0, 1, 1, 1, 0, 0, 1, 0, 0, 0, 0]), .code (sub s_l05Of_c [1, 1, 0, 1, 0, 1, 1, 1, 0, 0, 1, 0, 0, 0, 1]), .code (sub s_l05Of_c [1, 1, 0, 1, 0, 1, 1, 1, 0, 0, 1, 0, 0, 1]), .inLoop (sub s_l05Of_c [1, 1, 0, 1, 0, 1, 1, 1, 0, 0, 1, 0, 0]), .inBlock 1, .code (sub s_l05Of_c [1, 1, 0, 1, 0, 1, 1, 1, 0, 1]), .inBlock 0, .code (sub s_l05Of_c [1, 1, 1])] ⟨[.cv (.val (.slice (.int .i64)) v0), .cv .dead, .cv .dead, .cv .dead, .cv .dead, .cv (.own 100005), .cv (.val (.int .i64) v6), .cv .dead, .cv .dead, .cv .dead, .cv .dead, .cv .dead, .cv .dead, .cv .dead, .cv .dead, .cv .dead, .cv .dead, .cv .dead, .cv .dead, .cv .dead, .cv .dead, .cv .dead, .cv .dead, .cv .dead, .cv .dead, .cv .dead, .cv .dead, .cv .dead, .cv .dead, .cv .dead, .cv .dead, .cv .dead, .cv .dead, .cv .dead, .cv .dead, .cv .dead, .cv .dead, .cv .dead, .cv .dead, .cv .dead, .cv .dead, .cv .dead, .cv .dead, .cv .dead, .cv .dead, .cv .dead, .cv .dead, .cv .dead, .cv .dead, .cv .dead, .cv .dead, .cv .dead, .cv .dead, .cv .dead, .cv .dead, .cv .dead, .cv .dead, .cv .dead, .cv .dead, .cv .dead, .cv .dead, .cv .dead, .cv .dead, .cv .dead, .cv .dead, .cv .dead, .cv .dead, .cv .dead, .cv .dead], [(100005, .row (.slice (.int .i64)) o100005 false false)], true⟩
noncomputable def s_l05Of_l15 (k : Nat) (v0 : List Int) (v40 : List Int) (v41 : Int) (v42 : Int) (o100005 : List (List Int)) : Option (List (List Int)) := aRun E k s_l05Of_fi.rs (ioOf s_l05Of_fi.ps) s_l05Of_fi.res s_l05Of_fi.hints [.code (sub s_l05Of_c [1, 1, 0, 1, 0, 1, 1, 1, 1, 1, 1, 1, 0, 0, 1, 0, 0, 0]), .code (sub s_l05Of_c [1, 1, 0, 1, 0, 1, 1, 1, 1, 1, 1, 1, 0, 0, 1, 0, 0, 1]), .inLoop (sub s_l05Of_c [1, 1, 0, 1, 0, 1, 1, 1, 1, 1, 1, 1, 0, 0, 1, 0, 0]), .inBlock 3, .code (sub s_l05Of_c [1, 1, 0, 1, 0, 1, 1, 1, 1, 1, 1, 1, 0, 1]), .inBlock 0, .code (sub s_l05Of_c [1, 1, 1])] ⟨[.cv (.val (.slice (.int .i64)) v0), .cv .dead, .cv .dead, .cv .dead, .cv .dead, .cv (.own 100005), .cv .dead, .cv .dead, .cv .dead, .cv .dead, .cv .dead, .cv .dead, .cv .dead, .cv .dead, .cv .dead, .cv .dead, .cv .dead, .cv .dead, .cv .dead, .cv .dead, .cv .dead, .cv .dead, .cv .dead, .cv .dead, .cv .dead, .cv .dead, .cv .dead, .cv .dead, .cv .dead, .cv .dead, .cv .dead, .cv .dead, .cv .dead, .cv .dead, .cv .dead, .cv .dead, .cv .dead, .cv .dead, .cv .dead, .cv .dead, .cv (.val (.slice (.int .i64)) v40), .cv (.val (.int .i64) v41), .cv (.val (.int .i64) v42), .cv .dead, .cv .dead, .cv .dead, .cv .dead, .cv .dead, .cv .dead, .cv .dead, .cv .dead, .cv .dead, .cv .dead, .cv .dead, .cv .dead, .cv .dead, .cv .dead, .cv .dead, .cv .dead, .cv .dead, .cv .dead, .cv .dead, .cv .dead, .cv .dead, .cv .dead, .cv .dead, .cv .dead, .cv .dead, .cv .dead], [(100005, .row (.slice (.int .i64)) o100005 true false)], true⟩
noncomputable def s_SamePacket (k : Nat) (x : (List Int) × List Int) : Option (Bool) := aFn E s_SamePacket_fi k x
noncomputable def s_SamePacket_l4 (k : Nat) (v1 : List Int) (v12 : List Int) (v13 : Int) (v14 : Int) : Option (Bool) := aRun E k s_SamePacket_fi.rs (ioOf s_SamePacket_fi.ps) s_SamePacket_fi.res s_SamePacket_fi.hints [.code (sub s_SamePacket_c [1, 1, 0, 1, 0, 0, 0]), .code (sub s_SamePacket_c [1, 1, 0, 1, 0, 0, 1]), .inLoop (sub s_SamePacket_c [1, 1, 0, 1, 0, 0]), .inBlock 0, .code (sub s_SamePacket_c [1, 1, 1])] ⟨[.cv .dead, .cv (.val (.slice (.int .i64)) v1), .cv .dead, .cv .dead, .cv .dead, .cv .dead, .cv .dead, .cv .dead, .cv .dead, .cv .dead, .cv .dead, .cv .dead, .cv (.val (.slice (.int .i64)) v12), .cv (.val (.int .i64) v13), .cv (.val (.int .i64) v14), .cv .dead, .cv .dead, .cv .dead, .cv .dead, .cv .dead, .cv .dead, .cv .dead, .cv .dead, .cv .dead, .cv .dead, .cv .dead], [], true⟩
noncomputable def s_l05Merge (k : Nat) (x : (List (List Int)) × List (List Int)) : Option (List (List Int)) := aFn E s_l05Merge_fi k x
noncomputable def s_l05Merge_l2 (k : Nat) (v0 : List (List Int)) (v1 : List (List Int)) (o450005 : List (List Int)) : Option (List (List Int)) := aRun E k s_l05Merge_fi.rs (ioOf s_l05Merge_fi.ps) s_l05Merge_fi.res s_l05Merge_fi.hints [.code (sub s_l05Merge_c [1, 1, 0, 0, 0, 0, 0]), .code (sub s_l05Merge_c [1, 1, 0, 0, 0, 0, 1]), .code (sub s_l05Merge_c [1, 1, 0, 0, 0, 1]), .inLoop (sub s_l05Merge_c [1, 1, 0, 0, 0]), .inBlock 0, .code (sub s_l05Merge_c [1, 1, 1])] ⟨[.cv (.val (.slice (.slice (.int .i64))) v0), .cv (.val (.slice (.slice (.int .i64))) v1), .cv .dead, .cv .dead, .cv .dead, .cv (.own 450005), .cv .dead, .cv .dead, .cv .dead, .cv .dead, .cv .dead, .cv .dead, .cv .dead, .cv .dead, .cv .dead, .cv .dead, .cv .dead, .cv .dead, .cv .dead, .cv .dead, .cv .dead, .cv .dead, .cv .dead, .cv .dead, .cv .dead, .cv .dead, .cv .dead, .cv .dead, .cv .dead, .cv .dead, .cv .dead, .cv .dead, .cv .dead, .cv .dead, .cv .dead, .cv .dead, .cv .dead, .cv .dead, .cv .dead, .cv .dead, .cv .dead, .cv .dead, .cv .dead, .cv .dead, .cv .dead, .cv .dead, .cv .dead, .cv .dead, .cv .dead, .cv .dead, .cv .dead, .cv .dead, .cv .dead, .cv .dead, .cv .dead, .cv .dead, .cv .dead, .cv .dead, .cv .dead, .cv .dead, .cv .dead, .cv .dead, .cv .dead, .cv .dead, .cv .dead, .cv .dead], [(450005, .row (.slice (.int .i64)) o450005 true false)], true⟩
noncomputable def s_SortPackets (k : Nat) (x : List (List Int)) : Option (List (List Int)) := aFn E s_SortPackets_fi k x
noncomputable def s_ResultsAfter (k : Nat) (x : (List (List Int)) × Int) : Option ((List (List Int)) × Bool) := aFn E s_ResultsAfter_fi k x
noncomputable def s_ResultsAfter_l3 (k : Nat) (v1 : Int) (v10 : List (List Int)) (v11 : Int) (v12 : Int) (o100006 : List (List Int)) : Option ((List (List Int)) × Bool) := aRun E k s_ResultsAfter_fi.rs (ioOf s_ResultsAfter_fi.ps) s_ResultsAfter_fi.res s_ResultsAfter_fi.hints [.code (sub s_ResultsAfter_c [1, 1, 0, 1, 0, 0, 0]), .code (sub s_ResultsAfter_c [1, 1, 0, 1, 0, 0, 1]), .inLoop (sub s_ResultsAfter_c [1, 1, 0, 1, 0, 0]), .inBlock 0, .code (sub s_ResultsAfter_c [1, 1, 1])] ⟨[.cv .dead, .cv (.val (.int .i64) v1), .cv .dead, .cv .dead, .cv .dead, .cv .dead, .cv (.own 100006), .cv .dead, .cv .dead, .cv .dead, .cv (.val (.slice (.slice (.int .i64))) v10), .cv (.val (.int .i64) v11), .cv (.val (.int .i64) v12), .cv .dead, .cv .dead, .cv .dead, .cv .dead, .cv .dead, .cv .dead, .cv .dead, .cv .dead, .cv .dead, .cv .dead, .cv .dead, .cv .dead, .cv .dead, .cv .dead, .cv .dead, .cv .dead, .cv .dead, .cv .dead], [(100006, .row (.slice (.int .i64)) o100006 true false)], true⟩
noncomputable def s_AfterChoice (k : Nat) (x : (List (List Int)) × Int) : Option ((List (List Int)) × Bool) := aFn E s_AfterChoice_fi k x
noncomputable def i_CardOf (k : Nat) (x : Int) : Option (Int) := aFn E i_CardOf_fi k x
noncomputable def i_PacketOk (k : Nat) (x : List Int) : Option (Bool) := aFn E i_PacketOk_fi k x
noncomputable def i_PacketOk_l3 (k : Nat) (v7 : List Int) (v8 : Int) (v9 : Int) (o400003 : List Bool) : Option (Bool) := aRun E k i_PacketOk_fi.rs (ioOf i_PacketOk_fi.ps) i_PacketOk_fi.res i_PacketOk_fi.hints [.code (sub i_PacketOk_c [1, 1, 0, 1, 0, 0, 0]), .code (sub i_PacketOk_c [1, 1, 0, 1, 0, 0, 1]), .inLoop (sub i_PacketOk_c [1, 1, 0, 1, 0, 0]), .inBlock 0, .code (sub i_PacketOk_c [1, 1, 1])] ⟨[.cv .dead, .cv .dead, .cv .dead, .adr 400003 0, .cv .dead, .cv .dead, .cv .dead, .cv (.val (.slice (.int .i64)) v7), .cv (.val (.int .i64) v8), .cv (.val (.int .i64) v9), .cv .dead, .cv .dead, .cv .dead, .cv .dead, .cv .dead, .cv .dead, .cv .dead, .cv .dead, .cv .dead, .cv .dead, .cv .dead, .cv .dead, .cv .dead, .cv .dead, .cv .dead], [(400003, .arr (.bool) o400003)], true⟩
noncomputable def i_PositionOf_1 (k : Nat) (x : Int × Int) : Option (Bool) := aFn E i_PositionOf_1_fi k x
noncomputable def slices_IndexFunc_int_of_i_PositionOf_1 (k : Nat) (x : (List Int) × Int) : Option (Int) := aFn E slices_IndexFunc_int_of_i_PositionOf_1_fi k x
noncomputable def slices_IndexFunc_int_of_i_PositionOf_1_l2 (k : Nat) (v0 : List Int) (v1_0_0 : Int) (v7 : Int) (v8 : Int) : Option (Int) := aRun E k slices_IndexFunc_int_of_i_PositionOf_1_fi.rs (ioOf slices_IndexFunc_int_of_i_PositionOf_1_fi.ps) slices_IndexFunc_int_of_i_PositionOf_1_fi.res slices_IndexFunc_int_of_i_PositionOf_1_fi.hints [.code (sub slices_IndexFunc_int_of_i_PositionOf_1_c [1, 0, 1, 0, 0, 0]), .code (sub slices_IndexFunc_int_of_i_PositionOf_1_c [1, 0, 1, 0, 0, 1]), .inLoop (sub slices_IndexFunc_int_of_i_PositionOf_1_c [1, 0, 1, 0, 0]), .inBlock 0, .code (sub slices_IndexFunc_int_of_i_PositionOf_1_c [1, 1])] ⟨[.cv (.val (.slice (.int .i64)) v0), .fn 135 [[.val (.int .i64) v1_0_0]], .cv .dead, .cv .dead, .cv .dead, .cv .dead, .cv .dead, .cv (.val (.int .i64) v7), .cv (.val (.int .i64) v8), .cv .dead, .cv .dead, .cv .dead, .cv .dead, .cv .dead, .cv .dead, .cv .dead, .cv .dead, .cv .dead, .cv .dead], [], true⟩
noncomputable def i_PositionOf (k : Nat) (x : (List Int) × Int) : Option (Int) := aFn E i_PositionOf_fi k x
noncomputable def i_IsArrangement_1 (k : Nat) (x : Int × List Int) : Option (Bool) := aFn E i_IsArrangement_1_fi k x
noncomputable def slices_IndexFunc_int_of_i_IsArrangement_1 (k : Nat) (x : (List Int) × List Int) : Option (Int) := aFn E slices_IndexFunc_int_of_i_IsArrangement_1_fi k x
noncomputable def slices_IndexFunc_int_of_i_IsArrangement_1_l2 (k : Nat) (v0 : List Int) (v1_0_0 : List Int) (v7 : Int) (v8 : Int) : Option (Int) := aRun E k slices_IndexFunc_int_of_i_IsArrangement_1_fi.rs (ioOf slices_IndexFunc_int_of_i_IsArrangement_1_fi.ps) slices_IndexFunc_int_of_i_IsArrangement_1_fi.res slices_IndexFunc_int_of_i_IsArrangement_1_fi.hints [.code (sub slices_IndexFunc_int_of_i_IsArrangement_1_c [1, 0, 1, 0, 0, 0]), .code (sub slices_IndexFunc_int_of_i_IsArrangement_1_c [1, 0, 1, 0, 0, 1]), .inLoop (sub slices_IndexFunc_int_of_i_IsArrangement_1_c [1, 0, 1, 0, 0]), .inBlock 0, .code (sub slices_IndexFunc_int_of_i_IsArrangement_1_c [1, 1])] ⟨[.cv (.val (.slice (.int .i64)) v0), .fn 130 [[.val (.slice (.int .i64)) v1_0_0]], .cv .dead, .cv .dead, .cv .dead, .cv .dead, .cv .dead, .cv (.val (.int .i64) v7), .cv (.val (.int .i64) v8), .cv .dead, .cv .dead, .cv .dead, .cv .dead, .cv .dead, .cv .dead, .cv .dead, .cv .dead, .cv .dead, .cv .dead], [], true⟩
noncomputable def slices_ContainsFunc_int_of_i_IsArrangement_1 (k : Nat) (x : (List Int) × List Int) : Option (Bool) := aFn E slices_ContainsFunc_int_of_i_IsArrangement_1_fi k x
noncomputable def i_IsArrangement (k : Nat) (x : (List Int) × List Int) : Option (Bool) := aFn E i_IsArrangement_fi k x
noncomputable def cmp_isNaN_int (k : Nat) (x : Int) : Option (Bool) := aFn E cmp_isNaN_int_fi k x
noncomputable def cmp_Compare_int (k : Nat) (x : Int × Int) : Option (Int) := aFn E cmp_Compare_int_fi k x
noncomputable def slices_Compare_int (k : Nat) (x : (List Int) × List Int) : Option (Int) := aFn E slices_Compare_int_fi k x
noncomputable def slices_Compare_int_l2 (k : Nat) (v0 : List Int) (v1 : List Int) (v9 : List Int) (v10 : Int) (v11 : Int) : Option (Int) := aRun E k slices_Compare_int_fi.rs (ioOf slices_Compare_int_fi.ps) slices_Compare_int_fi.res slices_Compare_int_fi.hints [.code (sub slices_Compare_int_c [1, 0, 1, 0, 0, 0]), .code (sub slices_Compare_int_c [1, 0, 1, 0, 0, 1]), .inLoop (sub slices_Compare_int_c [1, 0, 1, 0, 0]), .inBlock 0, .code (sub slices_Compare_int_c [1, 1])] ⟨[.cv (.val (.slice (.int .i64)) v0), .cv (.val (.slice (.int .i64)) v1), .cv .dead, .cv .dead, .cv .dead, .cv .dead, .cv .dead, .cv .dead, .cv .dead, .cv (.val (.slice (.int .i64)) v9), .cv (.val (.int .i64) v10), .cv (.val (.int .i64) v11), .cv .dead, .cv .dead, .cv .dead, .cv .dead, .cv .dead, .cv .dead, .cv .dead, .cv .dead, .cv .dead, .cv .dead, .cv .dead, .cv .dead, .cv .dead, .cv .dead, .cv .dead, .cv .dead, .cv .dead, .cv .dead, .cv .dead, .cv .dead, .cv .dead, .cv .dead, .cv .dead, .cv .dead], [], true⟩
noncomputable def i_KnowOk (k : Nat) (x : List (List Int)) : Option (Bool) := aFn E i_KnowOk_fi k x
noncomputable def i_KnowOk_l4 (k : Nat) (v0 : List (List Int)) (v20 : List (List Int)) (v21 : Int) (v22 : Int) : Option (Bool) := aRun E k i_KnowOk_fi.rs (ioOf i_KnowOk_fi.ps) i_KnowOk_fi.res i_KnowOk_fi.hints [.code (sub i_KnowOk_c [1, 1, 0, 1, 0, 0, 0]), .code (sub i_KnowOk_c [1, 1, 0, 1, 0, 0, 1]), .inLoop (sub i_KnowOk_c [1, 1, 0, 1, 0, 0]), .inBlock 0, .code (sub i_KnowOk_c [1, 1, 1])] ⟨[.cv (.val (.slice (.slice (.int .i64))) v0), .cv .dead, .cv .dead, .cv .dead, .cv .dead, .cv .dead, .cv .dead, .cv .dead, .cv .dead, .cv .dead, .cv .dead, .cv .dead, .cv .dead, .cv .dead, .cv .dead, .cv .dead, .cv .dead, .cv .dead, .cv .dead, .cv .dead, .cv (.val (.slice (.slice (.int .i64))) v20), .cv (.val (.int .i64) v21), .cv (.val (.int .i64) v22), .cv .dead, .cv .dead, .cv .dead, .cv .dead, .cv .dead, .cv .dead, .cv .dead, .cv .dead, .cv .dead, .cv .dead, .cv .dead, .cv .dead, .cv .dead, .cv .dead, .cv .dead, .cv .dead, .cv .dead, .cv .dead, .cv .dead, .cv .dead, .cv .dead, .cv .dead, .cv .dead, .cv .dead, .cv .dead], [], true⟩
noncomputable def slices_Clone_int (k : Nat) (x : List Int) : Option (List Int) := aFn E slices_Clone_int_fi k x
noncomputable def slices_Grow_int (k : Nat) (x : (List Int) × Int) : Option (List Int) := aFn E slices_Grow_int_fi k x
noncomputable def slices_Concat_int (k : Nat) (x : List (List Int)) : Option (List Int) := aFn E slices_Concat_int_fi k x
noncomputable def slices_Concat_int_l3 (k : Nat) (v0 : List (List Int)) (v3 : Int) (v9 : List (List Int)) (v10 : Int) (v11 : Int) : Option (List Int) := aRun E k slices_Concat_int_fi.rs (ioOf slices_Concat_int_fi.ps) slices_Concat_int_fi.res slices_Concat_int_fi.hints [.code (sub slices_Concat_int_c [1, 1, 0, 1, 0, 0, 0]), .code (sub slices_Concat_int_c [1, 1, 0, 1, 0, 0, 1]), .inLoop (sub slices_Concat_int_c [1, 1, 0, 1, 0, 0]), .inBlock 0, .code (sub slices_Concat_int_c [1, 1, 1])] ⟨[.cv (.val (.slice (.slice (.int .i64))) v0), .cv .dead, .cv .dead, .cv (.val (.int .i64) v3), .cv .dead, .cv .dead, .cv .dead, .cv .dead, .cv .dead, .cv (.val (.slice (.slice (.int .i64))) v9), .cv (.val (.int .i64) v10), .cv (.val (.int .i64) v11), .cv .dead, .cv .dead, .cv .dead, .cv .dead, .cv .dead, .cv .dead, .cv .dead, .cv .dead, .cv .dead, .cv .dead, .cv .dead, .cv .dead, .cv .dead, .cv .dead, .cv .dead, .cv .dead, .cv .dead, .cv .dead, .cv .dead, .cv .dead, .cv .dead, .cv .dead, .cv .dead, .cv .dead], [], true⟩
noncomputable def slices_Concat_int_l11 (k : Nat) (v25 : List (List Int)) (v26 : Int) (v27 : Int) (o100006 : List Int) : Option (List Int) := aRun E k slices_Concat_int_fi.rs (ioOf slices_Concat_int_fi.ps) slices_Concat_int_fi.res slices_Concat_int_fi.hints [.code (sub slices_Concat_int_c [1, 1, 1, 1, 0, 1, 0, 0, 0]), .code (sub slices_Concat_int_c [1, 1, 1, 1, 0, 1, 0, 0, 1]), .inLoop (sub slices_Concat_int_c [1, 1, 1, 1, 0, 1, 0, 0]), .inBlock 2, .code (sub slices_Concat_int_c [1, 1, 1, 1, 1])] ⟨[.cv .dead, .cv .dead, .cv .dead, .cv .dead, .cv .dead, .cv .dead, .cv (.own 100006), .cv .dead, .cv .dead, .cv .dead, .cv .dead, .cv .dead, .cv .dead, .cv .dead, .cv .dead, .cv .dead, .cv .dead, .cv .dead, .cv .dead, .cv .dead, .cv .dead, .cv .dead, .cv .dead, .cv .dead, .cv .dead, .cv (.val (.slice (.slice (.int .i64))) v25), .cv (.val (.int .i64) v26), .cv (.val (.int .i64) v27), .cv .dead, .cv .dead, .cv .dead, .cv .dead, .cv .dead, .cv .dead, .cv .dead, .cv .dead], [(100006, .row (.int .i64) o100006 true false)], true⟩
noncomputable def slices_Reverse_int (k : Nat) (x : List Int) : Option ((Unit) × List Int) := aFn E slices_Reverse_int_fi k x
noncomputable def i_reversed (k : Nat) (x : List Int) : Option (List Int) := aFn E i_reversed_fi k x
noncomputable def i_faro (k : Nat) (x : (List Int) × Int) : Option (List Int) := aFn E i_faro_fi k x
noncomputable def i_faro_l4 (k : Nat) (v5 : List Int) (v6 : List Int) (v8 : Bool) (o100007 : List Int) : Option (List Int) := aRun E k i_faro_fi.rs (ioOf i_faro_fi.ps) i_faro_fi.res i_faro_fi.hints [.code (sub i_faro_c [1, 1, 1, 0, 1, 0, 0, 0, 0]), .code (sub i_faro_c [1, 1, 1, 0, 1, 0, 0, 0, 1]), .code (sub i_faro_c [1, 1, 1, 0, 1, 0, 0, 1]), .inLoop (sub i_faro_c [1, 1, 1, 0, 1, 0, 0]), .inBlock 0, .code (sub i_faro_c [1, 1, 1, 1])] ⟨[.cv .dead, .cv .dead, .cv .dead, .cv .dead, .cv .dead, .cv (.val (.slice (.int .i64)) v5), .cv (.val (.slice (.int .i64)) v6), .cv (.own 100007), .cv (.val (.bool) v8), .cv .dead, .cv .dead, .cv .dead, .cv .dead, .cv .dead, .cv .dead, .cv .dead, .cv .dead, .cv .dead, .cv .dead, .cv .dead, .cv .dead, .cv .dead, .cv .dead, .cv .dead, .cv .dead, .cv .dead, .cv .dead, .cv .dead, .cv .dead, .cv .dead, .cv .dead, .cv .dead, .cv .dead, .cv .dead, .cv .dead, .cv .dead, .cv .dead, .cv .dead, .cv .dead, .cv .dead, .cv .dead, .cv .dead, .cv .dead, .cv .dead, .cv .dead, .cv .dead, .cv .dead, .cv .dead, .cv .dead, .cv .dead, .cv .dead, .cv .dead, .cv .dead, .cv .dead, .cv .dead, .cv .dead, .cv .dead, .cv .dead, .cv .dead], [(100007, .row (.int .i64) o100007 true true)], true⟩
noncomputable def i_monge (k : Nat) (x : (List Int) × Int) : Option (List Int) := aFn E i_monge_fi k x
noncomputable def i_monge_l3 (k : Nat) (v1 : Int) (v8 : List Int) (v9 : Int) (v10 : Int) (o100005 : List Int) : Option (List Int) := aRun E k i_monge_fi.rs (ioOf i_monge_fi.ps) i_monge_fi.res i_monge_fi.hints [.code (sub i_monge_c [1, 1, 0, 1, 0, 0, 0]), .code (sub i_monge_c [1, 1, 0, 1, 0, 0, 1]), .inLoop (sub i_monge_c [1, 1, 0, 1, 0, 0]), .inBlock 0, .code (sub i_monge_c [1, 1, 1])] ⟨[.cv .dead, .cv (.val (.int .i64) v1), .cv .dead, .cv .dead, .cv .dead, .cv (.own 100005), .cv .dead, .cv .dead, .cv (.val (.slice (.int .i64)) v8), .cv (.val (.int .i64) v9), .cv (.val (.int .i64) v10), .cv .dead, .cv .dead, .cv .dead, .cv .dead, .cv .dead, .cv .dead, .cv .dead, .cv .dead, .cv .dead, .cv .dead, .cv .dead, .cv .dead, .cv .dead, .cv .dead, .cv .dead, .cv .dead, .cv .dead, .cv .dead, .cv .dead, .cv .dead, .cv .dead, .cv .dead, .cv .dead], [(100005, .row (.int .i64) o100005 true false)], true⟩
noncomputable def i_milk (k : Nat) (x : List Int) : Option (List Int) := aFn E i_milk_fi k x
noncomputable def i_milk_l2 (k : Nat) (v0 : List Int) (o100003 : List Int) : Option (List Int) := aRun E k i_milk_fi.rs (ioOf i_milk_fi.ps) i_milk_fi.res i_milk_fi.hints [.code (sub i_milk_c [1, 1, 0, 0, 0, 0, 0]), .code (sub i_milk_c [1, 1, 0, 0, 0, 0, 1]), .code (sub i_milk_c [1, 1, 0, 0, 0, 1]), .inLoop (sub i_milk_c [1, 1, 0, 0, 0]), .inBlock 0, .code (sub i_milk_c [1, 1, 1])] ⟨[.cv (.val (.slice (.int .i64)) v0), .cv .dead, .cv .dead, .cv (.own 100003), .cv .dead, .cv .dead, .cv .dead, .cv .dead, .cv .dead, .cv .dead, .cv .dead, .cv .dead, .cv .dead, .cv .dead, .cv .dead, .cv .dead, .cv .dead, .cv .dead, .cv .dead, .cv .dead, .cv .dead, .cv .dead, .cv .dead, .cv .dead, .cv .dead, .cv .dead, .cv .dead, .cv .dead], [(100003, .row (.int .i64) o100003 true false)], true⟩
noncomputable def i_dealt (k : Nat) (x : (List Int) × Int) : Option (List Int) := aFn E i_dealt_fi k x
noncomputable def i_dealt_l4 (k : Nat) (v7 : Bool) (o100005 : List Int) (o100006 : List Int) : Option (List Int) := aRun E k i_dealt_fi.rs (ioOf i_dealt_fi.ps) i_dealt_fi.res i_dealt_fi.hints [.code (sub i_dealt_c [1, 1, 1, 0, 1, 0, 0, 0, 0]), .code (sub i_dealt_c [1, 1, 1, 0, 1, 0, 0, 0, 1]), .code (sub i_dealt_c [1, 1, 1, 0, 1, 0, 0, 1]), .inLoop (sub i_dealt_c [1, 1, 1, 0, 1, 0, 0]), .inBlock 0, .code (sub i_dealt_c [1, 1, 1, 1])] ⟨[.cv .dead, .cv .dead, .cv .dead, .cv .dead, .cv .dead, .cv (.own 100005), .cv (.own 100006), .cv (.val (.bool) v7), .cv .dead, .cv .dead, .cv .dead, .cv .dead, .cv .dead, .cv .dead, .cv .dead, .cv .dead, .cv .dead, .cv .dead, .cv .dead, .cv .dead, .cv .dead, .cv .dead, .cv .dead, .cv .dead, .cv .dead, .cv .dead, .cv .dead, .cv .dead, .cv .dead, .cv .dead, .cv .dead, .cv .dead, .cv .dead, .cv .dead, .cv .dead], [(100005, .row (.int .i64) o100005 true true), (100006, .row (.int .i64) o100006 true false)], true⟩
noncomputable def i_TurnCard (k : Nat) (x : Int) : Option (Int) := aFn E i_TurnCard_fi k x
noncomputable def i_moved (k : Nat) (x : (List Int) × Int × Int) : Option (List Int) := aFn E i_moved_fi k x
noncomputable def i_moved_l10 (k : Nat) (v5 : Int) (v7 : Int) (o100006 : List Int) : Option (List Int) := aRun E k i_moved_fi.rs (ioOf i_moved_fi.ps) i_moved_fi.res i_moved_fi.hints [.code (sub i_moved_c [1, 1, 0, 1, 0, 1, 1, 1, 1, 1, 0, 1, 0, 1, 0, 0, 0, 0]), .code (sub i_moved_c [1, 1, 0, 1, 0, 1, 1, 1, 1, 1, 0, 1, 0, 1, 0, 0, 0, 1]), .code (sub i_moved_c [1, 1, 0, 1, 0, 1, 1, 1, 1, 1, 0, 1, 0, 1, 0, 0, 1]), .inLoop (sub i_moved_c [1, 1, 0, 1, 0, 1, 1, 1, 1, 1, 0, 1, 0, 1, 0, 0]), .inBlock 1, .code (sub i_moved_c [1, 1, 0, 1, 0, 1, 1, 1, 1, 1, 0, 1, 1]), .inBlock 0, .code (sub i_moved_c [1, 1, 1])] ⟨[.cv .dead, .cv .dead, .cv .dead, .cv .dead, .cv .dead, .cv (.val (.int .i64) v5), .cv (.own 100006), .cv (.val (.int .i64) v7), .cv .dead, .cv .dead, .cv .dead, .cv .dead, .cv .dead, .cv .dead, .cv .dead, .cv .dead, .cv .dead, .cv .dead, .cv .dead, .cv .dead, .cv .dead, .cv .dead, .cv .dead, .cv .dead, .cv .dead, .cv .dead, .cv .dead, .cv .dead, .cv .dead, .cv .dead, .cv .dead, .cv .dead, .cv .dead, .cv .dead, .cv .dead, .cv .dead, .cv .dead, .cv .dead, .cv .dead, .cv .dead, .cv .dead, .cv .dead, .cv .dead, .cv .dead, .cv .dead, .cv .dead, .cv .dead, .cv .dead, .cv .dead, .cv .dead, .cv .dead, .cv .dead, .cv .dead, .cv .dead, .cv .dead, .cv .dead, .cv .dead, .cv .dead, .cv .dead, .cv .dead, .cv .dead, .cv .dead, .cv .dead, .cv .dead, .cv .dead, .cv .dead, .cv .dead, .cv .dead, .cv .dead, .cv .dead, .cv .dead, .cv .dead, .cv .dead, .cv .dead, .cv .dead, .cv .dead, .cv .dead, .cv .dead, .cv .dead, .cv .dead, .cv .dead, .cv .dead, .cv .dead, .cv .dead, .cv .dead, .cv .dead, .cv .dead, .cv .dead, .cv .dead, .cv .dead, .cv .dead, .cv .dead, .cv .dead, .cv .dead, .cv .dead, .cv .dead, .cv .dead, .cv .dead, .cv .dead, .cv .dead, .cv .dead, .cv .dead, .cv .dead, .cv .dead, .cv .dead, .cv .dead], [(100006, .row (.int .i64) o100006 true false)], true⟩
noncomputable def i_cuts (k : Nat) (x : List Int) : Option (List (List Int)) := aFn E i_cuts_fi k x
noncomputable def i_cuts_l3 (k : Nat) (v0 : List Int) (v6 : Int) (v7 : Int) (o100003 : List (List Int)) : Option (List (List Int)) := aRun E k i_cuts_fi.rs (ioOf i_cuts_fi.ps) i_cuts_fi.res i_cuts_fi.hints [.code (sub i_cuts_c [1, 1, 0, 1, 0, 0, 0]), .code (sub i_cuts_c [1, 1, 0, 1, 0, 0, 1]), .inLoop (sub i_cuts_c [1, 1, 0, 1, 0, 0]), .inBlock 0, .code (sub i_cuts_c [1, 1, 1])] ⟨[.cv (.val (.slice (.int .i64)) v0), .cv .dead, .cv .dead, .cv (.own 100003), .cv .dead, .cv .dead, .cv (.val (.int .i64) v6), .cv (.val (.int .i64) v7), .cv .dead, .cv .dead, .cv .dead, .cv .dead, .cv .dead, .cv .dead, .cv .dead, .cv .dead, .cv .dead, .cv .dead, .cv .dead], [(100003, .row (.slice (.int .i64)) o100003 true true)], true⟩
noncomputable def i_riffled (k : Nat) (x : (List Int) × Int) : Option (List Int) := aFn E i_riffled_fi k x
noncomputable def i_riffled_l3 (k : Nat) (v0 : List Int) (v1 : Int) (v5 : Int) (v6 : Int) (v11 : Int) (v12 : Int) : Option (List Int) := aRun E k i_riffled_fi.rs (ioOf i_riffled_fi.ps) i_riffled_fi.res i_riffled_fi.hints [.code (sub i_riffled_c [1, 1, 0, 1, 0, 0, 0]), .code (sub i_riffled_c [1, 1, 0, 1, 0, 0, 1]), .inLoop (sub i_riffled_c [1, 1, 0, 1, 0, 0]), .inBlock 0, .code (sub i_riffled_c [1, 1, 1])] ⟨[.cv (.val (.slice (.int .i64)) v0), .cv (.val (.int .i64) v1), .cv .dead, .cv .dead, .cv .dead, .cv (.val (.int .i64) v5), .cv (.val (.int .i64) v6), .cv .dead, .cv .dead, .cv .dead, .cv .dead, .cv (.val (.int .i64) v11), .cv (.val (.int .i64) v12), .cv .dead, .cv .dead, .cv .dead, .cv .dead, .cv .dead, .cv .dead, .cv .dead, .cv .dead, .cv .dead, .cv .dead, .cv .dead, .cv .dead, .cv .dead, .cv .dead, .cv .dead, .cv .dead, .cv .dead, .cv .dead, .cv .dead, .cv .dead, .cv .dead, .cv .dead, .cv .dead, .cv .dead, .cv .dead, .cv .dead, .cv .dead, .cv .dead, .cv .dead, .cv .dead, .cv .dead, .cv .dead, .cv .dead, .cv .dead, .cv .dead, .cv .dead, .cv .dead, .cv .dead, .cv .dead, .cv .dead], [], true⟩
noncomputable def i_riffled_l9 (k : Nat) (v0 : List Int) (v1 : Int) (v5 : Int) (v6 : Int) (v24 : Int) (v25 : Int) (o100008 : List Int) : Option (List Int) := aRun E k i_riffled_fi.rs (ioOf i_riffled_fi.ps) i_riffled_fi.res i_riffled_fi.hints [.code (sub i_riffled_c [1, 1, 1, 1, 0, 1, 0, 0, 0]), .code (sub i_riffled_c [1, 1, 1, 1, 0, 1, 0, 0, 1]), .inLoop (sub i_riffled_c [1, 1, 1, 1, 0, 1, 0, 0]), .inBlock 2, .code (sub i_riffled_c [1, 1, 1, 1, 1])] ⟨[.cv (.val (.slice (.int .i64)) v0), .cv (.val (.int .i64) v1), .cv .dead, .cv .dead, .cv .dead, .cv (.val (.int .i64) v5), .cv (.val (.int .i64) v6), .cv .dead, .cv (.own 100008), .cv .dead, .cv .dead, .cv .dead, .cv .dead, .cv .dead, .cv .dead, .cv .dead, .cv .dead, .cv .dead, .cv .dead, .cv .dead, .cv .dead, .cv .dead, .cv .dead, .cv .dead, .cv (.val (.int .i64) v24), .cv (.val (.int .i64) v25), .cv .dead, .cv .dead, .cv .dead, .cv .dead, .cv .dead, .cv .dead, .cv .dead, .cv .dead, .cv .dead, .cv .dead, .cv .dead, .cv .dead, .cv .dead, .cv .dead, .cv .dead, .cv .dead, .cv .dead, .cv .dead, .cv .dead, .cv .dead, .cv .dead, .cv .dead, .cv .dead, .cv .dead, .cv .dead, .cv .dead, .cv .dead], [(100008, .row (.int .i64) o100008 true true)], true⟩
noncomputable def i_all (k : Nat) (x : (List Int) × Int) : Option ((List (List Int)) × Bool) := aFn E i_all_fi k x
noncomputable def i_all_l9 (k : Nat) (v0 : List Int) (v7 : Int) (o100006 : List (List Int)) : Option ((List (List Int)) × Bool) := aRun E k i_all_fi.rs (ioOf i_all_fi.ps) i_all_fi.res i_all_fi.hints [.code (sub i_all_c [1, 0, 1, 0, 1, 1, 1, 1, 1, 0, 1, 0, 1, 0, 0, 0, 0]), .code (sub i_all_c [1, 0, 1, 0, 1, 1, 1, 1, 1, 0, 1, 0, 1, 0, 0, 0, 1]), .code (sub i_all_c [1, 0, 1, 0, 1, 1, 1, 1, 1, 0, 1, 0, 1, 0, 0, 1]), .inLoop (sub i_all_c [1, 0, 1, 0, 1, 1, 1, 1, 1, 0, 1, 0, 1, 0, 0]), .inBlock 1, .code (sub i_all_c [1, 0, 1, 0, 1, 1, 1, 1, 1, 0, 1, 1]), .inBlock 0, .code (sub i_all_c [1, 1])] ⟨[.cv (.val (.slice (.int .i64)) v0), .cv .dead, .cv .dead, .cv .dead, .cv .dead, .cv .dead, .cv (.own 100006), .cv (.val (.int .i64) v7), .cv .dead, .cv .dead, .cv .dead, .cv .dead, .cv .dead, .cv .dead, .cv .dead, .cv .dead, .cv .dead, .cv .dead, .cv .dead, .cv .dead, .cv .dead, .cv .dead, .cv .dead, .cv .dead, .cv .dead, .cv .dead, .cv .dead, .cv .dead, .cv .dead, .cv .dead, .cv .dead, .cv .dead, .cv .dead, .cv .dead, .cv .dead, .cv .dead, .cv .dead, .cv .dead, .cv .dead, .cv .dead, .cv .dead, .cv .dead, .cv .dead, .cv .dead, .cv .dead, .cv .dead, .cv .dead, .cv .dead, .cv .dead, .cv .dead, .cv .dead, .cv .dead, .cv .dead, .cv .dead, .cv .dead, .cv .dead, .cv .dead, .cv .dead, .cv .dead, .cv .dead, .cv .dead, .cv .dead, .cv .dead, .cv .dead, .cv .dead, .cv .dead, .cv .dead, .cv .dead, .cv .dead, .cv .dead, .cv .dead], [(100006, .row (.slice (.int .i64)) o100006 true true)], true⟩
noncomputable def i_all_l20 (k : Nat) (v0 : List Int) (v48 : Int) (v49 : Int) (o100008 : List (List Int)) : Option ((List (List Int)) × Bool) := aRun E k i_all_fi.rs (ioOf i_all_fi.ps) i_all_fi.res i_all_fi.hints [.code (sub i_all_c [1, 0, 1, 0, 1, 1, 1, 1, 1, 1, 1, 1, 1, 0, 1, 0, 1, 0, 0, 0]), .code (sub i_all_c [1, 0, 1, 0, 1, 1, 1, 1, 1, 1, 1, 1, 1, 0, 1, 0, 1, 0, 0, 1]), .inLoop (sub i_all_c [1, 0, 1, 0, 1, 1, 1, 1, 1, 1, 1, 1, 1, 0, 1, 0, 1, 0, 0]), .inBlock 3, .code (sub i_all_c [1, 0, 1, 0, 1, 1, 1, 1, 1, 1, 1, 1, 1, 0, 1, 1]), .inBlock 0, .code (sub i_all_c [1, 1])] ⟨[.cv (.val (.slice (.int .i64)) v0), .cv .dead, .cv .dead, .cv .dead, .cv .dead, .cv .dead, .cv .dead, .cv .dead, .cv (.own 100008), .cv .dead, .cv .dead, .cv .dead, .cv .dead, .cv .dead, .cv .dead, .cv .dead, .cv .dead, .cv .dead, .cv .dead, .cv .dead, .cv .dead, .cv .dead, .cv .dead, .cv .dead, .cv .dead, .cv .dead, .cv .dead, .cv .dead, .cv .dead, .cv .dead, .cv .dead, .cv .dead, .cv .dead, .cv .dead, .cv .dead, .cv .dead, .cv .dead, .cv .dead, .cv .dead, .cv .dead, .cv .dead, .cv .dead, .cv .dead, .cv .dead, .cv .dead, .cv .dead, .cv .dead, .cv .dead, .cv (.val (.int .i64) v48), .cv (.val (.int .i64) v49), .cv .dead, .cv .dead, .cv .dead, .cv .dead, .cv .dead, .cv .dead, .cv .dead, .cv .dead, .cv .dead, .cv .dead, .cv .dead, .cv .dead, .cv .dead, .cv .dead, .cv .dead, .cv .dead, .cv .dead, .cv .dead, .cv .dead, .cv .dead, .cv .dead], [(100008, .row (.slice (.int .i64)) o100008 true true)], true⟩
noncomputable def slices_SortFunc_int_int (k : Nat) (x : (List (List Int)) × Bool) : Option ((Unit) × List (List Int)) := aFn E slices_SortFunc_int_int_fi k x
noncomputable def slices_CompactFunc_int_int (k : Nat) (x : (List (List Int)) × Bool) : Option (List (List Int)) := aFn E slices_CompactFunc_int_int_fi k x
noncomputable def i_SortPackets (k : Nat) (x : List (List Int)) : Option (List (List Int)) := aFn E i_SortPackets_fi k x
noncomputable def i_SortPackets_l3 (k : Nat) (v6 : List (List Int)) (v7 : Int) (v8 : Int) (o100003 : List (List Int)) : Option (List (List Int)) := aRun E k i_SortPackets_fi.rs (ioOf i_SortPackets_fi.ps) i_SortPackets_fi.res i_SortPackets_fi.hints [.code (sub i_SortPackets_c [1, 1, 0, 1, 0, 0, 0]), .code (sub i_SortPackets_c [1, 1, 0, 1, 0, 0, 1]), .inLoop (sub i_SortPackets_c [1, 1, 0, 1, 0, 0]), .inBlock 0, .code (sub i_SortPackets_c [1, 1, 1])] ⟨[.cv .dead, .cv .dead, .cv .dead, .cv (.own 100003), .cv .dead, .cv .dead, .cv (.val (.slice (.slice (.int .i64))) v6), .cv (.val (.int .i64) v7), .cv (.val (.int .i64) v8), .cv .dead, .cv .dead, .cv .dead, .cv .dead, .cv .dead, .cv .dead, .cv .dead, .cv .dead, .cv .dead, .cv .dead, .cv .dead, .cv .dead, .cv .dead], [(100003, .row (.slice (.int .i64)) o100003 true true)], true⟩
noncomputable def i_ResultsOf (k : Nat) (x : (List Int) × Int) : Option ((List (List Int)) × Bool) := aFn E i_ResultsOf_fi k x
noncomputable def i_ResultsAfter (k : Nat) (x : (List (List Int)) × Int) : Option ((List (List Int)) × Bool) := aFn E i_ResultsAfter_fi k x
noncomputable def i_ResultsAfter_l3 (k : Nat) (v1 : Int) (v11 : List (List Int)) (v12 : Int) (v13 : Int) (o100006 : List (List Int)) : Option ((List (List Int)) × Bool) := aRun E k i_ResultsAfter_fi.rs (ioOf i_ResultsAfter_fi.ps) i_ResultsAfter_fi.res i_ResultsAfter_fi.hints [.code (sub i_ResultsAfter_c [1, 1, 0, 1, 0, 0, 0]), .code (sub i_ResultsAfter_c [1, 1, 0, 1, 0, 0, 1]), .inLoop (sub i_ResultsAfter_c [1, 1, 0, 1, 0, 0]), .inBlock 0, .code (sub i_ResultsAfter_c [1, 1, 1])] ⟨[.cv .dead, .cv (.val (.int .i64) v1), .cv .dead, .cv .dead, .cv .dead, .cv .dead, .cv (.own 100006), .cv .dead, .cv .dead, .cv .dead, .cv .dead, .cv (.val (.slice (.slice (.int .i64))) v11), .cv (.val (.int .i64) v12), .cv (.val (.int .i64) v13), .cv .dead, .cv .dead, .cv .dead, .cv .dead, .cv .dead, .cv .dead, .cv .dead, .cv .dead, .cv .dead, .cv .dead, .cv .dead, .cv .dead, .cv .dead, .cv .dead, .cv .dead, .cv .dead, .cv .dead, .cv .dead, .cv .dead, .cv .dead, .cv .dead, .cv .dead, .cv .dead, .cv .dead, .cv .dead, .cv .dead], [(100006, .row (.slice (.int .i64)) o100006 true false)], true⟩
noncomputable def i_AfterChoice (k : Nat) (x : (List (List Int)) × Int) : Option ((List (List Int)) × Bool) := aFn E i_AfterChoice_fi k x
noncomputable def w_eqIntS (k : Nat) (x : (List Int) × List Int) : Option (Bool) := aFn E w_eqIntS_fi k x
noncomputable def w_eqIntS_l4 (k : Nat) (v0 : List Int) (v1 : List Int) (v5 : Int) : Option (Bool) := aRun E k w_eqIntS_fi.rs (ioOf w_eqIntS_fi.ps) w_eqIntS_fi.res w_eqIntS_fi.hints [.code (sub w_eqIntS_c [1, 1, 0, 1, 0, 0, 0, 0]), .code (sub w_eqIntS_c [1, 1, 0, 1, 0, 0, 0, 1]), .code (sub w_eqIntS_c [1, 1, 0, 1, 0, 0, 1]), .inLoop (sub w_eqIntS_c [1, 1, 0, 1, 0, 0]), .inBlock 0, .code (sub w_eqIntS_c [1, 1, 1])] ⟨[.cv (.val (.slice (.int .i64)) v0), .cv (.val (.slice (.int .i64)) v1), .cv .dead, .cv .dead, .cv .dead, .cv (.val (.int .i64) v5), .cv .dead, .cv .dead, .cv .dead, .cv .dead, .cv .dead, .cv .dead, .cv .dead, .cv .dead, .cv .dead, .cv .dead, .cv .dead, .cv .dead, .cv .dead, .cv .dead, .cv .dead, .cv .dead, .cv .dead, .cv .dead, .cv .dead, .cv .dead], [], true⟩
noncomputable def w_eqIntSS (k : Nat) (x : (List (List Int)) × List (List Int)) : Option (Bool) := aFn E w_eqIntSS_fi k x
noncomputable def w_eqIntSS_l4 (k : Nat) (v0 : List (List Int)) (v1 : List (List Int)) (v5 : Int) : Option (Bool) := aRun E k w_eqIntSS_fi.rs (ioOf w_eqIntSS_fi.ps) w_eqIntSS_fi.res w_eqIntSS_fi.hints [.code (sub w_eqIntSS_c [1, 1, 0, 1, 0, 0, 0, 0]), .code (sub w_eqIntSS_c [1, 1, 0, 1, 0, 0, 0, 1]), .code (sub w_eqIntSS_c [1, 1, 0, 1, 0, 0, 1]), .inLoop (sub w_eqIntSS_c [1, 1, 0, 1, 0, 0]), .inBlock 0, .code (sub w_eqIntSS_c [1, 1, 1])] ⟨[.cv (.val (.slice (.slice (.int .i64))) v0), .cv (.val (.slice (.slice (.int .i64))) v1), .cv .dead, .cv .dead, .cv .dead, .cv (.val (.int .i64) v5), .cv .dead, .cv .dead, .cv .dead, .cv .dead, .cv .dead, .cv .dead, .cv .dead, .cv .dead, .cv .dead, .cv .dead, .cv .dead, .cv .dead, .cv .dead, .cv .dead, .cv .dead, .cv .dead, .cv .dead, .cv .dead, .cv .dead, .cv .dead, .cv .dead], [], true⟩
noncomputable def w_markIntS (k : Nat) (x : (List Int) × Int) : Option ((Int) × List Int) := aFn E w_markIntS_fi k x
noncomputable def w_markIntS_l2 (k : Nat) (v1 : Int) (v5 : Int) (o500000 : List Int) : Option ((Int) × List Int) := aRun E k w_markIntS_fi.rs (ioOf w_markIntS_fi.ps) w_markIntS_fi.res w_markIntS_fi.hints [.code (sub w_markIntS_c [1, 0, 1, 0, 0, 0, 0]), .code (sub w_markIntS_c [1, 0, 1, 0, 0, 0, 1]), .code (sub w_markIntS_c [1, 0, 1, 0, 0, 1]), .inLoop (sub w_markIntS_c [1, 0, 1, 0, 0]), .inBlock 0, .code (sub w_markIntS_c [1, 1])] ⟨[.cv (.own 500000), .cv (.val (.int .i64) v1), .cv .dead, .cv .dead, .cv .dead, .cv (.val (.int .i64) v5), .cv .dead, .cv .dead, .cv .dead, .cv .dead, .cv .dead, .cv .dead, .cv .dead, .cv .dead, .cv .dead, .cv .dead, .cv .dead, .cv .dead, .cv .dead], [(500000, .row (.int .i64) o500000 true false)], true⟩
noncomputable def w_markIntSS (k : Nat) (x : (List (List Int)) × Int) : Option ((Int) × List (List Int)) := aFn E w_markIntSS_fi k x
noncomputable def w_markIntSS_l2 (k : Nat) (v1 : Int) (v5 : Int) (o500000 : List (List Int)) : Option ((Int) × List (List Int)) := aRun E k w_markIntSS_fi.rs (ioOf w_markIntSS_fi.ps) w_markIntSS_fi.res w_markIntSS_fi.hints [.code (sub w_markIntSS_c [1, 0, 1, 0, 0, 0, 0]), .code (sub w_markIntSS_c [1, 0, 1, 0, 0, 0, 1]), .code (sub w_markIntSS_c [1, 0, 1, 0, 0, 1]), .inLoop (sub w_markIntSS_c [1, 0, 1, 0, 0]), .inBlock 0, .code (sub w_markIntSS_c [1, 1])] ⟨[.cv (.own 500000), .cv (.val (.int .i64) v1), .cv .dead, .cv .dead, .cv .dead, .cv (.val (.int .i64) v5), .cv .dead, .cv .dead, .cv .dead, .cv .dead, .cv .dead, .cv .dead, .cv .dead, .cv .dead, .cv .dead, .cv .dead, .cv .dead, .cv .dead, .cv .dead], [(500000, .row (.slice (.int .i64)) o500000 true false)], true⟩
noncomputable def w_heldIntS (k : Nat) (x : (List Int) × Int) : Option (Int) := aFn E w_heldIntS_fi k x
noncomputable def w_heldIntS_l2 (k : Nat) (v0 : List Int) (v1 : Int) (v5 : Int) : Option (Int) := aRun E k w_heldIntS_fi.rs (ioOf w_heldIntS_fi.ps) w_heldIntS_fi.res w_heldIntS_fi.hints [.code (sub w_heldIntS_c [1, 0, 1, 0, 0, 0, 0]), .code (sub w_heldIntS_c [1, 0, 1, 0, 0, 0, 1]), .code (sub w_heldIntS_c [1, 0, 1, 0, 0, 1]), .inLoop (sub w_heldIntS_c [1, 0, 1, 0, 0]), .inBlock 0, .code (sub w_heldIntS_c [1, 1])] ⟨[.cv (.val (.slice (.int .i64)) v0), .cv (.val (.int .i64) v1), .cv .dead, .cv .dead, .cv .dead, .cv (.val (.int .i64) v5), .cv .dead, .cv .dead, .cv .dead, .cv .dead, .cv .dead, .cv .dead, .cv .dead, .cv .dead, .cv .dead, .cv .dead, .cv .dead, .cv .dead, .cv .dead, .cv .dead, .cv .dead], [], true⟩
noncomputable def w_heldIntSS (k : Nat) (x : (List (List Int)) × Int) : Option (Int) := aFn E w_heldIntSS_fi k x
noncomputable def w_heldIntSS_l2 (k : Nat) (v0 : List (List Int)) (v1 : Int) (v5 : Int) : Option (Int) := aRun E k w_heldIntSS_fi.rs (ioOf w_heldIntSS_fi.ps) w_heldIntSS_fi.res w_heldIntSS_fi.hints [.code (sub w_heldIntSS_c [1, 0, 1, 0, 0, 0, 0]), .code (sub w_heldIntSS_c [1, 0, 1, 0, 0, 0, 1]), .code (sub w_heldIntSS_c [1, 0, 1, 0, 0, 1]), .inLoop (sub w_heldIntSS_c [1, 0, 1, 0, 0]), .inBlock 0, .code (sub w_heldIntSS_c [1, 1])] ⟨[.cv (.val (.slice (.slice (.int .i64))) v0), .cv (.val (.int .i64) v1), .cv .dead, .cv .dead, .cv .dead, .cv (.val (.int .i64) v5), .cv .dead, .cv .dead, .cv .dead, .cv .dead, .cv .dead, .cv .dead, .cv .dead, .cv .dead, .cv .dead, .cv .dead, .cv .dead, .cv .dead, .cv .dead, .cv .dead, .cv .dead], [], true⟩
noncomputable def w_FnExactAfterChoice (k : Nat) (x : (List (List Int)) × Int) : Option (Bool) := aFn E w_FnExactAfterChoice_fi k x

theorem w_szIntS_eq (k : Nat) (x0 : List Int) (x1 : Int) : w_szIntS (k + 1) (x0, x1) =
  bif decide ((IntKind.i64.wrap (x1 - (x0.length : Int))) < (0 : Int)) then
    (some (-1 : Int))
  else (some (IntKind.i64.wrap (x1 - (x0.length : Int)))) := by kernel_rfl
theorem w_szIntSS_eq (k : Nat) (x0 : List (List Int)) (x1 : Int) : w_szIntSS (k + 1) (x0, x1) =
  bif decide ((IntKind.i64.wrap (x1 - (x0.length : Int))) < (0 : Int)) then
    (some (-1 : Int))
  else (w_szIntSS_l5 k x0 (IntKind.i64.wrap (x1 - (x0.length : Int))) (0 : Int)) := by kernel_rfl
theorem w_szIntSS_l5_eq (k : Nat) (v0 : List (List Int)) (v1 : Int) (v5 : Int) : w_szIntSS_l5 (k + 1) v0 v1 v5 =
  bif decide (v5 < (v0.length : Int)) then
    (bif decide (0 ≤ v5) then
      (bif decide (v5 < (v0.length : Int)) then
        ((w_szIntS k ((v0.getD v5.toNat []), v1)).bind fun y1 =>
        bif decide (y1 < (0 : Int)) then
          (some (-1 : Int))
        else (w_szIntSS_l5 k v0 y1 (IntKind.i64.wrap (v5 + (1 : Int)))))
      else (none))
    else (none))
  else (some v1) := by kernel_rfl
theorem w_toIntS_eq (k : Nat) (x0 : List Int) : w_toIntS (k + 1) x0 =
  bif decide (0 ≤ (x0.length : Int)) then
    (bif decide ((x0.length : Int) ≤ (rowMax : Int)) then
      (bif ((x0.length : Int) == (x0.length : Int)) then
        (w_toIntS_l3 k x0 (0 : Int) (List.replicate (x0.length : Int).toNat (0 : Int)))
      else (none))
    else (none))
  else (none) := by kernel_rfl
theorem w_toIntS_l3_eq (k : Nat) (v0 : List Int) (v4 : Int) (o100003 : List Int) : w_toIntS_l3 (k + 1) v0 v4 o100003 =
  bif decide (v4 < (v0.length : Int)) then
    (bif decide (0 ≤ v4) then
      (bif decide (v4 < (v0.length : Int)) then
        (bif decide (0 ≤ v4) then
          (bif decide (v4 < (o100003.length : Int)) then
            (bif decide (v4.toNat < o100003.length) then
              (w_toIntS_l3 k v0 (IntKind.i64.wrap (v4 + (1 : Int))) (o100003.set v4.toNat (v0.getD v4.toNat (0 : Int))))
            else (none))
          else (none))
        else (none))
      else (none))
    else (none))
  else (some o100003) := by kernel_rfl
theorem w_toIntSS_eq (k : Nat) (x0 : List (List Int)) : w_toIntSS (k + 1) x0 =
  bif decide (0 ≤ (x0.length : Int)) then
    (bif decide ((x0.length : Int) ≤ (rowMax : Int)) then
      (bif ((x0.length : Int) == (x0.length : Int)) then
        (w_toIntSS_l3 k x0 (0 : Int) (List.replicate (x0.length : Int).toNat []))
      else (none))
    else (none))
  else (none) := by kernel_rfl
theorem w_toIntSS_l3_eq (k : Nat) (v0 : List (List Int)) (v4 : Int) (o100003 : List (List Int)) : w_toIntSS_l3 (k + 1) v0 v4 o100003 =
  bif decide (v4 < (v0.length : Int)) then
    (bif decide (0 ≤ v4) then
      (bif decide (v4 < (v0.length : Int)) then
        ((w_toIntS k (v0.getD v4.toNat [])).bind fun y1 =>
        bif decide (0 ≤ v4) then
          (bif decide (v4 < (o100003.length : Int)) then
            (bif decide (v4.toNat < o100003.length) then
              (w_toIntSS_l3 k v0 (IntKind.i64.wrap (v4 + (1 : Int))) (o100003.set v4.toNat y1))
            else (none))
          else (none))
        else (none))
      else (none))
    else (none))
  else (some o100003) := by kernel_rfl
theorem s_l01In_eq (k : Nat) (x0 : Int) (x1 : Int) (x2 : Int) : s_l01In (k + 1) (x0, x1, x2) =
  bif decide (x0 ≥ x1) then
    (some (decide (x0 ≤ x2)))
  else (some false) := by kernel_rfl
theorem s_CardOf_eq (k : Nat) (x0 : Int) : s_CardOf (k + 1) x0 =
  (s_l01In k (x0, ((0 : Int), (11 : Int)))).bind fun y1 =>
  bif y1 then
    (some x0)
  else ((s_l01In k (x0, ((-12 : Int), (-1 : Int)))).bind fun y2 =>
    bif y2 then
      (some (IntKind.i64.wrap ((-1 : Int) - x0)))
    else (some (-1 : Int))) := by kernel_rfl
theorem s_l02Has_eq (k : Nat) (x0 : List Int) (x1 : Int) : s_l02Has (k + 1) (x0, x1) =
  s_l02Has_l2 k x1 x0 (x0.length : Int) (0 : Int) := by kernel_rfl
theorem s_l02Has_l2_eq (k : Nat) (v1 : Int) (v7 : List Int) (v8 : Int) (v9 : Int) : s_l02Has_l2 (k + 1) v1 v7 v8 v9 =
  bif decide (v9 < v8) then
    (bif decide (0 ≤ v9) then
      (bif decide (v9 < (v7.length : Int)) then
        (bif ((v7.getD v9.toNat (0 : Int)) == v1) then
          (some true)
        else (s_l02Has_l2 k v1 v7 v8 (IntKind.i64.wrap (v9 + (1 : Int)))))
      else (none))
    else (none))
  else (some false) := by kernel_rfl
theorem s_PacketOk_eq (k : Nat) (x0 : List Int) : s_PacketOk (k + 1) x0 =
  bif decide ((x0.length : Int) > (12 : Int)) then
    (some false)
  else (s_PacketOk_l5 k x0 (x0.length : Int) (0 : Int) ([] : List Int)) := by kernel_rfl
theorem s_PacketOk_l5_eq (k : Nat) (v11 : List Int) (v12 : Int) (v13 : Int) (o100003 : List Int) : s_PacketOk_l5 (k + 1) v11 v12 v13 o100003 =
  bif decide (v13 < v12) then
    (bif decide (0 ≤ v13) then
      (bif decide (v13 < (v11.length : Int)) then
        ((s_CardOf k (v11.getD v13.toNat (0 : Int))).bind fun y1 =>
        bif decide (y1 < (0 : Int)) then
          (some false)
        else ((s_l02Has k (o100003, y1)).bind fun y2 =>
          bif y2 then
            (some false)
          else (bif decide (o100003.length + [y1].length ≤ rowMax) then
              (s_PacketOk_l5 k v11 v12 (IntKind.i64.wrap (v13 + (1 : Int))) (o100003 ++ [y1]))
            else (none))))
      else (none))
    else (none))
  else (some true) := by kernel_rfl
theorem s_PositionOf_eq (k : Nat) (x0 : List Int) (x1 : Int) : s_PositionOf (k + 1) (x0, x1) =
  s_PositionOf_l2 k x1 x0 (x0.length : Int) (0 : Int) := by kernel_rfl
theorem s_PositionOf_l2_eq (k : Nat) (v1 : Int) (v7 : List Int) (v8 : Int) (v9 : Int) : s_PositionOf_l2 (k + 1) v1 v7 v8 v9 =
  bif decide (v9 < v8) then
    (bif decide (0 ≤ v9) then
      (bif decide (v9 < (v7.length : Int)) then
        ((s_CardOf k (v7.getD v9.toNat (0 : Int))).bind fun y1 =>
        bif (y1 == v1) then
          (bif decide (v1 ≥ (0 : Int)) then
            (some v9)
          else (s_PositionOf_l2 k v1 v7 v8 (IntKind.i64.wrap (v9 + (1 : Int)))))
        else (s_PositionOf_l2 k v1 v7 v8 (IntKind.i64.wrap (v9 + (1 : Int)))))
      else (none))
    else (none))
  else (some (-1 : Int)) := by kernel_rfl
theorem s_IsArrangement_eq (k : Nat) (x0 : List Int) (x1 : List Int) : s_IsArrangement (k + 1) (x0, x1) =
  (s_PacketOk k x0).bind fun y1 =>
  bif (!y1) then
    (some false)
  else ((s_PacketOk k x1).bind fun y2 =>
    bif (!y2) then
      (some false)
    else (bif (!((x0.length : Int) == (x1.length : Int))) then
        (some false)
      else (s_IsArrangement_l4 k x1 x0 (x0.length : Int) (0 : Int)))) := by kernel_rfl
theorem s_IsArrangement_l4_eq (k : Nat) (v1 : List Int) (v22 : List Int) (v23 : Int) (v24 : Int) : s_IsArrangement_l4 (k + 1) v1 v22 v23 v24 =
  bif decide (v24 < v23) then
    (bif decide (0 ≤ v24) then
      (bif decide (v24 < (v22.length : Int)) then
        ((s_CardOf k (v22.getD v24.toNat (0 : Int))).bind fun y1 =>
        (s_PositionOf k (v1, y1)).bind fun y2 =>
        bif decide (y2 < (0 : Int)) then
          (some false)
        else (s_IsArrangement_l4 k v1 v22 v23 (IntKind.i64.wrap (v24 + (1 : Int)))))
      else (none))
    else (none))
  else (some true) := by kernel_rfl
theorem s_l05Less_eq (k : Nat) (x0 : List Int) (x1 : List Int) : s_l05Less (k + 1) (x0, x1) =
  s_l05Less_l2 k x0 x1 x0 (x0.length : Int) (0 : Int) := by kernel_rfl
theorem s_l05Less_l2_eq (k : Nat) (v0 : List Int) (v1 : List Int) (v7 : List Int) (v8 : Int) (v9 : Int) : s_l05Less_l2 (k + 1) v0 v1 v7 v8 v9 =
  bif decide (v9 < v8) then
    (bif decide (0 ≤ v9) then
      (bif decide (v9 < (v7.length : Int)) then
        (bif decide (v9 ≥ (v1.length : Int)) then
          (some false)
        else (bif decide (0 ≤ v9) then
            (bif decide (v9 < (v1.length : Int)) then
              (bif (!((v7.getD v9.toNat (0 : Int)) == (v1.getD v9.toNat (0 : Int)))) then
                (bif decide (0 ≤ v9) then
                  (bif decide (v9 < (v1.length : Int)) then
                    (some (decide ((v7.getD v9.toNat (0 : Int)) < (v1.getD v9.toNat (0 : Int)))))
                  else (none))
                else (none))
              else (s_l05Less_l2 k v0 v1 v7 v8 (IntKind.i64.wrap (v9 + (1 : Int)))))
            else (none))
          else (none)))
      else (none))
    else (none))
  else (some (decide ((v0.length : Int) < (v1.length : Int)))) := by kernel_rfl
theorem s_KnowOk_eq (k : Nat) (x0 : List (List Int)) : s_KnowOk (k + 1) x0 =
  (s_l01In k ((x0.length : Int), ((1 : Int), (3000 : Int)))).bind fun y1 =>
  bif (!y1) then
    (some false)
  else (bif decide ((0 : Int) < (x0.length : Int)) then
      (bif (((x0.getD 0 []).length : Int) == (0 : Int)) then
        (some false)
      else (s_KnowOk_l4 k x0 x0 (x0.length : Int) (0 : Int)))
    else (none)) := by kernel_rfl
theorem s_KnowOk_l4_eq (k : Nat) (v0 : List (List Int)) (v16 : List (List Int)) (v17 : Int) (v18 : Int) : s_KnowOk_l4 (k + 1) v0 v16 v17 v18 =
  bif decide (v18 < v17) then
    (bif decide (0 ≤ v18) then
      (bif decide (v18 < (v16.length : Int)) then
        (bif decide ((0 : Int) < (v0.length : Int)) then
          ((s_IsArrangement k ((v0.getD 0 []), (v16.getD v18.toNat []))).bind fun y1 =>
          bif (!y1) then
            (some false)
          else (bif decide (v18 > (0 : Int)) then
              (bif decide (0 ≤ (IntKind.i64.wrap (v18 - (1 : Int)))) then
                (bif decide ((IntKind.i64.wrap (v18 - (1 : Int))) < (v0.length : Int)) then
                  ((s_l05Less k ((v0.getD (IntKind.i64.wrap (v18 - (1 : Int))).toNat []), (v16.getD v18.toNat []))).bind fun y2 =>
                  bif (!y2) then
                    (some false)
                  else (s_KnowOk_l4 k v0 v16 v17 (IntKind.i64.wrap (v18 + (1 : Int)))))
                else (none))
              else (none))
            else (s_KnowOk_l4 k v0 v16 v17 (IntKind.i64.wrap (v18 + (1 : Int))))))
        else (none))
      else (none))
    else (none))
  else (some true) := by kernel_rfl
theorem s_l05Ok_eq (k : Nat) (x0 : List Int) (x1 : Int) : s_l05Ok (k + 1) (x0, x1) =
  (s_PacketOk k x0).bind fun y1 =>
  bif (!y1) then
    (some false)
  else (bif ((x0.length : Int) == (0 : Int)) then
      (some false)
    else ((s_l01In k (x1, ((0 : Int), (4 : Int)))).bind fun y2 =>
      bif (!y2) then
        (some false)
      else (bif (!(x1 == (3 : Int))) then
          (bif (!(x1 == (2 : Int))) then
            (some true)
          else (some (decide ((x0.length : Int) ≤ (11 : Int)))))
        else (bif decide ((x0.length : Int) ≥ (2 : Int)) then
            (bif (!(x1 == (2 : Int))) then
              (some true)
            else (some (decide ((x0.length : Int) ≤ (11 : Int)))))
          else (some false))))) := by kernel_rfl
theorem s_TurnCard_eq (k : Nat) (x0 : Int) : s_TurnCard (k + 1) x0 =
  (s_CardOf k x0).bind fun y1 =>
  bif decide (y1 < (0 : Int)) then
    (some x0)
  else (some (IntKind.i64.wrap ((-1 : Int) - x0))) := by kernel_rfl
theorem s_l04Back_eq (k : Nat) (x0 : List Int) (x1 : Int) (x2 : Bool) : s_l04Back (k + 1) (x0, x1, x2) =
  s_l04Back_l3 k x0 x1 x2 (IntKind.i64.wrap (x1 - (1 : Int))) ([] : List Int) := by kernel_rfl
theorem s_l04Back_l3_eq (k : Nat) (v0 : List Int) (v1 : Int) (v2 : Bool) (v8 : Int) (o100007 : List Int) : s_l04Back_l3 (k + 1) v0 v1 v2 v8 o100007 =
  bif decide (v8 ≥ (0 : Int)) then
    (bif v2 then
      (bif decide (0 ≤ v8) then
        (bif decide (v8 < (v0.length : Int)) then
          ((s_TurnCard k (v0.getD v8.toNat (0 : Int))).bind fun y1 =>
          bif decide (o100007.length + [y1].length ≤ rowMax) then
            (s_l04Back_l3 k v0 v1 v2 (IntKind.i64.wrap (v8 - (1 : Int))) (o100007 ++ [y1]))
          else (none))
        else (none))
      else (none))
    else (bif decide (0 ≤ v8) then
        (bif decide (v8 < (v0.length : Int)) then
          (bif decide (o100007.length + [(v0.getD v8.toNat (0 : Int))].length ≤ rowMax) then
            (s_l04Back_l3 k v0 v1 v2 (IntKind.i64.wrap (v8 - (1 : Int))) (o100007 ++ [(v0.getD v8.toNat (0 : Int))]))
          else (none))
        else (none))
      else (none)))
  else (bif decide (0 ≤ v1) then
      (bif decide (v1 ≤ (v0.length : Int)) then
        (bif decide ((v0.length : Int) ≤ (v0.length : Int)) then
          (bif decide (o100007.length + ((v0.take ((v0.length : Int)).toNat).drop v1.toNat).length ≤ rowMax) then
            (some (o100007 ++ ((v0.take ((v0.length : Int)).toNat).drop v1.toNat)))
          else (none))
        else (none))
      else (none))
    else (none)) := by kernel_rfl
theorem s_l04Faro_eq (k : Nat) (x0 : List Int) (x1 : Int) : s_l04Faro (k + 1) (x0, x1) =
  bif decide (0 ≤ (IntKind.i64.wrap ((x0.length : Int).tdiv (2 : Int)))) then
    (bif decide ((IntKind.i64.wrap ((x0.length : Int).tdiv (2 : Int))) ≤ (x0.length : Int)) then
      (bif decide (0 ≤ (IntKind.i64.wrap ((x0.length : Int).tdiv (2 : Int)))) then
        (bif decide ((IntKind.i64.wrap ((x0.length : Int).tdiv (2 : Int))) ≤ (x0.length : Int)) then
          (bif decide ((x0.length : Int) ≤ (x0.length : Int)) then
            (s_l04Faro_l4 k x1 ((x0.take (IntKind.i64.wrap ((x0.length : Int).tdiv (2 : Int))).toNat).drop 0) ((x0.take ((x0.length : Int)).toNat).drop (IntKind.i64.wrap ((x0.length : Int).tdiv (2 : Int))).toNat) ([] : List Int))
          else (none))
        else (none))
      else (none))
    else (none))
  else (none) := by kernel_rfl
theorem s_l04Faro_l4_eq (k : Nat) (v1 : Int) (v5 : List Int) (v6 : List Int) (o100007 : List Int) : s_l04Faro_l4 (k + 1) v1 v5 v6 o100007 =
  bif decide ((v5.length : Int) > (0 : Int)) then
    (bif ((v6.length : Int) == (0 : Int)) then
      (bif decide ((0 : Int) < (v5.length : Int)) then
        (bif decide (o100007.length + [(v5.getD 0 (0 : Int))].length ≤ rowMax) then
          (bif decide ((1 : Int) ≤ (v5.length : Int)) then
            (bif decide ((v5.length : Int) ≤ (v5.length : Int)) then
              (s_l04Faro_l4 k v1 ((v5.take ((v5.length : Int)).toNat).drop 1) v6 (o100007 ++ [(v5.getD 0 (0 : Int))]))
            else (none))
          else (none))
        else (none))
      else (none))
    else (bif decide ((v5.length : Int) > (0 : Int)) then
        (bif (((o100007.length : Int).tmod (2 : Int)) == v1) then
          (bif decide ((0 : Int) < (v5.length : Int)) then
            (bif decide (o100007.length + [(v5.getD 0 (0 : Int))].length ≤ rowMax) then
              (bif decide ((1 : Int) ≤ (v5.length : Int)) then
                (bif decide ((v5.length : Int) ≤ (v5.length : Int)) then
                  (s_l04Faro_l4 k v1 ((v5.take ((v5.length : Int)).toNat).drop 1) v6 (o100007 ++ [(v5.getD 0 (0 : Int))]))
                else (none))
              else (none))
            else (none))
          else (none))
        else (bif decide ((0 : Int) < (v6.length : Int)) then
            (bif decide (o100007.length + [(v6.getD 0 (0 : Int))].length ≤ rowMax) then
              (bif decide ((1 : Int) ≤ (v6.length : Int)) then
                (bif decide ((v6.length : Int) ≤ (v6.length : Int)) then
                  (s_l04Faro_l4 k v1 v5 ((v6.take ((v6.length : Int)).toNat).drop 1) (o100007 ++ [(v6.getD 0 (0 : Int))]))
                else (none))
              else (none))
            else (none))
          else (none)))
      else (bif decide ((0 : Int) < (v6.length : Int)) then
          (bif decide (o100007.length + [(v6.getD 0 (0 : Int))].length ≤ rowMax) then
            (bif decide ((1 : Int) ≤ (v6.length : Int)) then
              (bif decide ((v6.length : Int) ≤ (v6.length : Int)) then
                (s_l04Faro_l4 k v1 v5 ((v6.take ((v6.length : Int)).toNat).drop 1) (o100007 ++ [(v6.getD 0 (0 : Int))]))
              else (none))
            else (none))
          else (none))
        else (none))))
  else (bif decide ((v6.length : Int) > (0 : Int)) then
      (bif ((v6.length : Int) == (0 : Int)) then
        (bif decide ((0 : Int) < (v5.length : Int)) then
          (bif decide (o100007.length + [(v5.getD 0 (0 : Int))].length ≤ rowMax) then
            (bif decide ((1 : Int) ≤ (v5.length : Int)) then
              (bif decide ((v5.length : Int) ≤ (v5.length : Int)) then
                (s_l04Faro_l4 k v1 ((v5.take ((v5.length : Int)).toNat).drop 1) v6 (o100007 ++ [(v5.getD 0 (0 : Int))]))
              else (none))
            else (none))
          else (none))
        else (none))
      else (bif decide ((v5.length : Int) > (0 : Int)) then
          (bif (((o100007.length : Int).tmod (2 : Int)) == v1) then
            (bif decide ((0 : Int) < (v5.length : Int)) then
              (bif decide (o100007.length + [(v5.getD 0 (0 : Int))].length ≤ rowMax) then
                (bif decide ((1 : Int) ≤ (v5.length : Int)) then
                  (bif decide ((v5.length : Int) ≤ (v5.length : Int)) then
                    (s_l04Faro_l4 k v1 ((v5.take ((v5.length : Int)).toNat).drop 1) v6 (o100007 ++ [(v5.getD 0 (0 : Int))]))
                  else (none))
                else (none))
              else (none))
            else (none))
          else (bif decide ((0 : Int) < (v6.length : Int)) then
              (bif decide (o100007.length + [(v6.getD 0 (0 : Int))].length ≤ rowMax) then
                (bif decide ((1 : Int) ≤ (v6.length : Int)) then
                  (bif decide ((v6.length : Int) ≤ (v6.length : Int)) then
                    (s_l04Faro_l4 k v1 v5 ((v6.take ((v6.length : Int)).toNat).drop 1) (o100007 ++ [(v6.getD 0 (0 : Int))]))
                  else (none))
                else (none))
              else (none))
            else (none)))
        else (bif decide ((0 : Int) < (v6.length : Int)) then
            (bif decide (o100007.length + [(v6.getD 0 (0 : Int))].length ≤ rowMax) then
              (bif decide ((1 : Int) ≤ (v6.length : Int)) then
                (bif decide ((v6.length : Int) ≤ (v6.length : Int)) then
                  (s_l04Faro_l4 k v1 v5 ((v6.take ((v6.length : Int)).toNat).drop 1) (o100007 ++ [(v6.getD 0 (0 : Int))]))
                else (none))
              else (none))
            else (none))
          else (none))))
    else (some o100007)) := by kernel_rfl
theorem s_l04Monge_eq (k : Nat) (x0 : List Int) (x1 : Int) : s_l04Monge (k + 1) (x0, x1) =
  s_l04Monge_l3 k x1 x0 (x0.length : Int) (0 : Int) ([] : List Int) := by kernel_rfl
theorem s_l04Monge_l3_eq (k : Nat) (v1 : Int) (v9 : List Int) (v10 : Int) (v11 : Int) (o100005 : List Int) : s_l04Monge_l3 (k + 1) v1 v9 v10 v11 o100005 =
  bif decide (v11 < v10) then
    (bif decide (0 ≤ v11) then
      (bif decide (v11 < (v9.length : Int)) then
        (bif (v11 == (0 : Int)) then
          (bif decide (o100005.length + [(v9.getD v11.toNat (0 : Int))].length ≤ rowMax) then
            (s_l04Monge_l3 k v1 v9 v10 (IntKind.i64.wrap (v11 + (1 : Int))) (o100005 ++ [(v9.getD v11.toNat (0 : Int))]))
          else (none))
        else (bif ((v11.tmod (2 : Int)) == v1) then
            (bif decide (o100005.length + [(v9.getD v11.toNat (0 : Int))].length ≤ rowMax) then
              (s_l04Monge_l3 k v1 v9 v10 (IntKind.i64.wrap (v11 + (1 : Int))) (o100005 ++ [(v9.getD v11.toNat (0 : Int))]))
            else (none))
          else (bif decide ([(v9.getD v11.toNat (0 : Int))].length + o100005.length ≤ rowMax) then
              (s_l04Monge_l3 k v1 v9 v10 (IntKind.i64.wrap (v11 + (1 : Int))) ([(v9.getD v11.toNat (0 : Int))] ++ o100005))
            else (none))))
      else (none))
    else (none))
  else (some o100005) := by kernel_rfl
theorem s_l04Milk_eq (k : Nat) (x0 : List Int) : s_l04Milk (k + 1) x0 =
  s_l04Milk_l2 k x0 ([] : List Int) := by kernel_rfl
theorem s_l04Milk_l2_eq (k : Nat) (v0 : List Int) (o100003 : List Int) : s_l04Milk_l2 (k + 1) v0 o100003 =
  bif decide ((v0.length : Int) > (1 : Int)) then
    (bif decide ((0 : Int) < (v0.length : Int)) then
      (bif decide (0 ≤ (IntKind.i64.wrap ((v0.length : Int) - (1 : Int)))) then
        (bif decide ((IntKind.i64.wrap ((v0.length : Int) - (1 : Int))) < (v0.length : Int)) then
          (bif decide ([(v0.getD 0 (0 : Int)), (v0.getD (IntKind.i64.wrap ((v0.length : Int) - (1 : Int))).toNat (0 : Int))].length + o100003.length ≤ rowMax) then
            (bif decide ((1 : Int) ≤ (IntKind.i64.wrap ((v0.length : Int) - (1 : Int)))) then
              (bif decide ((IntKind.i64.wrap ((v0.length : Int) - (1 : Int))) ≤ (v0.length : Int)) then
                (s_l04Milk_l2 k ((v0.take (IntKind.i64.wrap ((v0.length : Int) - (1 : Int))).toNat).drop 1) ([(v0.getD 0 (0 : Int)), (v0.getD (IntKind.i64.wrap ((v0.length : Int) - (1 : Int))).toNat (0 : Int))] ++ o100003))
              else (none))
            else (none))
          else (none))
        else (none))
      else (none))
    else (none))
  else (bif decide (([] : List Int).length + v0.length ≤ rowMax) then
      (bif decide ((([] : List Int) ++ v0).length + o100003.length ≤ rowMax) then
        (some ((([] : List Int) ++ v0) ++ o100003))
      else (none))
    else (none)) := by kernel_rfl
theorem s_l04Duck_eq (k : Nat) (x0 : List Int) (x1 : Int) : s_l04Duck (k + 1) (x0, x1) =
  bif decide (([] : List Int).length + x0.length ≤ rowMax) then
    (s_l04Duck_l4 k x1 (([] : List Int) ++ x0) ([] : List Int))
  else (none) := by kernel_rfl
theorem s_l04Duck_l4_eq (k : Nat) (v7 : Int) (o100005 : List Int) (o100006 : List Int) : s_l04Duck_l4 (k + 1) v7 o100005 o100006 =
  bif decide ((o100005.length : Int) > (1 : Int)) then
    (bif decide ((0 : Int) < (o100005.length : Int)) then
      (bif decide (0 < o100005.length) then
        (bif decide ((1 : Int) ≤ (o100005.length : Int)) then
          (bif decide ((o100005.length : Int) ≤ (o100005.length : Int)) then
            (bif ((v7.tmod (2 : Int)) == (1 : Int)) then
              (bif decide ([(o100005.getD 0 (0 : Int))].length + o100006.length ≤ rowMax) then
                (s_l04Duck_l4 k (IntKind.i64.wrap (v7 + (1 : Int))) ((o100005.take ((o100005.length : Int)).toNat).drop 1) ([(o100005.getD 0 (0 : Int))] ++ o100006))
              else (none))
            else (bif decide (((o100005.take ((o100005.length : Int)).toNat).drop 1).length + [(o100005.getD 0 (0 : Int))].length ≤ rowMax) then
                (s_l04Duck_l4 k (IntKind.i64.wrap (v7 + (1 : Int))) (((o100005.take ((o100005.length : Int)).toNat).drop 1) ++ [(o100005.getD 0 (0 : Int))]) o100006)
              else (none)))
          else (none))
        else (none))
      else (none))
    else (none))
  else (bif decide ((0 : Int) < (o100005.length : Int)) then
      (bif decide (0 < o100005.length) then
        (bif decide ([(o100005.getD 0 (0 : Int))].length + o100006.length ≤ rowMax) then
          (some ([(o100005.getD 0 (0 : Int))] ++ o100006))
        else (none))
      else (none))
    else (none)) := by kernel_rfl
theorem s_l04Do_eq (k : Nat) (x0 : List Int) (x1 : Int × Int) : s_l04Do (k + 1) (x0, x1) =
  bif (x1.1 == (1 : Int)) then
    (bif decide (0 ≤ x1.2) then
      (bif decide (x1.2 ≤ (x0.length : Int)) then
        (bif decide ((x0.length : Int) ≤ (x0.length : Int)) then
          (bif decide (([] : List Int).length + ((x0.take ((x0.length : Int)).toNat).drop x1.2.toNat).length ≤ rowMax) then
            (bif decide (0 ≤ x1.2) then
              (bif decide (x1.2 ≤ (x0.length : Int)) then
                (bif decide ((([] : List Int) ++ ((x0.take ((x0.length : Int)).toNat).drop x1.2.toNat)).length + ((x0.take x1.2.toNat).drop 0).length ≤ rowMax) then
                  (some ((([] : List Int) ++ ((x0.take ((x0.length : Int)).toNat).drop x1.2.toNat)) ++ ((x0.take x1.2.toNat).drop 0)))
                else (none))
              else (none))
            else (none))
          else (none))
        else (none))
      else (none))
    else (none))
  else (bif (x1.1 == (2 : Int)) then
      ((s_l04Back k (x0, (x1.2, false))).bind fun y1 =>
      some y1)
    else (bif (x1.1 == (3 : Int)) then
        ((s_l04Back k (x0, (x1.2, true))).bind fun y2 =>
        some y2)
      else (bif (x1.1 == (4 : Int)) then
          ((s_l04Faro k (x0, x1.2)).bind fun y3 =>
          some y3)
        else (bif (x1.1 == (5 : Int)) then
            ((s_l04Monge k (x0, x1.2)).bind fun y4 =>
            some y4)
          else (bif (x1.1 == (6 : Int)) then
              ((s_l04Milk k x0).bind fun y5 =>
              some y5)
            else (bif (x1.1 == (7 : Int)) then
                ((s_l04Duck k (x0, x1.2)).bind fun y6 =>
                some y6)
              else (bif (x1.1 == (8 : Int)) then
                  (bif decide (([] : List Int).length + x0.length ≤ rowMax) then
                    (bif decide (0 ≤ x1.2) then
                      (bif decide (x1.2 < (x0.length : Int)) then
                        ((s_TurnCard k (x0.getD x1.2.toNat (0 : Int))).bind fun y7 =>
                        bif decide (0 ≤ x1.2) then
                          (bif decide (x1.2 < ((([] : List Int) ++ x0).length : Int)) then
                            (bif decide (x1.2.toNat < (([] : List Int) ++ x0).length) then
                              (some ((([] : List Int) ++ x0).set x1.2.toNat y7))
                            else (none))
                          else (none))
                        else (none))
                      else (none))
                    else (none))
                  else (none))
                else (bif decide (0 ≤ x1.2) then
                    (bif decide (x1.2 ≤ (x0.length : Int)) then
                      (bif decide (([] : List Int).length + ((x0.take x1.2.toNat).drop 0).length ≤ rowMax) then
                        (bif decide (0 ≤ (IntKind.i64.wrap (x1.2 + (1 : Int)))) then
                          (bif decide ((IntKind.i64.wrap (x1.2 + (1 : Int))) ≤ (x0.length : Int)) then
                            (bif decide ((x0.length : Int) ≤ (x0.length : Int)) then
                              (bif decide ((([] : List Int) ++ ((x0.take x1.2.toNat).drop 0)).length + ((x0.take ((x0.length : Int)).toNat).drop (IntKind.i64.wrap (x1.2 + (1 : Int))).toNat).length ≤ rowMax) then
                                (bif decide (0 ≤ x1.2) then
                                  (bif decide (x1.2 < (x0.length : Int)) then
                                    (bif decide (((([] : List Int) ++ ((x0.take x1.2.toNat).drop 0)) ++ ((x0.take ((x0.length : Int)).toNat).drop (IntKind.i64.wrap (x1.2 + (1 : Int))).toNat)).length + [(x0.getD x1.2.toNat (0 : Int))].length ≤ rowMax) then
                                      (some (((([] : List Int) ++ ((x0.take x1.2.toNat).drop 0)) ++ ((x0.take ((x0.length : Int)).toNat).drop (IntKind.i64.wrap (x1.2 + (1 : Int))).toNat)) ++ [(x0.getD x1.2.toNat (0 : Int))]))
                                    else (none))
                                  else (none))
                                else (none))
                              else (none))
                            else (none))
                          else (none))
                        else (none))
                      else (none))
                    else (none))
                  else (none))))))))) := by kernel_rfl
theorem s_l05Cuts_eq (k : Nat) (x0 : List Int) : s_l05Cuts (k + 1) x0 =
  s_l05Cuts_l3 k x0 (x0.length : Int) (0 : Int) ([] : List (List Int)) := by kernel_rfl
theorem s_l05Cuts_l3_eq (k : Nat) (v0 : List Int) (v7 : Int) (v8 : Int) (o100003 : List (List Int)) : s_l05Cuts_l3 (k + 1) v0 v7 v8 o100003 =
  bif decide (v8 < v7) then
    ((s_l04Do k (v0, ((1 : Int), v8))).bind fun y1 =>
    bif decide (o100003.length + [y1].length ≤ rowMax) then
      (s_l05Cuts_l3 k v0 v7 (IntKind.i64.wrap (v8 + (1 : Int))) (o100003 ++ [y1]))
    else (none))
  else (some o100003) := by kernel_rfl
theorem s_l05Weave_eq (k : Nat) (x0 : List (List Int)) (x1 : List Int) (x2 : List Int) (x3 : List Int) : s_l05Weave (k + 1) (x0, x1, x2, x3) =
  bif ((x2.length : Int) == (0 : Int)) then
    (bif ((x3.length : Int) == (0 : Int)) then
      (bif decide (x0.length + [x1].length ≤ rowMax) then
        (some (x0 ++ [x1]))
      else (none))
    else (bif decide ((x2.length : Int) > (0 : Int)) then
        (bif decide (([] : List Int).length + x1.length ≤ rowMax) then
          (bif decide ((0 : Int) < (x2.length : Int)) then
            (bif decide ((([] : List Int) ++ x1).length + [(x2.getD 0 (0 : Int))].length ≤ rowMax) then
              (bif decide ((1 : Int) ≤ (x2.length : Int)) then
                (bif decide ((x2.length : Int) ≤ (x2.length : Int)) then
                  ((s_l05Weave k (x0, (((([] : List Int) ++ x1) ++ [(x2.getD 0 (0 : Int))]), (((x2.take ((x2.length : Int)).toNat).drop 1), x3)))).bind fun y1 =>
                  bif decide ((x3.length : Int) > (0 : Int)) then
                    (bif decide (([] : List Int).length + x1.length ≤ rowMax) then
                      (bif decide ((0 : Int) < (x3.length : Int)) then
                        (bif decide ((([] : List Int) ++ x1).length + [(x3.getD 0 (0 : Int))].length ≤ rowMax) then
                          (bif decide ((1 : Int) ≤ (x3.length : Int)) then
                            (bif decide ((x3.length : Int) ≤ (x3.length : Int)) then
                              ((s_l05Weave k (y1, (((([] : List Int) ++ x1) ++ [(x3.getD 0 (0 : Int))]), (x2, ((x3.take ((x3.length : Int)).toNat).drop 1))))).bind fun y2 =>
                              some y2)
                            else (none))
                          else (none))
                        else (none))
                      else (none))
                    else (none))
                  else (some y1))
                else (none))
              else (none))
            else (none))
          else (none))
        else (none))
      else (bif decide ((x3.length : Int) > (0 : Int)) then
          (bif decide (([] : List Int).length + x1.length ≤ rowMax) then
            (bif decide ((0 : Int) < (x3.length : Int)) then
              (bif decide ((([] : List Int) ++ x1).length + [(x3.getD 0 (0 : Int))].length ≤ rowMax) then
                (bif decide ((1 : Int) ≤ (x3.length : Int)) then
                  (bif decide ((x3.length : Int) ≤ (x3.length : Int)) then
                    ((s_l05Weave k (x0, (((([] : List Int) ++ x1) ++ [(x3.getD 0 (0 : Int))]), (x2, ((x3.take ((x3.length : Int)).toNat).drop 1))))).bind fun y3 =>
                    some y3)
                  else (none))
                else (none))
              else (none))
            else (none))
          else (none))
        else (some x0))))
  else (bif decide ((x2.length : Int) > (0 : Int)) then
      (bif decide (([] : List Int).length + x1.length ≤ rowMax) then
        (bif decide ((0 : Int) < (x2.length : Int)) then
          (bif decide ((([] : List Int) ++ x1).length + [(x2.getD 0 (0 : Int))].length ≤ rowMax) then
            (bif decide ((1 : Int) ≤ (x2.length : Int)) then
              (bif decide ((x2.length : Int) ≤ (x2.length : Int)) then
                ((s_l05Weave k (x0, (((([] : List Int) ++ x1) ++ [(x2.getD 0 (0 : Int))]), (((x2.take ((x2.length : Int)).toNat).drop 1), x3)))).bind fun y4 =>
                bif decide ((x3.length : Int) > (0 : Int)) then
                  (bif decide (([] : List Int).length + x1.length ≤ rowMax) then
                    (bif decide ((0 : Int) < (x3.length : Int)) then
                      (bif decide ((([] : List Int) ++ x1).length + [(x3.getD 0 (0 : Int))].length ≤ rowMax) then
                        (bif decide ((1 : Int) ≤ (x3.length : Int)) then
                          (bif decide ((x3.length : Int) ≤ (x3.length : Int)) then
                            ((s_l05Weave k (y4, (((([] : List Int) ++ x1) ++ [(x3.getD 0 (0 : Int))]), (x2, ((x3.take ((x3.length : Int)).toNat).drop 1))))).bind fun y5 =>
                            some y5)
                          else (none))
                        else (none))
                      else (none))
                    else (none))
                  else (none))
                else (some y4))
              else (none))
            else (none))
          else (none))
        else (none))
      else (none))
    else (bif decide ((x3.length : Int) > (0 : Int)) then
        (bif decide (([] : List Int).length + x1.length ≤ rowMax) then
          (bif decide ((0 : Int) < (x3.length : Int)) then
            (bif decide ((([] : List Int) ++ x1).length + [(x3.getD 0 (0 : Int))].length ≤ rowMax) then
              (bif decide ((1 : Int) ≤ (x3.length : Int)) then
                (bif decide ((x3.length : Int) ≤ (x3.length : Int)) then
                  ((s_l05Weave k (x0, (((([] : List Int) ++ x1) ++ [(x3.getD 0 (0 : Int))]), (x2, ((x3.take ((x3.length : Int)).toNat).drop 1))))).bind fun y6 =>
                  some y6)
                else (none))
              else (none))
            else (none))
          else (none))
        else (none))
      else (some x0))) := by kernel_rfl
theorem s_l05Of_eq (k : Nat) (x0 : List Int) (x1 : Int) : s_l05Of (k + 1) (x0, x1) =
  bif (x1 == (1 : Int)) then
    ((s_l05Cuts k x0).bind fun y1 =>
    some y1)
  else (bif (x1 == (2 : Int)) then
      (s_l05Of_l7 k x0 (0 : Int) ([] : List (List Int)))
    else (bif (x1 == (3 : Int)) then
        ((s_l04Back k (x0, ((2 : Int), true))).bind fun y2 =>
        (s_l05Cuts k y2).bind fun y3 =>
        some y3)
      else (bif (x1 == (4 : Int)) then
          (s_l05Of_l15 k x0 x0 (x0.length : Int) (0 : Int) ([] : List (List Int)))
        else (bif decide (([] : List (List Int)).length + [x0].length ≤ rowMax) then
            (some (([] : List (List Int)) ++ [x0]))
          else (none))))) := by kernel_rfl
theorem s_l05Of_l7_eq (k : Nat) (v0 : List Int) (v6 : Int) (o100005 : List (List Int)) : s_l05Of_l7 (k + 1) v0 v6 o100005 =
  bif decide (v6 ≤ (v0.length : Int)) then
    (bif decide (0 ≤ v6) then
      (bif decide (v6 ≤ (v0.length : Int)) then
        (bif decide (0 ≤ v6) then
          (bif decide (v6 ≤ (v0.length : Int)) then
            (bif decide ((v0.length : Int) ≤ (v0.length : Int)) then
              ((s_l05Weave k (o100005, (([] : List Int), (((v0.take v6.toNat).drop 0), ((v0.take ((v0.length : Int)).toNat).drop v6.toNat))))).bind fun y1 =>
              s_l05Of_l7 k v0 (IntKind.i64.wrap (v6 + (1 : Int))) y1)
            else (none))
          else (none))
        else (none))
      else (none))
    else (none))
  else (some o100005) := by kernel_rfl
theorem s_l05Of_l15_eq (k : Nat) (v0 : List Int) (v40 : List Int) (v41 : Int) (v42 : Int) (o100005 : List (List Int)) : s_l05Of_l15 (k + 1) v0 v40 v41 v42 o100005 =
  bif decide (v42 < v41) then
    (bif decide (0 ≤ v42) then
      (bif decide (v42 < (v40.length : Int)) then
        (bif decide (0 ≤ v42) then
          (bif decide (v42 ≤ (v0.length : Int)) then
            (bif decide (([] : List Int).length + ((v0.take v42.toNat).drop 0).length ≤ rowMax) then
              (bif decide (0 ≤ (IntKind.i64.wrap (v42 + (1 : Int)))) then
                (bif decide ((IntKind.i64.wrap (v42 + (1 : Int))) ≤ (v0.length : Int)) then
                  (bif decide ((v0.length : Int) ≤ (v0.length : Int)) then
                    (bif decide ((([] : List Int) ++ ((v0.take v42.toNat).drop 0)).length + ((v0.take ((v0.length : Int)).toNat).drop (IntKind.i64.wrap (v42 + (1 : Int))).toNat).length ≤ rowMax) then
                      (bif decide ([(v40.getD v42.toNat (0 : Int))].length + ((([] : List Int) ++ ((v0.take v42.toNat).drop 0)) ++ ((v0.take ((v0.length : Int)).toNat).drop (IntKind.i64.wrap (v42 + (1 : Int))).toNat)).length ≤ rowMax) then
                        (bif decide (o100005.length + ([([(v40.getD v42.toNat (0 : Int))] ++ ((([] : List Int) ++ ((v0.take v42.toNat).drop 0)) ++ ((v0.take ((v0.length : Int)).toNat).drop (IntKind.i64.wrap (v42 + (1 : Int))).toNat)))]).length ≤ rowMax) then
                          (s_l05Of_l15 k v0 v40 v41 (IntKind.i64.wrap (v42 + (1 : Int))) (o100005 ++ ([([(v40.getD v42.toNat (0 : Int))] ++ ((([] : List Int) ++ ((v0.take v42.toNat).drop 0)) ++ ((v0.take ((v0.length : Int)).toNat).drop (IntKind.i64.wrap (v42 + (1 : Int))).toNat)))])))
                        else (none))
                      else (none))
                    else (none))
                  else (none))
                else (none))
              else (none))
            else (none))
          else (none))
        else (none))
      else (none))
    else (none))
  else (some o100005) := by kernel_rfl
theorem s_SamePacket_eq (k : Nat) (x0 : List Int) (x1 : List Int) : s_SamePacket (k + 1) (x0, x1) =
  bif (!((x0.length : Int) == (x1.length : Int))) then
    (some false)
  else (s_SamePacket_l4 k x1 x0 (x0.length : Int) (0 : Int)) := by kernel_rfl
theorem s_SamePacket_l4_eq (k : Nat) (v1 : List Int) (v12 : List Int) (v13 : Int) (v14 : Int) : s_SamePacket_l4 (k + 1) v1 v12 v13 v14 =
  bif decide (v14 < v13) then
    (bif decide (0 ≤ v14) then
      (bif decide (v14 < (v12.length : Int)) then
        (bif decide (0 ≤ v14) then
          (bif decide (v14 < (v1.length : Int)) then
            (bif (!((v12.getD v14.toNat (0 : Int)) == (v1.getD v14.toNat (0 : Int)))) then
              (some false)
            else (s_SamePacket_l4 k v1 v12 v13 (IntKind.i64.wrap (v14 + (1 : Int)))))
          else (none))
        else (none))
      else (none))
    else (none))
  else (some true) := by kernel_rfl
theorem s_l05Merge_eq (k : Nat) (x0 : List (List Int)) (x1 : List (List Int)) : s_l05Merge (k + 1) (x0, x1) =
  s_l05Merge_l2 k x0 x1 ([] : List (List Int)) := by kernel_rfl
theorem s_l05Merge_l2_eq (k : Nat) (v0 : List (List Int)) (v1 : List (List Int)) (o450005 : List (List Int)) : s_l05Merge_l2 (k + 1) v0 v1 o450005 =
  bif decide ((v0.length : Int) > (0 : Int)) then
    (bif ((v1.length : Int) == (0 : Int)) then
      (bif decide ((0 : Int) < (v0.length : Int)) then
        (bif decide ((1 : Int) ≤ (v0.length : Int)) then
          (bif decide ((v0.length : Int) ≤ (v0.length : Int)) then
            (bif ((o450005.length : Int) == (0 : Int)) then
              (bif decide (([] : List Int).length + (v0.getD 0 []).length ≤ rowMax) then
                (bif decide (o450005.length + ([(([] : List Int) ++ (v0.getD 0 []))]).length ≤ rowMax) then
                  (s_l05Merge_l2 k ((v0.take ((v0.length : Int)).toNat).drop 1) v1 (o450005 ++ ([(([] : List Int) ++ (v0.getD 0 []))])))
                else (none))
              else (none))
            else (bif decide (0 ≤ (IntKind.i64.wrap ((o450005.length : Int) - (1 : Int)))) then
                (bif decide ((IntKind.i64.wrap ((o450005.length : Int) - (1 : Int))) < (o450005.length : Int)) then
                  (bif decide ((IntKind.i64.wrap ((o450005.length : Int) - (1 : Int))).toNat < o450005.length) then
                    ((s_SamePacket k ((o450005.getD (IntKind.i64.wrap ((o450005.length : Int) - (1 : Int))).toNat []), (v0.getD 0 []))).bind fun y1 =>
                    bif (!y1) then
                      (bif decide (([] : List Int).length + (v0.getD 0 []).length ≤ rowMax) then
                        (bif decide ((o450005.set (IntKind.i64.wrap ((o450005.length : Int) - (1 : Int))).toNat (o450005.getD (IntKind.i64.wrap ((o450005.length : Int) - (1 : Int))).toNat [])).length + ([(([] : List Int) ++ (v0.getD 0 []))]).length ≤ rowMax) then
                          (s_l05Merge_l2 k ((v0.take ((v0.length : Int)).toNat).drop 1) v1 ((o450005.set (IntKind.i64.wrap ((o450005.length : Int) - (1 : Int))).toNat (o450005.getD (IntKind.i64.wrap ((o450005.length : Int) - (1 : Int))).toNat [])) ++ ([(([] : List Int) ++ (v0.getD 0 []))])))
                        else (none))
                      else (none))
                    else (s_l05Merge_l2 k ((v0.take ((v0.length : Int)).toNat).drop 1) v1 (o450005.set (IntKind.i64.wrap ((o450005.length : Int) - (1 : Int))).toNat (o450005.getD (IntKind.i64.wrap ((o450005.length : Int) - (1 : Int))).toNat []))))
                  else (none))
                else (none))
              else (none)))
          else (none))
        else (none))
      else (none))
    else (bif decide ((v0.length : Int) > (0 : Int)) then
        (bif decide ((0 : Int) < (v1.length : Int)) then
          (bif decide ((0 : Int) < (v0.length : Int)) then
            ((s_l05Less k ((v1.getD 0 []), (v0.getD 0 []))).bind fun y2 =>
            bif (!y2) then
              (bif decide ((0 : Int) < (v0.length : Int)) then
                (bif decide ((1 : Int) ≤ (v0.length : Int)) then
                  (bif decide ((v0.length : Int) ≤ (v0.length : Int)) then
                    (bif ((o450005.length : Int) == (0 : Int)) then
                      (bif decide (([] : List Int).length + (v0.getD 0 []).length ≤ rowMax) then
                        (bif decide (o450005.length + ([(([] : List Int) ++ (v0.getD 0 []))]).length ≤ rowMax) then
                          (s_l05Merge_l2 k ((v0.take ((v0.length : Int)).toNat).drop 1) v1 (o450005 ++ ([(([] : List Int) ++ (v0.getD 0 []))])))
                        else (none))
                      else (none))
                    else (bif decide (0 ≤ (IntKind.i64.wrap ((o450005.length : Int) - (1 : Int)))) then
                        (bif decide ((IntKind.i64.wrap ((o450005.length : Int) - (1 : Int))) < (o450005.length : Int)) then
                          (bif decide ((IntKind.i64.wrap ((o450005.length : Int) - (1 : Int))).toNat < o450005.length) then
                            ((s_SamePacket k ((o450005.getD (IntKind.i64.wrap ((o450005.length : Int) - (1 : Int))).toNat []), (v0.getD 0 []))).bind fun y3 =>
                            bif (!y3) then
                              (bif decide (([] : List Int).length + (v0.getD 0 []).length ≤ rowMax) then
                                (bif decide ((o450005.set (IntKind.i64.wrap ((o450005.length : Int) - (1 : Int))).toNat (o450005.getD (IntKind.i64.wrap ((o450005.length : Int) - (1 : Int))).toNat [])).length + ([(([] : List Int) ++ (v0.getD 0 []))]).length ≤ rowMax) then
                                  (s_l05Merge_l2 k ((v0.take ((v0.length : Int)).toNat).drop 1) v1 ((o450005.set (IntKind.i64.wrap ((o450005.length : Int) - (1 : Int))).toNat (o450005.getD (IntKind.i64.wrap ((o450005.length : Int) - (1 : Int))).toNat [])) ++ ([(([] : List Int) ++ (v0.getD 0 []))])))
                                else (none))
                              else (none))
                            else (s_l05Merge_l2 k ((v0.take ((v0.length : Int)).toNat).drop 1) v1 (o450005.set (IntKind.i64.wrap ((o450005.length : Int) - (1 : Int))).toNat (o450005.getD (IntKind.i64.wrap ((o450005.length : Int) - (1 : Int))).toNat []))))
                          else (none))
                        else (none))
                      else (none)))
                  else (none))
                else (none))
              else (none))
            else (bif decide ((0 : Int) < (v1.length : Int)) then
                (bif decide ((1 : Int) ≤ (v1.length : Int)) then
                  (bif decide ((v1.length : Int) ≤ (v1.length : Int)) then
                    (bif ((o450005.length : Int) == (0 : Int)) then
                      (bif decide (([] : List Int).length + (v1.getD 0 []).length ≤ rowMax) then
                        (bif decide (o450005.length + ([(([] : List Int) ++ (v1.getD 0 []))]).length ≤ rowMax) then
                          (s_l05Merge_l2 k v0 ((v1.take ((v1.length : Int)).toNat).drop 1) (o450005 ++ ([(([] : List Int) ++ (v1.getD 0 []))])))
                        else (none))
                      else (none))
                    else (bif decide (0 ≤ (IntKind.i64.wrap ((o450005.length : Int) - (1 : Int)))) then
                        (bif decide ((IntKind.i64.wrap ((o450005.length : Int) - (1 : Int))) < (o450005.length : Int)) then
                          (bif decide ((IntKind.i64.wrap ((o450005.length : Int) - (1 : Int))).toNat < o450005.length) then
                            ((s_SamePacket k ((o450005.getD (IntKind.i64.wrap ((o450005.length : Int) - (1 : Int))).toNat []), (v1.getD 0 []))).bind fun y4 =>
                            bif (!y4) then
                              (bif decide (([] : List Int).length + (v1.getD 0 []).length ≤ rowMax) then
                                (bif decide ((o450005.set (IntKind.i64.wrap ((o450005.length : Int) - (1 : Int))).toNat (o450005.getD (IntKind.i64.wrap ((o450005.length : Int) - (1 : Int))).toNat [])).length + ([(([] : List Int) ++ (v1.getD 0 []))]).length ≤ rowMax) then
                                  (s_l05Merge_l2 k v0 ((v1.take ((v1.length : Int)).toNat).drop 1) ((o450005.set (IntKind.i64.wrap ((o450005.length : Int) - (1 : Int))).toNat (o450005.getD (IntKind.i64.wrap ((o450005.length : Int) - (1 : Int))).toNat [])) ++ ([(([] : List Int) ++ (v1.getD 0 []))])))
                                else (none))
                              else (none))
                            else (s_l05Merge_l2 k v0 ((v1.take ((v1.length : Int)).toNat).drop 1) (o450005.set (IntKind.i64.wrap ((o450005.length : Int) - (1 : Int))).toNat (o450005.getD (IntKind.i64.wrap ((o450005.length : Int) - (1 : Int))).toNat []))))
                          else (none))
                        else (none))
                      else (none)))
                  else (none))
                else (none))
              else (none)))
          else (none))
        else (none))
      else (bif decide ((0 : Int) < (v1.length : Int)) then
          (bif decide ((1 : Int) ≤ (v1.length : Int)) then
            (bif decide ((v1.length : Int) ≤ (v1.length : Int)) then
              (bif ((o450005.length : Int) == (0 : Int)) then
                (bif decide (([] : List Int).length + (v1.getD 0 []).length ≤ rowMax) then
                  (bif decide (o450005.length + ([(([] : List Int) ++ (v1.getD 0 []))]).length ≤ rowMax) then
                    (s_l05Merge_l2 k v0 ((v1.take ((v1.length : Int)).toNat).drop 1) (o450005 ++ ([(([] : List Int) ++ (v1.getD 0 []))])))
                  else (none))
                else (none))
              else (bif decide (0 ≤ (IntKind.i64.wrap ((o450005.length : Int) - (1 : Int)))) then
                  (bif decide ((IntKind.i64.wrap ((o450005.length : Int) - (1 : Int))) < (o450005.length : Int)) then
                    (bif decide ((IntKind.i64.wrap ((o450005.length : Int) - (1 : Int))).toNat < o450005.length) then
                      ((s_SamePacket k ((o450005.getD (IntKind.i64.wrap ((o450005.length : Int) - (1 : Int))).toNat []), (v1.getD 0 []))).bind fun y5 =>
                      bif (!y5) then
                        (bif decide (([] : List Int).length + (v1.getD 0 []).length ≤ rowMax) then
                          (bif decide ((o450005.set (IntKind.i64.wrap ((o450005.length : Int) - (1 : Int))).toNat (o450005.getD (IntKind.i64.wrap ((o450005.length : Int) - (1 : Int))).toNat [])).length + ([(([] : List Int) ++ (v1.getD 0 []))]).length ≤ rowMax) then
                            (s_l05Merge_l2 k v0 ((v1.take ((v1.length : Int)).toNat).drop 1) ((o450005.set (IntKind.i64.wrap ((o450005.length : Int) - (1 : Int))).toNat (o450005.getD (IntKind.i64.wrap ((o450005.length : Int) - (1 : Int))).toNat [])) ++ ([(([] : List Int) ++ (v1.getD 0 []))])))
                          else (none))
                        else (none))
                      else (s_l05Merge_l2 k v0 ((v1.take ((v1.length : Int)).toNat).drop 1) (o450005.set (IntKind.i64.wrap ((o450005.length : Int) - (1 : Int))).toNat (o450005.getD (IntKind.i64.wrap ((o450005.length : Int) - (1 : Int))).toNat []))))
                    else (none))
                  else (none))
                else (none)))
            else (none))
          else (none))
        else (none))))
  else (bif decide ((v1.length : Int) > (0 : Int)) then
      (bif ((v1.length : Int) == (0 : Int)) then
        (bif decide ((0 : Int) < (v0.length : Int)) then
          (bif decide ((1 : Int) ≤ (v0.length : Int)) then
            (bif decide ((v0.length : Int) ≤ (v0.length : Int)) then
              (bif ((o450005.length : Int) == (0 : Int)) then
                (bif decide (([] : List Int).length + (v0.getD 0 []).length ≤ rowMax) then
                  (bif decide (o450005.length + ([(([] : List Int) ++ (v0.getD 0 []))]).length ≤ rowMax) then
                    (s_l05Merge_l2 k ((v0.take ((v0.length : Int)).toNat).drop 1) v1 (o450005 ++ ([(([] : List Int) ++ (v0.getD 0 []))])))
                  else (none))
                else (none))
              else (bif decide (0 ≤ (IntKind.i64.wrap ((o450005.length : Int) - (1 : Int)))) then
                  (bif decide ((IntKind.i64.wrap ((o450005.length : Int) - (1 : Int))) < (o450005.length : Int)) then
                    (bif decide ((IntKind.i64.wrap ((o450005.length : Int) - (1 : Int))).toNat < o450005.length) then
                      ((s_SamePacket k ((o450005.getD (IntKind.i64.wrap ((o450005.length : Int) - (1 : Int))).toNat []), (v0.getD 0 []))).bind fun y6 =>
                      bif (!y6) then
                        (bif decide (([] : List Int).length + (v0.getD 0 []).length ≤ rowMax) then
                          (bif decide ((o450005.set (IntKind.i64.wrap ((o450005.length : Int) - (1 : Int))).toNat (o450005.getD (IntKind.i64.wrap ((o450005.length : Int) - (1 : Int))).toNat [])).length + ([(([] : List Int) ++ (v0.getD 0 []))]).length ≤ rowMax) then
                            (s_l05Merge_l2 k ((v0.take ((v0.length : Int)).toNat).drop 1) v1 ((o450005.set (IntKind.i64.wrap ((o450005.length : Int) - (1 : Int))).toNat (o450005.getD (IntKind.i64.wrap ((o450005.length : Int) - (1 : Int))).toNat [])) ++ ([(([] : List Int) ++ (v0.getD 0 []))])))
                          else (none))
                        else (none))
                      else (s_l05Merge_l2 k ((v0.take ((v0.length : Int)).toNat).drop 1) v1 (o450005.set (IntKind.i64.wrap ((o450005.length : Int) - (1 : Int))).toNat (o450005.getD (IntKind.i64.wrap ((o450005.length : Int) - (1 : Int))).toNat []))))
                    else (none))
                  else (none))
                else (none)))
            else (none))
          else (none))
        else (none))
      else (bif decide ((v0.length : Int) > (0 : Int)) then
          (bif decide ((0 : Int) < (v1.length : Int)) then
            (bif decide ((0 : Int) < (v0.length : Int)) then
              ((s_l05Less k ((v1.getD 0 []), (v0.getD 0 []))).bind fun y7 =>
              bif (!y7) then
                (bif decide ((0 : Int) < (v0.length : Int)) then
                  (bif decide ((1 : Int) ≤ (v0.length : Int)) then
                    (bif decide ((v0.length : Int) ≤ (v0.length : Int)) then
                      (bif ((o450005.length : Int) == (0 : Int)) then
                        (bif decide (([] : List Int).length + (v0.getD 0 []).length ≤ rowMax) then
                          (bif decide (o450005.length + ([(([] : List Int) ++ (v0.getD 0 []))]).length ≤ rowMax) then
                            (s_l05Merge_l2 k ((v0.take ((v0.length : Int)).toNat).drop 1) v1 (o450005 ++ ([(([] : List Int) ++ (v0.getD 0 []))])))
                          else (none))
                        else (none))
                      else (bif decide (0 ≤ (IntKind.i64.wrap ((o450005.length : Int) - (1 : Int)))) then
                          (bif decide ((IntKind.i64.wrap ((o450005.length : Int) - (1 : Int))) < (o450005.length : Int)) then
                            (bif decide ((IntKind.i64.wrap ((o450005.length : Int) - (1 : Int))).toNat < o450005.length) then
                              ((s_SamePacket k ((o450005.getD (IntKind.i64.wrap ((o450005.length : Int) - (1 : Int))).toNat []), (v0.getD 0 []))).bind fun y8 =>
                              bif (!y8) then
                                (bif decide (([] : List Int).length + (v0.getD 0 []).length ≤ rowMax) then
                                  (bif decide ((o450005.set (IntKind.i64.wrap ((o450005.length : Int) - (1 : Int))).toNat (o450005.getD (IntKind.i64.wrap ((o450005.length : Int) - (1 : Int))).toNat [])).length + ([(([] : List Int) ++ (v0.getD 0 []))]).length ≤ rowMax) then
                                    (s_l05Merge_l2 k ((v0.take ((v0.length : Int)).toNat).drop 1) v1 ((o450005.set (IntKind.i64.wrap ((o450005.length : Int) - (1 : Int))).toNat (o450005.getD (IntKind.i64.wrap ((o450005.length : Int) - (1 : Int))).toNat [])) ++ ([(([] : List Int) ++ (v0.getD 0 []))])))
                                  else (none))
                                else (none))
                              else (s_l05Merge_l2 k ((v0.take ((v0.length : Int)).toNat).drop 1) v1 (o450005.set (IntKind.i64.wrap ((o450005.length : Int) - (1 : Int))).toNat (o450005.getD (IntKind.i64.wrap ((o450005.length : Int) - (1 : Int))).toNat []))))
                            else (none))
                          else (none))
                        else (none)))
                    else (none))
                  else (none))
                else (none))
              else (bif decide ((0 : Int) < (v1.length : Int)) then
                  (bif decide ((1 : Int) ≤ (v1.length : Int)) then
                    (bif decide ((v1.length : Int) ≤ (v1.length : Int)) then
                      (bif ((o450005.length : Int) == (0 : Int)) then
                        (bif decide (([] : List Int).length + (v1.getD 0 []).length ≤ rowMax) then
                          (bif decide (o450005.length + ([(([] : List Int) ++ (v1.getD 0 []))]).length ≤ rowMax) then
                            (s_l05Merge_l2 k v0 ((v1.take ((v1.length : Int)).toNat).drop 1) (o450005 ++ ([(([] : List Int) ++ (v1.getD 0 []))])))
                          else (none))
                        else (none))
                      else (bif decide (0 ≤ (IntKind.i64.wrap ((o450005.length : Int) - (1 : Int)))) then
                          (bif decide ((IntKind.i64.wrap ((o450005.length : Int) - (1 : Int))) < (o450005.length : Int)) then
                            (bif decide ((IntKind.i64.wrap ((o450005.length : Int) - (1 : Int))).toNat < o450005.length) then
                              ((s_SamePacket k ((o450005.getD (IntKind.i64.wrap ((o450005.length : Int) - (1 : Int))).toNat []), (v1.getD 0 []))).bind fun y9 =>
                              bif (!y9) then
                                (bif decide (([] : List Int).length + (v1.getD 0 []).length ≤ rowMax) then
                                  (bif decide ((o450005.set (IntKind.i64.wrap ((o450005.length : Int) - (1 : Int))).toNat (o450005.getD (IntKind.i64.wrap ((o450005.length : Int) - (1 : Int))).toNat [])).length + ([(([] : List Int) ++ (v1.getD 0 []))]).length ≤ rowMax) then
                                    (s_l05Merge_l2 k v0 ((v1.take ((v1.length : Int)).toNat).drop 1) ((o450005.set (IntKind.i64.wrap ((o450005.length : Int) - (1 : Int))).toNat (o450005.getD (IntKind.i64.wrap ((o450005.length : Int) - (1 : Int))).toNat [])) ++ ([(([] : List Int) ++ (v1.getD 0 []))])))
                                  else (none))
                                else (none))
                              else (s_l05Merge_l2 k v0 ((v1.take ((v1.length : Int)).toNat).drop 1) (o450005.set (IntKind.i64.wrap ((o450005.length : Int) - (1 : Int))).toNat (o450005.getD (IntKind.i64.wrap ((o450005.length : Int) - (1 : Int))).toNat []))))
                            else (none))
                          else (none))
                        else (none)))
                    else (none))
                  else (none))
                else (none)))
            else (none))
          else (none))
        else (bif decide ((0 : Int) < (v1.length : Int)) then
            (bif decide ((1 : Int) ≤ (v1.length : Int)) then
              (bif decide ((v1.length : Int) ≤ (v1.length : Int)) then
                (bif ((o450005.length : Int) == (0 : Int)) then
                  (bif decide (([] : List Int).length + (v1.getD 0 []).length ≤ rowMax) then
                    (bif decide (o450005.length + ([(([] : List Int) ++ (v1.getD 0 []))]).length ≤ rowMax) then
                      (s_l05Merge_l2 k v0 ((v1.take ((v1.length : Int)).toNat).drop 1) (o450005 ++ ([(([] : List Int) ++ (v1.getD 0 []))])))
                    else (none))
                  else (none))
                else (bif decide (0 ≤ (IntKind.i64.wrap ((o450005.length : Int) - (1 : Int)))) then
                    (bif decide ((IntKind.i64.wrap ((o450005.length : Int) - (1 : Int))) < (o450005.length : Int)) then
                      (bif decide ((IntKind.i64.wrap ((o450005.length : Int) - (1 : Int))).toNat < o450005.length) then
                        ((s_SamePacket k ((o450005.getD (IntKind.i64.wrap ((o450005.length : Int) - (1 : Int))).toNat []), (v1.getD 0 []))).bind fun y10 =>
                        bif (!y10) then
                          (bif decide (([] : List Int).length + (v1.getD 0 []).length ≤ rowMax) then
                            (bif decide ((o450005.set (IntKind.i64.wrap ((o450005.length : Int) - (1 : Int))).toNat (o450005.getD (IntKind.i64.wrap ((o450005.length : Int) - (1 : Int))).toNat [])).length + ([(([] : List Int) ++ (v1.getD 0 []))]).length ≤ rowMax) then
                              (s_l05Merge_l2 k v0 ((v1.take ((v1.length : Int)).toNat).drop 1) ((o450005.set (IntKind.i64.wrap ((o450005.length : Int) - (1 : Int))).toNat (o450005.getD (IntKind.i64.wrap ((o450005.length : Int) - (1 : Int))).toNat [])) ++ ([(([] : List Int) ++ (v1.getD 0 []))])))
                            else (none))
                          else (none))
                        else (s_l05Merge_l2 k v0 ((v1.take ((v1.length : Int)).toNat).drop 1) (o450005.set (IntKind.i64.wrap ((o450005.length : Int) - (1 : Int))).toNat (o450005.getD (IntKind.i64.wrap ((o450005.length : Int) - (1 : Int))).toNat []))))
                      else (none))
                    else (none))
                  else (none)))
              else (none))
            else (none))
          else (none))))
    else (some o450005)) := by kernel_rfl
theorem s_SortPackets_eq (k : Nat) (x0 : List (List Int)) : s_SortPackets (k + 1) x0 =
  bif decide ((x0.length : Int) < (2 : Int)) then
    ((s_l05Merge k (x0, [])).bind fun y1 =>
    some y1)
  else (bif decide (0 ≤ (IntKind.i64.wrap ((x0.length : Int).tdiv (2 : Int)))) then
      (bif decide ((IntKind.i64.wrap ((x0.length : Int).tdiv (2 : Int))) ≤ (x0.length : Int)) then
        ((s_SortPackets k ((x0.take (IntKind.i64.wrap ((x0.length : Int).tdiv (2 : Int))).toNat).drop 0)).bind fun y2 =>
        bif decide (0 ≤ (IntKind.i64.wrap ((x0.length : Int).tdiv (2 : Int)))) then
          (bif decide ((IntKind.i64.wrap ((x0.length : Int).tdiv (2 : Int))) ≤ (x0.length : Int)) then
            (bif decide ((x0.length : Int) ≤ (x0.length : Int)) then
              ((s_SortPackets k ((x0.take ((x0.length : Int)).toNat).drop (IntKind.i64.wrap ((x0.length : Int).tdiv (2 : Int))).toNat)).bind fun y3 =>
              (s_l05Merge k (y2, y3)).bind fun y4 =>
              some y4)
            else (none))
          else (none))
        else (none))
      else (none))
    else (none)) := by kernel_rfl
theorem s_ResultsAfter_eq (k : Nat) (x0 : List (List Int)) (x1 : Int) : s_ResultsAfter (k + 1) (x0, x1) =
  s_ResultsAfter_l3 k x1 x0 (x0.length : Int) (0 : Int) ([] : List (List Int)) := by kernel_rfl
theorem s_ResultsAfter_l3_eq (k : Nat) (v1 : Int) (v10 : List (List Int)) (v11 : Int) (v12 : Int) (o100006 : List (List Int)) : s_ResultsAfter_l3 (k + 1) v1 v10 v11 v12 o100006 =
  bif decide (v12 < v11) then
    (bif decide (0 ≤ v12) then
      (bif decide (v12 < (v10.length : Int)) then
        ((s_l05Ok k ((v10.getD v12.toNat []), v1)).bind fun y1 =>
        bif (!y1) then
          (some ([], false))
        else ((s_l05Of k ((v10.getD v12.toNat []), v1)).bind fun y2 =>
          (s_SortPackets k y2).bind fun y3 =>
          (s_l05Merge k (o100006, y3)).bind fun y4 =>
          bif decide ((y4.length : Int) > (3000 : Int)) then
            (some ([], false))
          else (s_ResultsAfter_l3 k v1 v10 v11 (IntKind.i64.wrap (v12 + (1 : Int))) y4)))
      else (none))
    else (none))
  else (some (o100006, true)) := by kernel_rfl
theorem s_AfterChoice_eq (k : Nat) (x0 : List (List Int)) (x1 : Int) : s_AfterChoice (k + 1) (x0, x1) =
  (s_KnowOk k x0).bind fun y1 =>
  bif (!y1) then
    (some ([], false))
  else ((s_ResultsAfter k (x0, x1)).bind fun y2 =>
    some y2) := by kernel_rfl
theorem i_CardOf_eq (k : Nat) (x0 : Int) : i_CardOf (k + 1) x0 =
  bif decide (x0 < (0 : Int)) then
    (bif decide ((IntKind.i64.wrap ((-1 : Int) - x0)) ≥ (12 : Int)) then
      (some (-1 : Int))
    else (some (IntKind.i64.wrap ((-1 : Int) - x0))))
  else (bif decide (x0 ≥ (12 : Int)) then
      (some (-1 : Int))
    else (some x0)) := by kernel_rfl
theorem i_PacketOk_eq (k : Nat) (x0 : List Int) : i_PacketOk (k + 1) x0 =
  i_PacketOk_l3 k x0 (x0.length : Int) (0 : Int) (List.replicate 12 false) := by kernel_rfl
theorem i_PacketOk_l3_eq (k : Nat) (v7 : List Int) (v8 : Int) (v9 : Int) (o400003 : List Bool) : i_PacketOk_l3 (k + 1) v7 v8 v9 o400003 =
  bif decide (v9 < v8) then
    (bif decide (0 ≤ v9) then
      (bif decide (v9 < (v7.length : Int)) then
        ((i_CardOf k (v7.getD v9.toNat (0 : Int))).bind fun y1 =>
        bif decide (y1 < (0 : Int)) then
          (some false)
        else (bif (Nat.beq o400003.length 12 && true) then
            (bif decide (0 ≤ y1) then
              (bif decide (y1 < (o400003.length : Int)) then
                (bif decide (y1.toNat < o400003.length) then
                  (bif (o400003.getD y1.toNat false) then
                    (some false)
                  else (bif (Nat.beq o400003.length 12 && true) then
                      (bif decide (0 ≤ y1) then
                        (bif decide (y1 < (o400003.length : Int)) then
                          (bif decide (y1.toNat < o400003.length) then
                            (i_PacketOk_l3 k v7 v8 (IntKind.i64.wrap (v9 + (1 : Int))) (o400003.set y1.toNat true))
                          else (none))
                        else (none))
                      else (none))
                    else (none)))
                else (none))
              else (none))
            else (none))
          else (none)))
      else (none))
    else (none))
  else (some true) := by kernel_rfl
theorem i_PositionOf_1_eq (k : Nat) (x0 : Int) (x1 : Int) : i_PositionOf_1 (k + 1) (x0, x1) =
  (i_CardOf k x0).bind fun y1 =>
  some (y1 == x1) := by kernel_rfl
theorem slices_IndexFunc_int_of_i_PositionOf_1_eq (k : Nat) (x0 : List Int) (x1 : Int) : slices_IndexFunc_int_of_i_PositionOf_1 (k + 1) (x0, x1) =
  slices_IndexFunc_int_of_i_PositionOf_1_l2 k x0 x1 (x0.length : Int) (0 : Int) := by kernel_rfl
theorem slices_IndexFunc_int_of_i_PositionOf_1_l2_eq (k : Nat) (v0 : List Int) (v1_0_0 : Int) (v7 : Int) (v8 : Int) : slices_IndexFunc_int_of_i_PositionOf_1_l2 (k + 1) v0 v1_0_0 v7 v8 =
  bif decide (v8 < v7) then
    (bif decide (0 ≤ v8) then
      (bif decide (v8 < (v0.length : Int)) then
        ((i_PositionOf_1 k ((v0.getD v8.toNat (0 : Int)), v1_0_0)).bind fun y1 =>
        bif y1 then
          (some v8)
        else (slices_IndexFunc_int_of_i_PositionOf_1_l2 k v0 v1_0_0 v7 (IntKind.i64.wrap (v8 + (1 : Int)))))
      else (none))
    else (none))
  else (some (-1 : Int)) := by kernel_rfl
theorem i_PositionOf_eq (k : Nat) (x0 : List Int) (x1 : Int) : i_PositionOf (k + 1) (x0, x1) =
  bif decide (x1 < (0 : Int)) then
    (some (-1 : Int))
  else ((slices_IndexFunc_int_of_i_PositionOf_1 k (x0, x1)).bind fun y1 =>
    some y1) := by kernel_rfl
theorem i_IsArrangement_1_eq (k : Nat) (x0 : Int) (x1 : List Int) : i_IsArrangement_1 (k + 1) (x0, x1) =
  (i_CardOf k x0).bind fun y1 =>
  (i_PositionOf k (x1, y1)).bind fun y2 =>
  some (decide (y2 < (0 : Int))) := by kernel_rfl
theorem slices_IndexFunc_int_of_i_IsArrangement_1_eq (k : Nat) (x0 : List Int) (x1 : List Int) : slices_IndexFunc_int_of_i_IsArrangement_1 (k + 1) (x0, x1) =
  slices_IndexFunc_int_of_i_IsArrangement_1_l2 k x0 x1 (x0.length : Int) (0 : Int) := by kernel_rfl
theorem slices_IndexFunc_int_of_i_IsArrangement_1_l2_eq (k : Nat) (v0 : List Int) (v1_0_0 : List Int) (v7 : Int) (v8 : Int) : slices_IndexFunc_int_of_i_IsArrangement_1_l2 (k + 1) v0 v1_0_0 v7 v8 =
  bif decide (v8 < v7) then
    (bif decide (0 ≤ v8) then
      (bif decide (v8 < (v0.length : Int)) then
        ((i_IsArrangement_1 k ((v0.getD v8.toNat (0 : Int)), v1_0_0)).bind fun y1 =>
        bif y1 then
          (some v8)
        else (slices_IndexFunc_int_of_i_IsArrangement_1_l2 k v0 v1_0_0 v7 (IntKind.i64.wrap (v8 + (1 : Int)))))
      else (none))
    else (none))
  else (some (-1 : Int)) := by kernel_rfl
theorem slices_ContainsFunc_int_of_i_IsArrangement_1_eq (k : Nat) (x0 : List Int) (x1 : List Int) : slices_ContainsFunc_int_of_i_IsArrangement_1 (k + 1) (x0, x1) =
  (slices_IndexFunc_int_of_i_IsArrangement_1 k (x0, x1)).bind fun y1 =>
  some (decide (y1 ≥ (0 : Int))) := by kernel_rfl
theorem i_IsArrangement_eq (k : Nat) (x0 : List Int) (x1 : List Int) : i_IsArrangement (k + 1) (x0, x1) =
  (i_PacketOk k x0).bind fun y1 =>
  bif (!y1) then
    (some false)
  else ((i_PacketOk k x1).bind fun y2 =>
    bif (!y2) then
      (some false)
    else (bif (!((x0.length : Int) == (x1.length : Int))) then
        (some false)
      else ((slices_ContainsFunc_int_of_i_IsArrangement_1 k (x0, x1)).bind fun y3 =>
        some (!y3)))) := by kernel_rfl
theorem cmp_isNaN_int_eq (k : Nat) (x0 : Int) : cmp_isNaN_int (k + 1) x0 =
  some (!(x0 == x0)) := by kernel_rfl
theorem cmp_Compare_int_eq (k : Nat) (x0 : Int) (x1 : Int) : cmp_Compare_int (k + 1) (x0, x1) =
  (cmp_isNaN_int k x0).bind fun y1 =>
  (cmp_isNaN_int k x1).bind fun y2 =>
  bif y1 then
    (bif y2 then
      (some (0 : Int))
    else (some (-1 : Int)))
  else (bif y2 then
      (some (1 : Int))
    else (bif decide (x0 < x1) then
        (some (-1 : Int))
      else (bif decide (x0 > x1) then
          (some (1 : Int))
        else (some (0 : Int))))) := by kernel_rfl
theorem slices_Compare_int_eq (k : Nat) (x0 : List Int) (x1 : List Int) : slices_Compare_int (k + 1) (x0, x1) =
  slices_Compare_int_l2 k x0 x1 x0 (x0.length : Int) (0 : Int) := by kernel_rfl
theorem slices_Compare_int_l2_eq (k : Nat) (v0 : List Int) (v1 : List Int) (v9 : List Int) (v10 : Int) (v11 : Int) : slices_Compare_int_l2 (k + 1) v0 v1 v9 v10 v11 =
  bif decide (v11 < v10) then
    (bif decide (0 ≤ v11) then
      (bif decide (v11 < (v9.length : Int)) then
        (bif decide (v11 ≥ (v1.length : Int)) then
          (some (1 : Int))
        else (bif decide (0 ≤ v11) then
            (bif decide (v11 < (v1.length : Int)) then
              ((cmp_Compare_int k ((v9.getD v11.toNat (0 : Int)), (v1.getD v11.toNat (0 : Int)))).bind fun y1 =>
              bif (!(y1 == (0 : Int))) then
                (some y1)
              else (slices_Compare_int_l2 k v0 v1 v9 v10 (IntKind.i64.wrap (v11 + (1 : Int)))))
            else (none))
          else (none)))
      else (none))
    else (none))
  else (bif decide ((v0.length : Int) < (v1.length : Int)) then
      (some (-1 : Int))
    else (some (0 : Int))) := by kernel_rfl
theorem i_KnowOk_eq (k : Nat) (x0 : List (List Int)) : i_KnowOk (k + 1) x0 =
  bif decide ((x0.length : Int) < (1 : Int)) then
    (some false)
  else (bif decide ((x0.length : Int) > (3000 : Int)) then
      (some false)
    else (bif decide ((0 : Int) < (x0.length : Int)) then
        (bif (((x0.getD 0 []).length : Int) == (0 : Int)) then
          (some false)
        else (i_KnowOk_l4 k x0 x0 (x0.length : Int) (0 : Int)))
      else (none))) := by kernel_rfl
theorem i_KnowOk_l4_eq (k : Nat) (v0 : List (List Int)) (v20 : List (List Int)) (v21 : Int) (v22 : Int) : i_KnowOk_l4 (k + 1) v0 v20 v21 v22 =
  bif decide (v22 < v21) then
    (bif decide (0 ≤ v22) then
      (bif decide (v22 < (v20.length : Int)) then
        (bif decide ((0 : Int) < (v0.length : Int)) then
          ((i_IsArrangement k ((v0.getD 0 []), (v20.getD v22.toNat []))).bind fun y1 =>
          bif (!y1) then
            (some false)
          else (bif decide (v22 > (0 : Int)) then
              (bif decide (0 ≤ (IntKind.i64.wrap (v22 - (1 : Int)))) then
                (bif decide ((IntKind.i64.wrap (v22 - (1 : Int))) < (v0.length : Int)) then
                  ((slices_Compare_int k ((v0.getD (IntKind.i64.wrap (v22 - (1 : Int))).toNat []), (v20.getD v22.toNat []))).bind fun y2 =>
                  bif decide (y2 ≥ (0 : Int)) then
                    (some false)
                  else (i_KnowOk_l4 k v0 v20 v21 (IntKind.i64.wrap (v22 + (1 : Int)))))
                else (none))
              else (none))
            else (i_KnowOk_l4 k v0 v20 v21 (IntKind.i64.wrap (v22 + (1 : Int))))))
        else (none))
      else (none))
    else (none))
  else (some true) := by kernel_rfl
theorem slices_Clone_int_eq (k : Nat) (x0 : List Int) : slices_Clone_int (k + 1) x0 =
  bif (!x0.isEmpty) then
    (bif decide (([] : List Int).length + x0.length ≤ rowMax) then
      (some (([] : List Int) ++ x0))
    else (none))
  else (both (rs := flatRs slices_Clone_int_fi.rs) (ios := ioOf slices_Clone_int_fi.ps) (some [])
    (bif decide (([] : List Int).length + x0.length ≤ rowMax) then
        (some (([] : List Int) ++ x0))
      else (none))) := by kernel_rfl
theorem slices_Grow_int_eq (k : Nat) (x0 : List Int) (x1 : Int) : slices_Grow_int k (x0, x1) = (fun _ n => growF n) x0 x1 := by kernel_rfl
theorem slices_Concat_int_eq (k : Nat) (x0 : List (List Int)) : slices_Concat_int (k + 1) x0 =
  slices_Concat_int_l3 k x0 (0 : Int) x0 (x0.length : Int) (0 : Int) := by kernel_rfl
theorem slices_Concat_int_l3_eq (k : Nat) (v0 : List (List Int)) (v3 : Int) (v9 : List (List Int)) (v10 : Int) (v11 : Int) : slices_Concat_int_l3 (k + 1) v0 v3 v9 v10 v11 =
  bif decide (v11 < v10) then
    (bif decide (0 ≤ v11) then
      (bif decide (v11 < (v9.length : Int)) then
        (bif decide ((IntKind.i64.wrap (v3 + ((v9.getD v11.toNat []).length : Int))) < (0 : Int)) then
          (none)
        else (slices_Concat_int_l3 k v0 (IntKind.i64.wrap (v3 + ((v9.getD v11.toNat []).length : Int))) v9 v10 (IntKind.i64.wrap (v11 + (1 : Int)))))
      else (none))
    else (none))
  else ((slices_Grow_int k ([], v3)).bind fun y1 =>
    slices_Concat_int_l11 k v0 (v0.length : Int) (0 : Int) y1) := by kernel_rfl
theorem slices_Concat_int_l11_eq (k : Nat) (v25 : List (List Int)) (v26 : Int) (v27 : Int) (o100006 : List Int) : slices_Concat_int_l11 (k + 1) v25 v26 v27 o100006 =
  bif decide (v27 < v26) then
    (bif decide (0 ≤ v27) then
      (bif decide (v27 < (v25.length : Int)) then
        (bif decide (o100006.length + (v25.getD v27.toNat []).length ≤ rowMax) then
          (slices_Concat_int_l11 k v25 v26 (IntKind.i64.wrap (v27 + (1 : Int))) (o100006 ++ (v25.getD v27.toNat [])))
        else (none))
      else (none))
    else (none))
  else (some o100006) := by kernel_rfl
theorem slices_Reverse_int_eq (k : Nat) (x0 : List Int) : slices_Reverse_int k x0 = reverseF x0 := by kernel_rfl
theorem i_reversed_eq (k : Nat) (x0 : List Int) : i_reversed (k + 1) x0 =
  (slices_Clone_int k x0).bind fun y1 =>
  (slices_Reverse_int k y1).bind fun y2 =>
  some y2.2 := by kernel_rfl
theorem i_faro_eq (k : Nat) (x0 : List Int) (x1 : Int) : i_faro (k + 1) (x0, x1) =
  bif decide (0 ≤ (IntKind.i64.wrap ((x0.length : Int).tdiv (2 : Int)))) then
    (bif decide ((IntKind.i64.wrap ((x0.length : Int).tdiv (2 : Int))) ≤ (x0.length : Int)) then
      (bif decide (0 ≤ (IntKind.i64.wrap ((x0.length : Int).tdiv (2 : Int)))) then
        (bif decide ((IntKind.i64.wrap ((x0.length : Int).tdiv (2 : Int))) ≤ (x0.length : Int)) then
          (bif decide ((x0.length : Int) ≤ (x0.length : Int)) then
            (i_faro_l4 k ((x0.take (IntKind.i64.wrap ((x0.length : Int).tdiv (2 : Int))).toNat).drop 0) ((x0.take ((x0.length : Int)).toNat).drop (IntKind.i64.wrap ((x0.length : Int).tdiv (2 : Int))).toNat) (x1 == (0 : Int)) [])
          else (none))
        else (none))
      else (none))
    else (none))
  else (none) := by kernel_rfl
theorem i_faro_l4_eq (k : Nat) (v5 : List Int) (v6 : List Int) (v8 : Bool) (o100007 : List Int) : i_faro_l4 (k + 1) v5 v6 v8 o100007 =
  bif decide ((v5.length : Int) > (0 : Int)) then
    (bif v8 then
      (bif decide ((v5.length : Int) > (0 : Int)) then
        (bif decide ((1 : Int) ≤ (v5.length : Int)) then
          (bif decide ((v5.length : Int) ≤ (v5.length : Int)) then
            (bif decide ((0 : Int) < (v5.length : Int)) then
              (bif decide (o100007.length + [(v5.getD 0 (0 : Int))].length ≤ rowMax) then
                (i_faro_l4 k ((v5.take ((v5.length : Int)).toNat).drop 1) v6 (!v8) (o100007 ++ [(v5.getD 0 (0 : Int))]))
              else (none))
            else (none))
          else (none))
        else (none))
      else (bif ((v6.length : Int) == (0 : Int)) then
          (bif decide ((1 : Int) ≤ (v5.length : Int)) then
            (bif decide ((v5.length : Int) ≤ (v5.length : Int)) then
              (bif decide ((0 : Int) < (v5.length : Int)) then
                (bif decide (o100007.length + [(v5.getD 0 (0 : Int))].length ≤ rowMax) then
                  (i_faro_l4 k ((v5.take ((v5.length : Int)).toNat).drop 1) v6 (!v8) (o100007 ++ [(v5.getD 0 (0 : Int))]))
                else (none))
              else (none))
            else (none))
          else (none))
        else (bif decide ((1 : Int) ≤ (v6.length : Int)) then
            (bif decide ((v6.length : Int) ≤ (v6.length : Int)) then
              (bif decide ((0 : Int) < (v6.length : Int)) then
                (bif decide (o100007.length + [(v6.getD 0 (0 : Int))].length ≤ rowMax) then
                  (i_faro_l4 k v5 ((v6.take ((v6.length : Int)).toNat).drop 1) (!v8) (o100007 ++ [(v6.getD 0 (0 : Int))]))
                else (none))
              else (none))
            else (none))
          else (none))))
    else (bif ((v6.length : Int) == (0 : Int)) then
        (bif decide ((1 : Int) ≤ (v5.length : Int)) then
          (bif decide ((v5.length : Int) ≤ (v5.length : Int)) then
            (bif decide ((0 : Int) < (v5.length : Int)) then
              (bif decide (o100007.length + [(v5.getD 0 (0 : Int))].length ≤ rowMax) then
                (i_faro_l4 k ((v5.take ((v5.length : Int)).toNat).drop 1) v6 (!v8) (o100007 ++ [(v5.getD 0 (0 : Int))]))
              else (none))
            else (none))
          else (none))
        else (none))
      else (bif decide ((1 : Int) ≤ (v6.length : Int)) then
          (bif decide ((v6.length : Int) ≤ (v6.length : Int)) then
            (bif decide ((0 : Int) < (v6.length : Int)) then
              (bif decide (o100007.length + [(v6.getD 0 (0 : Int))].length ≤ rowMax) then
                (i_faro_l4 k v5 ((v6.take ((v6.length : Int)).toNat).drop 1) (!v8) (o100007 ++ [(v6.getD 0 (0 : Int))]))
              else (none))
            else (none))
          else (none))
        else (none))))
  else (bif decide ((v6.length : Int) > (0 : Int)) then
      (bif v8 then
        (bif decide ((v5.length : Int) > (0 : Int)) then
          (bif decide ((1 : Int) ≤ (v5.length : Int)) then
            (bif decide ((v5.length : Int) ≤ (v5.length : Int)) then
              (bif decide ((0 : Int) < (v5.length : Int)) then
                (bif decide (o100007.length + [(v5.getD 0 (0 : Int))].length ≤ rowMax) then
                  (i_faro_l4 k ((v5.take ((v5.length : Int)).toNat).drop 1) v6 (!v8) (o100007 ++ [(v5.getD 0 (0 : Int))]))
                else (none))
              else (none))
            else (none))
          else (none))
        else (bif ((v6.length : Int) == (0 : Int)) then
            (bif decide ((1 : Int) ≤ (v5.length : Int)) then
              (bif decide ((v5.length : Int) ≤ (v5.length : Int)) then
                (bif decide ((0 : Int) < (v5.length : Int)) then
                  (bif decide (o100007.length + [(v5.getD 0 (0 : Int))].length ≤ rowMax) then
                    (i_faro_l4 k ((v5.take ((v5.length : Int)).toNat).drop 1) v6 (!v8) (o100007 ++ [(v5.getD 0 (0 : Int))]))
                  else (none))
                else (none))
              else (none))
            else (none))
          else (bif decide ((1 : Int) ≤ (v6.length : Int)) then
              (bif decide ((v6.length : Int) ≤ (v6.length : Int)) then
                (bif decide ((0 : Int) < (v6.length : Int)) then
                  (bif decide (o100007.length + [(v6.getD 0 (0 : Int))].length ≤ rowMax) then
                    (i_faro_l4 k v5 ((v6.take ((v6.length : Int)).toNat).drop 1) (!v8) (o100007 ++ [(v6.getD 0 (0 : Int))]))
                  else (none))
                else (none))
              else (none))
            else (none))))
      else (bif ((v6.length : Int) == (0 : Int)) then
          (bif decide ((1 : Int) ≤ (v5.length : Int)) then
            (bif decide ((v5.length : Int) ≤ (v5.length : Int)) then
              (bif decide ((0 : Int) < (v5.length : Int)) then
                (bif decide (o100007.length + [(v5.getD 0 (0 : Int))].length ≤ rowMax) then
                  (i_faro_l4 k ((v5.take ((v5.length : Int)).toNat).drop 1) v6 (!v8) (o100007 ++ [(v5.getD 0 (0 : Int))]))
                else (none))
              else (none))
            else (none))
          else (none))
        else (bif decide ((1 : Int) ≤ (v6.length : Int)) then
            (bif decide ((v6.length : Int) ≤ (v6.length : Int)) then
              (bif decide ((0 : Int) < (v6.length : Int)) then
                (bif decide (o100007.length + [(v6.getD 0 (0 : Int))].length ≤ rowMax) then
                  (i_faro_l4 k v5 ((v6.take ((v6.length : Int)).toNat).drop 1) (!v8) (o100007 ++ [(v6.getD 0 (0 : Int))]))
                else (none))
              else (none))
            else (none))
          else (none))))
    else (some o100007)) := by kernel_rfl
theorem i_monge_eq (k : Nat) (x0 : List Int) (x1 : Int) : i_monge (k + 1) (x0, x1) =
  i_monge_l3 k x1 x0 (x0.length : Int) (0 : Int) [] := by kernel_rfl
theorem i_monge_l3_eq (k : Nat) (v1 : Int) (v8 : List Int) (v9 : Int) (v10 : Int) (o100005 : List Int) : i_monge_l3 (k + 1) v1 v8 v9 v10 o100005 =
  bif decide (v10 < v9) then
    (bif decide (0 ≤ v10) then
      (bif decide (v10 < (v8.length : Int)) then
        (bif decide (v10 > (0 : Int)) then
          (bif (((IntKind.i64.wrap (v10 + v1)).tmod (2 : Int)) == (1 : Int)) then
            (bif decide ([(v8.getD v10.toNat (0 : Int))].length + o100005.length ≤ rowMax) then
              (i_monge_l3 k v1 v8 v9 (IntKind.i64.wrap (v10 + (1 : Int))) ([(v8.getD v10.toNat (0 : Int))] ++ o100005))
            else (none))
          else (bif decide (o100005.length + [(v8.getD v10.toNat (0 : Int))].length ≤ rowMax) then
              (i_monge_l3 k v1 v8 v9 (IntKind.i64.wrap (v10 + (1 : Int))) (o100005 ++ [(v8.getD v10.toNat (0 : Int))]))
            else (none)))
        else (bif decide (o100005.length + [(v8.getD v10.toNat (0 : Int))].length ≤ rowMax) then
            (i_monge_l3 k v1 v8 v9 (IntKind.i64.wrap (v10 + (1 : Int))) (o100005 ++ [(v8.getD v10.toNat (0 : Int))]))
          else (none)))
      else (none))
    else (none))
  else (some o100005) := by kernel_rfl
theorem i_milk_eq (k : Nat) (x0 : List Int) : i_milk (k + 1) x0 =
  i_milk_l2 k x0 [] := by kernel_rfl
theorem i_milk_l2_eq (k : Nat) (v0 : List Int) (o100003 : List Int) : i_milk_l2 (k + 1) v0 o100003 =
  bif decide ((v0.length : Int) > (1 : Int)) then
    (bif decide ((0 : Int) < (v0.length : Int)) then
      (bif decide (0 ≤ (IntKind.i64.wrap ((v0.length : Int) - (1 : Int)))) then
        (bif decide ((IntKind.i64.wrap ((v0.length : Int) - (1 : Int))) < (v0.length : Int)) then
          (bif decide ([(v0.getD 0 (0 : Int)), (v0.getD (IntKind.i64.wrap ((v0.length : Int) - (1 : Int))).toNat (0 : Int))].length + o100003.length ≤ rowMax) then
            (bif decide ((1 : Int) ≤ (IntKind.i64.wrap ((v0.length : Int) - (1 : Int)))) then
              (bif decide ((IntKind.i64.wrap ((v0.length : Int) - (1 : Int))) ≤ (v0.length : Int)) then
                (i_milk_l2 k ((v0.take (IntKind.i64.wrap ((v0.length : Int) - (1 : Int))).toNat).drop 1) ([(v0.getD 0 (0 : Int)), (v0.getD (IntKind.i64.wrap ((v0.length : Int) - (1 : Int))).toNat (0 : Int))] ++ o100003))
              else (none))
            else (none))
          else (none))
        else (none))
      else (none))
    else (none))
  else ((slices_Clone_int k v0).bind fun y1 =>
    bif decide (y1.length + o100003.length ≤ rowMax) then
      (some (y1 ++ o100003))
    else (none)) := by kernel_rfl
theorem i_dealt_eq (k : Nat) (x0 : List Int) (x1 : Int) : i_dealt (k + 1) (x0, x1) =
  (slices_Clone_int k x0).bind fun y1 =>
  i_dealt_l4 k (x1 == (1 : Int)) [] y1 := by kernel_rfl
theorem i_dealt_l4_eq (k : Nat) (v7 : Bool) (o100005 : List Int) (o100006 : List Int) : i_dealt_l4 (k + 1) v7 o100005 o100006 =
  bif decide ((o100006.length : Int) > (1 : Int)) then
    (bif v7 then
      (bif decide ((0 : Int) < (o100006.length : Int)) then
        (bif decide (0 < o100006.length) then
          (bif decide (o100005.length + [(o100006.getD 0 (0 : Int))].length ≤ rowMax) then
            (bif decide ((1 : Int) ≤ (o100006.length : Int)) then
              (bif decide ((o100006.length : Int) ≤ (o100006.length : Int)) then
                (i_dealt_l4 k (!v7) (o100005 ++ [(o100006.getD 0 (0 : Int))]) ((o100006.take ((o100006.length : Int)).toNat).drop 1))
              else (none))
            else (none))
          else (none))
        else (none))
      else (none))
    else (bif decide ((0 : Int) < (o100006.length : Int)) then
        (bif decide (0 < o100006.length) then
          (bif decide (o100006.length + [(o100006.getD 0 (0 : Int))].length ≤ rowMax) then
            (bif decide ((1 : Int) ≤ ((o100006 ++ [(o100006.getD 0 (0 : Int))]).length : Int)) then
              (bif decide (((o100006 ++ [(o100006.getD 0 (0 : Int))]).length : Int) ≤ ((o100006 ++ [(o100006.getD 0 (0 : Int))]).length : Int)) then
                (i_dealt_l4 k (!v7) o100005 (((o100006 ++ [(o100006.getD 0 (0 : Int))]).take (((o100006 ++ [(o100006.getD 0 (0 : Int))]).length : Int)).toNat).drop 1))
              else (none))
            else (none))
          else (none))
        else (none))
      else (none)))
  else (bif decide (o100005.length + o100006.length ≤ rowMax) then
      (some (o100005 ++ o100006))
    else (none)) := by kernel_rfl
theorem i_TurnCard_eq (k : Nat) (x0 : Int) : i_TurnCard (k + 1) x0 =
  (i_CardOf k x0).bind fun y1 =>
  bif decide (y1 < (0 : Int)) then
    (some x0)
  else (some (IntKind.i64.wrap ((-1 : Int) - x0))) := by kernel_rfl
theorem i_moved_eq (k : Nat) (x0 : List Int) (x1 : Int × Int) : i_moved (k + 1) (x0, x1) =
  bif (x1.1 == (1 : Int)) then
    (bif decide (0 ≤ x1.2) then
      (bif decide (x1.2 ≤ (x0.length : Int)) then
        (bif decide ((x0.length : Int) ≤ (x0.length : Int)) then
          (bif decide (0 ≤ x1.2) then
            (bif decide (x1.2 ≤ (x0.length : Int)) then
              ((slices_Concat_int k [((x0.take ((x0.length : Int)).toNat).drop x1.2.toNat), ((x0.take x1.2.toNat).drop 0)]).bind fun y1 =>
              some y1)
            else (none))
          else (none))
        else (none))
      else (none))
    else (none))
  else (bif (x1.1 == (2 : Int)) then
      (bif decide (0 ≤ x1.2) then
        (bif decide (x1.2 ≤ (x0.length : Int)) then
          ((i_reversed k ((x0.take x1.2.toNat).drop 0)).bind fun y2 =>
          bif decide (0 ≤ x1.2) then
            (bif decide (x1.2 ≤ (x0.length : Int)) then
              (bif decide ((x0.length : Int) ≤ (x0.length : Int)) then
                ((slices_Concat_int k [y2, ((x0.take ((x0.length : Int)).toNat).drop x1.2.toNat)]).bind fun y3 =>
                some y3)
              else (none))
            else (none))
          else (none))
        else (none))
      else (none))
    else (bif (x1.1 == (3 : Int)) then
        (bif decide (0 ≤ x1.2) then
          (bif decide (x1.2 ≤ (x0.length : Int)) then
            ((i_reversed k ((x0.take x1.2.toNat).drop 0)).bind fun y4 =>
            bif decide (0 ≤ x1.2) then
              (bif decide (x1.2 ≤ (x0.length : Int)) then
                (bif decide ((x0.length : Int) ≤ (x0.length : Int)) then
                  ((slices_Concat_int k [y4, ((x0.take ((x0.length : Int)).toNat).drop x1.2.toNat)]).bind fun y5 =>
                  i_moved_l10 k x1.2 (0 : Int) y5)
                else (none))
              else (none))
            else (none))
          else (none))
        else (none))
      else (bif (x1.1 == (4 : Int)) then
          ((i_faro k (x0, x1.2)).bind fun y6 =>
          some y6)
        else (bif (x1.1 == (5 : Int)) then
            ((i_monge k (x0, x1.2)).bind fun y7 =>
            some y7)
          else (bif (x1.1 == (6 : Int)) then
              ((i_milk k x0).bind fun y8 =>
              some y8)
            else (bif (x1.1 == (7 : Int)) then
                ((i_dealt k (x0, x1.2)).bind fun y9 =>
                (i_reversed k y9).bind fun y10 =>
                some y10)
              else (bif (x1.1 == (8 : Int)) then
                  ((slices_Clone_int k x0).bind fun y11 =>
                  bif decide (0 ≤ x1.2) then
                    (bif decide (x1.2 < (y11.length : Int)) then
                      (bif decide (x1.2.toNat < y11.length) then
                        ((i_TurnCard k (y11.getD x1.2.toNat (0 : Int))).bind fun y12 =>
                        bif decide (0 ≤ x1.2) then
                          (bif decide (x1.2 < (y11.length : Int)) then
                            (bif decide (x1.2.toNat < y11.length) then
                              (some (y11.set x1.2.toNat y12))
                            else (none))
                          else (none))
                        else (none))
                      else (none))
                    else (none))
                  else (none))
                else (bif decide (0 ≤ x1.2) then
                    (bif decide (x1.2 ≤ (x0.length : Int)) then
                      (bif decide (0 ≤ (IntKind.i64.wrap (x1.2 + (1 : Int)))) then
                        (bif decide ((IntKind.i64.wrap (x1.2 + (1 : Int))) ≤ (x0.length : Int)) then
                          (bif decide ((x0.length : Int) ≤ (x0.length : Int)) then
                            (bif decide (0 ≤ x1.2) then
                              (bif decide (x1.2 ≤ (IntKind.i64.wrap (x1.2 + (1 : Int)))) then
                                (bif decide ((IntKind.i64.wrap (x1.2 + (1 : Int))) ≤ (x0.length : Int)) then
                                  ((slices_Concat_int k [((x0.take x1.2.toNat).drop 0), ((x0.take ((x0.length : Int)).toNat).drop (IntKind.i64.wrap (x1.2 + (1 : Int))).toNat), ((x0.take (IntKind.i64.wrap (x1.2 + (1 : Int))).toNat).drop x1.2.toNat)]).bind fun y13 =>
                                  some y13)
                                else (none))
                              else (none))
                            else (none))
                          else (none))
                        else (none))
                      else (none))
                    else (none))
                  else (none))))))))) := by kernel_rfl
theorem i_moved_l10_eq (k : Nat) (v5 : Int) (v7 : Int) (o100006 : List Int) : i_moved_l10 (k + 1) v5 v7 o100006 =
  bif decide (v7 < v5) then
    (bif decide (0 ≤ v7) then
      (bif decide (v7 < (o100006.length : Int)) then
        (bif decide (v7.toNat < o100006.length) then
          ((i_TurnCard k (o100006.getD v7.toNat (0 : Int))).bind fun y1 =>
          bif decide (0 ≤ v7) then
            (bif decide (v7 < (o100006.length : Int)) then
              (bif decide (v7.toNat < o100006.length) then
                (i_moved_l10 k v5 (IntKind.i64.wrap (v7 + (1 : Int))) (o100006.set v7.toNat y1))
              else (none))
            else (none))
          else (none))
        else (none))
      else (none))
    else (none))
  else (some o100006) := by kernel_rfl
theorem i_cuts_eq (k : Nat) (x0 : List Int) : i_cuts (k + 1) x0 =
  i_cuts_l3 k x0 (x0.length : Int) (0 : Int) [] := by kernel_rfl
theorem i_cuts_l3_eq (k : Nat) (v0 : List Int) (v6 : Int) (v7 : Int) (o100003 : List (List Int)) : i_cuts_l3 (k + 1) v0 v6 v7 o100003 =
  bif decide (v7 < v6) then
    ((i_moved k (v0, ((1 : Int), v7))).bind fun y1 =>
    bif decide (o100003.length + [y1].length ≤ rowMax) then
      (i_cuts_l3 k v0 v6 (IntKind.i64.wrap (v7 + (1 : Int))) (o100003 ++ [y1]))
    else (none))
  else (some o100003) := by kernel_rfl
theorem i_riffled_eq (k : Nat) (x0 : List Int) (x1 : Int) : i_riffled (k + 1) (x0, x1) =
  i_riffled_l3 k x0 x1 (0 : Int) (0 : Int) (x0.length : Int) (0 : Int) := by kernel_rfl
theorem i_riffled_l3_eq (k : Nat) (v0 : List Int) (v1 : Int) (v5 : Int) (v6 : Int) (v11 : Int) (v12 : Int) : i_riffled_l3 (k + 1) v0 v1 v5 v6 v11 v12 =
  bif decide (v12 < v11) then
    (bif decide (0 ≤ v12) then
      (i_riffled_l3 k v0 v1 v5 (IntKind.i64.wrap (v6 + (IntKind.i64.wrap ((1 : Int) - (IntKind.i64.wrap (((BitVec.ofInt IntKind.i64.bits (v1.fdiv (2 ^ (min v12.toNat IntKind.i64.bits))) &&& BitVec.ofInt IntKind.i64.bits (1 : Int)).toNat : Int))))))) v11 (IntKind.i64.wrap (v12 + (1 : Int))))
    else (none))
  else (i_riffled_l9 k v0 v1 v5 v6 (v0.length : Int) (0 : Int) []) := by kernel_rfl
theorem i_riffled_l9_eq (k : Nat) (v0 : List Int) (v1 : Int) (v5 : Int) (v6 : Int) (v24 : Int) (v25 : Int) (o100008 : List Int) : i_riffled_l9 (k + 1) v0 v1 v5 v6 v24 v25 o100008 =
  bif decide (v25 < v24) then
    (bif decide (0 ≤ v25) then
      (bif ((IntKind.i64.wrap (((BitVec.ofInt IntKind.i64.bits (v1.fdiv (2 ^ (min v25.toNat IntKind.i64.bits))) &&& BitVec.ofInt IntKind.i64.bits (1 : Int)).toNat : Int))) == (1 : Int)) then
        (bif decide (0 ≤ v6) then
          (bif decide (v6 < (v0.length : Int)) then
            (bif decide (o100008.length + [(v0.getD v6.toNat (0 : Int))].length ≤ rowMax) then
              (i_riffled_l9 k v0 v1 v5 (IntKind.i64.wrap (v6 + (1 : Int))) v24 (IntKind.i64.wrap (v25 + (1 : Int))) (o100008 ++ [(v0.getD v6.toNat (0 : Int))]))
            else (none))
          else (none))
        else (none))
      else (bif decide (0 ≤ v5) then
          (bif decide (v5 < (v0.length : Int)) then
            (bif decide (o100008.length + [(v0.getD v5.toNat (0 : Int))].length ≤ rowMax) then
              (i_riffled_l9 k v0 v1 (IntKind.i64.wrap (v5 + (1 : Int))) v6 v24 (IntKind.i64.wrap (v25 + (1 : Int))) (o100008 ++ [(v0.getD v5.toNat (0 : Int))]))
            else (none))
          else (none))
        else (none)))
    else (none))
  else (some o100008) := by kernel_rfl
theorem i_all_eq (k : Nat) (x0 : List Int) (x1 : Int) : i_all (k + 1) (x0, x1) =
  bif (x1 == (0 : Int)) then
    ((slices_Clone_int k x0).bind fun y1 =>
    some ([y1], true))
  else (bif (x1 == (1 : Int)) then
      ((i_cuts k x0).bind fun y2 =>
      some (y2, true))
    else (bif (x1 == (2 : Int)) then
        (i_all_l9 k x0 (0 : Int) [])
      else (bif (x1 == (3 : Int)) then
          (bif decide ((x0.length : Int) < (2 : Int)) then
            (some ([], false))
          else ((i_moved k (x0, ((3 : Int), (2 : Int)))).bind fun y3 =>
            (i_cuts k y3).bind fun y4 =>
            some (y4, true)))
        else (bif (x1 == (4 : Int)) then
            (i_all_l20 k x0 (x0.length : Int) (0 : Int) [])
          else (some ([], false)))))) := by kernel_rfl
theorem i_all_l9_eq (k : Nat) (v0 : List Int) (v7 : Int) (o100006 : List (List Int)) : i_all_l9 (k + 1) v0 v7 o100006 =
  bif decide (0 ≤ (v0.length : Int)) then
    (bif decide (v7 < (IntKind.i64.wrap ((1 : Int) * 2 ^ (min (v0.length : Int).toNat IntKind.i64.bits)))) then
      ((i_riffled k (v0, v7)).bind fun y1 =>
      bif decide (o100006.length + [y1].length ≤ rowMax) then
        (i_all_l9 k v0 (IntKind.i64.wrap (v7 + (1 : Int))) (o100006 ++ [y1]))
      else (none))
    else (some (o100006, true)))
  else (none) := by kernel_rfl
theorem i_all_l20_eq (k : Nat) (v0 : List Int) (v48 : Int) (v49 : Int) (o100008 : List (List Int)) : i_all_l20 (k + 1) v0 v48 v49 o100008 =
  bif decide (v49 < v48) then
    (bif decide (0 ≤ v49) then
      (bif decide (v49 ≤ (IntKind.i64.wrap (v49 + (1 : Int)))) then
        (bif decide ((IntKind.i64.wrap (v49 + (1 : Int))) ≤ (v0.length : Int)) then
          (bif decide (0 ≤ v49) then
            (bif decide (v49 ≤ (v0.length : Int)) then
              (bif decide (0 ≤ (IntKind.i64.wrap (v49 + (1 : Int)))) then
                (bif decide ((IntKind.i64.wrap (v49 + (1 : Int))) ≤ (v0.length : Int)) then
                  (bif decide ((v0.length : Int) ≤ (v0.length : Int)) then
                    ((slices_Concat_int k [((v0.take (IntKind.i64.wrap (v49 + (1 : Int))).toNat).drop v49.toNat), ((v0.take v49.toNat).drop 0), ((v0.take ((v0.length : Int)).toNat).drop (IntKind.i64.wrap (v49 + (1 : Int))).toNat)]).bind fun y1 =>
                    bif decide (o100008.length + [y1].length ≤ rowMax) then
                      (i_all_l20 k v0 v48 (IntKind.i64.wrap (v49 + (1 : Int))) (o100008 ++ [y1]))
                    else (none))
                  else (none))
                else (none))
              else (none))
            else (none))
          else (none))
        else (none))
      else (none))
    else (none))
  else (some (o100008, true)) := by kernel_rfl
theorem slices_SortFunc_int_int_eq (k : Nat) (x0 : List (List Int)) (x1 : Bool) : slices_SortFunc_int_int k (x0, x1) = (fun a _ => sortF a) x0 x1 := by kernel_rfl
theorem slices_CompactFunc_int_int_eq (k : Nat) (x0 : List (List Int)) (x1 : Bool) : slices_CompactFunc_int_int k (x0, x1) = (fun a _ => compactF a) x0 x1 := by kernel_rfl
theorem i_SortPackets_eq (k : Nat) (x0 : List (List Int)) : i_SortPackets (k + 1) x0 =
  i_SortPackets_l3 k x0 (x0.length : Int) (0 : Int) [] := by kernel_rfl
theorem i_SortPackets_l3_eq (k : Nat) (v6 : List (List Int)) (v7 : Int) (v8 : Int) (o100003 : List (List Int)) : i_SortPackets_l3 (k + 1) v6 v7 v8 o100003 =
  bif decide (v8 < v7) then
    (bif decide (0 ≤ v8) then
      (bif decide (v8 < (v6.length : Int)) then
        ((slices_Clone_int k (v6.getD v8.toNat [])).bind fun y1 =>
        bif decide (o100003.length + [y1].length ≤ rowMax) then
          (i_SortPackets_l3 k v6 v7 (IntKind.i64.wrap (v8 + (1 : Int))) (o100003 ++ [y1]))
        else (none))
      else (none))
    else (none))
  else ((slices_SortFunc_int_int k (o100003, false)).bind fun y2 =>
    (slices_CompactFunc_int_int k (y2.2, false)).bind fun y3 =>
    some y3) := by kernel_rfl
theorem i_ResultsOf_eq (k : Nat) (x0 : List Int) (x1 : Int) : i_ResultsOf (k + 1) (x0, x1) =
  (i_PacketOk k x0).bind fun y1 =>
  bif (!y1) then
    (some ([], false))
  else (bif ((x0.length : Int) == (0 : Int)) then
      (some ([], false))
    else ((i_all k (x0, x1)).bind fun y2 =>
      (i_SortPackets k y2.1).bind fun y3 =>
      bif (!y2.2) then
        (some ([], false))
      else (bif decide ((y3.length : Int) > (3000 : Int)) then
          (some ([], false))
        else (some (y3, true))))) := by kernel_rfl
theorem i_ResultsAfter_eq (k : Nat) (x0 : List (List Int)) (x1 : Int) : i_ResultsAfter (k + 1) (x0, x1) =
  i_ResultsAfter_l3 k x1 x0 (x0.length : Int) (0 : Int) [] := by kernel_rfl
theorem i_ResultsAfter_l3_eq (k : Nat) (v1 : Int) (v11 : List (List Int)) (v12 : Int) (v13 : Int) (o100006 : List (List Int)) : i_ResultsAfter_l3 (k + 1) v1 v11 v12 v13 o100006 =
  bif decide (v13 < v12) then
    (bif decide (0 ≤ v13) then
      (bif decide (v13 < (v11.length : Int)) then
        ((i_ResultsOf k ((v11.getD v13.toNat []), v1)).bind fun y1 =>
        bif (!y1.2) then
          (some ([], false))
        else (bif decide (o100006.length + y1.1.length ≤ rowMax) then
            (bif decide (((o100006 ++ y1.1).length : Int) > (12000 : Int)) then
              ((i_SortPackets k (o100006 ++ y1.1)).bind fun y2 =>
              i_ResultsAfter_l3 k v1 v11 v12 (IntKind.i64.wrap (v13 + (1 : Int))) y2)
            else (i_ResultsAfter_l3 k v1 v11 v12 (IntKind.i64.wrap (v13 + (1 : Int))) (o100006 ++ y1.1)))
          else (none)))
      else (none))
    else (none))
  else ((i_SortPackets k o100006).bind fun y3 =>
    bif decide ((y3.length : Int) > (3000 : Int)) then
      (some ([], false))
    else (some (y3, true))) := by kernel_rfl
theorem i_AfterChoice_eq (k : Nat) (x0 : List (List Int)) (x1 : Int) : i_AfterChoice (k + 1) (x0, x1) =
  (i_KnowOk k x0).bind fun y1 =>
  bif (!y1) then
    (some ([], false))
  else ((i_ResultsAfter k (x0, x1)).bind fun y2 =>
    some y2) := by kernel_rfl
theorem w_eqIntS_eq (k : Nat) (x0 : List Int) (x1 : List Int) : w_eqIntS (k + 1) (x0, x1) =
  bif (!((x0.length : Int) == (x1.length : Int))) then
    (some false)
  else (w_eqIntS_l4 k x0 x1 (0 : Int)) := by kernel_rfl
theorem w_eqIntS_l4_eq (k : Nat) (v0 : List Int) (v1 : List Int) (v5 : Int) : w_eqIntS_l4 (k + 1) v0 v1 v5 =
  bif decide (v5 < (v0.length : Int)) then
    (bif decide (0 ≤ v5) then
      (bif decide (v5 < (v0.length : Int)) then
        (bif decide (0 ≤ v5) then
          (bif decide (v5 < (v1.length : Int)) then
            (bif (!((v0.getD v5.toNat (0 : Int)) == (v1.getD v5.toNat (0 : Int)))) then
              (some false)
            else (w_eqIntS_l4 k v0 v1 (IntKind.i64.wrap (v5 + (1 : Int)))))
          else (none))
        else (none))
      else (none))
    else (none))
  else (some true) := by kernel_rfl
theorem w_eqIntSS_eq (k : Nat) (x0 : List (List Int)) (x1 : List (List Int)) : w_eqIntSS (k + 1) (x0, x1) =
  bif (!((x0.length : Int) == (x1.length : Int))) then
    (some false)
  else (w_eqIntSS_l4 k x0 x1 (0 : Int)) := by kernel_rfl
theorem w_eqIntSS_l4_eq (k : Nat) (v0 : List (List Int)) (v1 : List (List Int)) (v5 : Int) : w_eqIntSS_l4 (k + 1) v0 v1 v5 =
  bif decide (v5 < (v0.length : Int)) then
    (bif decide (0 ≤ v5) then
      (bif decide (v5 < (v0.length : Int)) then
        (bif decide (0 ≤ v5) then
          (bif decide (v5 < (v1.length : Int)) then
            ((w_eqIntS k ((v0.getD v5.toNat []), (v1.getD v5.toNat []))).bind fun y1 =>
            bif (!y1) then
              (some false)
            else (w_eqIntSS_l4 k v0 v1 (IntKind.i64.wrap (v5 + (1 : Int)))))
          else (none))
        else (none))
      else (none))
    else (none))
  else (some true) := by kernel_rfl
theorem w_markIntS_eq (k : Nat) (x0 : List Int) (x1 : Int) : w_markIntS (k + 1) (x0, x1) =
  w_markIntS_l2 k x1 (0 : Int) x0 := by kernel_rfl
theorem w_markIntS_l2_eq (k : Nat) (v1 : Int) (v5 : Int) (o500000 : List Int) : w_markIntS_l2 (k + 1) v1 v5 o500000 =
  bif decide (v5 < (o500000.length : Int)) then
    (bif decide (0 ≤ v5) then
      (bif decide (v5 < (o500000.length : Int)) then
        (bif decide (v5.toNat < o500000.length) then
          (w_markIntS_l2 k (IntKind.i64.wrap (v1 + (1 : Int))) (IntKind.i64.wrap (v5 + (1 : Int))) (o500000.set v5.toNat v1))
        else (none))
      else (none))
    else (none))
  else (some (v1, o500000)) := by kernel_rfl
theorem w_markIntSS_eq (k : Nat) (x0 : List (List Int)) (x1 : Int) : w_markIntSS (k + 1) (x0, x1) =
  w_markIntSS_l2 k x1 (0 : Int) x0 := by kernel_rfl
theorem w_markIntSS_l2_eq (k : Nat) (v1 : Int) (v5 : Int) (o500000 : List (List Int)) : w_markIntSS_l2 (k + 1) v1 v5 o500000 =
  bif decide (v5 < (o500000.length : Int)) then
    (bif decide (0 ≤ v5) then
      (bif decide (v5 < (o500000.length : Int)) then
        (bif decide (v5.toNat < o500000.length) then
          ((w_markIntS k ((o500000.getD v5.toNat []), v1)).bind fun y1 =>
          w_markIntSS_l2 k y1.1 (IntKind.i64.wrap (v5 + (1 : Int))) (o500000.set v5.toNat y1.2))
        else (none))
      else (none))
    else (none))
  else (some (v1, o500000)) := by kernel_rfl
theorem w_heldIntS_eq (k : Nat) (x0 : List Int) (x1 : Int) : w_heldIntS (k + 1) (x0, x1) =
  w_heldIntS_l2 k x0 x1 (0 : Int) := by kernel_rfl
theorem w_heldIntS_l2_eq (k : Nat) (v0 : List Int) (v1 : Int) (v5 : Int) : w_heldIntS_l2 (k + 1) v0 v1 v5 =
  bif decide (v5 < (v0.length : Int)) then
    (bif decide (0 ≤ v5) then
      (bif decide (v5 < (v0.length : Int)) then
        (bif (!((v0.getD v5.toNat (0 : Int)) == v1)) then
          (some (-1 : Int))
        else (w_heldIntS_l2 k v0 (IntKind.i64.wrap (v1 + (1 : Int))) (IntKind.i64.wrap (v5 + (1 : Int)))))
      else (none))
    else (none))
  else (some v1) := by kernel_rfl
theorem w_heldIntSS_eq (k : Nat) (x0 : List (List Int)) (x1 : Int) : w_heldIntSS (k + 1) (x0, x1) =
  w_heldIntSS_l2 k x0 x1 (0 : Int) := by kernel_rfl
theorem w_heldIntSS_l2_eq (k : Nat) (v0 : List (List Int)) (v1 : Int) (v5 : Int) : w_heldIntSS_l2 (k + 1) v0 v1 v5 =
  bif decide (v5 < (v0.length : Int)) then
    (bif decide (0 ≤ v5) then
      (bif decide (v5 < (v0.length : Int)) then
        ((w_heldIntS k ((v0.getD v5.toNat []), v1)).bind fun y1 =>
        bif decide (y1 < (0 : Int)) then
          (some (-1 : Int))
        else (w_heldIntSS_l2 k v0 y1 (IntKind.i64.wrap (v5 + (1 : Int)))))
      else (none))
    else (none))
  else (some v1) := by kernel_rfl
theorem w_FnExactAfterChoice_eq (k : Nat) (x0 : List (List Int)) (x1 : Int) : w_FnExactAfterChoice (k + 1) (x0, x1) =
  (w_szIntSS k (x0, (1048576 : Int))).bind fun y1 =>
  bif decide (y1 < (0 : Int)) then
    (some true)
  else ((w_toIntSS k x0).bind fun y2 =>
    (s_AfterChoice k (y2, x1)).bind fun y3 =>
    (w_toIntSS k x0).bind fun y4 =>
    (i_AfterChoice k (y4, x1)).bind fun y5 =>
    (w_eqIntSS k (y5.1, y3.1)).bind fun y6 =>
    bif (!y6) then
      (some false)
    else (bif (!(y5.2 == y3.2)) then
        (some false)
      else ((w_toIntSS k x0).bind fun y7 =>
        (w_eqIntSS k (y4, y7)).bind fun y8 =>
        bif (!y8) then
          (some false)
        else ((w_markIntSS k (y4, (1 : Int))).bind fun y9 =>
          bif decide (y9.1 < (0 : Int)) then
            (some false)
          else ((w_eqIntSS k (y5.1, y3.1)).bind fun y10 =>
            bif (!y10) then
              (some false)
            else (bif (!(y5.2 == y3.2)) then
                (some false)
              else ((w_markIntSS k (y5.1, (1 : Int))).bind fun y11 =>
                (w_heldIntSS k (y11.2, (1 : Int))).bind fun y12 =>
                bif decide (y12 < (0 : Int)) then
                  (some false)
                else (bif (!(y12 == y11.1)) then
                    (some false)
                  else ((w_toIntSS k x0).bind fun y13 =>
                    (i_AfterChoice k (y13, x1)).bind fun y14 =>
                    (w_eqIntSS k (y14.1, y3.1)).bind fun y15 =>
                    bif (!y15) then
                      (some false)
                    else (bif (!(y14.2 == y3.2)) then
                        (some false)
                      else ((w_heldIntSS k (y11.2, (1 : Int))).bind fun y16 =>
                        bif decide (y16 < (0 : Int)) then
                          (some false)
                        else (bif (!(y16 == y11.1)) then
                            (some false)
                          else (some true))))))))))))) := by kernel_rfl

/-! ### the tables are right -/
/-- What holds of the world throughout. -/
abbrev gw : World → Prop := fun w => True
theorem ty_3 : TyOk Go.Proofs.Try.prog 3 (.one (.int .i64)) := tyOk_int (by kernel_rfl) (by kernel_rfl) (by kernel_rfl)
theorem ty_4 : TyOk Go.Proofs.Try.prog 4 (.one (.bool)) := tyOk_bool (by kernel_rfl) (by kernel_rfl) (by kernel_rfl)
theorem ty_22 : TyOk Go.Proofs.Try.prog 22 (.one (.slice (.int .i64))) := tyOk_slice (e := 3) (by kernel_rfl) (by kernel_rfl) (by kernel_rfl) (elemOk_of (by kernel_rfl) (by kernel_rfl) (by kernel_rfl))
theorem ty_38 : TyOk Go.Proofs.Try.prog 38 (.one (.slice (.slice (.int .i64)))) := tyOk_slice (e := 22) (by kernel_rfl) (by kernel_rfl) (by kernel_rfl) (elemOk_of (by kernel_rfl) (by kernel_rfl) (by kernel_rfl))
theorem ty_45 : TyOk Go.Proofs.Try.prog 45 (.struct [(0, 3), (1, 3)] [.int .i64, .int .i64] true) := tyOk_struct (fields := Go.Proofs.Try.prog.fieldsOf 45) (by kernel_rfl) (by kernel_rfl) (by kernel_rfl) (by kernel_rfl) (by kernel_rfl) (by kernel_rfl) (fun _ => structEq_ok (d := 20) (fields := Go.Proofs.Try.prog.fieldsOf 45) (by kernel_rfl) (by kernel_rfl) (by decide) (by kernel_rfl))
theorem ty_121 : TyOk Go.Proofs.Try.prog 121 (.arr 12 (.bool)) := tyOk_arr (e := 4) (by kernel_rfl) (elemOk_of (by kernel_rfl) (by kernel_rfl) (by kernel_rfl)) (by kernel_rfl) (by kernel_rfl)
theorem ty_5022023 : TyOk Go.Proofs.Try.prog 5022023 (.flag) := trivial
theorem ty_5022031 : TyOk Go.Proofs.Try.prog 5022031 (.flag) := trivial
theorem hE : ∀ T ti, E.ty T = some ti → TyOk Go.Proofs.Try.prog T ti := lookT_ok (l := tyL) ⟨ty_3, ty_4, ty_22, ty_38, ty_45, ty_121, ty_5022023, ty_5022031, trivial⟩
theorem w_szIntS_ok : OneF Go.Proofs.Try.prog gw 52 w_szIntS_fi := fnOk_of (fn := Go.Proofs.Try.f52) (c := w_szIntS_c) Go.Proofs.Try.func52 (by kernel_rfl) (by kernel_rfl) rfl rfl (by kernel_rfl) (by kernel_rfl) rfl
theorem w_szIntSS_ok : OneF Go.Proofs.Try.prog gw 19 w_szIntSS_fi := fnOk_of (fn := Go.Proofs.Try.f19) (c := w_szIntSS_c) Go.Proofs.Try.func19 (by kernel_rfl) (by kernel_rfl) rfl rfl (by kernel_rfl) (by kernel_rfl) rfl
theorem w_toIntS_ok : OneF Go.Proofs.Try.prog gw 40 w_toIntS_fi := fnOk_of (fn := Go.Proofs.Try.f40) (c := w_toIntS_c) Go.Proofs.Try.func40 (by kernel_rfl) (by kernel_rfl) rfl rfl (by kernel_rfl) (by kernel_rfl) rfl
theorem w_toIntSS_ok : OneF Go.Proofs.Try.prog gw 21 w_toIntSS_fi := fnOk_of (fn := Go.Proofs.Try.f21) (c := w_toIntSS_c) Go.Proofs.Try.func21 (by kernel_rfl) (by kernel_rfl) rfl rfl (by kernel_rfl) (by kernel_rfl) rfl
theorem s_l01In_ok : OneF Go.Proofs.Try.prog gw 55 s_l01In_fi := fnOk_of (fn := Go.Proofs.Try.f55) (c := s_l01In_c) Go.Proofs.Try.func55 (by kernel_rfl) (by kernel_rfl) rfl rfl (by kernel_rfl) (by kernel_rfl) rfl
theorem s_CardOf_ok : OneF Go.Proofs.Try.prog gw 122 s_CardOf_fi := fnOk_of (fn := Go.Proofs.Try.f122) (c := s_CardOf_c) Go.Proofs.Try.func122 (by kernel_rfl) (by kernel_rfl) rfl rfl (by kernel_rfl) (by kernel_rfl) rfl
theorem s_l02Has_ok : OneF Go.Proofs.Try.prog gw 123 s_l02Has_fi := fnOk_of (fn := Go.Proofs.Try.f123) (c := s_l02Has_c) Go.Proofs.Try.func123 (by kernel_rfl) (by kernel_rfl) rfl rfl (by kernel_rfl) (by kernel_rfl) rfl
theorem s_PacketOk_ok : OneF Go.Proofs.Try.prog gw 75 s_PacketOk_fi := fnOk_of (fn := Go.Proofs.Try.f75) (c := s_PacketOk_c) Go.Proofs.Try.func75 (by kernel_rfl) (by kernel_rfl) rfl rfl (by kernel_rfl) (by kernel_rfl) rfl
theorem s_PositionOf_ok : OneF Go.Proofs.Try.prog gw 133 s_PositionOf_fi := fnOk_of (fn := Go.Proofs.Try.f133) (c := s_PositionOf_c) Go.Proofs.Try.func133 (by kernel_rfl) (by kernel_rfl) rfl rfl (by kernel_rfl) (by kernel_rfl) rfl
theorem s_IsArrangement_ok : OneF Go.Proofs.Try.prog gw 101 s_IsArrangement_fi := fnOk_of (fn := Go.Proofs.Try.f101) (c := s_IsArrangement_c) Go.Proofs.Try.func101 (by kernel_rfl) (by kernel_rfl) rfl rfl (by kernel_rfl) (by kernel_rfl) rfl
theorem s_l05Less_ok : OneF Go.Proofs.Try.prog gw 102 s_l05Less_fi := fnOk_of (fn := Go.Proofs.Try.f102) (c := s_l05Less_c) Go.Proofs.Try.func102 (by kernel_rfl) (by kernel_rfl) rfl rfl (by kernel_rfl) (by kernel_rfl) rfl
theorem s_KnowOk_ok : OneF Go.Proofs.Try.prog gw 66 s_KnowOk_fi := fnOk_of (fn := Go.Proofs.Try.f66) (c := s_KnowOk_c) Go.Proofs.Try.func66 (by kernel_rfl) (by kernel_rfl) rfl rfl (by kernel_rfl) (by kernel_rfl) rfl
theorem s_l05Ok_ok : OneF Go.Proofs.Try.prog gw 120 s_l05Ok_fi := fnOk_of (fn := Go.Proofs.Try.f120) (c := s_l05Ok_c) Go.Proofs.Try.func120 (by kernel_rfl) (by kernel_rfl) rfl rfl (by kernel_rfl) (by kernel_rfl) rfl
theorem s_TurnCard_ok : OneF Go.Proofs.Try.prog gw 108 s_TurnCard_fi := fnOk_of (fn := Go.Proofs.Try.f108) (c := s_TurnCard_c) Go.Proofs.Try.func108 (by kernel_rfl) (by kernel_rfl) rfl rfl (by kernel_rfl) (by kernel_rfl) rfl
theorem s_l04Back_ok : OneF Go.Proofs.Try.prog gw 103 s_l04Back_fi := fnOk_of (fn := Go.Proofs.Try.f103) (c := s_l04Back_c) Go.Proofs.Try.func103 (by kernel_rfl) (by kernel_rfl) rfl rfl (by kernel_rfl) (by kernel_rfl) rfl
theorem s_l04Faro_ok : OneF Go.Proofs.Try.prog gw 104 s_l04Faro_fi := fnOk_of (fn := Go.Proofs.Try.f104) (c := s_l04Faro_c) Go.Proofs.Try.func104 (by kernel_rfl) (by kernel_rfl) rfl rfl (by kernel_rfl) (by kernel_rfl) rfl
theorem s_l04Monge_ok : OneF Go.Proofs.Try.prog gw 105 s_l04Monge_fi := fnOk_of (fn := Go.Proofs.Try.f105) (c := s_l04Monge_c) Go.Proofs.Try.func105 (by kernel_rfl) (by kernel_rfl) rfl rfl (by kernel_rfl) (by kernel_rfl) rfl
theorem s_l04Milk_ok : OneF Go.Proofs.Try.prog gw 106 s_l04Milk_fi := fnOk_of (fn := Go.Proofs.Try.f106) (c := s_l04Milk_c) Go.Proofs.Try.func106 (by kernel_rfl) (by kernel_rfl) rfl rfl (by kernel_rfl) (by kernel_rfl) rfl
theorem s_l04Duck_ok : OneF Go.Proofs.Try.prog gw 107 s_l04Duck_fi := fnOk_of (fn := Go.Proofs.Try.f107) (c := s_l04Duck_c) Go.Proofs.Try.func107 (by kernel_rfl) (by kernel_rfl) rfl rfl (by kernel_rfl) (by kernel_rfl) rfl
theorem s_l04Do_ok : OneF Go.Proofs.Try.prog gw 68 s_l04Do_fi := fnOk_of (fn := Go.Proofs.Try.f68) (c := s_l04Do_c) Go.Proofs.Try.func68 (by kernel_rfl) (by kernel_rfl) rfl rfl (by kernel_rfl) (by kernel_rfl) rfl
theorem s_l05Cuts_ok : OneF Go.Proofs.Try.prog gw 142 s_l05Cuts_fi := fnOk_of (fn := Go.Proofs.Try.f142) (c := s_l05Cuts_c) Go.Proofs.Try.func142 (by kernel_rfl) (by kernel_rfl) rfl rfl (by kernel_rfl) (by kernel_rfl) rfl
theorem s_l05Weave_ok : OneF Go.Proofs.Try.prog gw 143 s_l05Weave_fi := fnOk_of (fn := Go.Proofs.Try.f143) (c := s_l05Weave_c) Go.Proofs.Try.func143 (by kernel_rfl) (by kernel_rfl) rfl rfl (by kernel_rfl) (by kernel_rfl) rfl
theorem s_l05Of_ok : OneF Go.Proofs.Try.prog gw 121 s_l05Of_fi := fnOk_of (fn := Go.Proofs.Try.f121) (c := s_l05Of_c) Go.Proofs.Try.func121 (by kernel_rfl) (by kernel_rfl) rfl rfl (by kernel_rfl) (by kernel_rfl) rfl
theorem s_SamePacket_ok : OneF Go.Proofs.Try.prog gw 137 s_SamePacket_fi := fnOk_of (fn := Go.Proofs.Try.f137) (c := s_SamePacket_c) Go.Proofs.Try.func137 (by kernel_rfl) (by kernel_rfl) rfl rfl (by kernel_rfl) (by kernel_rfl) rfl
theorem s_l05Merge_ok : OneF Go.Proofs.Try.prog gw 109 s_l05Merge_fi := fnOk_of (fn := Go.Proofs.Try.f109) (c := s_l05Merge_c) Go.Proofs.Try.func109 (by kernel_rfl) (by kernel_rfl) rfl rfl (by kernel_rfl) (by kernel_rfl) rfl
theorem s_SortPackets_ok : OneF Go.Proofs.Try.prog gw 69 s_SortPackets_fi := fnOk_of (fn := Go.Proofs.Try.f69) (c := s_SortPackets_c) Go.Proofs.Try.func69 (by kernel_rfl) (by kernel_rfl) rfl rfl (by kernel_rfl) (by kernel_rfl) rfl
theorem s_ResultsAfter_ok : OneF Go.Proofs.Try.prog gw 73 s_ResultsAfter_fi := fnOk_of (fn := Go.Proofs.Try.f73) (c := s_ResultsAfter_c) Go.Proofs.Try.func73 (by kernel_rfl) (by kernel_rfl) rfl rfl (by kernel_rfl) (by kernel_rfl) rfl
theorem s_AfterChoice_ok : OneF Go.Proofs.Try.prog gw 27 s_AfterChoice_fi := fnOk_of (fn := Go.Proofs.Try.f27) (c := s_AfterChoice_c) Go.Proofs.Try.func27 (by kernel_rfl) (by kernel_rfl) rfl rfl (by kernel_rfl) (by kernel_rfl) rfl
theorem i_CardOf_ok : OneF Go.Proofs.Try.prog gw 81 i_CardOf_fi := fnOk_of (fn := Go.Proofs.Try.f81) (c := i_CardOf_c) Go.Proofs.Try.func81 (by kernel_rfl) (by kernel_rfl) rfl rfl (by kernel_rfl) (by kernel_rfl) rfl
theorem i_PacketOk_ok : OneF Go.Proofs.Try.prog gw 78 i_PacketOk_fi := fnOk_of (fn := Go.Proofs.Try.f78) (c := i_PacketOk_c) Go.Proofs.Try.func78 (by kernel_rfl) (by kernel_rfl) rfl rfl (by kernel_rfl) (by kernel_rfl) rfl
theorem i_PositionOf_1_ok : OneF Go.Proofs.Try.prog gw 135 i_PositionOf_1_fi := fnOk_of (fn := Go.Proofs.Try.f135) (c := i_PositionOf_1_c) Go.Proofs.Try.func135 (by kernel_rfl) (by kernel_rfl) rfl rfl (by kernel_rfl) (by kernel_rfl) rfl
theorem slices_IndexFunc_int_of_i_PositionOf_1_ok : OneF Go.Proofs.Try.prog gw 134 slices_IndexFunc_int_of_i_PositionOf_1_fi := fnOk_of (fn := Go.Proofs.Try.f134) (c := slices_IndexFunc_int_of_i_PositionOf_1_c) Go.Proofs.Try.func134 (by kernel_rfl) (by kernel_rfl) rfl rfl (by kernel_rfl) (by kernel_rfl) rfl
theorem i_PositionOf_ok : OneF Go.Proofs.Try.prog gw 98 i_PositionOf_fi := fnOk_of (fn := Go.Proofs.Try.f98) (c := i_PositionOf_c) Go.Proofs.Try.func98 (by kernel_rfl) (by kernel_rfl) rfl rfl (by kernel_rfl) (by kernel_rfl) rfl
theorem i_IsArrangement_1_ok : OneF Go.Proofs.Try.prog gw 130 i_IsArrangement_1_fi := fnOk_of (fn := Go.Proofs.Try.f130) (c := i_IsArrangement_1_c) Go.Proofs.Try.func130 (by kernel_rfl) (by kernel_rfl) rfl rfl (by kernel_rfl) (by kernel_rfl) rfl
theorem slices_IndexFunc_int_of_i_IsArrangement_1_ok : OneF Go.Proofs.Try.prog gw 134 slices_IndexFunc_int_of_i_IsArrangement_1_fi := fnOk_of (fn := Go.Proofs.Try.f134) (c := slices_IndexFunc_int_of_i_IsArrangement_1_c) Go.Proofs.Try.func134 (by kernel_rfl) (by kernel_rfl) rfl rfl (by kernel_rfl) (by kernel_rfl) rfl
theorem slices_ContainsFunc_int_of_i_IsArrangement_1_ok : OneF Go.Proofs.Try.prog gw 129 slices_ContainsFunc_int_of_i_IsArrangement_1_fi := fnOk_of (fn := Go.Proofs.Try.f129) (c := slices_ContainsFunc_int_of_i_IsArrangement_1_c) Go.Proofs.Try.func129 (by kernel_rfl) (by kernel_rfl) rfl rfl (by kernel_rfl) (by kernel_rfl) rfl
theorem i_IsArrangement_ok : OneF Go.Proofs.Try.prog gw 91 i_IsArrangement_fi := fnOk_of (fn := Go.Proofs.Try.f91) (c := i_IsArrangement_c) Go.Proofs.Try.func91 (by kernel_rfl) (by kernel_rfl) rfl rfl (by kernel_rfl) (by kernel_rfl) rfl
theorem cmp_isNaN_int_ok : OneF Go.Proofs.Try.prog gw 148 cmp_isNaN_int_fi := fnOk_of (fn := Go.Proofs.Try.f148) (c := cmp_isNaN_int_c) Go.Proofs.Try.func148 (by kernel_rfl) (by kernel_rfl) rfl rfl (by kernel_rfl) (by kernel_rfl) rfl
theorem cmp_Compare_int_ok : OneF Go.Proofs.Try.prog gw 131 cmp_Compare_int_fi := fnOk_of (fn := Go.Proofs.Try.f131) (c := cmp_Compare_int_c) Go.Proofs.Try.func131 (by kernel_rfl) (by kernel_rfl) rfl rfl (by kernel_rfl) (by kernel_rfl) rfl
theorem slices_Compare_int_ok : OneF Go.Proofs.Try.prog gw 92 slices_Compare_int_fi := fnOk_of (fn := Go.Proofs.Try.f92) (c := slices_Compare_int_c) Go.Proofs.Try.func92 (by kernel_rfl) (by kernel_rfl) rfl rfl (by kernel_rfl) (by kernel_rfl) rfl
theorem i_KnowOk_ok : OneF Go.Proofs.Try.prog gw 47 i_KnowOk_fi := fnOk_of (fn := Go.Proofs.Try.f47) (c := i_KnowOk_c) Go.Proofs.Try.func47 (by kernel_rfl) (by kernel_rfl) rfl rfl (by kernel_rfl) (by kernel_rfl) rfl
theorem slices_Clone_int_ok : OneF Go.Proofs.Try.prog gw 80 slices_Clone_int_fi := fnOk_of (fn := Go.Proofs.Try.f80) (c := slices_Clone_int_c) Go.Proofs.Try.func80 (by kernel_rfl) (by kernel_rfl) rfl rfl (by kernel_rfl) (by kernel_rfl) rfl
theorem slices_Grow_int_ok : OneF Go.Proofs.Try.prog gw 138 slices_Grow_int_fi := Go.Proofs.Try.growOne
theorem slices_Concat_int_ok : OneF Go.Proofs.Try.prog gw 110 slices_Concat_int_fi := fnOk_of (fn := Go.Proofs.Try.f110) (c := slices_Concat_int_c) Go.Proofs.Try.func110 (by kernel_rfl) (by kernel_rfl) rfl rfl (by kernel_rfl) (by kernel_rfl) rfl
theorem slices_Reverse_int_ok : OneF Go.Proofs.Try.prog gw 139 slices_Reverse_int_fi := Go.Proofs.Try.revOne
theorem i_reversed_ok : OneF Go.Proofs.Try.prog gw 111 i_reversed_fi := fnOk_of (fn := Go.Proofs.Try.f111) (c := i_reversed_c) Go.Proofs.Try.func111 (by kernel_rfl) (by kernel_rfl) rfl rfl (by kernel_rfl) (by kernel_rfl) rfl
theorem i_faro_ok : OneF Go.Proofs.Try.prog gw 113 i_faro_fi := fnOk_of (fn := Go.Proofs.Try.f113) (c := i_faro_c) Go.Proofs.Try.func113 (by kernel_rfl) (by kernel_rfl) rfl rfl (by kernel_rfl) (by kernel_rfl) rfl
theorem i_monge_ok : OneF Go.Proofs.Try.prog gw 114 i_monge_fi := fnOk_of (fn := Go.Proofs.Try.f114) (c := i_monge_c) Go.Proofs.Try.func114 (by kernel_rfl) (by kernel_rfl) rfl rfl (by kernel_rfl) (by kernel_rfl) rfl
theorem i_milk_ok : OneF Go.Proofs.Try.prog gw 115 i_milk_fi := fnOk_of (fn := Go.Proofs.Try.f115) (c := i_milk_c) Go.Proofs.Try.func115 (by kernel_rfl) (by kernel_rfl) rfl rfl (by kernel_rfl) (by kernel_rfl) rfl
theorem i_dealt_ok : OneF Go.Proofs.Try.prog gw 116 i_dealt_fi := fnOk_of (fn := Go.Proofs.Try.f116) (c := i_dealt_c) Go.Proofs.Try.func116 (by kernel_rfl) (by kernel_rfl) rfl rfl (by kernel_rfl) (by kernel_rfl) rfl
theorem i_TurnCard_ok : OneF Go.Proofs.Try.prog gw 112 i_TurnCard_fi := fnOk_of (fn := Go.Proofs.Try.f112) (c := i_TurnCard_c) Go.Proofs.Try.func112 (by kernel_rfl) (by kernel_rfl) rfl rfl (by kernel_rfl) (by kernel_rfl) rfl
theorem i_moved_ok : OneF Go.Proofs.Try.prog gw 71 i_moved_fi := fnOk_of (fn := Go.Proofs.Try.f71) (c := i_moved_c) Go.Proofs.Try.func71 (by kernel_rfl) (by kernel_rfl) rfl rfl (by kernel_rfl) (by kernel_rfl) rfl
theorem i_cuts_ok : OneF Go.Proofs.Try.prog gw 144 i_cuts_fi := fnOk_of (fn := Go.Proofs.Try.f144) (c := i_cuts_c) Go.Proofs.Try.func144 (by kernel_rfl) (by kernel_rfl) rfl rfl (by kernel_rfl) (by kernel_rfl) rfl
theorem i_riffled_ok : OneF Go.Proofs.Try.prog gw 145 i_riffled_fi := fnOk_of (fn := Go.Proofs.Try.f145) (c := i_riffled_c) Go.Proofs.Try.func145 (by kernel_rfl) (by kernel_rfl) rfl rfl (by kernel_rfl) (by kernel_rfl) rfl
theorem i_all_ok : OneF Go.Proofs.Try.prog gw 125 i_all_fi := fnOk_of (fn := Go.Proofs.Try.f125) (c := i_all_c) Go.Proofs.Try.func125 (by kernel_rfl) (by kernel_rfl) rfl rfl (by kernel_rfl) (by kernel_rfl) rfl
theorem slices_SortFunc_int_int_ok : OneF Go.Proofs.Try.prog gw 117 slices_SortFunc_int_int_fi := Go.Proofs.Try.sortOne
theorem slices_CompactFunc_int_int_ok : OneF Go.Proofs.Try.prog gw 118 slices_CompactFunc_int_int_fi := Go.Proofs.Try.compactOne
theorem i_SortPackets_ok : OneF Go.Proofs.Try.prog gw 72 i_SortPackets_fi := fnOk_of (fn := Go.Proofs.Try.f72) (c := i_SortPackets_c) Go.Proofs.Try.func72 (by kernel_rfl) (by kernel_rfl) rfl rfl (by kernel_rfl) (by kernel_rfl) rfl
theorem i_ResultsOf_ok : OneF Go.Proofs.Try.prog gw 82 i_ResultsOf_fi := fnOk_of (fn := Go.Proofs.Try.f82) (c := i_ResultsOf_c) Go.Proofs.Try.func82 (by kernel_rfl) (by kernel_rfl) rfl rfl (by kernel_rfl) (by kernel_rfl) rfl
theorem i_ResultsAfter_ok : OneF Go.Proofs.Try.prog gw 74 i_ResultsAfter_fi := fnOk_of (fn := Go.Proofs.Try.f74) (c := i_ResultsAfter_c) Go.Proofs.Try.func74 (by kernel_rfl) (by kernel_rfl) rfl rfl (by kernel_rfl) (by kernel_rfl) rfl
theorem i_AfterChoice_ok : OneF Go.Proofs.Try.prog gw 28 i_AfterChoice_fi := fnOk_of (fn := Go.Proofs.Try.f28) (c := i_AfterChoice_c) Go.Proofs.Try.func28 (by kernel_rfl) (by kernel_rfl) rfl rfl (by kernel_rfl) (by kernel_rfl) rfl
theorem w_eqIntS_ok : OneF Go.Proofs.Try.prog gw 42 w_eqIntS_fi := fnOk_of (fn := Go.Proofs.Try.f42) (c := w_eqIntS_c) Go.Proofs.Try.func42 (by kernel_rfl) (by kernel_rfl) rfl rfl (by kernel_rfl) (by kernel_rfl) rfl
theorem w_eqIntSS_ok : OneF Go.Proofs.Try.prog gw 24 w_eqIntSS_fi := fnOk_of (fn := Go.Proofs.Try.f24) (c := w_eqIntSS_c) Go.Proofs.Try.func24 (by kernel_rfl) (by kernel_rfl) rfl rfl (by kernel_rfl) (by kernel_rfl) rfl
theorem w_markIntS_ok : OneF Go.Proofs.Try.prog gw 43 w_markIntS_fi := fnOk_of (fn := Go.Proofs.Try.f43) (c := w_markIntS_c) Go.Proofs.Try.func43 (by kernel_rfl) (by kernel_rfl) rfl rfl (by kernel_rfl) (by kernel_rfl) rfl
theorem w_markIntSS_ok : OneF Go.Proofs.Try.prog gw 25 w_markIntSS_fi := fnOk_of (fn := Go.Proofs.Try.f25) (c := w_markIntSS_c) Go.Proofs.Try.func25 (by kernel_rfl) (by kernel_rfl) rfl rfl (by kernel_rfl) (by kernel_rfl) rfl
theorem w_heldIntS_ok : OneF Go.Proofs.Try.prog gw 63 w_heldIntS_fi := fnOk_of (fn := Go.Proofs.Try.f63) (c := w_heldIntS_c) Go.Proofs.Try.func63 (by kernel_rfl) (by kernel_rfl) rfl rfl (by kernel_rfl) (by kernel_rfl) rfl
theorem w_heldIntSS_ok : OneF Go.Proofs.Try.prog gw 26 w_heldIntSS_fi := fnOk_of (fn := Go.Proofs.Try.f26) (c := w_heldIntSS_c) Go.Proofs.Try.func26 (by kernel_rfl) (by kernel_rfl) rfl rfl (by kernel_rfl) (by kernel_rfl) rfl
theorem w_FnExactAfterChoice_ok : OneF Go.Proofs.Try.prog gw 6 w_FnExactAfterChoice_fi := fnOk_of (fn := Go.Proofs.Try.f6) (c := w_FnExactAfterChoice_c) Go.Proofs.Try.func6 (by kernel_rfl) (by kernel_rfl) rfl rfl (by kernel_rfl) (by kernel_rfl) rfl
theorem hF : FnOk Go.Proofs.Try.prog gw E := lookF_ok (l := fnL) ⟨w_szIntS_ok, w_szIntSS_ok, w_toIntS_ok, w_toIntSS_ok, s_l01In_ok, s_CardOf_ok, s_l02Has_ok, s_PacketOk_ok, s_PositionOf_ok, s_IsArrangement_ok, s_l05Less_ok, s_KnowOk_ok, s_l05Ok_ok, s_TurnCard_ok, s_l04Back_ok, s_l04Faro_ok, s_l04Monge_ok, s_l04Milk_ok, s_l04Duck_ok, s_l04Do_ok, s_l05Cuts_ok, s_l05Weave_ok, s_l05Of_ok, s_SamePacket_ok, s_l05Merge_ok, s_SortPackets_ok, s_ResultsAfter_ok, s_AfterChoice_ok, i_CardOf_ok, i_PacketOk_ok, i_PositionOf_1_ok, slices_IndexFunc_int_of_i_PositionOf_1_ok, i_PositionOf_ok, i_IsArrangement_1_ok, slices_IndexFunc_int_of_i_IsArrangement_1_ok, slices_ContainsFunc_int_of_i_IsArrangement_1_ok, i_IsArrangement_ok, cmp_isNaN_int_ok, cmp_Compare_int_ok, slices_Compare_int_ok, i_KnowOk_ok, slices_Clone_int_ok, slices_Grow_int_ok, slices_Concat_int_ok, slices_Reverse_int_ok, i_reversed_ok, i_faro_ok, i_monge_ok, i_milk_ok, i_dealt_ok, i_TurnCard_ok, i_moved_ok, i_cuts_ok, i_riffled_ok, i_all_ok, slices_SortFunc_int_int_ok, slices_CompactFunc_int_int_ok, i_SortPackets_ok, i_ResultsOf_ok, i_ResultsAfter_ok, i_AfterChoice_ok, w_eqIntS_ok, w_eqIntSS_ok, w_markIntS_ok, w_markIntSS_ok, w_heldIntS_ok, w_heldIntSS_ok, w_FnExactAfterChoice_ok, trivial⟩
end Pt
