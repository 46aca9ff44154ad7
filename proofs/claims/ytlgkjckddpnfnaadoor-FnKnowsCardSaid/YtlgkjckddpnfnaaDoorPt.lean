/-
  The plain machine's telling of functions of the program. Printed by gen.py.
  Conditions: none; these are definitions and equations that the kernel checks.
-/
import Derived.Test.YtlgkjckddpnfnaaDoorXvza
import Derived.Test.YtlgkjckddpnfnaaDoorXvzl
import Derived.Test.YtlgkjckddpnfnaaDoorProg
import Derived.Test.YtlgkjckddpnfnaaDoorShelf
namespace Pt
open Go Go.Vt
set_option linter.unusedVariables false
set_option maxRecDepth 100000

noncomputable def tyL : List (Nat × TI) := [(3, .one (.int .i64)),
  (4, .one (.bool)),
  (5, .one (.int .u8)),
  (22, .one (.slice (.int .u8))),
  (23, .one (.slice (.slice (.int .i64)))),
  (25, .one (.slice (.int .i64))),
  (34, .struct [(0, 3), (1, 3)] [.int .i64, .int .i64] true),
  (58, .arr 12 (.int .i64)),
  (75, .struct [(0, 22), (1, 3), (2, 3)] [.slice (.int .u8), .int .i64, .int .i64] false),
  (91, .arr 12 (.bool)),
  (5025023, .flag)]

/-! ### s_l01New -/
noncomputable def s_l01New_c : Code := (Go.Proofs.Tryd.f28.body).getD .skip
noncomputable def s_l01New_h : Nat → Option (List Hint)
  | 3 => some [.keep 0, .keep 3, .keep 4]
  | _ => none
noncomputable def s_l01New_fi : Fi := ⟨[.v (.slice (.int .u8)) false], [(false, [⟨.pair (.slice (.int .u8)) (.pair (.int .i64) (.int .i64)), some (false, false)⟩])], none, s_l01New_c, Go.Proofs.Tryd.f28.results.toList, 32, s_l01New_h⟩
/-! ### s_l01Byte -/
noncomputable def s_l01Byte_c : Code := (Go.Proofs.Tryd.f30.body).getD .skip
noncomputable def s_l01Byte_h : Nat → Option (List Hint)
  | _ => none
noncomputable def s_l01Byte_fi : Fi := ⟨[.p (.slice (.int .u8)) (.pair (.int .i64) (.int .i64))], [(false, [⟨.int .i64, none⟩])], none, s_l01Byte_c, Go.Proofs.Tryd.f30.results.toList, 58, s_l01Byte_h⟩
/-! ### s_l01Below -/
noncomputable def s_l01Below_c : Code := (Go.Proofs.Tryd.f58.body).getD .skip
noncomputable def s_l01Below_h : Nat → Option (List Hint)
  | _ => none
noncomputable def s_l01Below_fi : Fi := ⟨[.p (.slice (.int .u8)) (.pair (.int .i64) (.int .i64)), .v (.int .i64) false], [(false, [⟨.int .i64, none⟩])], none, s_l01Below_c, Go.Proofs.Tryd.f58.results.toList, 37, s_l01Below_h⟩
/-! ### s_l02Shuffle -/
noncomputable def s_l02Shuffle_c : Code := (Go.Proofs.Tryd.f84.body).getD .skip
noncomputable def s_l02Shuffle_h : Nat → Option (List Hint)
  | 3 => some [.box 0 500000 [.keep, .keep, .keep], .keep 1, .cell 5 (.row 100005 (.int .i64) true false), .keep 6]
  | _ => none
noncomputable def s_l02Shuffle_fi : Fi := ⟨[.p (.slice (.int .u8)) (.pair (.int .i64) (.int .i64)), .v (.int .i64) false], [(false, [⟨.slice (.int .i64), some (true, false)⟩])], none, s_l02Shuffle_c, Go.Proofs.Tryd.f84.results.toList, 34, s_l02Shuffle_h⟩
/-! ### s_l01Once -/
noncomputable def s_l01Once_c : Code := (Go.Proofs.Tryd.f85.body).getD .skip
noncomputable def s_l01Once_h : Nat → Option (List Hint)
  | _ => none
noncomputable def s_l01Once_fi : Fi := ⟨[.p (.slice (.int .u8)) (.pair (.int .i64) (.int .i64)), .v (.int .i64) false], [(false, [⟨.bool, none⟩])], none, s_l01Once_c, Go.Proofs.Tryd.f85.results.toList, 9, s_l01Once_h⟩
/-! ### s_l02Draw -/
noncomputable def s_l02Draw_c : Code := (Go.Proofs.Tryd.f57.body).getD .skip
noncomputable def s_l02Draw_h : Nat → Option (List Hint)
  | 4 => some [.box 0 500000 [.keep, .keep, .keep], .cell 5 (.row 100005 (.int .i64) true false), .keep 16, .keep 17]
  | _ => none
noncomputable def s_l02Draw_fi : Fi := ⟨[.p (.slice (.int .u8)) (.pair (.int .i64) (.int .i64)), .v (.int .i64) false], [(false, [⟨.slice (.int .i64), some (true, false)⟩])], none, s_l02Draw_c, Go.Proofs.Tryd.f57.results.toList, 32, s_l02Draw_h⟩
/-! ### s_l01In -/
noncomputable def s_l01In_c : Code := (Go.Proofs.Tryd.f50.body).getD .skip
noncomputable def s_l01In_h : Nat → Option (List Hint)
  | _ => none
noncomputable def s_l01In_fi : Fi := ⟨[.v (.int .i64) false, .v (.int .i64) false, .v (.int .i64) false], [(false, [⟨.bool, none⟩])], none, s_l01In_c, Go.Proofs.Tryd.f50.results.toList, 15, s_l01In_h⟩
/-! ### s_CardOf -/
noncomputable def s_CardOf_c : Code := (Go.Proofs.Tryd.f79.body).getD .skip
noncomputable def s_CardOf_h : Nat → Option (List Hint)
  | _ => none
noncomputable def s_CardOf_fi : Fi := ⟨[.v (.int .i64) false], [(false, [⟨.int .i64, none⟩])], none, s_CardOf_c, Go.Proofs.Tryd.f79.results.toList, 10, s_CardOf_h⟩
/-! ### s_l02Has -/
noncomputable def s_l02Has_c : Code := (Go.Proofs.Tryd.f95.body).getD .skip
noncomputable def s_l02Has_h : Nat → Option (List Hint)
  | 2 => some [.keep 1, .keep 7, .keep 8, .keep 9]
  | _ => none
noncomputable def s_l02Has_fi : Fi := ⟨[.v (.slice (.int .i64)) false, .v (.int .i64) false], [(false, [⟨.bool, none⟩])], none, s_l02Has_c, Go.Proofs.Tryd.f95.results.toList, 17, s_l02Has_h⟩
/-! ### s_PacketOk -/
noncomputable def s_PacketOk_c : Code := (Go.Proofs.Tryd.f78.body).getD .skip
noncomputable def s_PacketOk_h : Nat → Option (List Hint)
  | 5 => some [.cell 3 (.row 100003 (.int .i64) true false), .keep 11, .keep 12, .keep 13]
  | _ => none
noncomputable def s_PacketOk_fi : Fi := ⟨[.v (.slice (.int .i64)) false], [(false, [⟨.bool, none⟩])], none, s_PacketOk_c, Go.Proofs.Tryd.f78.results.toList, 31, s_PacketOk_h⟩
/-! ### s_l05Ok -/
noncomputable def s_l05Ok_c : Code := (Go.Proofs.Tryd.f86.body).getD .skip
noncomputable def s_l05Ok_h : Nat → Option (List Hint)
  | _ => none
noncomputable def s_l05Ok_fi : Fi := ⟨[.v (.slice (.int .i64)) false, .v (.int .i64) false], [(false, [⟨.bool, none⟩])], none, s_l05Ok_c, Go.Proofs.Tryd.f86.results.toList, 34, s_l05Ok_h⟩
/-! ### s_TurnCard -/
noncomputable def s_TurnCard_c : Code := (Go.Proofs.Tryd.f110.body).getD .skip
noncomputable def s_TurnCard_h : Nat → Option (List Hint)
  | _ => none
noncomputable def s_TurnCard_fi : Fi := ⟨[.v (.int .i64) false], [(false, [⟨.int .i64, none⟩])], none, s_TurnCard_c, Go.Proofs.Tryd.f110.results.toList, 9, s_TurnCard_h⟩
/-! ### s_l04Back -/
noncomputable def s_l04Back_c : Code := (Go.Proofs.Tryd.f101.body).getD .skip
noncomputable def s_l04Back_h : Nat → Option (List Hint)
  | 3 => some [.keep 0, .keep 1, .keep 2, .cell 7 (.row 100007 (.int .i64) true false), .keep 8]
  | _ => none
noncomputable def s_l04Back_fi : Fi := ⟨[.v (.slice (.int .i64)) false, .v (.int .i64) false, .v (.bool) false], [(false, [⟨.slice (.int .i64), some (true, false)⟩])], none, s_l04Back_c, Go.Proofs.Tryd.f101.results.toList, 37, s_l04Back_h⟩
/-! ### s_l04Faro -/
noncomputable def s_l04Faro_c : Code := (Go.Proofs.Tryd.f118.body).getD .skip
noncomputable def s_l04Faro_h : Nat → Option (List Hint)
  | 4 => some [.keep 1, .keep 5, .keep 6, .cell 7 (.row 100007 (.int .i64) true false)]
  | _ => none
noncomputable def s_l04Faro_fi : Fi := ⟨[.v (.slice (.int .i64)) false, .v (.int .i64) false], [(false, [⟨.slice (.int .i64), some (true, false)⟩])], none, s_l04Faro_c, Go.Proofs.Tryd.f118.results.toList, 59, s_l04Faro_h⟩
/-! ### s_l04Monge -/
noncomputable def s_l04Monge_c : Code := (Go.Proofs.Tryd.f119.body).getD .skip
noncomputable def s_l04Monge_h : Nat → Option (List Hint)
  | 3 => some [.keep 1, .cell 5 (.row 100005 (.int .i64) true false), .keep 9, .keep 10, .keep 11]
  | _ => none
noncomputable def s_l04Monge_fi : Fi := ⟨[.v (.slice (.int .i64)) false, .v (.int .i64) false], [(false, [⟨.slice (.int .i64), some (true, false)⟩])], none, s_l04Monge_c, Go.Proofs.Tryd.f119.results.toList, 34, s_l04Monge_h⟩
/-! ### s_l04Milk -/
noncomputable def s_l04Milk_c : Code := (Go.Proofs.Tryd.f120.body).getD .skip
noncomputable def s_l04Milk_h : Nat → Option (List Hint)
  | 2 => some [.keep 0, .cell 3 (.row 100003 (.int .i64) true false)]
  | _ => none
noncomputable def s_l04Milk_fi : Fi := ⟨[.v (.slice (.int .i64)) false], [(false, [⟨.slice (.int .i64), some (true, false)⟩])], none, s_l04Milk_c, Go.Proofs.Tryd.f120.results.toList, 30, s_l04Milk_h⟩
/-! ### s_l04Duck -/
noncomputable def s_l04Duck_c : Code := (Go.Proofs.Tryd.f121.body).getD .skip
noncomputable def s_l04Duck_h : Nat → Option (List Hint)
  | 4 => some [.cell 5 (.row 100005 (.int .i64) true false), .cell 6 (.row 100006 (.int .i64) true false), .keep 7]
  | _ => none
noncomputable def s_l04Duck_fi : Fi := ⟨[.v (.slice (.int .i64)) false, .v (.int .i64) false], [(false, [⟨.slice (.int .i64), some (true, false)⟩])], none, s_l04Duck_c, Go.Proofs.Tryd.f121.results.toList, 41, s_l04Duck_h⟩
/-! ### s_l04Do -/
noncomputable def s_l04Do_c : Code := (Go.Proofs.Tryd.f109.body).getD .skip
noncomputable def s_l04Do_h : Nat → Option (List Hint)
  | _ => none
noncomputable def s_l04Do_fi : Fi := ⟨[.v (.slice (.int .i64)) false, .v (.pair (.int .i64) (.int .i64)) true], [(false, [⟨.slice (.int .i64), some (true, false)⟩])], none, s_l04Do_c, Go.Proofs.Tryd.f109.results.toList, 90, s_l04Do_h⟩
/-! ### s_l05Cuts -/
noncomputable def s_l05Cuts_c : Code := (Go.Proofs.Tryd.f99.body).getD .skip
noncomputable def s_l05Cuts_h : Nat → Option (List Hint)
  | 3 => some [.keep 0, .cell 3 (.row 100003 (.slice (.int .i64)) true false), .keep 7, .keep 8]
  | _ => none
noncomputable def s_l05Cuts_fi : Fi := ⟨[.v (.slice (.int .i64)) false], [(false, [⟨.slice (.slice (.int .i64)), some (true, false)⟩])], none, s_l05Cuts_c, Go.Proofs.Tryd.f99.results.toList, 20, s_l05Cuts_h⟩
/-! ### s_l05Weave -/
noncomputable def s_l05Weave_c : Code := (Go.Proofs.Tryd.f100.body).getD .skip
noncomputable def s_l05Weave_h : Nat → Option (List Hint)
  | 999999 => some []
  | _ => none
noncomputable def s_l05Weave_fi : Fi := ⟨[.v (.slice (.slice (.int .i64))) false, .v (.slice (.int .i64)) false, .v (.slice (.int .i64)) false, .v (.slice (.int .i64)) false], [(false, [⟨.slice (.slice (.int .i64)), some (false, false)⟩])], none, s_l05Weave_c, Go.Proofs.Tryd.f100.results.toList, 54, s_l05Weave_h⟩
/-! ### s_l05Of -/
noncomputable def s_l05Of_c : Code := (Go.Proofs.Tryd.f89.body).getD .skip
noncomputable def s_l05Of_h : Nat → Option (List Hint)
  | 7 => some [.keep 0, .cell 5 (.row 100005 (.slice (.int .i64)) false false), .keep 6]
  | 15 => some [.keep 0, .cell 5 (.row 100005 (.slice (.int .i64)) true false), .keep 40, .keep 41, .keep 42]
  | _ => none
noncomputable def s_l05Of_fi : Fi := ⟨[.v (.slice (.int .i64)) false, .v (.int .i64) false], [(false, [⟨.slice (.slice (.int .i64)), some (false, false)⟩])], none, s_l05Of_c, Go.Proofs.Tryd.f89.results.toList, 69, s_l05Of_h⟩
/-! ### s_SamePacket -/
noncomputable def s_SamePacket_c : Code := (Go.Proofs.Tryd.f98.body).getD .skip
noncomputable def s_SamePacket_h : Nat → Option (List Hint)
  | 4 => some [.keep 1, .keep 12, .keep 13, .keep 14]
  | _ => none
noncomputable def s_SamePacket_fi : Fi := ⟨[.v (.slice (.int .i64)) false, .v (.slice (.int .i64)) false], [(false, [⟨.bool, none⟩])], none, s_SamePacket_c, Go.Proofs.Tryd.f98.results.toList, 26, s_SamePacket_h⟩
/-! ### s_l05Less -/
noncomputable def s_l05Less_c : Code := (Go.Proofs.Tryd.f97.body).getD .skip
noncomputable def s_l05Less_h : Nat → Option (List Hint)
  | 2 => some [.keep 0, .keep 1, .keep 7, .keep 8, .keep 9]
  | _ => none
noncomputable def s_l05Less_fi : Fi := ⟨[.v (.slice (.int .i64)) false, .v (.slice (.int .i64)) false], [(false, [⟨.bool, none⟩])], none, s_l05Less_c, Go.Proofs.Tryd.f97.results.toList, 36, s_l05Less_h⟩
/-! ### s_l05Merge -/
noncomputable def s_l05Merge_c : Code := (Go.Proofs.Tryd.f87.body).getD .skip
noncomputable def s_l05Merge_h : Nat → Option (List Hint)
  | 2 => some [.keep 0, .keep 1, .cell 5 (.row 450005 (.slice (.int .i64)) true false)]
  | _ => none
noncomputable def s_l05Merge_fi : Fi := ⟨[.v (.slice (.slice (.int .i64))) false, .v (.slice (.slice (.int .i64))) false], [(false, [⟨.slice (.slice (.int .i64)), some (true, false)⟩])], none, s_l05Merge_c, Go.Proofs.Tryd.f87.results.toList, 66, s_l05Merge_h⟩
/-! ### s_SortPackets -/
noncomputable def s_SortPackets_c : Code := (Go.Proofs.Tryd.f88.body).getD .skip
noncomputable def s_SortPackets_h : Nat → Option (List Hint)
  | _ => none
noncomputable def s_SortPackets_fi : Fi := ⟨[.v (.slice (.slice (.int .i64))) false], [(false, [⟨.slice (.slice (.int .i64)), some (true, false)⟩])], none, s_SortPackets_c, Go.Proofs.Tryd.f88.results.toList, 21, s_SortPackets_h⟩
/-! ### s_ResultsAfter -/
noncomputable def s_ResultsAfter_c : Code := (Go.Proofs.Tryd.f59.body).getD .skip
noncomputable def s_ResultsAfter_h : Nat → Option (List Hint)
  | 3 => some [.keep 1, .cell 6 (.row 100006 (.slice (.int .i64)) true false), .keep 10, .keep 11, .keep 12]
  | _ => none
noncomputable def s_ResultsAfter_fi : Fi := ⟨[.v (.slice (.slice (.int .i64))) false, .v (.int .i64) false], [(false, [⟨.slice (.slice (.int .i64)), some (true, false)⟩]), (false, [⟨.bool, none⟩])], none, s_ResultsAfter_c, Go.Proofs.Tryd.f59.results.toList, 31, s_ResultsAfter_h⟩
/-! ### s_l15Draw -/
noncomputable def s_l15Draw_c : Code := (Go.Proofs.Tryd.f27.body).getD .skip
noncomputable def s_l15Draw_h : Nat → Option (List Hint)
  | 3 => some [.box 0 500000 [.keep, .keep, .keep], .cell 3 (.row 100003 (.slice (.int .i64)) true false), .keep 4]
  | _ => none
noncomputable def s_l15Draw_fi : Fi := ⟨[.p (.slice (.int .u8)) (.pair (.int .i64) (.int .i64))], [(false, [⟨.slice (.slice (.int .i64)), some (true, false)⟩])], none, s_l15Draw_c, Go.Proofs.Tryd.f27.results.toList, 27, s_l15Draw_h⟩
/-! ### s_MakeKnown -/
noncomputable def s_MakeKnown_c : Code := (Go.Proofs.Tryd.f7.body).getD .skip
noncomputable def s_MakeKnown_h : Nat → Option (List Hint)
  | _ => none
noncomputable def s_MakeKnown_fi : Fi := ⟨[.v (.slice (.int .u8)) false], [(false, [⟨.slice (.slice (.int .i64)), some (true, false)⟩])], none, s_MakeKnown_c, Go.Proofs.Tryd.f7.results.toList, 6, s_MakeKnown_h⟩
/-! ### s_l23New -/
noncomputable def s_l23New_c : Code := (Go.Proofs.Tryd.f29.body).getD .skip
noncomputable def s_l23New_h : Nat → Option (List Hint)
  | 3 => some [.keep 1, .box 5 200005 [.keep, .keep, .keep], .keep 6]
  | _ => none
noncomputable def s_l23New_fi : Fi := ⟨[.v (.slice (.int .u8)) false, .v (.int .i64) false], [(false, [⟨.pair (.slice (.int .u8)) (.pair (.int .i64) (.int .i64)), some (false, false)⟩])], none, s_l23New_c, Go.Proofs.Tryd.f29.results.toList, 17, s_l23New_h⟩
/-! ### s_MakeNum -/
noncomputable def s_MakeNum_c : Code := (Go.Proofs.Tryd.f8.body).getD .skip
noncomputable def s_MakeNum_h : Nat → Option (List Hint)
  | _ => none
noncomputable def s_MakeNum_fi : Fi := ⟨[.v (.slice (.int .u8)) false, .v (.int .i64) false], [(false, [⟨.int .i64, none⟩])], none, s_MakeNum_c, Go.Proofs.Tryd.f8.results.toList, 15, s_MakeNum_h⟩
/-! ### i_CardOf -/
noncomputable def i_CardOf_c : Code := (Go.Proofs.Tryd.f33.body).getD .skip
noncomputable def i_CardOf_h : Nat → Option (List Hint)
  | _ => none
noncomputable def i_CardOf_fi : Fi := ⟨[.v (.int .i64) false], [(false, [⟨.int .i64, none⟩])], none, i_CardOf_c, Go.Proofs.Tryd.f33.results.toList, 10, i_CardOf_h⟩
/-! ### i_PacketOk -/
noncomputable def i_PacketOk_c : Code := (Go.Proofs.Tryd.f52.body).getD .skip
noncomputable def i_PacketOk_h : Nat → Option (List Hint)
  | 3 => some [.arr 3 400003, .keep 7, .keep 8, .keep 9]
  | _ => none
noncomputable def i_PacketOk_fi : Fi := ⟨[.v (.slice (.int .i64)) false], [(false, [⟨.bool, none⟩])], none, i_PacketOk_c, Go.Proofs.Tryd.f52.results.toList, 25, i_PacketOk_h⟩
/-! ### i_PositionOf_1 -/
noncomputable def i_PositionOf_1_c : Code := (Go.Proofs.Tryd.f62.body).getD .skip
noncomputable def i_PositionOf_1_h : Nat → Option (List Hint)
  | _ => none
noncomputable def i_PositionOf_1_fi : Fi := ⟨[.v (.int .i64) false, .r (.int .i64)], [(false, [⟨.bool, none⟩])], none, i_PositionOf_1_c, Go.Proofs.Tryd.f62.results.toList, 8, i_PositionOf_1_h⟩
/-! ### slices_IndexFunc_int_of_i_PositionOf_1 -/
noncomputable def slices_IndexFunc_int_of_i_PositionOf_1_c : Code := (Go.Proofs.Tryd.f61.body).getD .skip
noncomputable def slices_IndexFunc_int_of_i_PositionOf_1_h : Nat → Option (List Hint)
  | 2 => some [.keep 0, .keep 1, .keep 7, .keep 8]
  | _ => none
noncomputable def slices_IndexFunc_int_of_i_PositionOf_1_fi : Fi := ⟨[.v (.slice (.int .i64)) false, .fn 62 [.int .i64]], [(false, [⟨.int .i64, none⟩])], none, slices_IndexFunc_int_of_i_PositionOf_1_c, Go.Proofs.Tryd.f61.results.toList, 19, slices_IndexFunc_int_of_i_PositionOf_1_h⟩
/-! ### i_PositionOf -/
noncomputable def i_PositionOf_c : Code := (Go.Proofs.Tryd.f37.body).getD .skip
noncomputable def i_PositionOf_h : Nat → Option (List Hint)
  | _ => none
noncomputable def i_PositionOf_fi : Fi := ⟨[.v (.slice (.int .i64)) false, .v (.int .i64) false], [(false, [⟨.int .i64, none⟩])], none, i_PositionOf_c, Go.Proofs.Tryd.f37.results.toList, 10, i_PositionOf_h⟩
/-! ### i_IsArrangement_1 -/
noncomputable def i_IsArrangement_1_c : Code := (Go.Proofs.Tryd.f64.body).getD .skip
noncomputable def i_IsArrangement_1_h : Nat → Option (List Hint)
  | _ => none
noncomputable def i_IsArrangement_1_fi : Fi := ⟨[.v (.int .i64) false, .r (.slice (.int .i64))], [(false, [⟨.bool, none⟩])], none, i_IsArrangement_1_c, Go.Proofs.Tryd.f64.results.toList, 9, i_IsArrangement_1_h⟩
/-! ### slices_IndexFunc_int_of_i_IsArrangement_1 -/
noncomputable def slices_IndexFunc_int_of_i_IsArrangement_1_c : Code := (Go.Proofs.Tryd.f61.body).getD .skip
noncomputable def slices_IndexFunc_int_of_i_IsArrangement_1_h : Nat → Option (List Hint)
  | 2 => some [.keep 0, .keep 1, .keep 7, .keep 8]
  | _ => none
noncomputable def slices_IndexFunc_int_of_i_IsArrangement_1_fi : Fi := ⟨[.v (.slice (.int .i64)) false, .fn 64 [.slice (.int .i64)]], [(false, [⟨.int .i64, none⟩])], none, slices_IndexFunc_int_of_i_IsArrangement_1_c, Go.Proofs.Tryd.f61.results.toList, 19, slices_IndexFunc_int_of_i_IsArrangement_1_h⟩
/-! ### slices_ContainsFunc_int_of_i_IsArrangement_1 -/
noncomputable def slices_ContainsFunc_int_of_i_IsArrangement_1_c : Code := (Go.Proofs.Tryd.f63.body).getD .skip
noncomputable def slices_ContainsFunc_int_of_i_IsArrangement_1_h : Nat → Option (List Hint)
  | _ => none
noncomputable def slices_ContainsFunc_int_of_i_IsArrangement_1_fi : Fi := ⟨[.v (.slice (.int .i64)) false, .fn 64 [.slice (.int .i64)]], [(false, [⟨.bool, none⟩])], none, slices_ContainsFunc_int_of_i_IsArrangement_1_c, Go.Proofs.Tryd.f63.results.toList, 9, slices_ContainsFunc_int_of_i_IsArrangement_1_h⟩
/-! ### i_IsArrangement -/
noncomputable def i_IsArrangement_c : Code := (Go.Proofs.Tryd.f39.body).getD .skip
noncomputable def i_IsArrangement_h : Nat → Option (List Hint)
  | _ => none
noncomputable def i_IsArrangement_fi : Fi := ⟨[.v (.slice (.int .i64)) false, .v (.slice (.int .i64)) false], [(false, [⟨.bool, none⟩])], none, i_IsArrangement_c, Go.Proofs.Tryd.f39.results.toList, 24, i_IsArrangement_h⟩
/-! ### cmp_isNaN_int -/
noncomputable def cmp_isNaN_int_c : Code := (Go.Proofs.Tryd.f90.body).getD .skip
noncomputable def cmp_isNaN_int_h : Nat → Option (List Hint)
  | _ => none
noncomputable def cmp_isNaN_int_fi : Fi := ⟨[.v (.int .i64) false], [(false, [⟨.bool, none⟩])], none, cmp_isNaN_int_c, Go.Proofs.Tryd.f90.results.toList, 6, cmp_isNaN_int_h⟩
/-! ### cmp_Compare_int -/
noncomputable def cmp_Compare_int_c : Code := (Go.Proofs.Tryd.f65.body).getD .skip
noncomputable def cmp_Compare_int_h : Nat → Option (List Hint)
  | _ => none
noncomputable def cmp_Compare_int_fi : Fi := ⟨[.v (.int .i64) false, .v (.int .i64) false], [(false, [⟨.int .i64, none⟩])], none, cmp_Compare_int_c, Go.Proofs.Tryd.f65.results.toList, 20, cmp_Compare_int_h⟩
/-! ### slices_Compare_int -/
noncomputable def slices_Compare_int_c : Code := (Go.Proofs.Tryd.f40.body).getD .skip
noncomputable def slices_Compare_int_h : Nat → Option (List Hint)
  | 2 => some [.keep 0, .keep 1, .keep 9, .keep 10, .keep 11]
  | _ => none
noncomputable def slices_Compare_int_fi : Fi := ⟨[.v (.slice (.int .i64)) false, .v (.slice (.int .i64)) false], [(false, [⟨.int .i64, none⟩])], none, slices_Compare_int_c, Go.Proofs.Tryd.f40.results.toList, 36, slices_Compare_int_h⟩
/-! ### i_KnowOk -/
noncomputable def i_KnowOk_c : Code := (Go.Proofs.Tryd.f13.body).getD .skip
noncomputable def i_KnowOk_h : Nat → Option (List Hint)
  | 4 => some [.keep 0, .keep 20, .keep 21, .keep 22]
  | _ => none
noncomputable def i_KnowOk_fi : Fi := ⟨[.v (.slice (.slice (.int .i64))) false], [(false, [⟨.bool, none⟩])], none, i_KnowOk_c, Go.Proofs.Tryd.f13.results.toList, 48, i_KnowOk_h⟩
/-! ### i_SeeCard_1 -/
noncomputable def i_SeeCard_1_c : Code := (Go.Proofs.Tryd.f32.body).getD .skip
noncomputable def i_SeeCard_1_h : Nat → Option (List Hint)
  | _ => none
noncomputable def i_SeeCard_1_fi : Fi := ⟨[.v (.slice (.int .i64)) false, .r (.int .i64), .r (.int .i64)], [(false, [⟨.bool, none⟩])], none, i_SeeCard_1_c, Go.Proofs.Tryd.f32.results.toList, 22, i_SeeCard_1_h⟩
/-! ### slices_Clone_int -/
noncomputable def slices_Clone_int_c : Code := (Go.Proofs.Tryd.f60.body).getD .skip
noncomputable def slices_Clone_int_h : Nat → Option (List Hint)
  | _ => none
noncomputable def slices_Clone_int_fi : Fi := ⟨[.v (.slice (.int .i64)) false], [(false, [⟨.slice (.int .i64), some (true, false)⟩])], none, slices_Clone_int_c, Go.Proofs.Tryd.f60.results.toList, 8, slices_Clone_int_h⟩
/-! ### i_those_of_i_SeeCard_1 -/
noncomputable def i_those_of_i_SeeCard_1_c : Code := (Go.Proofs.Tryd.f31.body).getD .skip
noncomputable def i_those_of_i_SeeCard_1_h : Nat → Option (List Hint)
  | 5 => some [.keep 1, .cell 5 (.row 100005 (.slice (.int .i64)) true true), .keep 11, .keep 12, .keep 13]
  | _ => none
noncomputable def i_those_of_i_SeeCard_1_fi : Fi := ⟨[.v (.slice (.slice (.int .i64))) false, .fn 32 [.int .i64, .int .i64]], [(false, [⟨.slice (.slice (.int .i64)), some (true, true)⟩])], none, i_those_of_i_SeeCard_1_c, Go.Proofs.Tryd.f31.results.toList, 27, i_those_of_i_SeeCard_1_h⟩
/-! ### i_SeeCard -/
noncomputable def i_SeeCard_c : Code := (Go.Proofs.Tryd.f9.body).getD .skip
noncomputable def i_SeeCard_h : Nat → Option (List Hint)
  | _ => none
noncomputable def i_SeeCard_fi : Fi := ⟨[.v (.slice (.slice (.int .i64))) false, .v (.int .i64) false, .v (.int .i64) false], [(false, [⟨.slice (.slice (.int .i64)), some (true, true)⟩])], none, i_SeeCard_c, Go.Proofs.Tryd.f9.results.toList, 10, i_SeeCard_h⟩
/-! ### i_KnownAt_1 -/
noncomputable def i_KnownAt_1_c : Code := (Go.Proofs.Tryd.f35.body).getD .skip
noncomputable def i_KnownAt_1_h : Nat → Option (List Hint)
  | _ => none
noncomputable def i_KnownAt_1_fi : Fi := ⟨[.v (.slice (.int .i64)) false, .r (.int .i64)], [(false, [⟨.int .i64, none⟩])], none, i_KnownAt_1_c, Go.Proofs.Tryd.f35.results.toList, 17, i_KnownAt_1_h⟩
/-! ### i_common_of_i_KnownAt_1 -/
noncomputable def i_common_of_i_KnownAt_1_c : Code := (Go.Proofs.Tryd.f34.body).getD .skip
noncomputable def i_common_of_i_KnownAt_1_h : Nat → Option (List Hint)
  | 5 => some [.keep 1, .keep 5, .keep 16, .keep 17, .keep 18]
  | _ => none
noncomputable def i_common_of_i_KnownAt_1_fi : Fi := ⟨[.v (.slice (.slice (.int .i64))) false, .fn 35 [.int .i64]], [(false, [⟨.int .i64, none⟩])], none, i_common_of_i_KnownAt_1_c, Go.Proofs.Tryd.f34.results.toList, 29, i_common_of_i_KnownAt_1_h⟩
/-! ### i_KnownAt -/
noncomputable def i_KnownAt_c : Code := (Go.Proofs.Tryd.f10.body).getD .skip
noncomputable def i_KnownAt_h : Nat → Option (List Hint)
  | _ => none
noncomputable def i_KnownAt_fi : Fi := ⟨[.v (.slice (.slice (.int .i64))) false, .v (.int .i64) false], [(false, [⟨.int .i64, none⟩])], none, i_KnownAt_c, Go.Proofs.Tryd.f10.results.toList, 8, i_KnownAt_h⟩
/-! ### i_KnownIndexOf_1 -/
noncomputable def i_KnownIndexOf_1_c : Code := (Go.Proofs.Tryd.f36.body).getD .skip
noncomputable def i_KnownIndexOf_1_h : Nat → Option (List Hint)
  | _ => none
noncomputable def i_KnownIndexOf_1_fi : Fi := ⟨[.v (.slice (.int .i64)) false, .r (.int .i64)], [(false, [⟨.int .i64, none⟩])], none, i_KnownIndexOf_1_c, Go.Proofs.Tryd.f36.results.toList, 7, i_KnownIndexOf_1_h⟩
/-! ### i_common_of_i_KnownIndexOf_1 -/
noncomputable def i_common_of_i_KnownIndexOf_1_c : Code := (Go.Proofs.Tryd.f34.body).getD .skip
noncomputable def i_common_of_i_KnownIndexOf_1_h : Nat → Option (List Hint)
  | 5 => some [.keep 1, .keep 5, .keep 16, .keep 17, .keep 18]
  | _ => none
noncomputable def i_common_of_i_KnownIndexOf_1_fi : Fi := ⟨[.v (.slice (.slice (.int .i64))) false, .fn 36 [.int .i64]], [(false, [⟨.int .i64, none⟩])], none, i_common_of_i_KnownIndexOf_1_c, Go.Proofs.Tryd.f34.results.toList, 29, i_common_of_i_KnownIndexOf_1_h⟩
/-! ### i_KnownIndexOf -/
noncomputable def i_KnownIndexOf_c : Code := (Go.Proofs.Tryd.f11.body).getD .skip
noncomputable def i_KnownIndexOf_h : Nat → Option (List Hint)
  | _ => none
noncomputable def i_KnownIndexOf_fi : Fi := ⟨[.v (.slice (.slice (.int .i64))) false, .v (.int .i64) false], [(false, [⟨.int .i64, none⟩])], none, i_KnownIndexOf_c, Go.Proofs.Tryd.f11.results.toList, 8, i_KnownIndexOf_h⟩
/-! ### slices_Max_int -/
noncomputable def slices_Max_int_c : Code := (Go.Proofs.Tryd.f38.body).getD .skip
noncomputable def slices_Max_int_h : Nat → Option (List Hint)
  | 5 => some [.keep 0, .keep 3, .keep 4]
  | _ => none
noncomputable def slices_Max_int_fi : Fi := ⟨[.v (.slice (.int .i64)) false], [(false, [⟨.int .i64, none⟩])], none, slices_Max_int_c, Go.Proofs.Tryd.f38.results.toList, 25, slices_Max_int_h⟩
/-! ### i_BestLook -/
noncomputable def i_BestLook_c : Code := (Go.Proofs.Tryd.f12.body).getD .skip
noncomputable def i_BestLook_h : Nat → Option (List Hint)
  | 5 => some [.keep 0, .keep 3, .keep 4, .keep 16, .keep 17]
  | 9 => some [.keep 0, .keep 3, .keep 4, .keep 5, .arr 6 400006, .keep 16, .keep 17, .keep 20, .keep 21, .keep 22]
  | _ => none
noncomputable def i_BestLook_fi : Fi := ⟨[.v (.slice (.slice (.int .i64))) false], [(false, [⟨.int .i64, none⟩])], none, i_BestLook_c, Go.Proofs.Tryd.f12.results.toList, 49, i_BestLook_h⟩
/-! ### i_CountKnown -/
noncomputable def i_CountKnown_c : Code := (Go.Proofs.Tryd.f14.body).getD .skip
noncomputable def i_CountKnown_h : Nat → Option (List Hint)
  | 5 => some [.keep 0, .keep 3, .keep 11, .keep 12]
  | _ => none
noncomputable def i_CountKnown_fi : Fi := ⟨[.v (.slice (.slice (.int .i64))) false], [(false, [⟨.int .i64, none⟩])], none, i_CountKnown_c, Go.Proofs.Tryd.f14.results.toList, 23, i_CountKnown_h⟩
/-! ### strconv_Itoa -/
noncomputable abbrev strconv_Itoa_fi : Fi := itoaFi
/-! ### i_FormatInt -/
noncomputable def i_FormatInt_c : Code := (Go.Proofs.Tryd.f41.body).getD .skip
noncomputable def i_FormatInt_h : Nat → Option (List Hint)
  | _ => none
noncomputable def i_FormatInt_fi : Fi := ⟨[.v (.int .i64) false], [(false, [⟨.str, none⟩])], none, i_FormatInt_c, Go.Proofs.Tryd.f41.results.toList, 5, i_FormatInt_h⟩
/-! ### i_KnowLine -/
noncomputable def i_KnowLine_c : Code := (Go.Proofs.Tryd.f15.body).getD .skip
noncomputable def i_KnowLine_h : Nat → Option (List Hint)
  | 5 => some [.keep 0, .keep 3, .keep 16, .keep 17]
  | _ => none
noncomputable def i_KnowLine_fi : Fi := ⟨[.v (.slice (.slice (.int .i64))) false], [(false, [⟨.str, none⟩])], none, i_KnowLine_c, Go.Proofs.Tryd.f15.results.toList, 34, i_KnowLine_h⟩
/-! ### w_FnKnows -/
noncomputable def w_FnKnows_c : Code := (Go.Proofs.Tryd.f3.body).getD .skip
noncomputable def w_FnKnows_h : Nat → Option (List Hint)
  | 9 => some [.cell 3 (.row 100003 (.slice (.int .i64)) false false), .keep 4, .keep 5, .keep 6, .keep 7, .keep 8]
  | 21 => some [.cell 3 (.row 100003 (.slice (.int .i64)) false false), .keep 7, .keep 10, .keep 11, .keep 12]
  | _ => none
noncomputable def w_FnKnows_fi : Fi := ⟨[.v (.slice (.int .u8)) false], [(false, [⟨.bool, none⟩])], none, w_FnKnows_c, Go.Proofs.Tryd.f3.results.toList, 114, w_FnKnows_h⟩

noncomputable def fnL : List (Nat × List Nat × Fi) := [(28, [], s_l01New_fi),
  (30, [], s_l01Byte_fi),
  (58, [], s_l01Below_fi),
  (84, [], s_l02Shuffle_fi),
  (85, [], s_l01Once_fi),
  (57, [], s_l02Draw_fi),
  (50, [], s_l01In_fi),
  (79, [], s_CardOf_fi),
  (95, [], s_l02Has_fi),
  (78, [], s_PacketOk_fi),
  (86, [], s_l05Ok_fi),
  (110, [], s_TurnCard_fi),
  (101, [], s_l04Back_fi),
  (118, [], s_l04Faro_fi),
  (119, [], s_l04Monge_fi),
  (120, [], s_l04Milk_fi),
  (121, [], s_l04Duck_fi),
  (109, [], s_l04Do_fi),
  (99, [], s_l05Cuts_fi),
  (100, [], s_l05Weave_fi),
  (89, [], s_l05Of_fi),
  (98, [], s_SamePacket_fi),
  (97, [], s_l05Less_fi),
  (87, [], s_l05Merge_fi),
  (88, [], s_SortPackets_fi),
  (59, [], s_ResultsAfter_fi),
  (27, [], s_l15Draw_fi),
  (7, [], s_MakeKnown_fi),
  (29, [], s_l23New_fi),
  (8, [], s_MakeNum_fi),
  (33, [], i_CardOf_fi),
  (52, [], i_PacketOk_fi),
  (62, [], i_PositionOf_1_fi),
  (61, [62], slices_IndexFunc_int_of_i_PositionOf_1_fi),
  (37, [], i_PositionOf_fi),
  (64, [], i_IsArrangement_1_fi),
  (61, [64], slices_IndexFunc_int_of_i_IsArrangement_1_fi),
  (63, [64], slices_ContainsFunc_int_of_i_IsArrangement_1_fi),
  (39, [], i_IsArrangement_fi),
  (90, [], cmp_isNaN_int_fi),
  (65, [], cmp_Compare_int_fi),
  (40, [], slices_Compare_int_fi),
  (13, [], i_KnowOk_fi),
  (32, [], i_SeeCard_1_fi),
  (60, [], slices_Clone_int_fi),
  (31, [32], i_those_of_i_SeeCard_1_fi),
  (9, [], i_SeeCard_fi),
  (35, [], i_KnownAt_1_fi),
  (34, [35], i_common_of_i_KnownAt_1_fi),
  (10, [], i_KnownAt_fi),
  (36, [], i_KnownIndexOf_1_fi),
  (34, [36], i_common_of_i_KnownIndexOf_1_fi),
  (11, [], i_KnownIndexOf_fi),
  (38, [], slices_Max_int_fi),
  (12, [], i_BestLook_fi),
  (14, [], i_CountKnown_fi),
  (66, [], strconv_Itoa_fi),
  (41, [], i_FormatInt_fi),
  (15, [], i_KnowLine_fi),
  (3, [], w_FnKnows_fi)]
noncomputable def E : Env := ⟨lookT tyL, lookF fnL⟩

noncomputable def s_l01New (k : Nat) (x : List Int) : Option ((List Int) × Int × Int) := aFn E s_l01New_fi k x
noncomputable def s_l01New_l3 (k : Nat) (v0 : List Int) (v3 : Int) (v4 : Int) : Option ((List Int) × Int × Int) := aRun E k s_l01New_fi.rs (ioOf s_l01New_fi.ps) s_l01New_fi.res s_l01New_fi.hints [.code (sub s_l01New_c [1, 1, 0, 1, 0, 0, 0, 0]), .code (sub s_l01New_c [1, 1, 0, 1, 0, 0, 0, 1]), .code (sub s_l01New_c [1, 1, 0, 1, 0, 0, 1]), .inLoop (sub s_l01New_c [1, 1, 0, 1, 0, 0]), .inBlock 0, .code (sub s_l01New_c [1, 1, 1])] ⟨[.cv (.val (.slice (.int .u8)) v0), .cv .dead, .cv .dead, .cv (.val (.int .i64) v3), .cv (.val (.int .i64) v4), .cv .dead, .cv .dead, .cv .dead, .cv .dead, .cv .dead, .cv .dead, .cv .dead, .cv .dead, .cv .dead, .cv .dead, .cv .dead, .cv .dead, .cv .dead, .cv .dead, .cv .dead, .cv .dead, .cv .dead, .cv .dead, .cv .dead, .cv .dead, .cv .dead, .cv .dead, .cv .dead, .cv .dead, .cv .dead, .cv .dead, .cv .dead], [], true⟩
noncomputable def s_l01Byte (k : Nat) (x : (List Int) × Int × Int) : Option ((Int) × (List Int) × Int × Int) := aFn E s_l01Byte_fi k x
noncomputable def s_l01Below (k : Nat) (x : ((List Int) × Int × Int) × Int) : Option ((Int) × (List Int) × Int × Int) := aFn E s_l01Below_fi k x
noncomputable def s_l02Shuffle (k : Nat) (x : ((List Int) × Int × Int) × Int) : Option ((List Int) × (List Int) × Int × Int) := aFn E s_l02Shuffle_fi k x
noncomputable def s_l02Shuffle_l3 (k : Nat) (v1 : Int) (v6 : Int) (o100005 : List Int) (o500000_0 : List Int) (o500000_1 : Int) (o500000_2 : Int) : Option ((List Int) × (List Int) × Int × Int) := aRun E k s_l02Shuffle_fi.rs (ioOf s_l02Shuffle_fi.ps) s_l02Shuffle_fi.res s_l02Shuffle_fi.hints [.code (sub s_l02Shuffle_c [1, 1, 0, 1, 0, 0, 0, 0]), .code (sub s_l02Shuffle_c [1, 1, 0, 1, 0, 0, 0, 1]), .code (sub s_l02Shuffle_c [1, 1, 0, 1, 0, 0, 1]), .inLoop (sub s_l02Shuffle_c [1, 1, 0, 1, 0, 0]), .inBlock 0, .code (sub s_l02Shuffle_c [1, 1, 1])] ⟨[.adr 500000 0, .cv (.val (.int .i64) v1), .cv .dead, .cv .dead, .cv .dead, .cv (.own 100005), .cv (.val (.int .i64) v6), .cv .dead, .cv .dead, .cv .dead, .cv .dead, .cv .dead, .cv .dead, .cv .dead, .cv .dead, .cv .dead, .cv .dead, .cv .dead, .cv .dead, .cv .dead, .cv .dead, .cv .dead, .cv .dead, .cv .dead, .cv .dead, .cv .dead, .cv .dead, .cv .dead, .cv .dead, .cv .dead, .cv .dead, .cv .dead, .cv .dead, .cv .dead], [(100005, .row (.int .i64) o100005 true false), (500000, .box [.val (.slice (.int .u8)) o500000_0, .val (.int .i64) o500000_1, .val (.int .i64) o500000_2])], true⟩
noncomputable def s_l01Once (k : Nat) (x : ((List Int) × Int × Int) × Int) : Option ((Bool) × (List Int) × Int × Int) := aFn E s_l01Once_fi k x
noncomputable def s_l02Draw (k : Nat) (x : ((List Int) × Int × Int) × Int) : Option ((List Int) × (List Int) × Int × Int) := aFn E s_l02Draw_fi k x
noncomputable def s_l02Draw_l4 (k : Nat) (v16 : Int) (v17 : Int) (o100005 : List Int) (o500000_0 : List Int) (o500000_1 : Int) (o500000_2 : Int) : Option ((List Int) × (List Int) × Int × Int) := aRun E k s_l02Draw_fi.rs (ioOf s_l02Draw_fi.ps) s_l02Draw_fi.res s_l02Draw_fi.hints [.code (sub s_l02Draw_c [1, 1, 0, 1, 0, 1, 0, 0, 0]), .code (sub s_l02Draw_c [1, 1, 0, 1, 0, 1, 0, 0, 1]), .inLoop (sub s_l02Draw_c [1, 1, 0, 1, 0, 1, 0, 0]), .inBlock 0, .code (sub s_l02Draw_c [1, 1, 1])] ⟨[.adr 500000 0, .cv .dead, .cv .dead, .cv .dead, .cv .dead, .cv (.own 100005), .cv .dead, .cv .dead, .cv .dead, .cv .dead, .cv .dead, .cv .dead, .cv .dead, .cv .dead, .cv .dead, .cv .dead, .cv (.val (.int .i64) v16), .cv (.val (.int .i64) v17), .cv .dead, .cv .dead, .cv .dead, .cv .dead, .cv .dead, .cv .dead, .cv .dead, .cv .dead, .cv .dead, .cv .dead, .cv .dead, .cv .dead, .cv .dead, .cv .dead], [(100005, .row (.int .i64) o100005 true false), (500000, .box [.val (.slice (.int .u8)) o500000_0, .val (.int .i64) o500000_1, .val (.int .i64) o500000_2])], true⟩
noncomputable def s_l01In (k : Nat) (x : Int × Int × Int) : Option (Bool) := aFn E s_l01In_fi k x
noncomputable def s_CardOf (k : Nat) (x : Int) : Option (Int) := aFn E s_CardOf_fi k x
noncomputable def s_l02Has (k : Nat) (x : (List Int) × Int) : Option (Bool) := aFn E s_l02Has_fi k x
noncomputable def s_l02Has_l2 (k : Nat) (v1 : Int) (v7 : List Int) (v8 : Int) (v9 : Int) : Option (Bool) := aRun E k s_l02Has_fi.rs (ioOf s_l02Has_fi.ps) s_l02Has_fi.res s_l02Has_fi.hints [.code (sub s_l02Has_c [1, 0, 1, 0, 0, 0]), .code (sub s_l02Has_c [1, 0, 1, 0, 0, 1]), .inLoop (sub s_l02Has_c [1, 0, 1, 0, 0]), .inBlock 0, .code (sub s_l02Has_c [1, 1])] ⟨[.cv .dead, .cv (.val (.int .i64) v1), .cv .dead, .cv .dead, .cv .dead, .cv .dead, .cv .dead, .cv (.val (.slice (.int .i64)) v7), .cv (.val (.int .i64) v8), .cv (.val (.int .i64) v9), .cv .dead, .cv .dead, .cv .dead, .cv .dead, .cv .dead, .cv .dead, .cv .dead], [], true⟩
noncomputable def s_PacketOk (k : Nat) (x : List Int) : Option (Bool) := aFn E s_PacketOk_fi k x
noncomputable def s_PacketOk_l5 (k : Nat) (v11 : List Int) (v12 : Int) (v13 : Int) (o100003 : List Int) : Option (Bool) := aRun E k s_PacketOk_fi.rs (ioOf s_PacketOk_fi.ps) s_PacketOk_fi.res s_PacketOk_fi.hints [.code (sub s_PacketOk_c [1, 1, 1, 0, 1, 0, 0, 0]), .code (sub s_PacketOk_c [1, 1, 1, 0, 1, 0, 0, 1]), .inLoop (sub s_PacketOk_c [1, 1, 1, 0, 1, 0, 0]), .inBlock 0, .code (sub s_PacketOk_c [1, 1, 1, 1])] ⟨[.cv .dead, .cv .dead, .cv .dead, .cv (.own 100003), .cv .dead, .cv .dead, .cv .dead, .cv .dead, .cv .dead, .cv .dead, .cv .dead, .cv (.val (.slice (.int .i64)) v11), .cv (.val (.int .i64) v12), .cv (.val (.int .i64) v13), .cv .dead, .cv .dead, .cv .dead, .cv .dead, .cv .dead, .cv .dead, .cv .dead, .cv .dead, .cv .dead, .cv .dead, .cv .dead, .cv .dead, .cv .dead, .cv .dead, .cv .dead, .cv .dead, .cv .dead], [(100003, .row (.int .i64) o100003 true false)], true⟩
noncomputable def s_l05Ok (k : Nat) (x : (List Int) × Int) : Option (Bool) := aFn E s_l05Ok_fi k x
noncomputable def s_TurnCard (k : Nat) (x : Int) : Option (Int) := aFn E s_TurnCard_fi k x
noncomputable def s_l04Back (k : Nat) (x : (List Int) × Int × Bool) : Option (List Int) := aFn E s_l04Back_fi k x
noncomputable def s_l04Back_l3 (k : Nat) (v0 : List Int) (v1 : Int) (v2 : Bool) (v8 : Int) (o100007 : List Int) : Option (List Int) := aRun E k s_l04Back_fi.rs (ioOf s_l04Back_fi.ps) s_l04Back_fi.res s_l04Back_fi.hints [.code (sub s_l04Back_c [1, 1, 0, 1, 0, 0, 0, 0]), .code (sub s_l04Back_c [1, 1, 0, 1, 0, 0, 0, 1]), .code (sub s_l04Back_c [1, 1, 0, 1, 0, 0, 1]), .inLoop (sub s_l04Back_c [1, 1, 0, 1, 0, 0]), .inBlock 0, .code (sub s_l04Back_c [1, 1, 1])] ⟨[.cv (.val (.slice (.int .i64)) v0), .cv (.val (.int .i64) v1), .cv (.val (.bool) v2), .cv .dead, .cv .dead, .cv .dead, .cv .dead, .cv (.own 100007), .cv (.val (.int .i64) v8), .cv .dead, .cv .dead, .cv .dead, .cv .dead, .cv .dead, .cv .dead, .cv .dead, .cv .dead, .cv .dead, .cv .dead, .cv .dead, .cv .dead, .cv .dead, .cv .dead, .cv .dead, .cv .dead, .cv .dead, .cv .dead, .cv .dead, .cv .dead, .cv .dead, .cv .dead, .cv .dead, .cv .dead, .cv .dead, .cv .dead, .cv .dead, .cv .dead], [(100007, .row (.int .i64) o100007 true false)], true⟩
noncomputable def s_l04Faro (k : Nat) (x : (List Int) × Int) : Option (List Int) := aFn E s_l04Faro_fi k x
noncomputable def s_l04Faro_l4 (k : Nat) (v1 : Int) (v5 : List Int) (v6 : List Int) (o100007 : List Int) : Option (List Int) := aRun E k s_l04Faro_fi.rs (ioOf s_l04Faro_fi.ps) s_l04Faro_fi.res s_l04Faro_fi.hints [.code (sub s_l04Faro_c [1, 1, 1, 1, 0, 0, 0, 0, 0]), .code (sub s_l04Faro_c [1, 1, 1, 1, 0, 0, 0, 0, 1]), .code (sub s_l04Faro_c [1, 1, 1, 1, 0, 0, 0, 1]), .inLoop (sub s_l04Faro_c [1, 1, 1, 1, 0, 0, 0]), .inBlock 0, .code (sub s_l04Faro_c [1, 1, 1, 1, 1])] ⟨[.cv .dead, .cv (.val (.int .i64) v1), .cv .dead, .cv .dead, .cv .dead, .cv (.val (.slice (.int .i64)) v5), .cv (.val (.slice (.int .i64)) v6), .cv (.own 100007), .cv .dead, .cv .dead, .cv .dead, .cv .dead, .cv .dead, .cv .dead, .cv .dead, .cv .dead, .cv .dead, .cv .dead, .cv .dead, .cv .dead, .cv .dead, .cv .dead, .cv .dead, .cv .dead, .cv .dead, .cv .dead, .cv .dead, .cv .dead, .cv .dead, .cv .dead, .cv .dead, .cv .dead, .cv .dead, .cv .dead, .cv .dead, .cv .dead, .cv .dead, .cv .dead, .cv .dead, .cv .dead, .cv .dead, .cv .dead, .cv .dead, .cv .dead, .cv .dead, .cv .dead, .cv .dead, .cv .dead, .cv .dead, .cv .dead, .cv .dead, .cv .dead, .cv .dead, .cv .dead, .cv .dead, .cv .dead, .cv .dead, .cv .dead, .cv .dead], [(100007, .row (.int .i64) o100007 true false)], true⟩
noncomputable def s_l04Monge (k : Nat) (x : (List Int) × Int) : Option (List Int) := aFn E s_l04Monge_fi k x
noncomputable def s_l04Monge_l3 (k : Nat) (v1 : Int) (v9 : List Int) (v10 : Int) (v11 : Int) (o100005 : List Int) : Option (List Int) := aRun E k s_l04Monge_fi.rs (ioOf s_l04Monge_fi.ps) s_l04Monge_fi.res s_l04Monge_fi.hints [.code (sub s_l04Monge_c [1, 1, 0, 1, 0, 0, 0]), .code (sub s_l04Monge_c [1, 1, 0, 1, 0, 0, 1]), .inLoop (sub s_l04Monge_c [1, 1, 0, 1, 0, 0]), .inBlock 0, .code (sub s_l04Monge_c [1, 1, 1])] ⟨[.cv .dead, .cv (.val (.int .i64) v1), .cv .dead, .cv .dead, .cv .dead, .cv (.own 100005), .cv .dead, .cv .dead, .cv .dead, .cv (.val (.slice (.int .i64)) v9), .cv (.val (.int .i64) v10), .cv (.val (.int .i64) v11), .cv .dead, .cv .dead, .cv .dead, .cv .dead, .cv .dead, .cv .dead, .cv .dead, .cv .dead, .cv .dead, .cv .dead, .cv .dead, .cv .dead, .cv .dead, .cv .dead, .cv .dead, .cv .dead, .cv .dead, .cv .dead, .cv .dead, .cv .dead, .cv .dead, .cv .dead], [(100005, .row (.int .i64) o100005 true false)], true⟩
noncomputable def s_l04Milk (k : Nat) (x : List Int) : Option (List Int) := aFn E s_l04Milk_fi k x
noncomputable def s_l04Milk_l2 (k : Nat) (v0 : List Int) (o100003 : List Int) : Option (List Int) := aRun E k s_l04Milk_fi.rs (ioOf s_l04Milk_fi.ps) s_l04Milk_fi.res s_l04Milk_fi.hints [.code (sub s_l04Milk_c [1, 1, 0, 0, 0, 0, 0]), .code (sub s_l04Milk_c [1, 1, 0, 0, 0, 0, 1]), .code (sub s_l04Milk_c [1, 1, 0, 0, 0, 1]), .inLoop (sub s_l04Milk_c [1, 1, 0, 0, 0]), .inBlock 0, .code (sub s_l04Milk_c [1, 1, 1])] ⟨[.cv (.val (.slice (.int .i64)) v0), .cv .dead, .cv .dead, .cv (.own 100003), .cv .dead, .cv .dead, .cv .dead, .cv .dead, .cv .dead, .cv .dead, .cv .dead, .cv .dead, .cv .dead, .cv .dead, .cv .dead, .cv .dead, .cv .dead, .cv .dead, .cv .dead, .cv .dead, .cv .dead, .cv .dead, .cv .dead, .cv .dead, .cv .dead, .cv .dead, .cv .dead, .cv .dead, .cv .dead, .cv .dead], [(100003, .row (.int .i64) o100003 true false)], true⟩
noncomputable def s_l04Duck (k : Nat) (x : (List Int) × Int) : Option (List Int) := aFn E s_l04Duck_fi k x
noncomputable def s_l04Duck_l4 (k : Nat) (v7 : Int) (o100005 : List Int) (o100006 : List Int) : Option (List Int) := aRun E k s_l04Duck_fi.rs (ioOf s_l04Duck_fi.ps) s_l04Duck_fi.res s_l04Duck_fi.hints [.code (sub s_l04Duck_c [1, 1, 1, 0, 1, 0, 0, 0, 0]), .code (sub s_l04Duck_c [1, 1, 1, 0, 1, 0, 0, 0, 1]), .code (sub s_l04Duck_c [1, 1, 1, 0, 1, 0, 0, 1]), .inLoop (sub s_l04Duck_c [1, 1, 1, 0, 1, 0, 0]), .inBlock 0, .code (sub s_l04Duck_c [1, 1, 1, 1])] ⟨[.cv .dead, .cv .dead, .cv .dead, .cv .dead, .cv .dead, .cv (.own 100005), .cv (.own 100006), .cv (.val (.int .i64) v7), .cv .dead, .cv .dead, .cv .dead, .cv .dead, .cv .dead, .cv .dead, .cv .dead, .cv .dead, .cv .dead, .cv .dead, .cv .dead, .cv .dead, .cv .dead, .cv .dead, .cv .dead, .cv .dead, .cv .dead, .cv .dead, .cv .dead, .cv .dead, .cv .dead, .cv .dead, .cv .dead, .cv .dead, .cv .dead, .cv .dead, .cv .dead, .cv .dead, .cv .dead, .cv .dead, .cv .dead, .cv .dead, .cv .dead], [(100005, .row (.int .i64) o100005 true false), (100006, .row (.int .i64) o100006 true false)], true⟩
noncomputable def s_l04Do (k : Nat) (x : (List Int) × Int × Int) : Option (List Int) := aFn E s_l04Do_fi k x
noncomputable def s_l05Cuts (k : Nat) (x : List Int) : Option (List (List Int)) := aFn E s_l05Cuts_fi k x
noncomputable def s_l05Cuts_l3 (k : Nat) (v0 : List Int) (v7 : Int) (v8 : Int) (o100003 : List (List Int)) : Option (List (List Int)) := aRun E k s_l05Cuts_fi.rs (ioOf s_l05Cuts_fi.ps) s_l05Cuts_fi.res s_l05Cuts_fi.hints [.code (sub s_l05Cuts_c [1, 1, 0, 1, 0, 0, 0]), .code (sub s_l05Cuts_c [1, 1, 0, 1, 0, 0, 1]), .inLoop (sub s_l05Cuts_c [1, 1, 0, 1, 0, 0]), .inBlock 0, .code (sub s_l05Cuts_c [1, 1, 1])] ⟨[.cv (.val (.slice (.int .i64)) v0), .cv .dead, .cv .dead, .cv (.own 100003), .cv .dead, .cv .dead, .cv .dead, .cv (.val (.int .i64) v7), .cv (.val (.int .i64) v8), .cv .dead, .cv .dead, .cv .dead, .cv .dead, .cv .dead, .cv .dead, .cv .dead, .cv .dead, .cv .dead, .cv .dead, .cv .dead], [(100003, .row (.slice (.int .i64)) o100003 true false)], true⟩
noncomputable def s_l05Weave (k : Nat) (x : (List (List Int)) × (List Int) × (List Int) × List Int) : Option (List (List Int)) := aFn E s_l05Weave_fi k x
noncomputable def s_l05Of (k : Nat) (x : (List Int) × Int) : Option (List (List Int)) := aFn E s_l05Of_fi k x
noncomputable def s_l05Of_l7 (k : Nat) (v0 : List Int) (v6 : Int) (o100005 : List (List Int)) : Option (List (List Int)) := aRun E k s_l05Of_fi.rs (ioOf s_l05Of_fi.ps) s_l05Of_fi.res s_l05Of_fi.hints [.code (sub s_l05Of_c [1, 1, 0, 1, 0, 1, 1, 1, 0, 0, 1, 0, 0, 0, 0]), .code (sub s_l05Of_c [1, 1, 0, 1, 0, 1, 1, 1, 0, 0, 1, 0, 0, 0, 1]), .code (sub s_l05Of_c [1, 1, 0, 1, 0, 1, 1, 1, 0, 0, 1, 0, 0, 1]), .inLoop (sub s_l05Of_c [1, 1, 0, 1, 0, 1, 1, 1, 0, 0, 1, 0, 0]), .inBlock 1, .code (sub s_l05Of_c [1, 1, 0, 1, 0, 1, 1, 1, 0, 1]), .inBlock 0, .code (sub s_l05Of_c [1, 1, 1])] ⟨[.cv (.val (.slice (.int .i64)) v0), .cv .dead, .cv .dead, .cv .dead, .cv .dead, .cv (.own 100005), .cv (.val (.int .i64) v6), .cv .dead, .cv .dead, .cv .dead, .cv .dead, .cv .dead, .cv .dead, .cv .dead, .cv .dead, .cv .dead, .cv .dead, .cv .dead, .cv .dead, .cv .dead, .cv .dead, .cv .dead, .cv .dead, .cv .dead, .cv .dead, .cv .dead, .cv .dead, .cv .dead, .cv .dead, .cv .dead, .cv .dead, .cv .dead, .cv .dead, .cv .dead, .cv .dead, .cv .dead, .cv .dead, .cv .dead, .cv .dead, .cv .dead, .cv .dead, .cv .dead, .cv .dead, .cv .dead, .cv .dead, .cv .dead, .cv .dead, .cv .dead, .cv .dead, .cv .dead, .cv .dead, .cv .dead, .cv .dead, .cv .dead, .cv .dead, .cv .dead, .cv .dead, .cv .dead, .cv .dead, .cv .dead, .cv .dead, .cv .dead, .cv .dead, .cv .dead, .cv .dead, .cv .dead, .cv .dead, .cv .dead, .cv .dead], [(100005, .row (.slice (.int .i64)) o100005 false false)], true⟩
noncomputable def s_l05Of_l15 (k : Nat) (v0 : List Int) (v40 : List Int) (v41 : Int) (v42 : Int) (o100005 : List (List Int)) : Option (List (List Int)) := aRun E k s_l05Of_fi.rs (ioOf s_l05Of_fi.ps) s_l05Of_fi.res s_l05Of_fi.hints [.code (sub s_l05Of_c [1, 1, 0, 1, 0, 1, 1, 1, 1, 1, 1, 1, 0, 0, 1, 0, 0, 0]), .code (sub s_l05Of_c [1, 1, 0, 1, 0, 1, 1, 1, 1, 1, 1, 1, 0, 0, 1, 0, 0, 1]), .inLoop (sub s_l05Of_c [1, 1, 0, 1, 0, 1, 1, 1, 1, 1, 1, 1, 0, 0, 1, 0, 0]), .inBlock 3, .code (sub s_l05Of_c [1, 1, 0, 1, 0, 1, 1, 1, 1, 1, 1, 1, 0, 1]), .inBlock 0, .code (sub s_l05Of_c [1, 1, 1])] ⟨[.cv (.val (.slice (.int .i64)) v0), .cv .dead, .cv .dead, .cv .dead, .cv .dead, .cv (.own 100005), .cv .dead, .cv .dead, .cv .dead, .cv .dead, .cv .dead, .cv .dead, .cv .dead, .cv .dead, .cv .dead, .cv .dead, .cv .dead, .cv .dead, .cv .dead, .cv .dead, .cv .dead, .cv .dead, .cv .dead, .cv .dead, .cv .dead, .cv .dead, .cv .dead, .cv .dead, .cv .dead, .cv .dead, .cv .dead, .cv .dead, .cv .dead, .cv .dead, .cv .dead, .cv .dead, .cv .dead, .cv .dead, .cv .dead, .cv .dead, .cv (.val (.slice (.int .i64)) v40), .cv (.val (.int .i64) v41), .cv (.val (.int .i64) v42), .cv .dead, .cv .dead, .cv .dead, .cv .dead, .cv .dead, .cv .dead, .cv .dead, .cv .dead, .cv .dead, .cv .dead, .cv .dead, .cv .dead, .cv .dead, .cv .dead, .cv .dead, .cv .dead, .cv .dead, .cv .dead, .cv .dead, .cv .dead, .cv .dead, .cv .dead, .cv .dead, .cv .dead, .cv .dead, .cv .dead], [(100005, .row (.slice (.int .i64)) o100005 true false)], true⟩
noncomputable def s_SamePacket (k : Nat) (x : (List Int) × List Int) : Option (Bool) := aFn E s_SamePacket_fi k x
noncomputable def s_SamePacket_l4 (k : Nat) (v1 : List Int) (v12 : List Int) (v13 : Int) (v14 : Int) : Option (Bool) := aRun E k s_SamePacket_fi.rs (ioOf s_SamePacket_fi.ps) s_SamePacket_fi.res s_SamePacket_fi.hints [.code (sub s_SamePacket_c [1, 1, 0, 1, 0, 0, 0]), .code (sub s_SamePacket_c [1, 1, 0, 1, 0, 0, 1]), .inLoop (sub s_SamePacket_c [1, 1, 0, 1, 0, 0]), .inBlock 0, .code (sub s_SamePacket_c [1, 1, 1])] ⟨[.cv .dead, .cv (.val (.slice (.int .i64)) v1), .cv .dead, .cv .dead, .cv .dead, .cv .dead, .cv .dead, .cv .dead, .cv .dead, .cv .dead, .cv .dead, .cv .dead, .cv (.val (.slice (.int .i64)) v12), .cv (.val (.int .i64) v13), .cv (.val (.int .i64) v14), .cv .dead, .cv .dead, .cv .dead, .cv .dead, .cv .dead, .cv .dead, .cv .dead, .cv .dead, .cv .dead, .cv .dead, .cv .dead], [], true⟩
noncomputable def s_l05Less (k : Nat) (x : (List Int) × List Int) : Option (Bool) := aFn E s_l05Less_fi k x
noncomputable def s_l05Less_l2 (k : Nat) (v0 : List Int) (v1 : List Int) (v7 : List Int) (v8 : Int) (v9 : Int) : Option (Bool) := aRun E k s_l05Less_fi.rs (ioOf s_l05Less_fi.ps) s_l05Less_fi.res s_l05Less_fi.hints [.code (sub s_l05Less_c [1, 0, 1, 0, 0, 0]), .code (sub s_l05Less_c [1, 0, 1, 0, 0, 1]), .inLoop (sub s_l05Less_c [1, 0, 1, 0, 0]), .inBlock 0, .code (sub s_l05Less_c [1, 1])] ⟨[.cv (.val (.slice (.int .i64)) v0), .cv (.val (.slice (.int .i64)) v1), .cv .dead, .cv .dead, .cv .dead, .cv .dead, .cv .dead, .cv (.val (.slice (.int .i64)) v7), .cv (.val (.int .i64) v8), .cv (.val (.int .i64) v9), .cv .dead, .cv .dead, .cv .dead, .cv .dead, .cv .dead, .cv .dead, .cv .dead, .cv .dead, .cv .dead, .cv .dead, .cv .dead, .cv .dead, .cv .dead, .cv .dead, .cv .dead, .cv .dead, .cv .dead, .cv .dead, .cv .dead, .cv .dead, .cv .dead, .cv .dead, .cv .dead, .cv .dead, .cv .dead, .cv .dead], [], true⟩
noncomputable def s_l05Merge (k : Nat) (x : (List (List Int)) × List (List Int)) : Option (List (List Int)) := aFn E s_l05Merge_fi k x
noncomputable def s_l05Merge_l2 (k : Nat) (v0 : List (List Int)) (v1 : List (List Int)) (o450005 : List (List Int)) : Option (List (List Int)) := aRun E k s_l05Merge_fi.rs (ioOf s_l05Merge_fi.ps) s_l05Merge_fi.res s_l05Merge_fi.hints [.code (sub s_l05Merge_c [1, 1, 0, 0, 0, 0, 0]), .code (sub s_l05Merge_c [1, 1, 0, 0, 0, 0, 1]), .code (sub s_l05Merge_c [1, 1, 0, 0, 0, 1]), .inLoop (sub s_l05Merge_c [1, 1, 0, 0, 0]), .inBlock 0, .code (sub s_l05Merge_c [1, 1, 1])] ⟨[.cv (.val (.slice (.slice (.int .i64))) v0), .cv (.val (.slice (.slice (.int .i64))) v1), .cv .dead, .cv .dead, .cv .dead, .cv (.own 450005), .cv .dead, .cv .dead, .cv .dead, .cv .dead, .cv .dead, .cv .dead, .cv .dead, .cv .dead, .cv .dead, .cv .dead, .cv .dead, .cv .dead, .cv .dead, .cv .dead, .cv .dead, .cv .dead, .cv .dead, .cv .dead, .cv .dead, .cv .dead, .cv .dead, .cv .dead, .cv .dead, .cv .dead, .cv .dead, .cv .dead, .cv .dead, .cv .dead, .cv .dead, .cv .dead, .cv .dead, .cv .dead, .cv .dead, .cv .dead, .cv .dead, .cv .dead, .cv .dead, .cv .dead, .cv .dead, .cv .dead, .cv .dead, .cv .dead, .cv .dead, .cv .dead, .cv .dead, .cv .dead, .cv .dead, .cv .dead, .cv .dead, .cv .dead, .cv .dead, .cv .dead, .cv .dead, .cv .dead, .cv .dead, .cv .dead, .cv .dead, .cv .dead, .cv .dead, .cv .dead], [(450005, .row (.slice (.int .i64)) o450005 true false)], true⟩
noncomputable def s_SortPackets (k : Nat) (x : List (List Int)) : Option (List (List Int)) := aFn E s_SortPackets_fi k x
noncomputable def s_ResultsAfter (k : Nat) (x : (List (List Int)) × Int) : Option ((List (List Int)) × Bool) := aFn E s_ResultsAfter_fi k x
noncomputable def s_ResultsAfter_l3 (k : Nat) (v1 : Int) (v10 : List (List Int)) (v11 : Int) (v12 : Int) (o100006 : List (List Int)) : Option ((List (List Int)) × Bool) := aRun E k s_ResultsAfter_fi.rs (ioOf s_ResultsAfter_fi.ps) s_ResultsAfter_fi.res s_ResultsAfter_fi.hints [.code (sub s_ResultsAfter_c [1, 1, 0, 1, 0, 0, 0]), .code (sub s_ResultsAfter_c [1, 1, 0, 1, 0, 0, 1]), .inLoop (sub s_ResultsAfter_c [1, 1, 0, 1, 0, 0]), .inBlock 0, .code (sub s_ResultsAfter_c [1, 1, 1])] ⟨[.cv .dead, .cv (.val (.int .i64) v1), .cv .dead, .cv .dead, .cv .dead, .cv .dead, .cv (.own 100006), .cv .dead, .cv .dead, .cv .dead, .cv (.val (.slice (.slice (.int .i64))) v10), .cv (.val (.int .i64) v11), .cv (.val (.int .i64) v12), .cv .dead, .cv .dead, .cv .dead, .cv .dead, .cv .dead, .cv .dead, .cv .dead, .cv .dead, .cv .dead, .cv .dead, .cv .dead, .cv .dead, .cv .dead, .cv .dead, .cv .dead, .cv .dead, .cv .dead, .cv .dead], [(100006, .row (.slice (.int .i64)) o100006 true false)], true⟩
noncomputable def s_l15Draw (k : Nat) (x : (List Int) × Int × Int) : Option ((List (List Int)) × (List Int) × Int × Int) := aFn E s_l15Draw_fi k x
noncomputable def s_l15Draw_l3 (k : Nat) (v4 : Int) (o100003 : List (List Int)) (o500000_0 : List Int) (o500000_1 : Int) (o500000_2 : Int) : Option ((List (List Int)) × (List Int) × Int × Int) := aRun E k s_l15Draw_fi.rs (ioOf s_l15Draw_fi.ps) s_l15Draw_fi.res s_l15Draw_fi.hints [.code (sub s_l15Draw_c [1, 1, 0, 1, 0, 0, 0, 0]), .code (sub s_l15Draw_c [1, 1, 0, 1, 0, 0, 0, 1]), .code (sub s_l15Draw_c [1, 1, 0, 1, 0, 0, 1]), .inLoop (sub s_l15Draw_c [1, 1, 0, 1, 0, 0]), .inBlock 0, .code (sub s_l15Draw_c [1, 1, 1])] ⟨[.adr 500000 0, .cv .dead, .cv .dead, .cv (.own 100003), .cv (.val (.int .i64) v4), .cv .dead, .cv .dead, .cv .dead, .cv .dead, .cv .dead, .cv .dead, .cv .dead, .cv .dead, .cv .dead, .cv .dead, .cv .dead, .cv .dead, .cv .dead, .cv .dead, .cv .dead, .cv .dead, .cv .dead, .cv .dead, .cv .dead, .cv .dead, .cv .dead, .cv .dead], [(100003, .row (.slice (.int .i64)) o100003 true false), (500000, .box [.val (.slice (.int .u8)) o500000_0, .val (.int .i64) o500000_1, .val (.int .i64) o500000_2])], true⟩
noncomputable def s_MakeKnown (k : Nat) (x : List Int) : Option (List (List Int)) := aFn E s_MakeKnown_fi k x
noncomputable def s_l23New (k : Nat) (x : (List Int) × Int) : Option ((List Int) × Int × Int) := aFn E s_l23New_fi k x
noncomputable def s_l23New_l3 (k : Nat) (v1 : Int) (v6 : Int) (o200005_0 : List Int) (o200005_1 : Int) (o200005_2 : Int) : Option ((List Int) × Int × Int) := aRun E k s_l23New_fi.rs (ioOf s_l23New_fi.ps) s_l23New_fi.res s_l23New_fi.hints [.code (sub s_l23New_c [1, 1, 0, 1, 0, 0, 0, 0]), .code (sub s_l23New_c [1, 1, 0, 1, 0, 0, 0, 1]), .code (sub s_l23New_c [1, 1, 0, 1, 0, 0, 1]), .inLoop (sub s_l23New_c [1, 1, 0, 1, 0, 0]), .inBlock 0, .code (sub s_l23New_c [1, 1, 1])] ⟨[.cv .dead, .cv (.val (.int .i64) v1), .cv .dead, .cv .dead, .cv .dead, .adr 200005 0, .cv (.val (.int .i64) v6), .cv .dead, .cv .dead, .cv .dead, .cv .dead, .cv .dead, .cv .dead, .cv .dead, .cv .dead, .cv .dead, .cv .dead], [(200005, .box [.val (.slice (.int .u8)) o200005_0, .val (.int .i64) o200005_1, .val (.int .i64) o200005_2])], true⟩
noncomputable def s_MakeNum (k : Nat) (x : (List Int) × Int) : Option (Int) := aFn E s_MakeNum_fi k x
noncomputable def i_CardOf (k : Nat) (x : Int) : Option (Int) := aFn E i_CardOf_fi k x
noncomputable def i_PacketOk (k : Nat) (x : List Int) : Option (Bool) := aFn E i_PacketOk_fi k x
noncomputable def i_PacketOk_l3 (k : Nat) (v7 : List Int) (v8 : Int) (v9 : Int) (o400003 : List Bool) : Option (Bool) := aRun E k i_PacketOk_fi.rs (ioOf i_PacketOk_fi.ps) i_PacketOk_fi.res i_PacketOk_fi.hints [.code (sub i_PacketOk_c [1, 1, 0, 1, 0, 0, 0]), .code (sub i_PacketOk_c [1, 1, 0, 1, 0, 0, 1]), .inLoop (sub i_PacketOk_c [1, 1, 0, 1, 0, 0]), .inBlock 0, .code (sub i_PacketOk_c [1, 1, 1])] ⟨[.cv .dead, .cv .dead, .cv .dead, .adr 400003 0, .cv .dead, .cv .dead, .cv .dead, .cv (.val (.slice (.int .i64)) v7), .cv (.val (.int .i64) v8), .cv (.val (.int .i64) v9), .cv .dead, .cv .dead, .cv .dead, .cv .dead, .cv .dead, .cv .dead, .cv .dead, .cv .dead, .cv .dead, .cv .dead, .cv .dead, .cv .dead, .cv .dead, .cv .dead, .cv .dead], [(400003, .arr (.bool) o400003)], true⟩
noncomputable def i_PositionOf_1 (k : Nat) (x : Int × Int) : Option (Bool) := aFn E i_PositionOf_1_fi k x
noncomputable def slices_IndexFunc_int_of_i_PositionOf_1 (k : Nat) (x : (List Int) × Int) : Option (Int) := aFn E slices_IndexFunc_int_of_i_PositionOf_1_fi k x
noncomputable def slices_IndexFunc_int_of_i_PositionOf_1_l2 (k : Nat) (v0 : List Int) (v1_0_0 : Int) (v7 : Int) (v8 : Int) : Option (Int) := aRun E k slices_IndexFunc_int_of_i_PositionOf_1_fi.rs (ioOf slices_IndexFunc_int_of_i_PositionOf_1_fi.ps) slices_IndexFunc_int_of_i_PositionOf_1_fi.res slices_IndexFunc_int_of_i_PositionOf_1_fi.hints [.code (sub slices_IndexFunc_int_of_i_PositionOf_1_c [1, 0, 1, 0, 0, 0]), .code (sub slices_IndexFunc_int_of_i_PositionOf_1_c [1, 0, 1, 0, 0, 1]), .inLoop (sub slices_IndexFunc_int_of_i_PositionOf_1_c [1, 0, 1, 0, 0]), .inBlock 0, .code (sub slices_IndexFunc_int_of_i_PositionOf_1_c [1, 1])] ⟨[.cv (.val (.slice (.int .i64)) v0), .fn 62 [[.val (.int .i64) v1_0_0]], .cv .dead, .cv .dead, .cv .dead, .cv .dead, .cv .dead, .cv (.val (.int .i64) v7), .cv (.val (.int .i64) v8), .cv .dead, .cv .dead, .cv .dead, .cv .dead, .cv .dead, .cv .dead, .cv .dead, .cv .dead, .cv .dead, .cv .dead], [], true⟩
noncomputable def i_PositionOf (k : Nat) (x : (List Int) × Int) : Option (Int) := aFn E i_PositionOf_fi k x
noncomputable def i_IsArrangement_1 (k : Nat) (x : Int × List Int) : Option (Bool) := aFn E i_IsArrangement_1_fi k x
noncomputable def slices_IndexFunc_int_of_i_IsArrangement_1 (k : Nat) (x : (List Int) × List Int) : Option (Int) := aFn E slices_IndexFunc_int_of_i_IsArrangement_1_fi k x
noncomputable def slices_IndexFunc_int_of_i_IsArrangement_1_l2 (k : Nat) (v0 : List Int) (v1_0_0 : List Int) (v7 : Int) (v8 : Int) : Option (Int) := aRun E k slices_IndexFunc_int_of_i_IsArrangement_1_fi.rs (ioOf slices_IndexFunc_int_of_i_IsArrangement_1_fi.ps) slices_IndexFunc_int_of_i_IsArrangement_1_fi.res slices_IndexFunc_int_of_i_IsArrangement_1_fi.hints [.code (sub slices_IndexFunc_int_of_i_IsArrangement_1_c [1, 0, 1, 0, 0, 0]), .code (sub slices_IndexFunc_int_of_i_IsArrangement_1_c [1, 0, 1, 0, 0, 1]), .inLoop (sub slices_IndexFunc_int_of_i_IsArrangement_1_c [1, 0, 1, 0, 0]), .inBlock 0, .code (sub slices_IndexFunc_int_of_i_IsArrangement_1_c [1, 1])] ⟨[.cv (.val (.slice (.int .i64)) v0), .fn 64 [[.val (.slice (.int .i64)) v1_0_0]], .cv .dead, .cv .dead, .cv .dead, .cv .dead, .cv .dead, .cv (.val (.int .i64) v7), .cv (.val (.int .i64) v8), .cv .dead, .cv .dead, .cv .dead, .cv .dead, .cv .dead, .cv .dead, .cv .dead, .cv .dead, .cv .dead, .cv .dead], [], true⟩
noncomputable def slices_ContainsFunc_int_of_i_IsArrangement_1 (k : Nat) (x : (List Int) × List Int) : Option (Bool) := aFn E slices_ContainsFunc_int_of_i_IsArrangement_1_fi k x
noncomputable def i_IsArrangement (k : Nat) (x : (List Int) × List Int) : Option (Bool) := aFn E i_IsArrangement_fi k x
noncomputable def cmp_isNaN_int (k : Nat) (x : Int) : Option (Bool) := aFn E cmp_isNaN_int_fi k x
noncomputable def cmp_Compare_int (k : Nat) (x : Int × Int) : Option (Int) := aFn E cmp_Compare_int_fi k x
noncomputable def slices_Compare_int (k : Nat) (x : (List Int) × List Int) : Option (Int) := aFn E slices_Compare_int_fi k x
noncomputable def slices_Compare_int_l2 (k : Nat) (v0 : List Int) (v1 : List Int) (v9 : List Int) (v10 : Int) (v11 : Int) : Option (Int) := aRun E k slices_Compare_int_fi.rs (ioOf slices_Compare_int_fi.ps) slices_Compare_int_fi.res slices_Compare_int_fi.hints [.code (sub slices_Compare_int_c [1, 0, 1, 0, 0, 0]), .code (sub slices_Compare_int_c [1, 0, 1, 0, 0, 1]), .inLoop (sub slices_Compare_int_c [1, 0, 1, 0, 0]), .inBlock 0, .code (sub slices_Compare_int_c [1, 1])] ⟨[.cv (.val (.slice (.int .i64)) v0), .cv (.val (.slice (.int .i64)) v1), .cv .dead, .cv .dead, .cv .dead, .cv .dead, .cv .dead, .cv .dead, .cv .dead, .cv (.val (.slice (.int .i64)) v9), .cv (.val (.int .i64) v10), .cv (.val (.int .i64) v11), .cv .dead, .cv .dead, .cv .dead, .cv .dead, .cv .dead, .cv .dead, .cv .dead, .cv .dead, .cv .dead, .cv .dead, .cv .dead, .cv .dead, .cv .dead, .cv .dead, .cv .dead, .cv .dead, .cv .dead, .cv .dead, .cv .dead, .cv .dead, .cv .dead, .cv .dead, .cv .dead, .cv .dead], [], true⟩
noncomputable def i_KnowOk (k : Nat) (x : List (List Int)) : Option (Bool) := aFn E i_KnowOk_fi k x
noncomputable def i_KnowOk_l4 (k : Nat) (v0 : List (List Int)) (v20 : List (List Int)) (v21 : Int) (v22 : Int) : Option (Bool) := aRun E k i_KnowOk_fi.rs (ioOf i_KnowOk_fi.ps) i_KnowOk_fi.res i_KnowOk_fi.hints [.code (sub i_KnowOk_c [1, 1, 0, 1, 0, 0, 0]), .code (sub i_KnowOk_c [1, 1, 0, 1, 0, 0, 1]), .inLoop (sub i_KnowOk_c [1, 1, 0, 1, 0, 0]), .inBlock 0, .code (sub i_KnowOk_c [1, 1, 1])] ⟨[.cv (.val (.slice (.slice (.int .i64))) v0), .cv .dead, .cv .dead, .cv .dead, .cv .dead, .cv .dead, .cv .dead, .cv .dead, .cv .dead, .cv .dead, .cv .dead, .cv .dead, .cv .dead, .cv .dead, .cv .dead, .cv .dead, .cv .dead, .cv .dead, .cv .dead, .cv .dead, .cv (.val (.slice (.slice (.int .i64))) v20), .cv (.val (.int .i64) v21), .cv (.val (.int .i64) v22), .cv .dead, .cv .dead, .cv .dead, .cv .dead, .cv .dead, .cv .dead, .cv .dead, .cv .dead, .cv .dead, .cv .dead, .cv .dead, .cv .dead, .cv .dead, .cv .dead, .cv .dead, .cv .dead, .cv .dead, .cv .dead, .cv .dead, .cv .dead, .cv .dead, .cv .dead, .cv .dead, .cv .dead, .cv .dead], [], true⟩
noncomputable def i_SeeCard_1 (k : Nat) (x : (List Int) × Int × Int) : Option (Bool) := aFn E i_SeeCard_1_fi k x
noncomputable def slices_Clone_int (k : Nat) (x : List Int) : Option (List Int) := aFn E slices_Clone_int_fi k x
noncomputable def i_those_of_i_SeeCard_1 (k : Nat) (x : (List (List Int)) × Int × Int) : Option (List (List Int)) := aFn E i_those_of_i_SeeCard_1_fi k x
noncomputable def i_those_of_i_SeeCard_1_l5 (k : Nat) (v1_0_0 : Int) (v1_1_0 : Int) (v11 : List (List Int)) (v12 : Int) (v13 : Int) (o100005 : List (List Int)) : Option (List (List Int)) := aRun E k i_those_of_i_SeeCard_1_fi.rs (ioOf i_those_of_i_SeeCard_1_fi.ps) i_those_of_i_SeeCard_1_fi.res i_those_of_i_SeeCard_1_fi.hints [.code (sub i_those_of_i_SeeCard_1_c [1, 1, 1, 0, 1, 0, 0, 0]), .code (sub i_those_of_i_SeeCard_1_c [1, 1, 1, 0, 1, 0, 0, 1]), .inLoop (sub i_those_of_i_SeeCard_1_c [1, 1, 1, 0, 1, 0, 0]), .inBlock 0, .code (sub i_those_of_i_SeeCard_1_c [1, 1, 1, 1])] ⟨[.cv .dead, .fn 32 [[.val (.int .i64) v1_0_0], [.val (.int .i64) v1_1_0]], .cv .dead, .cv .dead, .cv .dead, .cv (.own 100005), .cv .dead, .cv .dead, .cv .dead, .cv .dead, .cv .dead, .cv (.val (.slice (.slice (.int .i64))) v11), .cv (.val (.int .i64) v12), .cv (.val (.int .i64) v13), .cv .dead, .cv .dead, .cv .dead, .cv .dead, .cv .dead, .cv .dead, .cv .dead, .cv .dead, .cv .dead, .cv .dead, .cv .dead, .cv .dead, .cv .dead], [(100005, .row (.slice (.int .i64)) o100005 true true)], true⟩
noncomputable def i_SeeCard (k : Nat) (x : (List (List Int)) × Int × Int) : Option (List (List Int)) := aFn E i_SeeCard_fi k x
noncomputable def i_KnownAt_1 (k : Nat) (x : (List Int) × Int) : Option (Int) := aFn E i_KnownAt_1_fi k x
noncomputable def i_common_of_i_KnownAt_1 (k : Nat) (x : (List (List Int)) × Int) : Option (Int) := aFn E i_common_of_i_KnownAt_1_fi k x
noncomputable def i_common_of_i_KnownAt_1_l5 (k : Nat) (v1_0_0 : Int) (v5 : Int) (v16 : List (List Int)) (v17 : Int) (v18 : Int) : Option (Int) := aRun E k i_common_of_i_KnownAt_1_fi.rs (ioOf i_common_of_i_KnownAt_1_fi.ps) i_common_of_i_KnownAt_1_fi.res i_common_of_i_KnownAt_1_fi.hints [.code (sub i_common_of_i_KnownAt_1_c [1, 1, 1, 0, 1, 0, 0, 0]), .code (sub i_common_of_i_KnownAt_1_c [1, 1, 1, 0, 1, 0, 0, 1]), .inLoop (sub i_common_of_i_KnownAt_1_c [1, 1, 1, 0, 1, 0, 0]), .inBlock 0, .code (sub i_common_of_i_KnownAt_1_c [1, 1, 1, 1])] ⟨[.cv .dead, .fn 35 [[.val (.int .i64) v1_0_0]], .cv .dead, .cv .dead, .cv .dead, .cv (.val (.int .i64) v5), .cv .dead, .cv .dead, .cv .dead, .cv .dead, .cv .dead, .cv .dead, .cv .dead, .cv .dead, .cv .dead, .cv .dead, .cv (.val (.slice (.slice (.int .i64))) v16), .cv (.val (.int .i64) v17), .cv (.val (.int .i64) v18), .cv .dead, .cv .dead, .cv .dead, .cv .dead, .cv .dead, .cv .dead, .cv .dead, .cv .dead, .cv .dead, .cv .dead], [], true⟩
noncomputable def i_KnownAt (k : Nat) (x : (List (List Int)) × Int) : Option (Int) := aFn E i_KnownAt_fi k x
noncomputable def i_KnownIndexOf_1 (k : Nat) (x : (List Int) × Int) : Option (Int) := aFn E i_KnownIndexOf_1_fi k x
noncomputable def i_common_of_i_KnownIndexOf_1 (k : Nat) (x : (List (List Int)) × Int) : Option (Int) := aFn E i_common_of_i_KnownIndexOf_1_fi k x
noncomputable def i_common_of_i_KnownIndexOf_1_l5 (k : Nat) (v1_0_0 : Int) (v5 : Int) (v16 : List (List Int)) (v17 : Int) (v18 : Int) : Option (Int) := aRun E k i_common_of_i_KnownIndexOf_1_fi.rs (ioOf i_common_of_i_KnownIndexOf_1_fi.ps) i_common_of_i_KnownIndexOf_1_fi.res i_common_of_i_KnownIndexOf_1_fi.hints [.code (sub i_common_of_i_KnownIndexOf_1_c [1, 1, 1, 0, 1, 0, 0, 0]), .code (sub i_common_of_i_KnownIndexOf_1_c [1, 1, 1, 0, 1, 0, 0, 1]), .inLoop (sub i_common_of_i_KnownIndexOf_1_c [1, 1, 1, 0, 1, 0, 0]), .inBlock 0, .code (sub i_common_of_i_KnownIndexOf_1_c [1, 1, 1, 1])] ⟨[.cv .dead, .fn 36 [[.val (.int .i64) v1_0_0]], .cv .dead, .cv .dead, .cv .dead, .cv (.val (.int .i64) v5), .cv .dead, .cv .dead, .cv .dead, .cv .dead, .cv .dead, .cv .dead, .cv .dead, .cv .dead, .cv .dead, .cv .dead, .cv (.val (.slice (.slice (.int .i64))) v16), .cv (.val (.int .i64) v17), .cv (.val (.int .i64) v18), .cv .dead, .cv .dead, .cv .dead, .cv .dead, .cv .dead, .cv .dead, .cv .dead, .cv .dead, .cv .dead, .cv .dead], [], true⟩
noncomputable def i_KnownIndexOf (k : Nat) (x : (List (List Int)) × Int) : Option (Int) := aFn E i_KnownIndexOf_fi k x
noncomputable def slices_Max_int (k : Nat) (x : List Int) : Option (Int) := aFn E slices_Max_int_fi k x
noncomputable def slices_Max_int_l5 (k : Nat) (v0 : List Int) (v3 : Int) (v4 : Int) : Option (Int) := aRun E k slices_Max_int_fi.rs (ioOf slices_Max_int_fi.ps) slices_Max_int_fi.res slices_Max_int_fi.hints [.code (sub slices_Max_int_c [1, 1, 1, 0, 1, 0, 0, 0, 0]), .code (sub slices_Max_int_c [1, 1, 1, 0, 1, 0, 0, 0, 1]), .code (sub slices_Max_int_c [1, 1, 1, 0, 1, 0, 0, 1]), .inLoop (sub slices_Max_int_c [1, 1, 1, 0, 1, 0, 0]), .inBlock 0, .code (sub slices_Max_int_c [1, 1, 1, 1])] ⟨[.cv (.val (.slice (.int .i64)) v0), .cv .dead, .cv .dead, .cv (.val (.int .i64) v3), .cv (.val (.int .i64) v4), .cv .dead, .cv .dead, .cv .dead, .cv .dead, .cv .dead, .cv .dead, .cv .dead, .cv .dead, .cv .dead, .cv .dead, .cv .dead, .cv .dead, .cv .dead, .cv .dead, .cv .dead, .cv .dead, .cv .dead, .cv .dead, .cv .dead, .cv .dead], [], true⟩
noncomputable def i_BestLook (k : Nat) (x : List (List Int)) : Option (Int) := aFn E i_BestLook_fi k x
noncomputable def i_BestLook_l5 (k : Nat) (v0 : List (List Int)) (v3 : Int) (v4 : Int) (v16 : Int) (v17 : Int) : Option (Int) := aRun E k i_BestLook_fi.rs (ioOf i_BestLook_fi.ps) i_BestLook_fi.res i_BestLook_fi.hints [.code (sub i_BestLook_c [1, 1, 1, 0, 1, 0, 0, 0]), .code (sub i_BestLook_c [1, 1, 1, 0, 1, 0, 0, 1]), .inLoop (sub i_BestLook_c [1, 1, 1, 0, 1, 0, 0]), .inBlock 0, .code (sub i_BestLook_c [1, 1, 1, 1])] ⟨[.cv (.val (.slice (.slice (.int .i64))) v0), .cv .dead, .cv .dead, .cv (.val (.int .i64) v3), .cv (.val (.int .i64) v4), .cv .dead, .cv .dead, .cv .dead, .cv .dead, .cv .dead, .cv .dead, .cv .dead, .cv .dead, .cv .dead, .cv .dead, .cv .dead, .cv (.val (.int .i64) v16), .cv (.val (.int .i64) v17), .cv .dead, .cv .dead, .cv .dead, .cv .dead, .cv .dead, .cv .dead, .cv .dead, .cv .dead, .cv .dead, .cv .dead, .cv .dead, .cv .dead, .cv .dead, .cv .dead, .cv .dead, .cv .dead, .cv .dead, .cv .dead, .cv .dead, .cv .dead, .cv .dead, .cv .dead, .cv .dead, .cv .dead, .cv .dead, .cv .dead, .cv .dead, .cv .dead, .cv .dead, .cv .dead, .cv .dead], [], true⟩
noncomputable def i_BestLook_l9 (k : Nat) (v0 : List (List Int)) (v3 : Int) (v4 : Int) (v5 : Int) (v16 : Int) (v17 : Int) (v20 : List (List Int)) (v21 : Int) (v22 : Int) (o400006 : List Int) : Option (Int) := aRun E k i_BestLook_fi.rs (ioOf i_BestLook_fi.ps) i_BestLook_fi.res i_BestLook_fi.hints [.code (sub i_BestLook_c [1, 1, 1, 0, 1, 0, 0, 1, 1, 0, 0, 1, 1, 0, 1, 0, 0, 0]), .code (sub i_BestLook_c [1, 1, 1, 0, 1, 0, 0, 1, 1, 0, 0, 1, 1, 0, 1, 0, 0, 1]), .inLoop (sub i_BestLook_c [1, 1, 1, 0, 1, 0, 0, 1, 1, 0, 0, 1, 1, 0, 1, 0, 0]), .inBlock 2, .code (sub i_BestLook_c [1, 1, 1, 0, 1, 0, 0, 1, 1, 0, 0, 1, 1, 1]), .inBlock 1, .code (sub i_BestLook_c [1, 1, 1, 0, 1, 0, 0, 1, 1, 1]), .inLoop (sub i_BestLook_c [1, 1, 1, 0, 1, 0, 0]), .inBlock 0, .code (sub i_BestLook_c [1, 1, 1, 1])] ⟨[.cv (.val (.slice (.slice (.int .i64))) v0), .cv .dead, .cv .dead, .cv (.val (.int .i64) v3), .cv (.val (.int .i64) v4), .cv (.val (.int .i64) v5), .adr 400006 0, .cv .dead, .cv .dead, .cv .dead, .cv .dead, .cv .dead, .cv .dead, .cv .dead, .cv .dead, .cv .dead, .cv (.val (.int .i64) v16), .cv (.val (.int .i64) v17), .cv .dead, .cv .dead, .cv (.val (.slice (.slice (.int .i64))) v20), .cv (.val (.int .i64) v21), .cv (.val (.int .i64) v22), .cv .dead, .cv .dead, .cv .dead, .cv .dead, .cv .dead, .cv .dead, .cv .dead, .cv .dead, .cv .dead, .cv .dead, .cv .dead, .cv .dead, .cv .dead, .cv .dead, .cv .dead, .cv .dead, .cv .dead, .cv .dead, .cv .dead, .cv .dead, .cv .dead, .cv .dead, .cv .dead, .cv .dead, .cv .dead, .cv .dead], [(400006, .arr (.int .i64) o400006)], true⟩
noncomputable def i_CountKnown (k : Nat) (x : List (List Int)) : Option (Int) := aFn E i_CountKnown_fi k x
noncomputable def i_CountKnown_l5 (k : Nat) (v0 : List (List Int)) (v3 : Int) (v11 : Int) (v12 : Int) : Option (Int) := aRun E k i_CountKnown_fi.rs (ioOf i_CountKnown_fi.ps) i_CountKnown_fi.res i_CountKnown_fi.hints [.code (sub i_CountKnown_c [1, 1, 1, 0, 1, 0, 0, 0]), .code (sub i_CountKnown_c [1, 1, 1, 0, 1, 0, 0, 1]), .inLoop (sub i_CountKnown_c [1, 1, 1, 0, 1, 0, 0]), .inBlock 0, .code (sub i_CountKnown_c [1, 1, 1, 1])] ⟨[.cv (.val (.slice (.slice (.int .i64))) v0), .cv .dead, .cv .dead, .cv (.val (.int .i64) v3), .cv .dead, .cv .dead, .cv .dead, .cv .dead, .cv .dead, .cv .dead, .cv .dead, .cv (.val (.int .i64) v11), .cv (.val (.int .i64) v12), .cv .dead, .cv .dead, .cv .dead, .cv .dead, .cv .dead, .cv .dead, .cv .dead, .cv .dead, .cv .dead, .cv .dead], [], true⟩
noncomputable def strconv_Itoa (k : Nat) (x : Int) : Option (ByteArray) := aFn E strconv_Itoa_fi k x
noncomputable def i_FormatInt (k : Nat) (x : Int) : Option (ByteArray) := aFn E i_FormatInt_fi k x
noncomputable def i_KnowLine (k : Nat) (x : List (List Int)) : Option (ByteArray) := aFn E i_KnowLine_fi k x
noncomputable def i_KnowLine_l5 (k : Nat) (v0 : List (List Int)) (v3 : ByteArray) (v16 : Int) (v17 : Int) : Option (ByteArray) := aRun E k i_KnowLine_fi.rs (ioOf i_KnowLine_fi.ps) i_KnowLine_fi.res i_KnowLine_fi.hints [.code (sub i_KnowLine_c [1, 1, 1, 0, 1, 0, 0, 0]), .code (sub i_KnowLine_c [1, 1, 1, 0, 1, 0, 0, 1]), .inLoop (sub i_KnowLine_c [1, 1, 1, 0, 1, 0, 0]), .inBlock 0, .code (sub i_KnowLine_c [1, 1, 1, 1])] ⟨[.cv (.val (.slice (.slice (.int .i64))) v0), .cv .dead, .cv .dead, .cv (.val (.str) v3), .cv .dead, .cv .dead, .cv .dead, .cv .dead, .cv .dead, .cv .dead, .cv .dead, .cv .dead, .cv .dead, .cv .dead, .cv .dead, .cv .dead, .cv (.val (.int .i64) v16), .cv (.val (.int .i64) v17), .cv .dead, .cv .dead, .cv .dead, .cv .dead, .cv .dead, .cv .dead, .cv .dead, .cv .dead, .cv .dead, .cv .dead, .cv .dead, .cv .dead, .cv .dead, .cv .dead, .cv .dead, .cv .dead], [], true⟩
noncomputable def w_FnKnows (k : Nat) (x : List Int) : Option (Bool) := aFn E w_FnKnows_fi k x
noncomputable def w_FnKnows_l9 (k : Nat) (v4 : Int) (v5 : Int) (v6 : Int) (v7 : Int) (v8 : Int) (o100003 : List (List Int)) : Option (Bool) := aRun E k w_FnKnows_fi.rs (ioOf w_FnKnows_fi.ps) w_FnKnows_fi.res w_FnKnows_fi.hints [.code (sub w_FnKnows_c [1, 1, 1, 1, 1, 1, 1, 0, 1, 0, 0, 0, 0]), .code (sub w_FnKnows_c [1, 1, 1, 1, 1, 1, 1, 0, 1, 0, 0, 0, 1]), .code (sub w_FnKnows_c [1, 1, 1, 1, 1, 1, 1, 0, 1, 0, 0, 1]), .inLoop (sub w_FnKnows_c [1, 1, 1, 1, 1, 1, 1, 0, 1, 0, 0]), .inBlock 0, .code (sub w_FnKnows_c [1, 1, 1, 1, 1, 1, 1, 1])] ⟨[.cv .dead, .cv .dead, .cv .dead, .cv (.own 100003), .cv (.val (.int .i64) v4), .cv (.val (.int .i64) v5), .cv (.val (.int .i64) v6), .cv (.val (.int .i64) v7), .cv (.val (.int .i64) v8), .cv .dead, .cv .dead, .cv .dead, .cv .dead, .cv .dead, .cv .dead, .cv .dead, .cv .dead, .cv .dead, .cv .dead, .cv .dead, .cv .dead, .cv .dead, .cv .dead, .cv .dead, .cv .dead, .cv .dead, .cv .dead, .cv .dead, .cv .dead, .cv .dead, .cv .dead, .cv .dead, .cv .dead, .cv .dead, .cv .dead, .cv .dead, .cv .dead, .cv .dead, .cv .dead, .cv .dead, .cv .dead, .cv .dead, .cv .dead, .cv .dead, .cv .dead, .cv .dead, .cv .dead, .cv .dead, .cv .dead, .cv .dead, .cv .dead, .cv .dead, .cv .dead, .cv .dead, .cv .dead, .cv .dead, .cv .dead, .cv .dead, .cv .dead, .cv .dead, .cv .dead, .cv .dead, .cv .dead, .cv .dead, .cv .dead, .cv .dead, .cv .dead, .cv .dead, .cv .dead, .cv .dead, .cv .dead, .cv .dead, .cv .dead, .cv .dead, .cv .dead, .cv .dead, .cv .dead, .cv .dead, .cv .dead, .cv .dead, .cv .dead, .cv .dead, .cv .dead, .cv .dead, .cv .dead, .cv .dead, .cv .dead, .cv .dead, .cv .dead, .cv .dead, .cv .dead, .cv .dead, .cv .dead, .cv .dead, .cv .dead, .cv .dead, .cv .dead, .cv .dead, .cv .dead, .cv .dead, .cv .dead, .cv .dead, .cv .dead, .cv .dead, .cv .dead, .cv .dead, .cv .dead, .cv .dead, .cv .dead, .cv .dead, .cv .dead, .cv .dead, .cv .dead, .cv .dead], [(100003, .row (.slice (.int .i64)) o100003 false false)], true⟩
noncomputable def w_FnKnows_l21 (k : Nat) (v7 : Int) (v10 : Int) (v11 : Int) (v12 : Int) (o100003 : List (List Int)) : Option (Bool) := aRun E k w_FnKnows_fi.rs (ioOf w_FnKnows_fi.ps) w_FnKnows_fi.res w_FnKnows_fi.hints [.code (sub w_FnKnows_c [1, 1, 1, 1, 1, 1, 1, 1, 1, 1, 1, 0, 1, 0, 0, 0, 0]), .code (sub w_FnKnows_c [1, 1, 1, 1, 1, 1, 1, 1, 1, 1, 1, 0, 1, 0, 0, 0, 1]), .code (sub w_FnKnows_c [1, 1, 1, 1, 1, 1, 1, 1, 1, 1, 1, 0, 1, 0, 0, 1]), .inLoop (sub w_FnKnows_c [1, 1, 1, 1, 1, 1, 1, 1, 1, 1, 1, 0, 1, 0, 0]), .inBlock 2, .code (sub w_FnKnows_c [1, 1, 1, 1, 1, 1, 1, 1, 1, 1, 1, 1])] ⟨[.cv .dead, .cv .dead, .cv .dead, .cv (.own 100003), .cv .dead, .cv .dead, .cv .dead, .cv (.val (.int .i64) v7), .cv .dead, .cv .dead, .cv (.val (.int .i64) v10), .cv (.val (.int .i64) v11), .cv (.val (.int .i64) v12), .cv .dead, .cv .dead, .cv .dead, .cv .dead, .cv .dead, .cv .dead, .cv .dead, .cv .dead, .cv .dead, .cv .dead, .cv .dead, .cv .dead, .cv .dead, .cv .dead, .cv .dead, .cv .dead, .cv .dead, .cv .dead, .cv .dead, .cv .dead, .cv .dead, .cv .dead, .cv .dead, .cv .dead, .cv .dead, .cv .dead, .cv .dead, .cv .dead, .cv .dead, .cv .dead, .cv .dead, .cv .dead, .cv .dead, .cv .dead, .cv .dead, .cv .dead, .cv .dead, .cv .dead, .cv .dead, .cv .dead, .cv .dead, .cv .dead, .cv .dead, .cv .dead, .cv .dead, .cv .dead, .cv .dead, .cv .dead, .cv .dead, .cv .dead, .cv .dead, .cv .dead, .cv .dead, .cv .dead, .cv .dead, .cv .dead, .cv .dead, .cv .dead, .cv .dead, .cv .dead, .cv .dead, .cv .dead, .cv .dead, .cv .dead, .cv .dead, .cv .dead, .cv .dead, .cv .dead, .cv .dead, .cv .dead, .cv .dead, .cv .dead, .cv .dead, .cv .dead, .cv .dead, .cv .dead, .cv .dead, .cv .dead, .cv .dead, .cv .dead, .cv .dead, .cv .dead, .cv .dead, .cv .dead, .cv .dead, .cv .dead, .cv .dead, .cv .dead, .cv .dead, .cv .dead, .cv .dead, .cv .dead, .cv .dead, .cv .dead, .cv .dead, .cv .dead, .cv .dead, .cv .dead, .cv .dead, .cv .dead, .cv .dead], [(100003, .row (.slice (.int .i64)) o100003 false false)], true⟩

theorem s_l01New_eq (k : Nat) (x0 : List Int) : s_l01New (k + 1) x0 =
  s_l01New_l3 k x0 (IntKind.i64.wrap ((2070 : Int) + (x0.length : Int))) (0 : Int) := by kernel_rfl
theorem s_l01New_l3_eq (k : Nat) (v0 : List Int) (v3 : Int) (v4 : Int) : s_l01New_l3 (k + 1) v0 v3 v4 =
  bif decide (v4 < (v0.length : Int)) then
    (bif decide (v4 < (4000 : Int)) then
      (bif decide (0 ≤ v4) then
        (bif decide (v4 < (v0.length : Int)) then
          (s_l01New_l3 k v0 (IntKind.i64.wrap (((BitVec.ofInt IntKind.i64.bits (IntKind.i64.wrap ((IntKind.i64.wrap ((IntKind.i64.wrap (v3 * (101 : Int))) + (IntKind.i64.wrap (v0.getD v4.toNat (0 : Int))))) + (7 : Int))) &&& BitVec.ofInt IntKind.i64.bits (1073741823 : Int)).toNat : Int))) (IntKind.i64.wrap (v4 + (1 : Int))))
        else (none))
      else (none))
    else (some (v0, ((0 : Int), v3))))
  else (some (v0, ((0 : Int), v3))) := by kernel_rfl
theorem s_l01Byte_eq (k : Nat) (x0 : (List Int) × Int × Int) : s_l01Byte (k + 1) x0 =
  bif decide (x0.2.1 < (x0.1.length : Int)) then
    (bif decide (0 ≤ x0.2.1) then
      (bif decide (x0.2.1 < (x0.1.length : Int)) then
        (some ((IntKind.i64.wrap (((BitVec.ofInt IntKind.i64.bits (IntKind.i64.wrap ((IntKind.i64.wrap (((BitVec.ofInt IntKind.i64.bits (IntKind.i64.wrap (((BitVec.ofInt IntKind.i64.bits ((IntKind.i64.wrap ((IntKind.i64.wrap (x0.2.2 * (6364136223846793005 : Int))) + (1442695040888963407 : Int))).fdiv (2 ^ (min 33 IntKind.i64.bits))) ^^^ BitVec.ofInt IntKind.i64.bits ((IntKind.i64.wrap ((IntKind.i64.wrap (x0.2.2 * (6364136223846793005 : Int))) + (1442695040888963407 : Int))).fdiv (2 ^ (min 45 IntKind.i64.bits)))).toNat : Int))) &&& BitVec.ofInt IntKind.i64.bits (255 : Int)).toNat : Int))) + (IntKind.i64.wrap (x0.1.getD x0.2.1.toNat (0 : Int))))) &&& BitVec.ofInt IntKind.i64.bits (255 : Int)).toNat : Int))), (x0.1, ((IntKind.i64.wrap (x0.2.1 + (1 : Int))), (IntKind.i64.wrap ((IntKind.i64.wrap (x0.2.2 * (6364136223846793005 : Int))) + (1442695040888963407 : Int)))))))
      else (none))
    else (none))
  else (some ((IntKind.i64.wrap (((BitVec.ofInt IntKind.i64.bits (IntKind.i64.wrap (((BitVec.ofInt IntKind.i64.bits ((IntKind.i64.wrap ((IntKind.i64.wrap (x0.2.2 * (6364136223846793005 : Int))) + (1442695040888963407 : Int))).fdiv (2 ^ (min 33 IntKind.i64.bits))) ^^^ BitVec.ofInt IntKind.i64.bits ((IntKind.i64.wrap ((IntKind.i64.wrap (x0.2.2 * (6364136223846793005 : Int))) + (1442695040888963407 : Int))).fdiv (2 ^ (min 45 IntKind.i64.bits)))).toNat : Int))) &&& BitVec.ofInt IntKind.i64.bits (255 : Int)).toNat : Int))), (x0.1, (x0.2.1, (IntKind.i64.wrap ((IntKind.i64.wrap (x0.2.2 * (6364136223846793005 : Int))) + (1442695040888963407 : Int))))))) := by kernel_rfl
theorem s_l01Below_eq (k : Nat) (x0 : (List Int) × Int × Int) (x1 : Int) : s_l01Below (k + 1) (x0, x1) =
  bif decide (x1 ≤ (0 : Int)) then
    (some ((0 : Int), x0))
  else (bif decide (x1 ≤ (256 : Int)) then
      ((s_l01Byte k x0).bind fun y1 =>
      bif (!(x1 == 0)) then
        (some ((y1.1.tmod x1), y1.2))
      else (none))
    else ((s_l01Byte k x0).bind fun y2 =>
      (s_l01Byte k y2.2).bind fun y3 =>
      (s_l01Byte k y3.2).bind fun y4 =>
      (s_l01Byte k y4.2).bind fun y5 =>
      bif (!(x1 == 0)) then
        (some (((IntKind.i64.wrap ((IntKind.i64.wrap ((IntKind.i64.wrap ((IntKind.i64.wrap (y2.1 * (16777216 : Int))) + (IntKind.i64.wrap (y3.1 * (65536 : Int))))) + (IntKind.i64.wrap (y4.1 * (256 : Int))))) + y5.1)).tmod x1), y5.2))
      else (none))) := by kernel_rfl
theorem s_l02Shuffle_eq (k : Nat) (x0 : (List Int) × Int × Int) (x1 : Int) : s_l02Shuffle (k + 1) (x0, x1) =
  s_l02Shuffle_l3 k x1 (0 : Int) ([] : List Int) x0.1 x0.2.1 x0.2.2 := by kernel_rfl
theorem s_l02Shuffle_l3_eq (k : Nat) (v1 : Int) (v6 : Int) (o100005 : List Int) (o500000_0 : List Int) (o500000_1 : Int) (o500000_2 : Int) : s_l02Shuffle_l3 (k + 1) v1 v6 o100005 o500000_0 o500000_1 o500000_2 =
  bif decide (v6 < v1) then
    ((s_l01Below k ((o500000_0, (o500000_1, o500000_2)), (IntKind.i64.wrap (v6 + (1 : Int))))).bind fun y1 =>
    bif decide (o100005.length + [v6].length ≤ rowMax) then
      (bif decide (0 ≤ y1.1) then
        (bif decide (y1.1 < ((o100005 ++ [v6]).length : Int)) then
          (bif decide (y1.1.toNat < (o100005 ++ [v6]).length) then
            (bif decide (0 ≤ v6) then
              (bif decide (v6 < ((o100005 ++ [v6]).length : Int)) then
                (bif decide (v6.toNat < (o100005 ++ [v6]).length) then
                  (bif decide (0 ≤ y1.1) then
                    (bif decide (y1.1 < (((o100005 ++ [v6]).set v6.toNat ((o100005 ++ [v6]).getD y1.1.toNat (0 : Int))).length : Int)) then
                      (bif decide (y1.1.toNat < ((o100005 ++ [v6]).set v6.toNat ((o100005 ++ [v6]).getD y1.1.toNat (0 : Int))).length) then
                        (s_l02Shuffle_l3 k v1 (IntKind.i64.wrap (v6 + (1 : Int))) (((o100005 ++ [v6]).set v6.toNat ((o100005 ++ [v6]).getD y1.1.toNat (0 : Int))).set y1.1.toNat v6) y1.2.1 y1.2.2.1 y1.2.2.2)
                      else (none))
                    else (none))
                  else (none))
                else (none))
              else (none))
            else (none))
          else (none))
        else (none))
      else (none))
    else (none))
  else (some (o100005, (o500000_0, (o500000_1, o500000_2)))) := by kernel_rfl
theorem s_l01Once_eq (k : Nat) (x0 : (List Int) × Int × Int) (x1 : Int) : s_l01Once (k + 1) (x0, x1) =
  (s_l01Below k (x0, x1)).bind fun y1 =>
  some ((y1.1 == (0 : Int)), y1.2) := by kernel_rfl
theorem s_l02Draw_eq (k : Nat) (x0 : (List Int) × Int × Int) (x1 : Int) : s_l02Draw (k + 1) (x0, x1) =
  (s_l01Below k (x0, x1)).bind fun y1 =>
  (s_l02Shuffle k (y1.2, (IntKind.i64.wrap ((1 : Int) + y1.1)))).bind fun y2 =>
  (s_l01Once k (y2.2, (2 : Int))).bind fun y3 =>
  bif y3.1 then
    (s_l02Draw_l4 k (y2.1.length : Int) (0 : Int) y2.1 y3.2.1 y3.2.2.1 y3.2.2.2)
  else (some (y2.1, y3.2)) := by kernel_rfl
theorem s_l02Draw_l4_eq (k : Nat) (v16 : Int) (v17 : Int) (o100005 : List Int) (o500000_0 : List Int) (o500000_1 : Int) (o500000_2 : Int) : s_l02Draw_l4 (k + 1) v16 v17 o100005 o500000_0 o500000_1 o500000_2 =
  bif decide (v17 < v16) then
    ((s_l01Once k ((o500000_0, (o500000_1, o500000_2)), (3 : Int))).bind fun y1 =>
    bif y1.1 then
      (bif decide (0 ≤ v17) then
        (bif decide (v17 < (o100005.length : Int)) then
          (bif decide (v17.toNat < o100005.length) then
            (bif decide (0 ≤ v17) then
              (bif decide (v17 < (o100005.length : Int)) then
                (bif decide (v17.toNat < o100005.length) then
                  (s_l02Draw_l4 k v16 (IntKind.i64.wrap (v17 + (1 : Int))) (o100005.set v17.toNat (IntKind.i64.wrap ((-1 : Int) - (o100005.getD v17.toNat (0 : Int))))) y1.2.1 y1.2.2.1 y1.2.2.2)
                else (none))
              else (none))
            else (none))
          else (none))
        else (none))
      else (none))
    else (s_l02Draw_l4 k v16 (IntKind.i64.wrap (v17 + (1 : Int))) o100005 y1.2.1 y1.2.2.1 y1.2.2.2))
  else (some (o100005, (o500000_0, (o500000_1, o500000_2)))) := by kernel_rfl
theorem s_l01In_eq (k : Nat) (x0 : Int) (x1 : Int) (x2 : Int) : s_l01In (k + 1) (x0, x1, x2) =
  bif decide (x0 ≥ x1) then
    (some (decide (x0 ≤ x2)))
  else (some false) := by kernel_rfl
theorem s_CardOf_eq (k : Nat) (x0 : Int) : s_CardOf (k + 1) x0 =
  (s_l01In k (x0, ((0 : Int), (11 : Int)))).bind fun y1 =>
  bif y1 then
    (some x0)
  else ((s_l01In k (x0, ((-12 : Int), (-1 : Int)))).bind fun y2 =>
    bif y2 then
      (some (IntKind.i64.wrap ((-1 : Int) - x0)))
    else (some (-1 : Int))) := by kernel_rfl
theorem s_l02Has_eq (k : Nat) (x0 : List Int) (x1 : Int) : s_l02Has (k + 1) (x0, x1) =
  s_l02Has_l2 k x1 x0 (x0.length : Int) (0 : Int) := by kernel_rfl
theorem s_l02Has_l2_eq (k : Nat) (v1 : Int) (v7 : List Int) (v8 : Int) (v9 : Int) : s_l02Has_l2 (k + 1) v1 v7 v8 v9 =
  bif decide (v9 < v8) then
    (bif decide (0 ≤ v9) then
      (bif decide (v9 < (v7.length : Int)) then
        (bif ((v7.getD v9.toNat (0 : Int)) == v1) then
          (some true)
        else (s_l02Has_l2 k v1 v7 v8 (IntKind.i64.wrap (v9 + (1 : Int)))))
      else (none))
    else (none))
  else (some false) := by kernel_rfl
theorem s_PacketOk_eq (k : Nat) (x0 : List Int) : s_PacketOk (k + 1) x0 =
  bif decide ((x0.length : Int) > (12 : Int)) then
    (some false)
  else (s_PacketOk_l5 k x0 (x0.length : Int) (0 : Int) ([] : List Int)) := by kernel_rfl
theorem s_PacketOk_l5_eq (k : Nat) (v11 : List Int) (v12 : Int) (v13 : Int) (o100003 : List Int) : s_PacketOk_l5 (k + 1) v11 v12 v13 o100003 =
  bif decide (v13 < v12) then
    (bif decide (0 ≤ v13) then
      (bif decide (v13 < (v11.length : Int)) then
        ((s_CardOf k (v11.getD v13.toNat (0 : Int))).bind fun y1 =>
        bif decide (y1 < (0 : Int)) then
          (some false)
        else ((s_l02Has k (o100003, y1)).bind fun y2 =>
          bif y2 then
            (some false)
          else (bif decide (o100003.length + [y1].length ≤ rowMax) then
              (s_PacketOk_l5 k v11 v12 (IntKind.i64.wrap (v13 + (1 : Int))) (o100003 ++ [y1]))
            else (none))))
      else (none))
    else (none))
  else (some true) := by kernel_rfl
theorem s_l05Ok_eq (k : Nat) (x0 : List Int) (x1 : Int) : s_l05Ok (k + 1) (x0, x1) =
  (s_PacketOk k x0).bind fun y1 =>
  bif (!y1) then
    (some false)
  else (bif ((x0.length : Int) == (0 : Int)) then
      (some false)
    else ((s_l01In k (x1, ((0 : Int), (4 : Int)))).bind fun y2 =>
      bif (!y2) then
        (some false)
      else (bif (!(x1 == (3 : Int))) then
          (bif (!(x1 == (2 : Int))) then
            (some true)
          else (some (decide ((x0.length : Int) ≤ (11 : Int)))))
        else (bif decide ((x0.length : Int) ≥ (2 : Int)) then
            (bif (!(x1 == (2 : Int))) then
              (some true)
            else (some (decide ((x0.length : Int) ≤ (11 : Int)))))
          else (some false))))) := by kernel_rfl
theorem s_TurnCard_eq (k : Nat) (x0 : Int) : s_TurnCard (k + 1) x0 =
  (s_CardOf k x0).bind fun y1 =>
  bif decide (y1 < (0 : Int)) then
    (some x0)
  else (some (IntKind.i64.wrap ((-1 : Int) - x0))) := by kernel_rfl
theorem s_l04Back_eq (k : Nat) (x0 : List Int) (x1 : Int) (x2 : Bool) : s_l04Back (k + 1) (x0, x1, x2) =
  s_l04Back_l3 k x0 x1 x2 (IntKind.i64.wrap (x1 - (1 : Int))) ([] : List Int) := by kernel_rfl
theorem s_l04Back_l3_eq (k : Nat) (v0 : List Int) (v1 : Int) (v2 : Bool) (v8 : Int) (o100007 : List Int) : s_l04Back_l3 (k + 1) v0 v1 v2 v8 o100007 =
  bif decide (v8 ≥ (0 : Int)) then
    (bif v2 then
      (bif decide (0 ≤ v8) then
        (bif decide (v8 < (v0.length : Int)) then
          ((s_TurnCard k (v0.getD v8.toNat (0 : Int))).bind fun y1 =>
          bif decide (o100007.length + [y1].length ≤ rowMax) then
            (s_l04Back_l3 k v0 v1 v2 (IntKind.i64.wrap (v8 - (1 : Int))) (o100007 ++ [y1]))
          else (none))
        else (none))
      else (none))
    else (bif decide (0 ≤ v8) then
        (bif decide (v8 < (v0.length : Int)) then
          (bif decide (o100007.length + [(v0.getD v8.toNat (0 : Int))].length ≤ rowMax) then
            (s_l04Back_l3 k v0 v1 v2 (IntKind.i64.wrap (v8 - (1 : Int))) (o100007 ++ [(v0.getD v8.toNat (0 : Int))]))
          else (none))
        else (none))
      else (none)))
  else (bif decide (0 ≤ v1) then
      (bif decide (v1 ≤ (v0.length : Int)) then
        (bif decide ((v0.length : Int) ≤ (v0.length : Int)) then
          (bif decide (o100007.length + ((v0.take ((v0.length : Int)).toNat).drop v1.toNat).length ≤ rowMax) then
            (some (o100007 ++ ((v0.take ((v0.length : Int)).toNat).drop v1.toNat)))
          else (none))
        else (none))
      else (none))
    else (none)) := by kernel_rfl
theorem s_l04Faro_eq (k : Nat) (x0 : List Int) (x1 : Int) : s_l04Faro (k + 1) (x0, x1) =
  bif decide (0 ≤ (IntKind.i64.wrap ((x0.length : Int).tdiv (2 : Int)))) then
    (bif decide ((IntKind.i64.wrap ((x0.length : Int).tdiv (2 : Int))) ≤ (x0.length : Int)) then
      (bif decide (0 ≤ (IntKind.i64.wrap ((x0.length : Int).tdiv (2 : Int)))) then
        (bif decide ((IntKind.i64.wrap ((x0.length : Int).tdiv (2 : Int))) ≤ (x0.length : Int)) then
          (bif decide ((x0.length : Int) ≤ (x0.length : Int)) then
            (s_l04Faro_l4 k x1 ((x0.take (IntKind.i64.wrap ((x0.length : Int).tdiv (2 : Int))).toNat).drop 0) ((x0.take ((x0.length : Int)).toNat).drop (IntKind.i64.wrap ((x0.length : Int).tdiv (2 : Int))).toNat) ([] : List Int))
          else (none))
        else (none))
      else (none))
    else (none))
  else (none) := by kernel_rfl
theorem s_l04Faro_l4_eq (k : Nat) (v1 : Int) (v5 : List Int) (v6 : List Int) (o100007 : List Int) : s_l04Faro_l4 (k + 1) v1 v5 v6 o100007 =
  bif decide ((v5.length : Int) > (0 : Int)) then
    (bif ((v6.length : Int) == (0 : Int)) then
      (bif decide ((0 : Int) < (v5.length : Int)) then
        (bif decide (o100007.length + [(v5.getD 0 (0 : Int))].length ≤ rowMax) then
          (bif decide ((1 : Int) ≤ (v5.length : Int)) then
            (bif decide ((v5.length : Int) ≤ (v5.length : Int)) then
              (s_l04Faro_l4 k v1 ((v5.take ((v5.length : Int)).toNat).drop 1) v6 (o100007 ++ [(v5.getD 0 (0 : Int))]))
            else (none))
          else (none))
        else (none))
      else (none))
    else (bif decide ((v5.length : Int) > (0 : Int)) then
        (bif (((o100007.length : Int).tmod (2 : Int)) == v1) then
          (bif decide ((0 : Int) < (v5.length : Int)) then
            (bif decide (o100007.length + [(v5.getD 0 (0 : Int))].length ≤ rowMax) then
              (bif decide ((1 : Int) ≤ (v5.length : Int)) then
                (bif decide ((v5.length : Int) ≤ (v5.length : Int)) then
                  (s_l04Faro_l4 k v1 ((v5.take ((v5.length : Int)).toNat).drop 1) v6 (o100007 ++ [(v5.getD 0 (0 : Int))]))
                else (none))
              else (none))
            else (none))
          else (none))
        else (bif decide ((0 : Int) < (v6.length : Int)) then
            (bif decide (o100007.length + [(v6.getD 0 (0 : Int))].length ≤ rowMax) then
              (bif decide ((1 : Int) ≤ (v6.length : Int)) then
                (bif decide ((v6.length : Int) ≤ (v6.length : Int)) then
                  (s_l04Faro_l4 k v1 v5 ((v6.take ((v6.length : Int)).toNat).drop 1) (o100007 ++ [(v6.getD 0 (0 : Int))]))
                else (none))
              else (none))
            else (none))
          else (none)))
      else (bif decide ((0 : Int) < (v6.length : Int)) then
          (bif decide (o100007.length + [(v6.getD 0 (0 : Int))].length ≤ rowMax) then
            (bif decide ((1 : Int) ≤ (v6.length : Int)) then
              (bif decide ((v6.length : Int) ≤ (v6.length : Int)) then
                (s_l04Faro_l4 k v1 v5 ((v6.take ((v6.length : Int)).toNat).drop 1) (o100007 ++ [(v6.getD 0 (0 : Int))]))
              else (none))
            else (none))
          else (none))
        else (none))))
  else (bif decide ((v6.length : Int) > (0 : Int)) then
      (bif ((v6.length : Int) == (0 : Int)) then
        (bif decide ((0 : Int) < (v5.length : Int)) then
          (bif decide (o100007.length + [(v5.getD 0 (0 : Int))].length ≤ rowMax) then
            (bif decide ((1 : Int) ≤ (v5.length : Int)) then
              (bif decide ((v5.length : Int) ≤ (v5.length : Int)) then
                (s_l04Faro_l4 k v1 ((v5.take ((v5.length : Int)).toNat).drop 1) v6 (o100007 ++ [(v5.getD 0 (0 : Int))]))
              else (none))
            else (none))
          else (none))
        else (none))
      else (bif decide ((v5.length : Int) > (0 : Int)) then
          (bif (((o100007.length : Int).tmod (2 : Int)) == v1) then
            (bif decide ((0 : Int) < (v5.length : Int)) then
              (bif decide (o100007.length + [(v5.getD 0 (0 : Int))].length ≤ rowMax) then
                (bif decide ((1 : Int) ≤ (v5.length : Int)) then
                  (bif decide ((v5.length : Int) ≤ (v5.length : Int)) then
                    (s_l04Faro_l4 k v1 ((v5.take ((v5.length : Int)).toNat).drop 1) v6 (o100007 ++ [(v5.getD 0 (0 : Int))]))
                  else (none))
                else (none))
              else (none))
            else (none))
          else (bif decide ((0 : Int) < (v6.length : Int)) then
              (bif decide (o100007.length + [(v6.getD 0 (0 : Int))].length ≤ rowMax) then
                (bif decide ((1 : Int) ≤ (v6.length : Int)) then
                  (bif decide ((v6.length : Int) ≤ (v6.length : Int)) then
                    (s_l04Faro_l4 k v1 v5 ((v6.take ((v6.length : Int)).toNat).drop 1) (o100007 ++ [(v6.getD 0 (0 : Int))]))
                  else (none))
                else (none))
              else (none))
            else (none)))
        else (bif decide ((0 : Int) < (v6.length : Int)) then
            (bif decide (o100007.length + [(v6.getD 0 (0 : Int))].length ≤ rowMax) then
              (bif decide ((1 : Int) ≤ (v6.length : Int)) then
                (bif decide ((v6.length : Int) ≤ (v6.length : Int)) then
                  (s_l04Faro_l4 k v1 v5 ((v6.take ((v6.length : Int)).toNat).drop 1) (o100007 ++ [(v6.getD 0 (0 : Int))]))
                else (none))
              else (none))
            else (none))
          else (none))))
    else (some o100007)) := by kernel_rfl
theorem s_l04Monge_eq (k : Nat) (x0 : List Int) (x1 : Int) : s_l04Monge (k + 1) (x0, x1) =
  s_l04Monge_l3 k x1 x0 (x0.length : Int) (0 : Int) ([] : List Int) := by kernel_rfl
theorem s_l04Monge_l3_eq (k : Nat) (v1 : Int) (v9 : List Int) (v10 : Int) (v11 : Int) (o100005 : List Int) : s_l04Monge_l3 (k + 1) v1 v9 v10 v11 o100005 =
  bif decide (v11 < v10) then
    (bif decide (0 ≤ v11) then
      (bif decide (v11 < (v9.length : Int)) then
        (bif (v11 == (0 : Int)) then
          (bif decide (o100005.length + [(v9.getD v11.toNat (0 : Int))].length ≤ rowMax) then
            (s_l04Monge_l3 k v1 v9 v10 (IntKind.i64.wrap (v11 + (1 : Int))) (o100005 ++ [(v9.getD v11.toNat (0 : Int))]))
          else (none))
        else (bif ((v11.tmod (2 : Int)) == v1) then
            (bif decide (o100005.length + [(v9.getD v11.toNat (0 : Int))].length ≤ rowMax) then
              (s_l04Monge_l3 k v1 v9 v10 (IntKind.i64.wrap (v11 + (1 : Int))) (o100005 ++ [(v9.getD v11.toNat (0 : Int))]))
            else (none))
          else (bif decide ([(v9.getD v11.toNat (0 : Int))].length + o100005.length ≤ rowMax) then
              (s_l04Monge_l3 k v1 v9 v10 (IntKind.i64.wrap (v11 + (1 : Int))) ([(v9.getD v11.toNat (0 : Int))] ++ o100005))
            else (none))))
      else (none))
    else (none))
  else (some o100005) := by kernel_rfl
theorem s_l04Milk_eq (k : Nat) (x0 : List Int) : s_l04Milk (k + 1) x0 =
  s_l04Milk_l2 k x0 ([] : List Int) := by kernel_rfl
theorem s_l04Milk_l2_eq (k : Nat) (v0 : List Int) (o100003 : List Int) : s_l04Milk_l2 (k + 1) v0 o100003 =
  bif decide ((v0.length : Int) > (1 : Int)) then
    (bif decide ((0 : Int) < (v0.length : Int)) then
      (bif decide (0 ≤ (IntKind.i64.wrap ((v0.length : Int) - (1 : Int)))) then
        (bif decide ((IntKind.i64.wrap ((v0.length : Int) - (1 : Int))) < (v0.length : Int)) then
          (bif decide ([(v0.getD 0 (0 : Int)), (v0.getD (IntKind.i64.wrap ((v0.length : Int) - (1 : Int))).toNat (0 : Int))].length + o100003.length ≤ rowMax) then
            (bif decide ((1 : Int) ≤ (IntKind.i64.wrap ((v0.length : Int) - (1 : Int)))) then
              (bif decide ((IntKind.i64.wrap ((v0.length : Int) - (1 : Int))) ≤ (v0.length : Int)) then
                (s_l04Milk_l2 k ((v0.take (IntKind.i64.wrap ((v0.length : Int) - (1 : Int))).toNat).drop 1) ([(v0.getD 0 (0 : Int)), (v0.getD (IntKind.i64.wrap ((v0.length : Int) - (1 : Int))).toNat (0 : Int))] ++ o100003))
              else (none))
            else (none))
          else (none))
        else (none))
      else (none))
    else (none))
  else (bif decide (([] : List Int).length + v0.length ≤ rowMax) then
      (bif decide ((([] : List Int) ++ v0).length + o100003.length ≤ rowMax) then
        (some ((([] : List Int) ++ v0) ++ o100003))
      else (none))
    else (none)) := by kernel_rfl
theorem s_l04Duck_eq (k : Nat) (x0 : List Int) (x1 : Int) : s_l04Duck (k + 1) (x0, x1) =
  bif decide (([] : List Int).length + x0.length ≤ rowMax) then
    (s_l04Duck_l4 k x1 (([] : List Int) ++ x0) ([] : List Int))
  else (none) := by kernel_rfl
theorem s_l04Duck_l4_eq (k : Nat) (v7 : Int) (o100005 : List Int) (o100006 : List Int) : s_l04Duck_l4 (k + 1) v7 o100005 o100006 =
  bif decide ((o100005.length : Int) > (1 : Int)) then
    (bif decide ((0 : Int) < (o100005.length : Int)) then
      (bif decide (0 < o100005.length) then
        (bif decide ((1 : Int) ≤ (o100005.length : Int)) then
          (bif decide ((o100005.length : Int) ≤ (o100005.length : Int)) then
            (bif ((v7.tmod (2 : Int)) == (1 : Int)) then
              (bif decide ([(o100005.getD 0 (0 : Int))].length + o100006.length ≤ rowMax) then
                (s_l04Duck_l4 k (IntKind.i64.wrap (v7 + (1 : Int))) ((o100005.take ((o100005.length : Int)).toNat).drop 1) ([(o100005.getD 0 (0 : Int))] ++ o100006))
              else (none))
            else (bif decide (((o100005.take ((o100005.length : Int)).toNat).drop 1).length + [(o100005.getD 0 (0 : Int))].length ≤ rowMax) then
                (s_l04Duck_l4 k (IntKind.i64.wrap (v7 + (1 : Int))) (((o100005.take ((o100005.length : Int)).toNat).drop 1) ++ [(o100005.getD 0 (0 : Int))]) o100006)
              else (none)))
          else (none))
        else (none))
      else (none))
    else (none))
  else (bif decide ((0 : Int) < (o100005.length : Int)) then
      (bif decide (0 < o100005.length) then
        (bif decide ([(o100005.getD 0 (0 : Int))].length + o100006.length ≤ rowMax) then
          (some ([(o100005.getD 0 (0 : Int))] ++ o100006))
        else (none))
      else (none))
    else (none)) := by kernel_rfl
theorem s_l04Do_eq (k : Nat) (x0 : List Int) (x1 : Int × Int) : s_l04Do (k + 1) (x0, x1) =
  bif (x1.1 == (1 : Int)) then
    (bif decide (0 ≤ x1.2) then
      (bif decide (x1.2 ≤ (x0.length : Int)) then
        (bif decide ((x0.length : Int) ≤ (x0.length : Int)) then
          (bif decide (([] : List Int).length + ((x0.take ((x0.length : Int)).toNat).drop x1.2.toNat).length ≤ rowMax) then
            (bif decide (0 ≤ x1.2) then
              (bif decide (x1.2 ≤ (x0.length : Int)) then
                (bif decide ((([] : List Int) ++ ((x0.take ((x0.length : Int)).toNat).drop x1.2.toNat)).length + ((x0.take x1.2.toNat).drop 0).length ≤ rowMax) then
                  (some ((([] : List Int) ++ ((x0.take ((x0.length : Int)).toNat).drop x1.2.toNat)) ++ ((x0.take x1.2.toNat).drop 0)))
                else (none))
              else (none))
            else (none))
          else (none))
        else (none))
      else (none))
    else (none))
  else (bif (x1.1 == (2 : Int)) then
      ((s_l04Back k (x0, (x1.2, false))).bind fun y1 =>
      some y1)
    else (bif (x1.1 == (3 : Int)) then
        ((s_l04Back k (x0, (x1.2, true))).bind fun y2 =>
        some y2)
      else (bif (x1.1 == (4 : Int)) then
          ((s_l04Faro k (x0, x1.2)).bind fun y3 =>
          some y3)
        else (bif (x1.1 == (5 : Int)) then
            ((s_l04Monge k (x0, x1.2)).bind fun y4 =>
            some y4)
          else (bif (x1.1 == (6 : Int)) then
              ((s_l04Milk k x0).bind fun y5 =>
              some y5)
            else (bif (x1.1 == (7 : Int)) then
                ((s_l04Duck k (x0, x1.2)).bind fun y6 =>
                some y6)
              else (bif (x1.1 == (8 : Int)) then
                  (bif decide (([] : List Int).length + x0.length ≤ rowMax) then
                    (bif decide (0 ≤ x1.2) then
                      (bif decide (x1.2 < (x0.length : Int)) then
                        ((s_TurnCard k (x0.getD x1.2.toNat (0 : Int))).bind fun y7 =>
                        bif decide (0 ≤ x1.2) then
                          (bif decide (x1.2 < ((([] : List Int) ++ x0).length : Int)) then
                            (bif decide (x1.2.toNat < (([] : List Int) ++ x0).length) then
                              (some ((([] : List Int) ++ x0).set x1.2.toNat y7))
                            else (none))
                          else (none))
                        else (none))
                      else (none))
                    else (none))
                  else (none))
                else (bif decide (0 ≤ x1.2) then
                    (bif decide (x1.2 ≤ (x0.length : Int)) then
                      (bif decide (([] : List Int).length + ((x0.take x1.2.toNat).drop 0).length ≤ rowMax) then
                        (bif decide (0 ≤ (IntKind.i64.wrap (x1.2 + (1 : Int)))) then
                          (bif decide ((IntKind.i64.wrap (x1.2 + (1 : Int))) ≤ (x0.length : Int)) then
                            (bif decide ((x0.length : Int) ≤ (x0.length : Int)) then
                              (bif decide ((([] : List Int) ++ ((x0.take x1.2.toNat).drop 0)).length + ((x0.take ((x0.length : Int)).toNat).drop (IntKind.i64.wrap (x1.2 + (1 : Int))).toNat).length ≤ rowMax) then
                                (bif decide (0 ≤ x1.2) then
                                  (bif decide (x1.2 < (x0.length : Int)) then
                                    (bif decide (((([] : List Int) ++ ((x0.take x1.2.toNat).drop 0)) ++ ((x0.take ((x0.length : Int)).toNat).drop (IntKind.i64.wrap (x1.2 + (1 : Int))).toNat)).length + [(x0.getD x1.2.toNat (0 : Int))].length ≤ rowMax) then
                                      (some (((([] : List Int) ++ ((x0.take x1.2.toNat).drop 0)) ++ ((x0.take ((x0.length : Int)).toNat).drop (IntKind.i64.wrap (x1.2 + (1 : Int))).toNat)) ++ [(x0.getD x1.2.toNat (0 : Int))]))
                                    else (none))
                                  else (none))
                                else (none))
                              else (none))
                            else (none))
                          else (none))
                        else (none))
                      else (none))
                    else (none))
                  else (none))))))))) := by kernel_rfl
theorem s_l05Cuts_eq (k : Nat) (x0 : List Int) : s_l05Cuts (k + 1) x0 =
  s_l05Cuts_l3 k x0 (x0.length : Int) (0 : Int) ([] : List (List Int)) := by kernel_rfl
theorem s_l05Cuts_l3_eq (k : Nat) (v0 : List Int) (v7 : Int) (v8 : Int) (o100003 : List (List Int)) : s_l05Cuts_l3 (k + 1) v0 v7 v8 o100003 =
  bif decide (v8 < v7) then
    ((s_l04Do k (v0, ((1 : Int), v8))).bind fun y1 =>
    bif decide (o100003.length + [y1].length ≤ rowMax) then
      (s_l05Cuts_l3 k v0 v7 (IntKind.i64.wrap (v8 + (1 : Int))) (o100003 ++ [y1]))
    else (none))
  else (some o100003) := by kernel_rfl
theorem s_l05Weave_eq (k : Nat) (x0 : List (List Int)) (x1 : List Int) (x2 : List Int) (x3 : List Int) : s_l05Weave (k + 1) (x0, x1, x2, x3) =
  bif ((x2.length : Int) == (0 : Int)) then
    (bif ((x3.length : Int) == (0 : Int)) then
      (bif decide (x0.length + [x1].length ≤ rowMax) then
        (some (x0 ++ [x1]))
      else (none))
    else (bif decide ((x2.length : Int) > (0 : Int)) then
        (bif decide (([] : List Int).length + x1.length ≤ rowMax) then
          (bif decide ((0 : Int) < (x2.length : Int)) then
            (bif decide ((([] : List Int) ++ x1).length + [(x2.getD 0 (0 : Int))].length ≤ rowMax) then
              (bif decide ((1 : Int) ≤ (x2.length : Int)) then
                (bif decide ((x2.length : Int) ≤ (x2.length : Int)) then
                  ((s_l05Weave k (x0, (((([] : List Int) ++ x1) ++ [(x2.getD 0 (0 : Int))]), (((x2.take ((x2.length : Int)).toNat).drop 1), x3)))).bind fun y1 =>
                  bif decide ((x3.length : Int) > (0 : Int)) then
                    (bif decide (([] : List Int).length + x1.length ≤ rowMax) then
                      (bif decide ((0 : Int) < (x3.length : Int)) then
                        (bif decide ((([] : List Int) ++ x1).length + [(x3.getD 0 (0 : Int))].length ≤ rowMax) then
                          (bif decide ((1 : Int) ≤ (x3.length : Int)) then
                            (bif decide ((x3.length : Int) ≤ (x3.length : Int)) then
                              ((s_l05Weave k (y1, (((([] : List Int) ++ x1) ++ [(x3.getD 0 (0 : Int))]), (x2, ((x3.take ((x3.length : Int)).toNat).drop 1))))).bind fun y2 =>
                              some y2)
                            else (none))
                          else (none))
                        else (none))
                      else (none))
                    else (none))
                  else (some y1))
                else (none))
              else (none))
            else (none))
          else (none))
        else (none))
      else (bif decide ((x3.length : Int) > (0 : Int)) then
          (bif decide (([] : List Int).length + x1.length ≤ rowMax) then
            (bif decide ((0 : Int) < (x3.length : Int)) then
              (bif decide ((([] : List Int) ++ x1).length + [(x3.getD 0 (0 : Int))].length ≤ rowMax) then
                (bif decide ((1 : Int) ≤ (x3.length : Int)) then
                  (bif decide ((x3.length : Int) ≤ (x3.length : Int)) then
                    ((s_l05Weave k (x0, (((([] : List Int) ++ x1) ++ [(x3.getD 0 (0 : Int))]), (x2, ((x3.take ((x3.length : Int)).toNat).drop 1))))).bind fun y3 =>
                    some y3)
                  else (none))
                else (none))
              else (none))
            else (none))
          else (none))
        else (some x0))))
  else (bif decide ((x2.length : Int) > (0 : Int)) then
      (bif decide (([] : List Int).length + x1.length ≤ rowMax) then
        (bif decide ((0 : Int) < (x2.length : Int)) then
          (bif decide ((([] : List Int) ++ x1).length + [(x2.getD 0 (0 : Int))].length ≤ rowMax) then
            (bif decide ((1 : Int) ≤ (x2.length : Int)) then
              (bif decide ((x2.length : Int) ≤ (x2.length : Int)) then
                ((s_l05Weave k (x0, (((([] : List Int) ++ x1) ++ [(x2.getD 0 (0 : Int))]), (((x2.take ((x2.length : Int)).toNat).drop 1), x3)))).bind fun y4 =>
                bif decide ((x3.length : Int) > (0 : Int)) then
                  (bif decide (([] : List Int).length + x1.length ≤ rowMax) then
                    (bif decide ((0 : Int) < (x3.length : Int)) then
                      (bif decide ((([] : List Int) ++ x1).length + [(x3.getD 0 (0 : Int))].length ≤ rowMax) then
                        (bif decide ((1 : Int) ≤ (x3.length : Int)) then
                          (bif decide ((x3.length : Int) ≤ (x3.length : Int)) then
                            ((s_l05Weave k (y4, (((([] : List Int) ++ x1) ++ [(x3.getD 0 (0 : Int))]), (x2, ((x3.take ((x3.length : Int)).toNat).drop 1))))).bind fun y5 =>
                            some y5)
                          else (none))
                        else (none))
                      else (none))
                    else (none))
                  else (none))
                else (some y4))
              else (none))
            else (none))
          else (none))
        else (none))
      else (none))
    else (bif decide ((x3.length : Int) > (0 : Int)) then
        (bif decide (([] : List Int).length + x1.length ≤ rowMax) then
          (bif decide ((0 : Int) < (x3.length : Int)) then
            (bif decide ((([] : List Int) ++ x1).length + [(x3.getD 0 (0 : Int))].length ≤ rowMax) then
              (bif decide ((1 : Int) ≤ (x3.length : Int)) then
                (bif decide ((x3.length : Int) ≤ (x3.length : Int)) then
                  ((s_l05Weave k (x0, (((([] : List Int) ++ x1) ++ [(x3.getD 0 (0 : Int))]), (x2, ((x3.take ((x3.length : Int)).toNat).drop 1))))).bind fun y6 =>
                  some y6)
                else (none))
              else (none))
            else (none))
          else (none))
        else (none))
      else (some x0))) := by kernel_rfl
theorem s_l05Of_eq (k : Nat) (x0 : List Int) (x1 : Int) : s_l05Of (k + 1) (x0, x1) =
  bif (x1 == (1 : Int)) then
    ((s_l05Cuts k x0).bind fun y1 =>
    some y1)
  else (bif (x1 == (2 : Int)) then
      (s_l05Of_l7 k x0 (0 : Int) ([] : List (List Int)))
    else (bif (x1 == (3 : Int)) then
        ((s_l04Back k (x0, ((2 : Int), true))).bind fun y2 =>
        (s_l05Cuts k y2).bind fun y3 =>
        some y3)
      else (bif (x1 == (4 : Int)) then
          (s_l05Of_l15 k x0 x0 (x0.length : Int) (0 : Int) ([] : List (List Int)))
        else (bif decide (([] : List (List Int)).length + [x0].length ≤ rowMax) then
            (some (([] : List (List Int)) ++ [x0]))
          else (none))))) := by kernel_rfl
theorem s_l05Of_l7_eq (k : Nat) (v0 : List Int) (v6 : Int) (o100005 : List (List Int)) : s_l05Of_l7 (k + 1) v0 v6 o100005 =
  bif decide (v6 ≤ (v0.length : Int)) then
    (bif decide (0 ≤ v6) then
      (bif decide (v6 ≤ (v0.length : Int)) then
        (bif decide (0 ≤ v6) then
          (bif decide (v6 ≤ (v0.length : Int)) then
            (bif decide ((v0.length : Int) ≤ (v0.length : Int)) then
              ((s_l05Weave k (o100005, (([] : List Int), (((v0.take v6.toNat).drop 0), ((v0.take ((v0.length : Int)).toNat).drop v6.toNat))))).bind fun y1 =>
              s_l05Of_l7 k v0 (IntKind.i64.wrap (v6 + (1 : Int))) y1)
            else (none))
          else (none))
        else (none))
      else (none))
    else (none))
  else (some o100005) := by kernel_rfl
theorem s_l05Of_l15_eq (k : Nat) (v0 : List Int) (v40 : List Int) (v41 : Int) (v42 : Int) (o100005 : List (List Int)) : s_l05Of_l15 (k + 1) v0 v40 v41 v42 o100005 =
  bif decide (v42 < v41) then
    (bif decide (0 ≤ v42) then
      (bif decide (v42 < (v40.length : Int)) then
        (bif decide (0 ≤ v42) then
          (bif decide (v42 ≤ (v0.length : Int)) then
            (bif decide (([] : List Int).length + ((v0.take v42.toNat).drop 0).length ≤ rowMax) then
              (bif decide (0 ≤ (IntKind.i64.wrap (v42 + (1 : Int)))) then
                (bif decide ((IntKind.i64.wrap (v42 + (1 : Int))) ≤ (v0.length : Int)) then
                  (bif decide ((v0.length : Int) ≤ (v0.length : Int)) then
                    (bif decide ((([] : List Int) ++ ((v0.take v42.toNat).drop 0)).length + ((v0.take ((v0.length : Int)).toNat).drop (IntKind.i64.wrap (v42 + (1 : Int))).toNat).length ≤ rowMax) then
                      (bif decide ([(v40.getD v42.toNat (0 : Int))].length + ((([] : List Int) ++ ((v0.take v42.toNat).drop 0)) ++ ((v0.take ((v0.length : Int)).toNat).drop (IntKind.i64.wrap (v42 + (1 : Int))).toNat)).length ≤ rowMax) then
                        (bif decide (o100005.length + ([([(v40.getD v42.toNat (0 : Int))] ++ ((([] : List Int) ++ ((v0.take v42.toNat).drop 0)) ++ ((v0.take ((v0.length : Int)).toNat).drop (IntKind.i64.wrap (v42 + (1 : Int))).toNat)))]).length ≤ rowMax) then
                          (s_l05Of_l15 k v0 v40 v41 (IntKind.i64.wrap (v42 + (1 : Int))) (o100005 ++ ([([(v40.getD v42.toNat (0 : Int))] ++ ((([] : List Int) ++ ((v0.take v42.toNat).drop 0)) ++ ((v0.take ((v0.length : Int)).toNat).drop (IntKind.i64.wrap (v42 + (1 : Int))).toNat)))])))
                        else (none))
                      else (none))
                    else (none))
                  else (none))
                else (none))
              else (none))
            else (none))
          else (none))
        else (none))
      else (none))
    else (none))
  else (some o100005) := by kernel_rfl
theorem s_SamePacket_eq (k : Nat) (x0 : List Int) (x1 : List Int) : s_SamePacket (k + 1) (x0, x1) =
  bif (!((x0.length : Int) == (x1.length : Int))) then
    (some false)
  else (s_SamePacket_l4 k x1 x0 (x0.length : Int) (0 : Int)) := by kernel_rfl
theorem s_SamePacket_l4_eq (k : Nat) (v1 : List Int) (v12 : List Int) (v13 : Int) (v14 : Int) : s_SamePacket_l4 (k + 1) v1 v12 v13 v14 =
  bif decide (v14 < v13) then
    (bif decide (0 ≤ v14) then
      (bif decide (v14 < (v12.length : Int)) then
        (bif decide (0 ≤ v14) then
          (bif decide (v14 < (v1.length : Int)) then
            (bif (!((v12.getD v14.toNat (0 : Int)) == (v1.getD v14.toNat (0 : Int)))) then
              (some false)
            else (s_SamePacket_l4 k v1 v12 v13 (IntKind.i64.wrap (v14 + (1 : Int)))))
          else (none))
        else (none))
      else (none))
    else (none))
  else (some true) := by kernel_rfl
theorem s_l05Less_eq (k : Nat) (x0 : List Int) (x1 : List Int) : s_l05Less (k + 1) (x0, x1) =
  s_l05Less_l2 k x0 x1 x0 (x0.length : Int) (0 : Int) := by kernel_rfl
theorem s_l05Less_l2_eq (k : Nat) (v0 : List Int) (v1 : List Int) (v7 : List Int) (v8 : Int) (v9 : Int) : s_l05Less_l2 (k + 1) v0 v1 v7 v8 v9 =
  bif decide (v9 < v8) then
    (bif decide (0 ≤ v9) then
      (bif decide (v9 < (v7.length : Int)) then
        (bif decide (v9 ≥ (v1.length : Int)) then
          (some false)
        else (bif decide (0 ≤ v9) then
            (bif decide (v9 < (v1.length : Int)) then
              (bif (!((v7.getD v9.toNat (0 : Int)) == (v1.getD v9.toNat (0 : Int)))) then
                (bif decide (0 ≤ v9) then
                  (bif decide (v9 < (v1.length : Int)) then
                    (some (decide ((v7.getD v9.toNat (0 : Int)) < (v1.getD v9.toNat (0 : Int)))))
                  else (none))
                else (none))
              else (s_l05Less_l2 k v0 v1 v7 v8 (IntKind.i64.wrap (v9 + (1 : Int)))))
            else (none))
          else (none)))
      else (none))
    else (none))
  else (some (decide ((v0.length : Int) < (v1.length : Int)))) := by kernel_rfl
theorem s_l05Merge_eq (k : Nat) (x0 : List (List Int)) (x1 : List (List Int)) : s_l05Merge (k + 1) (x0, x1) =
  s_l05Merge_l2 k x0 x1 ([] : List (List Int)) := by kernel_rfl
theorem s_l05Merge_l2_eq (k : Nat) (v0 : List (List Int)) (v1 : List (List Int)) (o450005 : List (List Int)) : s_l05Merge_l2 (k + 1) v0 v1 o450005 =
  bif decide ((v0.length : Int) > (0 : Int)) then
    (bif ((v1.length : Int) == (0 : Int)) then
      (bif decide ((0 : Int) < (v0.length : Int)) then
        (bif decide ((1 : Int) ≤ (v0.length : Int)) then
          (bif decide ((v0.length : Int) ≤ (v0.length : Int)) then
            (bif ((o450005.length : Int) == (0 : Int)) then
              (bif decide (([] : List Int).length + (v0.getD 0 []).length ≤ rowMax) then
                (bif decide (o450005.length + ([(([] : List Int) ++ (v0.getD 0 []))]).length ≤ rowMax) then
                  (s_l05Merge_l2 k ((v0.take ((v0.length : Int)).toNat).drop 1) v1 (o450005 ++ ([(([] : List Int) ++ (v0.getD 0 []))])))
                else (none))
              else (none))
            else (bif decide (0 ≤ (IntKind.i64.wrap ((o450005.length : Int) - (1 : Int)))) then
                (bif decide ((IntKind.i64.wrap ((o450005.length : Int) - (1 : Int))) < (o450005.length : Int)) then
                  (bif decide ((IntKind.i64.wrap ((o450005.length : Int) - (1 : Int))).toNat < o450005.length) then
                    ((s_SamePacket k ((o450005.getD (IntKind.i64.wrap ((o450005.length : Int) - (1 : Int))).toNat []), (v0.getD 0 []))).bind fun y1 =>
                    bif (!y1) then
                      (bif decide (([] : List Int).length + (v0.getD 0 []).length ≤ rowMax) then
                        (bif decide ((o450005.set (IntKind.i64.wrap ((o450005.length : Int) - (1 : Int))).toNat (o450005.getD (IntKind.i64.wrap ((o450005.length : Int) - (1 : Int))).toNat [])).length + ([(([] : List Int) ++ (v0.getD 0 []))]).length ≤ rowMax) then
                          (s_l05Merge_l2 k ((v0.take ((v0.length : Int)).toNat).drop 1) v1 ((o450005.set (IntKind.i64.wrap ((o450005.length : Int) - (1 : Int))).toNat (o450005.getD (IntKind.i64.wrap ((o450005.length : Int) - (1 : Int))).toNat [])) ++ ([(([] : List Int) ++ (v0.getD 0 []))])))
                        else (none))
                      else (none))
                    else (s_l05Merge_l2 k ((v0.take ((v0.length : Int)).toNat).drop 1) v1 (o450005.set (IntKind.i64.wrap ((o450005.length : Int) - (1 : Int))).toNat (o450005.getD (IntKind.i64.wrap ((o450005.length : Int) - (1 : Int))).toNat []))))
                  else (none))
                else (none))
              else (none)))
          else (none))
        else (none))
      else (none))
    else (bif decide ((v0.length : Int) > (0 : Int)) then
        (bif decide ((0 : Int) < (v1.length : Int)) then
          (bif decide ((0 : Int) < (v0.length : Int)) then
            ((s_l05Less k ((v1.getD 0 []), (v0.getD 0 []))).bind fun y2 =>
            bif (!y2) then
              (bif decide ((0 : Int) < (v0.length : Int)) then
                (bif decide ((1 : Int) ≤ (v0.length : Int)) then
                  (bif decide ((v0.length : Int) ≤ (v0.length : Int)) then
                    (bif ((o450005.length : Int) == (0 : Int)) then
                      (bif decide (([] : List Int).length + (v0.getD 0 []).length ≤ rowMax) then
                        (bif decide (o450005.length + ([(([] : List Int) ++ (v0.getD 0 []))]).length ≤ rowMax) then
                          (s_l05Merge_l2 k ((v0.take ((v0.length : Int)).toNat).drop 1) v1 (o450005 ++ ([(([] : List Int) ++ (v0.getD 0 []))])))
                        else (none))
                      else (none))
                    else (bif decide (0 ≤ (IntKind.i64.wrap ((o450005.length : Int) - (1 : Int)))) then
                        (bif decide ((IntKind.i64.wrap ((o450005.length : Int) - (1 : Int))) < (o450005.length : Int)) then
                          (bif decide ((IntKind.i64.wrap ((o450005.length : Int) - (1 : Int))).toNat < o450005.length) then
                            ((s_SamePacket k ((o450005.getD (IntKind.i64.wrap ((o450005.length : Int) - (1 : Int))).toNat []), (v0.getD 0 []))).bind fun y3 =>
                            bif (!y3) then
                              (bif decide (([] : List Int).length + (v0.getD 0 []).length ≤ rowMax) then
                                (bif decide ((o450005.set (IntKind.i64.wrap ((o450005.length : Int) - (1 : Int))).toNat (o450005.getD (IntKind.i64.wrap ((o450005.length : Int) - (1 : Int))).toNat [])).length + ([(([] : List Int) ++ (v0.getD 0 []))]).length ≤ rowMax) then
                                  (s_l05Merge_l2 k ((v0.take ((v0.length : Int)).toNat).drop 1) v1 ((o450005.set (IntKind.i64.wrap ((o450005.length : Int) - (1 : Int))).toNat (o450005.getD (IntKind.i64.wrap ((o450005.length : Int) - (1 : Int))).toNat [])) ++ ([(([] : List Int) ++ (v0.getD 0 []))])))
                                else (none))
                              else (none))
                            else (s_l05Merge_l2 k ((v0.take ((v0.length : Int)).toNat).drop 1) v1 (o450005.set (IntKind.i64.wrap ((o450005.length : Int) - (1 : Int))).toNat (o450005.getD (IntKind.i64.wrap ((o450005.length : Int) - (1 : Int))).toNat []))))
                          else (none))
                        else (none))
                      else (none)))
                  else (none))
                else (none))
              else (none))
            else (bif decide ((0 : Int) < (v1.length : Int)) then
                (bif decide ((1 : Int) ≤ (v1.length : Int)) then
                  (bif decide ((v1.length : Int) ≤ (v1.length : Int)) then
                    (bif ((o450005.length : Int) == (0 : Int)) then
                      (bif decide (([] : List Int).length + (v1.getD 0 []).length ≤ rowMax) then
                        (bif decide (o450005.length + ([(([] : List Int) ++ (v1.getD 0 []))]).length ≤ rowMax) then
                          (s_l05Merge_l2 k v0 ((v1.take ((v1.length : Int)).toNat).drop 1) (o450005 ++ ([(([] : List Int) ++ (v1.getD 0 []))])))
                        else (none))
                      else (none))
                    else (bif decide (0 ≤ (IntKind.i64.wrap ((o450005.length : Int) - (1 : Int)))) then
                        (bif decide ((IntKind.i64.wrap ((o450005.length : Int) - (1 : Int))) < (o450005.length : Int)) then
                          (bif decide ((IntKind.i64.wrap ((o450005.length : Int) - (1 : Int))).toNat < o450005.length) then
                            ((s_SamePacket k ((o450005.getD (IntKind.i64.wrap ((o450005.length : Int) - (1 : Int))).toNat []), (v1.getD 0 []))).bind fun y4 =>
                            bif (!y4) then
                              (bif decide (([] : List Int).length + (v1.getD 0 []).length ≤ rowMax) then
                                (bif decide ((o450005.set (IntKind.i64.wrap ((o450005.length : Int) - (1 : Int))).toNat (o450005.getD (IntKind.i64.wrap ((o450005.length : Int) - (1 : Int))).toNat [])).length + ([(([] : List Int) ++ (v1.getD 0 []))]).length ≤ rowMax) then
                                  (s_l05Merge_l2 k v0 ((v1.take ((v1.length : Int)).toNat).drop 1) ((o450005.set (IntKind.i64.wrap ((o450005.length : Int) - (1 : Int))).toNat (o450005.getD (IntKind.i64.wrap ((o450005.length : Int) - (1 : Int))).toNat [])) ++ ([(([] : List Int) ++ (v1.getD 0 []))])))
                                else (none))
                              else (none))
                            else (s_l05Merge_l2 k v0 ((v1.take ((v1.length : Int)).toNat).drop 1) (o450005.set (IntKind.i64.wrap ((o450005.length : Int) - (1 : Int))).toNat (o450005.getD (IntKind.i64.wrap ((o450005.length : Int) - (1 : Int))).toNat []))))
                          else (none))
                        else (none))
                      else (none)))
                  else (none))
                else (none))
              else (none)))
          else (none))
        else (none))
      else (bif decide ((0 : Int) < (v1.length : Int)) then
          (bif decide ((1 : Int) ≤ (v1.length : Int)) then
            (bif decide ((v1.length : Int) ≤ (v1.length : Int)) then
              (bif ((o450005.length : Int) == (0 : Int)) then
                (bif decide (([] : List Int).length + (v1.getD 0 []).length ≤ rowMax) then
                  (bif decide (o450005.length + ([(([] : List Int) ++ (v1.getD 0 []))]).length ≤ rowMax) then
                    (s_l05Merge_l2 k v0 ((v1.take ((v1.length : Int)).toNat).drop 1) (o450005 ++ ([(([] : List Int) ++ (v1.getD 0 []))])))
                  else (none))
                else (none))
              else (bif decide (0 ≤ (IntKind.i64.wrap ((o450005.length : Int) - (1 : Int)))) then
                  (bif decide ((IntKind.i64.wrap ((o450005.length : Int) - (1 : Int))) < (o450005.length : Int)) then
                    (bif decide ((IntKind.i64.wrap ((o450005.length : Int) - (1 : Int))).toNat < o450005.length) then
                      ((s_SamePacket k ((o450005.getD (IntKind.i64.wrap ((o450005.length : Int) - (1 : Int))).toNat []), (v1.getD 0 []))).bind fun y5 =>
                      bif (!y5) then
                        (bif decide (([] : List Int).length + (v1.getD 0 []).length ≤ rowMax) then
                          (bif decide ((o450005.set (IntKind.i64.wrap ((o450005.length : Int) - (1 : Int))).toNat (o450005.getD (IntKind.i64.wrap ((o450005.length : Int) - (1 : Int))).toNat [])).length + ([(([] : List Int) ++ (v1.getD 0 []))]).length ≤ rowMax) then
                            (s_l05Merge_l2 k v0 ((v1.take ((v1.length : Int)).toNat).drop 1) ((o450005.set (IntKind.i64.wrap ((o450005.length : Int) - (1 : Int))).toNat (o450005.getD (IntKind.i64.wrap ((o450005.length : Int) - (1 : Int))).toNat [])) ++ ([(([] : List Int) ++ (v1.getD 0 []))])))
                          else (none))
                        else (none))
                      else (s_l05Merge_l2 k v0 ((v1.take ((v1.length : Int)).toNat).drop 1) (o450005.set (IntKind.i64.wrap ((o450005.length : Int) - (1 : Int))).toNat (o450005.getD (IntKind.i64.wrap ((o450005.length : Int) - (1 : Int))).toNat []))))
                    else (none))
                  else (none))
                else (none)))
            else (none))
          else (none))
        else (none))))
  else (bif decide ((v1.length : Int) > (0 : Int)) then
      (bif ((v1.length : Int) == (0 : Int)) then
        (bif decide ((0 : Int) < (v0.length : Int)) then
          (bif decide ((1 : Int) ≤ (v0.length : Int)) then
            (bif decide ((v0.length : Int) ≤ (v0.length : Int)) then
              (bif ((o450005.length : Int) == (0 : Int)) then
                (bif decide (([] : List Int).length + (v0.getD 0 []).length ≤ rowMax) then
                  (bif decide (o450005.length + ([(([] : List Int) ++ (v0.getD 0 []))]).length ≤ rowMax) then
                    (s_l05Merge_l2 k ((v0.take ((v0.length : Int)).toNat).drop 1) v1 (o450005 ++ ([(([] : List Int) ++ (v0.getD 0 []))])))
                  else (none))
                else (none))
              else (bif decide (0 ≤ (IntKind.i64.wrap ((o450005.length : Int) - (1 : Int)))) then
                  (bif decide ((IntKind.i64.wrap ((o450005.length : Int) - (1 : Int))) < (o450005.length : Int)) then
                    (bif decide ((IntKind.i64.wrap ((o450005.length : Int) - (1 : Int))).toNat < o450005.length) then
                      ((s_SamePacket k ((o450005.getD (IntKind.i64.wrap ((o450005.length : Int) - (1 : Int))).toNat []), (v0.getD 0 []))).bind fun y6 =>
                      bif (!y6) then
                        (bif decide (([] : List Int).length + (v0.getD 0 []).length ≤ rowMax) then
                          (bif decide ((o450005.set (IntKind.i64.wrap ((o450005.length : Int) - (1 : Int))).toNat (o450005.getD (IntKind.i64.wrap ((o450005.length : Int) - (1 : Int))).toNat [])).length + ([(([] : List Int) ++ (v0.getD 0 []))]).length ≤ rowMax) then
                            (s_l05Merge_l2 k ((v0.take ((v0.length : Int)).toNat).drop 1) v1 ((o450005.set (IntKind.i64.wrap ((o450005.length : Int) - (1 : Int))).toNat (o450005.getD (IntKind.i64.wrap ((o450005.length : Int) - (1 : Int))).toNat [])) ++ ([(([] : List Int) ++ (v0.getD 0 []))])))
                          else (none))
                        else (none))
                      else (s_l05Merge_l2 k ((v0.take ((v0.length : Int)).toNat).drop 1) v1 (o450005.set (IntKind.i64.wrap ((o450005.length : Int) - (1 : Int))).toNat (o450005.getD (IntKind.i64.wrap ((o450005.length : Int) - (1 : Int))).toNat []))))
                    else (none))
                  else (none))
                else (none)))
            else (none))
          else (none))
        else (none))
      else (bif decide ((v0.length : Int) > (0 : Int)) then
          (bif decide ((0 : Int) < (v1.length : Int)) then
            (bif decide ((0 : Int) < (v0.length : Int)) then
              ((s_l05Less k ((v1.getD 0 []), (v0.getD 0 []))).bind fun y7 =>
              bif (!y7) then
                (bif decide ((0 : Int) < (v0.length : Int)) then
                  (bif decide ((1 : Int) ≤ (v0.length : Int)) then
                    (bif decide ((v0.length : Int) ≤ (v0.length : Int)) then
                      (bif ((o450005.length : Int) == (0 : Int)) then
                        (bif decide (([] : List Int).length + (v0.getD 0 []).length ≤ rowMax) then
                          (bif decide (o450005.length + ([(([] : List Int) ++ (v0.getD 0 []))]).length ≤ rowMax) then
                            (s_l05Merge_l2 k ((v0.take ((v0.length : Int)).toNat).drop 1) v1 (o450005 ++ ([(([] : List Int) ++ (v0.getD 0 []))])))
                          else (none))
                        else (none))
                      else (bif decide (0 ≤ (IntKind.i64.wrap ((o450005.length : Int) - (1 : Int)))) then
                          (bif decide ((IntKind.i64.wrap ((o450005.length : Int) - (1 : Int))) < (o450005.length : Int)) then
                            (bif decide ((IntKind.i64.wrap ((o450005.length : Int) - (1 : Int))).toNat < o450005.length) then
                              ((s_SamePacket k ((o450005.getD (IntKind.i64.wrap ((o450005.length : Int) - (1 : Int))).toNat []), (v0.getD 0 []))).bind fun y8 =>
                              bif (!y8) then
                                (bif decide (([] : List Int).length + (v0.getD 0 []).length ≤ rowMax) then
                                  (bif decide ((o450005.set (IntKind.i64.wrap ((o450005.length : Int) - (1 : Int))).toNat (o450005.getD (IntKind.i64.wrap ((o450005.length : Int) - (1 : Int))).toNat [])).length + ([(([] : List Int) ++ (v0.getD 0 []))]).length ≤ rowMax) then
                                    (s_l05Merge_l2 k ((v0.take ((v0.length : Int)).toNat).drop 1) v1 ((o450005.set (IntKind.i64.wrap ((o450005.length : Int) - (1 : Int))).toNat (o450005.getD (IntKind.i64.wrap ((o450005.length : Int) - (1 : Int))).toNat [])) ++ ([(([] : List Int) ++ (v0.getD 0 []))])))
                                  else (none))
                                else (none))
                              else (s_l05Merge_l2 k ((v0.take ((v0.length : Int)).toNat).drop 1) v1 (o450005.set (IntKind.i64.wrap ((o450005.length : Int) - (1 : Int))).toNat (o450005.getD (IntKind.i64.wrap ((o450005.length : Int) - (1 : Int))).toNat []))))
                            else (none))
                          else (none))
                        else (none)))
                    else (none))
                  else (none))
                else (none))
              else (bif decide ((0 : Int) < (v1.length : Int)) then
                  (bif decide ((1 : Int) ≤ (v1.length : Int)) then
                    (bif decide ((v1.length : Int) ≤ (v1.length : Int)) then
                      (bif ((o450005.length : Int) == (0 : Int)) then
                        (bif decide (([] : List Int).length + (v1.getD 0 []).length ≤ rowMax) then
                          (bif decide (o450005.length + ([(([] : List Int) ++ (v1.getD 0 []))]).length ≤ rowMax) then
                            (s_l05Merge_l2 k v0 ((v1.take ((v1.length : Int)).toNat).drop 1) (o450005 ++ ([(([] : List Int) ++ (v1.getD 0 []))])))
                          else (none))
                        else (none))
                      else (bif decide (0 ≤ (IntKind.i64.wrap ((o450005.length : Int) - (1 : Int)))) then
                          (bif decide ((IntKind.i64.wrap ((o450005.length : Int) - (1 : Int))) < (o450005.length : Int)) then
                            (bif decide ((IntKind.i64.wrap ((o450005.length : Int) - (1 : Int))).toNat < o450005.length) then
                              ((s_SamePacket k ((o450005.getD (IntKind.i64.wrap ((o450005.length : Int) - (1 : Int))).toNat []), (v1.getD 0 []))).bind fun y9 =>
                              bif (!y9) then
                                (bif decide (([] : List Int).length + (v1.getD 0 []).length ≤ rowMax) then
                                  (bif decide ((o450005.set (IntKind.i64.wrap ((o450005.length : Int) - (1 : Int))).toNat (o450005.getD (IntKind.i64.wrap ((o450005.length : Int) - (1 : Int))).toNat [])).length + ([(([] : List Int) ++ (v1.getD 0 []))]).length ≤ rowMax) then
                                    (s_l05Merge_l2 k v0 ((v1.take ((v1.length : Int)).toNat).drop 1) ((o450005.set (IntKind.i64.wrap ((o450005.length : Int) - (1 : Int))).toNat (o450005.getD (IntKind.i64.wrap ((o450005.length : Int) - (1 : Int))).toNat [])) ++ ([(([] : List Int) ++ (v1.getD 0 []))])))
                                  else (none))
                                else (none))
                              else (s_l05Merge_l2 k v0 ((v1.take ((v1.length : Int)).toNat).drop 1) (o450005.set (IntKind.i64.wrap ((o450005.length : Int) - (1 : Int))).toNat (o450005.getD (IntKind.i64.wrap ((o450005.length : Int) - (1 : Int))).toNat []))))
                            else (none))
                          else (none))
                        else (none)))
                    else (none))
                  else (none))
                else (none)))
            else (none))
          else (none))
        else (bif decide ((0 : Int) < (v1.length : Int)) then
            (bif decide ((1 : Int) ≤ (v1.length : Int)) then
              (bif decide ((v1.length : Int) ≤ (v1.length : Int)) then
                (bif ((o450005.length : Int) == (0 : Int)) then
                  (bif decide (([] : List Int).length + (v1.getD 0 []).length ≤ rowMax) then
                    (bif decide (o450005.length + ([(([] : List Int) ++ (v1.getD 0 []))]).length ≤ rowMax) then
                      (s_l05Merge_l2 k v0 ((v1.take ((v1.length : Int)).toNat).drop 1) (o450005 ++ ([(([] : List Int) ++ (v1.getD 0 []))])))
                    else (none))
                  else (none))
                else (bif decide (0 ≤ (IntKind.i64.wrap ((o450005.length : Int) - (1 : Int)))) then
                    (bif decide ((IntKind.i64.wrap ((o450005.length : Int) - (1 : Int))) < (o450005.length : Int)) then
                      (bif decide ((IntKind.i64.wrap ((o450005.length : Int) - (1 : Int))).toNat < o450005.length) then
                        ((s_SamePacket k ((o450005.getD (IntKind.i64.wrap ((o450005.length : Int) - (1 : Int))).toNat []), (v1.getD 0 []))).bind fun y10 =>
                        bif (!y10) then
                          (bif decide (([] : List Int).length + (v1.getD 0 []).length ≤ rowMax) then
                            (bif decide ((o450005.set (IntKind.i64.wrap ((o450005.length : Int) - (1 : Int))).toNat (o450005.getD (IntKind.i64.wrap ((o450005.length : Int) - (1 : Int))).toNat [])).length + ([(([] : List Int) ++ (v1.getD 0 []))]).length ≤ rowMax) then
                              (s_l05Merge_l2 k v0 ((v1.take ((v1.length : Int)).toNat).drop 1) ((o450005.set (IntKind.i64.wrap ((o450005.length : Int) - (1 : Int))).toNat (o450005.getD (IntKind.i64.wrap ((o450005.length : Int) - (1 : Int))).toNat [])) ++ ([(([] : List Int) ++ (v1.getD 0 []))])))
                            else (none))
                          else (none))
                        else (s_l05Merge_l2 k v0 ((v1.take ((v1.length : Int)).toNat).drop 1) (o450005.set (IntKind.i64.wrap ((o450005.length : Int) - (1 : Int))).toNat (o450005.getD (IntKind.i64.wrap ((o450005.length : Int) - (1 : Int))).toNat []))))
                      else (none))
                    else (none))
                  else (none)))
              else (none))
            else (none))
          else (none))))
    else (some o450005)) := by kernel_rfl
theorem s_SortPackets_eq (k : Nat) (x0 : List (List Int)) : s_SortPackets (k + 1) x0 =
  bif decide ((x0.length : Int) < (2 : Int)) then
    ((s_l05Merge k (x0, [])).bind fun y1 =>
    some y1)
  else (bif decide (0 ≤ (IntKind.i64.wrap ((x0.length : Int).tdiv (2 : Int)))) then
      (bif decide ((IntKind.i64.wrap ((x0.length : Int).tdiv (2 : Int))) ≤ (x0.length : Int)) then
        ((s_SortPackets k ((x0.take (IntKind.i64.wrap ((x0.length : Int).tdiv (2 : Int))).toNat).drop 0)).bind fun y2 =>
        bif decide (0 ≤ (IntKind.i64.wrap ((x0.length : Int).tdiv (2 : Int)))) then
          (bif decide ((IntKind.i64.wrap ((x0.length : Int).tdiv (2 : Int))) ≤ (x0.length : Int)) then
            (bif decide ((x0.length : Int) ≤ (x0.length : Int)) then
              ((s_SortPackets k ((x0.take ((x0.length : Int)).toNat).drop (IntKind.i64.wrap ((x0.length : Int).tdiv (2 : Int))).toNat)).bind fun y3 =>
              (s_l05Merge k (y2, y3)).bind fun y4 =>
              some y4)
            else (none))
          else (none))
        else (none))
      else (none))
    else (none)) := by kernel_rfl
theorem s_ResultsAfter_eq (k : Nat) (x0 : List (List Int)) (x1 : Int) : s_ResultsAfter (k + 1) (x0, x1) =
  s_ResultsAfter_l3 k x1 x0 (x0.length : Int) (0 : Int) ([] : List (List Int)) := by kernel_rfl
theorem s_ResultsAfter_l3_eq (k : Nat) (v1 : Int) (v10 : List (List Int)) (v11 : Int) (v12 : Int) (o100006 : List (List Int)) : s_ResultsAfter_l3 (k + 1) v1 v10 v11 v12 o100006 =
  bif decide (v12 < v11) then
    (bif decide (0 ≤ v12) then
      (bif decide (v12 < (v10.length : Int)) then
        ((s_l05Ok k ((v10.getD v12.toNat []), v1)).bind fun y1 =>
        bif (!y1) then
          (some ([], false))
        else ((s_l05Of k ((v10.getD v12.toNat []), v1)).bind fun y2 =>
          (s_SortPackets k y2).bind fun y3 =>
          (s_l05Merge k (o100006, y3)).bind fun y4 =>
          bif decide ((y4.length : Int) > (3000 : Int)) then
            (some ([], false))
          else (s_ResultsAfter_l3 k v1 v10 v11 (IntKind.i64.wrap (v12 + (1 : Int))) y4)))
      else (none))
    else (none))
  else (some (o100006, true)) := by kernel_rfl
theorem s_l15Draw_eq (k : Nat) (x0 : (List Int) × Int × Int) : s_l15Draw (k + 1) x0 =
  (s_l02Draw k (x0, (4 : Int))).bind fun y1 =>
  (s_l01Below k (y1.2, (2 : Int))).bind fun y2 =>
  s_l15Draw_l3 k (IntKind.i64.wrap ((1 : Int) + y2.1)) [y1.1] y2.2.1 y2.2.2.1 y2.2.2.2 := by kernel_rfl
theorem s_l15Draw_l3_eq (k : Nat) (v4 : Int) (o100003 : List (List Int)) (o500000_0 : List Int) (o500000_1 : Int) (o500000_2 : Int) : s_l15Draw_l3 (k + 1) v4 o100003 o500000_0 o500000_1 o500000_2 =
  bif decide (v4 > (0 : Int)) then
    ((s_l01Below k ((o500000_0, (o500000_1, o500000_2)), (5 : Int))).bind fun y1 =>
    (s_ResultsAfter k (o100003, y1.1)).bind fun y2 =>
    bif y2.2 then
      (s_l15Draw_l3 k (IntKind.i64.wrap (v4 - (1 : Int))) y2.1 y1.2.1 y1.2.2.1 y1.2.2.2)
    else (s_l15Draw_l3 k (IntKind.i64.wrap (v4 - (1 : Int))) o100003 y1.2.1 y1.2.2.1 y1.2.2.2))
  else (some (o100003, (o500000_0, (o500000_1, o500000_2)))) := by kernel_rfl
theorem s_MakeKnown_eq (k : Nat) (x0 : List Int) : s_MakeKnown (k + 1) x0 =
  (s_l01New k x0).bind fun y1 =>
  (s_l15Draw k y1).bind fun y2 =>
  some y2.1 := by kernel_rfl
theorem s_l23New_eq (k : Nat) (x0 : List Int) (x1 : Int) : s_l23New (k + 1) (x0, x1) =
  (s_l01New k x0).bind fun y1 =>
  s_l23New_l3 k x1 (0 : Int) y1.1 y1.2.1 y1.2.2 := by kernel_rfl
theorem s_l23New_l3_eq (k : Nat) (v1 : Int) (v6 : Int) (o200005_0 : List Int) (o200005_1 : Int) (o200005_2 : Int) : s_l23New_l3 (k + 1) v1 v6 o200005_0 o200005_1 o200005_2 =
  bif decide (v6 < v1) then
    ((s_l01Byte k (o200005_0, (o200005_1, o200005_2))).bind fun y1 =>
    s_l23New_l3 k v1 (IntKind.i64.wrap (v6 + (1 : Int))) y1.2.1 y1.2.2.1 y1.2.2.2)
  else (some (o200005_0, (o200005_1, o200005_2))) := by kernel_rfl
theorem s_MakeNum_eq (k : Nat) (x0 : List Int) (x1 : Int) : s_MakeNum (k + 1) (x0, x1) =
  (s_l23New k (x0, x1)).bind fun y1 =>
  (s_l01Byte k y1).bind fun y2 =>
  (s_l01Byte k y2.2).bind fun y3 =>
  some (IntKind.i64.wrap ((IntKind.i64.wrap (y2.1 * (256 : Int))) + y3.1)) := by kernel_rfl
theorem i_CardOf_eq (k : Nat) (x0 : Int) : i_CardOf (k + 1) x0 =
  bif decide (x0 < (0 : Int)) then
    (bif decide ((IntKind.i64.wrap ((-1 : Int) - x0)) ≥ (12 : Int)) then
      (some (-1 : Int))
    else (some (IntKind.i64.wrap ((-1 : Int) - x0))))
  else (bif decide (x0 ≥ (12 : Int)) then
      (some (-1 : Int))
    else (some x0)) := by kernel_rfl
theorem i_PacketOk_eq (k : Nat) (x0 : List Int) : i_PacketOk (k + 1) x0 =
  i_PacketOk_l3 k x0 (x0.length : Int) (0 : Int) (List.replicate 12 false) := by kernel_rfl
theorem i_PacketOk_l3_eq (k : Nat) (v7 : List Int) (v8 : Int) (v9 : Int) (o400003 : List Bool) : i_PacketOk_l3 (k + 1) v7 v8 v9 o400003 =
  bif decide (v9 < v8) then
    (bif decide (0 ≤ v9) then
      (bif decide (v9 < (v7.length : Int)) then
        ((i_CardOf k (v7.getD v9.toNat (0 : Int))).bind fun y1 =>
        bif decide (y1 < (0 : Int)) then
          (some false)
        else (bif (Nat.beq o400003.length 12 && true) then
            (bif decide (0 ≤ y1) then
              (bif decide (y1 < (o400003.length : Int)) then
                (bif decide (y1.toNat < o400003.length) then
                  (bif (o400003.getD y1.toNat false) then
                    (some false)
                  else (bif (Nat.beq o400003.length 12 && true) then
                      (bif decide (0 ≤ y1) then
                        (bif decide (y1 < (o400003.length : Int)) then
                          (bif decide (y1.toNat < o400003.length) then
                            (i_PacketOk_l3 k v7 v8 (IntKind.i64.wrap (v9 + (1 : Int))) (o400003.set y1.toNat true))
                          else (none))
                        else (none))
                      else (none))
                    else (none)))
                else (none))
              else (none))
            else (none))
          else (none)))
      else (none))
    else (none))
  else (some true) := by kernel_rfl
theorem i_PositionOf_1_eq (k : Nat) (x0 : Int) (x1 : Int) : i_PositionOf_1 (k + 1) (x0, x1) =
  (i_CardOf k x0).bind fun y1 =>
  some (y1 == x1) := by kernel_rfl
theorem slices_IndexFunc_int_of_i_PositionOf_1_eq (k : Nat) (x0 : List Int) (x1 : Int) : slices_IndexFunc_int_of_i_PositionOf_1 (k + 1) (x0, x1) =
  slices_IndexFunc_int_of_i_PositionOf_1_l2 k x0 x1 (x0.length : Int) (0 : Int) := by kernel_rfl
theorem slices_IndexFunc_int_of_i_PositionOf_1_l2_eq (k : Nat) (v0 : List Int) (v1_0_0 : Int) (v7 : Int) (v8 : Int) : slices_IndexFunc_int_of_i_PositionOf_1_l2 (k + 1) v0 v1_0_0 v7 v8 =
  bif decide (v8 < v7) then
    (bif decide (0 ≤ v8) then
      (bif decide (v8 < (v0.length : Int)) then
        ((i_PositionOf_1 k ((v0.getD v8.toNat (0 : Int)), v1_0_0)).bind fun y1 =>
        bif y1 then
          (some v8)
        else (slices_IndexFunc_int_of_i_PositionOf_1_l2 k v0 v1_0_0 v7 (IntKind.i64.wrap (v8 + (1 : Int)))))
      else (none))
    else (none))
  else (some (-1 : Int)) := by kernel_rfl
theorem i_PositionOf_eq (k : Nat) (x0 : List Int) (x1 : Int) : i_PositionOf (k + 1) (x0, x1) =
  bif decide (x1 < (0 : Int)) then
    (some (-1 : Int))
  else ((slices_IndexFunc_int_of_i_PositionOf_1 k (x0, x1)).bind fun y1 =>
    some y1) := by kernel_rfl
theorem i_IsArrangement_1_eq (k : Nat) (x0 : Int) (x1 : List Int) : i_IsArrangement_1 (k + 1) (x0, x1) =
  (i_CardOf k x0).bind fun y1 =>
  (i_PositionOf k (x1, y1)).bind fun y2 =>
  some (decide (y2 < (0 : Int))) := by kernel_rfl
theorem slices_IndexFunc_int_of_i_IsArrangement_1_eq (k : Nat) (x0 : List Int) (x1 : List Int) : slices_IndexFunc_int_of_i_IsArrangement_1 (k + 1) (x0, x1) =
  slices_IndexFunc_int_of_i_IsArrangement_1_l2 k x0 x1 (x0.length : Int) (0 : Int) := by kernel_rfl
theorem slices_IndexFunc_int_of_i_IsArrangement_1_l2_eq (k : Nat) (v0 : List Int) (v1_0_0 : List Int) (v7 : Int) (v8 : Int) : slices_IndexFunc_int_of_i_IsArrangement_1_l2 (k + 1) v0 v1_0_0 v7 v8 =
  bif decide (v8 < v7) then
    (bif decide (0 ≤ v8) then
      (bif decide (v8 < (v0.length : Int)) then
        ((i_IsArrangement_1 k ((v0.getD v8.toNat (0 : Int)), v1_0_0)).bind fun y1 =>
        bif y1 then
          (some v8)
        else (slices_IndexFunc_int_of_i_IsArrangement_1_l2 k v0 v1_0_0 v7 (IntKind.i64.wrap (v8 + (1 : Int)))))
      else (none))
    else (none))
  else (some (-1 : Int)) := by kernel_rfl
theorem slices_ContainsFunc_int_of_i_IsArrangement_1_eq (k : Nat) (x0 : List Int) (x1 : List Int) : slices_ContainsFunc_int_of_i_IsArrangement_1 (k + 1) (x0, x1) =
  (slices_IndexFunc_int_of_i_IsArrangement_1 k (x0, x1)).bind fun y1 =>
  some (decide (y1 ≥ (0 : Int))) := by kernel_rfl
theorem i_IsArrangement_eq (k : Nat) (x0 : List Int) (x1 : List Int) : i_IsArrangement (k + 1) (x0, x1) =
  (i_PacketOk k x0).bind fun y1 =>
  bif (!y1) then
    (some false)
  else ((i_PacketOk k x1).bind fun y2 =>
    bif (!y2) then
      (some false)
    else (bif (!((x0.length : Int) == (x1.length : Int))) then
        (some false)
      else ((slices_ContainsFunc_int_of_i_IsArrangement_1 k (x0, x1)).bind fun y3 =>
        some (!y3)))) := by kernel_rfl
theorem cmp_isNaN_int_eq (k : Nat) (x0 : Int) : cmp_isNaN_int (k + 1) x0 =
  some (!(x0 == x0)) := by kernel_rfl
theorem cmp_Compare_int_eq (k : Nat) (x0 : Int) (x1 : Int) : cmp_Compare_int (k + 1) (x0, x1) =
  (cmp_isNaN_int k x0).bind fun y1 =>
  (cmp_isNaN_int k x1).bind fun y2 =>
  bif y1 then
    (bif y2 then
      (some (0 : Int))
    else (some (-1 : Int)))
  else (bif y2 then
      (some (1 : Int))
    else (bif decide (x0 < x1) then
        (some (-1 : Int))
      else (bif decide (x0 > x1) then
          (some (1 : Int))
        else (some (0 : Int))))) := by kernel_rfl
theorem slices_Compare_int_eq (k : Nat) (x0 : List Int) (x1 : List Int) : slices_Compare_int (k + 1) (x0, x1) =
  slices_Compare_int_l2 k x0 x1 x0 (x0.length : Int) (0 : Int) := by kernel_rfl
theorem slices_Compare_int_l2_eq (k : Nat) (v0 : List Int) (v1 : List Int) (v9 : List Int) (v10 : Int) (v11 : Int) : slices_Compare_int_l2 (k + 1) v0 v1 v9 v10 v11 =
  bif decide (v11 < v10) then
    (bif decide (0 ≤ v11) then
      (bif decide (v11 < (v9.length : Int)) then
        (bif decide (v11 ≥ (v1.length : Int)) then
          (some (1 : Int))
        else (bif decide (0 ≤ v11) then
            (bif decide (v11 < (v1.length : Int)) then
              ((cmp_Compare_int k ((v9.getD v11.toNat (0 : Int)), (v1.getD v11.toNat (0 : Int)))).bind fun y1 =>
              bif (!(y1 == (0 : Int))) then
                (some y1)
              else (slices_Compare_int_l2 k v0 v1 v9 v10 (IntKind.i64.wrap (v11 + (1 : Int)))))
            else (none))
          else (none)))
      else (none))
    else (none))
  else (bif decide ((v0.length : Int) < (v1.length : Int)) then
      (some (-1 : Int))
    else (some (0 : Int))) := by kernel_rfl
theorem i_KnowOk_eq (k : Nat) (x0 : List (List Int)) : i_KnowOk (k + 1) x0 =
  bif decide ((x0.length : Int) < (1 : Int)) then
    (some false)
  else (bif decide ((x0.length : Int) > (3000 : Int)) then
      (some false)
    else (bif decide ((0 : Int) < (x0.length : Int)) then
        (bif (((x0.getD 0 []).length : Int) == (0 : Int)) then
          (some false)
        else (i_KnowOk_l4 k x0 x0 (x0.length : Int) (0 : Int)))
      else (none))) := by kernel_rfl
theorem i_KnowOk_l4_eq (k : Nat) (v0 : List (List Int)) (v20 : List (List Int)) (v21 : Int) (v22 : Int) : i_KnowOk_l4 (k + 1) v0 v20 v21 v22 =
  bif decide (v22 < v21) then
    (bif decide (0 ≤ v22) then
      (bif decide (v22 < (v20.length : Int)) then
        (bif decide ((0 : Int) < (v0.length : Int)) then
          ((i_IsArrangement k ((v0.getD 0 []), (v20.getD v22.toNat []))).bind fun y1 =>
          bif (!y1) then
            (some false)
          else (bif decide (v22 > (0 : Int)) then
              (bif decide (0 ≤ (IntKind.i64.wrap (v22 - (1 : Int)))) then
                (bif decide ((IntKind.i64.wrap (v22 - (1 : Int))) < (v0.length : Int)) then
                  ((slices_Compare_int k ((v0.getD (IntKind.i64.wrap (v22 - (1 : Int))).toNat []), (v20.getD v22.toNat []))).bind fun y2 =>
                  bif decide (y2 ≥ (0 : Int)) then
                    (some false)
                  else (i_KnowOk_l4 k v0 v20 v21 (IntKind.i64.wrap (v22 + (1 : Int)))))
                else (none))
              else (none))
            else (i_KnowOk_l4 k v0 v20 v21 (IntKind.i64.wrap (v22 + (1 : Int))))))
        else (none))
      else (none))
    else (none))
  else (some true) := by kernel_rfl
theorem i_SeeCard_1_eq (k : Nat) (x0 : List Int) (x1 : Int) (x2 : Int) : i_SeeCard_1 (k + 1) (x0, x1, x2) =
  bif decide (x1 ≥ (0 : Int)) then
    (bif decide (x1 < (x0.length : Int)) then
      (bif decide (0 ≤ x1) then
        (bif decide (x1 < (x0.length : Int)) then
          ((i_CardOf k (x0.getD x1.toNat (0 : Int))).bind fun y1 =>
          some (y1 == x2))
        else (none))
      else (none))
    else (some false))
  else (some false) := by kernel_rfl
theorem slices_Clone_int_eq (k : Nat) (x0 : List Int) : slices_Clone_int (k + 1) x0 =
  bif (!x0.isEmpty) then
    (bif decide (([] : List Int).length + x0.length ≤ rowMax) then
      (some (([] : List Int) ++ x0))
    else (none))
  else (both (rs := flatRs slices_Clone_int_fi.rs) (ios := ioOf slices_Clone_int_fi.ps) (some [])
    (bif decide (([] : List Int).length + x0.length ≤ rowMax) then
        (some (([] : List Int) ++ x0))
      else (none))) := by kernel_rfl
theorem i_those_of_i_SeeCard_1_eq (k : Nat) (x0 : List (List Int)) (x1 : Int × Int) : i_those_of_i_SeeCard_1 (k + 1) (x0, x1) =
  (i_KnowOk k x0).bind fun y1 =>
  bif (!y1) then
    (some [])
  else (i_those_of_i_SeeCard_1_l5 k x1.1 x1.2 x0 (x0.length : Int) (0 : Int) []) := by kernel_rfl
theorem i_those_of_i_SeeCard_1_l5_eq (k : Nat) (v1_0_0 : Int) (v1_1_0 : Int) (v11 : List (List Int)) (v12 : Int) (v13 : Int) (o100005 : List (List Int)) : i_those_of_i_SeeCard_1_l5 (k + 1) v1_0_0 v1_1_0 v11 v12 v13 o100005 =
  bif decide (v13 < v12) then
    (bif decide (0 ≤ v13) then
      (bif decide (v13 < (v11.length : Int)) then
        ((i_SeeCard_1 k ((v11.getD v13.toNat []), (v1_0_0, v1_1_0))).bind fun y1 =>
        bif y1 then
          ((slices_Clone_int k (v11.getD v13.toNat [])).bind fun y2 =>
          bif decide (o100005.length + [y2].length ≤ rowMax) then
            (i_those_of_i_SeeCard_1_l5 k v1_0_0 v1_1_0 v11 v12 (IntKind.i64.wrap (v13 + (1 : Int))) (o100005 ++ [y2]))
          else (none))
        else (i_those_of_i_SeeCard_1_l5 k v1_0_0 v1_1_0 v11 v12 (IntKind.i64.wrap (v13 + (1 : Int))) o100005))
      else (none))
    else (none))
  else (some o100005) := by kernel_rfl
theorem i_SeeCard_eq (k : Nat) (x0 : List (List Int)) (x1 : Int) (x2 : Int) : i_SeeCard (k + 1) (x0, x1, x2) =
  (i_those_of_i_SeeCard_1 k (x0, (x1, x2))).bind fun y1 =>
  some y1 := by kernel_rfl
theorem i_KnownAt_1_eq (k : Nat) (x0 : List Int) (x1 : Int) : i_KnownAt_1 (k + 1) (x0, x1) =
  bif decide (x1 < (0 : Int)) then
    (some (-1 : Int))
  else (bif decide (x1 ≥ (x0.length : Int)) then
      (some (-1 : Int))
    else (bif decide (0 ≤ x1) then
        (bif decide (x1 < (x0.length : Int)) then
          ((i_CardOf k (x0.getD x1.toNat (0 : Int))).bind fun y1 =>
          some y1)
        else (none))
      else (none))) := by kernel_rfl
theorem i_common_of_i_KnownAt_1_eq (k : Nat) (x0 : List (List Int)) (x1 : Int) : i_common_of_i_KnownAt_1 (k + 1) (x0, x1) =
  (i_KnowOk k x0).bind fun y1 =>
  bif (!y1) then
    (some (-1 : Int))
  else (bif decide ((0 : Int) < (x0.length : Int)) then
      ((i_KnownAt_1 k ((x0.getD 0 []), x1)).bind fun y2 =>
      i_common_of_i_KnownAt_1_l5 k x1 y2 x0 (x0.length : Int) (0 : Int))
    else (none)) := by kernel_rfl
theorem i_common_of_i_KnownAt_1_l5_eq (k : Nat) (v1_0_0 : Int) (v5 : Int) (v16 : List (List Int)) (v17 : Int) (v18 : Int) : i_common_of_i_KnownAt_1_l5 (k + 1) v1_0_0 v5 v16 v17 v18 =
  bif decide (v18 < v17) then
    (bif decide (0 ≤ v18) then
      (bif decide (v18 < (v16.length : Int)) then
        ((i_KnownAt_1 k ((v16.getD v18.toNat []), v1_0_0)).bind fun y1 =>
        bif (!(y1 == v5)) then
          (some (-1 : Int))
        else (i_common_of_i_KnownAt_1_l5 k v1_0_0 v5 v16 v17 (IntKind.i64.wrap (v18 + (1 : Int)))))
      else (none))
    else (none))
  else (some v5) := by kernel_rfl
theorem i_KnownAt_eq (k : Nat) (x0 : List (List Int)) (x1 : Int) : i_KnownAt (k + 1) (x0, x1) =
  (i_common_of_i_KnownAt_1 k (x0, x1)).bind fun y1 =>
  some y1 := by kernel_rfl
theorem i_KnownIndexOf_1_eq (k : Nat) (x0 : List Int) (x1 : Int) : i_KnownIndexOf_1 (k + 1) (x0, x1) =
  (i_PositionOf k (x0, x1)).bind fun y1 =>
  some y1 := by kernel_rfl
theorem i_common_of_i_KnownIndexOf_1_eq (k : Nat) (x0 : List (List Int)) (x1 : Int) : i_common_of_i_KnownIndexOf_1 (k + 1) (x0, x1) =
  (i_KnowOk k x0).bind fun y1 =>
  bif (!y1) then
    (some (-1 : Int))
  else (bif decide ((0 : Int) < (x0.length : Int)) then
      ((i_KnownIndexOf_1 k ((x0.getD 0 []), x1)).bind fun y2 =>
      i_common_of_i_KnownIndexOf_1_l5 k x1 y2 x0 (x0.length : Int) (0 : Int))
    else (none)) := by kernel_rfl
theorem i_common_of_i_KnownIndexOf_1_l5_eq (k : Nat) (v1_0_0 : Int) (v5 : Int) (v16 : List (List Int)) (v17 : Int) (v18 : Int) : i_common_of_i_KnownIndexOf_1_l5 (k + 1) v1_0_0 v5 v16 v17 v18 =
  bif decide (v18 < v17) then
    (bif decide (0 ≤ v18) then
      (bif decide (v18 < (v16.length : Int)) then
        ((i_KnownIndexOf_1 k ((v16.getD v18.toNat []), v1_0_0)).bind fun y1 =>
        bif (!(y1 == v5)) then
          (some (-1 : Int))
        else (i_common_of_i_KnownIndexOf_1_l5 k v1_0_0 v5 v16 v17 (IntKind.i64.wrap (v18 + (1 : Int)))))
      else (none))
    else (none))
  else (some v5) := by kernel_rfl
theorem i_KnownIndexOf_eq (k : Nat) (x0 : List (List Int)) (x1 : Int) : i_KnownIndexOf (k + 1) (x0, x1) =
  (i_common_of_i_KnownIndexOf_1 k (x0, x1)).bind fun y1 =>
  some y1 := by kernel_rfl
theorem slices_Max_int_eq (k : Nat) (x0 : List Int) : slices_Max_int (k + 1) x0 =
  bif decide ((x0.length : Int) < (1 : Int)) then
    (none)
  else (bif decide ((0 : Int) < (x0.length : Int)) then
      (slices_Max_int_l5 k x0 (x0.getD 0 (0 : Int)) (1 : Int))
    else (none)) := by kernel_rfl
theorem slices_Max_int_l5_eq (k : Nat) (v0 : List Int) (v3 : Int) (v4 : Int) : slices_Max_int_l5 (k + 1) v0 v3 v4 =
  bif decide (v4 < (v0.length : Int)) then
    (bif decide (0 ≤ v4) then
      (bif decide (v4 < (v0.length : Int)) then
        (slices_Max_int_l5 k v0 (bif decide ((v0.getD v4.toNat (0 : Int)) > v3) then (v0.getD v4.toNat (0 : Int)) else v3) (IntKind.i64.wrap (v4 + (1 : Int))))
      else (none))
    else (none))
  else (some v3) := by kernel_rfl
theorem i_BestLook_eq (k : Nat) (x0 : List (List Int)) : i_BestLook (k + 1) x0 =
  (i_KnowOk k x0).bind fun y1 =>
  bif (!y1) then
    (some (-1 : Int))
  else (bif decide ((0 : Int) < (x0.length : Int)) then
      (i_BestLook_l5 k x0 (-1 : Int) (0 : Int) ((x0.getD 0 []).length : Int) (0 : Int))
    else (none)) := by kernel_rfl
theorem i_BestLook_l5_eq (k : Nat) (v0 : List (List Int)) (v3 : Int) (v4 : Int) (v16 : Int) (v17 : Int) : i_BestLook_l5 (k + 1) v0 v3 v4 v16 v17 =
  bif decide (v17 < v16) then
    (i_BestLook_l9 k v0 v3 v4 v17 v16 v17 v0 (v0.length : Int) (0 : Int) (List.replicate 12 (0 : Int)))
  else (some v3) := by kernel_rfl
theorem i_BestLook_l9_eq (k : Nat) (v0 : List (List Int)) (v3 : Int) (v4 : Int) (v5 : Int) (v16 : Int) (v17 : Int) (v20 : List (List Int)) (v21 : Int) (v22 : Int) (o400006 : List Int) : i_BestLook_l9 (k + 1) v0 v3 v4 v5 v16 v17 v20 v21 v22 o400006 =
  bif decide (v22 < v21) then
    (bif decide (0 ≤ v22) then
      (bif decide (v22 < (v20.length : Int)) then
        (bif decide (0 ≤ v5) then
          (bif decide (v5 < ((v20.getD v22.toNat []).length : Int)) then
            ((i_CardOf k ((v20.getD v22.toNat []).getD v5.toNat (0 : Int))).bind fun y1 =>
            bif (Nat.beq o400006.length 12 && true) then
              (bif decide (0 ≤ y1) then
                (bif decide (y1 < (o400006.length : Int)) then
                  (bif decide (y1.toNat < o400006.length) then
                    (bif (Nat.beq o400006.length 12 && true) then
                      (bif decide (0 ≤ y1) then
                        (bif decide (y1 < (o400006.length : Int)) then
                          (bif decide (y1.toNat < o400006.length) then
                            (i_BestLook_l9 k v0 v3 v4 v5 v16 v17 v20 v21 (IntKind.i64.wrap (v22 + (1 : Int))) (o400006.set y1.toNat (IntKind.i64.wrap ((o400006.getD y1.toNat (0 : Int)) + (1 : Int)))))
                          else (none))
                        else (none))
                      else (none))
                    else (none))
                  else (none))
                else (none))
              else (none))
            else (none))
          else (none))
        else (none))
      else (none))
    else (none))
  else (bif (Nat.beq o400006.length 12) then
      (bif decide (0 ≤ (o400006.length : Int)) then
        (bif decide ((o400006.length : Int) ≤ (o400006.length : Int)) then
          ((slices_Max_int k ((o400006.take ((o400006.length : Int)).toNat).drop 0)).bind fun y2 =>
          bif decide (v3 < (0 : Int)) then
            (i_BestLook_l5 k v0 v5 y2 v16 (IntKind.i64.wrap (v17 + (1 : Int))))
          else (bif decide (y2 < v4) then
              (i_BestLook_l5 k v0 v5 y2 v16 (IntKind.i64.wrap (v17 + (1 : Int))))
            else (i_BestLook_l5 k v0 v3 v4 v16 (IntKind.i64.wrap (v17 + (1 : Int))))))
        else (none))
      else (none))
    else (none)) := by kernel_rfl
theorem i_CountKnown_eq (k : Nat) (x0 : List (List Int)) : i_CountKnown (k + 1) x0 =
  (i_KnowOk k x0).bind fun y1 =>
  bif (!y1) then
    (some (-1 : Int))
  else (bif decide ((0 : Int) < (x0.length : Int)) then
      (i_CountKnown_l5 k x0 (0 : Int) ((x0.getD 0 []).length : Int) (0 : Int))
    else (none)) := by kernel_rfl
theorem i_CountKnown_l5_eq (k : Nat) (v0 : List (List Int)) (v3 : Int) (v11 : Int) (v12 : Int) : i_CountKnown_l5 (k + 1) v0 v3 v11 v12 =
  bif decide (v12 < v11) then
    ((i_KnownAt k (v0, v12)).bind fun y1 =>
    bif decide (y1 ≥ (0 : Int)) then
      (i_CountKnown_l5 k v0 (IntKind.i64.wrap (v3 + (1 : Int))) v11 (IntKind.i64.wrap (v12 + (1 : Int))))
    else (i_CountKnown_l5 k v0 v3 v11 (IntKind.i64.wrap (v12 + (1 : Int)))))
  else (some v3) := by kernel_rfl
theorem strconv_Itoa_eq (k : Nat) (x0 : Int) : strconv_Itoa k x0 = itoaF x0 := by kernel_rfl
theorem i_FormatInt_eq (k : Nat) (x0 : Int) : i_FormatInt (k + 1) x0 =
  (strconv_Itoa k x0).bind fun y1 =>
  some y1 := by kernel_rfl
theorem i_KnowLine_eq (k : Nat) (x0 : List (List Int)) : i_KnowLine (k + 1) x0 =
  (i_KnowOk k x0).bind fun y1 =>
  bif (!y1) then
    (some (⟨#[]⟩ : ByteArray))
  else ((i_FormatInt k (x0.length : Int)).bind fun y2 =>
    bif decide (y2.size + (⟨#[32, 112, 111, 115, 115, 105, 98, 108, 101, 44, 32, 107, 110, 111, 119, 110]⟩ : ByteArray).size ≤ 9223372036854775807) then
      (bif decide ((0 : Int) < (x0.length : Int)) then
        (i_KnowLine_l5 k x0 (y2 ++ (⟨#[32, 112, 111, 115, 115, 105, 98, 108, 101, 44, 32, 107, 110, 111, 119, 110]⟩ : ByteArray)) ((x0.getD 0 []).length : Int) (0 : Int))
      else (none))
    else (none)) := by kernel_rfl
theorem i_KnowLine_l5_eq (k : Nat) (v0 : List (List Int)) (v3 : ByteArray) (v16 : Int) (v17 : Int) : i_KnowLine_l5 (k + 1) v0 v3 v16 v17 =
  bif decide (v17 < v16) then
    ((i_KnownAt k (v0, v17)).bind fun y1 =>
    bif decide (y1 ≥ (0 : Int)) then
      ((i_FormatInt k y1).bind fun y2 =>
      bif decide ((⟨#[32]⟩ : ByteArray).size + y2.size ≤ 9223372036854775807) then
        (bif decide (v3.size + ((⟨#[32]⟩ : ByteArray) ++ y2).size ≤ 9223372036854775807) then
          (i_KnowLine_l5 k v0 (v3 ++ ((⟨#[32]⟩ : ByteArray) ++ y2)) v16 (IntKind.i64.wrap (v17 + (1 : Int))))
        else (none))
      else (none))
    else (bif decide (v3.size + (⟨#[32, 63]⟩ : ByteArray).size ≤ 9223372036854775807) then
        (i_KnowLine_l5 k v0 (v3 ++ (⟨#[32, 63]⟩ : ByteArray)) v16 (IntKind.i64.wrap (v17 + (1 : Int))))
      else (none)))
  else (some v3) := by kernel_rfl
theorem w_FnKnows_eq (k : Nat) (x0 : List Int) : w_FnKnows (k + 1) x0 =
  bif decide ((x0.length : Int) > (1048576 : Int)) then
    (some true)
  else ((s_MakeKnown k x0).bind fun y1 =>
    bif decide ((0 : Int) < (y1.length : Int)) then
      (bif decide (0 < y1.length) then
        ((s_MakeNum k (x0, (40 : Int))).bind fun y2 =>
        bif (!(((y1.getD 0 []).length : Int) == 0)) then
          (w_FnKnows_l9 k ((y1.getD 0 []).length : Int) (y2.tmod ((y1.getD 0 []).length : Int)) (0 : Int) (0 : Int) (0 : Int) y1)
        else (none))
      else (none))
    else (none)) := by kernel_rfl
theorem w_FnKnows_l9_eq (k : Nat) (v4 : Int) (v5 : Int) (v6 : Int) (v7 : Int) (v8 : Int) (o100003 : List (List Int)) : w_FnKnows_l9 (k + 1) v4 v5 v6 v7 v8 o100003 =
  bif decide (v8 < (12 : Int)) then
    ((i_SeeCard k (o100003, (v5, v8))).bind fun y1 =>
    bif decide ((y1.length : Int) > (0 : Int)) then
      ((i_KnownAt k (y1, v5)).bind fun y2 =>
      bif (!(y2 == v8)) then
        (some false)
      else ((i_KnownIndexOf k (y1, v8)).bind fun y3 =>
        bif (!(y3 == v5)) then
          (some false)
        else (w_FnKnows_l9 k v4 v5 (IntKind.i64.wrap (v6 + (y1.length : Int))) (bif decide ((y1.length : Int) > v7) then (y1.length : Int) else v7) (IntKind.i64.wrap (v8 + (1 : Int))) o100003)))
    else (w_FnKnows_l9 k v4 v5 (IntKind.i64.wrap (v6 + (y1.length : Int))) (bif decide ((y1.length : Int) > v7) then (y1.length : Int) else v7) (IntKind.i64.wrap (v8 + (1 : Int))) o100003))
  else ((i_BestLook k o100003).bind fun y4 =>
    (i_KnowOk k o100003).bind fun y5 =>
    bif (!y5) then
      (some false)
    else (bif (!(v6 == (o100003.length : Int))) then
        (some false)
      else (bif decide (y4 < (0 : Int)) then
          (some false)
        else (bif decide (y4 ≥ v4) then
            (some false)
          else ((i_KnownAt k (o100003, v5)).bind fun y6 =>
            bif (!((decide (y6 ≥ (0 : Int))) == (v7 == (o100003.length : Int)))) then
              (some false)
            else ((i_CountKnown k o100003).bind fun y7 =>
              bif decide (y7 < (0 : Int)) then
                (some false)
              else (w_FnKnows_l21 k v7 y4 (0 : Int) (0 : Int) o100003))))))) := by kernel_rfl
theorem w_FnKnows_l21_eq (k : Nat) (v7 : Int) (v10 : Int) (v11 : Int) (v12 : Int) (o100003 : List (List Int)) : w_FnKnows_l21 (k + 1) v7 v10 v11 v12 o100003 =
  bif decide (v12 < (12 : Int)) then
    ((i_SeeCard k (o100003, (v10, v12))).bind fun y1 =>
    w_FnKnows_l21 k v7 v10 (bif decide ((y1.length : Int) > v11) then (y1.length : Int) else v11) (IntKind.i64.wrap (v12 + (1 : Int))) o100003)
  else (bif decide (v11 ≤ v7) then
      ((i_KnowLine k o100003).bind fun y2 =>
      some (!(y2.toList == (⟨#[]⟩ : ByteArray).toList)))
    else (some false)) := by kernel_rfl

/-! ### the tables are right -/
/-- What holds of the world throughout. -/
abbrev gw : Gw := ⟨fun w => Go.Lib.TabIs Go.Proofs.Tryd.prog w "internal/strconv.uint64pow10" .u64 Go.Lib.pow10Tab, true⟩
theorem ty_3 : TyOk Go.Proofs.Tryd.prog 3 (.one (.int .i64)) := tyOk_int (by kernel_rfl) (by kernel_rfl) (by kernel_rfl)
theorem ty_4 : TyOk Go.Proofs.Tryd.prog 4 (.one (.bool)) := tyOk_bool (by kernel_rfl) (by kernel_rfl) (by kernel_rfl)
theorem ty_5 : TyOk Go.Proofs.Tryd.prog 5 (.one (.int .u8)) := tyOk_int (by kernel_rfl) (by kernel_rfl) (by kernel_rfl)
theorem ty_22 : TyOk Go.Proofs.Tryd.prog 22 (.one (.slice (.int .u8))) := tyOk_slice (e := 5) (by kernel_rfl) (by kernel_rfl) (by kernel_rfl) (elemOk_of (by kernel_rfl) (by kernel_rfl) (by kernel_rfl))
theorem ty_23 : TyOk Go.Proofs.Tryd.prog 23 (.one (.slice (.slice (.int .i64)))) := tyOk_slice (e := 25) (by kernel_rfl) (by kernel_rfl) (by kernel_rfl) (elemOk_of (by kernel_rfl) (by kernel_rfl) (by kernel_rfl))
theorem ty_25 : TyOk Go.Proofs.Tryd.prog 25 (.one (.slice (.int .i64))) := tyOk_slice (e := 3) (by kernel_rfl) (by kernel_rfl) (by kernel_rfl) (elemOk_of (by kernel_rfl) (by kernel_rfl) (by kernel_rfl))
theorem ty_34 : TyOk Go.Proofs.Tryd.prog 34 (.struct [(0, 3), (1, 3)] [.int .i64, .int .i64] true) := tyOk_struct (fields := Go.Proofs.Tryd.prog.fieldsOf 34) (by kernel_rfl) (by kernel_rfl) (by kernel_rfl) (by kernel_rfl) (by kernel_rfl) (by kernel_rfl) (fun _ => structEq_ok (d := 20) (fields := Go.Proofs.Tryd.prog.fieldsOf 34) (by kernel_rfl) (by kernel_rfl) (by decide) (by kernel_rfl))
theorem ty_58 : TyOk Go.Proofs.Tryd.prog 58 (.arr 12 (.int .i64)) := tyOk_arr (e := 3) (by kernel_rfl) (elemOk_of (by kernel_rfl) (by kernel_rfl) (by kernel_rfl)) (by kernel_rfl) (by kernel_rfl)
theorem ty_75 : TyOk Go.Proofs.Tryd.prog 75 (.struct [(0, 22), (1, 3), (2, 3)] [.slice (.int .u8), .int .i64, .int .i64] false) := tyOk_struct (fields := Go.Proofs.Tryd.prog.fieldsOf 75) (by kernel_rfl) (by kernel_rfl) (by kernel_rfl) (by kernel_rfl) (by kernel_rfl) (by kernel_rfl) (fun e => by cases e)
theorem ty_91 : TyOk Go.Proofs.Tryd.prog 91 (.arr 12 (.bool)) := tyOk_arr (e := 4) (by kernel_rfl) (elemOk_of (by kernel_rfl) (by kernel_rfl) (by kernel_rfl)) (by kernel_rfl) (by kernel_rfl)
theorem ty_5025023 : TyOk Go.Proofs.Tryd.prog 5025023 (.flag) := trivial
theorem hE : ∀ T ti, E.ty T = some ti → TyOk Go.Proofs.Tryd.prog T ti := lookT_ok (l := tyL) ⟨ty_3, ty_4, ty_5, ty_22, ty_23, ty_25, ty_34, ty_58, ty_75, ty_91, ty_5025023, trivial⟩
theorem s_l01New_ok : OneF Go.Proofs.Tryd.prog gw 28 s_l01New_fi := fnOk_of (fn := Go.Proofs.Tryd.f28) (c := s_l01New_c) Go.Proofs.Tryd.func28 (by kernel_rfl) (by kernel_rfl) rfl rfl (by kernel_rfl) (by kernel_rfl) rfl
theorem s_l01Byte_ok : OneF Go.Proofs.Tryd.prog gw 30 s_l01Byte_fi := fnOk_of (fn := Go.Proofs.Tryd.f30) (c := s_l01Byte_c) Go.Proofs.Tryd.func30 (by kernel_rfl) (by kernel_rfl) rfl rfl (by kernel_rfl) (by kernel_rfl) rfl
theorem s_l01Below_ok : OneF Go.Proofs.Tryd.prog gw 58 s_l01Below_fi := fnOk_of (fn := Go.Proofs.Tryd.f58) (c := s_l01Below_c) Go.Proofs.Tryd.func58 (by kernel_rfl) (by kernel_rfl) rfl rfl (by kernel_rfl) (by kernel_rfl) rfl
theorem s_l02Shuffle_ok : OneF Go.Proofs.Tryd.prog gw 84 s_l02Shuffle_fi := fnOk_of (fn := Go.Proofs.Tryd.f84) (c := s_l02Shuffle_c) Go.Proofs.Tryd.func84 (by kernel_rfl) (by kernel_rfl) rfl rfl (by kernel_rfl) (by kernel_rfl) rfl
theorem s_l01Once_ok : OneF Go.Proofs.Tryd.prog gw 85 s_l01Once_fi := fnOk_of (fn := Go.Proofs.Tryd.f85) (c := s_l01Once_c) Go.Proofs.Tryd.func85 (by kernel_rfl) (by kernel_rfl) rfl rfl (by kernel_rfl) (by kernel_rfl) rfl
theorem s_l02Draw_ok : OneF Go.Proofs.Tryd.prog gw 57 s_l02Draw_fi := fnOk_of (fn := Go.Proofs.Tryd.f57) (c := s_l02Draw_c) Go.Proofs.Tryd.func57 (by kernel_rfl) (by kernel_rfl) rfl rfl (by kernel_rfl) (by kernel_rfl) rfl
theorem s_l01In_ok : OneF Go.Proofs.Tryd.prog gw 50 s_l01In_fi := fnOk_of (fn := Go.Proofs.Tryd.f50) (c := s_l01In_c) Go.Proofs.Tryd.func50 (by kernel_rfl) (by kernel_rfl) rfl rfl (by kernel_rfl) (by kernel_rfl) rfl
theorem s_CardOf_ok : OneF Go.Proofs.Tryd.prog gw 79 s_CardOf_fi := fnOk_of (fn := Go.Proofs.Tryd.f79) (c := s_CardOf_c) Go.Proofs.Tryd.func79 (by kernel_rfl) (by kernel_rfl) rfl rfl (by kernel_rfl) (by kernel_rfl) rfl
theorem s_l02Has_ok : OneF Go.Proofs.Tryd.prog gw 95 s_l02Has_fi := fnOk_of (fn := Go.Proofs.Tryd.f95) (c := s_l02Has_c) Go.Proofs.Tryd.func95 (by kernel_rfl) (by kernel_rfl) rfl rfl (by kernel_rfl) (by kernel_rfl) rfl
theorem s_PacketOk_ok : OneF Go.Proofs.Tryd.prog gw 78 s_PacketOk_fi := fnOk_of (fn := Go.Proofs.Tryd.f78) (c := s_PacketOk_c) Go.Proofs.Tryd.func78 (by kernel_rfl) (by kernel_rfl) rfl rfl (by kernel_rfl) (by kernel_rfl) rfl
theorem s_l05Ok_ok : OneF Go.Proofs.Tryd.prog gw 86 s_l05Ok_fi := fnOk_of (fn := Go.Proofs.Tryd.f86) (c := s_l05Ok_c) Go.Proofs.Tryd.func86 (by kernel_rfl) (by kernel_rfl) rfl rfl (by kernel_rfl) (by kernel_rfl) rfl
theorem s_TurnCard_ok : OneF Go.Proofs.Tryd.prog gw 110 s_TurnCard_fi := fnOk_of (fn := Go.Proofs.Tryd.f110) (c := s_TurnCard_c) Go.Proofs.Tryd.func110 (by kernel_rfl) (by kernel_rfl) rfl rfl (by kernel_rfl) (by kernel_rfl) rfl
theorem s_l04Back_ok : OneF Go.Proofs.Tryd.prog gw 101 s_l04Back_fi := fnOk_of (fn := Go.Proofs.Tryd.f101) (c := s_l04Back_c) Go.Proofs.Tryd.func101 (by kernel_rfl) (by kernel_rfl) rfl rfl (by kernel_rfl) (by kernel_rfl) rfl
theorem s_l04Faro_ok : OneF Go.Proofs.Tryd.prog gw 118 s_l04Faro_fi := fnOk_of (fn := Go.Proofs.Tryd.f118) (c := s_l04Faro_c) Go.Proofs.Tryd.func118 (by kernel_rfl) (by kernel_rfl) rfl rfl (by kernel_rfl) (by kernel_rfl) rfl
theorem s_l04Monge_ok : OneF Go.Proofs.Tryd.prog gw 119 s_l04Monge_fi := fnOk_of (fn := Go.Proofs.Tryd.f119) (c := s_l04Monge_c) Go.Proofs.Tryd.func119 (by kernel_rfl) (by kernel_rfl) rfl rfl (by kernel_rfl) (by kernel_rfl) rfl
theorem s_l04Milk_ok : OneF Go.Proofs.Tryd.prog gw 120 s_l04Milk_fi := fnOk_of (fn := Go.Proofs.Tryd.f120) (c := s_l04Milk_c) Go.Proofs.Tryd.func120 (by kernel_rfl) (by kernel_rfl) rfl rfl (by kernel_rfl) (by kernel_rfl) rfl
theorem s_l04Duck_ok : OneF Go.Proofs.Tryd.prog gw 121 s_l04Duck_fi := fnOk_of (fn := Go.Proofs.Tryd.f121) (c := s_l04Duck_c) Go.Proofs.Tryd.func121 (by kernel_rfl) (by kernel_rfl) rfl rfl (by kernel_rfl) (by kernel_rfl) rfl
theorem s_l04Do_ok : OneF Go.Proofs.Tryd.prog gw 109 s_l04Do_fi := fnOk_of (fn := Go.Proofs.Tryd.f109) (c := s_l04Do_c) Go.Proofs.Tryd.func109 (by kernel_rfl) (by kernel_rfl) rfl rfl (by kernel_rfl) (by kernel_rfl) rfl
theorem s_l05Cuts_ok : OneF Go.Proofs.Tryd.prog gw 99 s_l05Cuts_fi := fnOk_of (fn := Go.Proofs.Tryd.f99) (c := s_l05Cuts_c) Go.Proofs.Tryd.func99 (by kernel_rfl) (by kernel_rfl) rfl rfl (by kernel_rfl) (by kernel_rfl) rfl
theorem s_l05Weave_ok : OneF Go.Proofs.Tryd.prog gw 100 s_l05Weave_fi := fnOk_of (fn := Go.Proofs.Tryd.f100) (c := s_l05Weave_c) Go.Proofs.Tryd.func100 (by kernel_rfl) (by kernel_rfl) rfl rfl (by kernel_rfl) (by kernel_rfl) rfl
theorem s_l05Of_ok : OneF Go.Proofs.Tryd.prog gw 89 s_l05Of_fi := fnOk_of (fn := Go.Proofs.Tryd.f89) (c := s_l05Of_c) Go.Proofs.Tryd.func89 (by kernel_rfl) (by kernel_rfl) rfl rfl (by kernel_rfl) (by kernel_rfl) rfl
theorem s_SamePacket_ok : OneF Go.Proofs.Tryd.prog gw 98 s_SamePacket_fi := fnOk_of (fn := Go.Proofs.Tryd.f98) (c := s_SamePacket_c) Go.Proofs.Tryd.func98 (by kernel_rfl) (by kernel_rfl) rfl rfl (by kernel_rfl) (by kernel_rfl) rfl
theorem s_l05Less_ok : OneF Go.Proofs.Tryd.prog gw 97 s_l05Less_fi := fnOk_of (fn := Go.Proofs.Tryd.f97) (c := s_l05Less_c) Go.Proofs.Tryd.func97 (by kernel_rfl) (by kernel_rfl) rfl rfl (by kernel_rfl) (by kernel_rfl) rfl
theorem s_l05Merge_ok : OneF Go.Proofs.Tryd.prog gw 87 s_l05Merge_fi := fnOk_of (fn := Go.Proofs.Tryd.f87) (c := s_l05Merge_c) Go.Proofs.Tryd.func87 (by kernel_rfl) (by kernel_rfl) rfl rfl (by kernel_rfl) (by kernel_rfl) rfl
theorem s_SortPackets_ok : OneF Go.Proofs.Tryd.prog gw 88 s_SortPackets_fi := fnOk_of (fn := Go.Proofs.Tryd.f88) (c := s_SortPackets_c) Go.Proofs.Tryd.func88 (by kernel_rfl) (by kernel_rfl) rfl rfl (by kernel_rfl) (by kernel_rfl) rfl
theorem s_ResultsAfter_ok : OneF Go.Proofs.Tryd.prog gw 59 s_ResultsAfter_fi := fnOk_of (fn := Go.Proofs.Tryd.f59) (c := s_ResultsAfter_c) Go.Proofs.Tryd.func59 (by kernel_rfl) (by kernel_rfl) rfl rfl (by kernel_rfl) (by kernel_rfl) rfl
theorem s_l15Draw_ok : OneF Go.Proofs.Tryd.prog gw 27 s_l15Draw_fi := fnOk_of (fn := Go.Proofs.Tryd.f27) (c := s_l15Draw_c) Go.Proofs.Tryd.func27 (by kernel_rfl) (by kernel_rfl) rfl rfl (by kernel_rfl) (by kernel_rfl) rfl
theorem s_MakeKnown_ok : OneF Go.Proofs.Tryd.prog gw 7 s_MakeKnown_fi := fnOk_of (fn := Go.Proofs.Tryd.f7) (c := s_MakeKnown_c) Go.Proofs.Tryd.func7 (by kernel_rfl) (by kernel_rfl) rfl rfl (by kernel_rfl) (by kernel_rfl) rfl
theorem s_l23New_ok : OneF Go.Proofs.Tryd.prog gw 29 s_l23New_fi := fnOk_of (fn := Go.Proofs.Tryd.f29) (c := s_l23New_c) Go.Proofs.Tryd.func29 (by kernel_rfl) (by kernel_rfl) rfl rfl (by kernel_rfl) (by kernel_rfl) rfl
theorem s_MakeNum_ok : OneF Go.Proofs.Tryd.prog gw 8 s_MakeNum_fi := fnOk_of (fn := Go.Proofs.Tryd.f8) (c := s_MakeNum_c) Go.Proofs.Tryd.func8 (by kernel_rfl) (by kernel_rfl) rfl rfl (by kernel_rfl) (by kernel_rfl) rfl
theorem i_CardOf_ok : OneF Go.Proofs.Tryd.prog gw 33 i_CardOf_fi := fnOk_of (fn := Go.Proofs.Tryd.f33) (c := i_CardOf_c) Go.Proofs.Tryd.func33 (by kernel_rfl) (by kernel_rfl) rfl rfl (by kernel_rfl) (by kernel_rfl) rfl
theorem i_PacketOk_ok : OneF Go.Proofs.Tryd.prog gw 52 i_PacketOk_fi := fnOk_of (fn := Go.Proofs.Tryd.f52) (c := i_PacketOk_c) Go.Proofs.Tryd.func52 (by kernel_rfl) (by kernel_rfl) rfl rfl (by kernel_rfl) (by kernel_rfl) rfl
theorem i_PositionOf_1_ok : OneF Go.Proofs.Tryd.prog gw 62 i_PositionOf_1_fi := fnOk_of (fn := Go.Proofs.Tryd.f62) (c := i_PositionOf_1_c) Go.Proofs.Tryd.func62 (by kernel_rfl) (by kernel_rfl) rfl rfl (by kernel_rfl) (by kernel_rfl) rfl
theorem slices_IndexFunc_int_of_i_PositionOf_1_ok : OneF Go.Proofs.Tryd.prog gw 61 slices_IndexFunc_int_of_i_PositionOf_1_fi := fnOk_of (fn := Go.Proofs.Tryd.f61) (c := slices_IndexFunc_int_of_i_PositionOf_1_c) Go.Proofs.Tryd.func61 (by kernel_rfl) (by kernel_rfl) rfl rfl (by kernel_rfl) (by kernel_rfl) rfl
theorem i_PositionOf_ok : OneF Go.Proofs.Tryd.prog gw 37 i_PositionOf_fi := fnOk_of (fn := Go.Proofs.Tryd.f37) (c := i_PositionOf_c) Go.Proofs.Tryd.func37 (by kernel_rfl) (by kernel_rfl) rfl rfl (by kernel_rfl) (by kernel_rfl) rfl
theorem i_IsArrangement_1_ok : OneF Go.Proofs.Tryd.prog gw 64 i_IsArrangement_1_fi := fnOk_of (fn := Go.Proofs.Tryd.f64) (c := i_IsArrangement_1_c) Go.Proofs.Tryd.func64 (by kernel_rfl) (by kernel_rfl) rfl rfl (by kernel_rfl) (by kernel_rfl) rfl
theorem slices_IndexFunc_int_of_i_IsArrangement_1_ok : OneF Go.Proofs.Tryd.prog gw 61 slices_IndexFunc_int_of_i_IsArrangement_1_fi := fnOk_of (fn := Go.Proofs.Tryd.f61) (c := slices_IndexFunc_int_of_i_IsArrangement_1_c) Go.Proofs.Tryd.func61 (by kernel_rfl) (by kernel_rfl) rfl rfl (by kernel_rfl) (by kernel_rfl) rfl
theorem slices_ContainsFunc_int_of_i_IsArrangement_1_ok : OneF Go.Proofs.Tryd.prog gw 63 slices_ContainsFunc_int_of_i_IsArrangement_1_fi := fnOk_of (fn := Go.Proofs.Tryd.f63) (c := slices_ContainsFunc_int_of_i_IsArrangement_1_c) Go.Proofs.Tryd.func63 (by kernel_rfl) (by kernel_rfl) rfl rfl (by kernel_rfl) (by kernel_rfl) rfl
theorem i_IsArrangement_ok : OneF Go.Proofs.Tryd.prog gw 39 i_IsArrangement_fi := fnOk_of (fn := Go.Proofs.Tryd.f39) (c := i_IsArrangement_c) Go.Proofs.Tryd.func39 (by kernel_rfl) (by kernel_rfl) rfl rfl (by kernel_rfl) (by kernel_rfl) rfl
theorem cmp_isNaN_int_ok : OneF Go.Proofs.Tryd.prog gw 90 cmp_isNaN_int_fi := fnOk_of (fn := Go.Proofs.Tryd.f90) (c := cmp_isNaN_int_c) Go.Proofs.Tryd.func90 (by kernel_rfl) (by kernel_rfl) rfl rfl (by kernel_rfl) (by kernel_rfl) rfl
theorem cmp_Compare_int_ok : OneF Go.Proofs.Tryd.prog gw 65 cmp_Compare_int_fi := fnOk_of (fn := Go.Proofs.Tryd.f65) (c := cmp_Compare_int_c) Go.Proofs.Tryd.func65 (by kernel_rfl) (by kernel_rfl) rfl rfl (by kernel_rfl) (by kernel_rfl) rfl
theorem slices_Compare_int_ok : OneF Go.Proofs.Tryd.prog gw 40 slices_Compare_int_fi := fnOk_of (fn := Go.Proofs.Tryd.f40) (c := slices_Compare_int_c) Go.Proofs.Tryd.func40 (by kernel_rfl) (by kernel_rfl) rfl rfl (by kernel_rfl) (by kernel_rfl) rfl
theorem i_KnowOk_ok : OneF Go.Proofs.Tryd.prog gw 13 i_KnowOk_fi := fnOk_of (fn := Go.Proofs.Tryd.f13) (c := i_KnowOk_c) Go.Proofs.Tryd.func13 (by kernel_rfl) (by kernel_rfl) rfl rfl (by kernel_rfl) (by kernel_rfl) rfl
theorem i_SeeCard_1_ok : OneF Go.Proofs.Tryd.prog gw 32 i_SeeCard_1_fi := fnOk_of (fn := Go.Proofs.Tryd.f32) (c := i_SeeCard_1_c) Go.Proofs.Tryd.func32 (by kernel_rfl) (by kernel_rfl) rfl rfl (by kernel_rfl) (by kernel_rfl) rfl
theorem slices_Clone_int_ok : OneF Go.Proofs.Tryd.prog gw 60 slices_Clone_int_fi := fnOk_of (fn := Go.Proofs.Tryd.f60) (c := slices_Clone_int_c) Go.Proofs.Tryd.func60 (by kernel_rfl) (by kernel_rfl) rfl rfl (by kernel_rfl) (by kernel_rfl) rfl
theorem i_those_of_i_SeeCard_1_ok : OneF Go.Proofs.Tryd.prog gw 31 i_those_of_i_SeeCard_1_fi := fnOk_of (fn := Go.Proofs.Tryd.f31) (c := i_those_of_i_SeeCard_1_c) Go.Proofs.Tryd.func31 (by kernel_rfl) (by kernel_rfl) rfl rfl (by kernel_rfl) (by kernel_rfl) rfl
theorem i_SeeCard_ok : OneF Go.Proofs.Tryd.prog gw 9 i_SeeCard_fi := fnOk_of (fn := Go.Proofs.Tryd.f9) (c := i_SeeCard_c) Go.Proofs.Tryd.func9 (by kernel_rfl) (by kernel_rfl) rfl rfl (by kernel_rfl) (by kernel_rfl) rfl
theorem i_KnownAt_1_ok : OneF Go.Proofs.Tryd.prog gw 35 i_KnownAt_1_fi := fnOk_of (fn := Go.Proofs.Tryd.f35) (c := i_KnownAt_1_c) Go.Proofs.Tryd.func35 (by kernel_rfl) (by kernel_rfl) rfl rfl (by kernel_rfl) (by kernel_rfl) rfl
theorem i_common_of_i_KnownAt_1_ok : OneF Go.Proofs.Tryd.prog gw 34 i_common_of_i_KnownAt_1_fi := fnOk_of (fn := Go.Proofs.Tryd.f34) (c := i_common_of_i_KnownAt_1_c) Go.Proofs.Tryd.func34 (by kernel_rfl) (by kernel_rfl) rfl rfl (by kernel_rfl) (by kernel_rfl) rfl
theorem i_KnownAt_ok : OneF Go.Proofs.Tryd.prog gw 10 i_KnownAt_fi := fnOk_of (fn := Go.Proofs.Tryd.f10) (c := i_KnownAt_c) Go.Proofs.Tryd.func10 (by kernel_rfl) (by kernel_rfl) rfl rfl (by kernel_rfl) (by kernel_rfl) rfl
theorem i_KnownIndexOf_1_ok : OneF Go.Proofs.Tryd.prog gw 36 i_KnownIndexOf_1_fi := fnOk_of (fn := Go.Proofs.Tryd.f36) (c := i_KnownIndexOf_1_c) Go.Proofs.Tryd.func36 (by kernel_rfl) (by kernel_rfl) rfl rfl (by kernel_rfl) (by kernel_rfl) rfl
theorem i_common_of_i_KnownIndexOf_1_ok : OneF Go.Proofs.Tryd.prog gw 34 i_common_of_i_KnownIndexOf_1_fi := fnOk_of (fn := Go.Proofs.Tryd.f34) (c := i_common_of_i_KnownIndexOf_1_c) Go.Proofs.Tryd.func34 (by kernel_rfl) (by kernel_rfl) rfl rfl (by kernel_rfl) (by kernel_rfl) rfl
theorem i_KnownIndexOf_ok : OneF Go.Proofs.Tryd.prog gw 11 i_KnownIndexOf_fi := fnOk_of (fn := Go.Proofs.Tryd.f11) (c := i_KnownIndexOf_c) Go.Proofs.Tryd.func11 (by kernel_rfl) (by kernel_rfl) rfl rfl (by kernel_rfl) (by kernel_rfl) rfl
theorem slices_Max_int_ok : OneF Go.Proofs.Tryd.prog gw 38 slices_Max_int_fi := fnOk_of (fn := Go.Proofs.Tryd.f38) (c := slices_Max_int_c) Go.Proofs.Tryd.func38 (by kernel_rfl) (by kernel_rfl) rfl rfl (by kernel_rfl) (by kernel_rfl) rfl
theorem i_BestLook_ok : OneF Go.Proofs.Tryd.prog gw 12 i_BestLook_fi := fnOk_of (fn := Go.Proofs.Tryd.f12) (c := i_BestLook_c) Go.Proofs.Tryd.func12 (by kernel_rfl) (by kernel_rfl) rfl rfl (by kernel_rfl) (by kernel_rfl) rfl
theorem i_CountKnown_ok : OneF Go.Proofs.Tryd.prog gw 14 i_CountKnown_fi := fnOk_of (fn := Go.Proofs.Tryd.f14) (c := i_CountKnown_c) Go.Proofs.Tryd.func14 (by kernel_rfl) (by kernel_rfl) rfl rfl (by kernel_rfl) (by kernel_rfl) rfl
theorem strconv_Itoa_ok : OneF Go.Proofs.Tryd.prog gw 66 strconv_Itoa_fi := itoa_ok Go.Proofs.Tryd.func66 (by kernel_rfl) (by kernel_rfl) (fun n w hw h0 h1 => Go.Proofs.Tryd.strconv_Itoa n h0 h1 w hw)
theorem i_FormatInt_ok : OneF Go.Proofs.Tryd.prog gw 41 i_FormatInt_fi := fnOk_of (fn := Go.Proofs.Tryd.f41) (c := i_FormatInt_c) Go.Proofs.Tryd.func41 (by kernel_rfl) (by kernel_rfl) rfl rfl (by kernel_rfl) (by kernel_rfl) rfl
theorem i_KnowLine_ok : OneF Go.Proofs.Tryd.prog gw 15 i_KnowLine_fi := fnOk_of (fn := Go.Proofs.Tryd.f15) (c := i_KnowLine_c) Go.Proofs.Tryd.func15 (by kernel_rfl) (by kernel_rfl) rfl rfl (by kernel_rfl) (by kernel_rfl) rfl
theorem w_FnKnows_ok : OneF Go.Proofs.Tryd.prog gw 3 w_FnKnows_fi := fnOk_of (fn := Go.Proofs.Tryd.f3) (c := w_FnKnows_c) Go.Proofs.Tryd.func3 (by kernel_rfl) (by kernel_rfl) rfl rfl (by kernel_rfl) (by kernel_rfl) rfl
theorem hF : FnOk Go.Proofs.Tryd.prog gw E := lookF_ok (l := fnL) ⟨s_l01New_ok, s_l01Byte_ok, s_l01Below_ok, s_l02Shuffle_ok, s_l01Once_ok, s_l02Draw_ok, s_l01In_ok, s_CardOf_ok, s_l02Has_ok, s_PacketOk_ok, s_l05Ok_ok, s_TurnCard_ok, s_l04Back_ok, s_l04Faro_ok, s_l04Monge_ok, s_l04Milk_ok, s_l04Duck_ok, s_l04Do_ok, s_l05Cuts_ok, s_l05Weave_ok, s_l05Of_ok, s_SamePacket_ok, s_l05Less_ok, s_l05Merge_ok, s_SortPackets_ok, s_ResultsAfter_ok, s_l15Draw_ok, s_MakeKnown_ok, s_l23New_ok, s_MakeNum_ok, i_CardOf_ok, i_PacketOk_ok, i_PositionOf_1_ok, slices_IndexFunc_int_of_i_PositionOf_1_ok, i_PositionOf_ok, i_IsArrangement_1_ok, slices_IndexFunc_int_of_i_IsArrangement_1_ok, slices_ContainsFunc_int_of_i_IsArrangement_1_ok, i_IsArrangement_ok, cmp_isNaN_int_ok, cmp_Compare_int_ok, slices_Compare_int_ok, i_KnowOk_ok, i_SeeCard_1_ok, slices_Clone_int_ok, i_those_of_i_SeeCard_1_ok, i_SeeCard_ok, i_KnownAt_1_ok, i_common_of_i_KnownAt_1_ok, i_KnownAt_ok, i_KnownIndexOf_1_ok, i_common_of_i_KnownIndexOf_1_ok, i_KnownIndexOf_ok, slices_Max_int_ok, i_BestLook_ok, i_CountKnown_ok, strconv_Itoa_ok, i_FormatInt_ok, i_KnowLine_ok, w_FnKnows_ok, trivial⟩
end Pt
