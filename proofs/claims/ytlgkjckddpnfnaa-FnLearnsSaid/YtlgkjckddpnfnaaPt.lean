/-
  The plain machine's telling of functions of the program. Printed by gen.py.
  Conditions: none; these are definitions and equations that the kernel checks.
-/
import Derived.Test.YtlgkjckddpnfnaaXvza
import Derived.Test.YtlgkjckddpnfnaaXvzj
import Derived.Test.YtlgkjckddpnfnaaXvzk
import Derived.Test.YtlgkjckddpnfnaaProg
import Derived.Test.YtlgkjckddpnfnaaCmf
import Derived.Test.YtlgkjckddpnfnaaSrt
namespace Pt
open Go Go.Vt
set_option linter.unusedVariables false
set_option maxRecDepth 100000

noncomputable def tyL : List (Nat × TI) := [(3, .one (.int .i64)),
  (4, .one (.bool)),
  (5, .one (.int .u8)),
  (22, .one (.slice (.int .i64))),
  (38, .one (.slice (.slice (.int .i64)))),
  (45, .struct [(0, 3), (1, 3)] [.int .i64, .int .i64] true),
  (74, .one (.slice (.int .u8))),
  (121, .arr 12 (.bool)),
  (125, .struct [(0, 74), (1, 3), (2, 3)] [.slice (.int .u8), .int .i64, .int .i64] false),
  (5022023, .flag),
  (5022031, .flag)]

/-! ### s_l01New -/
noncomputable def s_l01New_c : Code := (Go.Proofs.Try.f88.body).getD .skip
noncomputable def s_l01New_h : Nat → Option (List Hint)
  | 3 => some [.keep 0, .keep 3, .keep 4]
  | _ => none
noncomputable def s_l01New_fi : Fi := ⟨[.v (.slice (.int .u8)) false], [(false, [⟨.pair (.slice (.int .u8)) (.pair (.int .i64) (.int .i64)), some (false, false)⟩])], none, s_l01New_c, Go.Proofs.Try.f88.results.toList, 32, s_l01New_h⟩
/-! ### s_l01Byte -/
noncomputable def s_l01Byte_c : Code := (Go.Proofs.Try.f128.body).getD .skip
noncomputable def s_l01Byte_h : Nat → Option (List Hint)
  | _ => none
noncomputable def s_l01Byte_fi : Fi := ⟨[.p (.slice (.int .u8)) (.pair (.int .i64) (.int .i64))], [(false, [⟨.int .i64, none⟩])], none, s_l01Byte_c, Go.Proofs.Try.f128.results.toList, 58, s_l01Byte_h⟩
/-! ### s_l01Below -/
noncomputable def s_l01Below_c : Code := (Go.Proofs.Try.f127.body).getD .skip
noncomputable def s_l01Below_h : Nat → Option (List Hint)
  | _ => none
noncomputable def s_l01Below_fi : Fi := ⟨[.p (.slice (.int .u8)) (.pair (.int .i64) (.int .i64)), .v (.int .i64) false], [(false, [⟨.int .i64, none⟩])], none, s_l01Below_c, Go.Proofs.Try.f127.results.toList, 37, s_l01Below_h⟩
/-! ### s_l02Shuffle -/
noncomputable def s_l02Shuffle_c : Code := (Go.Proofs.Try.f146.body).getD .skip
noncomputable def s_l02Shuffle_h : Nat → Option (List Hint)
  | 3 => some [.box 0 500000 [.keep, .keep, .keep], .keep 1, .cell 5 (.row 100005 (.int .i64) true false), .keep 6]
  | _ => none
noncomputable def s_l02Shuffle_fi : Fi := ⟨[.p (.slice (.int .u8)) (.pair (.int .i64) (.int .i64)), .v (.int .i64) false], [(false, [⟨.slice (.int .i64), some (true, false)⟩])], none, s_l02Shuffle_c, Go.Proofs.Try.f146.results.toList, 34, s_l02Shuffle_h⟩
/-! ### s_l01Once -/
noncomputable def s_l01Once_c : Code := (Go.Proofs.Try.f147.body).getD .skip
noncomputable def s_l01Once_h : Nat → Option (List Hint)
  | _ => none
noncomputable def s_l01Once_fi : Fi := ⟨[.p (.slice (.int .u8)) (.pair (.int .i64) (.int .i64)), .v (.int .i64) false], [(false, [⟨.bool, none⟩])], none, s_l01Once_c, Go.Proofs.Try.f147.results.toList, 9, s_l01Once_h⟩
/-! ### s_l02Draw -/
noncomputable def s_l02Draw_c : Code := (Go.Proofs.Try.f126.body).getD .skip
noncomputable def s_l02Draw_h : Nat → Option (List Hint)
  | 4 => some [.box 0 500000 [.keep, .keep, .keep], .cell 5 (.row 100005 (.int .i64) true false), .keep 16, .keep 17]
  | _ => none
noncomputable def s_l02Draw_fi : Fi := ⟨[.p (.slice (.int .u8)) (.pair (.int .i64) (.int .i64)), .v (.int .i64) false], [(false, [⟨.slice (.int .i64), some (true, false)⟩])], none, s_l02Draw_c, Go.Proofs.Try.f126.results.toList, 32, s_l02Draw_h⟩
/-! ### s_l01In -/
noncomputable def s_l01In_c : Code := (Go.Proofs.Try.f55.body).getD .skip
noncomputable def s_l01In_h : Nat → Option (List Hint)
  | _ => none
noncomputable def s_l01In_fi : Fi := ⟨[.v (.int .i64) false, .v (.int .i64) false, .v (.int .i64) false], [(false, [⟨.bool, none⟩])], none, s_l01In_c, Go.Proofs.Try.f55.results.toList, 15, s_l01In_h⟩
/-! ### s_CardOf -/
noncomputable def s_CardOf_c : Code := (Go.Proofs.Try.f122.body).getD .skip
noncomputable def s_CardOf_h : Nat → Option (List Hint)
  | _ => none
noncomputable def s_CardOf_fi : Fi := ⟨[.v (.int .i64) false], [(false, [⟨.int .i64, none⟩])], none, s_CardOf_c, Go.Proofs.Try.f122.results.toList, 10, s_CardOf_h⟩
/-! ### s_l02Has -/
noncomputable def s_l02Has_c : Code := (Go.Proofs.Try.f123.body).getD .skip
noncomputable def s_l02Has_h : Nat → Option (List Hint)
  | 2 => some [.keep 1, .keep 7, .keep 8, .keep 9]
  | _ => none
noncomputable def s_l02Has_fi : Fi := ⟨[.v (.slice (.int .i64)) false, .v (.int .i64) false], [(false, [⟨.bool, none⟩])], none, s_l02Has_c, Go.Proofs.Try.f123.results.toList, 17, s_l02Has_h⟩
/-! ### s_PacketOk -/
noncomputable def s_PacketOk_c : Code := (Go.Proofs.Try.f75.body).getD .skip
noncomputable def s_PacketOk_h : Nat → Option (List Hint)
  | 5 => some [.cell 3 (.row 100003 (.int .i64) true false), .keep 11, .keep 12, .keep 13]
  | _ => none
noncomputable def s_PacketOk_fi : Fi := ⟨[.v (.slice (.int .i64)) false], [(false, [⟨.bool, none⟩])], none, s_PacketOk_c, Go.Proofs.Try.f75.results.toList, 31, s_PacketOk_h⟩
/-! ### s_l05Ok -/
noncomputable def s_l05Ok_c : Code := (Go.Proofs.Try.f120.body).getD .skip
noncomputable def s_l05Ok_h : Nat → Option (List Hint)
  | _ => none
noncomputable def s_l05Ok_fi : Fi := ⟨[.v (.slice (.int .i64)) false, .v (.int .i64) false], [(false, [⟨.bool, none⟩])], none, s_l05Ok_c, Go.Proofs.Try.f120.results.toList, 34, s_l05Ok_h⟩
/-! ### s_TurnCard -/
noncomputable def s_TurnCard_c : Code := (Go.Proofs.Try.f108.body).getD .skip
noncomputable def s_TurnCard_h : Nat → Option (List Hint)
  | _ => none
noncomputable def s_TurnCard_fi : Fi := ⟨[.v (.int .i64) false], [(false, [⟨.int .i64, none⟩])], none, s_TurnCard_c, Go.Proofs.Try.f108.results.toList, 9, s_TurnCard_h⟩
/-! ### s_l04Back -/
noncomputable def s_l04Back_c : Code := (Go.Proofs.Try.f103.body).getD .skip
noncomputable def s_l04Back_h : Nat → Option (List Hint)
  | 3 => some [.keep 0, .keep 1, .keep 2, .cell 7 (.row 100007 (.int .i64) true false), .keep 8]
  | _ => none
noncomputable def s_l04Back_fi : Fi := ⟨[.v (.slice (.int .i64)) false, .v (.int .i64) false, .v (.bool) false], [(false, [⟨.slice (.int .i64), some (true, false)⟩])], none, s_l04Back_c, Go.Proofs.Try.f103.results.toList, 37, s_l04Back_h⟩
/-! ### s_l04Faro -/
noncomputable def s_l04Faro_c : Code := (Go.Proofs.Try.f104.body).getD .skip
noncomputable def s_l04Faro_h : Nat → Option (List Hint)
  | 4 => some [.keep 1, .keep 5, .keep 6, .cell 7 (.row 100007 (.int .i64) true false)]
  | _ => none
noncomputable def s_l04Faro_fi : Fi := ⟨[.v (.slice (.int .i64)) false, .v (.int .i64) false], [(false, [⟨.slice (.int .i64), some (true, false)⟩])], none, s_l04Faro_c, Go.Proofs.Try.f104.results.toList, 59, s_l04Faro_h⟩
/-! ### s_l04Monge -/
noncomputable def s_l04Monge_c : Code := (Go.Proofs.Try.f105.body).getD .skip
noncomputable def s_l04Monge_h : Nat → Option (List Hint)
  | 3 => some [.keep 1, .cell 5 (.row 100005 (.int .i64) true false), .keep 9, .keep 10, .keep 11]
  | _ => none
noncomputable def s_l04Monge_fi : Fi := ⟨[.v (.slice (.int .i64)) false, .v (.int .i64) false], [(false, [⟨.slice (.int .i64), some (true, false)⟩])], none, s_l04Monge_c, Go.Proofs.Try.f105.results.toList, 34, s_l04Monge_h⟩
/-! ### s_l04Milk -/
noncomputable def s_l04Milk_c : Code := (Go.Proofs.Try.f106.body).getD .skip
noncomputable def s_l04Milk_h : Nat → Option (List Hint)
  | 2 => some [.keep 0, .cell 3 (.row 100003 (.int .i64) true false)]
  | _ => none
noncomputable def s_l04Milk_fi : Fi := ⟨[.v (.slice (.int .i64)) false], [(false, [⟨.slice (.int .i64), some (true, false)⟩])], none, s_l04Milk_c, Go.Proofs.Try.f106.results.toList, 30, s_l04Milk_h⟩
/-! ### s_l04Duck -/
noncomputable def s_l04Duck_c : Code := (Go.Proofs.Try.f107.body).getD .skip
noncomputable def s_l04Duck_h : Nat → Option (List Hint)
  | 4 => some [.cell 5 (.row 100005 (.int .i64) true false), .cell 6 (.row 100006 (.int .i64) true false), .keep 7]
  | _ => none
noncomputable def s_l04Duck_fi : Fi := ⟨[.v (.slice (.int .i64)) false, .v (.int .i64) false], [(false, [⟨.slice (.int .i64), some (true, false)⟩])], none, s_l04Duck_c, Go.Proofs.Try.f107.results.toList, 41, s_l04Duck_h⟩
/-! ### s_l04Do -/
noncomputable def s_l04Do_c : Code := (Go.Proofs.Try.f68.body).getD .skip
noncomputable def s_l04Do_h : Nat → Option (List Hint)
  | _ => none
noncomputable def s_l04Do_fi : Fi := ⟨[.v (.slice (.int .i64)) false, .v (.pair (.int .i64) (.int .i64)) true], [(false, [⟨.slice (.int .i64), some (true, false)⟩])], none, s_l04Do_c, Go.Proofs.Try.f68.results.toList, 90, s_l04Do_h⟩
/-! ### s_l05Cuts -/
noncomputable def s_l05Cuts_c : Code := (Go.Proofs.Try.f142.body).getD .skip
noncomputable def s_l05Cuts_h : Nat → Option (List Hint)
  | 3 => some [.keep 0, .cell 3 (.row 100003 (.slice (.int .i64)) true false), .keep 7, .keep 8]
  | _ => none
noncomputable def s_l05Cuts_fi : Fi := ⟨[.v (.slice (.int .i64)) false], [(false, [⟨.slice (.slice (.int .i64)), some (true, false)⟩])], none, s_l05Cuts_c, Go.Proofs.Try.f142.results.toList, 20, s_l05Cuts_h⟩
/-! ### s_l05Weave -/
noncomputable def s_l05Weave_c : Code := (Go.Proofs.Try.f143.body).getD .skip
noncomputable def s_l05Weave_h : Nat → Option (List Hint)
  | 999999 => some []
  | _ => none
noncomputable def s_l05Weave_fi : Fi := ⟨[.v (.slice (.slice (.int .i64))) false, .v (.slice (.int .i64)) false, .v (.slice (.int .i64)) false, .v (.slice (.int .i64)) false], [(false, [⟨.slice (.slice (.int .i64)), some (false, false)⟩])], none, s_l05Weave_c, Go.Proofs.Try.f143.results.toList, 54, s_l05Weave_h⟩
/-! ### s_l05Of -/
noncomputable def s_l05Of_c : Code := (Go.Proofs.Try.f121.body).getD .skip
noncomputable def s_l05Of_h : Nat → Option (List Hint)
  | 7 => some [.keep 0, .cell 5 (.row 100005 (.slice (.int .i64)) false false), .keep 6]
  | 15 => some [.keep 0, .cell 5 (.row 100005 (.slice (.int .i64)) true false), .keep 40, .keep 41, .keep 42]
  | _ => none
noncomputable def s_l05Of_fi : Fi := ⟨[.v (.slice (.int .i64)) false, .v (.int .i64) false], [(false, [⟨.slice (.slice (.int .i64)), some (false, false)⟩])], none, s_l05Of_c, Go.Proofs.Try.f121.results.toList, 69, s_l05Of_h⟩
/-! ### s_SamePacket -/
noncomputable def s_SamePacket_c : Code := (Go.Proofs.Try.f137.body).getD .skip
noncomputable def s_SamePacket_h : Nat → Option (List Hint)
  | 4 => some [.keep 1, .keep 12, .keep 13, .keep 14]
  | _ => none
noncomputable def s_SamePacket_fi : Fi := ⟨[.v (.slice (.int .i64)) false, .v (.slice (.int .i64)) false], [(false, [⟨.bool, none⟩])], none, s_SamePacket_c, Go.Proofs.Try.f137.results.toList, 26, s_SamePacket_h⟩
/-! ### s_l05Less -/
noncomputable def s_l05Less_c : Code := (Go.Proofs.Try.f102.body).getD .skip
noncomputable def s_l05Less_h : Nat → Option (List Hint)
  | 2 => some [.keep 0, .keep 1, .keep 7, .keep 8, .keep 9]
  | _ => none
noncomputable def s_l05Less_fi : Fi := ⟨[.v (.slice (.int .i64)) false, .v (.slice (.int .i64)) false], [(false, [⟨.bool, none⟩])], none, s_l05Less_c, Go.Proofs.Try.f102.results.toList, 36, s_l05Less_h⟩
/-! ### s_l05Merge -/
noncomputable def s_l05Merge_c : Code := (Go.Proofs.Try.f109.body).getD .skip
noncomputable def s_l05Merge_h : Nat → Option (List Hint)
  | 2 => some [.keep 0, .keep 1, .cell 5 (.row 450005 (.slice (.int .i64)) true false)]
  | _ => none
noncomputable def s_l05Merge_fi : Fi := ⟨[.v (.slice (.slice (.int .i64))) false, .v (.slice (.slice (.int .i64))) false], [(false, [⟨.slice (.slice (.int .i64)), some (true, false)⟩])], none, s_l05Merge_c, Go.Proofs.Try.f109.results.toList, 66, s_l05Merge_h⟩
/-! ### s_SortPackets -/
noncomputable def s_SortPackets_c : Code := (Go.Proofs.Try.f69.body).getD .skip
noncomputable def s_SortPackets_h : Nat → Option (List Hint)
  | _ => none
noncomputable def s_SortPackets_fi : Fi := ⟨[.v (.slice (.slice (.int .i64))) false], [(false, [⟨.slice (.slice (.int .i64)), some (true, false)⟩])], none, s_SortPackets_c, Go.Proofs.Try.f69.results.toList, 21, s_SortPackets_h⟩
/-! ### s_ResultsAfter -/
noncomputable def s_ResultsAfter_c : Code := (Go.Proofs.Try.f73.body).getD .skip
noncomputable def s_ResultsAfter_h : Nat → Option (List Hint)
  | 3 => some [.keep 1, .cell 6 (.row 100006 (.slice (.int .i64)) true false), .keep 10, .keep 11, .keep 12]
  | _ => none
noncomputable def s_ResultsAfter_fi : Fi := ⟨[.v (.slice (.slice (.int .i64))) false, .v (.int .i64) false], [(false, [⟨.slice (.slice (.int .i64)), some (true, false)⟩]), (false, [⟨.bool, none⟩])], none, s_ResultsAfter_c, Go.Proofs.Try.f73.results.toList, 31, s_ResultsAfter_h⟩
/-! ### s_l15Draw -/
noncomputable def s_l15Draw_c : Code := (Go.Proofs.Try.f87.body).getD .skip
noncomputable def s_l15Draw_h : Nat → Option (List Hint)
  | 3 => some [.box 0 500000 [.keep, .keep, .keep], .cell 3 (.row 100003 (.slice (.int .i64)) true false), .keep 4]
  | _ => none
noncomputable def s_l15Draw_fi : Fi := ⟨[.p (.slice (.int .u8)) (.pair (.int .i64) (.int .i64))], [(false, [⟨.slice (.slice (.int .i64)), some (true, false)⟩])], none, s_l15Draw_c, Go.Proofs.Try.f87.results.toList, 27, s_l15Draw_h⟩
/-! ### s_MakeKnown -/
noncomputable def s_MakeKnown_c : Code := (Go.Proofs.Try.f45.body).getD .skip
noncomputable def s_MakeKnown_h : Nat → Option (List Hint)
  | _ => none
noncomputable def s_MakeKnown_fi : Fi := ⟨[.v (.slice (.int .u8)) false], [(false, [⟨.slice (.slice (.int .i64)), some (true, false)⟩])], none, s_MakeKnown_c, Go.Proofs.Try.f45.results.toList, 6, s_MakeKnown_h⟩
/-! ### s_l23New -/
noncomputable def s_l23New_c : Code := (Go.Proofs.Try.f90.body).getD .skip
noncomputable def s_l23New_h : Nat → Option (List Hint)
  | 3 => some [.keep 1, .box 5 200005 [.keep, .keep, .keep], .keep 6]
  | _ => none
noncomputable def s_l23New_fi : Fi := ⟨[.v (.slice (.int .u8)) false, .v (.int .i64) false], [(false, [⟨.pair (.slice (.int .u8)) (.pair (.int .i64) (.int .i64)), some (false, false)⟩])], none, s_l23New_c, Go.Proofs.Try.f90.results.toList, 17, s_l23New_h⟩
/-! ### s_l04Draw -/
noncomputable def s_l04Draw_c : Code := (Go.Proofs.Try.f89.body).getD .skip
noncomputable def s_l04Draw_h : Nat → Option (List Hint)
  | _ => none
noncomputable def s_l04Draw_fi : Fi := ⟨[.p (.slice (.int .u8)) (.pair (.int .i64) (.int .i64)), .v (.int .i64) false], [(true, [⟨.int .i64, none⟩, ⟨.int .i64, none⟩])], none, s_l04Draw_c, Go.Proofs.Try.f89.results.toList, 36, s_l04Draw_h⟩
/-! ### s_MakeMove -/
noncomputable def s_MakeMove_c : Code := (Go.Proofs.Try.f46.body).getD .skip
noncomputable def s_MakeMove_h : Nat → Option (List Hint)
  | _ => none
noncomputable def s_MakeMove_fi : Fi := ⟨[.v (.slice (.int .u8)) false, .v (.int .i64) false, .v (.int .i64) false], [(true, [⟨.int .i64, none⟩, ⟨.int .i64, none⟩])], none, s_MakeMove_c, Go.Proofs.Try.f46.results.toList, 14, s_MakeMove_h⟩
/-! ### i_CardOf -/
noncomputable def i_CardOf_c : Code := (Go.Proofs.Try.f81.body).getD .skip
noncomputable def i_CardOf_h : Nat → Option (List Hint)
  | _ => none
noncomputable def i_CardOf_fi : Fi := ⟨[.v (.int .i64) false], [(false, [⟨.int .i64, none⟩])], none, i_CardOf_c, Go.Proofs.Try.f81.results.toList, 10, i_CardOf_h⟩
/-! ### i_PacketOk -/
noncomputable def i_PacketOk_c : Code := (Go.Proofs.Try.f78.body).getD .skip
noncomputable def i_PacketOk_h : Nat → Option (List Hint)
  | 3 => some [.arr 3 400003, .keep 7, .keep 8, .keep 9]
  | _ => none
noncomputable def i_PacketOk_fi : Fi := ⟨[.v (.slice (.int .i64)) false], [(false, [⟨.bool, none⟩])], none, i_PacketOk_c, Go.Proofs.Try.f78.results.toList, 25, i_PacketOk_h⟩
/-! ### i_PositionOf_1 -/
noncomputable def i_PositionOf_1_c : Code := (Go.Proofs.Try.f135.body).getD .skip
noncomputable def i_PositionOf_1_h : Nat → Option (List Hint)
  | _ => none
noncomputable def i_PositionOf_1_fi : Fi := ⟨[.v (.int .i64) false, .r (.int .i64)], [(false, [⟨.bool, none⟩])], none, i_PositionOf_1_c, Go.Proofs.Try.f135.results.toList, 8, i_PositionOf_1_h⟩
/-! ### slices_IndexFunc_int_of_i_PositionOf_1 -/
noncomputable def slices_IndexFunc_int_of_i_PositionOf_1_c : Code := (Go.Proofs.Try.f134.body).getD .skip
noncomputable def slices_IndexFunc_int_of_i_PositionOf_1_h : Nat → Option (List Hint)
  | 2 => some [.keep 0, .keep 1, .keep 7, .keep 8]
  | _ => none
noncomputable def slices_IndexFunc_int_of_i_PositionOf_1_fi : Fi := ⟨[.v (.slice (.int .i64)) false, .fn 135 [.int .i64]], [(false, [⟨.int .i64, none⟩])], none, slices_IndexFunc_int_of_i_PositionOf_1_c, Go.Proofs.Try.f134.results.toList, 19, slices_IndexFunc_int_of_i_PositionOf_1_h⟩
/-! ### i_PositionOf -/
noncomputable def i_PositionOf_c : Code := (Go.Proofs.Try.f98.body).getD .skip
noncomputable def i_PositionOf_h : Nat → Option (List Hint)
  | _ => none
noncomputable def i_PositionOf_fi : Fi := ⟨[.v (.slice (.int .i64)) false, .v (.int .i64) false], [(false, [⟨.int .i64, none⟩])], none, i_PositionOf_c, Go.Proofs.Try.f98.results.toList, 10, i_PositionOf_h⟩
/-! ### i_IsArrangement_1 -/
noncomputable def i_IsArrangement_1_c : Code := (Go.Proofs.Try.f130.body).getD .skip
noncomputable def i_IsArrangement_1_h : Nat → Option (List Hint)
  | _ => none
noncomputable def i_IsArrangement_1_fi : Fi := ⟨[.v (.int .i64) false, .r (.slice (.int .i64))], [(false, [⟨.bool, none⟩])], none, i_IsArrangement_1_c, Go.Proofs.Try.f130.results.toList, 9, i_IsArrangement_1_h⟩
/-! ### slices_IndexFunc_int_of_i_IsArrangement_1 -/
noncomputable def slices_IndexFunc_int_of_i_IsArrangement_1_c : Code := (Go.Proofs.Try.f134.body).getD .skip
noncomputable def slices_IndexFunc_int_of_i_IsArrangement_1_h : Nat → Option (List Hint)
  | 2 => some [.keep 0, .keep 1, .keep 7, .keep 8]
  | _ => none
noncomputable def slices_IndexFunc_int_of_i_IsArrangement_1_fi : Fi := ⟨[.v (.slice (.int .i64)) false, .fn 130 [.slice (.int .i64)]], [(false, [⟨.int .i64, none⟩])], none, slices_IndexFunc_int_of_i_IsArrangement_1_c, Go.Proofs.Try.f134.results.toList, 19, slices_IndexFunc_int_of_i_IsArrangement_1_h⟩
/-! ### slices_ContainsFunc_int_of_i_IsArrangement_1 -/
noncomputable def slices_ContainsFunc_int_of_i_IsArrangement_1_c : Code := (Go.Proofs.Try.f129.body).getD .skip
noncomputable def slices_ContainsFunc_int_of_i_IsArrangement_1_h : Nat → Option (List Hint)
  | _ => none
noncomputable def slices_ContainsFunc_int_of_i_IsArrangement_1_fi : Fi := ⟨[.v (.slice (.int .i64)) false, .fn 130 [.slice (.int .i64)]], [(false, [⟨.bool, none⟩])], none, slices_ContainsFunc_int_of_i_IsArrangement_1_c, Go.Proofs.Try.f129.results.toList, 9, slices_ContainsFunc_int_of_i_IsArrangement_1_h⟩
/-! ### i_IsArrangement -/
noncomputable def i_IsArrangement_c : Code := (Go.Proofs.Try.f91.body).getD .skip
noncomputable def i_IsArrangement_h : Nat → Option (List Hint)
  | _ => none
noncomputable def i_IsArrangement_fi : Fi := ⟨[.v (.slice (.int .i64)) false, .v (.slice (.int .i64)) false], [(false, [⟨.bool, none⟩])], none, i_IsArrangement_c, Go.Proofs.Try.f91.results.toList, 24, i_IsArrangement_h⟩
/-! ### cmp_isNaN_int -/
noncomputable def cmp_isNaN_int_c : Code := (Go.Proofs.Try.f148.body).getD .skip
noncomputable def cmp_isNaN_int_h : Nat → Option (List Hint)
  | _ => none
noncomputable def cmp_isNaN_int_fi : Fi := ⟨[.v (.int .i64) false], [(false, [⟨.bool, none⟩])], none, cmp_isNaN_int_c, Go.Proofs.Try.f148.results.toList, 6, cmp_isNaN_int_h⟩
/-! ### cmp_Compare_int -/
noncomputable def cmp_Compare_int_c : Code := (Go.Proofs.Try.f131.body).getD .skip
noncomputable def cmp_Compare_int_h : Nat → Option (List Hint)
  | _ => none
noncomputable def cmp_Compare_int_fi : Fi := ⟨[.v (.int .i64) false, .v (.int .i64) false], [(false, [⟨.int .i64, none⟩])], none, cmp_Compare_int_c, Go.Proofs.Try.f131.results.toList, 20, cmp_Compare_int_h⟩
/-! ### slices_Compare_int -/
noncomputable def slices_Compare_int_c : Code := (Go.Proofs.Try.f92.body).getD .skip
noncomputable def slices_Compare_int_h : Nat → Option (List Hint)
  | 2 => some [.keep 0, .keep 1, .keep 9, .keep 10, .keep 11]
  | _ => none
noncomputable def slices_Compare_int_fi : Fi := ⟨[.v (.slice (.int .i64)) false, .v (.slice (.int .i64)) false], [(false, [⟨.int .i64, none⟩])], none, slices_Compare_int_c, Go.Proofs.Try.f92.results.toList, 36, slices_Compare_int_h⟩
/-! ### i_KnowOk -/
noncomputable def i_KnowOk_c : Code := (Go.Proofs.Try.f47.body).getD .skip
noncomputable def i_KnowOk_h : Nat → Option (List Hint)
  | 4 => some [.keep 0, .keep 20, .keep 21, .keep 22]
  | _ => none
noncomputable def i_KnowOk_fi : Fi := ⟨[.v (.slice (.slice (.int .i64))) false], [(false, [⟨.bool, none⟩])], none, i_KnowOk_c, Go.Proofs.Try.f47.results.toList, 48, i_KnowOk_h⟩
/-! ### i_MoveOk -/
noncomputable def i_MoveOk_c : Code := (Go.Proofs.Try.f70.body).getD .skip
noncomputable def i_MoveOk_h : Nat → Option (List Hint)
  | _ => none
noncomputable def i_MoveOk_fi : Fi := ⟨[.v (.int .i64) false, .v (.pair (.int .i64) (.int .i64)) true], [(false, [⟨.bool, none⟩])], none, i_MoveOk_c, Go.Proofs.Try.f70.results.toList, 45, i_MoveOk_h⟩
/-! ### slices_Grow_int -/
noncomputable abbrev slices_Grow_int_fi : Fi := growFi
/-! ### slices_Concat_int -/
noncomputable def slices_Concat_int_c : Code := (Go.Proofs.Try.f110.body).getD .skip
noncomputable def slices_Concat_int_h : Nat → Option (List Hint)
  | 3 => some [.keep 0, .keep 3, .keep 9, .keep 10, .keep 11]
  | 11 => some [.cell 6 (.row 100006 (.int .i64) true false), .keep 25, .keep 26, .keep 27]
  | _ => none
noncomputable def slices_Concat_int_fi : Fi := ⟨[.v (.slice (.slice (.int .i64))) false], [(false, [⟨.slice (.int .i64), some (true, false)⟩])], none, slices_Concat_int_c, Go.Proofs.Try.f110.results.toList, 36, slices_Concat_int_h⟩
/-! ### slices_Clone_int -/
noncomputable def slices_Clone_int_c : Code := (Go.Proofs.Try.f80.body).getD .skip
noncomputable def slices_Clone_int_h : Nat → Option (List Hint)
  | _ => none
noncomputable def slices_Clone_int_fi : Fi := ⟨[.v (.slice (.int .i64)) false], [(false, [⟨.slice (.int .i64), some (true, false)⟩])], none, slices_Clone_int_c, Go.Proofs.Try.f80.results.toList, 8, slices_Clone_int_h⟩
/-! ### slices_Reverse_int -/
noncomputable abbrev slices_Reverse_int_fi : Fi := reverseFi
/-! ### i_reversed -/
noncomputable def i_reversed_c : Code := (Go.Proofs.Try.f111.body).getD .skip
noncomputable def i_reversed_h : Nat → Option (List Hint)
  | _ => none
noncomputable def i_reversed_fi : Fi := ⟨[.v (.slice (.int .i64)) false], [(false, [⟨.slice (.int .i64), some (true, false)⟩])], none, i_reversed_c, Go.Proofs.Try.f111.results.toList, 9, i_reversed_h⟩
/-! ### i_faro -/
noncomputable def i_faro_c : Code := (Go.Proofs.Try.f113.body).getD .skip
noncomputable def i_faro_h : Nat → Option (List Hint)
  | 4 => some [.keep 5, .keep 6, .cell 7 (.row 100007 (.int .i64) true true), .keep 8]
  | _ => none
noncomputable def i_faro_fi : Fi := ⟨[.v (.slice (.int .i64)) false, .v (.int .i64) false], [(false, [⟨.slice (.int .i64), some (true, true)⟩])], none, i_faro_c, Go.Proofs.Try.f113.results.toList, 59, i_faro_h⟩
/-! ### i_monge -/
noncomputable def i_monge_c : Code := (Go.Proofs.Try.f114.body).getD .skip
noncomputable def i_monge_h : Nat → Option (List Hint)
  | 3 => some [.keep 1, .cell 5 (.row 100005 (.int .i64) true false), .keep 8, .keep 9, .keep 10]
  | _ => none
noncomputable def i_monge_fi : Fi := ⟨[.v (.slice (.int .i64)) false, .v (.int .i64) false], [(false, [⟨.slice (.int .i64), some (true, false)⟩])], none, i_monge_c, Go.Proofs.Try.f114.results.toList, 34, i_monge_h⟩
/-! ### i_milk -/
noncomputable def i_milk_c : Code := (Go.Proofs.Try.f115.body).getD .skip
noncomputable def i_milk_h : Nat → Option (List Hint)
  | 2 => some [.keep 0, .cell 3 (.row 100003 (.int .i64) true false)]
  | _ => none
noncomputable def i_milk_fi : Fi := ⟨[.v (.slice (.int .i64)) false], [(false, [⟨.slice (.int .i64), some (true, false)⟩])], none, i_milk_c, Go.Proofs.Try.f115.results.toList, 28, i_milk_h⟩
/-! ### i_dealt -/
noncomputable def i_dealt_c : Code := (Go.Proofs.Try.f116.body).getD .skip
noncomputable def i_dealt_h : Nat → Option (List Hint)
  | 4 => some [.cell 5 (.row 100005 (.int .i64) true true), .cell 6 (.row 100006 (.int .i64) true false), .keep 7]
  | _ => none
noncomputable def i_dealt_fi : Fi := ⟨[.v (.slice (.int .i64)) false, .v (.int .i64) false], [(false, [⟨.slice (.int .i64), some (true, true)⟩])], none, i_dealt_c, Go.Proofs.Try.f116.results.toList, 35, i_dealt_h⟩
/-! ### i_TurnCard -/
noncomputable def i_TurnCard_c : Code := (Go.Proofs.Try.f112.body).getD .skip
noncomputable def i_TurnCard_h : Nat → Option (List Hint)
  | _ => none
noncomputable def i_TurnCard_fi : Fi := ⟨[.v (.int .i64) false], [(false, [⟨.int .i64, none⟩])], none, i_TurnCard_c, Go.Proofs.Try.f112.results.toList, 9, i_TurnCard_h⟩
/-! ### i_moved -/
noncomputable def i_moved_c : Code := (Go.Proofs.Try.f71.body).getD .skip
noncomputable def i_moved_h : Nat → Option (List Hint)
  | 10 => some [.keep 5, .cell 6 (.row 100006 (.int .i64) true false), .keep 7]
  | _ => none
noncomputable def i_moved_fi : Fi := ⟨[.v (.slice (.int .i64)) false, .v (.pair (.int .i64) (.int .i64)) true], [(false, [⟨.slice (.int .i64), some (true, false)⟩])], none, i_moved_c, Go.Proofs.Try.f71.results.toList, 106, i_moved_h⟩
/-! ### slices_SortFunc_int_int -/
noncomputable abbrev slices_SortFunc_int_int_fi : Fi := (sortFi 92)
/-! ### slices_CompactFunc_int_int -/
noncomputable abbrev slices_CompactFunc_int_int_fi : Fi := compactFi
/-! ### i_SortPackets -/
noncomputable def i_SortPackets_c : Code := (Go.Proofs.Try.f72.body).getD .skip
noncomputable def i_SortPackets_h : Nat → Option (List Hint)
  | 3 => some [.cell 3 (.row 100003 (.slice (.int .i64)) true true), .keep 6, .keep 7, .keep 8]
  | _ => none
noncomputable def i_SortPackets_fi : Fi := ⟨[.v (.slice (.slice (.int .i64))) false], [(false, [⟨.slice (.slice (.int .i64)), some (true, false)⟩])], none, i_SortPackets_c, Go.Proofs.Try.f72.results.toList, 22, i_SortPackets_h⟩
/-! ### i_AfterMove -/
noncomputable def i_AfterMove_c : Code := (Go.Proofs.Try.f23.body).getD .skip
noncomputable def i_AfterMove_h : Nat → Option (List Hint)
  | 5 => some [.box 3 200003 [.keep, .keep], .cell 6 (.row 100006 (.slice (.int .i64)) true true), .keep 21, .keep 22, .keep 23]
  | _ => none
noncomputable def i_AfterMove_fi : Fi := ⟨[.v (.slice (.slice (.int .i64))) false, .v (.pair (.int .i64) (.int .i64)) true], [(false, [⟨.slice (.slice (.int .i64)), some (true, false)⟩]), (false, [⟨.bool, none⟩])], none, i_AfterMove_c, Go.Proofs.Try.f23.results.toList, 36, i_AfterMove_h⟩
/-! ### i_cuts -/
noncomputable def i_cuts_c : Code := (Go.Proofs.Try.f144.body).getD .skip
noncomputable def i_cuts_h : Nat → Option (List Hint)
  | 3 => some [.keep 0, .cell 3 (.row 100003 (.slice (.int .i64)) true true), .keep 6, .keep 7]
  | _ => none
noncomputable def i_cuts_fi : Fi := ⟨[.v (.slice (.int .i64)) false], [(false, [⟨.slice (.slice (.int .i64)), some (true, true)⟩])], none, i_cuts_c, Go.Proofs.Try.f144.results.toList, 19, i_cuts_h⟩
/-! ### i_riffled -/
noncomputable def i_riffled_c : Code := (Go.Proofs.Try.f145.body).getD .skip
noncomputable def i_riffled_h : Nat → Option (List Hint)
  | 3 => some [.keep 0, .keep 1, .keep 5, .keep 6, .keep 11, .keep 12]
  | 9 => some [.keep 0, .keep 1, .keep 5, .keep 6, .cell 8 (.row 100008 (.int .i64) true true), .keep 24, .keep 25]
  | _ => none
noncomputable def i_riffled_fi : Fi := ⟨[.v (.slice (.int .i64)) false, .v (.int .i64) false], [(false, [⟨.slice (.int .i64), some (true, true)⟩])], none, i_riffled_c, Go.Proofs.Try.f145.results.toList, 53, i_riffled_h⟩
/-! ### i_all -/
noncomputable def i_all_c : Code := (Go.Proofs.Try.f125.body).getD .skip
noncomputable def i_all_h : Nat → Option (List Hint)
  | 9 => some [.keep 0, .cell 6 (.row 100006 (.slice (.int .i64)) true true), .keep 7]
  | 20 => some [.keep 0, .cell 8 (.row 100008 (.slice (.int .i64)) true true), .keep 48, .keep 49]
  | _ => none
noncomputable def i_all_fi : Fi := ⟨[.v (.slice (.int .i64)) false, .v (.int .i64) false], [(false, [⟨.slice (.slice (.int .i64)), some (true, false)⟩]), (false, [⟨.bool, none⟩])], none, i_all_c, Go.Proofs.Try.f125.results.toList, 71, i_all_h⟩
/-! ### i_ResultsOf -/
noncomputable def i_ResultsOf_c : Code := (Go.Proofs.Try.f82.body).getD .skip
noncomputable def i_ResultsOf_h : Nat → Option (List Hint)
  | _ => none
noncomputable def i_ResultsOf_fi : Fi := ⟨[.v (.slice (.int .i64)) false, .v (.int .i64) false], [(false, [⟨.slice (.slice (.int .i64)), some (true, false)⟩]), (false, [⟨.bool, none⟩])], none, i_ResultsOf_c, Go.Proofs.Try.f82.results.toList, 33, i_ResultsOf_h⟩
/-! ### i_ResultsAfter -/
noncomputable def i_ResultsAfter_c : Code := (Go.Proofs.Try.f74.body).getD .skip
noncomputable def i_ResultsAfter_h : Nat → Option (List Hint)
  | 3 => some [.keep 1, .cell 6 (.row 100006 (.slice (.int .i64)) true false), .keep 11, .keep 12, .keep 13]
  | _ => none
noncomputable def i_ResultsAfter_fi : Fi := ⟨[.v (.slice (.slice (.int .i64))) false, .v (.int .i64) false], [(false, [⟨.slice (.slice (.int .i64)), some (true, false)⟩]), (false, [⟨.bool, none⟩])], none, i_ResultsAfter_c, Go.Proofs.Try.f74.results.toList, 40, i_ResultsAfter_h⟩
/-! ### i_AfterChoice -/
noncomputable def i_AfterChoice_c : Code := (Go.Proofs.Try.f28.body).getD .skip
noncomputable def i_AfterChoice_h : Nat → Option (List Hint)
  | _ => none
noncomputable def i_AfterChoice_fi : Fi := ⟨[.v (.slice (.slice (.int .i64))) false, .v (.int .i64) false], [(false, [⟨.slice (.slice (.int .i64)), some (true, false)⟩]), (false, [⟨.bool, none⟩])], none, i_AfterChoice_c, Go.Proofs.Try.f28.results.toList, 14, i_AfterChoice_h⟩
/-! ### i_Perform -/
noncomputable def i_Perform_c : Code := (Go.Proofs.Try.f48.body).getD .skip
noncomputable def i_Perform_h : Nat → Option (List Hint)
  | _ => none
noncomputable def i_Perform_fi : Fi := ⟨[.v (.slice (.int .i64)) false, .v (.pair (.int .i64) (.int .i64)) true], [(false, [⟨.slice (.int .i64), some (true, false)⟩]), (false, [⟨.bool, none⟩])], none, i_Perform_c, Go.Proofs.Try.f48.results.toList, 19, i_Perform_h⟩
/-! ### w_same -/
noncomputable def w_same_c : Code := (Go.Proofs.Try.f93.body).getD .skip
noncomputable def w_same_h : Nat → Option (List Hint)
  | 4 => some [.keep 1, .keep 12, .keep 13, .keep 14]
  | _ => none
noncomputable def w_same_fi : Fi := ⟨[.v (.slice (.int .i64)) false, .v (.slice (.int .i64)) false], [(false, [⟨.bool, none⟩])], none, w_same_c, Go.Proofs.Try.f93.results.toList, 26, w_same_h⟩
/-! ### w_find -/
noncomputable def w_find_c : Code := (Go.Proofs.Try.f49.body).getD .skip
noncomputable def w_find_h : Nat → Option (List Hint)
  | 2 => some [.keep 1, .keep 7, .keep 8, .keep 9]
  | _ => none
noncomputable def w_find_fi : Fi := ⟨[.v (.slice (.slice (.int .i64))) false, .v (.slice (.int .i64)) false], [(false, [⟨.bool, none⟩])], none, w_find_c, Go.Proofs.Try.f49.results.toList, 17, w_find_h⟩
/-! ### i_IsUp -/
noncomputable def i_IsUp_c : Code := (Go.Proofs.Try.f50.body).getD .skip
noncomputable def i_IsUp_h : Nat → Option (List Hint)
  | _ => none
noncomputable def i_IsUp_fi : Fi := ⟨[.v (.int .i64) false], [(false, [⟨.bool, none⟩])], none, i_IsUp_c, Go.Proofs.Try.f50.results.toList, 10, i_IsUp_h⟩
/-! ### slices_Index_int -/
noncomputable def slices_Index_int_c : Code := (Go.Proofs.Try.f132.body).getD .skip
noncomputable def slices_Index_int_h : Nat → Option (List Hint)
  | 2 => some [.keep 0, .keep 1, .keep 7, .keep 8]
  | _ => none
noncomputable def slices_Index_int_fi : Fi := ⟨[.v (.slice (.int .i64)) false, .v (.int .i64) false], [(false, [⟨.int .i64, none⟩])], none, slices_Index_int_c, Go.Proofs.Try.f132.results.toList, 19, slices_Index_int_h⟩
/-! ### slices_Contains_int -/
noncomputable def slices_Contains_int_c : Code := (Go.Proofs.Try.f96.body).getD .skip
noncomputable def slices_Contains_int_h : Nat → Option (List Hint)
  | _ => none
noncomputable def slices_Contains_int_fi : Fi := ⟨[.v (.slice (.int .i64)) false, .v (.int .i64) false], [(false, [⟨.bool, none⟩])], none, slices_Contains_int_c, Go.Proofs.Try.f96.results.toList, 9, slices_Contains_int_h⟩
/-! ### i_SeeSides_1 -/
noncomputable def i_SeeSides_1_c : Code := (Go.Proofs.Try.f95.body).getD .skip
noncomputable def i_SeeSides_1_h : Nat → Option (List Hint)
  | 2 => some [.keep 1, .keep 6, .keep 7, .keep 8]
  | _ => none
noncomputable def i_SeeSides_1_fi : Fi := ⟨[.v (.slice (.int .i64)) false, .r (.slice (.int .i64))], [(false, [⟨.bool, none⟩])], none, i_SeeSides_1_c, Go.Proofs.Try.f95.results.toList, 20, i_SeeSides_1_h⟩
/-! ### i_those_of_i_SeeSides_1 -/
noncomputable def i_those_of_i_SeeSides_1_c : Code := (Go.Proofs.Try.f94.body).getD .skip
noncomputable def i_those_of_i_SeeSides_1_h : Nat → Option (List Hint)
  | 5 => some [.keep 1, .cell 5 (.row 100005 (.slice (.int .i64)) true true), .keep 11, .keep 12, .keep 13]
  | _ => none
noncomputable def i_those_of_i_SeeSides_1_fi : Fi := ⟨[.v (.slice (.slice (.int .i64))) false, .fn 95 [.slice (.int .i64)]], [(false, [⟨.slice (.slice (.int .i64)), some (true, true)⟩])], none, i_those_of_i_SeeSides_1_c, Go.Proofs.Try.f94.results.toList, 27, i_those_of_i_SeeSides_1_h⟩
/-! ### i_SeeSides -/
noncomputable def i_SeeSides_c : Code := (Go.Proofs.Try.f51.body).getD .skip
noncomputable def i_SeeSides_h : Nat → Option (List Hint)
  | _ => none
noncomputable def i_SeeSides_fi : Fi := ⟨[.v (.slice (.slice (.int .i64))) false, .v (.slice (.int .i64)) false], [(false, [⟨.slice (.slice (.int .i64)), some (true, true)⟩])], none, i_SeeSides_c, Go.Proofs.Try.f51.results.toList, 8, i_SeeSides_h⟩
/-! ### w_FnLearns -/
noncomputable def w_FnLearns_c : Code := (Go.Proofs.Try.f9.body).getD .skip
noncomputable def w_FnLearns_h : Nat → Option (List Hint)
  | 10 => some [.cell 3 (.val (.slice (.slice (.int .i64)))), .box 4 200004 [.keep, .keep], .cell 5 (.val (.slice (.slice (.int .i64)))), .cell 7 (.val (.slice (.slice (.int .i64)))), .cell 68 (.val (.slice (.slice (.int .i64)))), .keep 69, .keep 70]
  | 18 => some [.keep 3, .cell 13 (.row 100013 (.int .i64) true false), .keep 98, .keep 99, .keep 100]
  | _ => none
noncomputable def w_FnLearns_fi : Fi := ⟨[.v (.slice (.int .u8)) false], [(false, [⟨.bool, none⟩])], none, w_FnLearns_c, Go.Proofs.Try.f9.results.toList, 119, w_FnLearns_h⟩

noncomputable def fnL : List (Nat × List Nat × Fi) := [(88, [], s_l01New_fi),
  (128, [], s_l01Byte_fi),
  (127, [], s_l01Below_fi),
  (146, [], s_l02Shuffle_fi),
  (147, [], s_l01Once_fi),
  (126, [], s_l02Draw_fi),
  (55, [], s_l01In_fi),
  (122, [], s_CardOf_fi),
  (123, [], s_l02Has_fi),
  (75, [], s_PacketOk_fi),
  (120, [], s_l05Ok_fi),
  (108, [], s_TurnCard_fi),
  (103, [], s_l04Back_fi),
  (104, [], s_l04Faro_fi),
  (105, [], s_l04Monge_fi),
  (106, [], s_l04Milk_fi),
  (107, [], s_l04Duck_fi),
  (68, [], s_l04Do_fi),
  (142, [], s_l05Cuts_fi),
  (143, [], s_l05Weave_fi),
  (121, [], s_l05Of_fi),
  (137, [], s_SamePacket_fi),
  (102, [], s_l05Less_fi),
  (109, [], s_l05Merge_fi),
  (69, [], s_SortPackets_fi),
  (73, [], s_ResultsAfter_fi),
  (87, [], s_l15Draw_fi),
  (45, [], s_MakeKnown_fi),
  (90, [], s_l23New_fi),
  (89, [], s_l04Draw_fi),
  (46, [], s_MakeMove_fi),
  (81, [], i_CardOf_fi),
  (78, [], i_PacketOk_fi),
  (135, [], i_PositionOf_1_fi),
  (134, [135], slices_IndexFunc_int_of_i_PositionOf_1_fi),
  (98, [], i_PositionOf_fi),
  (130, [], i_IsArrangement_1_fi),
  (134, [130], slices_IndexFunc_int_of_i_IsArrangement_1_fi),
  (129, [130], slices_ContainsFunc_int_of_i_IsArrangement_1_fi),
  (91, [], i_IsArrangement_fi),
  (148, [], cmp_isNaN_int_fi),
  (131, [], cmp_Compare_int_fi),
  (92, [], slices_Compare_int_fi),
  (47, [], i_KnowOk_fi),
  (70, [], i_MoveOk_fi),
  (138, [], slices_Grow_int_fi),
  (110, [], slices_Concat_int_fi),
  (80, [], slices_Clone_int_fi),
  (139, [], slices_Reverse_int_fi),
  (111, [], i_reversed_fi),
  (113, [], i_faro_fi),
  (114, [], i_monge_fi),
  (115, [], i_milk_fi),
  (116, [], i_dealt_fi),
  (112, [], i_TurnCard_fi),
  (71, [], i_moved_fi),
  (117, [92], slices_SortFunc_int_int_fi),
  (118, [119], slices_CompactFunc_int_int_fi),
  (72, [], i_SortPackets_fi),
  (23, [], i_AfterMove_fi),
  (144, [], i_cuts_fi),
  (145, [], i_riffled_fi),
  (125, [], i_all_fi),
  (82, [], i_ResultsOf_fi),
  (74, [], i_ResultsAfter_fi),
  (28, [], i_AfterChoice_fi),
  (48, [], i_Perform_fi),
  (93, [], w_same_fi),
  (49, [], w_find_fi),
  (50, [], i_IsUp_fi),
  (132, [], slices_Index_int_fi),
  (96, [], slices_Contains_int_fi),
  (95, [], i_SeeSides_1_fi),
  (94, [95], i_those_of_i_SeeSides_1_fi),
  (51, [], i_SeeSides_fi),
  (9, [], w_FnLearns_fi)]
noncomputable def E : Env := ⟨lookT tyL, lookF fnL⟩

noncomputable def s_l01New (k : Nat) (x : List Int) : Option ((List Int) × Int × Int) := aFn E s_l01New_fi k x
noncomputable def s_l01New_l3 (k : Nat) (v0 : List Int) (v3 : Int) (v4 : Int) : Option ((List Int) × Int × Int) := aRun E k s_l01New_fi.rs (ioOf s_l01New_fi.ps) s_l01New_fi.res s_l01New_fi.hints [.code (sub s_l01New_c [1, 1, 0, 1, 0, 0, 0, 0]), .code (sub s_l01New_c [1, 1, 0, 1, 0, 0, 0, 1]), .code (sub s_l01New_c [1, 1, 0, 1, 0, 0, 1]), .inLoop (sub s_l01New_c [1, 1, 0, 1, 0, 0]), .inBlock 0, .code (sub s_l01New_c [1, 1, 1])] ⟨[.cv (.val (.slice (.int .u8)) v0), .cv .dead, .cv .dead, .cv (.val (.int .i64) v3), .cv (.val (.int .i64) v4), .cv .dead, .cv .dead, .cv .dead, .cv .dead, .cv .dead, .cv .dead, .cv .dead, .cv .dead, .cv .dead, .cv .dead, .cv .dead, .cv .dead, .cv .dead, .cv .dead, .cv .dead, .cv .dead, .cv .dead, .cv .dead, .cv .dead, .cv .dead, .cv .dead, .cv .dead, .cv .dead, .cv .dead, .cv .dead, .cv .dead, .cv .dead], [], true⟩
noncomputable def s_l01Byte (k : Nat) (x : (List Int) × Int × Int) : Option ((Int) × (List Int) × Int × Int) := aFn E s_l01Byte_fi k x
noncomputable def s_l01Below (k : Nat) (x : ((List Int) × Int × Int) × Int) : Option ((Int) × (List Int) × Int × Int) := aFn E s_l01Below_fi k x
noncomputable def s_l02Shuffle (k : Nat) (x : ((List Int) × Int × Int) × Int) : Option ((List Int) × (List Int) × Int × Int) := aFn E s_l02Shuffle_fi k x
noncomputable def s_l02Shuffle_l3 (k : Nat) (v1 : Int) (v6 : Int) (o100005 : List Int) (o500000_0 : List Int) (o500000_1 : Int) (o500000_2 : Int) : Option ((List Int) × (List Int) × Int × Int) := aRun E k s_l02Shuffle_fi.rs (ioOf s_l02Shuffle_fi.ps) s_l02Shuffle_fi.res s_l02Shuffle_fi.hints [.code (sub s_l02Shuffle_c [1, 1, 0, 1, 0, 0, 0, 0]), .code (sub s_l02Shuffle_c [1, 1, 0, 1, 0, 0, 0, 1]), .code (sub s_l02Shuffle_c [1, 1, 0, 1, 0, 0, 1]), .inLoop (sub s_l02Shuffle_c [1, 1, 0, 1, 0, 0]), .inBlock 0, .code (sub s_l02Shuffle_c [1, 1, 1])] ⟨[.adr 500000 0, .cv (.val (.int .i64) v1), .cv .dead, .cv .dead, .cv .dead, .cv (.own 100005), .cv (.val (.int .i64) v6), .cv .dead, .cv .dead, .cv .dead, .cv .dead, .cv .dead, .cv .dead, .cv .dead, .cv .dead, .cv .dead, .cv .dead, .cv .dead, .cv .dead, .cv .dead, .cv .dead, .cv .dead, .cv .dead, .cv .dead, .cv .dead, .cv .dead, .cv .dead, .cv .dead, .cv .dead, .cv .dead, .cv .dead, .cv .dead, .cv .dead, .cv .dead], [(100005, .row (.int .i64) o100005 true false), (500000, .box [.val (.slice (.int .u8)) o500000_0, .val (.int .i64) o500000_1, .val (.int .i64) o500000_2])], true⟩
noncomputable def s_l01Once (k : Nat) (x : ((List Int) × Int × Int) × Int) : Option ((Bool) × (List Int) × Int × Int) := aFn E s_l01Once_fi k x
noncomputable def s_l02Draw (k : Nat) (x : ((List Int) × Int × Int) × Int) : Option ((List Int) × (List Int) × Int × Int) := aFn E s_l02Draw_fi k x
noncomputable def s_l02Draw_l4 (k : Nat) (v16 : Int) (v17 : Int) (o100005 : List Int) (o500000_0 : List Int) (o500000_1 : Int) (o500000_2 : Int) : Option ((List Int) × (List Int) × Int × Int) := aRun E k s_l02Draw_fi.rs (ioOf s_l02Draw_fi.ps) s_l02Draw_fi.res s_l02Draw_fi.hints [.code (sub s_l02Draw_c [1, 1, 0, 1, 0, 1, 0, 0, 0]), .code (sub s_l02Draw_c [1, 1, 0, 1, 0, 1, 0, 0, 1]), .inLoop (sub s_l02Draw_c [1, 1, 0, 1, 0, 1, 0, 0]), .inBlock 0, .code (sub s_l02Draw_c [1, 1, 1])] ⟨[.adr 500000 0, .cv .dead, .cv .dead, .cv .dead, .cv .dead, .cv (.own 100005), .cv .dead, .cv .dead, .cv .dead, .cv .dead, .cv .dead, .cv .dead, .cv .dead, .cv .dead, .cv .dead, .cv .dead, .cv (.val (.int .i64) v16), .cv (.val (.int .i64) v17), .cv .dead, .cv .dead, .cv .dead, .cv .dead, .cv .dead, .cv .dead, .cv .dead, .cv .dead, .cv .dead, .cv .dead, .cv .dead, .cv .dead, .cv .dead, .cv .dead], [(100005, .row (.int .i64) o100005 true false), (500000, .box [.val (.slice (.int .u8)) o500000_0, .val (.int .i64) o500000_1, .val (.int .i64) o500000_2])], true⟩
noncomputable def s_l01In (k : Nat) (x : Int × Int × Int) : Option (Bool) := aFn E s_l01In_fi k x
noncomputable def s_CardOf (k : Nat) (x : Int) : Option (Int) := aFn E s_CardOf_fi k x
noncomputable def s_l02Has (k : Nat) (x : (List Int) × Int) : Option (Bool) := aFn E s_l02Has_fi k x
noncomputable def s_l02Has_l2 (k : Nat) (v1 : Int) (v7 : List Int) (v8 : Int) (v9 : Int) : Option (Bool) := aRun E k s_l02Has_fi.rs (ioOf s_l02Has_fi.ps) s_l02Has_fi.res s_l02Has_fi.hints [.code (sub s_l02Has_c [1, 0, 1, 0, 0, 0]), .code (sub s_l02Has_c [1, 0, 1, 0, 0, 1]), .inLoop (sub s_l02Has_c [1, 0, 1, 0, 0]), .inBlock 0, .code (sub s_l02Has_c [1, 1])] ⟨[.cv .dead, .cv (.val (.int .i64) v1), .cv .dead, .cv .dead, .cv .dead, .cv .dead, .cv .dead, .cv (.val (.slice (.int .i64)) v7), .cv (.val (.int .i64) v8), .cv (.val (.int .i64) v9), .cv .dead, .cv .dead, .cv .dead, .cv .dead, .cv .dead, .cv .dead, .cv .dead], [], true⟩
noncomputable def s_PacketOk (k : Nat) (x : List Int) : Option (Bool) := aFn E s_PacketOk_fi k x
noncomputable def s_PacketOk_l5 (k : Nat) (v11 : List Int) (v12 : Int) (v13 : Int) (o100003 : List Int) : Option (Bool) := aRun E k s_PacketOk_fi.rs (ioOf s_PacketOk_fi.ps) s_PacketOk_fi.res s_PacketOk_fi.hints [.code (sub s_PacketOk_c [1, 1, 1, 0, 1, 0, 0, 0]), .code (sub s_PacketOk_c [1, 1, 1, 0, 1, 0, 0, 1]), .inLoop (sub s_PacketOk_c [1, 1, 1, 0, 1, 0, 0]), .inBlock 0, .code (sub s_PacketOk_c [1, 1, 1, 1])] ⟨[.cv .dead, .cv .dead, .cv .dead, .cv (.own 100003), .cv .dead, .cv .dead, .cv .dead, .cv .dead, .cv .dead, .cv .dead, .cv .dead, .cv (.val (.slice (.int .i64)) v11), .cv (.val (.int .i64) v12), .cv (.val (.int .i64) v13), .cv .dead, .cv .dead, .cv .dead, .cv .dead, .cv .dead, .cv .dead, .cv .dead, .cv .dead, .cv .dead, .cv .dead, .cv .dead, .cv .dead, .cv .dead, .cv .dead, .cv .dead, .cv .dead, .cv .dead], [(100003, .row (.int .i64) o100003 true false)], true⟩
noncomputable def s_l05Ok (k : Nat) (x : (List Int) × Int) : Option (Bool) := aFn E s_l05Ok_fi k x
noncomputable def s_TurnCard (k : Nat) (x : Int) : Option (Int) := aFn E s_TurnCard_fi k x
noncomputable def s_l04Back (k : Nat) (x : (List Int) × Int × Bool) : Option (List Int) := aFn E s_l04Back_fi k x
noncomputable def s_l04Back_l3 (k : Nat) (v0 : List Int) (v1 : Int) (v2 : Bool) (v8 : Int) (o100007 : List Int) : Option (List Int) := aRun E k s_l04Back_fi.rs (ioOf s_l04Back_fi.ps) s_l04Back_fi.res s_l04Back_fi.hints [.code (sub s_l04Back_c [1, 1, 0, 1, 0, 0, 0, 0]), .code (sub s_l04Back_c [1, 1, 0, 1, 0, 0, 0, 1]), .code (sub s_l04Back_c [1, 1, 0, 1, 0, 0, 1]), .inLoop (sub s_l04Back_c [1, 1, 0, 1, 0, 0]), .inBlock 0, .code (sub s_l04Back_c [1, 1, 1])] ⟨[.cv (.val (.slice (.int .i64)) v0), .cv (.val (.int .i64) v1), .cv (.val (.bool) v2), .cv .dead, .cv .dead, .cv .dead, .cv .dead, .cv (.own 100007), .cv (.val (.int .i64) v8), .cv .dead, .cv .dead, .cv .dead, .cv .dead, .cv .dead, .cv .dead, .cv .dead, .cv .dead, .cv .dead, .cv .dead, .cv .dead, .cv .dead, .cv .dead, .cv .dead, .cv .dead, .cv .dead, .cv .dead, .cv .dead, .cv .dead, .cv .dead, .cv .dead, .cv .dead, .cv .dead, .cv .dead, .cv .dead, .cv .dead, .cv .dead, .cv .dead], [(100007, .row (.int .i64) o100007 true false)], true⟩
noncomputable def s_l04Faro (k : Nat) (x : (List Int) × Int) : Option (List Int) := aFn E s_l04Faro_fi k x
noncomputable def s_l04Faro_l4 (k : Nat) (v1 : Int) (v5 : List Int) (v6 : List Int) (o100007 : List Int) : Option (List Int) := aRun E k s_l04Faro_fi.rs (ioOf s_l04Faro_fi.ps) s_l04Faro_fi.res s_l04Faro_fi.hints [.code (sub s_l04Faro_c [1, 1, 1, 1, 0, 0, 0, 0, 0]), .code (sub s_l04Faro_c [1, 1, 1, 1, 0, 0, 0, 0, 1]), .code (sub s_l04Faro_c [1, 1, 1, 1, 0, 0, 0, 1]), .inLoop (sub s_l04Faro_c [1, 1, 1, 1, 0, 0, 0]), .inBlock 0, .code (sub s_l04Faro_c [1, 1, 1, 1, 1])] ⟨[.cv .dead, .cv (.val (.int .i64) v1), .cv .dead, .cv .dead, .cv .dead, .cv (.val (.slice (.int .i64)) v5), .cv (.val (.slice (.int .i64)) v6), .cv (.own 100007), .cv .dead, .cv .dead, .cv .dead, .cv .dead, .cv .dead, .cv .dead, .cv .dead, .cv .dead, .cv .dead, .cv .dead, .cv .dead, .cv .dead, .cv .dead, .cv .dead, .cv .dead, .cv .dead, .cv .dead, .cv .dead, .cv .dead, .cv .dead, .cv .dead, .cv .dead, .cv .dead, .cv .dead, .cv .dead, .cv .dead, .cv .dead, .cv .dead, .cv .dead, .cv .dead, .cv .dead, .cv .dead, .cv .dead, .cv .dead, .cv .dead, .cv .dead, .cv .dead, .cv .dead, .cv .dead, .cv .dead, .cv .dead, .cv .dead, .cv .dead, .cv .dead, .cv .dead, .cv .dead, .cv .dead, .cv .dead, .cv .dead, .cv .dead, .cv .dead], [(100007, .row (.int .i64) o100007 true false)], true⟩
noncomputable def s_l04Monge (k : Nat) (x : (List Int) × Int) : Option (List Int) := aFn E s_l04Monge_fi k x
noncomputable def s_l04Monge_l3 (k : Nat) (v1 : Int) (v9 : List Int) (v10 : Int) (v11 : Int) (o100005 : List Int) : Option (List Int) := aRun E k s_l04Monge_fi.rs (ioOf s_l04Monge_fi.ps) s_l04Monge_fi.res s_l04Monge_fi.hints [.code (sub s_l04Monge_c [1, 1, 0, 1, 0, 0, 0]), .code (sub s_l04Monge_c [1, 1, 0, 1, 0, 0, 1]), .inLoop (sub s_l04Monge_c [1, 1, 0, 1, 0, 0]), .inBlock 0, .code (sub s_l04Monge_c [1, 1, 1])] ⟨[.cv .dead, .cv (.val (.int .i64) v1), .cv .dead, .cv .dead, .cv .dead, .cv (.own 100005), .cv .dead, .cv .dead, .cv .dead, .cv (.val (.slice (.int .i64)) v9), .cv (.val (.int .i64) v10), .cv (.val (.int .i64) v11), .cv .dead, .cv .dead, .cv .dead, .cv .dead, .cv .dead, .cv .dead, .cv .dead, .cv .dead, .cv .dead, .cv .dead, .cv .dead, .cv .dead, .cv .dead, .cv .dead, .cv .dead, .cv .dead, .cv .dead, .cv .dead, .cv .dead, .cv .dead, .cv .dead, .cv .dead], [(100005, .row (.int .i64) o100005 true false)], true⟩
noncomputable def s_l04Milk (k : Nat) (x : List Int) : Option (List Int) := aFn E s_l04Milk_fi k x
noncomputable def s_l04Milk_l2 (k : Nat) (v0 : List Int) (o100003 : List Int) : Option (List Int) := aRun E k s_l04Milk_fi.rs (ioOf s_l04Milk_fi.ps) s_l04Milk_fi.res s_l04Milk_fi.hints [.code (sub s_l04Milk_c [1, 1, 0, 0, 0, 0, 0]), .code (sub s_l04Milk_c [1, 1, 0, 0, 0, 0, 1]), .code (sub s_l04Milk_c [1, 1, 0, 0, 0, 1]), .inLoop (sub s_l04Milk_c [1, 1, 0, 0, 0]), .inBlock 0, .code (sub s_l04Milk_c [1, 1, 1])] ⟨[.cv (.val (.slice (.int .i64)) v0), .cv .dead, .cv .dead, .cv (.own 100003), .cv .dead, .cv .dead, .cv .dead, .cv .dead, .cv .dead, .cv .dead, .cv .dead, .cv .dead, .cv .dead, .cv .dead, .cv .dead, .cv .dead, .cv .dead, .cv .dead, .cv .dead, .cv .dead, .cv .dead, .cv .dead, .cv .dead, .cv .dead, .cv .dead, .cv .dead, .cv .dead, .cv .dead, .cv .dead, .cv .dead], [(100003, .row (.int .i64) o100003 true false)], true⟩
noncomputable def s_l04Duck (k : Nat) (x : (List Int) × Int) : Option (List Int) := aFn E s_l04Duck_fi k x
noncomputable def s_l04Duck_l4 (k : Nat) (v7 : Int) (o100005 : List Int) (o100006 : List Int) : Option (List Int) := aRun E k s_l04Duck_fi.rs (ioOf s_l04Duck_fi.ps) s_l04Duck_fi.res s_l04Duck_fi.hints [.code (sub s_l04Duck_c [1, 1, 1, 0, 1, 0, 0, 0, 0]), .code (sub s_l04Duck_c [1, 1, 1, 0, 1, 0, 0, 0, 1]), .code (sub s_l04Duck_c [1, 1, 1, 0, 1, 0, 0, 1]), .inLoop (sub s_l04Duck_c [1, 1, 1, 0, 1, 0, 0]), .inBlock 0, .code (sub s_l04Duck_c [1, 1, 1, 1])] ⟨[.cv .dead, .cv .dead, .cv .dead, .cv .dead, .cv .dead, .cv (.own 100005), .cv (.own 100006), .cv (.val (.int .i64) v7), .cv .dead, .cv .dead, .cv .dead, .cv .dead, .cv .dead, .cv .dead, .cv .dead, .cv .dead, .cv .dead, .cv .dead, .cv .dead, .cv .dead, .cv .dead, .cv .dead, .cv .dead, .cv .dead, .cv .dead, .cv .dead, .cv .dead, .cv .dead, .cv .dead, .cv .dead, .cv .dead, .cv .dead, .cv .dead, .cv .dead, .cv .dead, .cv .dead, .cv .dead, .cv .dead, .cv .dead, .cv .dead, .cv .dead], [(100005, .row (.int .i64) o100005 true false), (100006, .row (.int .i64) o100006 true false)], true⟩
noncomputable def s_l04Do (k : Nat) (x : (List Int) × Int × Int) : Option (List Int) := aFn E s_l04Do_fi k x
noncomputable def s_l05Cuts (k : Nat) (x : List Int) : Option (List (List Int)) := aFn E s_l05Cuts_fi k x
noncomputable def s_l05Cuts_l3 (k : Nat) (v0 : List Int) (v7 : Int) (v8 : Int) (o100003 : List (List Int)) : Option (List (List Int)) := aRun E k s_l05Cuts_fi.rs (ioOf s_l05Cuts_fi.ps) s_l05Cuts_fi.res s_l05Cuts_fi.hints [.code (sub s_l05Cuts_c [1, 1, 0, 1, 0, 0, 0]), .code (sub s_l05Cuts_c [1, 1, 0, 1, 0, 0, 1]), .inLoop (sub s_l05Cuts_c [1, 1, 0, 1, 0, 0]), .inBlock 0, .code (sub s_l05Cuts_c [1, 1, 1])] ⟨[.cv (.val (.slice (.int .i64)) v0), .cv .dead, .cv .dead, .cv (.own 100003), .cv .dead, .cv .dead, .cv .dead, .cv (.val (.int .i64) v7), .cv (.val (.int .i64) v8), .cv .dead, .cv .dead, .cv .dead, .cv .dead, .cv .dead, .cv .dead, .cv .dead, .cv .dead, .cv .dead, .cv .dead, .cv .dead], [(100003, .row (.slice (.int .i64)) o100003 true false)], true⟩
noncomputable def s_l05Weave (k : Nat) (x : (List (List Int)) × (List Int) × (List Int) × List Int) : Option (List (List Int)) := aFn E s_l05Weave_fi k x
noncomputable def s_l05Of (k : Nat) (x : (List Int) × Int) : Option (List (List Int)) := aFn E s_l05Of_fi k x
noncomputable def s_l05Of_l7 (k : Nat) (v0 : List Int) (v6 : Int) (o100005 : List (List Int)) : Option (List (List Int)) := aRun E k s_l05Of_fi.rs (ioOf s_l05Of_fi.ps) s_l05Of_fi.res s_l05Of_fi.hints [.code (sub s_l05Of_c [1, 1, 0, 1, 0, 1, 1, 1, 0, 0, 1, 0, 0, 0, 0]), .code (sub s_l05Of_c [1, 1, 0, 1, 0, 1, 1, 1, 0, 0, 1, 0, 0, 0, 1]), .code (sub s_l05Of_c [1, 1, 0, 1, 0, 1, 1, 1, 0, 0, 1, 0, 0, 1]), .inLoop (sub s_l05Of_c [1, 1, 0, 1, 0, 1, 1, 1, 0, 0, 1, 0, 0]), .inBlock 1, .code (sub s_l05Of_c [1, 1, 0, 1, 0, 1, 1, 1, 0, 1]), .inBlock 0, .code (sub s_l05Of_c [1, 1, 1])] ⟨[.cv (.val (.slice (.int .i64)) v0), .cv .dead, .cv .dead, .cv .dead, .cv .dead, .cv (.own 100005), .cv (.val (.int .i64) v6), .cv .dead, .cv .dead, .cv .dead, .cv .dead, .cv .dead, .cv .dead, .cv .dead, .cv .dead, .cv .dead, .cv .dead, .cv .dead, .cv .dead, .cv .dead, .cv .dead, .cv .dead, .cv .dead, .cv .dead, .cv .dead, .cv .dead, .cv .dead, .cv .dead, .cv .dead, .cv .dead, .cv .dead, .cv .dead, .cv .dead, .cv .dead, .cv .dead, .cv .dead, .cv .dead, .cv .dead, .cv .dead, .cv .dead, .cv .dead, .cv .dead, .cv .dead, .cv .dead, .cv .dead, .cv .dead, .cv .dead, .cv .dead, .cv .dead, .cv .dead, .cv .dead, .cv .dead, .cv .dead, .cv .dead, .cv .dead, .cv .dead, .cv .dead, .cv .dead, .cv .dead, .cv .dead, .cv .dead, .cv .dead, .cv .dead, .cv .dead, .cv .dead, .cv .dead, .cv .dead, .cv .dead, .cv .dead], [(100005, .row (.slice (.int .i64)) o100005 false false)], true⟩
noncomputable def s_l05Of_l15 (k : Nat) (v0 : List Int) (v40 : List Int) (v41 : Int) (v42 : Int) (o100005 : List (List Int)) : Option (List (List Int)) := aRun E k s_l05Of_fi.rs (ioOf s_l05Of_fi.ps) s_l05Of_fi.res s_l05Of_fi.hints [.code (sub s_l05Of_c [1, 1, 0, 1, 0, 1, 1, 1, 1, 1, 1, 1, 0, 0, 1, 0, 0, 0]), .code (sub s_l05Of_c [1, 1, 0, 1, 0, 1, 1, 1, 1, 1, 1, 1, 0, 0, 1, 0, 0, 1]), .inLoop (sub s_l05Of_c [1, 1, 0, 1, 0, 1, 1, 1, 1, 1, 1, 1, 0, 0, 1, 0, 0]), .inBlock 3, .code (sub s_l05Of_c [1, 1, 0, 1, 0, 1, 1, 1, 1, 1, 1, 1, 0, 1]), .inBlock 0, .code (sub s_l05Of_c [1, 1, 1])] ⟨[.cv (.val (.slice (.int .i64)) v0), .cv .dead, .cv .dead, .cv .dead, .cv .dead, .cv (.own 100005), .cv .dead, .cv .dead, .cv .dead, .cv .dead, .cv .dead, .cv .dead, .cv .dead, .cv .dead, .cv .dead, .cv .dead, .cv .dead, .cv .dead, .cv .dead, .cv .dead, .cv .dead, .cv .dead, .cv .dead, .cv .dead, .cv .dead, .cv .dead, .cv .dead, .cv .dead, .cv .dead, .cv .dead, .cv .dead, .cv .dead, .cv .dead, .cv .dead, .cv .dead, .cv .dead, .cv .dead, .cv .dead, .cv .dead, .cv .dead, .cv (.val (.slice (.int .i64)) v40), .cv (.val (.int .i64) v41), .cv (.val (.int .i64) v42), .cv .dead, .cv .dead, .cv .dead, .cv .dead, .cv .dead, .cv .dead, .cv .dead, .cv .dead, .cv .dead, .cv .dead, .cv .dead, .cv .dead, .cv .dead, .cv .dead, .cv .dead, .cv .dead, .cv .dead, .cv .dead, .cv .dead, .cv .dead, .cv .dead, .cv .dead, .cv .dead, .cv .dead, .cv .dead, .cv .dead], [(100005, .row (.slice (.int .i64)) o100005 true false)], true⟩
noncomputable def s_SamePacket (k : Nat) (x : (List Int) × List Int) : Option (Bool) := aFn E s_SamePacket_fi k x
noncomputable def s_SamePacket_l4 (k : Nat) (v1 : List Int) (v12 : List Int) (v13 : Int) (v14 : Int) : Option (Bool) := aRun E k s_SamePacket_fi.rs (ioOf s_SamePacket_fi.ps) s_SamePacket_fi.res s_SamePacket_fi.hints [.code (sub s_SamePacket_c [1, 1, 0, 1, 0, 0, 0]), .code (sub s_SamePacket_c [1, 1, 0, 1, 0, 0, 1]), .inLoop (sub s_SamePacket_c [1, 1, 0, 1, 0, 0]), .inBlock 0, .code (sub s_SamePacket_c [1, 1, 1])] ⟨[.cv .dead, .cv (.val (.slice (.int .i64)) v1), .cv .dead, .cv .dead, .cv .dead, .cv .dead, .cv .dead, .cv .dead, .cv .dead, .cv .dead, .cv .dead, .cv .dead, .cv (.val (.slice (.int .i64)) v12), .cv (.val (.int .i64) v13), .cv (.val (.int .i64) v14), .cv .dead, .cv .dead, .cv .dead, .cv .dead, .cv .dead, .cv .dead, .cv .dead, .cv .dead, .cv .dead, .cv .dead, .cv .dead], [], true⟩
noncomputable def s_l05Less (k : Nat) (x : (List Int) × List Int) : Option (Bool) := aFn E s_l05Less_fi k x
noncomputable def s_l05Less_l2 (k : Nat) (v0 : List Int) (v1 : List Int) (v7 : List Int) (v8 : Int) (v9 : Int) : Option (Bool) := aRun E k s_l05Less_fi.rs (ioOf s_l05Less_fi.ps) s_l05Less_fi.res s_l05Less_fi.hints [.code (sub s_l05Less_c [1, 0, 1, 0, 0, 0]), .code (sub s_l05Less_c [1, 0, 1, 0, 0, 1]), .inLoop (sub s_l05Less_c [1, 0, 1, 0, 0]), .inBlock 0, .code (sub s_l05Less_c [1, 1])] ⟨[.cv (.val (.slice (.int .i64)) v0), .cv (.val (.slice (.int .i64)) v1), .cv .dead, .cv .dead, .cv .dead, .cv .dead, .cv .dead, .cv (.val (.slice (.int .i64)) v7), .cv (.val (.int .i64) v8), .cv (.val (.int .i64) v9), .cv .dead, .cv .dead, .cv .dead, .cv .dead, .cv .dead, .cv .dead, .cv .dead, .cv .dead, .cv .dead, .cv .dead, .cv .dead, .cv .dead, .cv .dead, .cv .dead, .cv .dead, .cv .dead, .cv .dead, .cv .dead, .cv .dead, .cv .dead, .cv .dead, .cv .dead, .cv .dead, .cv .dead, .cv .dead, .cv .dead], [], true⟩
noncomputable def s_l05Merge (k : Nat) (x : (List (List Int)) × List (List Int)) : Option (List (List Int)) := aFn E s_l05Merge_fi k x
noncomputable def s_l05Merge_l2 (k : Nat) (v0 : List (List Int)) (v1 : List (List Int)) (o450005 : List (List Int)) : Option (List (List Int)) := aRun E k s_l05Merge_fi.rs (ioOf s_l05Merge_fi.ps) s_l05Merge_fi.res s_l05Merge_fi.hints [.code (sub s_l05Merge_c [1, 1, 0, 0, 0, 0, 0]), .code (sub s_l05Merge_c [1, 1, 0, 0, 0, 0, 1]), .code (sub s_l05Merge_c [1, 1, 0, 0, 0, 1]), .inLoop (sub s_l05Merge_c [1, 1, 0, 0, 0]), .inBlock 0, .code (sub s_l05Merge_c [1, 1, 1])] ⟨[.cv (.val (.slice (.slice (.int .i64))) v0), .cv (.val (.slice (.slice (.int .i64))) v1), .cv .dead, .cv .dead, .cv .dead, .cv (.own 450005), .cv .dead, .cv .dead, .cv .dead, .cv .dead, .cv .dead, .cv .dead, .cv .dead, .cv .dead, .cv .dead, .cv .dead, .cv .dead, .cv .dead, .cv .dead, .cv .dead, .cv .dead, .cv .dead, .cv .dead, .cv .dead, .cv .dead, .cv .dead, .cv .dead, .cv .dead, .cv .dead, .cv .dead, .cv .dead, .cv .dead, .cv .dead, .cv .dead, .cv .dead, .cv .dead, .cv .dead, .cv .dead, .cv .dead, .cv .dead, .cv .dead, .cv .dead, .cv .dead, .cv .dead, .cv .dead, .cv .dead, .cv .dead, .cv .dead, .cv .dead, .cv .dead, .cv .dead, .cv .dead, .cv .dead, .cv .dead, .cv .dead, .cv .dead, .cv .dead, .cv .dead, .cv .dead, .cv .dead, .cv .dead, .cv .dead, .cv .dead, .cv .dead, .cv .dead, .cv .dead], [(450005, .row (.slice (.int .i64)) o450005 true false)], true⟩
noncomputable def s_SortPackets (k : Nat) (x : List (List Int)) : Option (List (List Int)) := aFn E s_SortPackets_fi k x
noncomputable def s_ResultsAfter (k : Nat) (x : (List (List Int)) × Int) : Option ((List (List Int)) × Bool) := aFn E s_ResultsAfter_fi k x
noncomputable def s_ResultsAfter_l3 (k : Nat) (v1 : Int) (v10 : List (List Int)) (v11 : Int) (v12 : Int) (o100006 : List (List Int)) : Option ((List (List Int)) × Bool) := aRun E k s_ResultsAfter_fi.rs (ioOf s_ResultsAfter_fi.ps) s_ResultsAfter_fi.res s_ResultsAfter_fi.hints [.code (sub s_ResultsAfter_c [1, 1, 0, 1, 0, 0, 0]), .code (sub s_ResultsAfter_c [1, 1, 0, 1, 0, 0, 1]), .inLoop (sub s_ResultsAfter_c [1, 1, 0, 1, 0, 0]), .inBlock 0, .code (sub s_ResultsAfter_c [1, 1, 1])] ⟨[.cv .dead, .cv (.val (.int .i64) v1), .cv .dead, .cv .dead, .cv .dead, .cv .dead, .cv (.own 100006), .cv .dead, .cv .dead, .cv .dead, .cv (.val (.slice (.slice (.int .i64))) v10), .cv (.val (.int .i64) v11), .cv (.val (.int .i64) v12), .cv .dead, .cv .dead, .cv .dead, .cv .dead, .cv .dead, .cv .dead, .cv .dead, .cv .dead, .cv .dead, .cv .dead, .cv .dead, .cv .dead, .cv .dead, .cv .dead, .cv .dead, .cv .dead, .cv .dead, .cv .dead], [(100006, .row (.slice (.int .i64)) o100006 true false)], true⟩
noncomputable def s_l15Draw (k : Nat) (x : (List Int) × Int × Int) : Option ((List (List Int)) × (List Int) × Int × Int) := aFn E s_l15Draw_fi k x
noncomputable def s_l15Draw_l3 (k : Nat) (v4 : Int) (o100003 : List (List Int)) (o500000_0 : List Int) (o500000_1 : Int) (o500000_2 : Int) : Option ((List (List Int)) × (List Int) × Int × Int) := aRun E k s_l15Draw_fi.rs (ioOf s_l15Draw_fi.ps) s_l15Draw_fi.res s_l15Draw_fi.hints [.code (sub s_l15Draw_c [1, 1, 0, 1, 0, 0, 0, 0]), .code (sub s_l15Draw_c [1, 1, 0, 1, 0, 0, 0, 1]), .code (sub s_l15Draw_c [1, 1, 0, 1, 0, 0, 1]), .inLoop (sub s_l15Draw_c [1, 1, 0, 1, 0, 0]), .inBlock 0, .code (sub s_l15Draw_c [1, 1, 1])] ⟨[.adr 500000 0, .cv .dead, .cv .dead, .cv (.own 100003), .cv (.val (.int .i64) v4), .cv .dead, .cv .dead, .cv .dead, .cv .dead, .cv .dead, .cv .dead, .cv .dead, .cv .dead, .cv .dead, .cv .dead, .cv .dead, .cv .dead, .cv .dead, .cv .dead, .cv .dead, .cv .dead, .cv .dead, .cv .dead, .cv .dead, .cv .dead, .cv .dead, .cv .dead], [(100003, .row (.slice (.int .i64)) o100003 true false), (500000, .box [.val (.slice (.int .u8)) o500000_0, .val (.int .i64) o500000_1, .val (.int .i64) o500000_2])], true⟩
noncomputable def s_MakeKnown (k : Nat) (x : List Int) : Option (List (List Int)) := aFn E s_MakeKnown_fi k x
noncomputable def s_l23New (k : Nat) (x : (List Int) × Int) : Option ((List Int) × Int × Int) := aFn E s_l23New_fi k x
noncomputable def s_l23New_l3 (k : Nat) (v1 : Int) (v6 : Int) (o200005_0 : List Int) (o200005_1 : Int) (o200005_2 : Int) : Option ((List Int) × Int × Int) := aRun E k s_l23New_fi.rs (ioOf s_l23New_fi.ps) s_l23New_fi.res s_l23New_fi.hints [.code (sub s_l23New_c [1, 1, 0, 1, 0, 0, 0, 0]), .code (sub s_l23New_c [1, 1, 0, 1, 0, 0, 0, 1]), .code (sub s_l23New_c [1, 1, 0, 1, 0, 0, 1]), .inLoop (sub s_l23New_c [1, 1, 0, 1, 0, 0]), .inBlock 0, .code (sub s_l23New_c [1, 1, 1])] ⟨[.cv .dead, .cv (.val (.int .i64) v1), .cv .dead, .cv .dead, .cv .dead, .adr 200005 0, .cv (.val (.int .i64) v6), .cv .dead, .cv .dead, .cv .dead, .cv .dead, .cv .dead, .cv .dead, .cv .dead, .cv .dead, .cv .dead, .cv .dead], [(200005, .box [.val (.slice (.int .u8)) o200005_0, .val (.int .i64) o200005_1, .val (.int .i64) o200005_2])], true⟩
noncomputable def s_l04Draw (k : Nat) (x : ((List Int) × Int × Int) × Int) : Option ((Int × Int) × (List Int) × Int × Int) := aFn E s_l04Draw_fi k x
noncomputable def s_MakeMove (k : Nat) (x : (List Int) × Int × Int) : Option (Int × Int) := aFn E s_MakeMove_fi k x
noncomputable def i_CardOf (k : Nat) (x : Int) : Option (Int) := aFn E i_CardOf_fi k x
noncomputable def i_PacketOk (k : Nat) (x : List Int) : Option (Bool) := aFn E i_PacketOk_fi k x
noncomputable def i_PacketOk_l3 (k : Nat) (v7 : List Int) (v8 : Int) (v9 : Int) (o400003 : List Bool) : Option (Bool) := aRun E k i_PacketOk_fi.rs (ioOf i_PacketOk_fi.ps) i_PacketOk_fi.res i_PacketOk_fi.hints [.code (sub i_PacketOk_c [1, 1, 0, 1, 0, 0, 0]), .code (sub i_PacketOk_c [1, 1, 0, 1, 0, 0, 1]), .inLoop (sub i_PacketOk_c [1, 1, 0, 1, 0, 0]), .inBlock 0, .code (sub i_PacketOk_c [1, 1, 1])] ⟨[.cv .dead, .cv .dead, .cv .dead, .adr 400003 0, .cv .dead, .cv .dead, .cv .dead, .cv (.val (.slice (.int .i64)) v7), .cv (.val (.int .i64) v8), .cv (.val (.int .i64) v9), .cv .dead, .cv .dead, .cv .dead, .cv .dead, .cv .dead, .cv .dead, .cv .dead, .cv .dead, .cv .dead, .cv .dead, .cv .dead, .cv .dead, .cv .dead, .cv .dead, .cv .dead], [(400003, .arr (.bool) o400003)], true⟩
noncomputable def i_PositionOf_1 (k : Nat) (x : Int × Int) : Option (Bool) := aFn E i_PositionOf_1_fi k x
noncomputable def slices_IndexFunc_int_of_i_PositionOf_1 (k : Nat) (x : (List Int) × Int) : Option (Int) := aFn E slices_IndexFunc_int_of_i_PositionOf_1_fi k x
noncomputable def slices_IndexFunc_int_of_i_PositionOf_1_l2 (k : Nat) (v0 : List Int) (v1_0_0 : Int) (v7 : Int) (v8 : Int) : Option (Int) := aRun E k slices_IndexFunc_int_of_i_PositionOf_1_fi.rs (ioOf slices_IndexFunc_int_of_i_PositionOf_1_fi.ps) slices_IndexFunc_int_of_i_PositionOf_1_fi.res slices_IndexFunc_int_of_i_PositionOf_1_fi.hints [.code (sub slices_IndexFunc_int_of_i_PositionOf_1_c [1, 0, 1, 0, 0, 0]), .code (sub slices_IndexFunc_int_of_i_PositionOf_1_c [1, 0, 1, 0, 0, 1]), .inLoop (sub slices_IndexFunc_int_of_i_PositionOf_1_c [1, 0, 1, 0, 0]), .inBlock 0, .code (sub slices_IndexFunc_int_of_i_PositionOf_1_c [1, 1])] ⟨[.cv (.val (.slice (.int .i64)) v0), .fn 135 [[.val (.int .i64) v1_0_0]], .cv .dead, .cv .dead, .cv .dead, .cv .dead, .cv .dead, .cv (.val (.int .i64) v7), .cv (.val (.int .i64) v8), .cv .dead, .cv .dead, .cv .dead, .cv .dead, .cv .dead, .cv .dead, .cv .dead, .cv .dead, .cv .dead, .cv .dead], [], true⟩
noncomputable def i_PositionOf (k : Nat) (x : (List Int) × Int) : Option (Int) := aFn E i_PositionOf_fi k x
noncomputable def i_IsArrangement_1 (k : Nat) (x : Int × List Int) : Option (Bool) := aFn E i_IsArrangement_1_fi k x
noncomputable def slices_IndexFunc_int_of_i_IsArrangement_1 (k : Nat) (x : (List Int) × List Int) : Option (Int) := aFn E slices_IndexFunc_int_of_i_IsArrangement_1_fi k x
noncomputable def slices_IndexFunc_int_of_i_IsArrangement_1_l2 (k : Nat) (v0 : List Int) (v1_0_0 : List Int) (v7 : Int) (v8 : Int) : Option (Int) := aRun E k slices_IndexFunc_int_of_i_IsArrangement_1_fi.rs (ioOf slices_IndexFunc_int_of_i_IsArrangement_1_fi.ps) slices_IndexFunc_int_of_i_IsArrangement_1_fi.res slices_IndexFunc_int_of_i_IsArrangement_1_fi.hints [.code (sub slices_IndexFunc_int_of_i_IsArrangement_1_c [1, 0, 1, 0, 0, 0]), .code (sub slices_IndexFunc_int_of_i_IsArrangement_1_c [1, 0, 1, 0, 0, 1]), .inLoop (sub slices_IndexFunc_int_of_i_IsArrangement_1_c [1, 0, 1, 0, 0]), .inBlock 0, .code (sub slices_IndexFunc_int_of_i_IsArrangement_1_c [1, 1])] ⟨[.cv (.val (.slice (.int .i64)) v0), .fn 130 [[.val (.slice (.int .i64)) v1_0_0]], .cv .dead, .cv .dead, .cv .dead, .cv .dead, .cv .dead, .cv (.val (.int .i64) v7), .cv (.val (.int .i64) v8), .cv .dead, .cv .dead, .cv .dead, .cv .dead, .cv .dead, .cv .dead, .cv .dead, .cv .dead, .cv .dead, .cv .dead], [], true⟩
noncomputable def slices_ContainsFunc_int_of_i_IsArrangement_1 (k : Nat) (x : (List Int) × List Int) : Option (Bool) := aFn E slices_ContainsFunc_int_of_i_IsArrangement_1_fi k x
noncomputable def i_IsArrangement (k : Nat) (x : (List Int) × List Int) : Option (Bool) := aFn E i_IsArrangement_fi k x
noncomputable def cmp_isNaN_int (k : Nat) (x : Int) : Option (Bool) := aFn E cmp_isNaN_int_fi k x
noncomputable def cmp_Compare_int (k : Nat) (x : Int × Int) : Option (Int) := aFn E cmp_Compare_int_fi k x
noncomputable def slices_Compare_int (k : Nat) (x : (List Int) × List Int) : Option (Int) := aFn E slices_Compare_int_fi k x
noncomputable def slices_Compare_int_l2 (k : Nat) (v0 : List Int) (v1 : List Int) (v9 : List Int) (v10 : Int) (v11 : Int) : Option (Int) := aRun E k slices_Compare_int_fi.rs (ioOf slices_Compare_int_fi.ps) slices_Compare_int_fi.res slices_Compare_int_fi.hints [.code (sub slices_Compare_int_c [1, 0, 1, 0, 0, 0]), .code (sub slices_Compare_int_c [1, 0, 1, 0, 0, 1]), .inLoop (sub slices_Compare_int_c [1, 0, 1, 0, 0]), .inBlock 0, .code (sub slices_Compare_int_c [1, 1])] ⟨[.cv (.val (.slice (.int .i64)) v0), .cv (.val (.slice (.int .i64)) v1), .cv .dead, .cv .dead, .cv .dead, .cv .dead, .cv .dead, .cv .dead, .cv .dead, .cv (.val (.slice (.int .i64)) v9), .cv (.val (.int .i64) v10), .cv (.val (.int .i64) v11), .cv .dead, .cv .dead, .cv .dead, .cv .dead, .cv .dead, .cv .dead, .cv .dead, .cv .dead, .cv .dead, .cv .dead, .cv .dead, .cv .dead, .cv .dead, .cv .dead, .cv .dead, .cv .dead, .cv .dead, .cv .dead, .cv .dead, .cv .dead, .cv .dead, .cv .dead, .cv .dead, .cv .dead], [], true⟩
noncomputable def i_KnowOk (k : Nat) (x : List (List Int)) : Option (Bool) := aFn E i_KnowOk_fi k x
noncomputable def i_KnowOk_l4 (k : Nat) (v0 : List (List Int)) (v20 : List (List Int)) (v21 : Int) (v22 : Int) : Option (Bool) := aRun E k i_KnowOk_fi.rs (ioOf i_KnowOk_fi.ps) i_KnowOk_fi.res i_KnowOk_fi.hints [.code (sub i_KnowOk_c [1, 1, 0, 1, 0, 0, 0]), .code (sub i_KnowOk_c [1, 1, 0, 1, 0, 0, 1]), .inLoop (sub i_KnowOk_c [1, 1, 0, 1, 0, 0]), .inBlock 0, .code (sub i_KnowOk_c [1, 1, 1])] ⟨[.cv (.val (.slice (.slice (.int .i64))) v0), .cv .dead, .cv .dead, .cv .dead, .cv .dead, .cv .dead, .cv .dead, .cv .dead, .cv .dead, .cv .dead, .cv .dead, .cv .dead, .cv .dead, .cv .dead, .cv .dead, .cv .dead, .cv .dead, .cv .dead, .cv .dead, .cv .dead, .cv (.val (.slice (.slice (.int .i64))) v20), .cv (.val (.int .i64) v21), .cv (.val (.int .i64) v22), .cv .dead, .cv .dead, .cv .dead, .cv .dead, .cv .dead, .cv .dead, .cv .dead, .cv .dead, .cv .dead, .cv .dead, .cv .dead, .cv .dead, .cv .dead, .cv .dead, .cv .dead, .cv .dead, .cv .dead, .cv .dead, .cv .dead, .cv .dead, .cv .dead, .cv .dead, .cv .dead, .cv .dead, .cv .dead], [], true⟩
noncomputable def i_MoveOk (k : Nat) (x : Int × Int × Int) : Option (Bool) := aFn E i_MoveOk_fi k x
noncomputable def slices_Grow_int (k : Nat) (x : (List Int) × Int) : Option (List Int) := aFn E slices_Grow_int_fi k x
noncomputable def slices_Concat_int (k : Nat) (x : List (List Int)) : Option (List Int) := aFn E slices_Concat_int_fi k x
noncomputable def slices_Concat_int_l3 (k : Nat) (v0 : List (List Int)) (v3 : Int) (v9 : List (List Int)) (v10 : Int) (v11 : Int) : Option (List Int) := aRun E k slices_Concat_int_fi.rs (ioOf slices_Concat_int_fi.ps) slices_Concat_int_fi.res slices_Concat_int_fi.hints [.code (sub slices_Concat_int_c [1, 1, 0, 1, 0, 0, 0]), .code (sub slices_Concat_int_c [1, 1, 0, 1, 0, 0, 1]), .inLoop (sub slices_Concat_int_c [1, 1, 0, 1, 0, 0]), .inBlock 0, .code (sub slices_Concat_int_c [1, 1, 1])] ⟨[.cv (.val (.slice (.slice (.int .i64))) v0), .cv .dead, .cv .dead, .cv (.val (.int .i64) v3), .cv .dead, .cv .dead, .cv .dead, .cv .dead, .cv .dead, .cv (.val (.slice (.slice (.int .i64))) v9), .cv (.val (.int .i64) v10), .cv (.val (.int .i64) v11), .cv .dead, .cv .dead, .cv .dead, .cv .dead, .cv .dead, .cv .dead, .cv .dead, .cv .dead, .cv .dead, .cv .dead, .cv .dead, .cv .dead, .cv .dead, .cv .dead, .cv .dead, .cv .dead, .cv .dead, .cv .dead, .cv .dead, .cv .dead, .cv .dead, .cv .dead, .cv .dead, .cv .dead], [], true⟩
noncomputable def slices_Concat_int_l11 (k : Nat) (v25 : List (List Int)) (v26 : Int) (v27 : Int) (o100006 : List Int) : Option (List Int) := aRun E k slices_Concat_int_fi.rs (ioOf slices_Concat_int_fi.ps) slices_Concat_int_fi.res slices_Concat_int_fi.hints [.code (sub slices_Concat_int_c [1, 1, 1, 1, 0, 1, 0, 0, 0]), .code (sub slices_Concat_int_c [1, 1, 1, 1, 0, 1, 0, 0, 1]), .inLoop (sub slices_Concat_int_c [1, 1, 1, 1, 0, 1, 0, 0]), .inBlock 2, .code (sub slices_Concat_int_c [1, 1, 1, 1, 1])] ⟨[.cv .dead, .cv .dead, .cv .dead, .cv .dead, .cv .dead, .cv .dead, .cv (.own 100006), .cv .dead, .cv .dead, .cv .dead, .cv .dead, .cv .dead, .cv .dead, .cv .dead, .cv .dead, .cv .dead, .cv .dead, .cv .dead, .cv .dead, .cv .dead, .cv .dead, .cv .dead, .cv .dead, .cv .dead, .cv .dead, .cv (.val (.slice (.slice (.int .i64))) v25), .cv (.val (.int .i64) v26), .cv (.val (.int .i64) v27), .cv .dead, .cv .dead, .cv .dead, .cv .dead, .cv .dead, .cv .dead, .cv .dead, .cv .dead], [(100006, .row (.int .i64) o100006 true false)], true⟩
noncomputable def slices_Clone_int (k : Nat) (x : List Int) : Option (List Int) := aFn E slices_Clone_int_fi k x
noncomputable def slices_Reverse_int (k : Nat) (x : List Int) : Option ((Unit) × List Int) := aFn E slices_Reverse_int_fi k x
noncomputable def i_reversed (k : Nat) (x : List Int) : Option (List Int) := aFn E i_reversed_fi k x
noncomputable def i_faro (k : Nat) (x : (List Int) × Int) : Option (List Int) := aFn E i_faro_fi k x
noncomputable def i_faro_l4 (k : Nat) (v5 : List Int) (v6 : List Int) (v8 : Bool) (o100007 : List Int) : Option (List Int) := aRun E k i_faro_fi.rs (ioOf i_faro_fi.ps) i_faro_fi.res i_faro_fi.hints [.code (sub i_faro_c [1, 1, 1, 0, 1, 0, 0, 0, 0]), .code (sub i_faro_c [1, 1, 1, 0, 1, 0, 0, 0, 1]), .code (sub i_faro_c [1, 1, 1, 0, 1, 0, 0, 1]), .inLoop (sub i_faro_c [1, 1, 1, 0, 1, 0, 0]), .inBlock 0, .code (sub i_faro_c [1, 1, 1, 1])] ⟨[.cv .dead, .cv .dead, .cv .dead, .cv .dead, .cv .dead, .cv (.val (.slice (.int .i64)) v5), .cv (.val (.slice (.int .i64)) v6), .cv (.own 100007), .cv (.val (.bool) v8), .cv .dead, .cv .dead, .cv .dead, .cv .dead, .cv .dead, .cv .dead, .cv .dead, .cv .dead, .cv .dead, .cv .dead, .cv .dead, .cv .dead, .cv .dead, .cv .dead, .cv .dead, .cv .dead, .cv .dead, .cv .dead, .cv .dead, .cv .dead, .cv .dead, .cv .dead, .cv .dead, .cv .dead, .cv .dead, .cv .dead, .cv .dead, .cv .dead, .cv .dead, .cv .dead, .cv .dead, .cv .dead, .cv .dead, .cv .dead, .cv .dead, .cv .dead, .cv .dead, .cv .dead, .cv .dead, .cv .dead, .cv .dead, .cv .dead, .cv .dead, .cv .dead, .cv .dead, .cv .dead, .cv .dead, .cv .dead, .cv .dead, .cv .dead], [(100007, .row (.int .i64) o100007 true true)], true⟩
noncomputable def i_monge (k : Nat) (x : (List Int) × Int) : Option (List Int) := aFn E i_monge_fi k x
noncomputable def i_monge_l3 (k : Nat) (v1 : Int) (v8 : List Int) (v9 : Int) (v10 : Int) (o100005 : List Int) : Option (List Int) := aRun E k i_monge_fi.rs (ioOf i_monge_fi.ps) i_monge_fi.res i_monge_fi.hints [.code (sub i_monge_c [1, 1, 0, 1, 0, 0, 0]), .code (sub i_monge_c [1, 1, 0, 1, 0, 0, 1]), .inLoop (sub i_monge_c [1, 1, 0, 1, 0, 0]), .inBlock 0, .code (sub i_monge_c [1, 1, 1])] ⟨[.cv .dead, .cv (.val (.int .i64) v1), .cv .dead, .cv .dead, .cv .dead, .cv (.own 100005), .cv .dead, .cv .dead, .cv (.val (.slice (.int .i64)) v8), .cv (.val (.int .i64) v9), .cv (.val (.int .i64) v10), .cv .dead, .cv .dead, .cv .dead, .cv .dead, .cv .dead, .cv .dead, .cv .dead, .cv .dead, .cv .dead, .cv .dead, .cv .dead, .cv .dead, .cv .dead, .cv .dead, .cv .dead, .cv .dead, .cv .dead, .cv .dead, .cv .dead, .cv .dead, .cv .dead, .cv .dead, .cv .dead], [(100005, .row (.int .i64) o100005 true false)], true⟩
noncomputable def i_milk (k : Nat) (x : List Int) : Option (List Int) := aFn E i_milk_fi k x
noncomputable def i_milk_l2 (k : Nat) (v0 : List Int) (o100003 : List Int) : Option (List Int) := aRun E k i_milk_fi.rs (ioOf i_milk_fi.ps) i_milk_fi.res i_milk_fi.hints [.code (sub i_milk_c [1, 1, 0, 0, 0, 0, 0]), .code (sub i_milk_c [1, 1, 0, 0, 0, 0, 1]), .code (sub i_milk_c [1, 1, 0, 0, 0, 1]), .inLoop (sub i_milk_c [1, 1, 0, 0, 0]), .inBlock 0, .code (sub i_milk_c [1, 1, 1])] ⟨[.cv (.val (.slice (.int .i64)) v0), .cv .dead, .cv .dead, .cv (.own 100003), .cv .dead, .cv .dead, .cv .dead, .cv .dead, .cv .dead, .cv .dead, .cv .dead, .cv .dead, .cv .dead, .cv .dead, .cv .dead, .cv .dead, .cv .dead, .cv .dead, .cv .dead, .cv .dead, .cv .dead, .cv .dead, .cv .dead, .cv .dead, .cv .dead, .cv .dead, .cv .dead, .cv .dead], [(100003, .row (.int .i64) o100003 true false)], true⟩
noncomputable def i_dealt (k : Nat) (x : (List Int) × Int) : Option (List Int) := aFn E i_dealt_fi k x
noncomputable def i_dealt_l4 (k : Nat) (v7 : Bool) (o100005 : List Int) (o100006 : List Int) : Option (List Int) := aRun E k i_dealt_fi.rs (ioOf i_dealt_fi.ps) i_dealt_fi.res i_dealt_fi.hints [.code (sub i_dealt_c [1, 1, 1, 0, 1, 0, 0, 0, 0]), .code (sub i_dealt_c [1, 1, 1, 0, 1, 0, 0, 0, 1]), .code (sub i_dealt_c [1, 1, 1, 0, 1, 0, 0, 1]), .inLoop (sub i_dealt_c [1, 1, 1, 0, 1, 0, 0]), .inBlock 0, .code (sub i_dealt_c [1, 1, 1, 1])] ⟨[.cv .dead, .cv .dead, .cv .dead, .cv .dead, .cv .dead, .cv (.own 100005), .cv (.own 100006), .cv (.val (.bool) v7), .cv .dead, .cv .dead, .cv .dead, .cv .dead, .cv .dead, .cv .dead, .cv .dead, .cv .dead, .cv .dead, .cv .dead, .cv .dead, .cv .dead, .cv .dead, .cv .dead, .cv .dead, .cv .dead, .cv .dead, .cv .dead, .cv .dead, .cv .dead, .cv .dead, .cv .dead, .cv .dead, .cv .dead, .cv .dead, .cv .dead, .cv .dead], [(100005, .row (.int .i64) o100005 true true), (100006, .row (.int .i64) o100006 true false)], true⟩
noncomputable def i_TurnCard (k : Nat) (x : Int) : Option (Int) := aFn E i_TurnCard_fi k x
noncomputable def i_moved (k : Nat) (x : (List Int) × Int × Int) : Option (List Int) := aFn E i_moved_fi k x
noncomputable def i_moved_l10 (k : Nat) (v5 : Int) (v7 : Int) (o100006 : List Int) : Option (List Int) := aRun E k i_moved_fi.rs (ioOf i_moved_fi.ps) i_moved_fi.res i_moved_fi.hints [.code (sub i_moved_c [1, 1, 0, 1, 0, 1, 1, 1, 1, 1, 0, 1, 0, 1, 0, 0, 0, 0]), .code (sub i_moved_c [1, 1, 0, 1, 0, 1, 1, 1, 1, 1, 0, 1, 0, 1, 0, 0, 0, 1]), .code (sub i_moved_c [1, 1, 0, 1, 0, 1, 1, 1, 1, 1, 0, 1, 0, 1, 0, 0, 1]), .inLoop (sub i_moved_c [1, 1, 0, 1, 0, 1, 1, 1, 1, 1, 0, 1, 0, 1, 0, 0]), .inBlock 1, .code (sub i_moved_c [1, 1, 0, 1, 0, 1, 1, 1, 1, 1, 0, 1, 1]), .inBlock 0, .code (sub i_moved_c [1, 1, 1])] ⟨[.cv .dead, .cv .dead, .cv .dead, .cv .dead, .cv .dead, .cv (.val (.int .i64) v5), .cv (.own 100006), .cv (.val (.int .i64) v7), .cv .dead, .cv .dead, .cv .dead, .cv .dead, .cv .dead, .cv .dead, .cv .dead, .cv .dead, .cv .dead, .cv .dead, .cv .dead, .cv .dead, .cv .dead, .cv .dead, .cv .dead, .cv .dead, .cv .dead, .cv .dead, .cv .dead, .cv .dead, .cv .dead, .cv .dead, .cv .dead, .cv .dead, .cv .dead, .cv .dead, .cv .dead, .cv .dead, .cv .dead, .cv .dead, .cv .dead, .cv .dead, .cv .dead, .cv .dead, .cv .dead, .cv .dead, .cv .dead, .cv .dead, .cv .dead, .cv .dead, .cv .dead, .cv .dead, .cv .dead, .cv .dead, .cv .dead, .cv .dead, .cv .dead, .cv .dead, .cv .dead, .cv .dead, .cv .dead, .cv .dead, .cv .dead, .cv .dead, .cv .dead, .cv .dead, .cv .dead, .cv .dead, .cv .dead, .cv .dead, .cv .dead, .cv .dead, .cv .dead, .cv .dead, .cv .dead, .cv .dead, .cv .dead, .cv .dead, .cv .dead, .cv .dead, .cv .dead, .cv .dead, .cv .dead, .cv .dead, .cv .dead, .cv .dead, .cv .dead, .cv .dead, .cv .dead, .cv .dead, .cv .dead, .cv .dead, .cv .dead, .cv .dead, .cv .dead, .cv .dead, .cv .dead, .cv .dead, .cv .dead, .cv .dead, .cv .dead, .cv .dead, .cv .dead, .cv .dead, .cv .dead, .cv .dead, .cv .dead, .cv .dead], [(100006, .row (.int .i64) o100006 true false)], true⟩
noncomputable def slices_SortFunc_int_int (k : Nat) (x : (List (List Int)) × Bool) : Option ((Unit) × List (List Int)) := aFn E slices_SortFunc_int_int_fi k x
noncomputable def slices_CompactFunc_int_int (k : Nat) (x : (List (List Int)) × Bool) : Option (List (List Int)) := aFn E slices_CompactFunc_int_int_fi k x
noncomputable def i_SortPackets (k : Nat) (x : List (List Int)) : Option (List (List Int)) := aFn E i_SortPackets_fi k x
noncomputable def i_SortPackets_l3 (k : Nat) (v6 : List (List Int)) (v7 : Int) (v8 : Int) (o100003 : List (List Int)) : Option (List (List Int)) := aRun E k i_SortPackets_fi.rs (ioOf i_SortPackets_fi.ps) i_SortPackets_fi.res i_SortPackets_fi.hints [.code (sub i_SortPackets_c [1, 1, 0, 1, 0, 0, 0]), .code (sub i_SortPackets_c [1, 1, 0, 1, 0, 0, 1]), .inLoop (sub i_SortPackets_c [1, 1, 0, 1, 0, 0]), .inBlock 0, .code (sub i_SortPackets_c [1, 1, 1])] ⟨[.cv .dead, .cv .dead, .cv .dead, .cv (.own 100003), .cv .dead, .cv .dead, .cv (.val (.slice (.slice (.int .i64))) v6), .cv (.val (.int .i64) v7), .cv (.val (.int .i64) v8), .cv .dead, .cv .dead, .cv .dead, .cv .dead, .cv .dead, .cv .dead, .cv .dead, .cv .dead, .cv .dead, .cv .dead, .cv .dead, .cv .dead, .cv .dead], [(100003, .row (.slice (.int .i64)) o100003 true true)], true⟩
noncomputable def i_AfterMove (k : Nat) (x : (List (List Int)) × Int × Int) : Option ((List (List Int)) × Bool) := aFn E i_AfterMove_fi k x
noncomputable def i_AfterMove_l5 (k : Nat) (v21 : List (List Int)) (v22 : Int) (v23 : Int) (o200003_0 : Int) (o200003_1 : Int) (o100006 : List (List Int)) : Option ((List (List Int)) × Bool) := aRun E k i_AfterMove_fi.rs (ioOf i_AfterMove_fi.ps) i_AfterMove_fi.res i_AfterMove_fi.hints [.code (sub i_AfterMove_c [1, 1, 1, 0, 1, 0, 0, 0]), .code (sub i_AfterMove_c [1, 1, 1, 0, 1, 0, 0, 1]), .inLoop (sub i_AfterMove_c [1, 1, 1, 0, 1, 0, 0]), .inBlock 0, .code (sub i_AfterMove_c [1, 1, 1, 1])] ⟨[.cv .dead, .cv .dead, .cv .dead, .adr 200003 0, .cv .dead, .cv .dead, .cv (.own 100006), .cv .dead, .cv .dead, .cv .dead, .cv .dead, .cv .dead, .cv .dead, .cv .dead, .cv .dead, .cv .dead, .cv .dead, .cv .dead, .cv .dead, .cv .dead, .cv .dead, .cv (.val (.slice (.slice (.int .i64))) v21), .cv (.val (.int .i64) v22), .cv (.val (.int .i64) v23), .cv .dead, .cv .dead, .cv .dead, .cv .dead, .cv .dead, .cv .dead, .cv .dead, .cv .dead, .cv .dead, .cv .dead, .cv .dead, .cv .dead], [(200003, .box [.val (.int .i64) o200003_0, .val (.int .i64) o200003_1]), (100006, .row (.slice (.int .i64)) o100006 true true)], true⟩
noncomputable def i_cuts (k : Nat) (x : List Int) : Option (List (List Int)) := aFn E i_cuts_fi k x
noncomputable def i_cuts_l3 (k : Nat) (v0 : List Int) (v6 : Int) (v7 : Int) (o100003 : List (List Int)) : Option (List (List Int)) := aRun E k i_cuts_fi.rs (ioOf i_cuts_fi.ps) i_cuts_fi.res i_cuts_fi.hints [.code (sub i_cuts_c [1, 1, 0, 1, 0, 0, 0]), .code (sub i_cuts_c [1, 1, 0, 1, 0, 0, 1]), .inLoop (sub i_cuts_c [1, 1, 0, 1, 0, 0]), .inBlock 0, .code (sub i_cuts_c [1, 1, 1])] ⟨[.cv (.val (.slice (.int .i64)) v0), .cv .dead, .cv .dead, .cv (.own 100003), .cv .dead, .cv .dead, .cv (.val (.int .i64) v6), .cv (.val (.int .i64) v7), .cv .dead, .cv .dead, .cv .dead, .cv .dead, .cv .dead, .cv .dead, .cv .dead, .cv .dead, .cv .dead, .cv .dead, .cv .dead], [(100003, .row (.slice (.int .i64)) o100003 true true)], true⟩
noncomputable def i_riffled (k : Nat) (x : (List Int) × Int) : Option (List Int) := aFn E i_riffled_fi k x
noncomputable def i_riffled_l3 (k : Nat) (v0 : List Int) (v1 : Int) (v5 : Int) (v6 : Int) (v11 : Int) (v12 : Int) : Option (List Int) := aRun E k i_riffled_fi.rs (ioOf i_riffled_fi.ps) i_riffled_fi.res i_riffled_fi.hints [.code (sub i_riffled_c [1, 1, 0, 1, 0, 0, 0]), .code (sub i_riffled_c [1, 1, 0, 1, 0, 0, 1]), .inLoop (sub i_riffled_c [1, 1, 0, 1, 0, 0]), .inBlock 0, .code (sub i_riffled_c [1, 1, 1])] ⟨[.cv (.val (.slice (.int .i64)) v0), .cv (.val (.int .i64) v1), .cv .dead, .cv .dead, .cv .dead, .cv (.val (.int .i64) v5), .cv (.val (.int .i64) v6), .cv .dead, .cv .dead, .cv .dead, .cv .dead, .cv (.val (.int .i64) v11), .cv (.val (.int .i64) v12), .cv .dead, .cv .dead, .cv .dead, .cv .dead, .cv .dead, .cv .dead, .cv .dead, .cv .dead, .cv .dead, .cv .dead, .cv .dead, .cv .dead, .cv .dead, .cv .dead, .cv .dead, .cv .dead, .cv .dead, .cv .dead, .cv .dead, .cv .dead, .cv .dead, .cv .dead, .cv .dead, .cv .dead, .cv .dead, .cv .dead, .cv .dead, .cv .dead, .cv .dead, .cv .dead, .cv .dead, .cv .dead, .cv .dead, .cv .dead, .cv .dead, .cv .dead, .cv .dead, .cv .dead, .cv .dead, .cv .dead], [], true⟩
noncomputable def i_riffled_l9 (k : Nat) (v0 : List Int) (v1 : Int) (v5 : Int) (v6 : Int) (v24 : Int) (v25 : Int) (o100008 : List Int) : Option (List Int) := aRun E k i_riffled_fi.rs (ioOf i_riffled_fi.ps) i_riffled_fi.res i_riffled_fi.hints [.code (sub i_riffled_c [1, 1, 1, 1, 0, 1, 0, 0, 0]), .code (sub i_riffled_c [1, 1, 1, 1, 0, 1, 0, 0, 1]), .inLoop (sub i_riffled_c [1, 1, 1, 1, 0, 1, 0, 0]), .inBlock 2, .code (sub i_riffled_c [1, 1, 1, 1, 1])] ⟨[.cv (.val (.slice (.int .i64)) v0), .cv (.val (.int .i64) v1), .cv .dead, .cv .dead, .cv .dead, .cv (.val (.int .i64) v5), .cv (.val (.int .i64) v6), .cv .dead, .cv (.own 100008), .cv .dead, .cv .dead, .cv .dead, .cv .dead, .cv .dead, .cv .dead, .cv .dead, .cv .dead, .cv .dead, .cv .dead, .cv .dead, .cv .dead, .cv .dead, .cv .dead, .cv .dead, .cv (.val (.int .i64) v24), .cv (.val (.int .i64) v25), .cv .dead, .cv .dead, .cv .dead, .cv .dead, .cv .dead, .cv .dead, .cv .dead, .cv .dead, .cv .dead, .cv .dead, .cv .dead, .cv .dead, .cv .dead, .cv .dead, .cv .dead, .cv .dead, .cv .dead, .cv .dead, .cv .dead, .cv .dead, .cv .dead, .cv .dead, .cv .dead, .cv .dead, .cv .dead, .cv .dead, .cv .dead], [(100008, .row (.int .i64) o100008 true true)], true⟩
noncomputable def i_all (k : Nat) (x : (List Int) × Int) : Option ((List (List Int)) × Bool) := aFn E i_all_fi k x
noncomputable def i_all_l9 (k : Nat) (v0 : List Int) (v7 : Int) (o100006 : List (List Int)) : Option ((List (List Int)) × Bool) := aRun E k i_all_fi.rs (ioOf i_all_fi.ps) i_all_fi.res i_all_fi.hints [.code (sub i_all_c [1, 0, 1, 0, 1, 1, 1, 1, 1, 0, 1, 0, 1, 0, 0, 0, 0]), .code (sub i_all_c [1, 0, 1, 0, 1, 1, 1, 1, 1, 0, 1, 0, 1, 0, 0, 0, 1]), .code (sub i_all_c [1, 0, 1, 0, 1, 1, 1, 1, 1, 0, 1, 0, 1, 0, 0, 1]), .inLoop (sub i_all_c [1, 0, 1, 0, 1, 1, 1, 1, 1, 0, 1, 0, 1, 0, 0]), .inBlock 1, .code (sub i_all_c [1, 0, 1, 0, 1, 1, 1, 1, 1, 0, 1, 1]), .inBlock 0, .code (sub i_all_c [1, 1])] ⟨[.cv (.val (.slice (.int .i64)) v0), .cv .dead, .cv .dead, .cv .dead, .cv .dead, .cv .dead, .cv (.own 100006), .cv (.val (.int .i64) v7), .cv .dead, .cv .dead, .cv .dead, .cv .dead, .cv .dead, .cv .dead, .cv .dead, .cv .dead, .cv .dead, .cv .dead, .cv .dead, .cv .dead, .cv .dead, .cv .dead, .cv .dead, .cv .dead, .cv .dead, .cv .dead, .cv .dead, .cv .dead, .cv .dead, .cv .dead, .cv .dead, .cv .dead, .cv .dead, .cv .dead, .cv .dead, .cv .dead, .cv .dead, .cv .dead, .cv .dead, .cv .dead, .cv .dead, .cv .dead, .cv .dead, .cv .dead, .cv .dead, .cv .dead, .cv .dead, .cv .dead, .cv .dead, .cv .dead, .cv .dead, .cv .dead, .cv .dead, .cv .dead, .cv .dead, .cv .dead, .cv .dead, .cv .dead, .cv .dead, .cv .dead, .cv .dead, .cv .dead, .cv .dead, .cv .dead, .cv .dead, .cv .dead, .cv .dead, .cv .dead, .cv .dead, .cv .dead, .cv .dead], [(100006, .row (.slice (.int .i64)) o100006 true true)], true⟩
noncomputable def i_all_l20 (k : Nat) (v0 : List Int) (v48 : Int) (v49 : Int) (o100008 : List (List Int)) : Option ((List (List Int)) × Bool) := aRun E k i_all_fi.rs (ioOf i_all_fi.ps) i_all_fi.res i_all_fi.hints [.code (sub i_all_c [1, 0, 1, 0, 1, 1, 1, 1, 1, 1, 1, 1, 1, 0, 1, 0, 1, 0, 0, 0]), .code (sub i_all_c [1, 0, 1, 0, 1, 1, 1, 1, 1, 1, 1, 1, 1, 0, 1, 0, 1, 0, 0, 1]), .inLoop (sub i_all_c [1, 0, 1, 0, 1, 1, 1, 1, 1, 1, 1, 1, 1, 0, 1, 0, 1, 0, 0]), .inBlock 3, .code (sub i_all_c [1, 0, 1, 0, 1, 1, 1, 1, 1, 1, 1, 1, 1, 0, 1, 1]), .inBlock 0, .code (sub i_all_c [1, 1])] ⟨[.cv (.val (.slice (.int .i64)) v0), .cv .dead, .cv .dead, .cv .dead, .cv .dead, .cv .dead, .cv .dead, .cv .dead, .cv (.own 100008), .cv .dead, .cv .dead, .cv .dead, .cv .dead, .cv .dead, .cv .dead, .cv .dead, .cv .dead, .cv .dead, .cv .dead, .cv .dead, .cv .dead, .cv .dead, .cv .dead, .cv .dead, .cv .dead, .cv .dead, .cv .dead, .cv .dead, .cv .dead, .cv .dead, .cv .dead, .cv .dead, .cv .dead, .cv .dead, .cv .dead, .cv .dead, .cv .dead, .cv .dead, .cv .dead, .cv .dead, .cv .dead, .cv .dead, .cv .dead, .cv .dead, .cv .dead, .cv .dead, .cv .dead, .cv .dead, .cv (.val (.int .i64) v48), .cv (.val (.int .i64) v49), .cv .dead, .cv .dead, .cv .dead, .cv .dead, .cv .dead, .cv .dead, .cv .dead, .cv .dead, .cv .dead, .cv .dead, .cv .dead, .cv .dead, .cv .dead, .cv .dead, .cv .dead, .cv .dead, .cv .dead, .cv .dead, .cv .dead, .cv .dead, .cv .dead], [(100008, .row (.slice (.int .i64)) o100008 true true)], true⟩
noncomputable def i_ResultsOf (k : Nat) (x : (List Int) × Int) : Option ((List (List Int)) × Bool) := aFn E i_ResultsOf_fi k x
noncomputable def i_ResultsAfter (k : Nat) (x : (List (List Int)) × Int) : Option ((List (List Int)) × Bool) := aFn E i_ResultsAfter_fi k x
noncomputable def i_ResultsAfter_l3 (k : Nat) (v1 : Int) (v11 : List (List Int)) (v12 : Int) (v13 : Int) (o100006 : List (List Int)) : Option ((List (List Int)) × Bool) := aRun E k i_ResultsAfter_fi.rs (ioOf i_ResultsAfter_fi.ps) i_ResultsAfter_fi.res i_ResultsAfter_fi.hints [.code (sub i_ResultsAfter_c [1, 1, 0, 1, 0, 0, 0]), .code (sub i_ResultsAfter_c [1, 1, 0, 1, 0, 0, 1]), .inLoop (sub i_ResultsAfter_c [1, 1, 0, 1, 0, 0]), .inBlock 0, .code (sub i_ResultsAfter_c [1, 1, 1])] ⟨[.cv .dead, .cv (.val (.int .i64) v1), .cv .dead, .cv .dead, .cv .dead, .cv .dead, .cv (.own 100006), .cv .dead, .cv .dead, .cv .dead, .cv .dead, .cv (.val (.slice (.slice (.int .i64))) v11), .cv (.val (.int .i64) v12), .cv (.val (.int .i64) v13), .cv .dead, .cv .dead, .cv .dead, .cv .dead, .cv .dead, .cv .dead, .cv .dead, .cv .dead, .cv .dead, .cv .dead, .cv .dead, .cv .dead, .cv .dead, .cv .dead, .cv .dead, .cv .dead, .cv .dead, .cv .dead, .cv .dead, .cv .dead, .cv .dead, .cv .dead, .cv .dead, .cv .dead, .cv .dead, .cv .dead], [(100006, .row (.slice (.int .i64)) o100006 true false)], true⟩
noncomputable def i_AfterChoice (k : Nat) (x : (List (List Int)) × Int) : Option ((List (List Int)) × Bool) := aFn E i_AfterChoice_fi k x
noncomputable def i_Perform (k : Nat) (x : (List Int) × Int × Int) : Option ((List Int) × Bool) := aFn E i_Perform_fi k x
noncomputable def w_same (k : Nat) (x : (List Int) × List Int) : Option (Bool) := aFn E w_same_fi k x
noncomputable def w_same_l4 (k : Nat) (v1 : List Int) (v12 : List Int) (v13 : Int) (v14 : Int) : Option (Bool) := aRun E k w_same_fi.rs (ioOf w_same_fi.ps) w_same_fi.res w_same_fi.hints [.code (sub w_same_c [1, 1, 0, 1, 0, 0, 0]), .code (sub w_same_c [1, 1, 0, 1, 0, 0, 1]), .inLoop (sub w_same_c [1, 1, 0, 1, 0, 0]), .inBlock 0, .code (sub w_same_c [1, 1, 1])] ⟨[.cv .dead, .cv (.val (.slice (.int .i64)) v1), .cv .dead, .cv .dead, .cv .dead, .cv .dead, .cv .dead, .cv .dead, .cv .dead, .cv .dead, .cv .dead, .cv .dead, .cv (.val (.slice (.int .i64)) v12), .cv (.val (.int .i64) v13), .cv (.val (.int .i64) v14), .cv .dead, .cv .dead, .cv .dead, .cv .dead, .cv .dead, .cv .dead, .cv .dead, .cv .dead, .cv .dead, .cv .dead, .cv .dead], [], true⟩
noncomputable def w_find (k : Nat) (x : (List (List Int)) × List Int) : Option (Bool) := aFn E w_find_fi k x
noncomputable def w_find_l2 (k : Nat) (v1 : List Int) (v7 : List (List Int)) (v8 : Int) (v9 : Int) : Option (Bool) := aRun E k w_find_fi.rs (ioOf w_find_fi.ps) w_find_fi.res w_find_fi.hints [.code (sub w_find_c [1, 0, 1, 0, 0, 0]), .code (sub w_find_c [1, 0, 1, 0, 0, 1]), .inLoop (sub w_find_c [1, 0, 1, 0, 0]), .inBlock 0, .code (sub w_find_c [1, 1])] ⟨[.cv .dead, .cv (.val (.slice (.int .i64)) v1), .cv .dead, .cv .dead, .cv .dead, .cv .dead, .cv .dead, .cv (.val (.slice (.slice (.int .i64))) v7), .cv (.val (.int .i64) v8), .cv (.val (.int .i64) v9), .cv .dead, .cv .dead, .cv .dead, .cv .dead, .cv .dead, .cv .dead, .cv .dead], [], true⟩
noncomputable def i_IsUp (k : Nat) (x : Int) : Option (Bool) := aFn E i_IsUp_fi k x
noncomputable def slices_Index_int (k : Nat) (x : (List Int) × Int) : Option (Int) := aFn E slices_Index_int_fi k x
noncomputable def slices_Index_int_l2 (k : Nat) (v0 : List Int) (v1 : Int) (v7 : Int) (v8 : Int) : Option (Int) := aRun E k slices_Index_int_fi.rs (ioOf slices_Index_int_fi.ps) slices_Index_int_fi.res slices_Index_int_fi.hints [.code (sub slices_Index_int_c [1, 0, 1, 0, 0, 0]), .code (sub slices_Index_int_c [1, 0, 1, 0, 0, 1]), .inLoop (sub slices_Index_int_c [1, 0, 1, 0, 0]), .inBlock 0, .code (sub slices_Index_int_c [1, 1])] ⟨[.cv (.val (.slice (.int .i64)) v0), .cv (.val (.int .i64) v1), .cv .dead, .cv .dead, .cv .dead, .cv .dead, .cv .dead, .cv (.val (.int .i64) v7), .cv (.val (.int .i64) v8), .cv .dead, .cv .dead, .cv .dead, .cv .dead, .cv .dead, .cv .dead, .cv .dead, .cv .dead, .cv .dead, .cv .dead], [], true⟩
noncomputable def slices_Contains_int (k : Nat) (x : (List Int) × Int) : Option (Bool) := aFn E slices_Contains_int_fi k x
noncomputable def i_SeeSides_1 (k : Nat) (x : (List Int) × List Int) : Option (Bool) := aFn E i_SeeSides_1_fi k x
noncomputable def i_SeeSides_1_l2 (k : Nat) (v1_0 : List Int) (v6 : List Int) (v7 : Int) (v8 : Int) : Option (Bool) := aRun E k i_SeeSides_1_fi.rs (ioOf i_SeeSides_1_fi.ps) i_SeeSides_1_fi.res i_SeeSides_1_fi.hints [.code (sub i_SeeSides_1_c [1, 0, 1, 0, 0, 0]), .code (sub i_SeeSides_1_c [1, 0, 1, 0, 0, 1]), .inLoop (sub i_SeeSides_1_c [1, 0, 1, 0, 0]), .inBlock 0, .code (sub i_SeeSides_1_c [1, 1])] ⟨[.cv .dead, .ref [.val (.slice (.int .i64)) v1_0], .cv .dead, .cv .dead, .cv .dead, .cv .dead, .cv (.val (.slice (.int .i64)) v6), .cv (.val (.int .i64) v7), .cv (.val (.int .i64) v8), .cv .dead, .cv .dead, .cv .dead, .cv .dead, .cv .dead, .cv .dead, .cv .dead, .cv .dead, .cv .dead, .cv .dead, .cv .dead], [], true⟩
noncomputable def i_those_of_i_SeeSides_1 (k : Nat) (x : (List (List Int)) × List Int) : Option (List (List Int)) := aFn E i_those_of_i_SeeSides_1_fi k x
noncomputable def i_those_of_i_SeeSides_1_l5 (k : Nat) (v1_0_0 : List Int) (v11 : List (List Int)) (v12 : Int) (v13 : Int) (o100005 : List (List Int)) : Option (List (List Int)) := aRun E k i_those_of_i_SeeSides_1_fi.rs (ioOf i_those_of_i_SeeSides_1_fi.ps) i_those_of_i_SeeSides_1_fi.res i_those_of_i_SeeSides_1_fi.hints [.code (sub i_those_of_i_SeeSides_1_c [1, 1, 1, 0, 1, 0, 0, 0]), .code (sub i_those_of_i_SeeSides_1_c [1, 1, 1, 0, 1, 0, 0, 1]), .inLoop (sub i_those_of_i_SeeSides_1_c [1, 1, 1, 0, 1, 0, 0]), .inBlock 0, .code (sub i_those_of_i_SeeSides_1_c [1, 1, 1, 1])] ⟨[.cv .dead, .fn 95 [[.val (.slice (.int .i64)) v1_0_0]], .cv .dead, .cv .dead, .cv .dead, .cv (.own 100005), .cv .dead, .cv .dead, .cv .dead, .cv .dead, .cv .dead, .cv (.val (.slice (.slice (.int .i64))) v11), .cv (.val (.int .i64) v12), .cv (.val (.int .i64) v13), .cv .dead, .cv .dead, .cv .dead, .cv .dead, .cv .dead, .cv .dead, .cv .dead, .cv .dead, .cv .dead, .cv .dead, .cv .dead, .cv .dead, .cv .dead], [(100005, .row (.slice (.int .i64)) o100005 true true)], true⟩
noncomputable def i_SeeSides (k : Nat) (x : (List (List Int)) × List Int) : Option (List (List Int)) := aFn E i_SeeSides_fi k x
noncomputable def w_FnLearns (k : Nat) (x : List Int) : Option (Bool) := aFn E w_FnLearns_fi k x
noncomputable def w_FnLearns_l10 (k : Nat) (v3 : List (List Int)) (v5 : List (List Int)) (v7 : List (List Int)) (v68 : List (List Int)) (v69 : Int) (v70 : Int) (o200004_0 : Int) (o200004_1 : Int) : Option (Bool) := aRun E k w_FnLearns_fi.rs (ioOf w_FnLearns_fi.ps) w_FnLearns_fi.res w_FnLearns_fi.hints [.code (sub w_FnLearns_c [1, 1, 1, 1, 1, 1, 1, 0, 1, 0, 0, 0]), .code (sub w_FnLearns_c [1, 1, 1, 1, 1, 1, 1, 0, 1, 0, 0, 1]), .inLoop (sub w_FnLearns_c [1, 1, 1, 1, 1, 1, 1, 0, 1, 0, 0]), .inBlock 0, .code (sub w_FnLearns_c [1, 1, 1, 1, 1, 1, 1, 1])] ⟨[.cv .dead, .cv .dead, .cv .dead, .cv (.val (.slice (.slice (.int .i64))) v3), .adr 200004 0, .cv (.val (.slice (.slice (.int .i64))) v5), .cv .dead, .cv (.val (.slice (.slice (.int .i64))) v7), .cv .dead, .cv .dead, .cv .dead, .cv .dead, .cv .dead, .cv .dead, .cv .dead, .cv .dead, .cv .dead, .cv .dead, .cv .dead, .cv .dead, .cv .dead, .cv .dead, .cv .dead, .cv .dead, .cv .dead, .cv .dead, .cv .dead, .cv .dead, .cv .dead, .cv .dead, .cv .dead, .cv .dead, .cv .dead, .cv .dead, .cv .dead, .cv .dead, .cv .dead, .cv .dead, .cv .dead, .cv .dead, .cv .dead, .cv .dead, .cv .dead, .cv .dead, .cv .dead, .cv .dead, .cv .dead, .cv .dead, .cv .dead, .cv .dead, .cv .dead, .cv .dead, .cv .dead, .cv .dead, .cv .dead, .cv .dead, .cv .dead, .cv .dead, .cv .dead, .cv .dead, .cv .dead, .cv .dead, .cv .dead, .cv .dead, .cv .dead, .cv .dead, .cv .dead, .cv .dead, .cv (.val (.slice (.slice (.int .i64))) v68), .cv (.val (.int .i64) v69), .cv (.val (.int .i64) v70), .cv .dead, .cv .dead, .cv .dead, .cv .dead, .cv .dead, .cv .dead, .cv .dead, .cv .dead, .cv .dead, .cv .dead, .cv .dead, .cv .dead, .cv .dead, .cv .dead, .cv .dead, .cv .dead, .cv .dead, .cv .dead, .cv .dead, .cv .dead, .cv .dead, .cv .dead, .cv .dead, .cv .dead, .cv .dead, .cv .dead, .cv .dead, .cv .dead, .cv .dead, .cv .dead, .cv .dead, .cv .dead, .cv .dead, .cv .dead, .cv .dead, .cv .dead, .cv .dead, .cv .dead, .cv .dead, .cv .dead, .cv .dead, .cv .dead, .cv .dead, .cv .dead, .cv .dead, .cv .dead, .cv .dead, .cv .dead], [(200004, .box [.val (.int .i64) o200004_0, .val (.int .i64) o200004_1])], true⟩
noncomputable def w_FnLearns_l18 (k : Nat) (v3 : List (List Int)) (v98 : List Int) (v99 : Int) (v100 : Int) (o100013 : List Int) : Option (Bool) := aRun E k w_FnLearns_fi.rs (ioOf w_FnLearns_fi.ps) w_FnLearns_fi.res w_FnLearns_fi.hints [.code (sub w_FnLearns_c [1, 1, 1, 1, 1, 1, 1, 1, 1, 0, 1, 0, 0, 0]), .code (sub w_FnLearns_c [1, 1, 1, 1, 1, 1, 1, 1, 1, 0, 1, 0, 0, 1]), .inLoop (sub w_FnLearns_c [1, 1, 1, 1, 1, 1, 1, 1, 1, 0, 1, 0, 0]), .inBlock 2, .code (sub w_FnLearns_c [1, 1, 1, 1, 1, 1, 1, 1, 1, 1])] ⟨[.cv .dead, .cv .dead, .cv .dead, .cv (.val (.slice (.slice (.int .i64))) v3), .cv .dead, .cv .dead, .cv .dead, .cv .dead, .cv .dead, .cv .dead, .cv .dead, .cv .dead, .cv .dead, .cv (.own 100013), .cv .dead, .cv .dead, .cv .dead, .cv .dead, .cv .dead, .cv .dead, .cv .dead, .cv .dead, .cv .dead, .cv .dead, .cv .dead, .cv .dead, .cv .dead, .cv .dead, .cv .dead, .cv .dead, .cv .dead, .cv .dead, .cv .dead, .cv .dead, .cv .dead, .cv .dead, .cv .dead, .cv .dead, .cv .dead, .cv .dead, .cv .dead, .cv .dead, .cv .dead, .cv .dead, .cv .dead, .cv .dead, .cv .dead, .cv .dead, .cv .dead, .cv .dead, .cv .dead, .cv .dead, .cv .dead, .cv .dead, .cv .dead, .cv .dead, .cv .dead, .cv .dead, .cv .dead, .cv .dead, .cv .dead, .cv .dead, .cv .dead, .cv .dead, .cv .dead, .cv .dead, .cv .dead, .cv .dead, .cv .dead, .cv .dead, .cv .dead, .cv .dead, .cv .dead, .cv .dead, .cv .dead, .cv .dead, .cv .dead, .cv .dead, .cv .dead, .cv .dead, .cv .dead, .cv .dead, .cv .dead, .cv .dead, .cv .dead, .cv .dead, .cv .dead, .cv .dead, .cv .dead, .cv .dead, .cv .dead, .cv .dead, .cv .dead, .cv .dead, .cv .dead, .cv .dead, .cv .dead, .cv .dead, .cv (.val (.slice (.int .i64)) v98), .cv (.val (.int .i64) v99), .cv (.val (.int .i64) v100), .cv .dead, .cv .dead, .cv .dead, .cv .dead, .cv .dead, .cv .dead, .cv .dead, .cv .dead, .cv .dead, .cv .dead, .cv .dead, .cv .dead, .cv .dead, .cv .dead, .cv .dead, .cv .dead, .cv .dead, .cv .dead], [(100013, .row (.int .i64) o100013 true false)], true⟩

theorem s_l01New_eq (k : Nat) (x0 : List Int) : s_l01New (k + 1) x0 =
  s_l01New_l3 k x0 (IntKind.i64.wrap ((2070 : Int) + (x0.length : Int))) (0 : Int) := by kernel_rfl
theorem s_l01New_l3_eq (k : Nat) (v0 : List Int) (v3 : Int) (v4 : Int) : s_l01New_l3 (k + 1) v0 v3 v4 =
  bif decide (v4 < (v0.length : Int)) then
    (bif decide (v4 < (4000 : Int)) then
      (bif decide (0 ≤ v4) then
        (bif decide (v4 < (v0.length : Int)) then
          (s_l01New_l3 k v0 (IntKind.i64.wrap (((BitVec.ofInt IntKind.i64.bits (IntKind.i64.wrap ((IntKind.i64.wrap ((IntKind.i64.wrap (v3 * (101 : Int))) + (IntKind.i64.wrap (v0.getD v4.toNat (0 : Int))))) + (7 : Int))) &&& BitVec.ofInt IntKind.i64.bits (1073741823 : Int)).toNat : Int))) (IntKind.i64.wrap (v4 + (1 : Int))))
        else (none))
      else (none))
    else (some (v0, ((0 : Int), v3))))
  else (some (v0, ((0 : Int), v3))) := by kernel_rfl
theorem s_l01Byte_eq (k : Nat) (x0 : (List Int) × Int × Int) : s_l01Byte (k + 1) x0 =
  bif decide (x0.2.1 < (x0.1.length : Int)) then
    (bif decide (0 ≤ x0.2.1) then
      (bif decide (x0.2.1 < (x0.1.length : Int)) then
        (some ((IntKind.i64.wrap (((BitVec.ofInt IntKind.i64.bits (IntKind.i64.wrap ((IntKind.i64.wrap (((BitVec.ofInt IntKind.i64.bits (IntKind.i64.wrap (((BitVec.ofInt IntKind.i64.bits ((IntKind.i64.wrap ((IntKind.i64.wrap (x0.2.2 * (6364136223846793005 : Int))) + (1442695040888963407 : Int))).fdiv (2 ^ (min 33 IntKind.i64.bits))) ^^^ BitVec.ofInt IntKind.i64.bits ((IntKind.i64.wrap ((IntKind.i64.wrap (x0.2.2 * (6364136223846793005 : Int))) + (1442695040888963407 : Int))).fdiv (2 ^ (min 45 IntKind.i64.bits)))).toNat : Int))) &&& BitVec.ofInt IntKind.i64.bits (255 : Int)).toNat : Int))) + (IntKind.i64.wrap (x0.1.getD x0.2.1.toNat (0 : Int))))) &&& BitVec.ofInt IntKind.i64.bits (255 : Int)).toNat : Int))), (x0.1, ((IntKind.i64.wrap (x0.2.1 + (1 : Int))), (IntKind.i64.wrap ((IntKind.i64.wrap (x0.2.2 * (6364136223846793005 : Int))) + (1442695040888963407 : Int)))))))
      else (none))
    else (none))
  else (some ((IntKind.i64.wrap (((BitVec.ofInt IntKind.i64.bits (IntKind.i64.wrap (((BitVec.ofInt IntKind.i64.bits ((IntKind.i64.wrap ((IntKind.i64.wrap (x0.2.2 * (6364136223846793005 : Int))) + (1442695040888963407 : Int))).fdiv (2 ^ (min 33 IntKind.i64.bits))) ^^^ BitVec.ofInt IntKind.i64.bits ((IntKind.i64.wrap ((IntKind.i64.wrap (x0.2.2 * (6364136223846793005 : Int))) + (1442695040888963407 : Int))).fdiv (2 ^ (min 45 IntKind.i64.bits)))).toNat : Int))) &&& BitVec.ofInt IntKind.i64.bits (255 : Int)).toNat : Int))), (x0.1, (x0.2.1, (IntKind.i64.wrap ((IntKind.i64.wrap (x0.2.2 * (6364136223846793005 : Int))) + (1442695040888963407 : Int))))))) := by kernel_rfl
theorem s_l01Below_eq (k : Nat) (x0 : (List Int) × Int × Int) (x1 : Int) : s_l01Below (k + 1) (x0, x1) =
  bif decide (x1 ≤ (0 : Int)) then
    (some ((0 : Int), x0))
  else (bif decide (x1 ≤ (256 : Int)) then
      ((s_l01Byte k x0).bind fun y1 =>
      bif (!(x1 == 0)) then
        (some ((y1.1.tmod x1), y1.2))
      else (none))
    else ((s_l01Byte k x0).bind fun y2 =>
      (s_l01Byte k y2.2).bind fun y3 =>
      (s_l01Byte k y3.2).bind fun y4 =>
      (s_l01Byte k y4.2).bind fun y5 =>
      bif (!(x1 == 0)) then
        (some (((IntKind.i64.wrap ((IntKind.i64.wrap ((IntKind.i64.wrap ((IntKind.i64.wrap (y2.1 * (16777216 : Int))) + (IntKind.i64.wrap (y3.1 * (65536 : Int))))) + (IntKind.i64.wrap (y4.1 * (256 : Int))))) + y5.1)).tmod x1), y5.2))
      else (none))) := by kernel_rfl
theorem s_l02Shuffle_eq (k : Nat) (x0 : (List Int) × Int × Int) (x1 : Int) : s_l02Shuffle (k + 1) (x0, x1) =
  s_l02Shuffle_l3 k x1 (0 : Int) ([] : List Int) x0.1 x0.2.1 x0.2.2 := by kernel_rfl
theorem s_l02Shuffle_l3_eq (k : Nat) (v1 : Int) (v6 : Int) (o100005 : List Int) (o500000_0 : List Int) (o500000_1 : Int) (o500000_2 : Int) : s_l02Shuffle_l3 (k + 1) v1 v6 o100005 o500000_0 o500000_1 o500000_2 =
  bif decide (v6 < v1) then
    ((s_l01Below k ((o500000_0, (o500000_1, o500000_2)), (IntKind.i64.wrap (v6 + (1 : Int))))).bind fun y1 =>
    bif decide (o100005.length + [v6].length ≤ rowMax) then
      (bif decide (0 ≤ y1.1) then
        (bif decide (y1.1 < ((o100005 ++ [v6]).length : Int)) then
          (bif decide (y1.1.toNat < (o100005 ++ [v6]).length) then
            (bif decide (0 ≤ v6) then
              (bif decide (v6 < ((o100005 ++ [v6]).length : Int)) then
                (bif decide (v6.toNat < (o100005 ++ [v6]).length) then
                  (bif decide (0 ≤ y1.1) then
                    (bif decide (y1.1 < (((o100005 ++ [v6]).set v6.toNat ((o100005 ++ [v6]).getD y1.1.toNat (0 : Int))).length : Int)) then
                      (bif decide (y1.1.toNat < ((o100005 ++ [v6]).set v6.toNat ((o100005 ++ [v6]).getD y1.1.toNat (0 : Int))).length) then
                        (s_l02Shuffle_l3 k v1 (IntKind.i64.wrap (v6 + (1 : Int))) (((o100005 ++ [v6]).set v6.toNat ((o100005 ++ [v6]).getD y1.1.toNat (0 : Int))).set y1.1.toNat v6) y1.2.1 y1.2.2.1 y1.2.2.2)
                      else (none))
                    else (none))
                  else (none))
                else (none))
              else (none))
            else (none))
          else (none))
        else (none))
      else (none))
    else (none))
  else (some (o100005, (o500000_0, (o500000_1, o500000_2)))) := by kernel_rfl
theorem s_l01Once_eq (k : Nat) (x0 : (List Int) × Int × Int) (x1 : Int) : s_l01Once (k + 1) (x0, x1) =
  (s_l01Below k (x0, x1)).bind fun y1 =>
  some ((y1.1 == (0 : Int)), y1.2) := by kernel_rfl
theorem s_l02Draw_eq (k : Nat) (x0 : (List Int) × Int × Int) (x1 : Int) : s_l02Draw (k + 1) (x0, x1) =
  (s_l01Below k (x0, x1)).bind fun y1 =>
  (s_l02Shuffle k (y1.2, (IntKind.i64.wrap ((1 : Int) + y1.1)))).bind fun y2 =>
  (s_l01Once k (y2.2, (2 : Int))).bind fun y3 =>
  bif y3.1 then
    (s_l02Draw_l4 k (y2.1.length : Int) (0 : Int) y2.1 y3.2.1 y3.2.2.1 y3.2.2.2)
  else (some (y2.1, y3.2)) := by kernel_rfl
theorem s_l02Draw_l4_eq (k : Nat) (v16 : Int) (v17 : Int) (o100005 : List Int) (o500000_0 : List Int) (o500000_1 : Int) (o500000_2 : Int) : s_l02Draw_l4 (k + 1) v16 v17 o100005 o500000_0 o500000_1 o500000_2 =
  bif decide (v17 < v16) then
    ((s_l01Once k ((o500000_0, (o500000_1, o500000_2)), (3 : Int))).bind fun y1 =>
    bif y1.1 then
      (bif decide (0 ≤ v17) then
        (bif decide (v17 < (o100005.length : Int)) then
          (bif decide (v17.toNat < o100005.length) then
            (bif decide (0 ≤ v17) then
              (bif decide (v17 < (o100005.length : Int)) then
                (bif decide (v17.toNat < o100005.length) then
                  (s_l02Draw_l4 k v16 (IntKind.i64.wrap (v17 + (1 : Int))) (o100005.set v17.toNat (IntKind.i64.wrap ((-1 : Int) - (o100005.getD v17.toNat (0 : Int))))) y1.2.1 y1.2.2.1 y1.2.2.2)
                else (none))
              else (none))
            else (none))
          else (none))
        else (none))
      else (none))
    else (s_l02Draw_l4 k v16 (IntKind.i64.wrap (v17 + (1 : Int))) o100005 y1.2.1 y1.2.2.1 y1.2.2.2))
  else (some (o100005, (o500000_0, (o500000_1, o500000_2)))) := by kernel_rfl
theorem s_l01In_eq (k : Nat) (x0 : Int) (x1 : Int) (x2 : Int) : s_l01In (k + 1) (x0, x1, x2) =
  bif decide (x0 ≥ x1) then
    (some (decide (x0 ≤ x2)))
  else (some false) := by kernel_rfl
theorem s_CardOf_eq (k : Nat) (x0 : Int) : s_CardOf (k + 1) x0 =
  (s_l01In k (x0, ((0 : Int), (11 : Int)))).bind fun y1 =>
  bif y1 then
    (some x0)
  else ((s_l01In k (x0, ((-12 : Int), (-1 : Int)))).bind fun y2 =>
    bif y2 then
      (some (IntKind.i64.wrap ((-1 : Int) - x0)))
    else (some (-1 : Int))) := by kernel_rfl
theorem s_l02Has_eq (k : Nat) (x0 : List Int) (x1 : Int) : s_l02Has (k + 1) (x0, x1) =
  s_l02Has_l2 k x1 x0 (x0.length : Int) (0 : Int) := by kernel_rfl
theorem s_l02Has_l2_eq (k : Nat) (v1 : Int) (v7 : List Int) (v8 : Int) (v9 : Int) : s_l02Has_l2 (k + 1) v1 v7 v8 v9 =
  bif decide (v9 < v8) then
    (bif decide (0 ≤ v9) then
      (bif decide (v9 < (v7.length : Int)) then
        (bif ((v7.getD v9.toNat (0 : Int)) == v1) then
          (some true)
        else (s_l02Has_l2 k v1 v7 v8 (IntKind.i64.wrap (v9 + (1 : Int)))))
      else (none))
    else (none))
  else (some false) := by kernel_rfl
theorem s_PacketOk_eq (k : Nat) (x0 : List Int) : s_PacketOk (k + 1) x0 =
  bif decide ((x0.length : Int) > (12 : Int)) then
    (some false)
  else (s_PacketOk_l5 k x0 (x0.length : Int) (0 : Int) ([] : List Int)) := by kernel_rfl
theorem s_PacketOk_l5_eq (k : Nat) (v11 : List Int) (v12 : Int) (v13 : Int) (o100003 : List Int) : s_PacketOk_l5 (k + 1) v11 v12 v13 o100003 =
  bif decide (v13 < v12) then
    (bif decide (0 ≤ v13) then
      (bif decide (v13 < (v11.length : Int)) then
        ((s_CardOf k (v11.getD v13.toNat (0 : Int))).bind fun y1 =>
        bif decide (y1 < (0 : Int)) then
          (some false)
        else ((s_l02Has k (o100003, y1)).bind fun y2 =>
          bif y2 then
            (some false)
          else (bif decide (o100003.length + [y1].length ≤ rowMax) then
              (s_PacketOk_l5 k v11 v12 (IntKind.i64.wrap (v13 + (1 : Int))) (o100003 ++ [y1]))
            else (none))))
      else (none))
    else (none))
  else (some true) := by kernel_rfl
theorem s_l05Ok_eq (k : Nat) (x0 : List Int) (x1 : Int) : s_l05Ok (k + 1) (x0, x1) =
  (s_PacketOk k x0).bind fun y1 =>
  bif (!y1) then
    (some false)
  else (bif ((x0.length : Int) == (0 : Int)) then
      (some false)
    else ((s_l01In k (x1, ((0 : Int), (4 : Int)))).bind fun y2 =>
      bif (!y2) then
        (some false)
      else (bif (!(x1 == (3 : Int))) then
          (bif (!(x1 == (2 : Int))) then
            (some true)
          else (some (decide ((x0.length : Int) ≤ (11 : Int)))))
        else (bif decide ((x0.length : Int) ≥ (2 : Int)) then
            (bif (!(x1 == (2 : Int))) then
              (some true)
            else (some (decide ((x0.length : Int) ≤ (11 : Int)))))
          else (some false))))) := by kernel_rfl
theorem s_TurnCard_eq (k : Nat) (x0 : Int) : s_TurnCard (k + 1) x0 =
  (s_CardOf k x0).bind fun y1 =>
  bif decide (y1 < (0 : Int)) then
    (some x0)
  else (some (IntKind.i64.wrap ((-1 : Int) - x0))) := by kernel_rfl
theorem s_l04Back_eq (k : Nat) (x0 : List Int) (x1 : Int) (x2 : Bool) : s_l04Back (k + 1) (x0, x1, x2) =
  s_l04Back_l3 k x0 x1 x2 (IntKind.i64.wrap (x1 - (1 : Int))) ([] : List Int) := by kernel_rfl
theorem s_l04Back_l3_eq (k : Nat) (v0 : List Int) (v1 : Int) (v2 : Bool) (v8 : Int) (o100007 : List Int) : s_l04Back_l3 (k + 1) v0 v1 v2 v8 o100007 =
  bif decide (v8 ≥ (0 : Int)) then
    (bif v2 then
      (bif decide (0 ≤ v8) then
        (bif decide (v8 < (v0.length : Int)) then
          ((s_TurnCard k (v0.getD v8.toNat (0 : Int))).bind fun y1 =>
          bif decide (o100007.length + [y1].length ≤ rowMax) then
            (s_l04Back_l3 k v0 v1 v2 (IntKind.i64.wrap (v8 - (1 : Int))) (o100007 ++ [y1]))
          else (none))
        else (none))
      else (none))
    else (bif decide (0 ≤ v8) then
        (bif decide (v8 < (v0.length : Int)) then
          (bif decide (o100007.length + [(v0.getD v8.toNat (0 : Int))].length ≤ rowMax) then
            (s_l04Back_l3 k v0 v1 v2 (IntKind.i64.wrap (v8 - (1 : Int))) (o100007 ++ [(v0.getD v8.toNat (0 : Int))]))
          else (none))
        else (none))
      else (none)))
  else (bif decide (0 ≤ v1) then
      (bif decide (v1 ≤ (v0.length : Int)) then
        (bif decide ((v0.length : Int) ≤ (v0.length : Int)) then
          (bif decide (o100007.length + ((v0.take ((v0.length : Int)).toNat).drop v1.toNat).length ≤ rowMax) then
            (some (o100007 ++ ((v0.take ((v0.length : Int)).toNat).drop v1.toNat)))
          else (none))
        else (none))
      else (none))
    else (none)) := by kernel_rfl
theorem s_l04Faro_eq (k : Nat) (x0 : List Int) (x1 : Int) : s_l04Faro (k + 1) (x0, x1) =
  bif decide (0 ≤ (IntKind.i64.wrap ((x0.length : Int).tdiv (2 : Int)))) then
    (bif decide ((IntKind.i64.wrap ((x0.length : Int).tdiv (2 : Int))) ≤ (x0.length : Int)) then
      (bif decide (0 ≤ (IntKind.i64.wrap ((x0.length : Int).tdiv (2 : Int)))) then
        (bif decide ((IntKind.i64.wrap ((x0.length : Int).tdiv (2 : Int))) ≤ (x0.length : Int)) then
          (bif decide ((x0.length : Int) ≤ (x0.length : Int)) then
            (s_l04Faro_l4 k x1 ((x0.take (IntKind.i64.wrap ((x0.length : Int).tdiv (2 : Int))).toNat).drop 0) ((x0.take ((x0.length : Int)).toNat).drop (IntKind.i64.wrap ((x0.length : Int).tdiv (2 : Int))).toNat) ([] : List Int))
          else (none))
        else (none))
      else (none))
    else (none))
  else (none) := by kernel_rfl
theorem s_l04Faro_l4_eq (k : Nat) (v1 : Int) (v5 : List Int) (v6 : List Int) (o100007 : List Int) : s_l04Faro_l4 (k + 1) v1 v5 v6 o100007 =
  bif decide ((v5.length : Int) > (0 : Int)) then
    (bif ((v6.length : Int) == (0 : Int)) then
      (bif decide ((0 : Int) < (v5.length : Int)) then
        (bif decide (o100007.length + [(v5.getD 0 (0 : Int))].length ≤ rowMax) then
          (bif decide ((1 : Int) ≤ (v5.length : Int)) then
            (bif decide ((v5.length : Int) ≤ (v5.length : Int)) then
              (s_l04Faro_l4 k v1 ((v5.take ((v5.length : Int)).toNat).drop 1) v6 (o100007 ++ [(v5.getD 0 (0 : Int))]))
            else (none))
          else (none))
        else (none))
      else (none))
    else (bif decide ((v5.length : Int) > (0 : Int)) then
        (bif (((o100007.length : Int).tmod (2 : Int)) == v1) then
          (bif decide ((0 : Int) < (v5.length : Int)) then
            (bif decide (o100007.length + [(v5.getD 0 (0 : Int))].length ≤ rowMax) then
              (bif decide ((1 : Int) ≤ (v5.length : Int)) then
                (bif decide ((v5.length : Int) ≤ (v5.length : Int)) then
                  (s_l04Faro_l4 k v1 ((v5.take ((v5.length : Int)).toNat).drop 1) v6 (o100007 ++ [(v5.getD 0 (0 : Int))]))
                else (none))
              else (none))
            else (none))
          else (none))
        else (bif decide ((0 : Int) < (v6.length : Int)) then
            (bif decide (o100007.length + [(v6.getD 0 (0 : Int))].length ≤ rowMax) then
              (bif decide ((1 : Int) ≤ (v6.length : Int)) then
                (bif decide ((v6.length : Int) ≤ (v6.length : Int)) then
                  (s_l04Faro_l4 k v1 v5 ((v6.take ((v6.length : Int)).toNat).drop 1) (o100007 ++ [(v6.getD 0 (0 : Int))]))
                else (none))
              else (none))
            else (none))
          else (none)))
      else (bif decide ((0 : Int) < (v6.length : Int)) then
          (bif decide (o100007.length + [(v6.getD 0 (0 : Int))].length ≤ rowMax) then
            (bif decide ((1 : Int) ≤ (v6.length : Int)) then
              (bif decide ((v6.length : Int) ≤ (v6.length : Int)) then
                (s_l04Faro_l4 k v1 v5 ((v6.take ((v6.length : Int)).toNat).drop 1) (o100007 ++ [(v6.getD 0 (0 : Int))]))
              else (none))
            else (none))
          else (none))
        else (none))))
  else (bif decide ((v6.length : Int) > (0 : Int)) then
      (bif ((v6.length : Int) == (0 : Int)) then
        (bif decide ((0 : Int) < (v5.length : Int)) then
          (bif decide (o100007.length + [(v5.getD 0 (0 : Int))].length ≤ rowMax) then
            (bif decide ((1 : Int) ≤ (v5.length : Int)) then
              (bif decide ((v5.length : Int) ≤ (v5.length : Int)) then
                (s_l04Faro_l4 k v1 ((v5.take ((v5.length : Int)).toNat).drop 1) v6 (o100007 ++ [(v5.getD 0 (0 : Int))]))
              else (none))
            else (none))
          else (none))
        else (none))
      else (bif decide ((v5.length : Int) > (0 : Int)) then
          (bif (((o100007.length : Int).tmod (2 : Int)) == v1) then
            (bif decide ((0 : Int) < (v5.length : Int)) then
              (bif decide (o100007.length + [(v5.getD 0 (0 : Int))].length ≤ rowMax) then
                (bif decide ((1 : Int) ≤ (v5.length : Int)) then
                  (bif decide ((v5.length : Int) ≤ (v5.length : Int)) then
                    (s_l04Faro_l4 k v1 ((v5.take ((v5.length : Int)).toNat).drop 1) v6 (o100007 ++ [(v5.getD 0 (0 : Int))]))
                  else (none))
                else (none))
              else (none))
            else (none))
          else (bif decide ((0 : Int) < (v6.length : Int)) then
              (bif decide (o100007.length + [(v6.getD 0 (0 : Int))].length ≤ rowMax) then
                (bif decide ((1 : Int) ≤ (v6.length : Int)) then
                  (bif decide ((v6.length : Int) ≤ (v6.length : Int)) then
                    (s_l04Faro_l4 k v1 v5 ((v6.take ((v6.length : Int)).toNat).drop 1) (o100007 ++ [(v6.getD 0 (0 : Int))]))
                  else (none))
                else (none))
              else (none))
            else (none)))
        else (bif decide ((0 : Int) < (v6.length : Int)) then
            (bif decide (o100007.length + [(v6.getD 0 (0 : Int))].length ≤ rowMax) then
              (bif decide ((1 : Int) ≤ (v6.length : Int)) then
                (bif decide ((v6.length : Int) ≤ (v6.length : Int)) then
                  (s_l04Faro_l4 k v1 v5 ((v6.take ((v6.length : Int)).toNat).drop 1) (o100007 ++ [(v6.getD 0 (0 : Int))]))
                else (none))
              else (none))
            else (none))
          else (none))))
    else (some o100007)) := by kernel_rfl
theorem s_l04Monge_eq (k : Nat) (x0 : List Int) (x1 : Int) : s_l04Monge (k + 1) (x0, x1) =
  s_l04Monge_l3 k x1 x0 (x0.length : Int) (0 : Int) ([] : List Int) := by kernel_rfl
theorem s_l04Monge_l3_eq (k : Nat) (v1 : Int) (v9 : List Int) (v10 : Int) (v11 : Int) (o100005 : List Int) : s_l04Monge_l3 (k + 1) v1 v9 v10 v11 o100005 =
  bif decide (v11 < v10) then
    (bif decide (0 ≤ v11) then
      (bif decide (v11 < (v9.length : Int)) then
        (bif (v11 == (0 : Int)) then
          (bif decide (o100005.length + [(v9.getD v11.toNat (0 : Int))].length ≤ rowMax) then
            (s_l04Monge_l3 k v1 v9 v10 (IntKind.i64.wrap (v11 + (1 : Int))) (o100005 ++ [(v9.getD v11.toNat (0 : Int))]))
          else (none))
        else (bif ((v11.tmod (2 : Int)) == v1) then
            (bif decide (o100005.length + [(v9.getD v11.toNat (0 : Int))].length ≤ rowMax) then
              (s_l04Monge_l3 k v1 v9 v10 (IntKind.i64.wrap (v11 + (1 : Int))) (o100005 ++ [(v9.getD v11.toNat (0 : Int))]))
            else (none))
          else (bif decide ([(v9.getD v11.toNat (0 : Int))].length + o100005.length ≤ rowMax) then
              (s_l04Monge_l3 k v1 v9 v10 (IntKind.i64.wrap (v11 + (1 : Int))) ([(v9.getD v11.toNat (0 : Int))] ++ o100005))
            else (none))))
      else (none))
    else (none))
  else (some o100005) := by kernel_rfl
theorem s_l04Milk_eq (k : Nat) (x0 : List Int) : s_l04Milk (k + 1) x0 =
  s_l04Milk_l2 k x0 ([] : List Int) := by kernel_rfl
theorem s_l04Milk_l2_eq (k : Nat) (v0 : List Int) (o100003 : List Int) : s_l04Milk_l2 (k + 1) v0 o100003 =
  bif decide ((v0.length : Int) > (1 : Int)) then
    (bif decide ((0 : Int) < (v0.length : Int)) then
      (bif decide (0 ≤ (IntKind.i64.wrap ((v0.length : Int) - (1 : Int)))) then
        (bif decide ((IntKind.i64.wrap ((v0.length : Int) - (1 : Int))) < (v0.length : Int)) then
          (bif decide ([(v0.getD 0 (0 : Int)), (v0.getD (IntKind.i64.wrap ((v0.length : Int) - (1 : Int))).toNat (0 : Int))].length + o100003.length ≤ rowMax) then
            (bif decide ((1 : Int) ≤ (IntKind.i64.wrap ((v0.length : Int) - (1 : Int)))) then
              (bif decide ((IntKind.i64.wrap ((v0.length : Int) - (1 : Int))) ≤ (v0.length : Int)) then
                (s_l04Milk_l2 k ((v0.take (IntKind.i64.wrap ((v0.length : Int) - (1 : Int))).toNat).drop 1) ([(v0.getD 0 (0 : Int)), (v0.getD (IntKind.i64.wrap ((v0.length : Int) - (1 : Int))).toNat (0 : Int))] ++ o100003))
              else (none))
            else (none))
          else (none))
        else (none))
      else (none))
    else (none))
  else (bif decide (([] : List Int).length + v0.length ≤ rowMax) then
      (bif decide ((([] : List Int) ++ v0).length + o100003.length ≤ rowMax) then
        (some ((([] : List Int) ++ v0) ++ o100003))
      else (none))
    else (none)) := by kernel_rfl
theorem s_l04Duck_eq (k : Nat) (x0 : List Int) (x1 : Int) : s_l04Duck (k + 1) (x0, x1) =
  bif decide (([] : List Int).length + x0.length ≤ rowMax) then
    (s_l04Duck_l4 k x1 (([] : List Int) ++ x0) ([] : List Int))
  else (none) := by kernel_rfl
theorem s_l04Duck_l4_eq (k : Nat) (v7 : Int) (o100005 : List Int) (o100006 : List Int) : s_l04Duck_l4 (k + 1) v7 o100005 o100006 =
  bif decide ((o100005.length : Int) > (1 : Int)) then
    (bif decide ((0 : Int) < (o100005.length : Int)) then
      (bif decide (0 < o100005.length) then
        (bif decide ((1 : Int) ≤ (o100005.length : Int)) then
          (bif decide ((o100005.length : Int) ≤ (o100005.length : Int)) then
            (bif ((v7.tmod (2 : Int)) == (1 : Int)) then
              (bif decide ([(o100005.getD 0 (0 : Int))].length + o100006.length ≤ rowMax) then
                (s_l04Duck_l4 k (IntKind.i64.wrap (v7 + (1 : Int))) ((o100005.take ((o100005.length : Int)).toNat).drop 1) ([(o100005.getD 0 (0 : Int))] ++ o100006))
              else (none))
            else (bif decide (((o100005.take ((o100005.length : Int)).toNat).drop 1).length + [(o100005.getD 0 (0 : Int))].length ≤ rowMax) then
                (s_l04Duck_l4 k (IntKind.i64.wrap (v7 + (1 : Int))) (((o100005.take ((o100005.length : Int)).toNat).drop 1) ++ [(o100005.getD 0 (0 : Int))]) o100006)
              else (none)))
          else (none))
        else (none))
      else (none))
    else (none))
  else (bif decide ((0 : Int) < (o100005.length : Int)) then
      (bif decide (0 < o100005.length) then
        (bif decide ([(o100005.getD 0 (0 : Int))].length + o100006.length ≤ rowMax) then
          (some ([(o100005.getD 0 (0 : Int))] ++ o100006))
        else (none))
      else (none))
    else (none)) := by kernel_rfl
theorem s_l04Do_eq (k : Nat) (x0 : List Int) (x1 : Int × Int) : s_l04Do (k + 1) (x0, x1) =
  bif (x1.1 == (1 : Int)) then
    (bif decide (0 ≤ x1.2) then
      (bif decide (x1.2 ≤ (x0.length : Int)) then
        (bif decide ((x0.length : Int) ≤ (x0.length : Int)) then
          (bif decide (([] : List Int).length + ((x0.take ((x0.length : Int)).toNat).drop x1.2.toNat).length ≤ rowMax) then
            (bif decide (0 ≤ x1.2) then
              (bif decide (x1.2 ≤ (x0.length : Int)) then
                (bif decide ((([] : List Int) ++ ((x0.take ((x0.length : Int)).toNat).drop x1.2.toNat)).length + ((x0.take x1.2.toNat).drop 0).length ≤ rowMax) then
                  (some ((([] : List Int) ++ ((x0.take ((x0.length : Int)).toNat).drop x1.2.toNat)) ++ ((x0.take x1.2.toNat).drop 0)))
                else (none))
              else (none))
            else (none))
          else (none))
        else (none))
      else (none))
    else (none))
  else (bif (x1.1 == (2 : Int)) then
      ((s_l04Back k (x0, (x1.2, false))).bind fun y1 =>
      some y1)
    else (bif (x1.1 == (3 : Int)) then
        ((s_l04Back k (x0, (x1.2, true))).bind fun y2 =>
        some y2)
      else (bif (x1.1 == (4 : Int)) then
          ((s_l04Faro k (x0, x1.2)).bind fun y3 =>
          some y3)
        else (bif (x1.1 == (5 : Int)) then
            ((s_l04Monge k (x0, x1.2)).bind fun y4 =>
            some y4)
          else (bif (x1.1 == (6 : Int)) then
              ((s_l04Milk k x0).bind fun y5 =>
              some y5)
            else (bif (x1.1 == (7 : Int)) then
                ((s_l04Duck k (x0, x1.2)).bind fun y6 =>
                some y6)
              else (bif (x1.1 == (8 : Int)) then
                  (bif decide (([] : List Int).length + x0.length ≤ rowMax) then
                    (bif decide (0 ≤ x1.2) then
                      (bif decide (x1.2 < (x0.length : Int)) then
                        ((s_TurnCard k (x0.getD x1.2.toNat (0 : Int))).bind fun y7 =>
                        bif decide (0 ≤ x1.2) then
                          (bif decide (x1.2 < ((([] : List Int) ++ x0).length : Int)) then
                            (bif decide (x1.2.toNat < (([] : List Int) ++ x0).length) then
                              (some ((([] : List Int) ++ x0).set x1.2.toNat y7))
                            else (none))
                          else (none))
                        else (none))
                      else (none))
                    else (none))
                  else (none))
                else (bif decide (0 ≤ x1.2) then
                    (bif decide (x1.2 ≤ (x0.length : Int)) then
                      (bif decide (([] : List Int).length + ((x0.take x1.2.toNat).drop 0).length ≤ rowMax) then
                        (bif decide (0 ≤ (IntKind.i64.wrap (x1.2 + (1 : Int)))) then
                          (bif decide ((IntKind.i64.wrap (x1.2 + (1 : Int))) ≤ (x0.length : Int)) then
                            (bif decide ((x0.length : Int) ≤ (x0.length : Int)) then
                              (bif decide ((([] : List Int) ++ ((x0.take x1.2.toNat).drop 0)).length + ((x0.take ((x0.length : Int)).toNat).drop (IntKind.i64.wrap (x1.2 + (1 : Int))).toNat).length ≤ rowMax) then
                                (bif decide (0 ≤ x1.2) then
                                  (bif decide (x1.2 < (x0.length : Int)) then
                                    (bif decide (((([] : List Int) ++ ((x0.take x1.2.toNat).drop 0)) ++ ((x0.take ((x0.length : Int)).toNat).drop (IntKind.i64.wrap (x1.2 + (1 : Int))).toNat)).length + [(x0.getD x1.2.toNat (0 : Int))].length ≤ rowMax) then
                                      (some (((([] : List Int) ++ ((x0.take x1.2.toNat).drop 0)) ++ ((x0.take ((x0.length : Int)).toNat).drop (IntKind.i64.wrap (x1.2 + (1 : Int))).toNat)) ++ [(x0.getD x1.2.toNat (0 : Int))]))
                                    else (none))
                                  else (none))
                                else (none))
                              else (none))
                            else (none))
                          else (none))
                        else (none))
                      else (none))
                    else (none))
                  else (none))))))))) := by kernel_rfl
theorem s_l05Cuts_eq (k : Nat) (x0 : List Int) : s_l05Cuts (k + 1) x0 =
  s_l05Cuts_l3 k x0 (x0.length : Int) (0 : Int) ([] : List (List Int)) := by kernel_rfl
theorem s_l05Cuts_l3_eq (k : Nat) (v0 : List Int) (v7 : Int) (v8 : Int) (o100003 : List (List Int)) : s_l05Cuts_l3 (k + 1) v0 v7 v8 o100003 =
  bif decide (v8 < v7) then
    ((s_l04Do k (v0, ((1 : Int), v8))).bind fun y1 =>
    bif decide (o100003.length + [y1].length ≤ rowMax) then
      (s_l05Cuts_l3 k v0 v7 (IntKind.i64.wrap (v8 + (1 : Int))) (o100003 ++ [y1]))
    else (none))
  else (some o100003) := by kernel_rfl
theorem s_l05Weave_eq (k : Nat) (x0 : List (List Int)) (x1 : List Int) (x2 : List Int) (x3 : List Int) : s_l05Weave (k + 1) (x0, x1, x2, x3) =
  bif ((x2.length : Int) == (0 : Int)) then
    (bif ((x3.length : Int) == (0 : Int)) then
      (bif decide (x0.length + [x1].length ≤ rowMax) then
        (some (x0 ++ [x1]))
      else (none))
    else (bif decide ((x2.length : Int) > (0 : Int)) then
        (bif decide (([] : List Int).length + x1.length ≤ rowMax) then
          (bif decide ((0 : Int) < (x2.length : Int)) then
            (bif decide ((([] : List Int) ++ x1).length + [(x2.getD 0 (0 : Int))].length ≤ rowMax) then
              (bif decide ((1 : Int) ≤ (x2.length : Int)) then
                (bif decide ((x2.length : Int) ≤ (x2.length : Int)) then
                  ((s_l05Weave k (x0, (((([] : List Int) ++ x1) ++ [(x2.getD 0 (0 : Int))]), (((x2.take ((x2.length : Int)).toNat).drop 1), x3)))).bind fun y1 =>
                  bif decide ((x3.length : Int) > (0 : Int)) then
                    (bif decide (([] : List Int).length + x1.length ≤ rowMax) then
                      (bif decide ((0 : Int) < (x3.length : Int)) then
                        (bif decide ((([] : List Int) ++ x1).length + [(x3.getD 0 (0 : Int))].length ≤ rowMax) then
                          (bif decide ((1 : Int) ≤ (x3.length : Int)) then
                            (bif decide ((x3.length : Int) ≤ (x3.length : Int)) then
                              ((s_l05Weave k (y1, (((([] : List Int) ++ x1) ++ [(x3.getD 0 (0 : Int))]), (x2, ((x3.take ((x3.length : Int)).toNat).drop 1))))).bind fun y2 =>
                              some y2)
                            else (none))
                          else (none))
                        else (none))
                      else (none))
                    else (none))
                  else (some y1))
                else (none))
              else (none))
            else (none))
          else (none))
        else (none))
      else (bif decide ((x3.length : Int) > (0 : Int)) then
          (bif decide (([] : List Int).length + x1.length ≤ rowMax) then
            (bif decide ((0 : Int) < (x3.length : Int)) then
              (bif decide ((([] : List Int) ++ x1).length + [(x3.getD 0 (0 : Int))].length ≤ rowMax) then
                (bif decide ((1 : Int) ≤ (x3.length : Int)) then
                  (bif decide ((x3.length : Int) ≤ (x3.length : Int)) then
                    ((s_l05Weave k (x0, (((([] : List Int) ++ x1) ++ [(x3.getD 0 (0 : Int))]), (x2, ((x3.take ((x3.length : Int)).toNat).drop 1))))).bind fun y3 =>
                    some y3)
                  else (none))
                else (none))
              else (none))
            else (none))
          else (none))
        else (some x0))))
  else (bif decide ((x2.length : Int) > (0 : Int)) then
      (bif decide (([] : List Int).length + x1.length ≤ rowMax) then
        (bif decide ((0 : Int) < (x2.length : Int)) then
          (bif decide ((([] : List Int) ++ x1).length + [(x2.getD 0 (0 : Int))].length ≤ rowMax) then
            (bif decide ((1 : Int) ≤ (x2.length : Int)) then
              (bif decide ((x2.length : Int) ≤ (x2.length : Int)) then
                ((s_l05Weave k (x0, (((([] : List Int) ++ x1) ++ [(x2.getD 0 (0 : Int))]), (((x2.take ((x2.length : Int)).toNat).drop 1), x3)))).bind fun y4 =>
                bif decide ((x3.length : Int) > (0 : Int)) then
                  (bif decide (([] : List Int).length + x1.length ≤ rowMax) then
                    (bif decide ((0 : Int) < (x3.length : Int)) then
                      (bif decide ((([] : List Int) ++ x1).length + [(x3.getD 0 (0 : Int))].length ≤ rowMax) then
                        (bif decide ((1 : Int) ≤ (x3.length : Int)) then
                          (bif decide ((x3.length : Int) ≤ (x3.length : Int)) then
                            ((s_l05Weave k (y4, (((([] : List Int) ++ x1) ++ [(x3.getD 0 (0 : Int))]), (x2, ((x3.take ((x3.length : Int)).toNat).drop 1))))).bind fun y5 =>
                            some y5)
                          else (none))
                        else (none))
                      else (none))
                    else (none))
                  else (none))
                else (some y4))
              else (none))
            else (none))
          else (none))
        else (none))
      else (none))
    else (bif decide ((x3.length : Int) > (0 : Int)) then
        (bif decide (([] : List Int).length + x1.length ≤ rowMax) then
          (bif decide ((0 : Int) < (x3.length : Int)) then
            (bif decide ((([] : List Int) ++ x1).length + [(x3.getD 0 (0 : Int))].length ≤ rowMax) then
              (bif decide ((1 : Int) ≤ (x3.length : Int)) then
                (bif decide ((x3.length : Int) ≤ (x3.length : Int)) then
                  ((s_l05Weave k (x0, (((([] : List Int) ++ x1) ++ [(x3.getD 0 (0 : Int))]), (x2, ((x3.take ((x3.length : Int)).toNat).drop 1))))).bind fun y6 =>
                  some y6)
                else (none))
              else (none))
            else (none))
          else (none))
        else (none))
      else (some x0))) := by kernel_rfl
theorem s_l05Of_eq (k : Nat) (x0 : List Int) (x1 : Int) : s_l05Of (k + 1) (x0, x1) =
  bif (x1 == (1 : Int)) then
    ((s_l05Cuts k x0).bind fun y1 =>
    some y1)
  else (bif (x1 == (2 : Int)) then
      (s_l05Of_l7 k x0 (0 : Int) ([] : List (List Int)))
    else (bif (x1 == (3 : Int)) then
        ((s_l04Back k (x0, ((2 : Int), true))).bind fun y2 =>
        (s_l05Cuts k y2).bind fun y3 =>
        some y3)
      else (bif (x1 == (4 : Int)) then
          (s_l05Of_l15 k x0 x0 (x0.length : Int) (0 : Int) ([] : List (List Int)))
        else (bif decide (([] : List (List Int)).length + [x0].length ≤ rowMax) then
            (some (([] : List (List Int)) ++ [x0]))
          else (none))))) := by kernel_rfl
theorem s_l05Of_l7_eq (k : Nat) (v0 : List Int) (v6 : Int) (o100005 : List (List Int)) : s_l05Of_l7 (k + 1) v0 v6 o100005 =
  bif decide (v6 ≤ (v0.length : Int)) then
    (bif decide (0 ≤ v6) then
      (bif decide (v6 ≤ (v0.length : Int)) then
        (bif decide (0 ≤ v6) then
          (bif decide (v6 ≤ (v0.length : Int)) then
            (bif decide ((v0.length : Int) ≤ (v0.length : Int)) then
              ((s_l05Weave k (o100005, (([] : List Int), (((v0.take v6.toNat).drop 0), ((v0.take ((v0.length : Int)).toNat).drop v6.toNat))))).bind fun y1 =>
              s_l05Of_l7 k v0 (IntKind.i64.wrap (v6 + (1 : Int))) y1)
            else (none))
          else (none))
        else (none))
      else (none))
    else (none))
  else (some o100005) := by kernel_rfl
theorem s_l05Of_l15_eq (k : Nat) (v0 : List Int) (v40 : List Int) (v41 : Int) (v42 : Int) (o100005 : List (List Int)) : s_l05Of_l15 (k + 1) v0 v40 v41 v42 o100005 =
  bif decide (v42 < v41) then
    (bif decide (0 ≤ v42) then
      (bif decide (v42 < (v40.length : Int)) then
        (bif decide (0 ≤ v42) then
          (bif decide (v42 ≤ (v0.length : Int)) then
            (bif decide (([] : List Int).length + ((v0.take v42.toNat).drop 0).length ≤ rowMax) then
              (bif decide (0 ≤ (IntKind.i64.wrap (v42 + (1 : Int)))) then
                (bif decide ((IntKind.i64.wrap (v42 + (1 : Int))) ≤ (v0.length : Int)) then
                  (bif decide ((v0.length : Int) ≤ (v0.length : Int)) then
                    (bif decide ((([] : List Int) ++ ((v0.take v42.toNat).drop 0)).length + ((v0.take ((v0.length : Int)).toNat).drop (IntKind.i64.wrap (v42 + (1 : Int))).toNat).length ≤ rowMax) then
                      (bif decide ([(v40.getD v42.toNat (0 : Int))].length + ((([] : List Int) ++ ((v0.take v42.toNat).drop 0)) ++ ((v0.take ((v0.length : Int)).toNat).drop (IntKind.i64.wrap (v42 + (1 : Int))).toNat)).length ≤ rowMax) then
                        (bif decide (o100005.length + ([([(v40.getD v42.toNat (0 : Int))] ++ ((([] : List Int) ++ ((v0.take v42.toNat).drop 0)) ++ ((v0.take ((v0.length : Int)).toNat).drop (IntKind.i64.wrap (v42 + (1 : Int))).toNat)))]).length ≤ rowMax) then
                          (s_l05Of_l15 k v0 v40 v41 (IntKind.i64.wrap (v42 + (1 : Int))) (o100005 ++ ([([(v40.getD v42.toNat (0 : Int))] ++ ((([] : List Int) ++ ((v0.take v42.toNat).drop 0)) ++ ((v0.take ((v0.length : Int)).toNat).drop (IntKind.i64.wrap (v42 + (1 : Int))).toNat)))])))
                        else (none))
                      else (none))
                    else (none))
                  else (none))
                else (none))
              else (none))
            else (none))
          else (none))
        else (none))
      else (none))
    else (none))
  else (some o100005) := by kernel_rfl
theorem s_SamePacket_eq (k : Nat) (x0 : List Int) (x1 : List Int) : s_SamePacket (k + 1) (x0, x1) =
  bif (!((x0.length : Int) == (x1.length : Int))) then
    (some false)
  else (s_SamePacket_l4 k x1 x0 (x0.length : Int) (0 : Int)) := by kernel_rfl
theorem s_SamePacket_l4_eq (k : Nat) (v1 : List Int) (v12 : List Int) (v13 : Int) (v14 : Int) : s_SamePacket_l4 (k + 1) v1 v12 v13 v14 =
  bif decide (v14 < v13) then
    (bif decide (0 ≤ v14) then
      (bif decide (v14 < (v12.length : Int)) then
        (bif decide (0 ≤ v14) then
          (bif decide (v14 < (v1.length : Int)) then
            (bif (!((v12.getD v14.toNat (0 : Int)) == (v1.getD v14.toNat (0 : Int)))) then
              (some false)
            else (s_SamePacket_l4 k v1 v12 v13 (IntKind.i64.wrap (v14 + (1 : Int)))))
          else (none))
        else (none))
      else (none))
    else (none))
  else (some true) := by kernel_rfl
theorem s_l05Less_eq (k : Nat) (x0 : List Int) (x1 : List Int) : s_l05Less (k + 1) (x0, x1) =
  s_l05Less_l2 k x0 x1 x0 (x0.length : Int) (0 : Int) := by kernel_rfl
theorem s_l05Less_l2_eq (k : Nat) (v0 : List Int) (v1 : List Int) (v7 : List Int) (v8 : Int) (v9 : Int) : s_l05Less_l2 (k + 1) v0 v1 v7 v8 v9 =
  bif decide (v9 < v8) then
    (bif decide (0 ≤ v9) then
      (bif decide (v9 < (v7.length : Int)) then
        (bif decide (v9 ≥ (v1.length : Int)) then
          (some false)
        else (bif decide (0 ≤ v9) then
            (bif decide (v9 < (v1.length : Int)) then
              (bif (!((v7.getD v9.toNat (0 : Int)) == (v1.getD v9.toNat (0 : Int)))) then
                (bif decide (0 ≤ v9) then
                  (bif decide (v9 < (v1.length : Int)) then
                    (some (decide ((v7.getD v9.toNat (0 : Int)) < (v1.getD v9.toNat (0 : Int)))))
                  else (none))
                else (none))
              else (s_l05Less_l2 k v0 v1 v7 v8 (IntKind.i64.wrap (v9 + (1 : Int)))))
            else (none))
          else (none)))
      else (none))
    else (none))
  else (some (decide ((v0.length : Int) < (v1.length : Int)))) := by kernel_rfl
theorem s_l05Merge_eq (k : Nat) (x0 : List (List Int)) (x1 : List (List Int)) : s_l05Merge (k + 1) (x0, x1) =
  s_l05Merge_l2 k x0 x1 ([] : List (List Int)) := by kernel_rfl
theorem s_l05Merge_l2_eq (k : Nat) (v0 : List (List Int)) (v1 : List (List Int)) (o450005 : List (List Int)) : s_l05Merge_l2 (k + 1) v0 v1 o450005 =
  bif decide ((v0.length : Int) > (0 : Int)) then
    (bif ((v1.length : Int) == (0 : Int)) then
      (bif decide ((0 : Int) < (v0.length : Int)) then
        (bif decide ((1 : Int) ≤ (v0.length : Int)) then
          (bif decide ((v0.length : Int) ≤ (v0.length : Int)) then
            (bif ((o450005.length : Int) == (0 : Int)) then
              (bif decide (([] : List Int).length + (v0.getD 0 []).length ≤ rowMax) then
                (bif decide (o450005.length + ([(([] : List Int) ++ (v0.getD 0 []))]).length ≤ rowMax) then
                  (s_l05Merge_l2 k ((v0.take ((v0.length : Int)).toNat).drop 1) v1 (o450005 ++ ([(([] : List Int) ++ (v0.getD 0 []))])))
                else (none))
              else (none))
            else (bif decide (0 ≤ (IntKind.i64.wrap ((o450005.length : Int) - (1 : Int)))) then
                (bif decide ((IntKind.i64.wrap ((o450005.length : Int) - (1 : Int))) < (o450005.length : Int)) then
                  (bif decide ((IntKind.i64.wrap ((o450005.length : Int) - (1 : Int))).toNat < o450005.length) then
                    ((s_SamePacket k ((o450005.getD (IntKind.i64.wrap ((o450005.length : Int) - (1 : Int))).toNat []), (v0.getD 0 []))).bind fun y1 =>
                    bif (!y1) then
                      (bif decide (([] : List Int).length + (v0.getD 0 []).length ≤ rowMax) then
                        (bif decide ((o450005.set (IntKind.i64.wrap ((o450005.length : Int) - (1 : Int))).toNat (o450005.getD (IntKind.i64.wrap ((o450005.length : Int) - (1 : Int))).toNat [])).length + ([(([] : List Int) ++ (v0.getD 0 []))]).length ≤ rowMax) then
                          (s_l05Merge_l2 k ((v0.take ((v0.length : Int)).toNat).drop 1) v1 ((o450005.set (IntKind.i64.wrap ((o450005.length : Int) - (1 : Int))).toNat (o450005.getD (IntKind.i64.wrap ((o450005.length : Int) - (1 : Int))).toNat [])) ++ ([(([] : List Int) ++ (v0.getD 0 []))])))
                        else (none))
                      else (none))
                    else (s_l05Merge_l2 k ((v0.take ((v0.length : Int)).toNat).drop 1) v1 (o450005.set (IntKind.i64.wrap ((o450005.length : Int) - (1 : Int))).toNat (o450005.getD (IntKind.i64.wrap ((o450005.length : Int) - (1 : Int))).toNat []))))
                  else (none))
                else (none))
              else (none)))
          else (none))
        else (none))
      else (none))
    else (bif decide ((v0.length : Int) > (0 : Int)) then
        (bif decide ((0 : Int) < (v1.length : Int)) then
          (bif decide ((0 : Int) < (v0.length : Int)) then
            ((s_l05Less k ((v1.getD 0 []), (v0.getD 0 []))).bind fun y2 =>
            bif (!y2) then
              (bif decide ((0 : Int) < (v0.length : Int)) then
                (bif decide ((1 : Int) ≤ (v0.length : Int)) then
                  (bif decide ((v0.length : Int) ≤ (v0.length : Int)) then
                    (bif ((o450005.length : Int) == (0 : Int)) then
                      (bif decide (([] : List Int).length + (v0.getD 0 []).length ≤ rowMax) then
                        (bif decide (o450005.length + ([(([] : List Int) ++ (v0.getD 0 []))]).length ≤ rowMax) then
                          (s_l05Merge_l2 k ((v0.take ((v0.length : Int)).toNat).drop 1) v1 (o450005 ++ ([(([] : List Int) ++ (v0.getD 0 []))])))
                        else (none))
                      else (none))
                    else (bif decide (0 ≤ (IntKind.i64.wrap ((o450005.length : Int) - (1 : Int)))) then
                        (bif decide ((IntKind.i64.wrap ((o450005.length : Int) - (1 : Int))) < (o450005.length : Int)) then
                          (bif decide ((IntKind.i64.wrap ((o450005.length : Int) - (1 : Int))).toNat < o450005.length) then
                            ((s_SamePacket k ((o450005.getD (IntKind.i64.wrap ((o450005.length : Int) - (1 : Int))).toNat []), (v0.getD 0 []))).bind fun y3 =>
                            bif (!y3) then
                              (bif decide (([] : List Int).length + (v0.getD 0 []).length ≤ rowMax) then
                                (bif decide ((o450005.set (IntKind.i64.wrap ((o450005.length : Int) - (1 : Int))).toNat (o450005.getD (IntKind.i64.wrap ((o450005.length : Int) - (1 : Int))).toNat [])).length + ([(([] : List Int) ++ (v0.getD 0 []))]).length ≤ rowMax) then
                                  (s_l05Merge_l2 k ((v0.take ((v0.length : Int)).toNat).drop 1) v1 ((o450005.set (IntKind.i64.wrap ((o450005.length : Int) - (1 : Int))).toNat (o450005.getD (IntKind.i64.wrap ((o450005.length : Int) - (1 : Int))).toNat [])) ++ ([(([] : List Int) ++ (v0.getD 0 []))])))
                                else (none))
                              else (none))
                            else (s_l05Merge_l2 k ((v0.take ((v0.length : Int)).toNat).drop 1) v1 (o450005.set (IntKind.i64.wrap ((o450005.length : Int) - (1 : Int))).toNat (o450005.getD (IntKind.i64.wrap ((o450005.length : Int) - (1 : Int))).toNat []))))
                          else (none))
                        else (none))
                      else (none)))
                  else (none))
                else (none))
              else (none))
            else (bif decide ((0 : Int) < (v1.length : Int)) then
                (bif decide ((1 : Int) ≤ (v1.length : Int)) then
                  (bif decide ((v1.length : Int) ≤ (v1.length : Int)) then
                    (bif ((o450005.length : Int) == (0 : Int)) then
                      (bif decide (([] : List Int).length + (v1.getD 0 []).length ≤ rowMax) then
                        (bif decide (o450005.length + ([(([] : List Int) ++ (v1.getD 0 []))]).length ≤ rowMax) then
                          (s_l05Merge_l2 k v0 ((v1.take ((v1.length : Int)).toNat).drop 1) (o450005 ++ ([(([] : List Int) ++ (v1.getD 0 []))])))
                        else (none))
                      else (none))
                    else (bif decide (0 ≤ (IntKind.i64.wrap ((o450005.length : Int) - (1 : Int)))) then
                        (bif decide ((IntKind.i64.wrap ((o450005.length : Int) - (1 : Int))) < (o450005.length : Int)) then
                          (bif decide ((IntKind.i64.wrap ((o450005.length : Int) - (1 : Int))).toNat < o450005.length) then
                            ((s_SamePacket k ((o450005.getD (IntKind.i64.wrap ((o450005.length : Int) - (1 : Int))).toNat []), (v1.getD 0 []))).bind fun y4 =>
                            bif (!y4) then
                              (bif decide (([] : List Int).length + (v1.getD 0 []).length ≤ rowMax) then
                                (bif decide ((o450005.set (IntKind.i64.wrap ((o450005.length : Int) - (1 : Int))).toNat (o450005.getD (IntKind.i64.wrap ((o450005.length : Int) - (1 : Int))).toNat [])).length + ([(([] : List Int) ++ (v1.getD 0 []))]).length ≤ rowMax) then
                                  (s_l05Merge_l2 k v0 ((v1.take ((v1.length : Int)).toNat).drop 1) ((o450005.set (IntKind.i64.wrap ((o450005.length : Int) - (1 : Int))).toNat (o450005.getD (IntKind.i64.wrap ((o450005.length : Int) - (1 : Int))).toNat [])) ++ ([(([] : List Int) ++ (v1.getD 0 []))])))
                                else (none))
                              else (none))
                            else (s_l05Merge_l2 k v0 ((v1.take ((v1.length : Int)).toNat).drop 1) (o450005.set (IntKind.i64.wrap ((o450005.length : Int) - (1 : Int))).toNat (o450005.getD (IntKind.i64.wrap ((o450005.length : Int) - (1 : Int))).toNat []))))
                          else (none))
                        else (none))
                      else (none)))
                  else (none))
                else (none))
              else (none)))
          else (none))
        else (none))
      else (bif decide ((0 : Int) < (v1.length : Int)) then
          (bif decide ((1 : Int) ≤ (v1.length : Int)) then
            (bif decide ((v1.length : Int) ≤ (v1.length : Int)) then
              (bif ((o450005.length : Int) == (0 : Int)) then
                (bif decide (([] : List Int).length + (v1.getD 0 []).length ≤ rowMax) then
                  (bif decide (o450005.length + ([(([] : List Int) ++ (v1.getD 0 []))]).length ≤ rowMax) then
                    (s_l05Merge_l2 k v0 ((v1.take ((v1.length : Int)).toNat).drop 1) (o450005 ++ ([(([] : List Int) ++ (v1.getD 0 []))])))
                  else (none))
                else (none))
              else (bif decide (0 ≤ (IntKind.i64.wrap ((o450005.length : Int) - (1 : Int)))) then
                  (bif decide ((IntKind.i64.wrap ((o450005.length : Int) - (1 : Int))) < (o450005.length : Int)) then
                    (bif decide ((IntKind.i64.wrap ((o450005.length : Int) - (1 : Int))).toNat < o450005.length) then
                      ((s_SamePacket k ((o450005.getD (IntKind.i64.wrap ((o450005.length : Int) - (1 : Int))).toNat []), (v1.getD 0 []))).bind fun y5 =>
                      bif (!y5) then
                        (bif decide (([] : List Int).length + (v1.getD 0 []).length ≤ rowMax) then
                          (bif decide ((o450005.set (IntKind.i64.wrap ((o450005.length : Int) - (1 : Int))).toNat (o450005.getD (IntKind.i64.wrap ((o450005.length : Int) - (1 : Int))).toNat [])).length + ([(([] : List Int) ++ (v1.getD 0 []))]).length ≤ rowMax) then
                            (s_l05Merge_l2 k v0 ((v1.take ((v1.length : Int)).toNat).drop 1) ((o450005.set (IntKind.i64.wrap ((o450005.length : Int) - (1 : Int))).toNat (o450005.getD (IntKind.i64.wrap ((o450005.length : Int) - (1 : Int))).toNat [])) ++ ([(([] : List Int) ++ (v1.getD 0 []))])))
                          else (none))
                        else (none))
                      else (s_l05Merge_l2 k v0 ((v1.take ((v1.length : Int)).toNat).drop 1) (o450005.set (IntKind.i64.wrap ((o450005.length : Int) - (1 : Int))).toNat (o450005.getD (IntKind.i64.wrap ((o450005.length : Int) - (1 : Int))).toNat []))))
                    else (none))
                  else (none))
                else (none)))
            else (none))
          else (none))
        else (none))))
  else (bif decide ((v1.length : Int) > (0 : Int)) then
      (bif ((v1.length : Int) == (0 : Int)) then
        (bif decide ((0 : Int) < (v0.length : Int)) then
          (bif decide ((1 : Int) ≤ (v0.length : Int)) then
            (bif decide ((v0.length : Int) ≤ (v0.length : Int)) then
              (bif ((o450005.length : Int) == (0 : Int)) then
                (bif decide (([] : List Int).length + (v0.getD 0 []).length ≤ rowMax) then
                  (bif decide (o450005.length + ([(([] : List Int) ++ (v0.getD 0 []))]).length ≤ rowMax) then
                    (s_l05Merge_l2 k ((v0.take ((v0.length : Int)).toNat).drop 1) v1 (o450005 ++ ([(([] : List Int) ++ (v0.getD 0 []))])))
                  else (none))
                else (none))
              else (bif decide (0 ≤ (IntKind.i64.wrap ((o450005.length : Int) - (1 : Int)))) then
                  (bif decide ((IntKind.i64.wrap ((o450005.length : Int) - (1 : Int))) < (o450005.length : Int)) then
                    (bif decide ((IntKind.i64.wrap ((o450005.length : Int) - (1 : Int))).toNat < o450005.length) then
                      ((s_SamePacket k ((o450005.getD (IntKind.i64.wrap ((o450005.length : Int) - (1 : Int))).toNat []), (v0.getD 0 []))).bind fun y6 =>
                      bif (!y6) then
                        (bif decide (([] : List Int).length + (v0.getD 0 []).length ≤ rowMax) then
                          (bif decide ((o450005.set (IntKind.i64.wrap ((o450005.length : Int) - (1 : Int))).toNat (o450005.getD (IntKind.i64.wrap ((o450005.length : Int) - (1 : Int))).toNat [])).length + ([(([] : List Int) ++ (v0.getD 0 []))]).length ≤ rowMax) then
                            (s_l05Merge_l2 k ((v0.take ((v0.length : Int)).toNat).drop 1) v1 ((o450005.set (IntKind.i64.wrap ((o450005.length : Int) - (1 : Int))).toNat (o450005.getD (IntKind.i64.wrap ((o450005.length : Int) - (1 : Int))).toNat [])) ++ ([(([] : List Int) ++ (v0.getD 0 []))])))
                          else (none))
                        else (none))
                      else (s_l05Merge_l2 k ((v0.take ((v0.length : Int)).toNat).drop 1) v1 (o450005.set (IntKind.i64.wrap ((o450005.length : Int) - (1 : Int))).toNat (o450005.getD (IntKind.i64.wrap ((o450005.length : Int) - (1 : Int))).toNat []))))
                    else (none))
                  else (none))
                else (none)))
            else (none))
          else (none))
        else (none))
      else (bif decide ((v0.length : Int) > (0 : Int)) then
          (bif decide ((0 : Int) < (v1.length : Int)) then
            (bif decide ((0 : Int) < (v0.length : Int)) then
              ((s_l05Less k ((v1.getD 0 []), (v0.getD 0 []))).bind fun y7 =>
              bif (!y7) then
                (bif decide ((0 : Int) < (v0.length : Int)) then
                  (bif decide ((1 : Int) ≤ (v0.length : Int)) then
                    (bif decide ((v0.length : Int) ≤ (v0.length : Int)) then
                      (bif ((o450005.length : Int) == (0 : Int)) then
                        (bif decide (([] : List Int).length + (v0.getD 0 []).length ≤ rowMax) then
                          (bif decide (o450005.length + ([(([] : List Int) ++ (v0.getD 0 []))]).length ≤ rowMax) then
                            (s_l05Merge_l2 k ((v0.take ((v0.length : Int)).toNat).drop 1) v1 (o450005 ++ ([(([] : List Int) ++ (v0.getD 0 []))])))
                          else (none))
                        else (none))
                      else (bif decide (0 ≤ (IntKind.i64.wrap ((o450005.length : Int) - (1 : Int)))) then
                          (bif decide ((IntKind.i64.wrap ((o450005.length : Int) - (1 : Int))) < (o450005.length : Int)) then
                            (bif decide ((IntKind.i64.wrap ((o450005.length : Int) - (1 : Int))).toNat < o450005.length) then
                              ((s_SamePacket k ((o450005.getD (IntKind.i64.wrap ((o450005.length : Int) - (1 : Int))).toNat []), (v0.getD 0 []))).bind fun y8 =>
                              bif (!y8) then
                                (bif decide (([] : List Int).length + (v0.getD 0 []).length ≤ rowMax) then
                                  (bif decide ((o450005.set (IntKind.i64.wrap ((o450005.length : Int) - (1 : Int))).toNat (o450005.getD (IntKind.i64.wrap ((o450005.length : Int) - (1 : Int))).toNat [])).length + ([(([] : List Int) ++ (v0.getD 0 []))]).length ≤ rowMax) then
                                    (s_l05Merge_l2 k ((v0.take ((v0.length : Int)).toNat).drop 1) v1 ((o450005.set (IntKind.i64.wrap ((o450005.length : Int) - (1 : Int))).toNat (o450005.getD (IntKind.i64.wrap ((o450005.length : Int) - (1 : Int))).toNat [])) ++ ([(([] : List Int) ++ (v0.getD 0 []))])))
                                  else (none))
                                else (none))
                              else (s_l05Merge_l2 k ((v0.take ((v0.length : Int)).toNat).drop 1) v1 (o450005.set (IntKind.i64.wrap ((o450005.length : Int) - (1 : Int))).toNat (o450005.getD (IntKind.i64.wrap ((o450005.length : Int) - (1 : Int))).toNat []))))
                            else (none))
                          else (none))
                        else (none)))
                    else (none))
                  else (none))
                else (none))
              else (bif decide ((0 : Int) < (v1.length : Int)) then
                  (bif decide ((1 : Int) ≤ (v1.length : Int)) then
                    (bif decide ((v1.length : Int) ≤ (v1.length : Int)) then
                      (bif ((o450005.length : Int) == (0 : Int)) then
                        (bif decide (([] : List Int).length + (v1.getD 0 []).length ≤ rowMax) then
                          (bif decide (o450005.length + ([(([] : List Int) ++ (v1.getD 0 []))]).length ≤ rowMax) then
                            (s_l05Merge_l2 k v0 ((v1.take ((v1.length : Int)).toNat).drop 1) (o450005 ++ ([(([] : List Int) ++ (v1.getD 0 []))])))
                          else (none))
                        else (none))
                      else (bif decide (0 ≤ (IntKind.i64.wrap ((o450005.length : Int) - (1 : Int)))) then
                          (bif decide ((IntKind.i64.wrap ((o450005.length : Int) - (1 : Int))) < (o450005.length : Int)) then
                            (bif decide ((IntKind.i64.wrap ((o450005.length : Int) - (1 : Int))).toNat < o450005.length) then
                              ((s_SamePacket k ((o450005.getD (IntKind.i64.wrap ((o450005.length : Int) - (1 : Int))).toNat []), (v1.getD 0 []))).bind fun y9 =>
                              bif (!y9) then
                                (bif decide (([] : List Int).length + (v1.getD 0 []).length ≤ rowMax) then
                                  (bif decide ((o450005.set (IntKind.i64.wrap ((o450005.length : Int) - (1 : Int))).toNat (o450005.getD (IntKind.i64.wrap ((o450005.length : Int) - (1 : Int))).toNat [])).length + ([(([] : List Int) ++ (v1.getD 0 []))]).length ≤ rowMax) then
                                    (s_l05Merge_l2 k v0 ((v1.take ((v1.length : Int)).toNat).drop 1) ((o450005.set (IntKind.i64.wrap ((o450005.length : Int) - (1 : Int))).toNat (o450005.getD (IntKind.i64.wrap ((o450005.length : Int) - (1 : Int))).toNat [])) ++ ([(([] : List Int) ++ (v1.getD 0 []))])))
                                  else (none))
                                else (none))
                              else (s_l05Merge_l2 k v0 ((v1.take ((v1.length : Int)).toNat).drop 1) (o450005.set (IntKind.i64.wrap ((o450005.length : Int) - (1 : Int))).toNat (o450005.getD (IntKind.i64.wrap ((o450005.length : Int) - (1 : Int))).toNat []))))
                            else (none))
                          else (none))
                        else (none)))
                    else (none))
                  else (none))
                else (none)))
            else (none))
          else (none))
        else (bif decide ((0 : Int) < (v1.length : Int)) then
            (bif decide ((1 : Int) ≤ (v1.length : Int)) then
              (bif decide ((v1.length : Int) ≤ (v1.length : Int)) then
                (bif ((o450005.length : Int) == (0 : Int)) then
                  (bif decide (([] : List Int).length + (v1.getD 0 []).length ≤ rowMax) then
                    (bif decide (o450005.length + ([(([] : List Int) ++ (v1.getD 0 []))]).length ≤ rowMax) then
                      (s_l05Merge_l2 k v0 ((v1.take ((v1.length : Int)).toNat).drop 1) (o450005 ++ ([(([] : List Int) ++ (v1.getD 0 []))])))
                    else (none))
                  else (none))
                else (bif decide (0 ≤ (IntKind.i64.wrap ((o450005.length : Int) - (1 : Int)))) then
                    (bif decide ((IntKind.i64.wrap ((o450005.length : Int) - (1 : Int))) < (o450005.length : Int)) then
                      (bif decide ((IntKind.i64.wrap ((o450005.length : Int) - (1 : Int))).toNat < o450005.length) then
                        ((s_SamePacket k ((o450005.getD (IntKind.i64.wrap ((o450005.length : Int) - (1 : Int))).toNat []), (v1.getD 0 []))).bind fun y10 =>
                        bif (!y10) then
                          (bif decide (([] : List Int).length + (v1.getD 0 []).length ≤ rowMax) then
                            (bif decide ((o450005.set (IntKind.i64.wrap ((o450005.length : Int) - (1 : Int))).toNat (o450005.getD (IntKind.i64.wrap ((o450005.length : Int) - (1 : Int))).toNat [])).length + ([(([] : List Int) ++ (v1.getD 0 []))]).length ≤ rowMax) then
                              (s_l05Merge_l2 k v0 ((v1.take ((v1.length : Int)).toNat).drop 1) ((o450005.set (IntKind.i64.wrap ((o450005.length : Int) - (1 : Int))).toNat (o450005.getD (IntKind.i64.wrap ((o450005.length : Int) - (1 : Int))).toNat [])) ++ ([(([] : List Int) ++ (v1.getD 0 []))])))
                            else (none))
                          else (none))
                        else (s_l05Merge_l2 k v0 ((v1.take ((v1.length : Int)).toNat).drop 1) (o450005.set (IntKind.i64.wrap ((o450005.length : Int) - (1 : Int))).toNat (o450005.getD (IntKind.i64.wrap ((o450005.length : Int) - (1 : Int))).toNat []))))
                      else (none))
                    else (none))
                  else (none)))
              else (none))
            else (none))
          else (none))))
    else (some o450005)) := by kernel_rfl
theorem s_SortPackets_eq (k : Nat) (x0 : List (List Int)) : s_SortPackets (k + 1) x0 =
  bif decide ((x0.length : Int) < (2 : Int)) then
    ((s_l05Merge k (x0, [])).bind fun y1 =>
    some y1)
  else (bif decide (0 ≤ (IntKind.i64.wrap ((x0.length : Int).tdiv (2 : Int)))) then
      (bif decide ((IntKind.i64.wrap ((x0.length : Int).tdiv (2 : Int))) ≤ (x0.length : Int)) then
        ((s_SortPackets k ((x0.take (IntKind.i64.wrap ((x0.length : Int).tdiv (2 : Int))).toNat).drop 0)).bind fun y2 =>
        bif decide (0 ≤ (IntKind.i64.wrap ((x0.length : Int).tdiv (2 : Int)))) then
          (bif decide ((IntKind.i64.wrap ((x0.length : Int).tdiv (2 : Int))) ≤ (x0.length : Int)) then
            (bif decide ((x0.length : Int) ≤ (x0.length : Int)) then
              ((s_SortPackets k ((x0.take ((x0.length : Int)).toNat).drop (IntKind.i64.wrap ((x0.length : Int).tdiv (2 : Int))).toNat)).bind fun y3 =>
              (s_l05Merge k (y2, y3)).bind fun y4 =>
              some y4)
            else (none))
          else (none))
        else (none))
      else (none))
    else (none)) := by kernel_rfl
theorem s_ResultsAfter_eq (k : Nat) (x0 : List (List Int)) (x1 : Int) : s_ResultsAfter (k + 1) (x0, x1) =
  s_ResultsAfter_l3 k x1 x0 (x0.length : Int) (0 : Int) ([] : List (List Int)) := by kernel_rfl
theorem s_ResultsAfter_l3_eq (k : Nat) (v1 : Int) (v10 : List (List Int)) (v11 : Int) (v12 : Int) (o100006 : List (List Int)) : s_ResultsAfter_l3 (k + 1) v1 v10 v11 v12 o100006 =
  bif decide (v12 < v11) then
    (bif decide (0 ≤ v12) then
      (bif decide (v12 < (v10.length : Int)) then
        ((s_l05Ok k ((v10.getD v12.toNat []), v1)).bind fun y1 =>
        bif (!y1) then
          (some ([], false))
        else ((s_l05Of k ((v10.getD v12.toNat []), v1)).bind fun y2 =>
          (s_SortPackets k y2).bind fun y3 =>
          (s_l05Merge k (o100006, y3)).bind fun y4 =>
          bif decide ((y4.length : Int) > (3000 : Int)) then
            (some ([], false))
          else (s_ResultsAfter_l3 k v1 v10 v11 (IntKind.i64.wrap (v12 + (1 : Int))) y4)))
      else (none))
    else (none))
  else (some (o100006, true)) := by kernel_rfl
theorem s_l15Draw_eq (k : Nat) (x0 : (List Int) × Int × Int) : s_l15Draw (k + 1) x0 =
  (s_l02Draw k (x0, (4 : Int))).bind fun y1 =>
  (s_l01Below k (y1.2, (2 : Int))).bind fun y2 =>
  s_l15Draw_l3 k (IntKind.i64.wrap ((1 : Int) + y2.1)) [y1.1] y2.2.1 y2.2.2.1 y2.2.2.2 := by kernel_rfl
theorem s_l15Draw_l3_eq (k : Nat) (v4 : Int) (o100003 : List (List Int)) (o500000_0 : List Int) (o500000_1 : Int) (o500000_2 : Int) : s_l15Draw_l3 (k + 1) v4 o100003 o500000_0 o500000_1 o500000_2 =
  bif decide (v4 > (0 : Int)) then
    ((s_l01Below k ((o500000_0, (o500000_1, o500000_2)), (5 : Int))).bind fun y1 =>
    (s_ResultsAfter k (o100003, y1.1)).bind fun y2 =>
    bif y2.2 then
      (s_l15Draw_l3 k (IntKind.i64.wrap (v4 - (1 : Int))) y2.1 y1.2.1 y1.2.2.1 y1.2.2.2)
    else (s_l15Draw_l3 k (IntKind.i64.wrap (v4 - (1 : Int))) o100003 y1.2.1 y1.2.2.1 y1.2.2.2))
  else (some (o100003, (o500000_0, (o500000_1, o500000_2)))) := by kernel_rfl
theorem s_MakeKnown_eq (k : Nat) (x0 : List Int) : s_MakeKnown (k + 1) x0 =
  (s_l01New k x0).bind fun y1 =>
  (s_l15Draw k y1).bind fun y2 =>
  some y2.1 := by kernel_rfl
theorem s_l23New_eq (k : Nat) (x0 : List Int) (x1 : Int) : s_l23New (k + 1) (x0, x1) =
  (s_l01New k x0).bind fun y1 =>
  s_l23New_l3 k x1 (0 : Int) y1.1 y1.2.1 y1.2.2 := by kernel_rfl
theorem s_l23New_l3_eq (k : Nat) (v1 : Int) (v6 : Int) (o200005_0 : List Int) (o200005_1 : Int) (o200005_2 : Int) : s_l23New_l3 (k + 1) v1 v6 o200005_0 o200005_1 o200005_2 =
  bif decide (v6 < v1) then
    ((s_l01Byte k (o200005_0, (o200005_1, o200005_2))).bind fun y1 =>
    s_l23New_l3 k v1 (IntKind.i64.wrap (v6 + (1 : Int))) y1.2.1 y1.2.2.1 y1.2.2.2)
  else (some (o200005_0, (o200005_1, o200005_2))) := by kernel_rfl
theorem s_l04Draw_eq (k : Nat) (x0 : (List Int) × Int × Int) (x1 : Int) : s_l04Draw (k + 1) (x0, x1) =
  (s_l01Below k (x0, (9 : Int))).bind fun y1 =>
  bif ((IntKind.i64.wrap ((1 : Int) + y1.1)) == (1 : Int)) then
    ((s_l01Below k (y1.2, (IntKind.i64.wrap (x1 + (1 : Int))))).bind fun y2 =>
    some (((IntKind.i64.wrap ((1 : Int) + y1.1)), y2.1), y2.2))
  else (bif ((IntKind.i64.wrap ((1 : Int) + y1.1)) == (2 : Int)) then
      ((s_l01Below k (y1.2, (IntKind.i64.wrap (x1 + (1 : Int))))).bind fun y3 =>
      some (((IntKind.i64.wrap ((1 : Int) + y1.1)), y3.1), y3.2))
    else (bif ((IntKind.i64.wrap ((1 : Int) + y1.1)) == (3 : Int)) then
        ((s_l01Below k (y1.2, (IntKind.i64.wrap (x1 + (1 : Int))))).bind fun y4 =>
        some (((IntKind.i64.wrap ((1 : Int) + y1.1)), y4.1), y4.2))
      else (bif ((IntKind.i64.wrap ((1 : Int) + y1.1)) == (4 : Int)) then
          ((s_l01Below k (y1.2, (2 : Int))).bind fun y5 =>
          some (((IntKind.i64.wrap ((1 : Int) + y1.1)), y5.1), y5.2))
        else (bif ((IntKind.i64.wrap ((1 : Int) + y1.1)) == (5 : Int)) then
            ((s_l01Below k (y1.2, (2 : Int))).bind fun y6 =>
            some (((IntKind.i64.wrap ((1 : Int) + y1.1)), y6.1), y6.2))
          else (bif ((IntKind.i64.wrap ((1 : Int) + y1.1)) == (7 : Int)) then
              ((s_l01Below k (y1.2, (2 : Int))).bind fun y7 =>
              some (((IntKind.i64.wrap ((1 : Int) + y1.1)), y7.1), y7.2))
            else (bif ((IntKind.i64.wrap ((1 : Int) + y1.1)) == (8 : Int)) then
                ((s_l01Below k (y1.2, x1)).bind fun y8 =>
                some (((IntKind.i64.wrap ((1 : Int) + y1.1)), y8.1), y8.2))
              else (bif ((IntKind.i64.wrap ((1 : Int) + y1.1)) == (9 : Int)) then
                  ((s_l01Below k (y1.2, x1)).bind fun y9 =>
                  some (((IntKind.i64.wrap ((1 : Int) + y1.1)), y9.1), y9.2))
                else (some (((IntKind.i64.wrap ((1 : Int) + y1.1)), (0 : Int)), y1.2))))))))) := by kernel_rfl
theorem s_MakeMove_eq (k : Nat) (x0 : List Int) (x1 : Int) (x2 : Int) : s_MakeMove (k + 1) (x0, x1, x2) =
  (s_l23New k (x0, x1)).bind fun y1 =>
  (s_l04Draw k (y1, (bif decide ((bif decide ((12 : Int) < x2) then (12 : Int) else x2) > (1 : Int)) then (bif decide ((12 : Int) < x2) then (12 : Int) else x2) else (1 : Int)))).bind fun y2 =>
  some y2.1 := by kernel_rfl
theorem i_CardOf_eq (k : Nat) (x0 : Int) : i_CardOf (k + 1) x0 =
  bif decide (x0 < (0 : Int)) then
    (bif decide ((IntKind.i64.wrap ((-1 : Int) - x0)) ≥ (12 : Int)) then
      (some (-1 : Int))
    else (some (IntKind.i64.wrap ((-1 : Int) - x0))))
  else (bif decide (x0 ≥ (12 : Int)) then
      (some (-1 : Int))
    else (some x0)) := by kernel_rfl
theorem i_PacketOk_eq (k : Nat) (x0 : List Int) : i_PacketOk (k + 1) x0 =
  i_PacketOk_l3 k x0 (x0.length : Int) (0 : Int) (List.replicate 12 false) := by kernel_rfl
theorem i_PacketOk_l3_eq (k : Nat) (v7 : List Int) (v8 : Int) (v9 : Int) (o400003 : List Bool) : i_PacketOk_l3 (k + 1) v7 v8 v9 o400003 =
  bif decide (v9 < v8) then
    (bif decide (0 ≤ v9) then
      (bif decide (v9 < (v7.length : Int)) then
        ((i_CardOf k (v7.getD v9.toNat (0 : Int))).bind fun y1 =>
        bif decide (y1 < (0 : Int)) then
          (some false)
        else (bif (Nat.beq o400003.length 12 && true) then
            (bif decide (0 ≤ y1) then
              (bif decide (y1 < (o400003.length : Int)) then
                (bif decide (y1.toNat < o400003.length) then
                  (bif (o400003.getD y1.toNat false) then
                    (some false)
                  else (bif (Nat.beq o400003.length 12 && true) then
                      (bif decide (0 ≤ y1) then
                        (bif decide (y1 < (o400003.length : Int)) then
                          (bif decide (y1.toNat < o400003.length) then
                            (i_PacketOk_l3 k v7 v8 (IntKind.i64.wrap (v9 + (1 : Int))) (o400003.set y1.toNat true))
                          else (none))
                        else (none))
                      else (none))
                    else (none)))
                else (none))
              else (none))
            else (none))
          else (none)))
      else (none))
    else (none))
  else (some true) := by kernel_rfl
theorem i_PositionOf_1_eq (k : Nat) (x0 : Int) (x1 : Int) : i_PositionOf_1 (k + 1) (x0, x1) =
  (i_CardOf k x0).bind fun y1 =>
  some (y1 == x1) := by kernel_rfl
theorem slices_IndexFunc_int_of_i_PositionOf_1_eq (k : Nat) (x0 : List Int) (x1 : Int) : slices_IndexFunc_int_of_i_PositionOf_1 (k + 1) (x0, x1) =
  slices_IndexFunc_int_of_i_PositionOf_1_l2 k x0 x1 (x0.length : Int) (0 : Int) := by kernel_rfl
theorem slices_IndexFunc_int_of_i_PositionOf_1_l2_eq (k : Nat) (v0 : List Int) (v1_0_0 : Int) (v7 : Int) (v8 : Int) : slices_IndexFunc_int_of_i_PositionOf_1_l2 (k + 1) v0 v1_0_0 v7 v8 =
  bif decide (v8 < v7) then
    (bif decide (0 ≤ v8) then
      (bif decide (v8 < (v0.length : Int)) then
        ((i_PositionOf_1 k ((v0.getD v8.toNat (0 : Int)), v1_0_0)).bind fun y1 =>
        bif y1 then
          (some v8)
        else (slices_IndexFunc_int_of_i_PositionOf_1_l2 k v0 v1_0_0 v7 (IntKind.i64.wrap (v8 + (1 : Int)))))
      else (none))
    else (none))
  else (some (-1 : Int)) := by kernel_rfl
theorem i_PositionOf_eq (k : Nat) (x0 : List Int) (x1 : Int) : i_PositionOf (k + 1) (x0, x1) =
  bif decide (x1 < (0 : Int)) then
    (some (-1 : Int))
  else ((slices_IndexFunc_int_of_i_PositionOf_1 k (x0, x1)).bind fun y1 =>
    some y1) := by kernel_rfl
theorem i_IsArrangement_1_eq (k : Nat) (x0 : Int) (x1 : List Int) : i_IsArrangement_1 (k + 1) (x0, x1) =
  (i_CardOf k x0).bind fun y1 =>
  (i_PositionOf k (x1, y1)).bind fun y2 =>
  some (decide (y2 < (0 : Int))) := by kernel_rfl
theorem slices_IndexFunc_int_of_i_IsArrangement_1_eq (k : Nat) (x0 : List Int) (x1 : List Int) : slices_IndexFunc_int_of_i_IsArrangement_1 (k + 1) (x0, x1) =
  slices_IndexFunc_int_of_i_IsArrangement_1_l2 k x0 x1 (x0.length : Int) (0 : Int) := by kernel_rfl
theorem slices_IndexFunc_int_of_i_IsArrangement_1_l2_eq (k : Nat) (v0 : List Int) (v1_0_0 : List Int) (v7 : Int) (v8 : Int) : slices_IndexFunc_int_of_i_IsArrangement_1_l2 (k + 1) v0 v1_0_0 v7 v8 =
  bif decide (v8 < v7) then
    (bif decide (0 ≤ v8) then
      (bif decide (v8 < (v0.length : Int)) then
        ((i_IsArrangement_1 k ((v0.getD v8.toNat (0 : Int)), v1_0_0)).bind fun y1 =>
        bif y1 then
          (some v8)
        else (slices_IndexFunc_int_of_i_IsArrangement_1_l2 k v0 v1_0_0 v7 (IntKind.i64.wrap (v8 + (1 : Int)))))
      else (none))
    else (none))
  else (some (-1 : Int)) := by kernel_rfl
theorem slices_ContainsFunc_int_of_i_IsArrangement_1_eq (k : Nat) (x0 : List Int) (x1 : List Int) : slices_ContainsFunc_int_of_i_IsArrangement_1 (k + 1) (x0, x1) =
  (slices_IndexFunc_int_of_i_IsArrangement_1 k (x0, x1)).bind fun y1 =>
  some (decide (y1 ≥ (0 : Int))) := by kernel_rfl
theorem i_IsArrangement_eq (k : Nat) (x0 : List Int) (x1 : List Int) : i_IsArrangement (k + 1) (x0, x1) =
  (i_PacketOk k x0).bind fun y1 =>
  bif (!y1) then
    (some false)
  else ((i_PacketOk k x1).bind fun y2 =>
    bif (!y2) then
      (some false)
    else (bif (!((x0.length : Int) == (x1.length : Int))) then
        (some false)
      else ((slices_ContainsFunc_int_of_i_IsArrangement_1 k (x0, x1)).bind fun y3 =>
        some (!y3)))) := by kernel_rfl
theorem cmp_isNaN_int_eq (k : Nat) (x0 : Int) : cmp_isNaN_int (k + 1) x0 =
  some (!(x0 == x0)) := by kernel_rfl
theorem cmp_Compare_int_eq (k : Nat) (x0 : Int) (x1 : Int) : cmp_Compare_int (k + 1) (x0, x1) =
  (cmp_isNaN_int k x0).bind fun y1 =>
  (cmp_isNaN_int k x1).bind fun y2 =>
  bif y1 then
    (bif y2 then
      (some (0 : Int))
    else (some (-1 : Int)))
  else (bif y2 then
      (some (1 : Int))
    else (bif decide (x0 < x1) then
        (some (-1 : Int))
      else (bif decide (x0 > x1) then
          (some (1 : Int))
        else (some (0 : Int))))) := by kernel_rfl
theorem slices_Compare_int_eq (k : Nat) (x0 : List Int) (x1 : List Int) : slices_Compare_int (k + 1) (x0, x1) =
  slices_Compare_int_l2 k x0 x1 x0 (x0.length : Int) (0 : Int) := by kernel_rfl
theorem slices_Compare_int_l2_eq (k : Nat) (v0 : List Int) (v1 : List Int) (v9 : List Int) (v10 : Int) (v11 : Int) : slices_Compare_int_l2 (k + 1) v0 v1 v9 v10 v11 =
  bif decide (v11 < v10) then
    (bif decide (0 ≤ v11) then
      (bif decide (v11 < (v9.length : Int)) then
        (bif decide (v11 ≥ (v1.length : Int)) then
          (some (1 : Int))
        else (bif decide (0 ≤ v11) then
            (bif decide (v11 < (v1.length : Int)) then
              ((cmp_Compare_int k ((v9.getD v11.toNat (0 : Int)), (v1.getD v11.toNat (0 : Int)))).bind fun y1 =>
              bif (!(y1 == (0 : Int))) then
                (some y1)
              else (slices_Compare_int_l2 k v0 v1 v9 v10 (IntKind.i64.wrap (v11 + (1 : Int)))))
            else (none))
          else (none)))
      else (none))
    else (none))
  else (bif decide ((v0.length : Int) < (v1.length : Int)) then
      (some (-1 : Int))
    else (some (0 : Int))) := by kernel_rfl
theorem i_KnowOk_eq (k : Nat) (x0 : List (List Int)) : i_KnowOk (k + 1) x0 =
  bif decide ((x0.length : Int) < (1 : Int)) then
    (some false)
  else (bif decide ((x0.length : Int) > (3000 : Int)) then
      (some false)
    else (bif decide ((0 : Int) < (x0.length : Int)) then
        (bif (((x0.getD 0 []).length : Int) == (0 : Int)) then
          (some false)
        else (i_KnowOk_l4 k x0 x0 (x0.length : Int) (0 : Int)))
      else (none))) := by kernel_rfl
theorem i_KnowOk_l4_eq (k : Nat) (v0 : List (List Int)) (v20 : List (List Int)) (v21 : Int) (v22 : Int) : i_KnowOk_l4 (k + 1) v0 v20 v21 v22 =
  bif decide (v22 < v21) then
    (bif decide (0 ≤ v22) then
      (bif decide (v22 < (v20.length : Int)) then
        (bif decide ((0 : Int) < (v0.length : Int)) then
          ((i_IsArrangement k ((v0.getD 0 []), (v20.getD v22.toNat []))).bind fun y1 =>
          bif (!y1) then
            (some false)
          else (bif decide (v22 > (0 : Int)) then
              (bif decide (0 ≤ (IntKind.i64.wrap (v22 - (1 : Int)))) then
                (bif decide ((IntKind.i64.wrap (v22 - (1 : Int))) < (v0.length : Int)) then
                  ((slices_Compare_int k ((v0.getD (IntKind.i64.wrap (v22 - (1 : Int))).toNat []), (v20.getD v22.toNat []))).bind fun y2 =>
                  bif decide (y2 ≥ (0 : Int)) then
                    (some false)
                  else (i_KnowOk_l4 k v0 v20 v21 (IntKind.i64.wrap (v22 + (1 : Int)))))
                else (none))
              else (none))
            else (i_KnowOk_l4 k v0 v20 v21 (IntKind.i64.wrap (v22 + (1 : Int))))))
        else (none))
      else (none))
    else (none))
  else (some true) := by kernel_rfl
theorem i_MoveOk_eq (k : Nat) (x0 : Int) (x1 : Int × Int) : i_MoveOk (k + 1) (x0, x1) =
  bif decide (x0 < (1 : Int)) then
    (some false)
  else (bif decide (x0 > (12 : Int)) then
      (some false)
    else (bif decide (x1.2 < (0 : Int)) then
        (some false)
      else (bif (x1.1 == (1 : Int)) then
          (some (decide (x1.2 ≤ x0)))
        else (bif (x1.1 == (2 : Int)) then
            (some (decide (x1.2 ≤ x0)))
          else (bif (x1.1 == (3 : Int)) then
              (some (decide (x1.2 ≤ x0)))
            else (bif (x1.1 == (4 : Int)) then
                (some (decide (x1.2 ≤ (1 : Int))))
              else (bif (x1.1 == (5 : Int)) then
                  (some (decide (x1.2 ≤ (1 : Int))))
                else (bif (x1.1 == (7 : Int)) then
                    (some (decide (x1.2 ≤ (1 : Int))))
                  else (bif (x1.1 == (6 : Int)) then
                      (some (x1.2 == (0 : Int)))
                    else (bif (x1.1 == (8 : Int)) then
                        (some (decide (x1.2 < x0)))
                      else (bif (x1.1 == (9 : Int)) then
                          (some (decide (x1.2 < x0)))
                        else (some false)))))))))))) := by kernel_rfl
theorem slices_Grow_int_eq (k : Nat) (x0 : List Int) (x1 : Int) : slices_Grow_int k (x0, x1) = (fun _ n => growF n) x0 x1 := by kernel_rfl
theorem slices_Concat_int_eq (k : Nat) (x0 : List (List Int)) : slices_Concat_int (k + 1) x0 =
  slices_Concat_int_l3 k x0 (0 : Int) x0 (x0.length : Int) (0 : Int) := by kernel_rfl
theorem slices_Concat_int_l3_eq (k : Nat) (v0 : List (List Int)) (v3 : Int) (v9 : List (List Int)) (v10 : Int) (v11 : Int) : slices_Concat_int_l3 (k + 1) v0 v3 v9 v10 v11 =
  bif decide (v11 < v10) then
    (bif decide (0 ≤ v11) then
      (bif decide (v11 < (v9.length : Int)) then
        (bif decide ((IntKind.i64.wrap (v3 + ((v9.getD v11.toNat []).length : Int))) < (0 : Int)) then
          (none)
        else (slices_Concat_int_l3 k v0 (IntKind.i64.wrap (v3 + ((v9.getD v11.toNat []).length : Int))) v9 v10 (IntKind.i64.wrap (v11 + (1 : Int)))))
      else (none))
    else (none))
  else ((slices_Grow_int k ([], v3)).bind fun y1 =>
    slices_Concat_int_l11 k v0 (v0.length : Int) (0 : Int) y1) := by kernel_rfl
theorem slices_Concat_int_l11_eq (k : Nat) (v25 : List (List Int)) (v26 : Int) (v27 : Int) (o100006 : List Int) : slices_Concat_int_l11 (k + 1) v25 v26 v27 o100006 =
  bif decide (v27 < v26) then
    (bif decide (0 ≤ v27) then
      (bif decide (v27 < (v25.length : Int)) then
        (bif decide (o100006.length + (v25.getD v27.toNat []).length ≤ rowMax) then
          (slices_Concat_int_l11 k v25 v26 (IntKind.i64.wrap (v27 + (1 : Int))) (o100006 ++ (v25.getD v27.toNat [])))
        else (none))
      else (none))
    else (none))
  else (some o100006) := by kernel_rfl
theorem slices_Clone_int_eq (k : Nat) (x0 : List Int) : slices_Clone_int (k + 1) x0 =
  bif (!x0.isEmpty) then
    (bif decide (([] : List Int).length + x0.length ≤ rowMax) then
      (some (([] : List Int) ++ x0))
    else (none))
  else (both (rs := flatRs slices_Clone_int_fi.rs) (ios := ioOf slices_Clone_int_fi.ps) (some [])
    (bif decide (([] : List Int).length + x0.length ≤ rowMax) then
        (some (([] : List Int) ++ x0))
      else (none))) := by kernel_rfl
theorem slices_Reverse_int_eq (k : Nat) (x0 : List Int) : slices_Reverse_int k x0 = reverseF x0 := by kernel_rfl
theorem i_reversed_eq (k : Nat) (x0 : List Int) : i_reversed (k + 1) x0 =
  (slices_Clone_int k x0).bind fun y1 =>
  (slices_Reverse_int k y1).bind fun y2 =>
  some y2.2 := by kernel_rfl
theorem i_faro_eq (k : Nat) (x0 : List Int) (x1 : Int) : i_faro (k + 1) (x0, x1) =
  bif decide (0 ≤ (IntKind.i64.wrap ((x0.length : Int).tdiv (2 : Int)))) then
    (bif decide ((IntKind.i64.wrap ((x0.length : Int).tdiv (2 : Int))) ≤ (x0.length : Int)) then
      (bif decide (0 ≤ (IntKind.i64.wrap ((x0.length : Int).tdiv (2 : Int)))) then
        (bif decide ((IntKind.i64.wrap ((x0.length : Int).tdiv (2 : Int))) ≤ (x0.length : Int)) then
          (bif decide ((x0.length : Int) ≤ (x0.length : Int)) then
            (i_faro_l4 k ((x0.take (IntKind.i64.wrap ((x0.length : Int).tdiv (2 : Int))).toNat).drop 0) ((x0.take ((x0.length : Int)).toNat).drop (IntKind.i64.wrap ((x0.length : Int).tdiv (2 : Int))).toNat) (x1 == (0 : Int)) [])
          else (none))
        else (none))
      else (none))
    else (none))
  else (none) := by kernel_rfl
theorem i_faro_l4_eq (k : Nat) (v5 : List Int) (v6 : List Int) (v8 : Bool) (o100007 : List Int) : i_faro_l4 (k + 1) v5 v6 v8 o100007 =
  bif decide ((v5.length : Int) > (0 : Int)) then
    (bif v8 then
      (bif decide ((v5.length : Int) > (0 : Int)) then
        (bif decide ((1 : Int) ≤ (v5.length : Int)) then
          (bif decide ((v5.length : Int) ≤ (v5.length : Int)) then
            (bif decide ((0 : Int) < (v5.length : Int)) then
              (bif decide (o100007.length + [(v5.getD 0 (0 : Int))].length ≤ rowMax) then
                (i_faro_l4 k ((v5.take ((v5.length : Int)).toNat).drop 1) v6 (!v8) (o100007 ++ [(v5.getD 0 (0 : Int))]))
              else (none))
            else (none))
          else (none))
        else (none))
      else (bif ((v6.length : Int) == (0 : Int)) then
          (bif decide ((1 : Int) ≤ (v5.length : Int)) then
            (bif decide ((v5.length : Int) ≤ (v5.length : Int)) then
              (bif decide ((0 : Int) < (v5.length : Int)) then
                (bif decide (o100007.length + [(v5.getD 0 (0 : Int))].length ≤ rowMax) then
                  (i_faro_l4 k ((v5.take ((v5.length : Int)).toNat).drop 1) v6 (!v8) (o100007 ++ [(v5.getD 0 (0 : Int))]))
                else (none))
              else (none))
            else (none))
          else (none))
        else (bif decide ((1 : Int) ≤ (v6.length : Int)) then
            (bif decide ((v6.length : Int) ≤ (v6.length : Int)) then
              (bif decide ((0 : Int) < (v6.length : Int)) then
                (bif decide (o100007.length + [(v6.getD 0 (0 : Int))].length ≤ rowMax) then
                  (i_faro_l4 k v5 ((v6.take ((v6.length : Int)).toNat).drop 1) (!v8) (o100007 ++ [(v6.getD 0 (0 : Int))]))
                else (none))
              else (none))
            else (none))
          else (none))))
    else (bif ((v6.length : Int) == (0 : Int)) then
        (bif decide ((1 : Int) ≤ (v5.length : Int)) then
          (bif decide ((v5.length : Int) ≤ (v5.length : Int)) then
            (bif decide ((0 : Int) < (v5.length : Int)) then
              (bif decide (o100007.length + [(v5.getD 0 (0 : Int))].length ≤ rowMax) then
                (i_faro_l4 k ((v5.take ((v5.length : Int)).toNat).drop 1) v6 (!v8) (o100007 ++ [(v5.getD 0 (0 : Int))]))
              else (none))
            else (none))
          else (none))
        else (none))
      else (bif decide ((1 : Int) ≤ (v6.length : Int)) then
          (bif decide ((v6.length : Int) ≤ (v6.length : Int)) then
            (bif decide ((0 : Int) < (v6.length : Int)) then
              (bif decide (o100007.length + [(v6.getD 0 (0 : Int))].length ≤ rowMax) then
                (i_faro_l4 k v5 ((v6.take ((v6.length : Int)).toNat).drop 1) (!v8) (o100007 ++ [(v6.getD 0 (0 : Int))]))
              else (none))
            else (none))
          else (none))
        else (none))))
  else (bif decide ((v6.length : Int) > (0 : Int)) then
      (bif v8 then
        (bif decide ((v5.length : Int) > (0 : Int)) then
          (bif decide ((1 : Int) ≤ (v5.length : Int)) then
            (bif decide ((v5.length : Int) ≤ (v5.length : Int)) then
              (bif decide ((0 : Int) < (v5.length : Int)) then
                (bif decide (o100007.length + [(v5.getD 0 (0 : Int))].length ≤ rowMax) then
                  (i_faro_l4 k ((v5.take ((v5.length : Int)).toNat).drop 1) v6 (!v8) (o100007 ++ [(v5.getD 0 (0 : Int))]))
                else (none))
              else (none))
            else (none))
          else (none))
        else (bif ((v6.length : Int) == (0 : Int)) then
            (bif decide ((1 : Int) ≤ (v5.length : Int)) then
              (bif decide ((v5.length : Int) ≤ (v5.length : Int)) then
                (bif decide ((0 : Int) < (v5.length : Int)) then
                  (bif decide (o100007.length + [(v5.getD 0 (0 : Int))].length ≤ rowMax) then
                    (i_faro_l4 k ((v5.take ((v5.length : Int)).toNat).drop 1) v6 (!v8) (o100007 ++ [(v5.getD 0 (0 : Int))]))
                  else (none))
                else (none))
              else (none))
            else (none))
          else (bif decide ((1 : Int) ≤ (v6.length : Int)) then
              (bif decide ((v6.length : Int) ≤ (v6.length : Int)) then
                (bif decide ((0 : Int) < (v6.length : Int)) then
                  (bif decide (o100007.length + [(v6.getD 0 (0 : Int))].length ≤ rowMax) then
                    (i_faro_l4 k v5 ((v6.take ((v6.length : Int)).toNat).drop 1) (!v8) (o100007 ++ [(v6.getD 0 (0 : Int))]))
                  else (none))
                else (none))
              else (none))
            else (none))))
      else (bif ((v6.length : Int) == (0 : Int)) then
          (bif decide ((1 : Int) ≤ (v5.length : Int)) then
            (bif decide ((v5.length : Int) ≤ (v5.length : Int)) then
              (bif decide ((0 : Int) < (v5.length : Int)) then
                (bif decide (o100007.length + [(v5.getD 0 (0 : Int))].length ≤ rowMax) then
                  (i_faro_l4 k ((v5.take ((v5.length : Int)).toNat).drop 1) v6 (!v8) (o100007 ++ [(v5.getD 0 (0 : Int))]))
                else (none))
              else (none))
            else (none))
          else (none))
        else (bif decide ((1 : Int) ≤ (v6.length : Int)) then
            (bif decide ((v6.length : Int) ≤ (v6.length : Int)) then
              (bif decide ((0 : Int) < (v6.length : Int)) then
                (bif decide (o100007.length + [(v6.getD 0 (0 : Int))].length ≤ rowMax) then
                  (i_faro_l4 k v5 ((v6.take ((v6.length : Int)).toNat).drop 1) (!v8) (o100007 ++ [(v6.getD 0 (0 : Int))]))
                else (none))
              else (none))
            else (none))
          else (none))))
    else (some o100007)) := by kernel_rfl
theorem i_monge_eq (k : Nat) (x0 : List Int) (x1 : Int) : i_monge (k + 1) (x0, x1) =
  i_monge_l3 k x1 x0 (x0.length : Int) (0 : Int) [] := by kernel_rfl
theorem i_monge_l3_eq (k : Nat) (v1 : Int) (v8 : List Int) (v9 : Int) (v10 : Int) (o100005 : List Int) : i_monge_l3 (k + 1) v1 v8 v9 v10 o100005 =
  bif decide (v10 < v9) then
    (bif decide (0 ≤ v10) then
      (bif decide (v10 < (v8.length : Int)) then
        (bif decide (v10 > (0 : Int)) then
          (bif (((IntKind.i64.wrap (v10 + v1)).tmod (2 : Int)) == (1 : Int)) then
            (bif decide ([(v8.getD v10.toNat (0 : Int))].length + o100005.length ≤ rowMax) then
              (i_monge_l3 k v1 v8 v9 (IntKind.i64.wrap (v10 + (1 : Int))) ([(v8.getD v10.toNat (0 : Int))] ++ o100005))
            else (none))
          else (bif decide (o100005.length + [(v8.getD v10.toNat (0 : Int))].length ≤ rowMax) then
              (i_monge_l3 k v1 v8 v9 (IntKind.i64.wrap (v10 + (1 : Int))) (o100005 ++ [(v8.getD v10.toNat (0 : Int))]))
            else (none)))
        else (bif decide (o100005.length + [(v8.getD v10.toNat (0 : Int))].length ≤ rowMax) then
            (i_monge_l3 k v1 v8 v9 (IntKind.i64.wrap (v10 + (1 : Int))) (o100005 ++ [(v8.getD v10.toNat (0 : Int))]))
          else (none)))
      else (none))
    else (none))
  else (some o100005) := by kernel_rfl
theorem i_milk_eq (k : Nat) (x0 : List Int) : i_milk (k + 1) x0 =
  i_milk_l2 k x0 [] := by kernel_rfl
theorem i_milk_l2_eq (k : Nat) (v0 : List Int) (o100003 : List Int) : i_milk_l2 (k + 1) v0 o100003 =
  bif decide ((v0.length : Int) > (1 : Int)) then
    (bif decide ((0 : Int) < (v0.length : Int)) then
      (bif decide (0 ≤ (IntKind.i64.wrap ((v0.length : Int) - (1 : Int)))) then
        (bif decide ((IntKind.i64.wrap ((v0.length : Int) - (1 : Int))) < (v0.length : Int)) then
          (bif decide ([(v0.getD 0 (0 : Int)), (v0.getD (IntKind.i64.wrap ((v0.length : Int) - (1 : Int))).toNat (0 : Int))].length + o100003.length ≤ rowMax) then
            (bif decide ((1 : Int) ≤ (IntKind.i64.wrap ((v0.length : Int) - (1 : Int)))) then
              (bif decide ((IntKind.i64.wrap ((v0.length : Int) - (1 : Int))) ≤ (v0.length : Int)) then
                (i_milk_l2 k ((v0.take (IntKind.i64.wrap ((v0.length : Int) - (1 : Int))).toNat).drop 1) ([(v0.getD 0 (0 : Int)), (v0.getD (IntKind.i64.wrap ((v0.length : Int) - (1 : Int))).toNat (0 : Int))] ++ o100003))
              else (none))
            else (none))
          else (none))
        else (none))
      else (none))
    else (none))
  else ((slices_Clone_int k v0).bind fun y1 =>
    bif decide (y1.length + o100003.length ≤ rowMax) then
      (some (y1 ++ o100003))
    else (none)) := by kernel_rfl
theorem i_dealt_eq (k : Nat) (x0 : List Int) (x1 : Int) : i_dealt (k + 1) (x0, x1) =
  (slices_Clone_int k x0).bind fun y1 =>
  i_dealt_l4 k (x1 == (1 : Int)) [] y1 := by kernel_rfl
theorem i_dealt_l4_eq (k : Nat) (v7 : Bool) (o100005 : List Int) (o100006 : List Int) : i_dealt_l4 (k + 1) v7 o100005 o100006 =
  bif decide ((o100006.length : Int) > (1 : Int)) then
    (bif v7 then
      (bif decide ((0 : Int) < (o100006.length : Int)) then
        (bif decide (0 < o100006.length) then
          (bif decide (o100005.length + [(o100006.getD 0 (0 : Int))].length ≤ rowMax) then
            (bif decide ((1 : Int) ≤ (o100006.length : Int)) then
              (bif decide ((o100006.length : Int) ≤ (o100006.length : Int)) then
                (i_dealt_l4 k (!v7) (o100005 ++ [(o100006.getD 0 (0 : Int))]) ((o100006.take ((o100006.length : Int)).toNat).drop 1))
              else (none))
            else (none))
          else (none))
        else (none))
      else (none))
    else (bif decide ((0 : Int) < (o100006.length : Int)) then
        (bif decide (0 < o100006.length) then
          (bif decide (o100006.length + [(o100006.getD 0 (0 : Int))].length ≤ rowMax) then
            (bif decide ((1 : Int) ≤ ((o100006 ++ [(o100006.getD 0 (0 : Int))]).length : Int)) then
              (bif decide (((o100006 ++ [(o100006.getD 0 (0 : Int))]).length : Int) ≤ ((o100006 ++ [(o100006.getD 0 (0 : Int))]).length : Int)) then
                (i_dealt_l4 k (!v7) o100005 (((o100006 ++ [(o100006.getD 0 (0 : Int))]).take (((o100006 ++ [(o100006.getD 0 (0 : Int))]).length : Int)).toNat).drop 1))
              else (none))
            else (none))
          else (none))
        else (none))
      else (none)))
  else (bif decide (o100005.length + o100006.length ≤ rowMax) then
      (some (o100005 ++ o100006))
    else (none)) := by kernel_rfl
theorem i_TurnCard_eq (k : Nat) (x0 : Int) : i_TurnCard (k + 1) x0 =
  (i_CardOf k x0).bind fun y1 =>
  bif decide (y1 < (0 : Int)) then
    (some x0)
  else (some (IntKind.i64.wrap ((-1 : Int) - x0))) := by kernel_rfl
theorem i_moved_eq (k : Nat) (x0 : List Int) (x1 : Int × Int) : i_moved (k + 1) (x0, x1) =
  bif (x1.1 == (1 : Int)) then
    (bif decide (0 ≤ x1.2) then
      (bif decide (x1.2 ≤ (x0.length : Int)) then
        (bif decide ((x0.length : Int) ≤ (x0.length : Int)) then
          (bif decide (0 ≤ x1.2) then
            (bif decide (x1.2 ≤ (x0.length : Int)) then
              ((slices_Concat_int k [((x0.take ((x0.length : Int)).toNat).drop x1.2.toNat), ((x0.take x1.2.toNat).drop 0)]).bind fun y1 =>
              some y1)
            else (none))
          else (none))
        else (none))
      else (none))
    else (none))
  else (bif (x1.1 == (2 : Int)) then
      (bif decide (0 ≤ x1.2) then
        (bif decide (x1.2 ≤ (x0.length : Int)) then
          ((i_reversed k ((x0.take x1.2.toNat).drop 0)).bind fun y2 =>
          bif decide (0 ≤ x1.2) then
            (bif decide (x1.2 ≤ (x0.length : Int)) then
              (bif decide ((x0.length : Int) ≤ (x0.length : Int)) then
                ((slices_Concat_int k [y2, ((x0.take ((x0.length : Int)).toNat).drop x1.2.toNat)]).bind fun y3 =>
                some y3)
              else (none))
            else (none))
          else (none))
        else (none))
      else (none))
    else (bif (x1.1 == (3 : Int)) then
        (bif decide (0 ≤ x1.2) then
          (bif decide (x1.2 ≤ (x0.length : Int)) then
            ((i_reversed k ((x0.take x1.2.toNat).drop 0)).bind fun y4 =>
            bif decide (0 ≤ x1.2) then
              (bif decide (x1.2 ≤ (x0.length : Int)) then
                (bif decide ((x0.length : Int) ≤ (x0.length : Int)) then
                  ((slices_Concat_int k [y4, ((x0.take ((x0.length : Int)).toNat).drop x1.2.toNat)]).bind fun y5 =>
                  i_moved_l10 k x1.2 (0 : Int) y5)
                else (none))
              else (none))
            else (none))
          else (none))
        else (none))
      else (bif (x1.1 == (4 : Int)) then
          ((i_faro k (x0, x1.2)).bind fun y6 =>
          some y6)
        else (bif (x1.1 == (5 : Int)) then
            ((i_monge k (x0, x1.2)).bind fun y7 =>
            some y7)
          else (bif (x1.1 == (6 : Int)) then
              ((i_milk k x0).bind fun y8 =>
              some y8)
            else (bif (x1.1 == (7 : Int)) then
                ((i_dealt k (x0, x1.2)).bind fun y9 =>
                (i_reversed k y9).bind fun y10 =>
                some y10)
              else (bif (x1.1 == (8 : Int)) then
                  ((slices_Clone_int k x0).bind fun y11 =>
                  bif decide (0 ≤ x1.2) then
                    (bif decide (x1.2 < (y11.length : Int)) then
                      (bif decide (x1.2.toNat < y11.length) then
                        ((i_TurnCard k (y11.getD x1.2.toNat (0 : Int))).bind fun y12 =>
                        bif decide (0 ≤ x1.2) then
                          (bif decide (x1.2 < (y11.length : Int)) then
                            (bif decide (x1.2.toNat < y11.length) then
                              (some (y11.set x1.2.toNat y12))
                            else (none))
                          else (none))
                        else (none))
                      else (none))
                    else (none))
                  else (none))
                else (bif decide (0 ≤ x1.2) then
                    (bif decide (x1.2 ≤ (x0.length : Int)) then
                      (bif decide (0 ≤ (IntKind.i64.wrap (x1.2 + (1 : Int)))) then
                        (bif decide ((IntKind.i64.wrap (x1.2 + (1 : Int))) ≤ (x0.length : Int)) then
                          (bif decide ((x0.length : Int) ≤ (x0.length : Int)) then
                            (bif decide (0 ≤ x1.2) then
                              (bif decide (x1.2 ≤ (IntKind.i64.wrap (x1.2 + (1 : Int)))) then
                                (bif decide ((IntKind.i64.wrap (x1.2 + (1 : Int))) ≤ (x0.length : Int)) then
                                  ((slices_Concat_int k [((x0.take x1.2.toNat).drop 0), ((x0.take ((x0.length : Int)).toNat).drop (IntKind.i64.wrap (x1.2 + (1 : Int))).toNat), ((x0.take (IntKind.i64.wrap (x1.2 + (1 : Int))).toNat).drop x1.2.toNat)]).bind fun y13 =>
                                  some y13)
                                else (none))
                              else (none))
                            else (none))
                          else (none))
                        else (none))
                      else (none))
                    else (none))
                  else (none))))))))) := by kernel_rfl
theorem i_moved_l10_eq (k : Nat) (v5 : Int) (v7 : Int) (o100006 : List Int) : i_moved_l10 (k + 1) v5 v7 o100006 =
  bif decide (v7 < v5) then
    (bif decide (0 ≤ v7) then
      (bif decide (v7 < (o100006.length : Int)) then
        (bif decide (v7.toNat < o100006.length) then
          ((i_TurnCard k (o100006.getD v7.toNat (0 : Int))).bind fun y1 =>
          bif decide (0 ≤ v7) then
            (bif decide (v7 < (o100006.length : Int)) then
              (bif decide (v7.toNat < o100006.length) then
                (i_moved_l10 k v5 (IntKind.i64.wrap (v7 + (1 : Int))) (o100006.set v7.toNat y1))
              else (none))
            else (none))
          else (none))
        else (none))
      else (none))
    else (none))
  else (some o100006) := by kernel_rfl
theorem slices_SortFunc_int_int_eq (k : Nat) (x0 : List (List Int)) (x1 : Bool) : slices_SortFunc_int_int k (x0, x1) = (fun a _ => sortF a) x0 x1 := by kernel_rfl
theorem slices_CompactFunc_int_int_eq (k : Nat) (x0 : List (List Int)) (x1 : Bool) : slices_CompactFunc_int_int k (x0, x1) = (fun a _ => compactF a) x0 x1 := by kernel_rfl
theorem i_SortPackets_eq (k : Nat) (x0 : List (List Int)) : i_SortPackets (k + 1) x0 =
  i_SortPackets_l3 k x0 (x0.length : Int) (0 : Int) [] := by kernel_rfl
theorem i_SortPackets_l3_eq (k : Nat) (v6 : List (List Int)) (v7 : Int) (v8 : Int) (o100003 : List (List Int)) : i_SortPackets_l3 (k + 1) v6 v7 v8 o100003 =
  bif decide (v8 < v7) then
    (bif decide (0 ≤ v8) then
      (bif decide (v8 < (v6.length : Int)) then
        ((slices_Clone_int k (v6.getD v8.toNat [])).bind fun y1 =>
        bif decide (o100003.length + [y1].length ≤ rowMax) then
          (i_SortPackets_l3 k v6 v7 (IntKind.i64.wrap (v8 + (1 : Int))) (o100003 ++ [y1]))
        else (none))
      else (none))
    else (none))
  else ((slices_SortFunc_int_int k (o100003, false)).bind fun y2 =>
    (slices_CompactFunc_int_int k (y2.2, false)).bind fun y3 =>
    some y3) := by kernel_rfl
theorem i_AfterMove_eq (k : Nat) (x0 : List (List Int)) (x1 : Int × Int) : i_AfterMove (k + 1) (x0, x1) =
  (i_KnowOk k x0).bind fun y1 =>
  bif (!y1) then
    (some ([], false))
  else (bif decide ((0 : Int) < (x0.length : Int)) then
      ((i_MoveOk k (((x0.getD 0 []).length : Int), x1)).bind fun y2 =>
      bif (!y2) then
        (some ([], false))
      else (i_AfterMove_l5 k x0 (x0.length : Int) (0 : Int) x1.1 x1.2 []))
    else (none)) := by kernel_rfl
theorem i_AfterMove_l5_eq (k : Nat) (v21 : List (List Int)) (v22 : Int) (v23 : Int) (o200003_0 : Int) (o200003_1 : Int) (o100006 : List (List Int)) : i_AfterMove_l5 (k + 1) v21 v22 v23 o200003_0 o200003_1 o100006 =
  bif decide (v23 < v22) then
    (bif decide (0 ≤ v23) then
      (bif decide (v23 < (v21.length : Int)) then
        ((i_moved k ((v21.getD v23.toNat []), (o200003_0, o200003_1))).bind fun y1 =>
        bif decide (o100006.length + [y1].length ≤ rowMax) then
          (i_AfterMove_l5 k v21 v22 (IntKind.i64.wrap (v23 + (1 : Int))) o200003_0 o200003_1 (o100006 ++ [y1]))
        else (none))
      else (none))
    else (none))
  else ((i_SortPackets k o100006).bind fun y2 =>
    some (y2, true)) := by kernel_rfl
theorem i_cuts_eq (k : Nat) (x0 : List Int) : i_cuts (k + 1) x0 =
  i_cuts_l3 k x0 (x0.length : Int) (0 : Int) [] := by kernel_rfl
theorem i_cuts_l3_eq (k : Nat) (v0 : List Int) (v6 : Int) (v7 : Int) (o100003 : List (List Int)) : i_cuts_l3 (k + 1) v0 v6 v7 o100003 =
  bif decide (v7 < v6) then
    ((i_moved k (v0, ((1 : Int), v7))).bind fun y1 =>
    bif decide (o100003.length + [y1].length ≤ rowMax) then
      (i_cuts_l3 k v0 v6 (IntKind.i64.wrap (v7 + (1 : Int))) (o100003 ++ [y1]))
    else (none))
  else (some o100003) := by kernel_rfl
theorem i_riffled_eq (k : Nat) (x0 : List Int) (x1 : Int) : i_riffled (k + 1) (x0, x1) =
  i_riffled_l3 k x0 x1 (0 : Int) (0 : Int) (x0.length : Int) (0 : Int) := by kernel_rfl
theorem i_riffled_l3_eq (k : Nat) (v0 : List Int) (v1 : Int) (v5 : Int) (v6 : Int) (v11 : Int) (v12 : Int) : i_riffled_l3 (k + 1) v0 v1 v5 v6 v11 v12 =
  bif decide (v12 < v11) then
    (bif decide (0 ≤ v12) then
      (i_riffled_l3 k v0 v1 v5 (IntKind.i64.wrap (v6 + (IntKind.i64.wrap ((1 : Int) - (IntKind.i64.wrap (((BitVec.ofInt IntKind.i64.bits (v1.fdiv (2 ^ (min v12.toNat IntKind.i64.bits))) &&& BitVec.ofInt IntKind.i64.bits (1 : Int)).toNat : Int))))))) v11 (IntKind.i64.wrap (v12 + (1 : Int))))
    else (none))
  else (i_riffled_l9 k v0 v1 v5 v6 (v0.length : Int) (0 : Int) []) := by kernel_rfl
theorem i_riffled_l9_eq (k : Nat) (v0 : List Int) (v1 : Int) (v5 : Int) (v6 : Int) (v24 : Int) (v25 : Int) (o100008 : List Int) : i_riffled_l9 (k + 1) v0 v1 v5 v6 v24 v25 o100008 =
  bif decide (v25 < v24) then
    (bif decide (0 ≤ v25) then
      (bif ((IntKind.i64.wrap (((BitVec.ofInt IntKind.i64.bits (v1.fdiv (2 ^ (min v25.toNat IntKind.i64.bits))) &&& BitVec.ofInt IntKind.i64.bits (1 : Int)).toNat : Int))) == (1 : Int)) then
        (bif decide (0 ≤ v6) then
          (bif decide (v6 < (v0.length : Int)) then
            (bif decide (o100008.length + [(v0.getD v6.toNat (0 : Int))].length ≤ rowMax) then
              (i_riffled_l9 k v0 v1 v5 (IntKind.i64.wrap (v6 + (1 : Int))) v24 (IntKind.i64.wrap (v25 + (1 : Int))) (o100008 ++ [(v0.getD v6.toNat (0 : Int))]))
            else (none))
          else (none))
        else (none))
      else (bif decide (0 ≤ v5) then
          (bif decide (v5 < (v0.length : Int)) then
            (bif decide (o100008.length + [(v0.getD v5.toNat (0 : Int))].length ≤ rowMax) then
              (i_riffled_l9 k v0 v1 (IntKind.i64.wrap (v5 + (1 : Int))) v6 v24 (IntKind.i64.wrap (v25 + (1 : Int))) (o100008 ++ [(v0.getD v5.toNat (0 : Int))]))
            else (none))
          else (none))
        else (none)))
    else (none))
  else (some o100008) := by kernel_rfl
theorem i_all_eq (k : Nat) (x0 : List Int) (x1 : Int) : i_all (k + 1) (x0, x1) =
  bif (x1 == (0 : Int)) then
    ((slices_Clone_int k x0).bind fun y1 =>
    some ([y1], true))
  else (bif (x1 == (1 : Int)) then
      ((i_cuts k x0).bind fun y2 =>
      some (y2, true))
    else (bif (x1 == (2 : Int)) then
        (i_all_l9 k x0 (0 : Int) [])
      else (bif (x1 == (3 : Int)) then
          (bif decide ((x0.length : Int) < (2 : Int)) then
            (some ([], false))
          else ((i_moved k (x0, ((3 : Int), (2 : Int)))).bind fun y3 =>
            (i_cuts k y3).bind fun y4 =>
            some (y4, true)))
        else (bif (x1 == (4 : Int)) then
            (i_all_l20 k x0 (x0.length : Int) (0 : Int) [])
          else (some ([], false)))))) := by kernel_rfl
theorem i_all_l9_eq (k : Nat) (v0 : List Int) (v7 : Int) (o100006 : List (List Int)) : i_all_l9 (k + 1) v0 v7 o100006 =
  bif decide (0 ≤ (v0.length : Int)) then
    (bif decide (v7 < (IntKind.i64.wrap ((1 : Int) * 2 ^ (min (v0.length : Int).toNat IntKind.i64.bits)))) then
      ((i_riffled k (v0, v7)).bind fun y1 =>
      bif decide (o100006.length + [y1].length ≤ rowMax) then
        (i_all_l9 k v0 (IntKind.i64.wrap (v7 + (1 : Int))) (o100006 ++ [y1]))
      else (none))
    else (some (o100006, true)))
  else (none) := by kernel_rfl
theorem i_all_l20_eq (k : Nat) (v0 : List Int) (v48 : Int) (v49 : Int) (o100008 : List (List Int)) : i_all_l20 (k + 1) v0 v48 v49 o100008 =
  bif decide (v49 < v48) then
    (bif decide (0 ≤ v49) then
      (bif decide (v49 ≤ (IntKind.i64.wrap (v49 + (1 : Int)))) then
        (bif decide ((IntKind.i64.wrap (v49 + (1 : Int))) ≤ (v0.length : Int)) then
          (bif decide (0 ≤ v49) then
            (bif decide (v49 ≤ (v0.length : Int)) then
              (bif decide (0 ≤ (IntKind.i64.wrap (v49 + (1 : Int)))) then
                (bif decide ((IntKind.i64.wrap (v49 + (1 : Int))) ≤ (v0.length : Int)) then
                  (bif decide ((v0.length : Int) ≤ (v0.length : Int)) then
                    ((slices_Concat_int k [((v0.take (IntKind.i64.wrap (v49 + (1 : Int))).toNat).drop v49.toNat), ((v0.take v49.toNat).drop 0), ((v0.take ((v0.length : Int)).toNat).drop (IntKind.i64.wrap (v49 + (1 : Int))).toNat)]).bind fun y1 =>
                    bif decide (o100008.length + [y1].length ≤ rowMax) then
                      (i_all_l20 k v0 v48 (IntKind.i64.wrap (v49 + (1 : Int))) (o100008 ++ [y1]))
                    else (none))
                  else (none))
                else (none))
              else (none))
            else (none))
          else (none))
        else (none))
      else (none))
    else (none))
  else (some (o100008, true)) := by kernel_rfl
theorem i_ResultsOf_eq (k : Nat) (x0 : List Int) (x1 : Int) : i_ResultsOf (k + 1) (x0, x1) =
  (i_PacketOk k x0).bind fun y1 =>
  bif (!y1) then
    (some ([], false))
  else (bif ((x0.length : Int) == (0 : Int)) then
      (some ([], false))
    else ((i_all k (x0, x1)).bind fun y2 =>
      (i_SortPackets k y2.1).bind fun y3 =>
      bif (!y2.2) then
        (some ([], false))
      else (bif decide ((y3.length : Int) > (3000 : Int)) then
          (some ([], false))
        else (some (y3, true))))) := by kernel_rfl
theorem i_ResultsAfter_eq (k : Nat) (x0 : List (List Int)) (x1 : Int) : i_ResultsAfter (k + 1) (x0, x1) =
  i_ResultsAfter_l3 k x1 x0 (x0.length : Int) (0 : Int) [] := by kernel_rfl
theorem i_ResultsAfter_l3_eq (k : Nat) (v1 : Int) (v11 : List (List Int)) (v12 : Int) (v13 : Int) (o100006 : List (List Int)) : i_ResultsAfter_l3 (k + 1) v1 v11 v12 v13 o100006 =
  bif decide (v13 < v12) then
    (bif decide (0 ≤ v13) then
      (bif decide (v13 < (v11.length : Int)) then
        ((i_ResultsOf k ((v11.getD v13.toNat []), v1)).bind fun y1 =>
        bif (!y1.2) then
          (some ([], false))
        else (bif decide (o100006.length + y1.1.length ≤ rowMax) then
            (bif decide (((o100006 ++ y1.1).length : Int) > (12000 : Int)) then
              ((i_SortPackets k (o100006 ++ y1.1)).bind fun y2 =>
              i_ResultsAfter_l3 k v1 v11 v12 (IntKind.i64.wrap (v13 + (1 : Int))) y2)
            else (i_ResultsAfter_l3 k v1 v11 v12 (IntKind.i64.wrap (v13 + (1 : Int))) (o100006 ++ y1.1)))
          else (none)))
      else (none))
    else (none))
  else ((i_SortPackets k o100006).bind fun y3 =>
    bif decide ((y3.length : Int) > (3000 : Int)) then
      (some ([], false))
    else (some (y3, true))) := by kernel_rfl
theorem i_AfterChoice_eq (k : Nat) (x0 : List (List Int)) (x1 : Int) : i_AfterChoice (k + 1) (x0, x1) =
  (i_KnowOk k x0).bind fun y1 =>
  bif (!y1) then
    (some ([], false))
  else ((i_ResultsAfter k (x0, x1)).bind fun y2 =>
    some y2) := by kernel_rfl
theorem i_Perform_eq (k : Nat) (x0 : List Int) (x1 : Int × Int) : i_Perform (k + 1) (x0, x1) =
  (i_PacketOk k x0).bind fun y1 =>
  bif (!y1) then
    (some ([], false))
  else ((i_MoveOk k ((x0.length : Int), x1)).bind fun y2 =>
    bif (!y2) then
      (some ([], false))
    else ((i_moved k (x0, x1)).bind fun y3 =>
      some (y3, true))) := by kernel_rfl
theorem w_same_eq (k : Nat) (x0 : List Int) (x1 : List Int) : w_same (k + 1) (x0, x1) =
  bif (!((x0.length : Int) == (x1.length : Int))) then
    (some false)
  else (w_same_l4 k x1 x0 (x0.length : Int) (0 : Int)) := by kernel_rfl
theorem w_same_l4_eq (k : Nat) (v1 : List Int) (v12 : List Int) (v13 : Int) (v14 : Int) : w_same_l4 (k + 1) v1 v12 v13 v14 =
  bif decide (v14 < v13) then
    (bif decide (0 ≤ v14) then
      (bif decide (v14 < (v12.length : Int)) then
        (bif decide (0 ≤ v14) then
          (bif decide (v14 < (v1.length : Int)) then
            (bif (!((v12.getD v14.toNat (0 : Int)) == (v1.getD v14.toNat (0 : Int)))) then
              (some false)
            else (w_same_l4 k v1 v12 v13 (IntKind.i64.wrap (v14 + (1 : Int)))))
          else (none))
        else (none))
      else (none))
    else (none))
  else (some true) := by kernel_rfl
theorem w_find_eq (k : Nat) (x0 : List (List Int)) (x1 : List Int) : w_find (k + 1) (x0, x1) =
  w_find_l2 k x1 x0 (x0.length : Int) (0 : Int) := by kernel_rfl
theorem w_find_l2_eq (k : Nat) (v1 : List Int) (v7 : List (List Int)) (v8 : Int) (v9 : Int) : w_find_l2 (k + 1) v1 v7 v8 v9 =
  bif decide (v9 < v8) then
    (bif decide (0 ≤ v9) then
      (bif decide (v9 < (v7.length : Int)) then
        ((w_same k ((v7.getD v9.toNat []), v1)).bind fun y1 =>
        bif y1 then
          (some true)
        else (w_find_l2 k v1 v7 v8 (IntKind.i64.wrap (v9 + (1 : Int)))))
      else (none))
    else (none))
  else (some false) := by kernel_rfl
theorem i_IsUp_eq (k : Nat) (x0 : Int) : i_IsUp (k + 1) x0 =
  bif decide (x0 < (0 : Int)) then
    ((i_CardOf k x0).bind fun y1 =>
    some (decide (y1 ≥ (0 : Int))))
  else (some false) := by kernel_rfl
theorem slices_Index_int_eq (k : Nat) (x0 : List Int) (x1 : Int) : slices_Index_int (k + 1) (x0, x1) =
  slices_Index_int_l2 k x0 x1 (x0.length : Int) (0 : Int) := by kernel_rfl
theorem slices_Index_int_l2_eq (k : Nat) (v0 : List Int) (v1 : Int) (v7 : Int) (v8 : Int) : slices_Index_int_l2 (k + 1) v0 v1 v7 v8 =
  bif decide (v8 < v7) then
    (bif decide (0 ≤ v8) then
      (bif decide (v8 < (v0.length : Int)) then
        (bif (v1 == (v0.getD v8.toNat (0 : Int))) then
          (some v8)
        else (slices_Index_int_l2 k v0 v1 v7 (IntKind.i64.wrap (v8 + (1 : Int)))))
      else (none))
    else (none))
  else (some (-1 : Int)) := by kernel_rfl
theorem slices_Contains_int_eq (k : Nat) (x0 : List Int) (x1 : Int) : slices_Contains_int (k + 1) (x0, x1) =
  (slices_Index_int k (x0, x1)).bind fun y1 =>
  some (decide (y1 ≥ (0 : Int))) := by kernel_rfl
theorem i_SeeSides_1_eq (k : Nat) (x0 : List Int) (x1 : List Int) : i_SeeSides_1 (k + 1) (x0, x1) =
  i_SeeSides_1_l2 k x1 x0 (x0.length : Int) (0 : Int) := by kernel_rfl
theorem i_SeeSides_1_l2_eq (k : Nat) (v1_0 : List Int) (v6 : List Int) (v7 : Int) (v8 : Int) : i_SeeSides_1_l2 (k + 1) v1_0 v6 v7 v8 =
  bif decide (v8 < v7) then
    (bif decide (0 ≤ v8) then
      (bif decide (v8 < (v6.length : Int)) then
        ((i_IsUp k (v6.getD v8.toNat (0 : Int))).bind fun y1 =>
        (slices_Contains_int k (v1_0, v8)).bind fun y2 =>
        bif (!(y1 == y2)) then
          (some false)
        else (i_SeeSides_1_l2 k v1_0 v6 v7 (IntKind.i64.wrap (v8 + (1 : Int)))))
      else (none))
    else (none))
  else (some true) := by kernel_rfl
theorem i_those_of_i_SeeSides_1_eq (k : Nat) (x0 : List (List Int)) (x1 : List Int) : i_those_of_i_SeeSides_1 (k + 1) (x0, x1) =
  (i_KnowOk k x0).bind fun y1 =>
  bif (!y1) then
    (some [])
  else (i_those_of_i_SeeSides_1_l5 k x1 x0 (x0.length : Int) (0 : Int) []) := by kernel_rfl
theorem i_those_of_i_SeeSides_1_l5_eq (k : Nat) (v1_0_0 : List Int) (v11 : List (List Int)) (v12 : Int) (v13 : Int) (o100005 : List (List Int)) : i_those_of_i_SeeSides_1_l5 (k + 1) v1_0_0 v11 v12 v13 o100005 =
  bif decide (v13 < v12) then
    (bif decide (0 ≤ v13) then
      (bif decide (v13 < (v11.length : Int)) then
        ((i_SeeSides_1 k ((v11.getD v13.toNat []), v1_0_0)).bind fun y1 =>
        bif y1 then
          ((slices_Clone_int k (v11.getD v13.toNat [])).bind fun y2 =>
          bif decide (o100005.length + [y2].length ≤ rowMax) then
            (i_those_of_i_SeeSides_1_l5 k v1_0_0 v11 v12 (IntKind.i64.wrap (v13 + (1 : Int))) (o100005 ++ [y2]))
          else (none))
        else (i_those_of_i_SeeSides_1_l5 k v1_0_0 v11 v12 (IntKind.i64.wrap (v13 + (1 : Int))) o100005))
      else (none))
    else (none))
  else (some o100005) := by kernel_rfl
theorem i_SeeSides_eq (k : Nat) (x0 : List (List Int)) (x1 : List Int) : i_SeeSides (k + 1) (x0, x1) =
  (i_those_of_i_SeeSides_1 k (x0, x1)).bind fun y1 =>
  some y1 := by kernel_rfl
theorem w_FnLearns_eq (k : Nat) (x0 : List Int) : w_FnLearns (k + 1) x0 =
  bif decide ((x0.length : Int) > (1048576 : Int)) then
    (some true)
  else ((s_MakeKnown k x0).bind fun y1 =>
    bif decide ((0 : Int) < (y1.length : Int)) then
      (bif decide (0 < y1.length) then
        ((s_MakeMove k (x0, ((40 : Int), ((y1.getD 0 []).length : Int)))).bind fun y2 =>
        (i_AfterMove k (y1, y2)).bind fun y3 =>
        (i_AfterChoice k (y1, (1 : Int))).bind fun y4 =>
        bif (!y3.2) then
          (some false)
        else (bif (!y4.2) then
            (some false)
          else (bif (!((y3.1.length : Int) == (y1.length : Int))) then
              (some false)
            else ((i_KnowOk k y3.1).bind fun y5 =>
              bif (!y5) then
                (some false)
              else ((i_KnowOk k y4.1).bind fun y6 =>
                bif (!y6) then
                  (some false)
                else (bif decide ((y4.1.length : Int) < (y1.length : Int)) then
                    (some false)
                  else (w_FnLearns_l10 k y1 y3.1 y4.1 y1 (y1.length : Int) (0 : Int) y2.1 y2.2)))))))
      else (none))
    else (none)) := by kernel_rfl
theorem w_FnLearns_l10_eq (k : Nat) (v3 : List (List Int)) (v5 : List (List Int)) (v7 : List (List Int)) (v68 : List (List Int)) (v69 : Int) (v70 : Int) (o200004_0 : Int) (o200004_1 : Int) : w_FnLearns_l10 (k + 1) v3 v5 v7 v68 v69 v70 o200004_0 o200004_1 =
  bif decide (v70 < v69) then
    (bif decide (0 ≤ v70) then
      (bif decide (v70 < (v68.length : Int)) then
        ((i_Perform k ((v68.getD v70.toNat []), (o200004_0, o200004_1))).bind fun y1 =>
        bif (!y1.2) then
          (some false)
        else ((w_find k (v5, y1.1)).bind fun y2 =>
          bif (!y2) then
            (some false)
          else ((w_find k (v7, (v68.getD v70.toNat []))).bind fun y3 =>
            bif (!y3) then
              (some false)
            else (w_FnLearns_l10 k v3 v5 v7 v68 v69 (IntKind.i64.wrap (v70 + (1 : Int))) o200004_0 o200004_1))))
      else (none))
    else (none))
  else (bif decide ((0 : Int) < (v3.length : Int)) then
      (w_FnLearns_l18 k v3 (v3.getD 0 []) ((v3.getD 0 []).length : Int) (0 : Int) ([] : List Int))
    else (none)) := by kernel_rfl
theorem w_FnLearns_l18_eq (k : Nat) (v3 : List (List Int)) (v98 : List Int) (v99 : Int) (v100 : Int) (o100013 : List Int) : w_FnLearns_l18 (k + 1) v3 v98 v99 v100 o100013 =
  bif decide (v100 < v99) then
    (bif decide (0 ≤ v100) then
      (bif decide (v100 < (v98.length : Int)) then
        ((i_IsUp k (v98.getD v100.toNat (0 : Int))).bind fun y1 =>
        bif y1 then
          (bif decide (o100013.length + [v100].length ≤ rowMax) then
            (w_FnLearns_l18 k v3 v98 v99 (IntKind.i64.wrap (v100 + (1 : Int))) (o100013 ++ [v100]))
          else (none))
        else (w_FnLearns_l18 k v3 v98 v99 (IntKind.i64.wrap (v100 + (1 : Int))) o100013))
      else (none))
    else (none))
  else ((i_SeeSides k (v3, o100013)).bind fun y2 =>
    bif decide ((0 : Int) < (v3.length : Int)) then
      ((w_find k (y2, (v3.getD 0 []))).bind fun y3 =>
      some y3)
    else (none)) := by kernel_rfl

/-! ### the tables are right -/
/-- What holds of the world throughout. -/
abbrev gw : Gw := ⟨fun w => True, true⟩
theorem ty_3 : TyOk Go.Proofs.Try.prog 3 (.one (.int .i64)) := tyOk_int (by kernel_rfl) (by kernel_rfl) (by kernel_rfl)
theorem ty_4 : TyOk Go.Proofs.Try.prog 4 (.one (.bool)) := tyOk_bool (by kernel_rfl) (by kernel_rfl) (by kernel_rfl)
theorem ty_5 : TyOk Go.Proofs.Try.prog 5 (.one (.int .u8)) := tyOk_int (by kernel_rfl) (by kernel_rfl) (by kernel_rfl)
theorem ty_22 : TyOk Go.Proofs.Try.prog 22 (.one (.slice (.int .i64))) := tyOk_slice (e := 3) (by kernel_rfl) (by kernel_rfl) (by kernel_rfl) (elemOk_of (by kernel_rfl) (by kernel_rfl) (by kernel_rfl))
theorem ty_38 : TyOk Go.Proofs.Try.prog 38 (.one (.slice (.slice (.int .i64)))) := tyOk_slice (e := 22) (by kernel_rfl) (by kernel_rfl) (by kernel_rfl) (elemOk_of (by kernel_rfl) (by kernel_rfl) (by kernel_rfl))
theorem ty_45 : TyOk Go.Proofs.Try.prog 45 (.struct [(0, 3), (1, 3)] [.int .i64, .int .i64] true) := tyOk_struct (fields := Go.Proofs.Try.prog.fieldsOf 45) (by kernel_rfl) (by kernel_rfl) (by kernel_rfl) (by kernel_rfl) (by kernel_rfl) (by kernel_rfl) (fun _ => structEq_ok (d := 20) (fields := Go.Proofs.Try.prog.fieldsOf 45) (by kernel_rfl) (by kernel_rfl) (by decide) (by kernel_rfl))
theorem ty_74 : TyOk Go.Proofs.Try.prog 74 (.one (.slice (.int .u8))) := tyOk_slice (e := 5) (by kernel_rfl) (by kernel_rfl) (by kernel_rfl) (elemOk_of (by kernel_rfl) (by kernel_rfl) (by kernel_rfl))
theorem ty_121 : TyOk Go.Proofs.Try.prog 121 (.arr 12 (.bool)) := tyOk_arr (e := 4) (by kernel_rfl) (elemOk_of (by kernel_rfl) (by kernel_rfl) (by kernel_rfl)) (by kernel_rfl) (by kernel_rfl)
theorem ty_125 : TyOk Go.Proofs.Try.prog 125 (.struct [(0, 74), (1, 3), (2, 3)] [.slice (.int .u8), .int .i64, .int .i64] false) := tyOk_struct (fields := Go.Proofs.Try.prog.fieldsOf 125) (by kernel_rfl) (by kernel_rfl) (by kernel_rfl) (by kernel_rfl) (by kernel_rfl) (by kernel_rfl) (fun e => by cases e)
theorem ty_5022023 : TyOk Go.Proofs.Try.prog 5022023 (.flag) := trivial
theorem ty_5022031 : TyOk Go.Proofs.Try.prog 5022031 (.flag) := trivial
theorem hE : ∀ T ti, E.ty T = some ti → TyOk Go.Proofs.Try.prog T ti := lookT_ok (l := tyL) ⟨ty_3, ty_4, ty_5, ty_22, ty_38, ty_45, ty_74, ty_121, ty_125, ty_5022023, ty_5022031, trivial⟩
theorem s_l01New_ok : OneF Go.Proofs.Try.prog gw 88 s_l01New_fi := fnOk_of (fn := Go.Proofs.Try.f88) (c := s_l01New_c) Go.Proofs.Try.func88 (by kernel_rfl) (by kernel_rfl) rfl rfl (by kernel_rfl) (by kernel_rfl) rfl
theorem s_l01Byte_ok : OneF Go.Proofs.Try.prog gw 128 s_l01Byte_fi := fnOk_of (fn := Go.Proofs.Try.f128) (c := s_l01Byte_c) Go.Proofs.Try.func128 (by kernel_rfl) (by kernel_rfl) rfl rfl (by kernel_rfl) (by kernel_rfl) rfl
theorem s_l01Below_ok : OneF Go.Proofs.Try.prog gw 127 s_l01Below_fi := fnOk_of (fn := Go.Proofs.Try.f127) (c := s_l01Below_c) Go.Proofs.Try.func127 (by kernel_rfl) (by kernel_rfl) rfl rfl (by kernel_rfl) (by kernel_rfl) rfl
theorem s_l02Shuffle_ok : OneF Go.Proofs.Try.prog gw 146 s_l02Shuffle_fi := fnOk_of (fn := Go.Proofs.Try.f146) (c := s_l02Shuffle_c) Go.Proofs.Try.func146 (by kernel_rfl) (by kernel_rfl) rfl rfl (by kernel_rfl) (by kernel_rfl) rfl
theorem s_l01Once_ok : OneF Go.Proofs.Try.prog gw 147 s_l01Once_fi := fnOk_of (fn := Go.Proofs.Try.f147) (c := s_l01Once_c) Go.Proofs.Try.func147 (by kernel_rfl) (by kernel_rfl) rfl rfl (by kernel_rfl) (by kernel_rfl) rfl
theorem s_l02Draw_ok : OneF Go.Proofs.Try.prog gw 126 s_l02Draw_fi := fnOk_of (fn := Go.Proofs.Try.f126) (c := s_l02Draw_c) Go.Proofs.Try.func126 (by kernel_rfl) (by kernel_rfl) rfl rfl (by kernel_rfl) (by kernel_rfl) rfl
theorem s_l01In_ok : OneF Go.Proofs.Try.prog gw 55 s_l01In_fi := fnOk_of (fn := Go.Proofs.Try.f55) (c := s_l01In_c) Go.Proofs.Try.func55 (by kernel_rfl) (by kernel_rfl) rfl rfl (by kernel_rfl) (by kernel_rfl) rfl
theorem s_CardOf_ok : OneF Go.Proofs.Try.prog gw 122 s_CardOf_fi := fnOk_of (fn := Go.Proofs.Try.f122) (c := s_CardOf_c) Go.Proofs.Try.func122 (by kernel_rfl) (by kernel_rfl) rfl rfl (by kernel_rfl) (by kernel_rfl) rfl
theorem s_l02Has_ok : OneF Go.Proofs.Try.prog gw 123 s_l02Has_fi := fnOk_of (fn := Go.Proofs.Try.f123) (c := s_l02Has_c) Go.Proofs.Try.func123 (by kernel_rfl) (by kernel_rfl) rfl rfl (by kernel_rfl) (by kernel_rfl) rfl
theorem s_PacketOk_ok : OneF Go.Proofs.Try.prog gw 75 s_PacketOk_fi := fnOk_of (fn := Go.Proofs.Try.f75) (c := s_PacketOk_c) Go.Proofs.Try.func75 (by kernel_rfl) (by kernel_rfl) rfl rfl (by kernel_rfl) (by kernel_rfl) rfl
theorem s_l05Ok_ok : OneF Go.Proofs.Try.prog gw 120 s_l05Ok_fi := fnOk_of (fn := Go.Proofs.Try.f120) (c := s_l05Ok_c) Go.Proofs.Try.func120 (by kernel_rfl) (by kernel_rfl) rfl rfl (by kernel_rfl) (by kernel_rfl) rfl
theorem s_TurnCard_ok : OneF Go.Proofs.Try.prog gw 108 s_TurnCard_fi := fnOk_of (fn := Go.Proofs.Try.f108) (c := s_TurnCard_c) Go.Proofs.Try.func108 (by kernel_rfl) (by kernel_rfl) rfl rfl (by kernel_rfl) (by kernel_rfl) rfl
theorem s_l04Back_ok : OneF Go.Proofs.Try.prog gw 103 s_l04Back_fi := fnOk_of (fn := Go.Proofs.Try.f103) (c := s_l04Back_c) Go.Proofs.Try.func103 (by kernel_rfl) (by kernel_rfl) rfl rfl (by kernel_rfl) (by kernel_rfl) rfl
theorem s_l04Faro_ok : OneF Go.Proofs.Try.prog gw 104 s_l04Faro_fi := fnOk_of (fn := Go.Proofs.Try.f104) (c := s_l04Faro_c) Go.Proofs.Try.func104 (by kernel_rfl) (by kernel_rfl) rfl rfl (by kernel_rfl) (by kernel_rfl) rfl
theorem s_l04Monge_ok : OneF Go.Proofs.Try.prog gw 105 s_l04Monge_fi := fnOk_of (fn := Go.Proofs.Try.f105) (c := s_l04Monge_c) Go.Proofs.Try.func105 (by kernel_rfl) (by kernel_rfl) rfl rfl (by kernel_rfl) (by kernel_rfl) rfl
theorem s_l04Milk_ok : OneF Go.Proofs.Try.prog gw 106 s_l04Milk_fi := fnOk_of (fn := Go.Proofs.Try.f106) (c := s_l04Milk_c) Go.Proofs.Try.func106 (by kernel_rfl) (by kernel_rfl) rfl rfl (by kernel_rfl) (by kernel_rfl) rfl
theorem s_l04Duck_ok : OneF Go.Proofs.Try.prog gw 107 s_l04Duck_fi := fnOk_of (fn := Go.Proofs.Try.f107) (c := s_l04Duck_c) Go.Proofs.Try.func107 (by kernel_rfl) (by kernel_rfl) rfl rfl (by kernel_rfl) (by kernel_rfl) rfl
theorem s_l04Do_ok : OneF Go.Proofs.Try.prog gw 68 s_l04Do_fi := fnOk_of (fn := Go.Proofs.Try.f68) (c := s_l04Do_c) Go.Proofs.Try.func68 (by kernel_rfl) (by kernel_rfl) rfl rfl (by kernel_rfl) (by kernel_rfl) rfl
theorem s_l05Cuts_ok : OneF Go.Proofs.Try.prog gw 142 s_l05Cuts_fi := fnOk_of (fn := Go.Proofs.Try.f142) (c := s_l05Cuts_c) Go.Proofs.Try.func142 (by kernel_rfl) (by kernel_rfl) rfl rfl (by kernel_rfl) (by kernel_rfl) rfl
theorem s_l05Weave_ok : OneF Go.Proofs.Try.prog gw 143 s_l05Weave_fi := fnOk_of (fn := Go.Proofs.Try.f143) (c := s_l05Weave_c) Go.Proofs.Try.func143 (by kernel_rfl) (by kernel_rfl) rfl rfl (by kernel_rfl) (by kernel_rfl) rfl
theorem s_l05Of_ok : OneF Go.Proofs.Try.prog gw 121 s_l05Of_fi := fnOk_of (fn := Go.Proofs.Try.f121) (c := s_l05Of_c) Go.Proofs.Try.func121 (by kernel_rfl) (by kernel_rfl) rfl rfl (by kernel_rfl) (by kernel_rfl) rfl
theorem s_SamePacket_ok : OneF Go.Proofs.Try.prog gw 137 s_SamePacket_fi := fnOk_of (fn := Go.Proofs.Try.f137) (c := s_SamePacket_c) Go.Proofs.Try.func137 (by kernel_rfl) (by kernel_rfl) rfl rfl (by kernel_rfl) (by kernel_rfl) rfl
theorem s_l05Less_ok : OneF Go.Proofs.Try.prog gw 102 s_l05Less_fi := fnOk_of (fn := Go.Proofs.Try.f102) (c := s_l05Less_c) Go.Proofs.Try.func102 (by kernel_rfl) (by kernel_rfl) rfl rfl (by kernel_rfl) (by kernel_rfl) rfl
theorem s_l05Merge_ok : OneF Go.Proofs.Try.prog gw 109 s_l05Merge_fi := fnOk_of (fn := Go.Proofs.Try.f109) (c := s_l05Merge_c) Go.Proofs.Try.func109 (by kernel_rfl) (by kernel_rfl) rfl rfl (by kernel_rfl) (by kernel_rfl) rfl
theorem s_SortPackets_ok : OneF Go.Proofs.Try.prog gw 69 s_SortPackets_fi := fnOk_of (fn := Go.Proofs.Try.f69) (c := s_SortPackets_c) Go.Proofs.Try.func69 (by kernel_rfl) (by kernel_rfl) rfl rfl (by kernel_rfl) (by kernel_rfl) rfl
theorem s_ResultsAfter_ok : OneF Go.Proofs.Try.prog gw 73 s_ResultsAfter_fi := fnOk_of (fn := Go.Proofs.Try.f73) (c := s_ResultsAfter_c) Go.Proofs.Try.func73 (by kernel_rfl) (by kernel_rfl) rfl rfl (by kernel_rfl) (by kernel_rfl) rfl
theorem s_l15Draw_ok : OneF Go.Proofs.Try.prog gw 87 s_l15Draw_fi := fnOk_of (fn := Go.Proofs.Try.f87) (c := s_l15Draw_c) Go.Proofs.Try.func87 (by kernel_rfl) (by kernel_rfl) rfl rfl (by kernel_rfl) (by kernel_rfl) rfl
theorem s_MakeKnown_ok : OneF Go.Proofs.Try.prog gw 45 s_MakeKnown_fi := fnOk_of (fn := Go.Proofs.Try.f45) (c := s_MakeKnown_c) Go.Proofs.Try.func45 (by kernel_rfl) (by kernel_rfl) rfl rfl (by kernel_rfl) (by kernel_rfl) rfl
theorem s_l23New_ok : OneF Go.Proofs.Try.prog gw 90 s_l23New_fi := fnOk_of (fn := Go.Proofs.Try.f90) (c := s_l23New_c) Go.Proofs.Try.func90 (by kernel_rfl) (by kernel_rfl) rfl rfl (by kernel_rfl) (by kernel_rfl) rfl
theorem s_l04Draw_ok : OneF Go.Proofs.Try.prog gw 89 s_l04Draw_fi := fnOk_of (fn := Go.Proofs.Try.f89) (c := s_l04Draw_c) Go.Proofs.Try.func89 (by kernel_rfl) (by kernel_rfl) rfl rfl (by kernel_rfl) (by kernel_rfl) rfl
theorem s_MakeMove_ok : OneF Go.Proofs.Try.prog gw 46 s_MakeMove_fi := fnOk_of (fn := Go.Proofs.Try.f46) (c := s_MakeMove_c) Go.Proofs.Try.func46 (by kernel_rfl) (by kernel_rfl) rfl rfl (by kernel_rfl) (by kernel_rfl) rfl
theorem i_CardOf_ok : OneF Go.Proofs.Try.prog gw 81 i_CardOf_fi := fnOk_of (fn := Go.Proofs.Try.f81) (c := i_CardOf_c) Go.Proofs.Try.func81 (by kernel_rfl) (by kernel_rfl) rfl rfl (by kernel_rfl) (by kernel_rfl) rfl
theorem i_PacketOk_ok : OneF Go.Proofs.Try.prog gw 78 i_PacketOk_fi := fnOk_of (fn := Go.Proofs.Try.f78) (c := i_PacketOk_c) Go.Proofs.Try.func78 (by kernel_rfl) (by kernel_rfl) rfl rfl (by kernel_rfl) (by kernel_rfl) rfl
theorem i_PositionOf_1_ok : OneF Go.Proofs.Try.prog gw 135 i_PositionOf_1_fi := fnOk_of (fn := Go.Proofs.Try.f135) (c := i_PositionOf_1_c) Go.Proofs.Try.func135 (by kernel_rfl) (by kernel_rfl) rfl rfl (by kernel_rfl) (by kernel_rfl) rfl
theorem slices_IndexFunc_int_of_i_PositionOf_1_ok : OneF Go.Proofs.Try.prog gw 134 slices_IndexFunc_int_of_i_PositionOf_1_fi := fnOk_of (fn := Go.Proofs.Try.f134) (c := slices_IndexFunc_int_of_i_PositionOf_1_c) Go.Proofs.Try.func134 (by kernel_rfl) (by kernel_rfl) rfl rfl (by kernel_rfl) (by kernel_rfl) rfl
theorem i_PositionOf_ok : OneF Go.Proofs.Try.prog gw 98 i_PositionOf_fi := fnOk_of (fn := Go.Proofs.Try.f98) (c := i_PositionOf_c) Go.Proofs.Try.func98 (by kernel_rfl) (by kernel_rfl) rfl rfl (by kernel_rfl) (by kernel_rfl) rfl
theorem i_IsArrangement_1_ok : OneF Go.Proofs.Try.prog gw 130 i_IsArrangement_1_fi := fnOk_of (fn := Go.Proofs.Try.f130) (c := i_IsArrangement_1_c) Go.Proofs.Try.func130 (by kernel_rfl) (by kernel_rfl) rfl rfl (by kernel_rfl) (by kernel_rfl) rfl
theorem slices_IndexFunc_int_of_i_IsArrangement_1_ok : OneF Go.Proofs.Try.prog gw 134 slices_IndexFunc_int_of_i_IsArrangement_1_fi := fnOk_of (fn := Go.Proofs.Try.f134) (c := slices_IndexFunc_int_of_i_IsArrangement_1_c) Go.Proofs.Try.func134 (by kernel_rfl) (by kernel_rfl) rfl rfl (by kernel_rfl) (by kernel_rfl) rfl
theorem slices_ContainsFunc_int_of_i_IsArrangement_1_ok : OneF Go.Proofs.Try.prog gw 129 slices_ContainsFunc_int_of_i_IsArrangement_1_fi := fnOk_of (fn := Go.Proofs.Try.f129) (c := slices_ContainsFunc_int_of_i_IsArrangement_1_c) Go.Proofs.Try.func129 (by kernel_rfl) (by kernel_rfl) rfl rfl (by kernel_rfl) (by kernel_rfl) rfl
theorem i_IsArrangement_ok : OneF Go.Proofs.Try.prog gw 91 i_IsArrangement_fi := fnOk_of (fn := Go.Proofs.Try.f91) (c := i_IsArrangement_c) Go.Proofs.Try.func91 (by kernel_rfl) (by kernel_rfl) rfl rfl (by kernel_rfl) (by kernel_rfl) rfl
theorem cmp_isNaN_int_ok : OneF Go.Proofs.Try.prog gw 148 cmp_isNaN_int_fi := fnOk_of (fn := Go.Proofs.Try.f148) (c := cmp_isNaN_int_c) Go.Proofs.Try.func148 (by kernel_rfl) (by kernel_rfl) rfl rfl (by kernel_rfl) (by kernel_rfl) rfl
theorem cmp_Compare_int_ok : OneF Go.Proofs.Try.prog gw 131 cmp_Compare_int_fi := fnOk_of (fn := Go.Proofs.Try.f131) (c := cmp_Compare_int_c) Go.Proofs.Try.func131 (by kernel_rfl) (by kernel_rfl) rfl rfl (by kernel_rfl) (by kernel_rfl) rfl
theorem slices_Compare_int_ok : OneF Go.Proofs.Try.prog gw 92 slices_Compare_int_fi := fnOk_of (fn := Go.Proofs.Try.f92) (c := slices_Compare_int_c) Go.Proofs.Try.func92 (by kernel_rfl) (by kernel_rfl) rfl rfl (by kernel_rfl) (by kernel_rfl) rfl
theorem i_KnowOk_ok : OneF Go.Proofs.Try.prog gw 47 i_KnowOk_fi := fnOk_of (fn := Go.Proofs.Try.f47) (c := i_KnowOk_c) Go.Proofs.Try.func47 (by kernel_rfl) (by kernel_rfl) rfl rfl (by kernel_rfl) (by kernel_rfl) rfl
theorem i_MoveOk_ok : OneF Go.Proofs.Try.prog gw 70 i_MoveOk_fi := fnOk_of (fn := Go.Proofs.Try.f70) (c := i_MoveOk_c) Go.Proofs.Try.func70 (by kernel_rfl) (by kernel_rfl) rfl rfl (by kernel_rfl) (by kernel_rfl) rfl
theorem slices_Grow_int_ok : OneF Go.Proofs.Try.prog gw 138 slices_Grow_int_fi := Go.Proofs.Try.growOne
theorem slices_Concat_int_ok : OneF Go.Proofs.Try.prog gw 110 slices_Concat_int_fi := fnOk_of (fn := Go.Proofs.Try.f110) (c := slices_Concat_int_c) Go.Proofs.Try.func110 (by kernel_rfl) (by kernel_rfl) rfl rfl (by kernel_rfl) (by kernel_rfl) rfl
theorem slices_Clone_int_ok : OneF Go.Proofs.Try.prog gw 80 slices_Clone_int_fi := fnOk_of (fn := Go.Proofs.Try.f80) (c := slices_Clone_int_c) Go.Proofs.Try.func80 (by kernel_rfl) (by kernel_rfl) rfl rfl (by kernel_rfl) (by kernel_rfl) rfl
theorem slices_Reverse_int_ok : OneF Go.Proofs.Try.prog gw 139 slices_Reverse_int_fi := Go.Proofs.Try.revOne
theorem i_reversed_ok : OneF Go.Proofs.Try.prog gw 111 i_reversed_fi := fnOk_of (fn := Go.Proofs.Try.f111) (c := i_reversed_c) Go.Proofs.Try.func111 (by kernel_rfl) (by kernel_rfl) rfl rfl (by kernel_rfl) (by kernel_rfl) rfl
theorem i_faro_ok : OneF Go.Proofs.Try.prog gw 113 i_faro_fi := fnOk_of (fn := Go.Proofs.Try.f113) (c := i_faro_c) Go.Proofs.Try.func113 (by kernel_rfl) (by kernel_rfl) rfl rfl (by kernel_rfl) (by kernel_rfl) rfl
theorem i_monge_ok : OneF Go.Proofs.Try.prog gw 114 i_monge_fi := fnOk_of (fn := Go.Proofs.Try.f114) (c := i_monge_c) Go.Proofs.Try.func114 (by kernel_rfl) (by kernel_rfl) rfl rfl (by kernel_rfl) (by kernel_rfl) rfl
theorem i_milk_ok : OneF Go.Proofs.Try.prog gw 115 i_milk_fi := fnOk_of (fn := Go.Proofs.Try.f115) (c := i_milk_c) Go.Proofs.Try.func115 (by kernel_rfl) (by kernel_rfl) rfl rfl (by kernel_rfl) (by kernel_rfl) rfl
theorem i_dealt_ok : OneF Go.Proofs.Try.prog gw 116 i_dealt_fi := fnOk_of (fn := Go.Proofs.Try.f116) (c := i_dealt_c) Go.Proofs.Try.func116 (by kernel_rfl) (by kernel_rfl) rfl rfl (by kernel_rfl) (by kernel_rfl) rfl
theorem i_TurnCard_ok : OneF Go.Proofs.Try.prog gw 112 i_TurnCard_fi := fnOk_of (fn := Go.Proofs.Try.f112) (c := i_TurnCard_c) Go.Proofs.Try.func112 (by kernel_rfl) (by kernel_rfl) rfl rfl (by kernel_rfl) (by kernel_rfl) rfl
theorem i_moved_ok : OneF Go.Proofs.Try.prog gw 71 i_moved_fi := fnOk_of (fn := Go.Proofs.Try.f71) (c := i_moved_c) Go.Proofs.Try.func71 (by kernel_rfl) (by kernel_rfl) rfl rfl (by kernel_rfl) (by kernel_rfl) rfl
theorem slices_SortFunc_int_int_ok : OneF Go.Proofs.Try.prog gw 117 slices_SortFunc_int_int_fi := Go.Proofs.Try.sortOne
theorem slices_CompactFunc_int_int_ok : OneF Go.Proofs.Try.prog gw 118 slices_CompactFunc_int_int_fi := Go.Proofs.Try.compactOne
theorem i_SortPackets_ok : OneF Go.Proofs.Try.prog gw 72 i_SortPackets_fi := fnOk_of (fn := Go.Proofs.Try.f72) (c := i_SortPackets_c) Go.Proofs.Try.func72 (by kernel_rfl) (by kernel_rfl) rfl rfl (by kernel_rfl) (by kernel_rfl) rfl
theorem i_AfterMove_ok : OneF Go.Proofs.Try.prog gw 23 i_AfterMove_fi := fnOk_of (fn := Go.Proofs.Try.f23) (c := i_AfterMove_c) Go.Proofs.Try.func23 (by kernel_rfl) (by kernel_rfl) rfl rfl (by kernel_rfl) (by kernel_rfl) rfl
theorem i_cuts_ok : OneF Go.Proofs.Try.prog gw 144 i_cuts_fi := fnOk_of (fn := Go.Proofs.Try.f144) (c := i_cuts_c) Go.Proofs.Try.func144 (by kernel_rfl) (by kernel_rfl) rfl rfl (by kernel_rfl) (by kernel_rfl) rfl
theorem i_riffled_ok : OneF Go.Proofs.Try.prog gw 145 i_riffled_fi := fnOk_of (fn := Go.Proofs.Try.f145) (c := i_riffled_c) Go.Proofs.Try.func145 (by kernel_rfl) (by kernel_rfl) rfl rfl (by kernel_rfl) (by kernel_rfl) rfl
theorem i_all_ok : OneF Go.Proofs.Try.prog gw 125 i_all_fi := fnOk_of (fn := Go.Proofs.Try.f125) (c := i_all_c) Go.Proofs.Try.func125 (by kernel_rfl) (by kernel_rfl) rfl rfl (by kernel_rfl) (by kernel_rfl) rfl
theorem i_ResultsOf_ok : OneF Go.Proofs.Try.prog gw 82 i_ResultsOf_fi := fnOk_of (fn := Go.Proofs.Try.f82) (c := i_ResultsOf_c) Go.Proofs.Try.func82 (by kernel_rfl) (by kernel_rfl) rfl rfl (by kernel_rfl) (by kernel_rfl) rfl
theorem i_ResultsAfter_ok : OneF Go.Proofs.Try.prog gw 74 i_ResultsAfter_fi := fnOk_of (fn := Go.Proofs.Try.f74) (c := i_ResultsAfter_c) Go.Proofs.Try.func74 (by kernel_rfl) (by kernel_rfl) rfl rfl (by kernel_rfl) (by kernel_rfl) rfl
theorem i_AfterChoice_ok : OneF Go.Proofs.Try.prog gw 28 i_AfterChoice_fi := fnOk_of (fn := Go.Proofs.Try.f28) (c := i_AfterChoice_c) Go.Proofs.Try.func28 (by kernel_rfl) (by kernel_rfl) rfl rfl (by kernel_rfl) (by kernel_rfl) rfl
theorem i_Perform_ok : OneF Go.Proofs.Try.prog gw 48 i_Perform_fi := fnOk_of (fn := Go.Proofs.Try.f48) (c := i_Perform_c) Go.Proofs.Try.func48 (by kernel_rfl) (by kernel_rfl) rfl rfl (by kernel_rfl) (by kernel_rfl) rfl
theorem w_same_ok : OneF Go.Proofs.Try.prog gw 93 w_same_fi := fnOk_of (fn := Go.Proofs.Try.f93) (c := w_same_c) Go.Proofs.Try.func93 (by kernel_rfl) (by kernel_rfl) rfl rfl (by kernel_rfl) (by kernel_rfl) rfl
theorem w_find_ok : OneF Go.Proofs.Try.prog gw 49 w_find_fi := fnOk_of (fn := Go.Proofs.Try.f49) (c := w_find_c) Go.Proofs.Try.func49 (by kernel_rfl) (by kernel_rfl) rfl rfl (by kernel_rfl) (by kernel_rfl) rfl
theorem i_IsUp_ok : OneF Go.Proofs.Try.prog gw 50 i_IsUp_fi := fnOk_of (fn := Go.Proofs.Try.f50) (c := i_IsUp_c) Go.Proofs.Try.func50 (by kernel_rfl) (by kernel_rfl) rfl rfl (by kernel_rfl) (by kernel_rfl) rfl
theorem slices_Index_int_ok : OneF Go.Proofs.Try.prog gw 132 slices_Index_int_fi := fnOk_of (fn := Go.Proofs.Try.f132) (c := slices_Index_int_c) Go.Proofs.Try.func132 (by kernel_rfl) (by kernel_rfl) rfl rfl (by kernel_rfl) (by kernel_rfl) rfl
theorem slices_Contains_int_ok : OneF Go.Proofs.Try.prog gw 96 slices_Contains_int_fi := fnOk_of (fn := Go.Proofs.Try.f96) (c := slices_Contains_int_c) Go.Proofs.Try.func96 (by kernel_rfl) (by kernel_rfl) rfl rfl (by kernel_rfl) (by kernel_rfl) rfl
theorem i_SeeSides_1_ok : OneF Go.Proofs.Try.prog gw 95 i_SeeSides_1_fi := fnOk_of (fn := Go.Proofs.Try.f95) (c := i_SeeSides_1_c) Go.Proofs.Try.func95 (by kernel_rfl) (by kernel_rfl) rfl rfl (by kernel_rfl) (by kernel_rfl) rfl
theorem i_those_of_i_SeeSides_1_ok : OneF Go.Proofs.Try.prog gw 94 i_those_of_i_SeeSides_1_fi := fnOk_of (fn := Go.Proofs.Try.f94) (c := i_those_of_i_SeeSides_1_c) Go.Proofs.Try.func94 (by kernel_rfl) (by kernel_rfl) rfl rfl (by kernel_rfl) (by kernel_rfl) rfl
theorem i_SeeSides_ok : OneF Go.Proofs.Try.prog gw 51 i_SeeSides_fi := fnOk_of (fn := Go.Proofs.Try.f51) (c := i_SeeSides_c) Go.Proofs.Try.func51 (by kernel_rfl) (by kernel_rfl) rfl rfl (by kernel_rfl) (by kernel_rfl) rfl
theorem w_FnLearns_ok : OneF Go.Proofs.Try.prog gw 9 w_FnLearns_fi := fnOk_of (fn := Go.Proofs.Try.f9) (c := w_FnLearns_c) Go.Proofs.Try.func9 (by kernel_rfl) (by kernel_rfl) rfl rfl (by kernel_rfl) (by kernel_rfl) rfl
theorem hF : FnOk Go.Proofs.Try.prog gw E := lookF_ok (l := fnL) ⟨s_l01New_ok, s_l01Byte_ok, s_l01Below_ok, s_l02Shuffle_ok, s_l01Once_ok, s_l02Draw_ok, s_l01In_ok, s_CardOf_ok, s_l02Has_ok, s_PacketOk_ok, s_l05Ok_ok, s_TurnCard_ok, s_l04Back_ok, s_l04Faro_ok, s_l04Monge_ok, s_l04Milk_ok, s_l04Duck_ok, s_l04Do_ok, s_l05Cuts_ok, s_l05Weave_ok, s_l05Of_ok, s_SamePacket_ok, s_l05Less_ok, s_l05Merge_ok, s_SortPackets_ok, s_ResultsAfter_ok, s_l15Draw_ok, s_MakeKnown_ok, s_l23New_ok, s_l04Draw_ok, s_MakeMove_ok, i_CardOf_ok, i_PacketOk_ok, i_PositionOf_1_ok, slices_IndexFunc_int_of_i_PositionOf_1_ok, i_PositionOf_ok, i_IsArrangement_1_ok, slices_IndexFunc_int_of_i_IsArrangement_1_ok, slices_ContainsFunc_int_of_i_IsArrangement_1_ok, i_IsArrangement_ok, cmp_isNaN_int_ok, cmp_Compare_int_ok, slices_Compare_int_ok, i_KnowOk_ok, i_MoveOk_ok, slices_Grow_int_ok, slices_Concat_int_ok, slices_Clone_int_ok, slices_Reverse_int_ok, i_reversed_ok, i_faro_ok, i_monge_ok, i_milk_ok, i_dealt_ok, i_TurnCard_ok, i_moved_ok, slices_SortFunc_int_int_ok, slices_CompactFunc_int_int_ok, i_SortPackets_ok, i_AfterMove_ok, i_cuts_ok, i_riffled_ok, i_all_ok, i_ResultsOf_ok, i_ResultsAfter_ok, i_AfterChoice_ok, i_Perform_ok, w_same_ok, w_find_ok, i_IsUp_ok, slices_Index_int_ok, slices_Contains_int_ok, i_SeeSides_1_ok, i_those_of_i_SeeSides_1_ok, i_SeeSides_ok, w_FnLearns_ok, trivial⟩
end Pt
