/-
  The plain machine's telling of functions of the program. Printed by gen.py.
  Conditions: none; these are definitions and equations that the kernel checks.
-/
import Derived.Test.YtlgkjckddpnfnaaGreatDoorXvza
import Derived.Test.YtlgkjckddpnfnaaGreatDoorXvze
import Derived.Test.YtlgkjckddpnfnaaGreatDoorXvzj
import Derived.Test.YtlgkjckddpnfnaaGreatDoorXvzk
import Derived.Test.YtlgkjckddpnfnaaGreatDoorProg
import Derived.Test.YtlgkjckddpnfnaaGreatDoorShelf
import Derived.Test.YtlgkjckddpnfnaaGreatDoorCmf
import Derived.Test.YtlgkjckddpnfnaaGreatDoorSrt
namespace Pt
open Go Go.Vt
set_option linter.unusedVariables false
set_option maxRecDepth 100000

noncomputable def tyL : List (Nat × TI) := [(3, .one (.int .i64)),
  (4, .one (.bool)),
  (5, .one (.int .u8)),
  (22, .one (.slice (.int .u8))),
  (23, .one (.slice (.int .i64))),
  (24, .one (.slice (.pair (.int .i64) (.pair (.pair (.int .i64) (.int .i64)) (.int .i64))))),
  (26, .struct [(0, 23), (1, 24), (2, 3), (3, 3), (4, 3)] [.slice (.int .i64), .slice (.pair (.int .i64) (.pair (.pair (.int .i64) (.int .i64)) (.int .i64))), .int .i64, .int .i64, .int .i64] false),
  (28, .one (.slice (.pair (.slice (.int .i64)) (.int .i64)))),
  (34, .struct [(0, 23), (1, 3)] [.slice (.int .i64), .int .i64] false),
  (45, .one (.slice (.slice (.pair (.slice (.int .i64)) (.int .i64))))),
  (49, .struct [(0, 3), (1, 3)] [.int .i64, .int .i64] true),
  (51, .struct [(0, 3), (1, 49), (3, 3)] [.int .i64, .int .i64, .int .i64, .int .i64] true),
  (66, .struct [(0, 22), (1, 3), (2, 3)] [.slice (.int .u8), .int .i64, .int .i64] false),
  (68, .one (.set)),
  (72, .one (.slice (.slice (.int .i64)))),
  (75, .arr 12 (.bool)),
  (88, .one (.slice (.str))),
  (5023031, .flag),
  (5023072, .flag),
  (5028021, .flag),
  (5034049, .flag),
  (5034057, .flag)]

/-! ### s_l01New -/
noncomputable def s_l01New_c : Code := (Go.Proofs.Tryz.f15.body).getD .skip
noncomputable def s_l01New_h : Nat → Option (List Hint)
  | 3 => some [.keep 0, .keep 3, .keep 4]
  | _ => none
noncomputable def s_l01New_fi : Fi := ⟨[.v (.slice (.int .u8)) false], [(false, [⟨.pair (.slice (.int .u8)) (.pair (.int .i64) (.int .i64)), some (false, false)⟩])], none, s_l01New_c, Go.Proofs.Tryz.f15.results.toList, 32, s_l01New_h⟩
/-! ### s_l01Byte -/
noncomputable def s_l01Byte_c : Code := (Go.Proofs.Tryz.f19.body).getD .skip
noncomputable def s_l01Byte_h : Nat → Option (List Hint)
  | _ => none
noncomputable def s_l01Byte_fi : Fi := ⟨[.p (.slice (.int .u8)) (.pair (.int .i64) (.int .i64))], [(false, [⟨.int .i64, none⟩])], none, s_l01Byte_c, Go.Proofs.Tryz.f19.results.toList, 58, s_l01Byte_h⟩
/-! ### s_l01Below -/
noncomputable def s_l01Below_c : Code := (Go.Proofs.Tryz.f31.body).getD .skip
noncomputable def s_l01Below_h : Nat → Option (List Hint)
  | _ => none
noncomputable def s_l01Below_fi : Fi := ⟨[.p (.slice (.int .u8)) (.pair (.int .i64) (.int .i64)), .v (.int .i64) false], [(false, [⟨.int .i64, none⟩])], none, s_l01Below_c, Go.Proofs.Tryz.f31.results.toList, 37, s_l01Below_h⟩
/-! ### s_l01Once -/
noncomputable def s_l01Once_c : Code := (Go.Proofs.Tryz.f28.body).getD .skip
noncomputable def s_l01Once_h : Nat → Option (List Hint)
  | _ => none
noncomputable def s_l01Once_fi : Fi := ⟨[.p (.slice (.int .u8)) (.pair (.int .i64) (.int .i64)), .v (.int .i64) false], [(false, [⟨.bool, none⟩])], none, s_l01Once_c, Go.Proofs.Tryz.f28.results.toList, 9, s_l01Once_h⟩
/-! ### s_l01In -/
noncomputable def s_l01In_c : Code := (Go.Proofs.Tryz.f44.body).getD .skip
noncomputable def s_l01In_h : Nat → Option (List Hint)
  | _ => none
noncomputable def s_l01In_fi : Fi := ⟨[.v (.int .i64) false, .v (.int .i64) false, .v (.int .i64) false], [(false, [⟨.bool, none⟩])], none, s_l01In_c, Go.Proofs.Tryz.f44.results.toList, 15, s_l01In_h⟩
/-! ### s_NewPacket -/
noncomputable def s_NewPacket_c : Code := (Go.Proofs.Tryz.f40.body).getD .skip
noncomputable def s_NewPacket_h : Nat → Option (List Hint)
  | 5 => some [.keep 0, .cell 3 (.row 100003 (.int .i64) true false), .keep 4]
  | _ => none
noncomputable def s_NewPacket_fi : Fi := ⟨[.v (.int .i64) false], [(false, [⟨.slice (.int .i64), some (true, true)⟩])], none, s_NewPacket_c, Go.Proofs.Tryz.f40.results.toList, 19, s_NewPacket_h⟩
/-! ### s_l16Known -/
noncomputable def s_l16Known_c : Code := (Go.Proofs.Tryz.f29.body).getD .skip
noncomputable def s_l16Known_h : Nat → Option (List Hint)
  | _ => none
noncomputable def s_l16Known_fi : Fi := ⟨[.p (.slice (.int .u8)) (.pair (.int .i64) (.int .i64))], [(true, [⟨.slice (.int .i64), some (true, true)⟩, ⟨.slice (.pair (.int .i64) (.pair (.pair (.int .i64) (.int .i64)) (.int .i64))), some (true, false)⟩, ⟨.int .i64, none⟩, ⟨.int .i64, none⟩, ⟨.int .i64, none⟩])], none, s_l16Known_c, Go.Proofs.Tryz.f29.results.toList, 41, s_l16Known_h⟩
/-! ### s_l02Shuffle -/
noncomputable def s_l02Shuffle_c : Code := (Go.Proofs.Tryz.f41.body).getD .skip
noncomputable def s_l02Shuffle_h : Nat → Option (List Hint)
  | 3 => some [.box 0 500000 [.keep, .keep, .keep], .keep 1, .cell 5 (.row 100005 (.int .i64) true false), .keep 6]
  | _ => none
noncomputable def s_l02Shuffle_fi : Fi := ⟨[.p (.slice (.int .u8)) (.pair (.int .i64) (.int .i64)), .v (.int .i64) false], [(false, [⟨.slice (.int .i64), some (true, false)⟩])], none, s_l02Shuffle_c, Go.Proofs.Tryz.f41.results.toList, 34, s_l02Shuffle_h⟩
/-! ### s_l02Draw -/
noncomputable def s_l02Draw_c : Code := (Go.Proofs.Tryz.f30.body).getD .skip
noncomputable def s_l02Draw_h : Nat → Option (List Hint)
  | 4 => some [.box 0 500000 [.keep, .keep, .keep], .cell 5 (.row 100005 (.int .i64) true false), .keep 16, .keep 17]
  | _ => none
noncomputable def s_l02Draw_fi : Fi := ⟨[.p (.slice (.int .u8)) (.pair (.int .i64) (.int .i64)), .v (.int .i64) false], [(false, [⟨.slice (.int .i64), some (true, false)⟩])], none, s_l02Draw_c, Go.Proofs.Tryz.f30.results.toList, 32, s_l02Draw_h⟩
/-! ### s_l01Pick -/
noncomputable def s_l01Pick_c : Code := (Go.Proofs.Tryz.f42.body).getD .skip
noncomputable def s_l01Pick_h : Nat → Option (List Hint)
  | _ => none
noncomputable def s_l01Pick_fi : Fi := ⟨[.p (.slice (.int .u8)) (.pair (.int .i64) (.int .i64)), .v (.slice (.int .i64)) false], [(false, [⟨.int .i64, none⟩])], none, s_l01Pick_c, Go.Proofs.Tryz.f42.results.toList, 12, s_l01Pick_h⟩
/-! ### s_l04Draw -/
noncomputable def s_l04Draw_c : Code := (Go.Proofs.Tryz.f43.body).getD .skip
noncomputable def s_l04Draw_h : Nat → Option (List Hint)
  | _ => none
noncomputable def s_l04Draw_fi : Fi := ⟨[.p (.slice (.int .u8)) (.pair (.int .i64) (.int .i64)), .v (.int .i64) false], [(true, [⟨.int .i64, none⟩, ⟨.int .i64, none⟩])], none, s_l04Draw_c, Go.Proofs.Tryz.f43.results.toList, 36, s_l04Draw_h⟩
/-! ### s_l16Step -/
noncomputable def s_l16Step_c : Code := (Go.Proofs.Tryz.f32.body).getD .skip
noncomputable def s_l16Step_h : Nat → Option (List Hint)
  | _ => none
noncomputable def s_l16Step_fi : Fi := ⟨[.p (.slice (.int .u8)) (.pair (.int .i64) (.int .i64)), .v (.int .i64) false], [(true, [⟨.int .i64, none⟩, ⟨.int .i64, none⟩, ⟨.int .i64, none⟩, ⟨.int .i64, none⟩])], none, s_l16Step_c, Go.Proofs.Tryz.f32.results.toList, 31, s_l16Step_h⟩
/-! ### s_CardOf -/
noncomputable def s_CardOf_c : Code := (Go.Proofs.Tryz.f33.body).getD .skip
noncomputable def s_CardOf_h : Nat → Option (List Hint)
  | _ => none
noncomputable def s_CardOf_fi : Fi := ⟨[.v (.int .i64) false], [(false, [⟨.int .i64, none⟩])], none, s_CardOf_c, Go.Proofs.Tryz.f33.results.toList, 10, s_CardOf_h⟩
/-! ### s_l16Draw -/
noncomputable def s_l16Draw_c : Code := (Go.Proofs.Tryz.f14.body).getD .skip
noncomputable def s_l16Draw_h : Nat → Option (List Hint)
  | 7 => some [.box 0 500000 [.keep, .keep, .keep], .box 2 200002 [.keep, .keep, .keep, .keep, .keep], .box 3 200003 [.row 300300 (.int .i64) true false, .row 300301 (.pair (.int .i64) (.pair (.pair (.int .i64) (.int .i64)) (.int .i64))) true true, .keep, .keep, .keep], .keep 4, .keep 5, .keep 6]
  | _ => none
noncomputable def s_l16Draw_fi : Fi := ⟨[.p (.slice (.int .u8)) (.pair (.int .i64) (.int .i64))], [(true, [⟨.slice (.int .i64), some (true, false)⟩, ⟨.slice (.pair (.int .i64) (.pair (.pair (.int .i64) (.int .i64)) (.int .i64))), some (true, false)⟩, ⟨.int .i64, none⟩, ⟨.int .i64, none⟩, ⟨.int .i64, none⟩])], none, s_l16Draw_c, Go.Proofs.Tryz.f14.results.toList, 72, s_l16Draw_h⟩
/-! ### s_MakeTrick -/
noncomputable def s_MakeTrick_c : Code := (Go.Proofs.Tryz.f4.body).getD .skip
noncomputable def s_MakeTrick_h : Nat → Option (List Hint)
  | _ => none
noncomputable def s_MakeTrick_fi : Fi := ⟨[.v (.slice (.int .u8)) false], [(true, [⟨.slice (.int .i64), some (true, false)⟩, ⟨.slice (.pair (.int .i64) (.pair (.pair (.int .i64) (.int .i64)) (.int .i64))), some (true, false)⟩, ⟨.int .i64, none⟩, ⟨.int .i64, none⟩, ⟨.int .i64, none⟩])], none, s_MakeTrick_c, Go.Proofs.Tryz.f4.results.toList, 6, s_MakeTrick_h⟩
/-! ### i_CardOf -/
noncomputable def i_CardOf_c : Code := (Go.Proofs.Tryz.f26.body).getD .skip
noncomputable def i_CardOf_h : Nat → Option (List Hint)
  | _ => none
noncomputable def i_CardOf_fi : Fi := ⟨[.v (.int .i64) false], [(false, [⟨.int .i64, none⟩])], none, i_CardOf_c, Go.Proofs.Tryz.f26.results.toList, 10, i_CardOf_h⟩
/-! ### i_PacketOk -/
noncomputable def i_PacketOk_c : Code := (Go.Proofs.Tryz.f22.body).getD .skip
noncomputable def i_PacketOk_h : Nat → Option (List Hint)
  | 3 => some [.arr 3 400003, .keep 7, .keep 8, .keep 9]
  | _ => none
noncomputable def i_PacketOk_fi : Fi := ⟨[.v (.slice (.int .i64)) false], [(false, [⟨.bool, none⟩])], none, i_PacketOk_c, Go.Proofs.Tryz.f22.results.toList, 25, i_PacketOk_h⟩
/-! ### i_MoveOk -/
noncomputable def i_MoveOk_c : Code := (Go.Proofs.Tryz.f45.body).getD .skip
noncomputable def i_MoveOk_h : Nat → Option (List Hint)
  | _ => none
noncomputable def i_MoveOk_fi : Fi := ⟨[.v (.int .i64) false, .v (.pair (.int .i64) (.int .i64)) true], [(false, [⟨.bool, none⟩])], none, i_MoveOk_c, Go.Proofs.Tryz.f45.results.toList, 45, i_MoveOk_h⟩
/-! ### i_StepOk -/
noncomputable def i_StepOk_c : Code := (Go.Proofs.Tryz.f34.body).getD .skip
noncomputable def i_StepOk_h : Nat → Option (List Hint)
  | _ => none
noncomputable def i_StepOk_fi : Fi := ⟨[.v (.int .i64) false, .v (.pair (.int .i64) (.pair (.pair (.int .i64) (.int .i64)) (.int .i64))) true], [(false, [⟨.bool, none⟩])], none, i_StepOk_c, Go.Proofs.Tryz.f34.results.toList, 75, i_StepOk_h⟩
/-! ### i_PositionOf_1 -/
noncomputable def i_PositionOf_1_c : Code := (Go.Proofs.Tryz.f39.body).getD .skip
noncomputable def i_PositionOf_1_h : Nat → Option (List Hint)
  | _ => none
noncomputable def i_PositionOf_1_fi : Fi := ⟨[.v (.int .i64) false, .r (.int .i64)], [(false, [⟨.bool, none⟩])], none, i_PositionOf_1_c, Go.Proofs.Tryz.f39.results.toList, 8, i_PositionOf_1_h⟩
/-! ### slices_IndexFunc_int_of_i_PositionOf_1 -/
noncomputable def slices_IndexFunc_int_of_i_PositionOf_1_c : Code := (Go.Proofs.Tryz.f38.body).getD .skip
noncomputable def slices_IndexFunc_int_of_i_PositionOf_1_h : Nat → Option (List Hint)
  | 2 => some [.keep 0, .keep 1, .keep 7, .keep 8]
  | _ => none
noncomputable def slices_IndexFunc_int_of_i_PositionOf_1_fi : Fi := ⟨[.v (.slice (.int .i64)) false, .fn 39 [.int .i64]], [(false, [⟨.int .i64, none⟩])], none, slices_IndexFunc_int_of_i_PositionOf_1_c, Go.Proofs.Tryz.f38.results.toList, 19, slices_IndexFunc_int_of_i_PositionOf_1_h⟩
/-! ### i_PositionOf -/
noncomputable def i_PositionOf_c : Code := (Go.Proofs.Tryz.f25.body).getD .skip
noncomputable def i_PositionOf_h : Nat → Option (List Hint)
  | _ => none
noncomputable def i_PositionOf_fi : Fi := ⟨[.v (.slice (.int .i64)) false, .v (.int .i64) false], [(false, [⟨.int .i64, none⟩])], none, i_PositionOf_c, Go.Proofs.Tryz.f25.results.toList, 10, i_PositionOf_h⟩
/-! ### i_TrickOk -/
noncomputable def i_TrickOk_c : Code := (Go.Proofs.Tryz.f16.body).getD .skip
noncomputable def i_TrickOk_h : Nat → Option (List Hint)
  | 6 => some [.box 1 200001 [.keep, .keep, .keep, .keep, .keep], .keep 3, .keep 4, .keep 25, .keep 26, .keep 27]
  | _ => none
noncomputable def i_TrickOk_fi : Fi := ⟨[.v (.pair (.slice (.int .i64)) (.pair (.slice (.pair (.int .i64) (.pair (.pair (.int .i64) (.int .i64)) (.int .i64)))) (.pair (.int .i64) (.pair (.int .i64) (.int .i64))))) true], [(false, [⟨.bool, none⟩])], none, i_TrickOk_c, Go.Proofs.Tryz.f16.results.toList, 109, i_TrickOk_h⟩
/-! ### slices_Clone_int -/
noncomputable def slices_Clone_int_c : Code := (Go.Proofs.Tryz.f27.body).getD .skip
noncomputable def slices_Clone_int_h : Nat → Option (List Hint)
  | _ => none
noncomputable def slices_Clone_int_fi : Fi := ⟨[.v (.slice (.int .i64)) false], [(false, [⟨.slice (.int .i64), some (true, false)⟩])], none, slices_Clone_int_c, Go.Proofs.Tryz.f27.results.toList, 8, slices_Clone_int_h⟩
/-! ### i_StartScene -/
noncomputable def i_StartScene_c : Code := (Go.Proofs.Tryz.f12.body).getD .skip
noncomputable def i_StartScene_h : Nat → Option (List Hint)
  | _ => none
noncomputable def i_StartScene_fi : Fi := ⟨[.v (.pair (.slice (.int .i64)) (.pair (.slice (.pair (.int .i64) (.pair (.pair (.int .i64) (.int .i64)) (.int .i64)))) (.pair (.int .i64) (.pair (.int .i64) (.int .i64))))) true], [(true, [⟨.slice (.int .i64), some (true, true)⟩, ⟨.int .i64, none⟩]), (false, [⟨.bool, none⟩])], none, i_StartScene_c, Go.Proofs.Tryz.f12.results.toList, 12, i_StartScene_h⟩
/-! ### slices_Grow_int -/
noncomputable abbrev slices_Grow_int_fi : Fi := growFi
/-! ### slices_Concat_int -/
noncomputable def slices_Concat_int_c : Code := (Go.Proofs.Tryz.f48.body).getD .skip
noncomputable def slices_Concat_int_h : Nat → Option (List Hint)
  | 3 => some [.keep 0, .keep 3, .keep 9, .keep 10, .keep 11]
  | 11 => some [.cell 6 (.row 100006 (.int .i64) true false), .keep 25, .keep 26, .keep 27]
  | _ => none
noncomputable def slices_Concat_int_fi : Fi := ⟨[.v (.slice (.slice (.int .i64))) false], [(false, [⟨.slice (.int .i64), some (true, false)⟩])], none, slices_Concat_int_c, Go.Proofs.Tryz.f48.results.toList, 36, slices_Concat_int_h⟩
/-! ### slices_Reverse_int -/
noncomputable abbrev slices_Reverse_int_fi : Fi := reverseFi
/-! ### i_reversed -/
noncomputable def i_reversed_c : Code := (Go.Proofs.Tryz.f49.body).getD .skip
noncomputable def i_reversed_h : Nat → Option (List Hint)
  | _ => none
noncomputable def i_reversed_fi : Fi := ⟨[.v (.slice (.int .i64)) false], [(false, [⟨.slice (.int .i64), some (true, false)⟩])], none, i_reversed_c, Go.Proofs.Tryz.f49.results.toList, 9, i_reversed_h⟩
/-! ### i_faro -/
noncomputable def i_faro_c : Code := (Go.Proofs.Tryz.f51.body).getD .skip
noncomputable def i_faro_h : Nat → Option (List Hint)
  | 4 => some [.keep 5, .keep 6, .cell 7 (.row 100007 (.int .i64) true true), .keep 8]
  | _ => none
noncomputable def i_faro_fi : Fi := ⟨[.v (.slice (.int .i64)) false, .v (.int .i64) false], [(false, [⟨.slice (.int .i64), some (true, true)⟩])], none, i_faro_c, Go.Proofs.Tryz.f51.results.toList, 59, i_faro_h⟩
/-! ### i_monge -/
noncomputable def i_monge_c : Code := (Go.Proofs.Tryz.f52.body).getD .skip
noncomputable def i_monge_h : Nat → Option (List Hint)
  | 3 => some [.keep 1, .cell 5 (.row 100005 (.int .i64) true false), .keep 8, .keep 9, .keep 10]
  | _ => none
noncomputable def i_monge_fi : Fi := ⟨[.v (.slice (.int .i64)) false, .v (.int .i64) false], [(false, [⟨.slice (.int .i64), some (true, false)⟩])], none, i_monge_c, Go.Proofs.Tryz.f52.results.toList, 34, i_monge_h⟩
/-! ### i_milk -/
noncomputable def i_milk_c : Code := (Go.Proofs.Tryz.f53.body).getD .skip
noncomputable def i_milk_h : Nat → Option (List Hint)
  | 2 => some [.keep 0, .cell 3 (.row 100003 (.int .i64) true false)]
  | _ => none
noncomputable def i_milk_fi : Fi := ⟨[.v (.slice (.int .i64)) false], [(false, [⟨.slice (.int .i64), some (true, false)⟩])], none, i_milk_c, Go.Proofs.Tryz.f53.results.toList, 28, i_milk_h⟩
/-! ### i_dealt -/
noncomputable def i_dealt_c : Code := (Go.Proofs.Tryz.f54.body).getD .skip
noncomputable def i_dealt_h : Nat → Option (List Hint)
  | 4 => some [.cell 5 (.row 100005 (.int .i64) true true), .cell 6 (.row 100006 (.int .i64) true false), .keep 7]
  | _ => none
noncomputable def i_dealt_fi : Fi := ⟨[.v (.slice (.int .i64)) false, .v (.int .i64) false], [(false, [⟨.slice (.int .i64), some (true, true)⟩])], none, i_dealt_c, Go.Proofs.Tryz.f54.results.toList, 35, i_dealt_h⟩
/-! ### i_TurnCard -/
noncomputable def i_TurnCard_c : Code := (Go.Proofs.Tryz.f50.body).getD .skip
noncomputable def i_TurnCard_h : Nat → Option (List Hint)
  | _ => none
noncomputable def i_TurnCard_fi : Fi := ⟨[.v (.int .i64) false], [(false, [⟨.int .i64, none⟩])], none, i_TurnCard_c, Go.Proofs.Tryz.f50.results.toList, 9, i_TurnCard_h⟩
/-! ### i_moved -/
noncomputable def i_moved_c : Code := (Go.Proofs.Tryz.f36.body).getD .skip
noncomputable def i_moved_h : Nat → Option (List Hint)
  | 10 => some [.keep 5, .cell 6 (.row 100006 (.int .i64) true false), .keep 7]
  | _ => none
noncomputable def i_moved_fi : Fi := ⟨[.v (.slice (.int .i64)) false, .v (.pair (.int .i64) (.int .i64)) true], [(false, [⟨.slice (.int .i64), some (true, false)⟩])], none, i_moved_c, Go.Proofs.Tryz.f36.results.toList, 106, i_moved_h⟩
/-! ### i_cuts -/
noncomputable def i_cuts_c : Code := (Go.Proofs.Tryz.f62.body).getD .skip
noncomputable def i_cuts_h : Nat → Option (List Hint)
  | 3 => some [.keep 0, .cell 3 (.row 100003 (.slice (.int .i64)) true true), .keep 6, .keep 7]
  | _ => none
noncomputable def i_cuts_fi : Fi := ⟨[.v (.slice (.int .i64)) false], [(false, [⟨.slice (.slice (.int .i64)), some (true, true)⟩])], none, i_cuts_c, Go.Proofs.Tryz.f62.results.toList, 19, i_cuts_h⟩
/-! ### i_riffled -/
noncomputable def i_riffled_c : Code := (Go.Proofs.Tryz.f63.body).getD .skip
noncomputable def i_riffled_h : Nat → Option (List Hint)
  | 3 => some [.keep 0, .keep 1, .keep 5, .keep 6, .keep 11, .keep 12]
  | 9 => some [.keep 0, .keep 1, .keep 5, .keep 6, .cell 8 (.row 100008 (.int .i64) true true), .keep 24, .keep 25]
  | _ => none
noncomputable def i_riffled_fi : Fi := ⟨[.v (.slice (.int .i64)) false, .v (.int .i64) false], [(false, [⟨.slice (.int .i64), some (true, true)⟩])], none, i_riffled_c, Go.Proofs.Tryz.f63.results.toList, 53, i_riffled_h⟩
/-! ### i_all -/
noncomputable def i_all_c : Code := (Go.Proofs.Tryz.f55.body).getD .skip
noncomputable def i_all_h : Nat → Option (List Hint)
  | 9 => some [.keep 0, .cell 6 (.row 100006 (.slice (.int .i64)) true true), .keep 7]
  | 20 => some [.keep 0, .cell 8 (.row 100008 (.slice (.int .i64)) true true), .keep 48, .keep 49]
  | _ => none
noncomputable def i_all_fi : Fi := ⟨[.v (.slice (.int .i64)) false, .v (.int .i64) false], [(false, [⟨.slice (.slice (.int .i64)), some (true, false)⟩]), (false, [⟨.bool, none⟩])], none, i_all_c, Go.Proofs.Tryz.f55.results.toList, 71, i_all_h⟩
/-! ### slices_SortFunc_int_int -/
noncomputable abbrev slices_SortFunc_int_int_fi : Fi := (sortFi 65)
/-! ### slices_CompactFunc_int_int -/
noncomputable abbrev slices_CompactFunc_int_int_fi : Fi := compactFi
/-! ### i_SortPackets -/
noncomputable def i_SortPackets_c : Code := (Go.Proofs.Tryz.f56.body).getD .skip
noncomputable def i_SortPackets_h : Nat → Option (List Hint)
  | 3 => some [.cell 3 (.row 100003 (.slice (.int .i64)) true true), .keep 6, .keep 7, .keep 8]
  | _ => none
noncomputable def i_SortPackets_fi : Fi := ⟨[.v (.slice (.slice (.int .i64))) false], [(false, [⟨.slice (.slice (.int .i64)), some (true, false)⟩])], none, i_SortPackets_c, Go.Proofs.Tryz.f56.results.toList, 22, i_SortPackets_h⟩
/-! ### i_ResultsOf -/
noncomputable def i_ResultsOf_c : Code := (Go.Proofs.Tryz.f37.body).getD .skip
noncomputable def i_ResultsOf_h : Nat → Option (List Hint)
  | _ => none
noncomputable def i_ResultsOf_fi : Fi := ⟨[.v (.slice (.int .i64)) false, .v (.int .i64) false], [(false, [⟨.slice (.slice (.int .i64)), some (true, false)⟩]), (false, [⟨.bool, none⟩])], none, i_ResultsOf_c, Go.Proofs.Tryz.f37.results.toList, 33, i_ResultsOf_h⟩
/-! ### i_NextScenes -/
noncomputable def i_NextScenes_c : Code := (Go.Proofs.Tryz.f20.body).getD .skip
noncomputable def i_NextScenes_h : Nat → Option (List Hint)
  | 11 => some [.box 2 200002 [.keep, .keep], .cell 5 (.row 100005 (.pair (.slice (.int .i64)) (.int .i64)) true true), .cell 67 (.row 440067 (.slice (.int .i64)) true false), .keep 68, .keep 69]
  | _ => none
noncomputable def i_NextScenes_fi : Fi := ⟨[.v (.pair (.slice (.int .i64)) (.int .i64)) true, .v (.pair (.int .i64) (.pair (.pair (.int .i64) (.int .i64)) (.int .i64))) true], [(false, [⟨.slice (.pair (.slice (.int .i64)) (.int .i64)), some (true, false)⟩])], none, i_NextScenes_c, Go.Proofs.Tryz.f20.results.toList, 82, i_NextScenes_h⟩
/-! ### strconv_Itoa -/
noncomputable abbrev strconv_Itoa_fi : Fi := itoaFi
/-! ### i_FormatInt -/
noncomputable def i_FormatInt_c : Code := (Go.Proofs.Tryz.f47.body).getD .skip
noncomputable def i_FormatInt_h : Nat → Option (List Hint)
  | _ => none
noncomputable def i_FormatInt_fi : Fi := ⟨[.v (.int .i64) false], [(false, [⟨.str, none⟩])], none, i_FormatInt_c, Go.Proofs.Tryz.f47.results.toList, 5, i_FormatInt_h⟩
/-! ### i_numbersOf -/
noncomputable def i_numbersOf_c : Code := (Go.Proofs.Tryz.f58.body).getD .skip
noncomputable def i_numbersOf_h : Nat → Option (List Hint)
  | 3 => some [.cell 3 (.row 100003 (.str) true true), .keep 6, .keep 7, .keep 8]
  | _ => none
noncomputable def i_numbersOf_fi : Fi := ⟨[.v (.slice (.int .i64)) false], [(false, [⟨.slice (.str), some (true, true)⟩])], none, i_numbersOf_c, Go.Proofs.Tryz.f58.results.toList, 19, i_numbersOf_h⟩
/-! ### strings_Join -/
noncomputable abbrev strings_Join_fi : Fi := joinFi
/-! ### i_Join -/
noncomputable def i_Join_c : Code := (Go.Proofs.Tryz.f57.body).getD .skip
noncomputable def i_Join_h : Nat → Option (List Hint)
  | _ => none
noncomputable def i_Join_fi : Fi := ⟨[.v (.slice (.str)) false, .v (.str) false], [(false, [⟨.str, none⟩])], none, i_Join_c, Go.Proofs.Tryz.f57.results.toList, 8, i_Join_h⟩
/-! ### i_FormatPicks -/
noncomputable def i_FormatPicks_c : Code := (Go.Proofs.Tryz.f46.body).getD .skip
noncomputable def i_FormatPicks_h : Nat → Option (List Hint)
  | _ => none
noncomputable def i_FormatPicks_fi : Fi := ⟨[.v (.slice (.int .i64)) false], [(false, [⟨.str, none⟩])], none, i_FormatPicks_c, Go.Proofs.Tryz.f46.results.toList, 9, i_FormatPicks_h⟩
/-! ### i_keyOf -/
noncomputable def i_keyOf_c : Code := (Go.Proofs.Tryz.f35.body).getD .skip
noncomputable def i_keyOf_h : Nat → Option (List Hint)
  | _ => none
noncomputable def i_keyOf_fi : Fi := ⟨[.v (.pair (.slice (.int .i64)) (.int .i64)) true], [(false, [⟨.str, none⟩])], none, i_keyOf_c, Go.Proofs.Tryz.f35.results.toList, 11, i_keyOf_h⟩
/-! ### i_levels -/
noncomputable def i_levels_c : Code := (Go.Proofs.Tryz.f17.body).getD .skip
noncomputable def i_levels_h : Nat → Option (List Hint)
  | 4 => some [.cell 6 (.row 450006 (.slice (.pair (.slice (.int .i64)) (.int .i64))) true false), .keep 25, .keep 26, .keep 27]
  | 9 => some [.cell 6 (.row 420006 (.pair (.slice (.int .i64)) (.int .i64)) true false), .box 8 200008 [.keep, .keep, .keep, .keep], .cell 9 (.row 430009 (.bool) false false), .cell 10 (.row 450010 (.pair (.slice (.int .i64)) (.int .i64)) true true), .keep 25, .keep 26, .keep 27, .cell 36 (.row 450036 (.pair (.slice (.int .i64)) (.int .i64)) true false), .keep 37, .keep 38]
  | 12 => some [.cell 6 (.row 420006 (.pair (.slice (.int .i64)) (.int .i64)) true false), .box 8 200008 [.keep, .keep, .keep, .keep], .cell 9 (.row 430009 (.bool) false false), .cell 10 (.row 450010 (.pair (.slice (.int .i64)) (.int .i64)) true true), .keep 25, .keep 26, .keep 27, .cell 36 (.row 450036 (.pair (.slice (.int .i64)) (.int .i64)) true false), .keep 37, .keep 38, .cell 44 (.row 440044 (.pair (.slice (.int .i64)) (.int .i64)) true false), .keep 45, .keep 46]
  | _ => none
noncomputable def i_levels_fi : Fi := ⟨[.v (.pair (.slice (.int .i64)) (.pair (.slice (.pair (.int .i64) (.pair (.pair (.int .i64) (.int .i64)) (.int .i64)))) (.pair (.int .i64) (.pair (.int .i64) (.int .i64))))) true], [(false, [⟨.slice (.slice (.pair (.slice (.int .i64)) (.int .i64))), some (true, false)⟩]), (false, [⟨.bool, none⟩])], none, i_levels_c, Go.Proofs.Tryz.f17.results.toList, 73, i_levels_h⟩
/-! ### i_AllScenes -/
noncomputable def i_AllScenes_c : Code := (Go.Proofs.Tryz.f5.body).getD .skip
noncomputable def i_AllScenes_h : Nat → Option (List Hint)
  | _ => none
noncomputable def i_AllScenes_fi : Fi := ⟨[.v (.pair (.slice (.int .i64)) (.pair (.slice (.pair (.int .i64) (.pair (.pair (.int .i64) (.int .i64)) (.int .i64)))) (.pair (.int .i64) (.pair (.int .i64) (.int .i64))))) true], [(false, [⟨.slice (.pair (.slice (.int .i64)) (.int .i64)), some (true, false)⟩]), (false, [⟨.bool, none⟩])], none, i_AllScenes_c, Go.Proofs.Tryz.f5.results.toList, 22, i_AllScenes_h⟩
/-! ### i_CountChoices -/
noncomputable def i_CountChoices_c : Code := (Go.Proofs.Tryz.f6.body).getD .skip
noncomputable def i_CountChoices_h : Nat → Option (List Hint)
  | 5 => some [.keep 3, .keep 10, .keep 11, .keep 12]
  | _ => none
noncomputable def i_CountChoices_fi : Fi := ⟨[.v (.pair (.slice (.int .i64)) (.pair (.slice (.pair (.int .i64) (.pair (.pair (.int .i64) (.int .i64)) (.int .i64)))) (.pair (.int .i64) (.pair (.int .i64) (.int .i64))))) true], [(false, [⟨.int .i64, none⟩])], none, i_CountChoices_c, Go.Proofs.Tryz.f6.results.toList, 23, i_CountChoices_h⟩
/-! ### i_CountEnds -/
noncomputable def i_CountEnds_c : Code := (Go.Proofs.Tryz.f7.body).getD .skip
noncomputable def i_CountEnds_h : Nat → Option (List Hint)
  | _ => none
noncomputable def i_CountEnds_fi : Fi := ⟨[.v (.pair (.slice (.int .i64)) (.pair (.slice (.pair (.int .i64) (.pair (.pair (.int .i64) (.int .i64)) (.int .i64)))) (.pair (.int .i64) (.pair (.int .i64) (.int .i64))))) true], [(false, [⟨.int .i64, none⟩])], none, i_CountEnds_c, Go.Proofs.Tryz.f7.results.toList, 14, i_CountEnds_h⟩
/-! ### s_l23New -/
noncomputable def s_l23New_c : Code := (Go.Proofs.Tryz.f18.body).getD .skip
noncomputable def s_l23New_h : Nat → Option (List Hint)
  | 3 => some [.keep 1, .box 5 200005 [.keep, .keep, .keep], .keep 6]
  | _ => none
noncomputable def s_l23New_fi : Fi := ⟨[.v (.slice (.int .u8)) false, .v (.int .i64) false], [(false, [⟨.pair (.slice (.int .u8)) (.pair (.int .i64) (.int .i64)), some (false, false)⟩])], none, s_l23New_c, Go.Proofs.Tryz.f18.results.toList, 17, s_l23New_h⟩
/-! ### s_MakeNum -/
noncomputable def s_MakeNum_c : Code := (Go.Proofs.Tryz.f8.body).getD .skip
noncomputable def s_MakeNum_h : Nat → Option (List Hint)
  | _ => none
noncomputable def s_MakeNum_fi : Fi := ⟨[.v (.slice (.int .u8)) false, .v (.int .i64) false], [(false, [⟨.int .i64, none⟩])], none, s_MakeNum_c, Go.Proofs.Tryz.f8.results.toList, 15, s_MakeNum_h⟩
/-! ### i_RunTrick -/
noncomputable def i_RunTrick_c : Code := (Go.Proofs.Tryz.f9.body).getD .skip
noncomputable def i_RunTrick_h : Nat → Option (List Hint)
  | 5 => some [.keep 1, .box 4 200004 [.keep, .keep], .box 6 200006 [.row 300600 (.int .i64) true false, .keep], .keep 28, .keep 29, .keep 30]
  | _ => none
noncomputable def i_RunTrick_fi : Fi := ⟨[.v (.pair (.slice (.int .i64)) (.pair (.slice (.pair (.int .i64) (.pair (.pair (.int .i64) (.int .i64)) (.int .i64)))) (.pair (.int .i64) (.pair (.int .i64) (.int .i64))))) true, .v (.slice (.int .i64)) false], [(true, [⟨.slice (.int .i64), some (true, false)⟩, ⟨.int .i64, none⟩]), (false, [⟨.bool, none⟩])], none, i_RunTrick_c, Go.Proofs.Tryz.f9.results.toList, 60, i_RunTrick_h⟩
/-! ### slices_Equal_int -/
noncomputable def slices_Equal_int_c : Code := (Go.Proofs.Tryz.f21.body).getD .skip
noncomputable def slices_Equal_int_h : Nat → Option (List Hint)
  | 4 => some [.keep 0, .keep 1, .keep 12, .keep 13]
  | _ => none
noncomputable def slices_Equal_int_fi : Fi := ⟨[.v (.slice (.int .i64)) false, .v (.slice (.int .i64)) false], [(false, [⟨.bool, none⟩])], none, slices_Equal_int_c, Go.Proofs.Tryz.f21.results.toList, 26, slices_Equal_int_h⟩
/-! ### i_SameScene -/
noncomputable def i_SameScene_c : Code := (Go.Proofs.Tryz.f10.body).getD .skip
noncomputable def i_SameScene_h : Nat → Option (List Hint)
  | _ => none
noncomputable def i_SameScene_fi : Fi := ⟨[.v (.pair (.slice (.int .i64)) (.int .i64)) true, .v (.pair (.slice (.int .i64)) (.int .i64)) true], [(false, [⟨.bool, none⟩])], none, i_SameScene_c, Go.Proofs.Tryz.f10.results.toList, 17, i_SameScene_h⟩
/-! ### i_IsArrangement_1 -/
noncomputable def i_IsArrangement_1_c : Code := (Go.Proofs.Tryz.f24.body).getD .skip
noncomputable def i_IsArrangement_1_h : Nat → Option (List Hint)
  | _ => none
noncomputable def i_IsArrangement_1_fi : Fi := ⟨[.v (.int .i64) false, .r (.slice (.int .i64))], [(false, [⟨.bool, none⟩])], none, i_IsArrangement_1_c, Go.Proofs.Tryz.f24.results.toList, 9, i_IsArrangement_1_h⟩
/-! ### slices_IndexFunc_int_of_i_IsArrangement_1 -/
noncomputable def slices_IndexFunc_int_of_i_IsArrangement_1_c : Code := (Go.Proofs.Tryz.f38.body).getD .skip
noncomputable def slices_IndexFunc_int_of_i_IsArrangement_1_h : Nat → Option (List Hint)
  | 2 => some [.keep 0, .keep 1, .keep 7, .keep 8]
  | _ => none
noncomputable def slices_IndexFunc_int_of_i_IsArrangement_1_fi : Fi := ⟨[.v (.slice (.int .i64)) false, .fn 24 [.slice (.int .i64)]], [(false, [⟨.int .i64, none⟩])], none, slices_IndexFunc_int_of_i_IsArrangement_1_c, Go.Proofs.Tryz.f38.results.toList, 19, slices_IndexFunc_int_of_i_IsArrangement_1_h⟩
/-! ### slices_ContainsFunc_int_of_i_IsArrangement_1 -/
noncomputable def slices_ContainsFunc_int_of_i_IsArrangement_1_c : Code := (Go.Proofs.Tryz.f23.body).getD .skip
noncomputable def slices_ContainsFunc_int_of_i_IsArrangement_1_h : Nat → Option (List Hint)
  | _ => none
noncomputable def slices_ContainsFunc_int_of_i_IsArrangement_1_fi : Fi := ⟨[.v (.slice (.int .i64)) false, .fn 24 [.slice (.int .i64)]], [(false, [⟨.bool, none⟩])], none, slices_ContainsFunc_int_of_i_IsArrangement_1_c, Go.Proofs.Tryz.f23.results.toList, 9, slices_ContainsFunc_int_of_i_IsArrangement_1_h⟩
/-! ### i_IsArrangement -/
noncomputable def i_IsArrangement_c : Code := (Go.Proofs.Tryz.f11.body).getD .skip
noncomputable def i_IsArrangement_h : Nat → Option (List Hint)
  | _ => none
noncomputable def i_IsArrangement_fi : Fi := ⟨[.v (.slice (.int .i64)) false, .v (.slice (.int .i64)) false], [(false, [⟨.bool, none⟩])], none, i_IsArrangement_c, Go.Proofs.Tryz.f11.results.toList, 24, i_IsArrangement_h⟩
/-! ### w_same -/
noncomputable def w_same_c : Code := (Go.Proofs.Tryz.f13.body).getD .skip
noncomputable def w_same_h : Nat → Option (List Hint)
  | 4 => some [.keep 1, .keep 12, .keep 13, .keep 14]
  | _ => none
noncomputable def w_same_fi : Fi := ⟨[.v (.slice (.int .i64)) false, .v (.slice (.int .i64)) false], [(false, [⟨.bool, none⟩])], none, w_same_c, Go.Proofs.Tryz.f13.results.toList, 26, w_same_h⟩
/-! ### w_FnRuns -/
noncomputable def w_FnRuns_c : Code := (Go.Proofs.Tryz.f3.body).getD .skip
noncomputable def w_FnRuns_h : Nat → Option (List Hint)
  | 10 => some [.keep 0, .box 3 200003 [.row 300300 (.int .i64) true false, .row 300301 (.pair (.int .i64) (.pair (.pair (.int .i64) (.int .i64)) (.int .i64))) true false, .keep, .keep, .keep], .cell 4 (.row 100004 (.pair (.slice (.int .i64)) (.int .i64)) true false), .keep 6, .cell 7 (.row 100007 (.int .i64) true false), .keep 8]
  | 17 => some [.box 3 200003 [.row 300300 (.int .i64) true false, .row 300301 (.pair (.int .i64) (.pair (.pair (.int .i64) (.int .i64)) (.int .i64))) true false, .keep, .keep, .keep], .cell 4 (.val (.slice (.pair (.slice (.int .i64)) (.int .i64)))), .box 9 200009 [.row 300900 (.int .i64) true false, .keep], .keep 11, .cell 74 (.val (.slice (.pair (.slice (.int .i64)) (.int .i64)))), .keep 75, .keep 76]
  | 24 => some [.box 3 200003 [.row 300300 (.int .i64) true false, .row 300301 (.pair (.int .i64) (.pair (.pair (.int .i64) (.int .i64)) (.int .i64))) true false, .keep, .keep, .keep], .cell 4 (.val (.slice (.pair (.slice (.int .i64)) (.int .i64)))), .cell 89 (.val (.slice (.pair (.slice (.int .i64)) (.int .i64)))), .keep 90, .keep 91]
  | 29 => some [.box 3 200003 [.row 300300 (.int .i64) true false, .row 300301 (.pair (.int .i64) (.pair (.pair (.int .i64) (.int .i64)) (.int .i64))) true false, .keep, .keep, .keep], .keep 4, .keep 14, .box 15 200015 [.keep, .keep], .keep 16, .keep 89, .keep 90, .keep 91]
  | _ => none
noncomputable def w_FnRuns_fi : Fi := ⟨[.v (.slice (.int .u8)) false], [(false, [⟨.bool, none⟩])], none, w_FnRuns_c, Go.Proofs.Tryz.f3.results.toList, 132, w_FnRuns_h⟩

noncomputable def fnL : List (Nat × List Nat × Fi) := [(15, [], s_l01New_fi),
  (19, [], s_l01Byte_fi),
  (31, [], s_l01Below_fi),
  (28, [], s_l01Once_fi),
  (44, [], s_l01In_fi),
  (40, [], s_NewPacket_fi),
  (29, [], s_l16Known_fi),
  (41, [], s_l02Shuffle_fi),
  (30, [], s_l02Draw_fi),
  (42, [], s_l01Pick_fi),
  (43, [], s_l04Draw_fi),
  (32, [], s_l16Step_fi),
  (33, [], s_CardOf_fi),
  (14, [], s_l16Draw_fi),
  (4, [], s_MakeTrick_fi),
  (26, [], i_CardOf_fi),
  (22, [], i_PacketOk_fi),
  (45, [], i_MoveOk_fi),
  (34, [], i_StepOk_fi),
  (39, [], i_PositionOf_1_fi),
  (38, [39], slices_IndexFunc_int_of_i_PositionOf_1_fi),
  (25, [], i_PositionOf_fi),
  (16, [], i_TrickOk_fi),
  (27, [], slices_Clone_int_fi),
  (12, [], i_StartScene_fi),
  (60, [], slices_Grow_int_fi),
  (48, [], slices_Concat_int_fi),
  (61, [], slices_Reverse_int_fi),
  (49, [], i_reversed_fi),
  (51, [], i_faro_fi),
  (52, [], i_monge_fi),
  (53, [], i_milk_fi),
  (54, [], i_dealt_fi),
  (50, [], i_TurnCard_fi),
  (36, [], i_moved_fi),
  (62, [], i_cuts_fi),
  (63, [], i_riffled_fi),
  (55, [], i_all_fi),
  (64, [65], slices_SortFunc_int_int_fi),
  (66, [21], slices_CompactFunc_int_int_fi),
  (56, [], i_SortPackets_fi),
  (37, [], i_ResultsOf_fi),
  (20, [], i_NextScenes_fi),
  (59, [], strconv_Itoa_fi),
  (47, [], i_FormatInt_fi),
  (58, [], i_numbersOf_fi),
  (67, [], strings_Join_fi),
  (57, [], i_Join_fi),
  (46, [], i_FormatPicks_fi),
  (35, [], i_keyOf_fi),
  (17, [], i_levels_fi),
  (5, [], i_AllScenes_fi),
  (6, [], i_CountChoices_fi),
  (7, [], i_CountEnds_fi),
  (18, [], s_l23New_fi),
  (8, [], s_MakeNum_fi),
  (9, [], i_RunTrick_fi),
  (21, [], slices_Equal_int_fi),
  (10, [], i_SameScene_fi),
  (24, [], i_IsArrangement_1_fi),
  (38, [24], slices_IndexFunc_int_of_i_IsArrangement_1_fi),
  (23, [24], slices_ContainsFunc_int_of_i_IsArrangement_1_fi),
  (11, [], i_IsArrangement_fi),
  (13, [], w_same_fi),
  (3, [], w_FnRuns_fi)]
noncomputable def E : Env := ⟨lookT tyL, lookF fnL⟩

noncomputable def s_l01New (k : Nat) (x : List Int) : Option ((List Int) × Int × Int) := aFn E s_l01New_fi k x
noncomputable def s_l01New_l3 (k : Nat) (v0 : List Int) (v3 : Int) (v4 : Int) : Option ((List Int) × Int × Int) := aRun E k s_l01New_fi.rs (ioOf s_l01New_fi.ps) s_l01New_fi.res s_l01New_fi.hints [.code (sub s_l01New_c [1, 1, 0, 1, 0, 0, 0, 0]), .code (sub s_l01New_c [1, 1, 0, 1, 0, 0, 0, 1]), .code (sub s_l01New_c [1, 1, 0, 1, 0, 0, 1]), .inLoop (sub s_l01New_c [1, 1, 0, 1, 0, 0]), .inBlock 0, .code (sub s_l01New_c [1, 1, 1])] ⟨[.cv (.val (.slice (.int .u8)) v0), .cv .dead, .cv .dead, .cv (.val (.int .i64) v3), .cv (.val (.int .i64) v4), .cv .dead, .cv .dead, .cv .dead, .cv .dead, .cv .dead, .cv .dead, .cv .dead, .cv .dead, .cv .dead, .cv .dead, .cv .dead, .cv .dead, .cv .dead, .cv .dead, .cv .dead, .cv .dead, .cv .dead, .cv .dead, .cv .dead, .cv .dead, .cv .dead, .cv .dead, .cv .dead, .cv .dead, .cv .dead, .cv .dead, .cv .dead], [], true⟩
noncomputable def s_l01Byte (k : Nat) (x : (List Int) × Int × Int) : Option ((Int) × (List Int) × Int × Int) := aFn E s_l01Byte_fi k x
noncomputable def s_l01Below (k : Nat) (x : ((List Int) × Int × Int) × Int) : Option ((Int) × (List Int) × Int × Int) := aFn E s_l01Below_fi k x
noncomputable def s_l01Once (k : Nat) (x : ((List Int) × Int × Int) × Int) : Option ((Bool) × (List Int) × Int × Int) := aFn E s_l01Once_fi k x
noncomputable def s_l01In (k : Nat) (x : Int × Int × Int) : Option (Bool) := aFn E s_l01In_fi k x
noncomputable def s_NewPacket (k : Nat) (x : Int) : Option (List Int) := aFn E s_NewPacket_fi k x
noncomputable def s_NewPacket_l5 (k : Nat) (v0 : Int) (v4 : Int) (o100003 : List Int) : Option (List Int) := aRun E k s_NewPacket_fi.rs (ioOf s_NewPacket_fi.ps) s_NewPacket_fi.res s_NewPacket_fi.hints [.code (sub s_NewPacket_c [1, 1, 1, 0, 1, 0, 0, 0, 0]), .code (sub s_NewPacket_c [1, 1, 1, 0, 1, 0, 0, 0, 1]), .code (sub s_NewPacket_c [1, 1, 1, 0, 1, 0, 0, 1]), .inLoop (sub s_NewPacket_c [1, 1, 1, 0, 1, 0, 0]), .inBlock 0, .code (sub s_NewPacket_c [1, 1, 1, 1])] ⟨[.cv (.val (.int .i64) v0), .cv .dead, .cv .dead, .cv (.own 100003), .cv (.val (.int .i64) v4), .cv .dead, .cv .dead, .cv .dead, .cv .dead, .cv .dead, .cv .dead, .cv .dead, .cv .dead, .cv .dead, .cv .dead, .cv .dead, .cv .dead, .cv .dead, .cv .dead], [(100003, .row (.int .i64) o100003 true false)], true⟩
noncomputable def s_l16Known (k : Nat) (x : (List Int) × Int × Int) : Option (((List Int) × (List (Int × (Int × Int) × Int)) × Int × Int × Int) × (List Int) × Int × Int) := aFn E s_l16Known_fi k x
noncomputable def s_l02Shuffle (k : Nat) (x : ((List Int) × Int × Int) × Int) : Option ((List Int) × (List Int) × Int × Int) := aFn E s_l02Shuffle_fi k x
noncomputable def s_l02Shuffle_l3 (k : Nat) (v1 : Int) (v6 : Int) (o100005 : List Int) (o500000_0 : List Int) (o500000_1 : Int) (o500000_2 : Int) : Option ((List Int) × (List Int) × Int × Int) := aRun E k s_l02Shuffle_fi.rs (ioOf s_l02Shuffle_fi.ps) s_l02Shuffle_fi.res s_l02Shuffle_fi.hints [.code (sub s_l02Shuffle_c [1, 1, 0, 1, 0, 0, 0, 0]), .code (sub s_l02Shuffle_c [1, 1, 0, 1, 0, 0, 0, 1]), .code (sub s_l02Shuffle_c [1, 1, 0, 1, 0, 0, 1]), .inLoop (sub s_l02Shuffle_c [1, 1, 0, 1, 0, 0]), .inBlock 0, .code (sub s_l02Shuffle_c [1, 1, 1])] ⟨[.adr 500000 0, .cv (.val (.int .i64) v1), .cv .dead, .cv .dead, .cv .dead, .cv (.own 100005), .cv (.val (.int .i64) v6), .cv .dead, .cv .dead, .cv .dead, .cv .dead, .cv .dead, .cv .dead, .cv .dead, .cv .dead, .cv .dead, .cv .dead, .cv .dead, .cv .dead, .cv .dead, .cv .dead, .cv .dead, .cv .dead, .cv .dead, .cv .dead, .cv .dead, .cv .dead, .cv .dead, .cv .dead, .cv .dead, .cv .dead, .cv .dead, .cv .dead, .cv .dead], [(100005, .row (.int .i64) o100005 true false), (500000, .box [.val (.slice (.int .u8)) o500000_0, .val (.int .i64) o500000_1, .val (.int .i64) o500000_2])], true⟩
noncomputable def s_l02Draw (k : Nat) (x : ((List Int) × Int × Int) × Int) : Option ((List Int) × (List Int) × Int × Int) := aFn E s_l02Draw_fi k x
noncomputable def s_l02Draw_l4 (k : Nat) (v16 : Int) (v17 : Int) (o100005 : List Int) (o500000_0 : List Int) (o500000_1 : Int) (o500000_2 : Int) : Option ((List Int) × (List Int) × Int × Int) := aRun E k s_l02Draw_fi.rs (ioOf s_l02Draw_fi.ps) s_l02Draw_fi.res s_l02Draw_fi.hints [.code (sub s_l02Draw_c [1, 1, 0, 1, 0, 1, 0, 0, 0]), .code (sub s_l02Draw_c [1, 1, 0, 1, 0, 1, 0, 0, 1]), .inLoop (sub s_l02Draw_c [1, 1, 0, 1, 0, 1, 0, 0]), .inBlock 0, .code (sub s_l02Draw_c [1, 1, 1])] ⟨[.adr 500000 0, .cv .dead, .cv .dead, .cv .dead, .cv .dead, .cv (.own 100005), .cv .dead, .cv .dead, .cv .dead, .cv .dead, .cv .dead, .cv .dead, .cv .dead, .cv .dead, .cv .dead, .cv .dead, .cv (.val (.int .i64) v16), .cv (.val (.int .i64) v17), .cv .dead, .cv .dead, .cv .dead, .cv .dead, .cv .dead, .cv .dead, .cv .dead, .cv .dead, .cv .dead, .cv .dead, .cv .dead, .cv .dead, .cv .dead, .cv .dead], [(100005, .row (.int .i64) o100005 true false), (500000, .box [.val (.slice (.int .u8)) o500000_0, .val (.int .i64) o500000_1, .val (.int .i64) o500000_2])], true⟩
noncomputable def s_l01Pick (k : Nat) (x : ((List Int) × Int × Int) × List Int) : Option ((Int) × (List Int) × Int × Int) := aFn E s_l01Pick_fi k x
noncomputable def s_l04Draw (k : Nat) (x : ((List Int) × Int × Int) × Int) : Option ((Int × Int) × (List Int) × Int × Int) := aFn E s_l04Draw_fi k x
noncomputable def s_l16Step (k : Nat) (x : ((List Int) × Int × Int) × Int) : Option ((Int × Int × Int × Int) × (List Int) × Int × Int) := aFn E s_l16Step_fi k x
noncomputable def s_CardOf (k : Nat) (x : Int) : Option (Int) := aFn E s_CardOf_fi k x
noncomputable def s_l16Draw (k : Nat) (x : (List Int) × Int × Int) : Option (((List Int) × (List (Int × (Int × Int) × Int)) × Int × Int × Int) × (List Int) × Int × Int) := aFn E s_l16Draw_fi k x
noncomputable def s_l16Draw_l7 (k : Nat) (v4 : Int) (v5 : Bool) (v6 : Int) (o200002_2 : Int) (o200002_3 : Int) (o200002_4 : Int) (o200003_2 : Int) (o200003_3 : Int) (o200003_4 : Int) (o300300 : List Int) (o300301 : List (Int × (Int × Int) × Int)) (o500000_0 : List Int) (o500000_1 : Int) (o500000_2 : Int) : Option (((List Int) × (List (Int × (Int × Int) × Int)) × Int × Int × Int) × (List Int) × Int × Int) := aRun E k s_l16Draw_fi.rs (ioOf s_l16Draw_fi.ps) s_l16Draw_fi.res s_l16Draw_fi.hints [.code (sub s_l16Draw_c [1, 1, 1, 1, 1, 0, 1, 0, 0, 0, 0]), .code (sub s_l16Draw_c [1, 1, 1, 1, 1, 0, 1, 0, 0, 0, 1]), .code (sub s_l16Draw_c [1, 1, 1, 1, 1, 0, 1, 0, 0, 1]), .inLoop (sub s_l16Draw_c [1, 1, 1, 1, 1, 0, 1, 0, 0]), .inBlock 0, .code (sub s_l16Draw_c [1, 1, 1, 1, 1, 1])] ⟨[.adr 500000 0, .cv .dead, .adr 200002 0, .adr 200003 0, .cv (.val (.int .i64) v4), .cv (.val (.bool) v5), .cv (.val (.int .i64) v6), .cv .dead, .cv .dead, .cv .dead, .cv .dead, .cv .dead, .cv .dead, .cv .dead, .cv .dead, .cv .dead, .cv .dead, .cv .dead, .cv .dead, .cv .dead, .cv .dead, .cv .dead, .cv .dead, .cv .dead, .cv .dead, .cv .dead, .cv .dead, .cv .dead, .cv .dead, .cv .dead, .cv .dead, .cv .dead, .cv .dead, .cv .dead, .cv .dead, .cv .dead, .cv .dead, .cv .dead, .cv .dead, .cv .dead, .cv .dead, .cv .dead, .cv .dead, .cv .dead, .cv .dead, .cv .dead, .cv .dead, .cv .dead, .cv .dead, .cv .dead, .cv .dead, .cv .dead, .cv .dead, .cv .dead, .cv .dead, .cv .dead, .cv .dead, .cv .dead, .cv .dead, .cv .dead, .cv .dead, .cv .dead, .cv .dead, .cv .dead, .cv .dead, .cv .dead, .cv .dead, .cv .dead, .cv .dead, .cv .dead, .cv .dead, .cv .dead], [(200002, .box [.nil, .nil, .val (.int .i64) o200002_2, .val (.int .i64) o200002_3, .val (.int .i64) o200002_4]), (200003, .box [.own 300300, .own 300301, .val (.int .i64) o200003_2, .val (.int .i64) o200003_3, .val (.int .i64) o200003_4]), (300300, .row (.int .i64) o300300 true false), (300301, .row (.pair (.int .i64) (.pair (.pair (.int .i64) (.int .i64)) (.int .i64))) o300301 true true), (500000, .box [.val (.slice (.int .u8)) o500000_0, .val (.int .i64) o500000_1, .val (.int .i64) o500000_2])], true⟩
noncomputable def s_MakeTrick (k : Nat) (x : List Int) : Option ((List Int) × (List (Int × (Int × Int) × Int)) × Int × Int × Int) := aFn E s_MakeTrick_fi k x
noncomputable def i_CardOf (k : Nat) (x : Int) : Option (Int) := aFn E i_CardOf_fi k x
noncomputable def i_PacketOk (k : Nat) (x : List Int) : Option (Bool) := aFn E i_PacketOk_fi k x
noncomputable def i_PacketOk_l3 (k : Nat) (v7 : List Int) (v8 : Int) (v9 : Int) (o400003 : List Bool) : Option (Bool) := aRun E k i_PacketOk_fi.rs (ioOf i_PacketOk_fi.ps) i_PacketOk_fi.res i_PacketOk_fi.hints [.code (sub i_PacketOk_c [1, 1, 0, 1, 0, 0, 0]), .code (sub i_PacketOk_c [1, 1, 0, 1, 0, 0, 1]), .inLoop (sub i_PacketOk_c [1, 1, 0, 1, 0, 0]), .inBlock 0, .code (sub i_PacketOk_c [1, 1, 1])] ⟨[.cv .dead, .cv .dead, .cv .dead, .adr 400003 0, .cv .dead, .cv .dead, .cv .dead, .cv (.val (.slice (.int .i64)) v7), .cv (.val (.int .i64) v8), .cv (.val (.int .i64) v9), .cv .dead, .cv .dead, .cv .dead, .cv .dead, .cv .dead, .cv .dead, .cv .dead, .cv .dead, .cv .dead, .cv .dead, .cv .dead, .cv .dead, .cv .dead, .cv .dead, .cv .dead], [(400003, .arr (.bool) o400003)], true⟩
noncomputable def i_MoveOk (k : Nat) (x : Int × Int × Int) : Option (Bool) := aFn E i_MoveOk_fi k x
noncomputable def i_StepOk (k : Nat) (x : Int × Int × (Int × Int) × Int) : Option (Bool) := aFn E i_StepOk_fi k x
noncomputable def i_PositionOf_1 (k : Nat) (x : Int × Int) : Option (Bool) := aFn E i_PositionOf_1_fi k x
noncomputable def slices_IndexFunc_int_of_i_PositionOf_1 (k : Nat) (x : (List Int) × Int) : Option (Int) := aFn E slices_IndexFunc_int_of_i_PositionOf_1_fi k x
noncomputable def slices_IndexFunc_int_of_i_PositionOf_1_l2 (k : Nat) (v0 : List Int) (v1_0_0 : Int) (v7 : Int) (v8 : Int) : Option (Int) := aRun E k slices_IndexFunc_int_of_i_PositionOf_1_fi.rs (ioOf slices_IndexFunc_int_of_i_PositionOf_1_fi.ps) slices_IndexFunc_int_of_i_PositionOf_1_fi.res slices_IndexFunc_int_of_i_PositionOf_1_fi.hints [.code (sub slices_IndexFunc_int_of_i_PositionOf_1_c [1, 0, 1, 0, 0, 0]), .code (sub slices_IndexFunc_int_of_i_PositionOf_1_c [1, 0, 1, 0, 0, 1]), .inLoop (sub slices_IndexFunc_int_of_i_PositionOf_1_c [1, 0, 1, 0, 0]), .inBlock 0, .code (sub slices_IndexFunc_int_of_i_PositionOf_1_c [1, 1])] ⟨[.cv (.val (.slice (.int .i64)) v0), .fn 39 [[.val (.int .i64) v1_0_0]], .cv .dead, .cv .dead, .cv .dead, .cv .dead, .cv .dead, .cv (.val (.int .i64) v7), .cv (.val (.int .i64) v8), .cv .dead, .cv .dead, .cv .dead, .cv .dead, .cv .dead, .cv .dead, .cv .dead, .cv .dead, .cv .dead, .cv .dead], [], true⟩
noncomputable def i_PositionOf (k : Nat) (x : (List Int) × Int) : Option (Int) := aFn E i_PositionOf_fi k x
noncomputable def i_TrickOk (k : Nat) (x : (List Int) × (List (Int × (Int × Int) × Int)) × Int × Int × Int) : Option (Bool) := aFn E i_TrickOk_fi k x
noncomputable def i_TrickOk_l6 (k : Nat) (v3 : Int) (v4 : Bool) (v25 : List (Int × (Int × Int) × Int)) (v26 : Int) (v27 : Int) (o200001_0 : List Int) (o200001_1 : List (Int × (Int × Int) × Int)) (o200001_2 : Int) (o200001_3 : Int) (o200001_4 : Int) : Option (Bool) := aRun E k i_TrickOk_fi.rs (ioOf i_TrickOk_fi.ps) i_TrickOk_fi.res i_TrickOk_fi.hints [.code (sub i_TrickOk_c [1, 1, 1, 1, 0, 1, 0, 0, 0]), .code (sub i_TrickOk_c [1, 1, 1, 1, 0, 1, 0, 0, 1]), .inLoop (sub i_TrickOk_c [1, 1, 1, 1, 0, 1, 0, 0]), .inBlock 0, .code (sub i_TrickOk_c [1, 1, 1, 1, 1])] ⟨[.cv .dead, .adr 200001 0, .cv .dead, .cv (.val (.int .i64) v3), .cv (.val (.bool) v4), .cv .dead, .cv .dead, .cv .dead, .cv .dead, .cv .dead, .cv .dead, .cv .dead, .cv .dead, .cv .dead, .cv .dead, .cv .dead, .cv .dead, .cv .dead, .cv .dead, .cv .dead, .cv .dead, .cv .dead, .cv .dead, .cv .dead, .cv .dead, .cv (.val (.slice (.pair (.int .i64) (.pair (.pair (.int .i64) (.int .i64)) (.int .i64)))) v25), .cv (.val (.int .i64) v26), .cv (.val (.int .i64) v27), .cv .dead, .cv .dead, .cv .dead, .cv .dead, .cv .dead, .cv .dead, .cv .dead, .cv .dead, .cv .dead, .cv .dead, .cv .dead, .cv .dead, .cv .dead, .cv .dead, .cv .dead, .cv .dead, .cv .dead, .cv .dead, .cv .dead, .cv .dead, .cv .dead, .cv .dead, .cv .dead, .cv .dead, .cv .dead, .cv .dead, .cv .dead, .cv .dead, .cv .dead, .cv .dead, .cv .dead, .cv .dead, .cv .dead, .cv .dead, .cv .dead, .cv .dead, .cv .dead, .cv .dead, .cv .dead, .cv .dead, .cv .dead, .cv .dead, .cv .dead, .cv .dead, .cv .dead, .cv .dead, .cv .dead, .cv .dead, .cv .dead, .cv .dead, .cv .dead, .cv .dead, .cv .dead, .cv .dead, .cv .dead, .cv .dead, .cv .dead, .cv .dead, .cv .dead, .cv .dead, .cv .dead, .cv .dead, .cv .dead, .cv .dead, .cv .dead, .cv .dead, .cv .dead, .cv .dead, .cv .dead, .cv .dead, .cv .dead, .cv .dead, .cv .dead, .cv .dead, .cv .dead, .cv .dead, .cv .dead, .cv .dead, .cv .dead, .cv .dead, .cv .dead], [(200001, .box [.val (.slice (.int .i64)) o200001_0, .val (.slice (.pair (.int .i64) (.pair (.pair (.int .i64) (.int .i64)) (.int .i64)))) o200001_1, .val (.int .i64) o200001_2, .val (.int .i64) o200001_3, .val (.int .i64) o200001_4])], true⟩
noncomputable def slices_Clone_int (k : Nat) (x : List Int) : Option (List Int) := aFn E slices_Clone_int_fi k x
noncomputable def i_StartScene (k : Nat) (x : (List Int) × (List (Int × (Int × Int) × Int)) × Int × Int × Int) : Option ((List Int) × Int × Bool) := aFn E i_StartScene_fi k x
noncomputable def slices_Grow_int (k : Nat) (x : (List Int) × Int) : Option (List Int) := aFn E slices_Grow_int_fi k x
noncomputable def slices_Concat_int (k : Nat) (x : List (List Int)) : Option (List Int) := aFn E slices_Concat_int_fi k x
noncomputable def slices_Concat_int_l3 (k : Nat) (v0 : List (List Int)) (v3 : Int) (v9 : List (List Int)) (v10 : Int) (v11 : Int) : Option (List Int) := aRun E k slices_Concat_int_fi.rs (ioOf slices_Concat_int_fi.ps) slices_Concat_int_fi.res slices_Concat_int_fi.hints [.code (sub slices_Concat_int_c [1, 1, 0, 1, 0, 0, 0]), .code (sub slices_Concat_int_c [1, 1, 0, 1, 0, 0, 1]), .inLoop (sub slices_Concat_int_c [1, 1, 0, 1, 0, 0]), .inBlock 0, .code (sub slices_Concat_int_c [1, 1, 1])] ⟨[.cv (.val (.slice (.slice (.int .i64))) v0), .cv .dead, .cv .dead, .cv (.val (.int .i64) v3), .cv .dead, .cv .dead, .cv .dead, .cv .dead, .cv .dead, .cv (.val (.slice (.slice (.int .i64))) v9), .cv (.val (.int .i64) v10), .cv (.val (.int .i64) v11), .cv .dead, .cv .dead, .cv .dead, .cv .dead, .cv .dead, .cv .dead, .cv .dead, .cv .dead, .cv .dead, .cv .dead, .cv .dead, .cv .dead, .cv .dead, .cv .dead, .cv .dead, .cv .dead, .cv .dead, .cv .dead, .cv .dead, .cv .dead, .cv .dead, .cv .dead, .cv .dead, .cv .dead], [], true⟩
noncomputable def slices_Concat_int_l11 (k : Nat) (v25 : List (List Int)) (v26 : Int) (v27 : Int) (o100006 : List Int) : Option (List Int) := aRun E k slices_Concat_int_fi.rs (ioOf slices_Concat_int_fi.ps) slices_Concat_int_fi.res slices_Concat_int_fi.hints [.code (sub slices_Concat_int_c [1, 1, 1, 1, 0, 1, 0, 0, 0]), .code (sub slices_Concat_int_c [1, 1, 1, 1, 0, 1, 0, 0, 1]), .inLoop (sub slices_Concat_int_c [1, 1, 1, 1, 0, 1, 0, 0]), .inBlock 2, .code (sub slices_Concat_int_c [1, 1, 1, 1, 1])] ⟨[.cv .dead, .cv .dead, .cv .dead, .cv .dead, .cv .dead, .cv .dead, .cv (.own 100006), .cv .dead, .cv .dead, .cv .dead, .cv .dead, .cv .dead, .cv .dead, .cv .dead, .cv .dead, .cv .dead, .cv .dead, .cv .dead, .cv .dead, .cv .dead, .cv .dead, .cv .dead, .cv .dead, .cv .dead, .cv .dead, .cv (.val (.slice (.slice (.int .i64))) v25), .cv (.val (.int .i64) v26), .cv (.val (.int .i64) v27), .cv .dead, .cv .dead, .cv .dead, .cv .dead, .cv .dead, .cv .dead, .cv .dead, .cv .dead], [(100006, .row (.int .i64) o100006 true false)], true⟩
noncomputable def slices_Reverse_int (k : Nat) (x : List Int) : Option ((Unit) × List Int) := aFn E slices_Reverse_int_fi k x
noncomputable def i_reversed (k : Nat) (x : List Int) : Option (List Int) := aFn E i_reversed_fi k x
noncomputable def i_faro (k : Nat) (x : (List Int) × Int) : Option (List Int) := aFn E i_faro_fi k x
noncomputable def i_faro_l4 (k : Nat) (v5 : List Int) (v6 : List Int) (v8 : Bool) (o100007 : List Int) : Option (List Int) := aRun E k i_faro_fi.rs (ioOf i_faro_fi.ps) i_faro_fi.res i_faro_fi.hints [.code (sub i_faro_c [1, 1, 1, 0, 1, 0, 0, 0, 0]), .code (sub i_faro_c [1, 1, 1, 0, 1, 0, 0, 0, 1]), .code (sub i_faro_c [1, 1, 1, 0, 1, 0, 0, 1]), .inLoop (sub i_faro_c [1, 1, 1, 0, 1, 0, 0]), .inBlock 0, .code (sub i_faro_c [1, 1, 1, 1])] ⟨[.cv .dead, .cv .dead, .cv .dead, .cv .dead, .cv .dead, .cv (.val (.slice (.int .i64)) v5), .cv (.val (.slice (.int .i64)) v6), .cv (.own 100007), .cv (.val (.bool) v8), .cv .dead, .cv .dead, .cv .dead, .cv .dead, .cv .dead, .cv .dead, .cv .dead, .cv .dead, .cv .dead, .cv .dead, .cv .dead, .cv .dead, .cv .dead, .cv .dead, .cv .dead, .cv .dead, .cv .dead, .cv .dead, .cv .dead, .cv .dead, .cv .dead, .cv .dead, .cv .dead, .cv .dead, .cv .dead, .cv .dead, .cv .dead, .cv .dead, .cv .dead, .cv .dead, .cv .dead, .cv .dead, .cv .dead, .cv .dead, .cv .dead, .cv .dead, .cv .dead, .cv .dead, .cv .dead, .cv .dead, .cv .dead, .cv .dead, .cv .dead, .cv .dead, .cv .dead, .cv .dead, .cv .dead, .cv .dead, .cv .dead, .cv .dead], [(100007, .row (.int .i64) o100007 true true)], true⟩
noncomputable def i_monge (k : Nat) (x : (List Int) × Int) : Option (List Int) := aFn E i_monge_fi k x
noncomputable def i_monge_l3 (k : Nat) (v1 : Int) (v8 : List Int) (v9 : Int) (v10 : Int) (o100005 : List Int) : Option (List Int) := aRun E k i_monge_fi.rs (ioOf i_monge_fi.ps) i_monge_fi.res i_monge_fi.hints [.code (sub i_monge_c [1, 1, 0, 1, 0, 0, 0]), .code (sub i_monge_c [1, 1, 0, 1, 0, 0, 1]), .inLoop (sub i_monge_c [1, 1, 0, 1, 0, 0]), .inBlock 0, .code (sub i_monge_c [1, 1, 1])] ⟨[.cv .dead, .cv (.val (.int .i64) v1), .cv .dead, .cv .dead, .cv .dead, .cv (.own 100005), .cv .dead, .cv .dead, .cv (.val (.slice (.int .i64)) v8), .cv (.val (.int .i64) v9), .cv (.val (.int .i64) v10), .cv .dead, .cv .dead, .cv .dead, .cv .dead, .cv .dead, .cv .dead, .cv .dead, .cv .dead, .cv .dead, .cv .dead, .cv .dead, .cv .dead, .cv .dead, .cv .dead, .cv .dead, .cv .dead, .cv .dead, .cv .dead, .cv .dead, .cv .dead, .cv .dead, .cv .dead, .cv .dead], [(100005, .row (.int .i64) o100005 true false)], true⟩
noncomputable def i_milk (k : Nat) (x : List Int) : Option (List Int) := aFn E i_milk_fi k x
noncomputable def i_milk_l2 (k : Nat) (v0 : List Int) (o100003 : List Int) : Option (List Int) := aRun E k i_milk_fi.rs (ioOf i_milk_fi.ps) i_milk_fi.res i_milk_fi.hints [.code (sub i_milk_c [1, 1, 0, 0, 0, 0, 0]), .code (sub i_milk_c [1, 1, 0, 0, 0, 0, 1]), .code (sub i_milk_c [1, 1, 0, 0, 0, 1]), .inLoop (sub i_milk_c [1, 1, 0, 0, 0]), .inBlock 0, .code (sub i_milk_c [1, 1, 1])] ⟨[.cv (.val (.slice (.int .i64)) v0), .cv .dead, .cv .dead, .cv (.own 100003), .cv .dead, .cv .dead, .cv .dead, .cv .dead, .cv .dead, .cv .dead, .cv .dead, .cv .dead, .cv .dead, .cv .dead, .cv .dead, .cv .dead, .cv .dead, .cv .dead, .cv .dead, .cv .dead, .cv .dead, .cv .dead, .cv .dead, .cv .dead, .cv .dead, .cv .dead, .cv .dead, .cv .dead], [(100003, .row (.int .i64) o100003 true false)], true⟩
noncomputable def i_dealt (k : Nat) (x : (List Int) × Int) : Option (List Int) := aFn E i_dealt_fi k x
noncomputable def i_dealt_l4 (k : Nat) (v7 : Bool) (o100005 : List Int) (o100006 : List Int) : Option (List Int) := aRun E k i_dealt_fi.rs (ioOf i_dealt_fi.ps) i_dealt_fi.res i_dealt_fi.hints [.code (sub i_dealt_c [1, 1, 1, 0, 1, 0, 0, 0, 0]), .code (sub i_dealt_c [1, 1, 1, 0, 1, 0, 0, 0, 1]), .code (sub i_dealt_c [1, 1, 1, 0, 1, 0, 0, 1]), .inLoop (sub i_dealt_c [1, 1, 1, 0, 1, 0, 0]), .inBlock 0, .code (sub i_dealt_c [1, 1, 1, 1])] ⟨[.cv .dead, .cv .dead, .cv .dead, .cv .dead, .cv .dead, .cv (.own 100005), .cv (.own 100006), .cv (.val (.bool) v7), .cv .dead, .cv .dead, .cv .dead, .cv .dead, .cv .dead, .cv .dead, .cv .dead, .cv .dead, .cv .dead, .cv .dead, .cv .dead, .cv .dead, .cv .dead, .cv .dead, .cv .dead, .cv .dead, .cv .dead, .cv .dead, .cv .dead, .cv .dead, .cv .dead, .cv .dead, .cv .dead, .cv .dead, .cv .dead, .cv .dead, .cv .dead], [(100005, .row (.int .i64) o100005 true true), (100006, .row (.int .i64) o100006 true false)], true⟩
noncomputable def i_TurnCard (k : Nat) (x : Int) : Option (Int) := aFn E i_TurnCard_fi k x
noncomputable def i_moved (k : Nat) (x : (List Int) × Int × Int) : Option (List Int) := aFn E i_moved_fi k x
noncomputable def i_moved_l10 (k : Nat) (v5 : Int) (v7 : Int) (o100006 : List Int) : Option (List Int) := aRun E k i_moved_fi.rs (ioOf i_moved_fi.ps) i_moved_fi.res i_moved_fi.hints [.code (sub i_moved_c [1, 1, 0, 1, 0, 1, 1, 1, 1, 1, 0, 1, 0, 1, 0, 0, 0, 0]), .code (sub i_moved_c [1, 1, 0, 1, 0, 1, 1, 1, 1, 1, 0, 1, 0, 1, 0, 0, 0, 1]), .code (sub i_moved_c [1, 1, 0, 1, 0, 1, 1, 1, 1, 1, 0, 1, 0, 1, 0, 0, 1]), .inLoop (sub i_moved_c [1, 1, 0, 1, 0, 1, 1, 1, 1, 1, 0, 1, 0, 1, 0, 0]), .inBlock 1, .code (sub i_moved_c [1, 1, 0, 1, 0, 1, 1, 1, 1, 1, 0, 1, 1]), .inBlock 0, .code (sub i_moved_c [1, 1, 1])] ⟨[.cv .dead, .cv .dead, .cv .dead, .cv .dead, .cv .dead, .cv (.val (.int .i64) v5), .cv (.own 100006), .cv (.val (.int .i64) v7), .cv .dead, .cv .dead, .cv .dead, .cv .dead, .cv .dead, .cv .dead, .cv .dead, .cv .dead, .cv .dead, .cv .dead, .cv .dead, .cv .dead, .cv .dead, .cv .dead, .cv .dead, .cv .dead, .cv .dead, .cv .dead, .cv .dead, .cv .dead, .cv .dead, .cv .dead, .cv .dead, .cv .dead, .cv .dead, .cv .dead, .cv .dead, .cv .dead, .cv .dead, .cv .dead, .cv .dead, .cv .dead, .cv .dead, .cv .dead, .cv .dead, .cv .dead, .cv .dead, .cv .dead, .cv .dead, .cv .dead, .cv .dead, .cv .dead, .cv .dead, .cv .dead, .cv .dead, .cv .dead, .cv .dead, .cv .dead, .cv .dead, .cv .dead, .cv .dead, .cv .dead, .cv .dead, .cv .dead, .cv .dead, .cv .dead, .cv .dead, .cv .dead, .cv .dead, .cv .dead, .cv .dead, .cv .dead, .cv .dead, .cv .dead, .cv .dead, .cv .dead, .cv .dead, .cv .dead, .cv .dead, .cv .dead, .cv .dead, .cv .dead, .cv .dead, .cv .dead, .cv .dead, .cv .dead, .cv .dead, .cv .dead, .cv .dead, .cv .dead, .cv .dead, .cv .dead, .cv .dead, .cv .dead, .cv .dead, .cv .dead, .cv .dead, .cv .dead, .cv .dead, .cv .dead, .cv .dead, .cv .dead, .cv .dead, .cv .dead, .cv .dead, .cv .dead, .cv .dead, .cv .dead], [(100006, .row (.int .i64) o100006 true false)], true⟩
noncomputable def i_cuts (k : Nat) (x : List Int) : Option (List (List Int)) := aFn E i_cuts_fi k x
noncomputable def i_cuts_l3 (k : Nat) (v0 : List Int) (v6 : Int) (v7 : Int) (o100003 : List (List Int)) : Option (List (List Int)) := aRun E k i_cuts_fi.rs (ioOf i_cuts_fi.ps) i_cuts_fi.res i_cuts_fi.hints [.code (sub i_cuts_c [1, 1, 0, 1, 0, 0, 0]), .code (sub i_cuts_c [1, 1, 0, 1, 0, 0, 1]), .inLoop (sub i_cuts_c [1, 1, 0, 1, 0, 0]), .inBlock 0, .code (sub i_cuts_c [1, 1, 1])] ⟨[.cv (.val (.slice (.int .i64)) v0), .cv .dead, .cv .dead, .cv (.own 100003), .cv .dead, .cv .dead, .cv (.val (.int .i64) v6), .cv (.val (.int .i64) v7), .cv .dead, .cv .dead, .cv .dead, .cv .dead, .cv .dead, .cv .dead, .cv .dead, .cv .dead, .cv .dead, .cv .dead, .cv .dead], [(100003, .row (.slice (.int .i64)) o100003 true true)], true⟩
noncomputable def i_riffled (k : Nat) (x : (List Int) × Int) : Option (List Int) := aFn E i_riffled_fi k x
noncomputable def i_riffled_l3 (k : Nat) (v0 : List Int) (v1 : Int) (v5 : Int) (v6 : Int) (v11 : Int) (v12 : Int) : Option (List Int) := aRun E k i_riffled_fi.rs (ioOf i_riffled_fi.ps) i_riffled_fi.res i_riffled_fi.hints [.code (sub i_riffled_c [1, 1, 0, 1, 0, 0, 0]), .code (sub i_riffled_c [1, 1, 0, 1, 0, 0, 1]), .inLoop (sub i_riffled_c [1, 1, 0, 1, 0, 0]), .inBlock 0, .code (sub i_riffled_c [1, 1, 1])] ⟨[.cv (.val (.slice (.int .i64)) v0), .cv (.val (.int .i64) v1), .cv .dead, .cv .dead, .cv .dead, .cv (.val (.int .i64) v5), .cv (.val (.int .i64) v6), .cv .dead, .cv .dead, .cv .dead, .cv .dead, .cv (.val (.int .i64) v11), .cv (.val (.int .i64) v12), .cv .dead, .cv .dead, .cv .dead, .cv .dead, .cv .dead, .cv .dead, .cv .dead, .cv .dead, .cv .dead, .cv .dead, .cv .dead, .cv .dead, .cv .dead, .cv .dead, .cv .dead, .cv .dead, .cv .dead, .cv .dead, .cv .dead, .cv .dead, .cv .dead, .cv .dead, .cv .dead, .cv .dead, .cv .dead, .cv .dead, .cv .dead, .cv .dead, .cv .dead, .cv .dead, .cv .dead, .cv .dead, .cv .dead, .cv .dead, .cv .dead, .cv .dead, .cv .dead, .cv .dead, .cv .dead, .cv .dead], [], true⟩
noncomputable def i_riffled_l9 (k : Nat) (v0 : List Int) (v1 : Int) (v5 : Int) (v6 : Int) (v24 : Int) (v25 : Int) (o100008 : List Int) : Option (List Int) := aRun E k i_riffled_fi.rs (ioOf i_riffled_fi.ps) i_riffled_fi.res i_riffled_fi.hints [.code (sub i_riffled_c [1, 1, 1, 1, 0, 1, 0, 0, 0]), .code (sub i_riffled_c [1, 1, 1, 1, 0, 1, 0, 0, 1]), .inLoop (sub i_riffled_c [1, 1, 1, 1, 0, 1, 0, 0]), .inBlock 2, .code (sub i_riffled_c [1, 1, 1, 1, 1])] ⟨[.cv (.val (.slice (.int .i64)) v0), .cv (.val (.int .i64) v1), .cv .dead, .cv .dead, .cv .dead, .cv (.val (.int .i64) v5), .cv (.val (.int .i64) v6), .cv .dead, .cv (.own 100008), .cv .dead, .cv .dead, .cv .dead, .cv .dead, .cv .dead, .cv .dead, .cv .dead, .cv .dead, .cv .dead, .cv .dead, .cv .dead, .cv .dead, .cv .dead, .cv .dead, .cv .dead, .cv (.val (.int .i64) v24), .cv (.val (.int .i64) v25), .cv .dead, .cv .dead, .cv .dead, .cv .dead, .cv .dead, .cv .dead, .cv .dead, .cv .dead, .cv .dead, .cv .dead, .cv .dead, .cv .dead, .cv .dead, .cv .dead, .cv .dead, .cv .dead, .cv .dead, .cv .dead, .cv .dead, .cv .dead, .cv .dead, .cv .dead, .cv .dead, .cv .dead, .cv .dead, .cv .dead, .cv .dead], [(100008, .row (.int .i64) o100008 true true)], true⟩
noncomputable def i_all (k : Nat) (x : (List Int) × Int) : Option ((List (List Int)) × Bool) := aFn E i_all_fi k x
noncomputable def i_all_l9 (k : Nat) (v0 : List Int) (v7 : Int) (o100006 : List (List Int)) : Option ((List (List Int)) × Bool) := aRun E k i_all_fi.rs (ioOf i_all_fi.ps) i_all_fi.res i_all_fi.hints [.code (sub i_all_c [1, 0, 1, 0, 1, 1, 1, 1, 1, 0, 1, 0, 1, 0, 0, 0, 0]), .code (sub i_all_c [1, 0, 1, 0, 1, 1, 1, 1, 1, 0, 1, 0, 1, 0, 0, 0, 1]), .code (sub i_all_c [1, 0, 1, 0, 1, 1, 1, 1, 1, 0, 1, 0, 1, 0, 0, 1]), .inLoop (sub i_all_c [1, 0, 1, 0, 1, 1, 1, 1, 1, 0, 1, 0, 1, 0, 0]), .inBlock 1, .code (sub i_all_c [1, 0, 1, 0, 1, 1, 1, 1, 1, 0, 1, 1]), .inBlock 0, .code (sub i_all_c [1, 1])] ⟨[.cv (.val (.slice (.int .i64)) v0), .cv .dead, .cv .dead, .cv .dead, .cv .dead, .cv .dead, .cv (.own 100006), .cv (.val (.int .i64) v7), .cv .dead, .cv .dead, .cv .dead, .cv .dead, .cv .dead, .cv .dead, .cv .dead, .cv .dead, .cv .dead, .cv .dead, .cv .dead, .cv .dead, .cv .dead, .cv .dead, .cv .dead, .cv .dead, .cv .dead, .cv .dead, .cv .dead, .cv .dead, .cv .dead, .cv .dead, .cv .dead, .cv .dead, .cv .dead, .cv .dead, .cv .dead, .cv .dead, .cv .dead, .cv .dead, .cv .dead, .cv .dead, .cv .dead, .cv .dead, .cv .dead, .cv .dead, .cv .dead, .cv .dead, .cv .dead, .cv .dead, .cv .dead, .cv .dead, .cv .dead, .cv .dead, .cv .dead, .cv .dead, .cv .dead, .cv .dead, .cv .dead, .cv .dead, .cv .dead, .cv .dead, .cv .dead, .cv .dead, .cv .dead, .cv .dead, .cv .dead, .cv .dead, .cv .dead, .cv .dead, .cv .dead, .cv .dead, .cv .dead], [(100006, .row (.slice (.int .i64)) o100006 true true)], true⟩
noncomputable def i_all_l20 (k : Nat) (v0 : List Int) (v48 : Int) (v49 : Int) (o100008 : List (List Int)) : Option ((List (List Int)) × Bool) := aRun E k i_all_fi.rs (ioOf i_all_fi.ps) i_all_fi.res i_all_fi.hints [.code (sub i_all_c [1, 0, 1, 0, 1, 1, 1, 1, 1, 1, 1, 1, 1, 0, 1, 0, 1, 0, 0, 0]), .code (sub i_all_c [1, 0, 1, 0, 1, 1, 1, 1, 1, 1, 1, 1, 1, 0, 1, 0, 1, 0, 0, 1]), .inLoop (sub i_all_c [1, 0, 1, 0, 1, 1, 1, 1, 1, 1, 1, 1, 1, 0, 1, 0, 1, 0, 0]), .inBlock 3, .code (sub i_all_c [1, 0, 1, 0, 1, 1, 1, 1, 1, 1, 1, 1, 1, 0, 1, 1]), .inBlock 0, .code (sub i_all_c [1, 1])] ⟨[.cv (.val (.slice (.int .i64)) v0), .cv .dead, .cv .dead, .cv .dead, .cv .dead, .cv .dead, .cv .dead, .cv .dead, .cv (.own 100008), .cv .dead, .cv .dead, .cv .dead, .cv .dead, .cv .dead, .cv .dead, .cv .dead, .cv .dead, .cv .dead, .cv .dead, .cv .dead, .cv .dead, .cv .dead, .cv .dead, .cv .dead, .cv .dead, .cv .dead, .cv .dead, .cv .dead, .cv .dead, .cv .dead, .cv .dead, .cv .dead, .cv .dead, .cv .dead, .cv .dead, .cv .dead, .cv .dead, .cv .dead, .cv .dead, .cv .dead, .cv .dead, .cv .dead, .cv .dead, .cv .dead, .cv .dead, .cv .dead, .cv .dead, .cv .dead, .cv (.val (.int .i64) v48), .cv (.val (.int .i64) v49), .cv .dead, .cv .dead, .cv .dead, .cv .dead, .cv .dead, .cv .dead, .cv .dead, .cv .dead, .cv .dead, .cv .dead, .cv .dead, .cv .dead, .cv .dead, .cv .dead, .cv .dead, .cv .dead, .cv .dead, .cv .dead, .cv .dead, .cv .dead, .cv .dead], [(100008, .row (.slice (.int .i64)) o100008 true true)], true⟩
noncomputable def slices_SortFunc_int_int (k : Nat) (x : (List (List Int)) × Bool) : Option ((Unit) × List (List Int)) := aFn E slices_SortFunc_int_int_fi k x
noncomputable def slices_CompactFunc_int_int (k : Nat) (x : (List (List Int)) × Bool) : Option (List (List Int)) := aFn E slices_CompactFunc_int_int_fi k x
noncomputable def i_SortPackets (k : Nat) (x : List (List Int)) : Option (List (List Int)) := aFn E i_SortPackets_fi k x
noncomputable def i_SortPackets_l3 (k : Nat) (v6 : List (List Int)) (v7 : Int) (v8 : Int) (o100003 : List (List Int)) : Option (List (List Int)) := aRun E k i_SortPackets_fi.rs (ioOf i_SortPackets_fi.ps) i_SortPackets_fi.res i_SortPackets_fi.hints [.code (sub i_SortPackets_c [1, 1, 0, 1, 0, 0, 0]), .code (sub i_SortPackets_c [1, 1, 0, 1, 0, 0, 1]), .inLoop (sub i_SortPackets_c [1, 1, 0, 1, 0, 0]), .inBlock 0, .code (sub i_SortPackets_c [1, 1, 1])] ⟨[.cv .dead, .cv .dead, .cv .dead, .cv (.own 100003), .cv .dead, .cv .dead, .cv (.val (.slice (.slice (.int .i64))) v6), .cv (.val (.int .i64) v7), .cv (.val (.int .i64) v8), .cv .dead, .cv .dead, .cv .dead, .cv .dead, .cv .dead, .cv .dead, .cv .dead, .cv .dead, .cv .dead, .cv .dead, .cv .dead, .cv .dead, .cv .dead], [(100003, .row (.slice (.int .i64)) o100003 true true)], true⟩
noncomputable def i_ResultsOf (k : Nat) (x : (List Int) × Int) : Option ((List (List Int)) × Bool) := aFn E i_ResultsOf_fi k x
noncomputable def i_NextScenes (k : Nat) (x : ((List Int) × Int) × Int × (Int × Int) × Int) : Option (List ((List Int) × Int)) := aFn E i_NextScenes_fi k x
noncomputable def i_NextScenes_l11 (k : Nat) (v68 : Int) (v69 : Int) (o200002_0 : List Int) (o200002_1 : Int) (o100005 : List ((List Int) × Int)) (o440067 : List (List Int)) (o440067_n : Nat) : Option (List ((List Int) × Int)) := aRun E k i_NextScenes_fi.rs (ioOf i_NextScenes_fi.ps) i_NextScenes_fi.res i_NextScenes_fi.hints [.code (sub i_NextScenes_c [1, 1, 1, 1, 1, 0, 1, 0, 0, 0]), .code (sub i_NextScenes_c [1, 1, 1, 1, 1, 0, 1, 0, 0, 1]), .inLoop (sub i_NextScenes_c [1, 1, 1, 1, 1, 0, 1, 0, 0]), .inBlock 1, .code (sub i_NextScenes_c [1, 1, 1, 1, 1, 1])] ⟨[.cv .dead, .cv .dead, .adr 200002 0, .cv .dead, .cv .dead, .cv (.own 100005), .cv .dead, .cv .dead, .cv .dead, .cv .dead, .cv .dead, .cv .dead, .cv .dead, .cv .dead, .cv .dead, .cv .dead, .cv .dead, .cv .dead, .cv .dead, .cv .dead, .cv .dead, .cv .dead, .cv .dead, .cv .dead, .cv .dead, .cv .dead, .cv .dead, .cv .dead, .cv .dead, .cv .dead, .cv .dead, .cv .dead, .cv .dead, .cv .dead, .cv .dead, .cv .dead, .cv .dead, .cv .dead, .cv .dead, .cv .dead, .cv .dead, .cv .dead, .cv .dead, .cv .dead, .cv .dead, .cv .dead, .cv .dead, .cv .dead, .cv .dead, .cv .dead, .cv .dead, .cv .dead, .cv .dead, .cv .dead, .cv .dead, .cv .dead, .cv .dead, .cv .dead, .cv .dead, .cv .dead, .cv .dead, .cv .dead, .cv .dead, .cv .dead, .cv .dead, .cv .dead, .cv .dead, .cv (.own 440067), .cv (.val (.int .i64) v68), .cv (.val (.int .i64) v69), .cv .dead, .cv .dead, .cv .dead, .cv .dead, .cv .dead, .cv .dead, .cv .dead, .cv .dead, .cv .dead, .cv .dead, .cv .dead, .cv .dead], [(200002, .box [.val (.slice (.int .i64)) o200002_0, .val (.int .i64) o200002_1]), (100005, .row (.pair (.slice (.int .i64)) (.int .i64)) o100005 true true), (440067, .tl (.slice (.int .i64)) o440067 o440067_n)], true⟩
noncomputable def strconv_Itoa (k : Nat) (x : Int) : Option (ByteArray) := aFn E strconv_Itoa_fi k x
noncomputable def i_FormatInt (k : Nat) (x : Int) : Option (ByteArray) := aFn E i_FormatInt_fi k x
noncomputable def i_numbersOf (k : Nat) (x : List Int) : Option (List ByteArray) := aFn E i_numbersOf_fi k x
noncomputable def i_numbersOf_l3 (k : Nat) (v6 : List Int) (v7 : Int) (v8 : Int) (o100003 : List ByteArray) : Option (List ByteArray) := aRun E k i_numbersOf_fi.rs (ioOf i_numbersOf_fi.ps) i_numbersOf_fi.res i_numbersOf_fi.hints [.code (sub i_numbersOf_c [1, 1, 0, 1, 0, 0, 0]), .code (sub i_numbersOf_c [1, 1, 0, 1, 0, 0, 1]), .inLoop (sub i_numbersOf_c [1, 1, 0, 1, 0, 0]), .inBlock 0, .code (sub i_numbersOf_c [1, 1, 1])] ⟨[.cv .dead, .cv .dead, .cv .dead, .cv (.own 100003), .cv .dead, .cv .dead, .cv (.val (.slice (.int .i64)) v6), .cv (.val (.int .i64) v7), .cv (.val (.int .i64) v8), .cv .dead, .cv .dead, .cv .dead, .cv .dead, .cv .dead, .cv .dead, .cv .dead, .cv .dead, .cv .dead, .cv .dead], [(100003, .row (.str) o100003 true true)], true⟩
noncomputable def strings_Join (k : Nat) (x : (List ByteArray) × ByteArray) : Option (ByteArray) := aFn E strings_Join_fi k x
noncomputable def i_Join (k : Nat) (x : (List ByteArray) × ByteArray) : Option (ByteArray) := aFn E i_Join_fi k x
noncomputable def i_FormatPicks (k : Nat) (x : List Int) : Option (ByteArray) := aFn E i_FormatPicks_fi k x
noncomputable def i_keyOf (k : Nat) (x : (List Int) × Int) : Option (ByteArray) := aFn E i_keyOf_fi k x
noncomputable def i_levels (k : Nat) (x : (List Int) × (List (Int × (Int × Int) × Int)) × Int × Int × Int) : Option ((List (List ((List Int) × Int))) × Bool) := aFn E i_levels_fi k x
noncomputable def i_levels_l4 (k : Nat) (v25 : List (Int × (Int × Int) × Int)) (v26 : Int) (v27 : Int) (o450006 : List (List ((List Int) × Int))) : Option ((List (List ((List Int) × Int))) × Bool) := aRun E k i_levels_fi.rs (ioOf i_levels_fi.ps) i_levels_fi.res i_levels_fi.hints [.code (sub i_levels_c [1, 1, 1, 0, 1, 0, 0, 0]), .code (sub i_levels_c [1, 1, 1, 0, 1, 0, 0, 1]), .inLoop (sub i_levels_c [1, 1, 1, 0, 1, 0, 0]), .inBlock 0, .code (sub i_levels_c [1, 1, 1, 1])] ⟨[.cv .dead, .cv .dead, .cv .dead, .cv .dead, .cv .dead, .cv .dead, .cv (.own 450006), .cv .dead, .cv .dead, .cv .dead, .cv .dead, .cv .dead, .cv .dead, .cv .dead, .cv .dead, .cv .dead, .cv .dead, .cv .dead, .cv .dead, .cv .dead, .cv .dead, .cv .dead, .cv .dead, .cv .dead, .cv .dead, .cv (.val (.slice (.pair (.int .i64) (.pair (.pair (.int .i64) (.int .i64)) (.int .i64)))) v25), .cv (.val (.int .i64) v26), .cv (.val (.int .i64) v27), .cv .dead, .cv .dead, .cv .dead, .cv .dead, .cv .dead, .cv .dead, .cv .dead, .cv .dead, .cv .dead, .cv .dead, .cv .dead, .cv .dead, .cv .dead, .cv .dead, .cv .dead, .cv .dead, .cv .dead, .cv .dead, .cv .dead, .cv .dead, .cv .dead, .cv .dead, .cv .dead, .cv .dead, .cv .dead, .cv .dead, .cv .dead, .cv .dead, .cv .dead, .cv .dead, .cv .dead, .cv .dead, .cv .dead, .cv .dead, .cv .dead, .cv .dead, .cv .dead, .cv .dead, .cv .dead, .cv .dead, .cv .dead, .cv .dead, .cv .dead, .cv .dead, .cv .dead], [(450006, .row (.slice (.pair (.slice (.int .i64)) (.int .i64))) o450006 true false)], true⟩
noncomputable def i_levels_l9 (k : Nat) (v25 : List (Int × (Int × Int) × Int)) (v26 : Int) (v27 : Int) (v37 : Int) (v38 : Int) (o420006 : List (List ((List Int) × Int))) (o420006_i : Nat) (o200008_0 : Int) (o200008_1 : Int) (o200008_2 : Int) (o200008_3 : Int) (o430009 : List ByteArray) (o450010 : List ((List Int) × Int)) (o450036 : List ((List Int) × Int)) : Option ((List (List ((List Int) × Int))) × Bool) := aRun E k i_levels_fi.rs (ioOf i_levels_fi.ps) i_levels_fi.res i_levels_fi.hints [.code (sub i_levels_c [1, 1, 1, 0, 1, 0, 0, 1, 1, 0, 0, 1, 1, 1, 0, 1, 0, 0, 0]), .code (sub i_levels_c [1, 1, 1, 0, 1, 0, 0, 1, 1, 0, 0, 1, 1, 1, 0, 1, 0, 0, 1]), .inLoop (sub i_levels_c [1, 1, 1, 0, 1, 0, 0, 1, 1, 0, 0, 1, 1, 1, 0, 1, 0, 0]), .inBlock 2, .code (sub i_levels_c [1, 1, 1, 0, 1, 0, 0, 1, 1, 0, 0, 1, 1, 1, 1]), .inBlock 1, .code (sub i_levels_c [1, 1, 1, 0, 1, 0, 0, 1, 1, 1]), .inLoop (sub i_levels_c [1, 1, 1, 0, 1, 0, 0]), .inBlock 0, .code (sub i_levels_c [1, 1, 1, 1])] ⟨[.cv .dead, .cv .dead, .cv .dead, .cv .dead, .cv .dead, .cv .dead, .cv (.own 420006), .cv .dead, .adr 200008 0, .cv (.own 430009), .cv (.own 450010), .cv .dead, .cv .dead, .cv .dead, .cv .dead, .cv .dead, .cv .dead, .cv .dead, .cv .dead, .cv .dead, .cv .dead, .cv .dead, .cv .dead, .cv .dead, .cv .dead, .cv (.val (.slice (.pair (.int .i64) (.pair (.pair (.int .i64) (.int .i64)) (.int .i64)))) v25), .cv (.val (.int .i64) v26), .cv (.val (.int .i64) v27), .cv .dead, .cv .dead, .cv .dead, .cv .dead, .cv .dead, .cv .dead, .cv .dead, .cv .dead, .cv (.own 450036), .cv (.val (.int .i64) v37), .cv (.val (.int .i64) v38), .cv .dead, .cv .dead, .cv .dead, .cv .dead, .cv .dead, .cv .dead, .cv .dead, .cv .dead, .cv .dead, .cv .dead, .cv .dead, .cv .dead, .cv .dead, .cv .dead, .cv .dead, .cv .dead, .cv .dead, .cv .dead, .cv .dead, .cv .dead, .cv .dead, .cv .dead, .cv .dead, .cv .dead, .cv .dead, .cv .dead, .cv .dead, .cv .dead, .cv .dead, .cv .dead, .cv .dead, .cv .dead, .cv .dead, .cv .dead], [(420006, .hole (.pair (.slice (.int .i64)) (.int .i64)) o420006 o420006_i (.own 450036)), (200008, .box [.val (.int .i64) o200008_0, .val (.int .i64) o200008_1, .val (.int .i64) o200008_2, .val (.int .i64) o200008_3]), (430009, .mp o430009), (450010, .row (.pair (.slice (.int .i64)) (.int .i64)) o450010 true true), (450036, .row (.pair (.slice (.int .i64)) (.int .i64)) o450036 true false)], true⟩
noncomputable def i_levels_l12 (k : Nat) (v25 : List (Int × (Int × Int) × Int)) (v26 : Int) (v27 : Int) (v37 : Int) (v38 : Int) (v45 : Int) (v46 : Int) (o420006 : List (List ((List Int) × Int))) (o420006_i : Nat) (o200008_0 : Int) (o200008_1 : Int) (o200008_2 : Int) (o200008_3 : Int) (o430009 : List ByteArray) (o450010 : List ((List Int) × Int)) (o450036 : List ((List Int) × Int)) (o440044 : List ((List Int) × Int)) (o440044_n : Nat) : Option ((List (List ((List Int) × Int))) × Bool) := aRun E k i_levels_fi.rs (ioOf i_levels_fi.ps) i_levels_fi.res i_levels_fi.hints [.code (sub i_levels_c [1, 1, 1, 0, 1, 0, 0, 1, 1, 0, 0, 1, 1, 1, 0, 1, 0, 0, 1, 1, 0, 0, 1, 0, 1, 0, 0, 0]), .code (sub i_levels_c [1, 1, 1, 0, 1, 0, 0, 1, 1, 0, 0, 1, 1, 1, 0, 1, 0, 0, 1, 1, 0, 0, 1, 0, 1, 0, 0, 1]), .inLoop (sub i_levels_c [1, 1, 1, 0, 1, 0, 0, 1, 1, 0, 0, 1, 1, 1, 0, 1, 0, 0, 1, 1, 0, 0, 1, 0, 1, 0, 0]), .inBlock 4, .code (sub i_levels_c [1, 1, 1, 0, 1, 0, 0, 1, 1, 0, 0, 1, 1, 1, 0, 1, 0, 0, 1, 1, 0, 0, 1, 1]), .inBlock 3, .code (sub i_levels_c [1, 1, 1, 0, 1, 0, 0, 1, 1, 0, 0, 1, 1, 1, 0, 1, 0, 0, 1, 1, 1]), .inLoop (sub i_levels_c [1, 1, 1, 0, 1, 0, 0, 1, 1, 0, 0, 1, 1, 1, 0, 1, 0, 0]), .inBlock 2, .code (sub i_levels_c [1, 1, 1, 0, 1, 0, 0, 1, 1, 0, 0, 1, 1, 1, 1]), .inBlock 1, .code (sub i_levels_c [1, 1, 1, 0, 1, 0, 0, 1, 1, 1]), .inLoop (sub i_levels_c [1, 1, 1, 0, 1, 0, 0]), .inBlock 0, .code (sub i_levels_c [1, 1, 1, 1])] ⟨[.cv .dead, .cv .dead, .cv .dead, .cv .dead, .cv .dead, .cv .dead, .cv (.own 420006), .cv .dead, .adr 200008 0, .cv (.own 430009), .cv (.own 450010), .cv .dead, .cv .dead, .cv .dead, .cv .dead, .cv .dead, .cv .dead, .cv .dead, .cv .dead, .cv .dead, .cv .dead, .cv .dead, .cv .dead, .cv .dead, .cv .dead, .cv (.val (.slice (.pair (.int .i64) (.pair (.pair (.int .i64) (.int .i64)) (.int .i64)))) v25), .cv (.val (.int .i64) v26), .cv (.val (.int .i64) v27), .cv .dead, .cv .dead, .cv .dead, .cv .dead, .cv .dead, .cv .dead, .cv .dead, .cv .dead, .cv (.own 450036), .cv (.val (.int .i64) v37), .cv (.val (.int .i64) v38), .cv .dead, .cv .dead, .cv .dead, .cv .dead, .cv .dead, .cv (.own 440044), .cv (.val (.int .i64) v45), .cv (.val (.int .i64) v46), .cv .dead, .cv .dead, .cv .dead, .cv .dead, .cv .dead, .cv .dead, .cv .dead, .cv .dead, .cv .dead, .cv .dead, .cv .dead, .cv .dead, .cv .dead, .cv .dead, .cv .dead, .cv .dead, .cv .dead, .cv .dead, .cv .dead, .cv .dead, .cv .dead, .cv .dead, .cv .dead, .cv .dead, .cv .dead, .cv .dead], [(420006, .hole (.pair (.slice (.int .i64)) (.int .i64)) o420006 o420006_i (.own 450036)), (200008, .box [.val (.int .i64) o200008_0, .val (.int .i64) o200008_1, .val (.int .i64) o200008_2, .val (.int .i64) o200008_3]), (430009, .mp o430009), (450010, .row (.pair (.slice (.int .i64)) (.int .i64)) o450010 true true), (450036, .row (.pair (.slice (.int .i64)) (.int .i64)) o450036 true false), (440044, .tl (.pair (.slice (.int .i64)) (.int .i64)) o440044 o440044_n)], true⟩
noncomputable def i_AllScenes (k : Nat) (x : (List Int) × (List (Int × (Int × Int) × Int)) × Int × Int × Int) : Option ((List ((List Int) × Int)) × Bool) := aFn E i_AllScenes_fi k x
noncomputable def i_CountChoices (k : Nat) (x : (List Int) × (List (Int × (Int × Int) × Int)) × Int × Int × Int) : Option (Int) := aFn E i_CountChoices_fi k x
noncomputable def i_CountChoices_l5 (k : Nat) (v3 : Int) (v10 : List (Int × (Int × Int) × Int)) (v11 : Int) (v12 : Int) : Option (Int) := aRun E k i_CountChoices_fi.rs (ioOf i_CountChoices_fi.ps) i_CountChoices_fi.res i_CountChoices_fi.hints [.code (sub i_CountChoices_c [1, 1, 1, 0, 1, 0, 0, 0]), .code (sub i_CountChoices_c [1, 1, 1, 0, 1, 0, 0, 1]), .inLoop (sub i_CountChoices_c [1, 1, 1, 0, 1, 0, 0]), .inBlock 0, .code (sub i_CountChoices_c [1, 1, 1, 1])] ⟨[.cv .dead, .cv .dead, .cv .dead, .cv (.val (.int .i64) v3), .cv .dead, .cv .dead, .cv .dead, .cv .dead, .cv .dead, .cv .dead, .cv (.val (.slice (.pair (.int .i64) (.pair (.pair (.int .i64) (.int .i64)) (.int .i64)))) v10), .cv (.val (.int .i64) v11), .cv (.val (.int .i64) v12), .cv .dead, .cv .dead, .cv .dead, .cv .dead, .cv .dead, .cv .dead, .cv .dead, .cv .dead, .cv .dead, .cv .dead], [], true⟩
noncomputable def i_CountEnds (k : Nat) (x : (List Int) × (List (Int × (Int × Int) × Int)) × Int × Int × Int) : Option (Int) := aFn E i_CountEnds_fi k x
noncomputable def s_l23New (k : Nat) (x : (List Int) × Int) : Option ((List Int) × Int × Int) := aFn E s_l23New_fi k x
noncomputable def s_l23New_l3 (k : Nat) (v1 : Int) (v6 : Int) (o200005_0 : List Int) (o200005_1 : Int) (o200005_2 : Int) : Option ((List Int) × Int × Int) := aRun E k s_l23New_fi.rs (ioOf s_l23New_fi.ps) s_l23New_fi.res s_l23New_fi.hints [.code (sub s_l23New_c [1, 1, 0, 1, 0, 0, 0, 0]), .code (sub s_l23New_c [1, 1, 0, 1, 0, 0, 0, 1]), .code (sub s_l23New_c [1, 1, 0, 1, 0, 0, 1]), .inLoop (sub s_l23New_c [1, 1, 0, 1, 0, 0]), .inBlock 0, .code (sub s_l23New_c [1, 1, 1])] ⟨[.cv .dead, .cv (.val (.int .i64) v1), .cv .dead, .cv .dead, .cv .dead, .adr 200005 0, .cv (.val (.int .i64) v6), .cv .dead, .cv .dead, .cv .dead, .cv .dead, .cv .dead, .cv .dead, .cv .dead, .cv .dead, .cv .dead, .cv .dead], [(200005, .box [.val (.slice (.int .u8)) o200005_0, .val (.int .i64) o200005_1, .val (.int .i64) o200005_2])], true⟩
noncomputable def s_MakeNum (k : Nat) (x : (List Int) × Int) : Option (Int) := aFn E s_MakeNum_fi k x
noncomputable def i_RunTrick (k : Nat) (x : ((List Int) × (List (Int × (Int × Int) × Int)) × Int × Int × Int) × List Int) : Option ((List Int) × Int × Bool) := aFn E i_RunTrick_fi k x
noncomputable def i_RunTrick_l5 (k : Nat) (v1 : List Int) (v28 : List (Int × (Int × Int) × Int)) (v29 : Int) (v30 : Int) (o200004_1 : Int) (o200006_1 : Int) (o300600 : List Int) : Option ((List Int) × Int × Bool) := aRun E k i_RunTrick_fi.rs (ioOf i_RunTrick_fi.ps) i_RunTrick_fi.res i_RunTrick_fi.hints [.code (sub i_RunTrick_c [1, 1, 1, 0, 1, 0, 0, 0]), .code (sub i_RunTrick_c [1, 1, 1, 0, 1, 0, 0, 1]), .inLoop (sub i_RunTrick_c [1, 1, 1, 0, 1, 0, 0]), .inBlock 0, .code (sub i_RunTrick_c [1, 1, 1, 1])] ⟨[.cv .dead, .cv (.val (.slice (.int .i64)) v1), .cv .dead, .cv .dead, .adr 200004 0, .cv .dead, .adr 200006 0, .cv .dead, .cv .dead, .cv .dead, .cv .dead, .cv .dead, .cv .dead, .cv .dead, .cv .dead, .cv .dead, .cv .dead, .cv .dead, .cv .dead, .cv .dead, .cv .dead, .cv .dead, .cv .dead, .cv .dead, .cv .dead, .cv .dead, .cv .dead, .cv .dead, .cv (.val (.slice (.pair (.int .i64) (.pair (.pair (.int .i64) (.int .i64)) (.int .i64)))) v28), .cv (.val (.int .i64) v29), .cv (.val (.int .i64) v30), .cv .dead, .cv .dead, .cv .dead, .cv .dead, .cv .dead, .cv .dead, .cv .dead, .cv .dead, .cv .dead, .cv .dead, .cv .dead, .cv .dead, .cv .dead, .cv .dead, .cv .dead, .cv .dead, .cv .dead, .cv .dead, .cv .dead, .cv .dead, .cv .dead, .cv .dead, .cv .dead, .cv .dead, .cv .dead, .cv .dead, .cv .dead, .cv .dead, .cv .dead], [(200004, .box [.nil, .val (.int .i64) o200004_1]), (200006, .box [.own 300600, .val (.int .i64) o200006_1]), (300600, .row (.int .i64) o300600 true false)], true⟩
noncomputable def slices_Equal_int (k : Nat) (x : (List Int) × List Int) : Option (Bool) := aFn E slices_Equal_int_fi k x
noncomputable def slices_Equal_int_l4 (k : Nat) (v0 : List Int) (v1 : List Int) (v12 : Int) (v13 : Int) : Option (Bool) := aRun E k slices_Equal_int_fi.rs (ioOf slices_Equal_int_fi.ps) slices_Equal_int_fi.res slices_Equal_int_fi.hints [.code (sub slices_Equal_int_c [1, 1, 0, 1, 0, 0, 0]), .code (sub slices_Equal_int_c [1, 1, 0, 1, 0, 0, 1]), .inLoop (sub slices_Equal_int_c [1, 1, 0, 1, 0, 0]), .inBlock 0, .code (sub slices_Equal_int_c [1, 1, 1])] ⟨[.cv (.val (.slice (.int .i64)) v0), .cv (.val (.slice (.int .i64)) v1), .cv .dead, .cv .dead, .cv .dead, .cv .dead, .cv .dead, .cv .dead, .cv .dead, .cv .dead, .cv .dead, .cv .dead, .cv (.val (.int .i64) v12), .cv (.val (.int .i64) v13), .cv .dead, .cv .dead, .cv .dead, .cv .dead, .cv .dead, .cv .dead, .cv .dead, .cv .dead, .cv .dead, .cv .dead, .cv .dead, .cv .dead], [], true⟩
noncomputable def i_SameScene (k : Nat) (x : ((List Int) × Int) × (List Int) × Int) : Option (Bool) := aFn E i_SameScene_fi k x
noncomputable def i_IsArrangement_1 (k : Nat) (x : Int × List Int) : Option (Bool) := aFn E i_IsArrangement_1_fi k x
noncomputable def slices_IndexFunc_int_of_i_IsArrangement_1 (k : Nat) (x : (List Int) × List Int) : Option (Int) := aFn E slices_IndexFunc_int_of_i_IsArrangement_1_fi k x
noncomputable def slices_IndexFunc_int_of_i_IsArrangement_1_l2 (k : Nat) (v0 : List Int) (v1_0_0 : List Int) (v7 : Int) (v8 : Int) : Option (Int) := aRun E k slices_IndexFunc_int_of_i_IsArrangement_1_fi.rs (ioOf slices_IndexFunc_int_of_i_IsArrangement_1_fi.ps) slices_IndexFunc_int_of_i_IsArrangement_1_fi.res slices_IndexFunc_int_of_i_IsArrangement_1_fi.hints [.code (sub slices_IndexFunc_int_of_i_IsArrangement_1_c [1, 0, 1, 0, 0, 0]), .code (sub slices_IndexFunc_int_of_i_IsArrangement_1_c [1, 0, 1, 0, 0, 1]), .inLoop (sub slices_IndexFunc_int_of_i_IsArrangement_1_c [1, 0, 1, 0, 0]), .inBlock 0, .code (sub slices_IndexFunc_int_of_i_IsArrangement_1_c [1, 1])] ⟨[.cv (.val (.slice (.int .i64)) v0), .fn 24 [[.val (.slice (.int .i64)) v1_0_0]], .cv .dead, .cv .dead, .cv .dead, .cv .dead, .cv .dead, .cv (.val (.int .i64) v7), .cv (.val (.int .i64) v8), .cv .dead, .cv .dead, .cv .dead, .cv .dead, .cv .dead, .cv .dead, .cv .dead, .cv .dead, .cv .dead, .cv .dead], [], true⟩
noncomputable def slices_ContainsFunc_int_of_i_IsArrangement_1 (k : Nat) (x : (List Int) × List Int) : Option (Bool) := aFn E slices_ContainsFunc_int_of_i_IsArrangement_1_fi k x
noncomputable def i_IsArrangement (k : Nat) (x : (List Int) × List Int) : Option (Bool) := aFn E i_IsArrangement_fi k x
noncomputable def w_same (k : Nat) (x : (List Int) × List Int) : Option (Bool) := aFn E w_same_fi k x
noncomputable def w_same_l4 (k : Nat) (v1 : List Int) (v12 : List Int) (v13 : Int) (v14 : Int) : Option (Bool) := aRun E k w_same_fi.rs (ioOf w_same_fi.ps) w_same_fi.res w_same_fi.hints [.code (sub w_same_c [1, 1, 0, 1, 0, 0, 0]), .code (sub w_same_c [1, 1, 0, 1, 0, 0, 1]), .inLoop (sub w_same_c [1, 1, 0, 1, 0, 0]), .inBlock 0, .code (sub w_same_c [1, 1, 1])] ⟨[.cv .dead, .cv (.val (.slice (.int .i64)) v1), .cv .dead, .cv .dead, .cv .dead, .cv .dead, .cv .dead, .cv .dead, .cv .dead, .cv .dead, .cv .dead, .cv .dead, .cv (.val (.slice (.int .i64)) v12), .cv (.val (.int .i64) v13), .cv (.val (.int .i64) v14), .cv .dead, .cv .dead, .cv .dead, .cv .dead, .cv .dead, .cv .dead, .cv .dead, .cv .dead, .cv .dead, .cv .dead, .cv .dead], [], true⟩
noncomputable def w_FnRuns (k : Nat) (x : List Int) : Option (Bool) := aFn E w_FnRuns_fi k x
noncomputable def w_FnRuns_l10 (k : Nat) (v0 : List Int) (v6 : Int) (v8 : Int) (o200003_2 : Int) (o200003_3 : Int) (o200003_4 : Int) (o300300 : List Int) (o300301 : List (Int × (Int × Int) × Int)) (o100004 : List ((List Int) × Int)) (o100007 : List Int) : Option (Bool) := aRun E k w_FnRuns_fi.rs (ioOf w_FnRuns_fi.ps) w_FnRuns_fi.res w_FnRuns_fi.hints [.code (sub w_FnRuns_c [1, 1, 1, 1, 1, 1, 1, 0, 1, 0, 0, 0, 0]), .code (sub w_FnRuns_c [1, 1, 1, 1, 1, 1, 1, 0, 1, 0, 0, 0, 1]), .code (sub w_FnRuns_c [1, 1, 1, 1, 1, 1, 1, 0, 1, 0, 0, 1]), .inLoop (sub w_FnRuns_c [1, 1, 1, 1, 1, 1, 1, 0, 1, 0, 0]), .inBlock 0, .code (sub w_FnRuns_c [1, 1, 1, 1, 1, 1, 1, 1])] ⟨[.cv (.val (.slice (.int .u8)) v0), .cv .dead, .cv .dead, .adr 200003 0, .cv (.own 100004), .cv .dead, .cv (.val (.int .i64) v6), .cv (.own 100007), .cv (.val (.int .i64) v8), .cv .dead, .cv .dead, .cv .dead, .cv .dead, .cv .dead, .cv .dead, .cv .dead, .cv .dead, .cv .dead, .cv .dead, .cv .dead, .cv .dead, .cv .dead, .cv .dead, .cv .dead, .cv .dead, .cv .dead, .cv .dead, .cv .dead, .cv .dead, .cv .dead, .cv .dead, .cv .dead, .cv .dead, .cv .dead, .cv .dead, .cv .dead, .cv .dead, .cv .dead, .cv .dead, .cv .dead, .cv .dead, .cv .dead, .cv .dead, .cv .dead, .cv .dead, .cv .dead, .cv .dead, .cv .dead, .cv .dead, .cv .dead, .cv .dead, .cv .dead, .cv .dead, .cv .dead, .cv .dead, .cv .dead, .cv .dead, .cv .dead, .cv .dead, .cv .dead, .cv .dead, .cv .dead, .cv .dead, .cv .dead, .cv .dead, .cv .dead, .cv .dead, .cv .dead, .cv .dead, .cv .dead, .cv .dead, .cv .dead, .cv .dead, .cv .dead, .cv .dead, .cv .dead, .cv .dead, .cv .dead, .cv .dead, .cv .dead, .cv .dead, .cv .dead, .cv .dead, .cv .dead, .cv .dead, .cv .dead, .cv .dead, .cv .dead, .cv .dead, .cv .dead, .cv .dead, .cv .dead, .cv .dead, .cv .dead, .cv .dead, .cv .dead, .cv .dead, .cv .dead, .cv .dead, .cv .dead, .cv .dead, .cv .dead, .cv .dead, .cv .dead, .cv .dead, .cv .dead, .cv .dead, .cv .dead, .cv .dead, .cv .dead, .cv .dead, .cv .dead, .cv .dead, .cv .dead, .cv .dead, .cv .dead, .cv .dead, .cv .dead, .cv .dead, .cv .dead, .cv .dead, .cv .dead, .cv .dead, .cv .dead, .cv .dead, .cv .dead, .cv .dead, .cv .dead, .cv .dead, .cv .dead, .cv .dead, .cv .dead], [(200003, .box [.own 300300, .own 300301, .val (.int .i64) o200003_2, .val (.int .i64) o200003_3, .val (.int .i64) o200003_4]), (300300, .row (.int .i64) o300300 true false), (300301, .row (.pair (.int .i64) (.pair (.pair (.int .i64) (.int .i64)) (.int .i64))) o300301 true false), (100004, .row (.pair (.slice (.int .i64)) (.int .i64)) o100004 true false), (100007, .row (.int .i64) o100007 true false)], true⟩
noncomputable def w_FnRuns_l17 (k : Nat) (v4 : List ((List Int) × Int)) (v11 : Bool) (v74 : List ((List Int) × Int)) (v75 : Int) (v76 : Int) (o200003_2 : Int) (o200003_3 : Int) (o200003_4 : Int) (o300300 : List Int) (o300301 : List (Int × (Int × Int) × Int)) (o200009_1 : Int) (o300900 : List Int) : Option (Bool) := aRun E k w_FnRuns_fi.rs (ioOf w_FnRuns_fi.ps) w_FnRuns_fi.res w_FnRuns_fi.hints [.code (sub w_FnRuns_c [1, 1, 1, 1, 1, 1, 1, 1, 1, 0, 1, 0, 1, 0, 1, 0, 0, 0]), .code (sub w_FnRuns_c [1, 1, 1, 1, 1, 1, 1, 1, 1, 0, 1, 0, 1, 0, 1, 0, 0, 1]), .inLoop (sub w_FnRuns_c [1, 1, 1, 1, 1, 1, 1, 1, 1, 0, 1, 0, 1, 0, 1, 0, 0]), .inBlock 2, .code (sub w_FnRuns_c [1, 1, 1, 1, 1, 1, 1, 1, 1, 0, 1, 0, 1, 1]), .code (sub w_FnRuns_c [1, 1, 1, 1, 1, 1, 1, 1, 1, 1])] ⟨[.cv .dead, .cv .dead, .cv .dead, .adr 200003 0, .cv (.val (.slice (.pair (.slice (.int .i64)) (.int .i64))) v4), .cv .dead, .cv .dead, .cv .dead, .cv .dead, .adr 200009 0, .cv .dead, .cv (.val (.bool) v11), .cv .dead, .cv .dead, .cv .dead, .cv .dead, .cv .dead, .cv .dead, .cv .dead, .cv .dead, .cv .dead, .cv .dead, .cv .dead, .cv .dead, .cv .dead, .cv .dead, .cv .dead, .cv .dead, .cv .dead, .cv .dead, .cv .dead, .cv .dead, .cv .dead, .cv .dead, .cv .dead, .cv .dead, .cv .dead, .cv .dead, .cv .dead, .cv .dead, .cv .dead, .cv .dead, .cv .dead, .cv .dead, .cv .dead, .cv .dead, .cv .dead, .cv .dead, .cv .dead, .cv .dead, .cv .dead, .cv .dead, .cv .dead, .cv .dead, .cv .dead, .cv .dead, .cv .dead, .cv .dead, .cv .dead, .cv .dead, .cv .dead, .cv .dead, .cv .dead, .cv .dead, .cv .dead, .cv .dead, .cv .dead, .cv .dead, .cv .dead, .cv .dead, .cv .dead, .cv .dead, .cv .dead, .cv .dead, .cv (.val (.slice (.pair (.slice (.int .i64)) (.int .i64))) v74), .cv (.val (.int .i64) v75), .cv (.val (.int .i64) v76), .cv .dead, .cv .dead, .cv .dead, .cv .dead, .cv .dead, .cv .dead, .cv .dead, .cv .dead, .cv .dead, .cv .dead, .cv .dead, .cv .dead, .cv .dead, .cv .dead, .cv .dead, .cv .dead, .cv .dead, .cv .dead, .cv .dead, .cv .dead, .cv .dead, .cv .dead, .cv .dead, .cv .dead, .cv .dead, .cv .dead, .cv .dead, .cv .dead, .cv .dead, .cv .dead, .cv .dead, .cv .dead, .cv .dead, .cv .dead, .cv .dead, .cv .dead, .cv .dead, .cv .dead, .cv .dead, .cv .dead, .cv .dead, .cv .dead, .cv .dead, .cv .dead, .cv .dead, .cv .dead, .cv .dead, .cv .dead, .cv .dead, .cv .dead, .cv .dead, .cv .dead, .cv .dead, .cv .dead, .cv .dead], [(200003, .box [.own 300300, .own 300301, .val (.int .i64) o200003_2, .val (.int .i64) o200003_3, .val (.int .i64) o200003_4]), (300300, .row (.int .i64) o300300 true false), (300301, .row (.pair (.int .i64) (.pair (.pair (.int .i64) (.int .i64)) (.int .i64))) o300301 true false), (200009, .box [.own 300900, .val (.int .i64) o200009_1]), (300900, .row (.int .i64) o300900 true false)], true⟩
noncomputable def w_FnRuns_l24 (k : Nat) (v4 : List ((List Int) × Int)) (v89 : List ((List Int) × Int)) (v90 : Int) (v91 : Int) (o200003_2 : Int) (o200003_3 : Int) (o200003_4 : Int) (o300300 : List Int) (o300301 : List (Int × (Int × Int) × Int)) : Option (Bool) := aRun E k w_FnRuns_fi.rs (ioOf w_FnRuns_fi.ps) w_FnRuns_fi.res w_FnRuns_fi.hints [.code (sub w_FnRuns_c [1, 1, 1, 1, 1, 1, 1, 1, 1, 1, 0, 1, 0, 0, 0]), .code (sub w_FnRuns_c [1, 1, 1, 1, 1, 1, 1, 1, 1, 1, 0, 1, 0, 0, 1]), .inLoop (sub w_FnRuns_c [1, 1, 1, 1, 1, 1, 1, 1, 1, 1, 0, 1, 0, 0]), .inBlock 4, .code (sub w_FnRuns_c [1, 1, 1, 1, 1, 1, 1, 1, 1, 1, 1])] ⟨[.cv .dead, .cv .dead, .cv .dead, .adr 200003 0, .cv (.val (.slice (.pair (.slice (.int .i64)) (.int .i64))) v4), .cv .dead, .cv .dead, .cv .dead, .cv .dead, .cv .dead, .cv .dead, .cv .dead, .cv .dead, .cv .dead, .cv .dead, .cv .dead, .cv .dead, .cv .dead, .cv .dead, .cv .dead, .cv .dead, .cv .dead, .cv .dead, .cv .dead, .cv .dead, .cv .dead, .cv .dead, .cv .dead, .cv .dead, .cv .dead, .cv .dead, .cv .dead, .cv .dead, .cv .dead, .cv .dead, .cv .dead, .cv .dead, .cv .dead, .cv .dead, .cv .dead, .cv .dead, .cv .dead, .cv .dead, .cv .dead, .cv .dead, .cv .dead, .cv .dead, .cv .dead, .cv .dead, .cv .dead, .cv .dead, .cv .dead, .cv .dead, .cv .dead, .cv .dead, .cv .dead, .cv .dead, .cv .dead, .cv .dead, .cv .dead, .cv .dead, .cv .dead, .cv .dead, .cv .dead, .cv .dead, .cv .dead, .cv .dead, .cv .dead, .cv .dead, .cv .dead, .cv .dead, .cv .dead, .cv .dead, .cv .dead, .cv .dead, .cv .dead, .cv .dead, .cv .dead, .cv .dead, .cv .dead, .cv .dead, .cv .dead, .cv .dead, .cv .dead, .cv .dead, .cv .dead, .cv .dead, .cv .dead, .cv .dead, .cv (.val (.slice (.pair (.slice (.int .i64)) (.int .i64))) v89), .cv (.val (.int .i64) v90), .cv (.val (.int .i64) v91), .cv .dead, .cv .dead, .cv .dead, .cv .dead, .cv .dead, .cv .dead, .cv .dead, .cv .dead, .cv .dead, .cv .dead, .cv .dead, .cv .dead, .cv .dead, .cv .dead, .cv .dead, .cv .dead, .cv .dead, .cv .dead, .cv .dead, .cv .dead, .cv .dead, .cv .dead, .cv .dead, .cv .dead, .cv .dead, .cv .dead, .cv .dead, .cv .dead, .cv .dead, .cv .dead, .cv .dead, .cv .dead, .cv .dead, .cv .dead, .cv .dead, .cv .dead, .cv .dead, .cv .dead, .cv .dead, .cv .dead], [(200003, .box [.own 300300, .own 300301, .val (.int .i64) o200003_2, .val (.int .i64) o200003_3, .val (.int .i64) o200003_4]), (300300, .row (.int .i64) o300300 true false), (300301, .row (.pair (.int .i64) (.pair (.pair (.int .i64) (.int .i64)) (.int .i64))) o300301 true false)], true⟩
noncomputable def w_FnRuns_l29 (k : Nat) (v4 : List ((List Int) × Int)) (v14 : Int) (v16 : Int) (v89 : List ((List Int) × Int)) (v90 : Int) (v91 : Int) (o200003_2 : Int) (o200003_3 : Int) (o200003_4 : Int) (o300300 : List Int) (o300301 : List (Int × (Int × Int) × Int)) (o200015_0 : List Int) (o200015_1 : Int) : Option (Bool) := aRun E k w_FnRuns_fi.rs (ioOf w_FnRuns_fi.ps) w_FnRuns_fi.res w_FnRuns_fi.hints [.code (sub w_FnRuns_c [1, 1, 1, 1, 1, 1, 1, 1, 1, 1, 0, 1, 0, 0, 1, 1, 0, 0, 1, 1, 1, 0, 0, 0, 0]), .code (sub w_FnRuns_c [1, 1, 1, 1, 1, 1, 1, 1, 1, 1, 0, 1, 0, 0, 1, 1, 0, 0, 1, 1, 1, 0, 0, 0, 1]), .code (sub w_FnRuns_c [1, 1, 1, 1, 1, 1, 1, 1, 1, 1, 0, 1, 0, 0, 1, 1, 0, 0, 1, 1, 1, 0, 0, 1]), .inLoop (sub w_FnRuns_c [1, 1, 1, 1, 1, 1, 1, 1, 1, 1, 0, 1, 0, 0, 1, 1, 0, 0, 1, 1, 1, 0, 0]), .inBlock 6, .inBlock 5, .code (sub w_FnRuns_c [1, 1, 1, 1, 1, 1, 1, 1, 1, 1, 0, 1, 0, 0, 1, 1, 1]), .inLoop (sub w_FnRuns_c [1, 1, 1, 1, 1, 1, 1, 1, 1, 1, 0, 1, 0, 0]), .inBlock 4, .code (sub w_FnRuns_c [1, 1, 1, 1, 1, 1, 1, 1, 1, 1, 1])] ⟨[.cv .dead, .cv .dead, .cv .dead, .adr 200003 0, .cv (.val (.slice (.pair (.slice (.int .i64)) (.int .i64))) v4), .cv .dead, .cv .dead, .cv .dead, .cv .dead, .cv .dead, .cv .dead, .cv .dead, .cv .dead, .cv .dead, .cv (.val (.int .i64) v14), .adr 200015 0, .cv (.val (.int .i64) v16), .cv .dead, .cv .dead, .cv .dead, .cv .dead, .cv .dead, .cv .dead, .cv .dead, .cv .dead, .cv .dead, .cv .dead, .cv .dead, .cv .dead, .cv .dead, .cv .dead, .cv .dead, .cv .dead, .cv .dead, .cv .dead, .cv .dead, .cv .dead, .cv .dead, .cv .dead, .cv .dead, .cv .dead, .cv .dead, .cv .dead, .cv .dead, .cv .dead, .cv .dead, .cv .dead, .cv .dead, .cv .dead, .cv .dead, .cv .dead, .cv .dead, .cv .dead, .cv .dead, .cv .dead, .cv .dead, .cv .dead, .cv .dead, .cv .dead, .cv .dead, .cv .dead, .cv .dead, .cv .dead, .cv .dead, .cv .dead, .cv .dead, .cv .dead, .cv .dead, .cv .dead, .cv .dead, .cv .dead, .cv .dead, .cv .dead, .cv .dead, .cv .dead, .cv .dead, .cv .dead, .cv .dead, .cv .dead, .cv .dead, .cv .dead, .cv .dead, .cv .dead, .cv .dead, .cv .dead, .cv .dead, .cv .dead, .cv .dead, .cv .dead, .cv (.val (.slice (.pair (.slice (.int .i64)) (.int .i64))) v89), .cv (.val (.int .i64) v90), .cv (.val (.int .i64) v91), .cv .dead, .cv .dead, .cv .dead, .cv .dead, .cv .dead, .cv .dead, .cv .dead, .cv .dead, .cv .dead, .cv .dead, .cv .dead, .cv .dead, .cv .dead, .cv .dead, .cv .dead, .cv .dead, .cv .dead, .cv .dead, .cv .dead, .cv .dead, .cv .dead, .cv .dead, .cv .dead, .cv .dead, .cv .dead, .cv .dead, .cv .dead, .cv .dead, .cv .dead, .cv .dead, .cv .dead, .cv .dead, .cv .dead, .cv .dead, .cv .dead, .cv .dead, .cv .dead, .cv .dead, .cv .dead, .cv .dead], [(200003, .box [.own 300300, .own 300301, .val (.int .i64) o200003_2, .val (.int .i64) o200003_3, .val (.int .i64) o200003_4]), (300300, .row (.int .i64) o300300 true false), (300301, .row (.pair (.int .i64) (.pair (.pair (.int .i64) (.int .i64)) (.int .i64))) o300301 true false), (200015, .box [.val (.slice (.int .i64)) o200015_0, .val (.int .i64) o200015_1])], true⟩

theorem s_l01New_eq (k : Nat) (x0 : List Int) : s_l01New (k + 1) x0 =
  s_l01New_l3 k x0 (IntKind.i64.wrap ((2070 : Int) + (x0.length : Int))) (0 : Int) := by kernel_rfl
theorem s_l01New_l3_eq (k : Nat) (v0 : List Int) (v3 : Int) (v4 : Int) : s_l01New_l3 (k + 1) v0 v3 v4 =
  bif decide (v4 < (v0.length : Int)) then
    (bif decide (v4 < (4000 : Int)) then
      (bif decide (0 ≤ v4) then
        (bif decide (v4 < (v0.length : Int)) then
          (s_l01New_l3 k v0 (IntKind.i64.wrap (((BitVec.ofInt IntKind.i64.bits (IntKind.i64.wrap ((IntKind.i64.wrap ((IntKind.i64.wrap (v3 * (101 : Int))) + (IntKind.i64.wrap (v0.getD v4.toNat (0 : Int))))) + (7 : Int))) &&& BitVec.ofInt IntKind.i64.bits (1073741823 : Int)).toNat : Int))) (IntKind.i64.wrap (v4 + (1 : Int))))
        else (none))
      else (none))
    else (some (v0, ((0 : Int), v3))))
  else (some (v0, ((0 : Int), v3))) := by kernel_rfl
theorem s_l01Byte_eq (k : Nat) (x0 : (List Int) × Int × Int) : s_l01Byte (k + 1) x0 =
  bif decide (x0.2.1 < (x0.1.length : Int)) then
    (bif decide (0 ≤ x0.2.1) then
      (bif decide (x0.2.1 < (x0.1.length : Int)) then
        (some ((IntKind.i64.wrap (((BitVec.ofInt IntKind.i64.bits (IntKind.i64.wrap ((IntKind.i64.wrap (((BitVec.ofInt IntKind.i64.bits (IntKind.i64.wrap (((BitVec.ofInt IntKind.i64.bits ((IntKind.i64.wrap ((IntKind.i64.wrap (x0.2.2 * (6364136223846793005 : Int))) + (1442695040888963407 : Int))).fdiv (2 ^ (min 33 IntKind.i64.bits))) ^^^ BitVec.ofInt IntKind.i64.bits ((IntKind.i64.wrap ((IntKind.i64.wrap (x0.2.2 * (6364136223846793005 : Int))) + (1442695040888963407 : Int))).fdiv (2 ^ (min 45 IntKind.i64.bits)))).toNat : Int))) &&& BitVec.ofInt IntKind.i64.bits (255 : Int)).toNat : Int))) + (IntKind.i64.wrap (x0.1.getD x0.2.1.toNat (0 : Int))))) &&& BitVec.ofInt IntKind.i64.bits (255 : Int)).toNat : Int))), (x0.1, ((IntKind.i64.wrap (x0.2.1 + (1 : Int))), (IntKind.i64.wrap ((IntKind.i64.wrap (x0.2.2 * (6364136223846793005 : Int))) + (1442695040888963407 : Int)))))))
      else (none))
    else (none))
  else (some ((IntKind.i64.wrap (((BitVec.ofInt IntKind.i64.bits (IntKind.i64.wrap (((BitVec.ofInt IntKind.i64.bits ((IntKind.i64.wrap ((IntKind.i64.wrap (x0.2.2 * (6364136223846793005 : Int))) + (1442695040888963407 : Int))).fdiv (2 ^ (min 33 IntKind.i64.bits))) ^^^ BitVec.ofInt IntKind.i64.bits ((IntKind.i64.wrap ((IntKind.i64.wrap (x0.2.2 * (6364136223846793005 : Int))) + (1442695040888963407 : Int))).fdiv (2 ^ (min 45 IntKind.i64.bits)))).toNat : Int))) &&& BitVec.ofInt IntKind.i64.bits (255 : Int)).toNat : Int))), (x0.1, (x0.2.1, (IntKind.i64.wrap ((IntKind.i64.wrap (x0.2.2 * (6364136223846793005 : Int))) + (1442695040888963407 : Int))))))) := by kernel_rfl
theorem s_l01Below_eq (k : Nat) (x0 : (List Int) × Int × Int) (x1 : Int) : s_l01Below (k + 1) (x0, x1) =
  bif decide (x1 ≤ (0 : Int)) then
    (some ((0 : Int), x0))
  else (bif decide (x1 ≤ (256 : Int)) then
      ((s_l01Byte k x0).bind fun y1 =>
      bif (!(x1 == 0)) then
        (some ((y1.1.tmod x1), y1.2))
      else (none))
    else ((s_l01Byte k x0).bind fun y2 =>
      (s_l01Byte k y2.2).bind fun y3 =>
      (s_l01Byte k y3.2).bind fun y4 =>
      (s_l01Byte k y4.2).bind fun y5 =>
      bif (!(x1 == 0)) then
        (some (((IntKind.i64.wrap ((IntKind.i64.wrap ((IntKind.i64.wrap ((IntKind.i64.wrap (y2.1 * (16777216 : Int))) + (IntKind.i64.wrap (y3.1 * (65536 : Int))))) + (IntKind.i64.wrap (y4.1 * (256 : Int))))) + y5.1)).tmod x1), y5.2))
      else (none))) := by kernel_rfl
theorem s_l01Once_eq (k : Nat) (x0 : (List Int) × Int × Int) (x1 : Int) : s_l01Once (k + 1) (x0, x1) =
  (s_l01Below k (x0, x1)).bind fun y1 =>
  some ((y1.1 == (0 : Int)), y1.2) := by kernel_rfl
theorem s_l01In_eq (k : Nat) (x0 : Int) (x1 : Int) (x2 : Int) : s_l01In (k + 1) (x0, x1, x2) =
  bif decide (x0 ≥ x1) then
    (some (decide (x0 ≤ x2)))
  else (some false) := by kernel_rfl
theorem s_NewPacket_eq (k : Nat) (x0 : Int) : s_NewPacket (k + 1) x0 =
  (s_l01In k (x0, ((0 : Int), (12 : Int)))).bind fun y1 =>
  bif (!y1) then
    (some [])
  else (s_NewPacket_l5 k x0 (0 : Int) ([] : List Int)) := by kernel_rfl
theorem s_NewPacket_l5_eq (k : Nat) (v0 : Int) (v4 : Int) (o100003 : List Int) : s_NewPacket_l5 (k + 1) v0 v4 o100003 =
  bif decide (v4 < v0) then
    (bif decide (o100003.length + [v4].length ≤ rowMax) then
      (s_NewPacket_l5 k v0 (IntKind.i64.wrap (v4 + (1 : Int))) (o100003 ++ [v4]))
    else (none))
  else (bif (!o100003.isEmpty) then
      (some o100003)
    else (none)) := by kernel_rfl
theorem s_l16Known_eq (k : Nat) (x0 : (List Int) × Int × Int) : s_l16Known (k + 1) x0 =
  (s_l01Below k (x0, (4 : Int))).bind fun y1 =>
  bif (y1.1 == (0 : Int)) then
    ((s_NewPacket k (4 : Int)).bind fun y2 =>
    some ((y2, ([((2 : Int), (((0 : Int), (0 : Int)), (4 : Int))), ((3 : Int), (((0 : Int), (0 : Int)), (0 : Int))), ((1 : Int), (((1 : Int), (1 : Int)), (0 : Int)))], ((1 : Int), ((3 : Int), (0 : Int))))), y1.2))
  else (bif (y1.1 == (1 : Int)) then
      ((s_NewPacket k (4 : Int)).bind fun y3 =>
      some ((y3, ([((2 : Int), (((0 : Int), (0 : Int)), (3 : Int))), ((2 : Int), (((0 : Int), (0 : Int)), (3 : Int))), ((1 : Int), (((8 : Int), (1 : Int)), (0 : Int))), ((1 : Int), (((8 : Int), (3 : Int)), (0 : Int)))], ((2 : Int), ((2 : Int), (0 : Int))))), y1.2))
    else (bif (y1.1 == (2 : Int)) then
        ((s_NewPacket k (4 : Int)).bind fun y4 =>
        some ((y4, ([((1 : Int), (((4 : Int), (0 : Int)), (0 : Int))), ((1 : Int), (((4 : Int), (0 : Int)), (0 : Int)))], ((4 : Int), ((0 : Int), (0 : Int))))), y1.2))
      else ((s_NewPacket k (4 : Int)).bind fun y5 =>
        some ((y5, ([((2 : Int), (((0 : Int), (0 : Int)), (4 : Int))), ((3 : Int), (((0 : Int), (0 : Int)), (0 : Int))), ((1 : Int), (((7 : Int), (0 : Int)), (0 : Int)))], ((1 : Int), ((0 : Int), (0 : Int))))), y1.2)))) := by kernel_rfl
theorem s_l02Shuffle_eq (k : Nat) (x0 : (List Int) × Int × Int) (x1 : Int) : s_l02Shuffle (k + 1) (x0, x1) =
  s_l02Shuffle_l3 k x1 (0 : Int) ([] : List Int) x0.1 x0.2.1 x0.2.2 := by kernel_rfl
theorem s_l02Shuffle_l3_eq (k : Nat) (v1 : Int) (v6 : Int) (o100005 : List Int) (o500000_0 : List Int) (o500000_1 : Int) (o500000_2 : Int) : s_l02Shuffle_l3 (k + 1) v1 v6 o100005 o500000_0 o500000_1 o500000_2 =
  bif decide (v6 < v1) then
    ((s_l01Below k ((o500000_0, (o500000_1, o500000_2)), (IntKind.i64.wrap (v6 + (1 : Int))))).bind fun y1 =>
    bif decide (o100005.length + [v6].length ≤ rowMax) then
      (bif decide (0 ≤ y1.1) then
        (bif decide (y1.1 < ((o100005 ++ [v6]).length : Int)) then
          (bif decide (y1.1.toNat < (o100005 ++ [v6]).length) then
            (bif decide (0 ≤ v6) then
              (bif decide (v6 < ((o100005 ++ [v6]).length : Int)) then
                (bif decide (v6.toNat < (o100005 ++ [v6]).length) then
                  (bif decide (0 ≤ y1.1) then
                    (bif decide (y1.1 < (((o100005 ++ [v6]).set v6.toNat ((o100005 ++ [v6]).getD y1.1.toNat (0 : Int))).length : Int)) then
                      (bif decide (y1.1.toNat < ((o100005 ++ [v6]).set v6.toNat ((o100005 ++ [v6]).getD y1.1.toNat (0 : Int))).length) then
                        (s_l02Shuffle_l3 k v1 (IntKind.i64.wrap (v6 + (1 : Int))) (((o100005 ++ [v6]).set v6.toNat ((o100005 ++ [v6]).getD y1.1.toNat (0 : Int))).set y1.1.toNat v6) y1.2.1 y1.2.2.1 y1.2.2.2)
                      else (none))
                    else (none))
                  else (none))
                else (none))
              else (none))
            else (none))
          else (none))
        else (none))
      else (none))
    else (none))
  else (some (o100005, (o500000_0, (o500000_1, o500000_2)))) := by kernel_rfl
theorem s_l02Draw_eq (k : Nat) (x0 : (List Int) × Int × Int) (x1 : Int) : s_l02Draw (k + 1) (x0, x1) =
  (s_l01Below k (x0, x1)).bind fun y1 =>
  (s_l02Shuffle k (y1.2, (IntKind.i64.wrap ((1 : Int) + y1.1)))).bind fun y2 =>
  (s_l01Once k (y2.2, (2 : Int))).bind fun y3 =>
  bif y3.1 then
    (s_l02Draw_l4 k (y2.1.length : Int) (0 : Int) y2.1 y3.2.1 y3.2.2.1 y3.2.2.2)
  else (some (y2.1, y3.2)) := by kernel_rfl
theorem s_l02Draw_l4_eq (k : Nat) (v16 : Int) (v17 : Int) (o100005 : List Int) (o500000_0 : List Int) (o500000_1 : Int) (o500000_2 : Int) : s_l02Draw_l4 (k + 1) v16 v17 o100005 o500000_0 o500000_1 o500000_2 =
  bif decide (v17 < v16) then
    ((s_l01Once k ((o500000_0, (o500000_1, o500000_2)), (3 : Int))).bind fun y1 =>
    bif y1.1 then
      (bif decide (0 ≤ v17) then
        (bif decide (v17 < (o100005.length : Int)) then
          (bif decide (v17.toNat < o100005.length) then
            (bif decide (0 ≤ v17) then
              (bif decide (v17 < (o100005.length : Int)) then
                (bif decide (v17.toNat < o100005.length) then
                  (s_l02Draw_l4 k v16 (IntKind.i64.wrap (v17 + (1 : Int))) (o100005.set v17.toNat (IntKind.i64.wrap ((-1 : Int) - (o100005.getD v17.toNat (0 : Int))))) y1.2.1 y1.2.2.1 y1.2.2.2)
                else (none))
              else (none))
            else (none))
          else (none))
        else (none))
      else (none))
    else (s_l02Draw_l4 k v16 (IntKind.i64.wrap (v17 + (1 : Int))) o100005 y1.2.1 y1.2.2.1 y1.2.2.2))
  else (some (o100005, (o500000_0, (o500000_1, o500000_2)))) := by kernel_rfl
theorem s_l01Pick_eq (k : Nat) (x0 : (List Int) × Int × Int) (x1 : List Int) : s_l01Pick (k + 1) (x0, x1) =
  (s_l01Below k (x0, (x1.length : Int))).bind fun y1 =>
  bif decide (0 ≤ y1.1) then
    (bif decide (y1.1 < (x1.length : Int)) then
      (some ((x1.getD y1.1.toNat (0 : Int)), y1.2))
    else (none))
  else (none) := by kernel_rfl
theorem s_l04Draw_eq (k : Nat) (x0 : (List Int) × Int × Int) (x1 : Int) : s_l04Draw (k + 1) (x0, x1) =
  (s_l01Below k (x0, (9 : Int))).bind fun y1 =>
  bif ((IntKind.i64.wrap ((1 : Int) + y1.1)) == (1 : Int)) then
    ((s_l01Below k (y1.2, (IntKind.i64.wrap (x1 + (1 : Int))))).bind fun y2 =>
    some (((IntKind.i64.wrap ((1 : Int) + y1.1)), y2.1), y2.2))
  else (bif ((IntKind.i64.wrap ((1 : Int) + y1.1)) == (2 : Int)) then
      ((s_l01Below k (y1.2, (IntKind.i64.wrap (x1 + (1 : Int))))).bind fun y3 =>
      some (((IntKind.i64.wrap ((1 : Int) + y1.1)), y3.1), y3.2))
    else (bif ((IntKind.i64.wrap ((1 : Int) + y1.1)) == (3 : Int)) then
        ((s_l01Below k (y1.2, (IntKind.i64.wrap (x1 + (1 : Int))))).bind fun y4 =>
        some (((IntKind.i64.wrap ((1 : Int) + y1.1)), y4.1), y4.2))
      else (bif ((IntKind.i64.wrap ((1 : Int) + y1.1)) == (4 : Int)) then
          ((s_l01Below k (y1.2, (2 : Int))).bind fun y5 =>
          some (((IntKind.i64.wrap ((1 : Int) + y1.1)), y5.1), y5.2))
        else (bif ((IntKind.i64.wrap ((1 : Int) + y1.1)) == (5 : Int)) then
            ((s_l01Below k (y1.2, (2 : Int))).bind fun y6 =>
            some (((IntKind.i64.wrap ((1 : Int) + y1.1)), y6.1), y6.2))
          else (bif ((IntKind.i64.wrap ((1 : Int) + y1.1)) == (7 : Int)) then
              ((s_l01Below k (y1.2, (2 : Int))).bind fun y7 =>
              some (((IntKind.i64.wrap ((1 : Int) + y1.1)), y7.1), y7.2))
            else (bif ((IntKind.i64.wrap ((1 : Int) + y1.1)) == (8 : Int)) then
                ((s_l01Below k (y1.2, x1)).bind fun y8 =>
                some (((IntKind.i64.wrap ((1 : Int) + y1.1)), y8.1), y8.2))
              else (bif ((IntKind.i64.wrap ((1 : Int) + y1.1)) == (9 : Int)) then
                  ((s_l01Below k (y1.2, x1)).bind fun y9 =>
                  some (((IntKind.i64.wrap ((1 : Int) + y1.1)), y9.1), y9.2))
                else (some (((IntKind.i64.wrap ((1 : Int) + y1.1)), (0 : Int)), y1.2))))))))) := by kernel_rfl
theorem s_l16Step_eq (k : Nat) (x0 : (List Int) × Int × Int) (x1 : Int) : s_l16Step (k + 1) (x0, x1) =
  (s_l01Below k (x0, (4 : Int))).bind fun y1 =>
  bif (y1.1 == (0 : Int)) then
    ((s_l01Pick k (y1.2, [(0 : Int), (1 : Int), (1 : Int), (3 : Int), (4 : Int)])).bind fun y2 =>
    bif (y2.1 == (3 : Int)) then
      (bif decide (x1 < (2 : Int)) then
        (some (((2 : Int), ((0 : Int), ((0 : Int), (1 : Int)))), y2.2))
      else (some (((2 : Int), ((0 : Int), ((0 : Int), y2.1))), y2.2)))
    else (some (((2 : Int), ((0 : Int), ((0 : Int), y2.1))), y2.2)))
  else (bif (y1.1 == (1 : Int)) then
      ((s_l01Below k (y1.2, x1)).bind fun y3 =>
      some (((3 : Int), ((0 : Int), ((0 : Int), y3.1))), y3.2))
    else ((s_l04Draw k (y1.2, x1)).bind fun y4 =>
      some (((1 : Int), (y4.1.1, (y4.1.2, (0 : Int)))), y4.2))) := by kernel_rfl
theorem s_CardOf_eq (k : Nat) (x0 : Int) : s_CardOf (k + 1) x0 =
  (s_l01In k (x0, ((0 : Int), (11 : Int)))).bind fun y1 =>
  bif y1 then
    (some x0)
  else ((s_l01In k (x0, ((-12 : Int), (-1 : Int)))).bind fun y2 =>
    bif y2 then
      (some (IntKind.i64.wrap ((-1 : Int) - x0)))
    else (some (-1 : Int))) := by kernel_rfl
theorem s_l16Draw_eq (k : Nat) (x0 : (List Int) × Int × Int) : s_l16Draw (k + 1) x0 =
  (s_l01Once k (x0, (3 : Int))).bind fun y1 =>
  bif y1.1 then
    ((s_l16Known k y1.2).bind fun y2 =>
    some (y2.1, y2.2))
  else ((s_l02Draw k (y1.2, (4 : Int))).bind fun y3 =>
    (s_l01Below k (y3.2, (5 : Int))).bind fun y4 =>
    s_l16Draw_l7 k (y3.1.length : Int) false y4.1 (0 : Int) (0 : Int) (0 : Int) (0 : Int) (0 : Int) (0 : Int) y3.1 [] y4.2.1 y4.2.2.1 y4.2.2.2) := by kernel_rfl
theorem s_l16Draw_l7_eq (k : Nat) (v4 : Int) (v5 : Bool) (v6 : Int) (o200002_2 : Int) (o200002_3 : Int) (o200002_4 : Int) (o200003_2 : Int) (o200003_3 : Int) (o200003_4 : Int) (o300300 : List Int) (o300301 : List (Int × (Int × Int) × Int)) (o500000_0 : List Int) (o500000_1 : Int) (o500000_2 : Int) : s_l16Draw_l7 (k + 1) v4 v5 v6 o200002_2 o200002_3 o200002_4 o200003_2 o200003_3 o200003_4 o300300 o300301 o500000_0 o500000_1 o500000_2 =
  bif decide (v6 > (0 : Int)) then
    ((s_l16Step k ((o500000_0, (o500000_1, o500000_2)), v4)).bind fun y1 =>
    bif v5 then
      (bif decide (o300301.length + [(y1.1.1, ((y1.1.2.1, y1.1.2.2.1), y1.1.2.2.2))].length ≤ rowMax) then
        (s_l16Draw_l7 k v4 true (IntKind.i64.wrap (v6 - (1 : Int))) o200002_2 o200002_3 o200002_4 o200003_2 o200003_3 o200003_4 o300300 (o300301 ++ [(y1.1.1, ((y1.1.2.1, y1.1.2.2.1), y1.1.2.2.2))]) y1.2.1 y1.2.2.1 y1.2.2.2)
      else (none))
    else (bif decide (o300301.length + [(y1.1.1, ((y1.1.2.1, y1.1.2.2.1), y1.1.2.2.2))].length ≤ rowMax) then
        (s_l16Draw_l7 k v4 (y1.1.1 == (3 : Int)) (IntKind.i64.wrap (v6 - (1 : Int))) o200002_2 o200002_3 o200002_4 o200003_2 o200003_3 o200003_4 o300300 (o300301 ++ [(y1.1.1, ((y1.1.2.1, y1.1.2.2.1), y1.1.2.2.2))]) y1.2.1 y1.2.2.1 y1.2.2.2)
      else (none)))
  else ((s_l01Below k ((o500000_0, (o500000_1, o500000_2)), (4 : Int))).bind fun y2 =>
    bif (y2.1 == (0 : Int)) then
      (bif v5 then
        ((s_l01Below k (y2.2, v4)).bind fun y3 =>
        some ((o300300, (o300301, ((1 : Int), (y3.1, o200003_4)))), y3.2))
      else (some ((o300300, (o300301, (o200003_2, (o200003_3, o200003_4)))), y2.2)))
    else (bif (y2.1 == (1 : Int)) then
        ((s_l01Below k (y2.2, (IntKind.i64.wrap (v4 + (1 : Int))))).bind fun y4 =>
        some ((o300300, (o300301, ((2 : Int), (y4.1, o200003_4)))), y4.2))
      else (bif (y2.1 == (2 : Int)) then
          (bif decide ((0 : Int) < (o300300.length : Int)) then
            (bif decide (0 < o300300.length) then
              ((s_CardOf k (o300300.getD 0 (0 : Int))).bind fun y5 =>
              (s_l01Below k (y2.2, v4)).bind fun y6 =>
              some ((o300300, (o300301, ((3 : Int), (y5, y6.1)))), y6.2))
            else (none))
          else (none))
        else (some ((o300300, (o300301, ((4 : Int), (o200003_3, o200003_4)))), y2.2))))) := by kernel_rfl
theorem s_MakeTrick_eq (k : Nat) (x0 : List Int) : s_MakeTrick (k + 1) x0 =
  (s_l01New k x0).bind fun y1 =>
  (s_l16Draw k y1).bind fun y2 =>
  some y2.1 := by kernel_rfl
theorem i_CardOf_eq (k : Nat) (x0 : Int) : i_CardOf (k + 1) x0 =
  bif decide (x0 < (0 : Int)) then
    (bif decide ((IntKind.i64.wrap ((-1 : Int) - x0)) ≥ (12 : Int)) then
      (some (-1 : Int))
    else (some (IntKind.i64.wrap ((-1 : Int) - x0))))
  else (bif decide (x0 ≥ (12 : Int)) then
      (some (-1 : Int))
    else (some x0)) := by kernel_rfl
theorem i_PacketOk_eq (k : Nat) (x0 : List Int) : i_PacketOk (k + 1) x0 =
  i_PacketOk_l3 k x0 (x0.length : Int) (0 : Int) (List.replicate 12 false) := by kernel_rfl
theorem i_PacketOk_l3_eq (k : Nat) (v7 : List Int) (v8 : Int) (v9 : Int) (o400003 : List Bool) : i_PacketOk_l3 (k + 1) v7 v8 v9 o400003 =
  bif decide (v9 < v8) then
    (bif decide (0 ≤ v9) then
      (bif decide (v9 < (v7.length : Int)) then
        ((i_CardOf k (v7.getD v9.toNat (0 : Int))).bind fun y1 =>
        bif decide (y1 < (0 : Int)) then
          (some false)
        else (bif (Nat.beq o400003.length 12 && true) then
            (bif decide (0 ≤ y1) then
              (bif decide (y1 < (o400003.length : Int)) then
                (bif decide (y1.toNat < o400003.length) then
                  (bif (o400003.getD y1.toNat false) then
                    (some false)
                  else (bif (Nat.beq o400003.length 12 && true) then
                      (bif decide (0 ≤ y1) then
                        (bif decide (y1 < (o400003.length : Int)) then
                          (bif decide (y1.toNat < o400003.length) then
                            (i_PacketOk_l3 k v7 v8 (IntKind.i64.wrap (v9 + (1 : Int))) (o400003.set y1.toNat true))
                          else (none))
                        else (none))
                      else (none))
                    else (none)))
                else (none))
              else (none))
            else (none))
          else (none)))
      else (none))
    else (none))
  else (some true) := by kernel_rfl
theorem i_MoveOk_eq (k : Nat) (x0 : Int) (x1 : Int × Int) : i_MoveOk (k + 1) (x0, x1) =
  bif decide (x0 < (1 : Int)) then
    (some false)
  else (bif decide (x0 > (12 : Int)) then
      (some false)
    else (bif decide (x1.2 < (0 : Int)) then
        (some false)
      else (bif (x1.1 == (1 : Int)) then
          (some (decide (x1.2 ≤ x0)))
        else (bif (x1.1 == (2 : Int)) then
            (some (decide (x1.2 ≤ x0)))
          else (bif (x1.1 == (3 : Int)) then
              (some (decide (x1.2 ≤ x0)))
            else (bif (x1.1 == (4 : Int)) then
                (some (decide (x1.2 ≤ (1 : Int))))
              else (bif (x1.1 == (5 : Int)) then
                  (some (decide (x1.2 ≤ (1 : Int))))
                else (bif (x1.1 == (7 : Int)) then
                    (some (decide (x1.2 ≤ (1 : Int))))
                  else (bif (x1.1 == (6 : Int)) then
                      (some (x1.2 == (0 : Int)))
                    else (bif (x1.1 == (8 : Int)) then
                        (some (decide (x1.2 < x0)))
                      else (bif (x1.1 == (9 : Int)) then
                          (some (decide (x1.2 < x0)))
                        else (some false)))))))))))) := by kernel_rfl
theorem i_StepOk_eq (k : Nat) (x0 : Int) (x1 : Int × (Int × Int) × Int) : i_StepOk (k + 1) (x0, x1) =
  bif decide (x0 < (1 : Int)) then
    (some false)
  else (bif decide (x0 > (12 : Int)) then
      (some false)
    else (bif (x1.1 == (1 : Int)) then
        ((i_MoveOk k (x0, x1.2.1)).bind fun y1 =>
        bif y1 then
          (some (x1.2.2 == (0 : Int)))
        else (some false))
      else (bif (x1.1 == (2 : Int)) then
          (bif ((x1.2.1.1 == (0 : Int)) && ((x1.2.1.2 == (0 : Int)) && true)) then
            (bif decide (x1.2.2 ≥ (0 : Int)) then
              (bif decide (x1.2.2 ≤ (4 : Int)) then
                (bif (!(x1.2.2 == (3 : Int))) then
                  (bif (!(x1.2.2 == (2 : Int))) then
                    (some true)
                  else (some (decide (x0 ≤ (7 : Int)))))
                else (bif decide (x0 ≥ (2 : Int)) then
                    (bif (!(x1.2.2 == (2 : Int))) then
                      (some true)
                    else (some (decide (x0 ≤ (7 : Int)))))
                  else (some false)))
              else (some false))
            else (some false))
          else (some false))
        else (bif (x1.1 == (3 : Int)) then
            (bif ((x1.2.1.1 == (0 : Int)) && ((x1.2.1.2 == (0 : Int)) && true)) then
              (bif decide (x1.2.2 ≥ (0 : Int)) then
                (some (decide (x1.2.2 < x0)))
              else (some false))
            else (some false))
          else (some false))))) := by kernel_rfl
theorem i_PositionOf_1_eq (k : Nat) (x0 : Int) (x1 : Int) : i_PositionOf_1 (k + 1) (x0, x1) =
  (i_CardOf k x0).bind fun y1 =>
  some (y1 == x1) := by kernel_rfl
theorem slices_IndexFunc_int_of_i_PositionOf_1_eq (k : Nat) (x0 : List Int) (x1 : Int) : slices_IndexFunc_int_of_i_PositionOf_1 (k + 1) (x0, x1) =
  slices_IndexFunc_int_of_i_PositionOf_1_l2 k x0 x1 (x0.length : Int) (0 : Int) := by kernel_rfl
theorem slices_IndexFunc_int_of_i_PositionOf_1_l2_eq (k : Nat) (v0 : List Int) (v1_0_0 : Int) (v7 : Int) (v8 : Int) : slices_IndexFunc_int_of_i_PositionOf_1_l2 (k + 1) v0 v1_0_0 v7 v8 =
  bif decide (v8 < v7) then
    (bif decide (0 ≤ v8) then
      (bif decide (v8 < (v0.length : Int)) then
        ((i_PositionOf_1 k ((v0.getD v8.toNat (0 : Int)), v1_0_0)).bind fun y1 =>
        bif y1 then
          (some v8)
        else (slices_IndexFunc_int_of_i_PositionOf_1_l2 k v0 v1_0_0 v7 (IntKind.i64.wrap (v8 + (1 : Int)))))
      else (none))
    else (none))
  else (some (-1 : Int)) := by kernel_rfl
theorem i_PositionOf_eq (k : Nat) (x0 : List Int) (x1 : Int) : i_PositionOf (k + 1) (x0, x1) =
  bif decide (x1 < (0 : Int)) then
    (some (-1 : Int))
  else ((slices_IndexFunc_int_of_i_PositionOf_1 k (x0, x1)).bind fun y1 =>
    some y1) := by kernel_rfl
theorem i_TrickOk_eq (k : Nat) (x0 : (List Int) × (List (Int × (Int × Int) × Int)) × Int × Int × Int) : i_TrickOk (k + 1) x0 =
  (i_PacketOk k x0.1).bind fun y1 =>
  bif (!y1) then
    (some false)
  else (bif ((x0.1.length : Int) == (0 : Int)) then
      (some false)
    else (bif decide ((x0.2.1.length : Int) > (12 : Int)) then
        (some false)
      else (i_TrickOk_l6 k (x0.1.length : Int) false x0.2.1 (x0.2.1.length : Int) (0 : Int) x0.1 x0.2.1 x0.2.2.1 x0.2.2.2.1 x0.2.2.2.2))) := by kernel_rfl
theorem i_TrickOk_l6_eq (k : Nat) (v3 : Int) (v4 : Bool) (v25 : List (Int × (Int × Int) × Int)) (v26 : Int) (v27 : Int) (o200001_0 : List Int) (o200001_1 : List (Int × (Int × Int) × Int)) (o200001_2 : Int) (o200001_3 : Int) (o200001_4 : Int) : i_TrickOk_l6 (k + 1) v3 v4 v25 v26 v27 o200001_0 o200001_1 o200001_2 o200001_3 o200001_4 =
  bif decide (v27 < v26) then
    (bif decide (0 ≤ v27) then
      (bif decide (v27 < (v25.length : Int)) then
        ((i_StepOk k (v3, ((v25.getD v27.toNat ((0 : Int), (((0 : Int), (0 : Int)), (0 : Int)))).1, ((((v25.getD v27.toNat ((0 : Int), (((0 : Int), (0 : Int)), (0 : Int)))).2).1), ((v25.getD v27.toNat ((0 : Int), (((0 : Int), (0 : Int)), (0 : Int)))).2).2)))).bind fun y1 =>
        bif (!y1) then
          (some false)
        else (bif v4 then
            (i_TrickOk_l6 k v3 true v25 v26 (IntKind.i64.wrap (v27 + (1 : Int))) o200001_0 o200001_1 o200001_2 o200001_3 o200001_4)
          else (i_TrickOk_l6 k v3 (((v25.getD v27.toNat ((0 : Int), (((0 : Int), (0 : Int)), (0 : Int)))).1) == (3 : Int)) v25 v26 (IntKind.i64.wrap (v27 + (1 : Int))) o200001_0 o200001_1 o200001_2 o200001_3 o200001_4)))
      else (none))
    else (none))
  else (bif (o200001_2 == (0 : Int)) then
      (bif (o200001_3 == (0 : Int)) then
        (some (o200001_4 == (0 : Int)))
      else (some false))
    else (bif (o200001_2 == (4 : Int)) then
        (bif (o200001_3 == (0 : Int)) then
          (some (o200001_4 == (0 : Int)))
        else (some false))
      else (bif (o200001_2 == (1 : Int)) then
          (bif v4 then
            (bif decide (o200001_3 ≥ (0 : Int)) then
              (bif decide (o200001_3 < v3) then
                (some (o200001_4 == (0 : Int)))
              else (some false))
            else (some false))
          else (some false))
        else (bif (o200001_2 == (2 : Int)) then
            (bif decide (o200001_3 ≥ (0 : Int)) then
              (bif decide (o200001_3 ≤ v3) then
                (some (o200001_4 == (0 : Int)))
              else (some false))
            else (some false))
          else (bif (o200001_2 == (3 : Int)) then
              ((i_PositionOf k (o200001_0, o200001_3)).bind fun y2 =>
              bif decide (y2 ≥ (0 : Int)) then
                (bif decide (o200001_4 ≥ (0 : Int)) then
                  (some (decide (o200001_4 < v3)))
                else (some false))
              else (some false))
            else (some false)))))) := by kernel_rfl
theorem slices_Clone_int_eq (k : Nat) (x0 : List Int) : slices_Clone_int (k + 1) x0 =
  bif (!x0.isEmpty) then
    (bif decide (([] : List Int).length + x0.length ≤ rowMax) then
      (some (([] : List Int) ++ x0))
    else (none))
  else (both (rs := flatRs slices_Clone_int_fi.rs) (ios := ioOf slices_Clone_int_fi.ps) (some [])
    (bif decide (([] : List Int).length + x0.length ≤ rowMax) then
        (some (([] : List Int) ++ x0))
      else (none))) := by kernel_rfl
theorem i_StartScene_eq (k : Nat) (x0 : (List Int) × (List (Int × (Int × Int) × Int)) × Int × Int × Int) : i_StartScene (k + 1) x0 =
  (i_TrickOk k x0).bind fun y1 =>
  bif (!y1) then
    (some ([], ((0 : Int), false)))
  else ((slices_Clone_int k x0.1).bind fun y2 =>
    ((bif (!y2.isEmpty) then some y2 else none).bind fun z0 => some (z0, ((-1 : Int), true)))) := by kernel_rfl
theorem slices_Grow_int_eq (k : Nat) (x0 : List Int) (x1 : Int) : slices_Grow_int k (x0, x1) = (fun _ n => growF n) x0 x1 := by kernel_rfl
theorem slices_Concat_int_eq (k : Nat) (x0 : List (List Int)) : slices_Concat_int (k + 1) x0 =
  slices_Concat_int_l3 k x0 (0 : Int) x0 (x0.length : Int) (0 : Int) := by kernel_rfl
theorem slices_Concat_int_l3_eq (k : Nat) (v0 : List (List Int)) (v3 : Int) (v9 : List (List Int)) (v10 : Int) (v11 : Int) : slices_Concat_int_l3 (k + 1) v0 v3 v9 v10 v11 =
  bif decide (v11 < v10) then
    (bif decide (0 ≤ v11) then
      (bif decide (v11 < (v9.length : Int)) then
        (bif decide ((IntKind.i64.wrap (v3 + ((v9.getD v11.toNat []).length : Int))) < (0 : Int)) then
          (none)
        else (slices_Concat_int_l3 k v0 (IntKind.i64.wrap (v3 + ((v9.getD v11.toNat []).length : Int))) v9 v10 (IntKind.i64.wrap (v11 + (1 : Int)))))
      else (none))
    else (none))
  else ((slices_Grow_int k ([], v3)).bind fun y1 =>
    slices_Concat_int_l11 k v0 (v0.length : Int) (0 : Int) y1) := by kernel_rfl
theorem slices_Concat_int_l11_eq (k : Nat) (v25 : List (List Int)) (v26 : Int) (v27 : Int) (o100006 : List Int) : slices_Concat_int_l11 (k + 1) v25 v26 v27 o100006 =
  bif decide (v27 < v26) then
    (bif decide (0 ≤ v27) then
      (bif decide (v27 < (v25.length : Int)) then
        (bif decide (o100006.length + (v25.getD v27.toNat []).length ≤ rowMax) then
          (slices_Concat_int_l11 k v25 v26 (IntKind.i64.wrap (v27 + (1 : Int))) (o100006 ++ (v25.getD v27.toNat [])))
        else (none))
      else (none))
    else (none))
  else (some o100006) := by kernel_rfl
theorem slices_Reverse_int_eq (k : Nat) (x0 : List Int) : slices_Reverse_int k x0 = reverseF x0 := by kernel_rfl
theorem i_reversed_eq (k : Nat) (x0 : List Int) : i_reversed (k + 1) x0 =
  (slices_Clone_int k x0).bind fun y1 =>
  (slices_Reverse_int k y1).bind fun y2 =>
  some y2.2 := by kernel_rfl
theorem i_faro_eq (k : Nat) (x0 : List Int) (x1 : Int) : i_faro (k + 1) (x0, x1) =
  bif decide (0 ≤ (IntKind.i64.wrap ((x0.length : Int).tdiv (2 : Int)))) then
    (bif decide ((IntKind.i64.wrap ((x0.length : Int).tdiv (2 : Int))) ≤ (x0.length : Int)) then
      (bif decide (0 ≤ (IntKind.i64.wrap ((x0.length : Int).tdiv (2 : Int)))) then
        (bif decide ((IntKind.i64.wrap ((x0.length : Int).tdiv (2 : Int))) ≤ (x0.length : Int)) then
          (bif decide ((x0.length : Int) ≤ (x0.length : Int)) then
            (i_faro_l4 k ((x0.take (IntKind.i64.wrap ((x0.length : Int).tdiv (2 : Int))).toNat).drop 0) ((x0.take ((x0.length : Int)).toNat).drop (IntKind.i64.wrap ((x0.length : Int).tdiv (2 : Int))).toNat) (x1 == (0 : Int)) [])
          else (none))
        else (none))
      else (none))
    else (none))
  else (none) := by kernel_rfl
theorem i_faro_l4_eq (k : Nat) (v5 : List Int) (v6 : List Int) (v8 : Bool) (o100007 : List Int) : i_faro_l4 (k + 1) v5 v6 v8 o100007 =
  bif decide ((v5.length : Int) > (0 : Int)) then
    (bif v8 then
      (bif decide ((v5.length : Int) > (0 : Int)) then
        (bif decide ((1 : Int) ≤ (v5.length : Int)) then
          (bif decide ((v5.length : Int) ≤ (v5.length : Int)) then
            (bif decide ((0 : Int) < (v5.length : Int)) then
              (bif decide (o100007.length + [(v5.getD 0 (0 : Int))].length ≤ rowMax) then
                (i_faro_l4 k ((v5.take ((v5.length : Int)).toNat).drop 1) v6 (!v8) (o100007 ++ [(v5.getD 0 (0 : Int))]))
              else (none))
            else (none))
          else (none))
        else (none))
      else (bif ((v6.length : Int) == (0 : Int)) then
          (bif decide ((1 : Int) ≤ (v5.length : Int)) then
            (bif decide ((v5.length : Int) ≤ (v5.length : Int)) then
              (bif decide ((0 : Int) < (v5.length : Int)) then
                (bif decide (o100007.length + [(v5.getD 0 (0 : Int))].length ≤ rowMax) then
                  (i_faro_l4 k ((v5.take ((v5.length : Int)).toNat).drop 1) v6 (!v8) (o100007 ++ [(v5.getD 0 (0 : Int))]))
                else (none))
              else (none))
            else (none))
          else (none))
        else (bif decide ((1 : Int) ≤ (v6.length : Int)) then
            (bif decide ((v6.length : Int) ≤ (v6.length : Int)) then
              (bif decide ((0 : Int) < (v6.length : Int)) then
                (bif decide (o100007.length + [(v6.getD 0 (0 : Int))].length ≤ rowMax) then
                  (i_faro_l4 k v5 ((v6.take ((v6.length : Int)).toNat).drop 1) (!v8) (o100007 ++ [(v6.getD 0 (0 : Int))]))
                else (none))
              else (none))
            else (none))
          else (none))))
    else (bif ((v6.length : Int) == (0 : Int)) then
        (bif decide ((1 : Int) ≤ (v5.length : Int)) then
          (bif decide ((v5.length : Int) ≤ (v5.length : Int)) then
            (bif decide ((0 : Int) < (v5.length : Int)) then
              (bif decide (o100007.length + [(v5.getD 0 (0 : Int))].length ≤ rowMax) then
                (i_faro_l4 k ((v5.take ((v5.length : Int)).toNat).drop 1) v6 (!v8) (o100007 ++ [(v5.getD 0 (0 : Int))]))
              else (none))
            else (none))
          else (none))
        else (none))
      else (bif decide ((1 : Int) ≤ (v6.length : Int)) then
          (bif decide ((v6.length : Int) ≤ (v6.length : Int)) then
            (bif decide ((0 : Int) < (v6.length : Int)) then
              (bif decide (o100007.length + [(v6.getD 0 (0 : Int))].length ≤ rowMax) then
                (i_faro_l4 k v5 ((v6.take ((v6.length : Int)).toNat).drop 1) (!v8) (o100007 ++ [(v6.getD 0 (0 : Int))]))
              else (none))
            else (none))
          else (none))
        else (none))))
  else (bif decide ((v6.length : Int) > (0 : Int)) then
      (bif v8 then
        (bif decide ((v5.length : Int) > (0 : Int)) then
          (bif decide ((1 : Int) ≤ (v5.length : Int)) then
            (bif decide ((v5.length : Int) ≤ (v5.length : Int)) then
              (bif decide ((0 : Int) < (v5.length : Int)) then
                (bif decide (o100007.length + [(v5.getD 0 (0 : Int))].length ≤ rowMax) then
                  (i_faro_l4 k ((v5.take ((v5.length : Int)).toNat).drop 1) v6 (!v8) (o100007 ++ [(v5.getD 0 (0 : Int))]))
                else (none))
              else (none))
            else (none))
          else (none))
        else (bif ((v6.length : Int) == (0 : Int)) then
            (bif decide ((1 : Int) ≤ (v5.length : Int)) then
              (bif decide ((v5.length : Int) ≤ (v5.length : Int)) then
                (bif decide ((0 : Int) < (v5.length : Int)) then
                  (bif decide (o100007.length + [(v5.getD 0 (0 : Int))].length ≤ rowMax) then
                    (i_faro_l4 k ((v5.take ((v5.length : Int)).toNat).drop 1) v6 (!v8) (o100007 ++ [(v5.getD 0 (0 : Int))]))
                  else (none))
                else (none))
              else (none))
            else (none))
          else (bif decide ((1 : Int) ≤ (v6.length : Int)) then
              (bif decide ((v6.length : Int) ≤ (v6.length : Int)) then
                (bif decide ((0 : Int) < (v6.length : Int)) then
                  (bif decide (o100007.length + [(v6.getD 0 (0 : Int))].length ≤ rowMax) then
                    (i_faro_l4 k v5 ((v6.take ((v6.length : Int)).toNat).drop 1) (!v8) (o100007 ++ [(v6.getD 0 (0 : Int))]))
                  else (none))
                else (none))
              else (none))
            else (none))))
      else (bif ((v6.length : Int) == (0 : Int)) then
          (bif decide ((1 : Int) ≤ (v5.length : Int)) then
            (bif decide ((v5.length : Int) ≤ (v5.length : Int)) then
              (bif decide ((0 : Int) < (v5.length : Int)) then
                (bif decide (o100007.length + [(v5.getD 0 (0 : Int))].length ≤ rowMax) then
                  (i_faro_l4 k ((v5.take ((v5.length : Int)).toNat).drop 1) v6 (!v8) (o100007 ++ [(v5.getD 0 (0 : Int))]))
                else (none))
              else (none))
            else (none))
          else (none))
        else (bif decide ((1 : Int) ≤ (v6.length : Int)) then
            (bif decide ((v6.length : Int) ≤ (v6.length : Int)) then
              (bif decide ((0 : Int) < (v6.length : Int)) then
                (bif decide (o100007.length + [(v6.getD 0 (0 : Int))].length ≤ rowMax) then
                  (i_faro_l4 k v5 ((v6.take ((v6.length : Int)).toNat).drop 1) (!v8) (o100007 ++ [(v6.getD 0 (0 : Int))]))
                else (none))
              else (none))
            else (none))
          else (none))))
    else (some o100007)) := by kernel_rfl
theorem i_monge_eq (k : Nat) (x0 : List Int) (x1 : Int) : i_monge (k + 1) (x0, x1) =
  i_monge_l3 k x1 x0 (x0.length : Int) (0 : Int) [] := by kernel_rfl
theorem i_monge_l3_eq (k : Nat) (v1 : Int) (v8 : List Int) (v9 : Int) (v10 : Int) (o100005 : List Int) : i_monge_l3 (k + 1) v1 v8 v9 v10 o100005 =
  bif decide (v10 < v9) then
    (bif decide (0 ≤ v10) then
      (bif decide (v10 < (v8.length : Int)) then
        (bif decide (v10 > (0 : Int)) then
          (bif (((IntKind.i64.wrap (v10 + v1)).tmod (2 : Int)) == (1 : Int)) then
            (bif decide ([(v8.getD v10.toNat (0 : Int))].length + o100005.length ≤ rowMax) then
              (i_monge_l3 k v1 v8 v9 (IntKind.i64.wrap (v10 + (1 : Int))) ([(v8.getD v10.toNat (0 : Int))] ++ o100005))
            else (none))
          else (bif decide (o100005.length + [(v8.getD v10.toNat (0 : Int))].length ≤ rowMax) then
              (i_monge_l3 k v1 v8 v9 (IntKind.i64.wrap (v10 + (1 : Int))) (o100005 ++ [(v8.getD v10.toNat (0 : Int))]))
            else (none)))
        else (bif decide (o100005.length + [(v8.getD v10.toNat (0 : Int))].length ≤ rowMax) then
            (i_monge_l3 k v1 v8 v9 (IntKind.i64.wrap (v10 + (1 : Int))) (o100005 ++ [(v8.getD v10.toNat (0 : Int))]))
          else (none)))
      else (none))
    else (none))
  else (some o100005) := by kernel_rfl
theorem i_milk_eq (k : Nat) (x0 : List Int) : i_milk (k + 1) x0 =
  i_milk_l2 k x0 [] := by kernel_rfl
theorem i_milk_l2_eq (k : Nat) (v0 : List Int) (o100003 : List Int) : i_milk_l2 (k + 1) v0 o100003 =
  bif decide ((v0.length : Int) > (1 : Int)) then
    (bif decide ((0 : Int) < (v0.length : Int)) then
      (bif decide (0 ≤ (IntKind.i64.wrap ((v0.length : Int) - (1 : Int)))) then
        (bif decide ((IntKind.i64.wrap ((v0.length : Int) - (1 : Int))) < (v0.length : Int)) then
          (bif decide ([(v0.getD 0 (0 : Int)), (v0.getD (IntKind.i64.wrap ((v0.length : Int) - (1 : Int))).toNat (0 : Int))].length + o100003.length ≤ rowMax) then
            (bif decide ((1 : Int) ≤ (IntKind.i64.wrap ((v0.length : Int) - (1 : Int)))) then
              (bif decide ((IntKind.i64.wrap ((v0.length : Int) - (1 : Int))) ≤ (v0.length : Int)) then
                (i_milk_l2 k ((v0.take (IntKind.i64.wrap ((v0.length : Int) - (1 : Int))).toNat).drop 1) ([(v0.getD 0 (0 : Int)), (v0.getD (IntKind.i64.wrap ((v0.length : Int) - (1 : Int))).toNat (0 : Int))] ++ o100003))
              else (none))
            else (none))
          else (none))
        else (none))
      else (none))
    else (none))
  else ((slices_Clone_int k v0).bind fun y1 =>
    bif decide (y1.length + o100003.length ≤ rowMax) then
      (some (y1 ++ o100003))
    else (none)) := by kernel_rfl
theorem i_dealt_eq (k : Nat) (x0 : List Int) (x1 : Int) : i_dealt (k + 1) (x0, x1) =
  (slices_Clone_int k x0).bind fun y1 =>
  i_dealt_l4 k (x1 == (1 : Int)) [] y1 := by kernel_rfl
theorem i_dealt_l4_eq (k : Nat) (v7 : Bool) (o100005 : List Int) (o100006 : List Int) : i_dealt_l4 (k + 1) v7 o100005 o100006 =
  bif decide ((o100006.length : Int) > (1 : Int)) then
    (bif v7 then
      (bif decide ((0 : Int) < (o100006.length : Int)) then
        (bif decide (0 < o100006.length) then
          (bif decide (o100005.length + [(o100006.getD 0 (0 : Int))].length ≤ rowMax) then
            (bif decide ((1 : Int) ≤ (o100006.length : Int)) then
              (bif decide ((o100006.length : Int) ≤ (o100006.length : Int)) then
                (i_dealt_l4 k (!v7) (o100005 ++ [(o100006.getD 0 (0 : Int))]) ((o100006.take ((o100006.length : Int)).toNat).drop 1))
              else (none))
            else (none))
          else (none))
        else (none))
      else (none))
    else (bif decide ((0 : Int) < (o100006.length : Int)) then
        (bif decide (0 < o100006.length) then
          (bif decide (o100006.length + [(o100006.getD 0 (0 : Int))].length ≤ rowMax) then
            (bif decide ((1 : Int) ≤ ((o100006 ++ [(o100006.getD 0 (0 : Int))]).length : Int)) then
              (bif decide (((o100006 ++ [(o100006.getD 0 (0 : Int))]).length : Int) ≤ ((o100006 ++ [(o100006.getD 0 (0 : Int))]).length : Int)) then
                (i_dealt_l4 k (!v7) o100005 (((o100006 ++ [(o100006.getD 0 (0 : Int))]).take (((o100006 ++ [(o100006.getD 0 (0 : Int))]).length : Int)).toNat).drop 1))
              else (none))
            else (none))
          else (none))
        else (none))
      else (none)))
  else (bif decide (o100005.length + o100006.length ≤ rowMax) then
      (some (o100005 ++ o100006))
    else (none)) := by kernel_rfl
theorem i_TurnCard_eq (k : Nat) (x0 : Int) : i_TurnCard (k + 1) x0 =
  (i_CardOf k x0).bind fun y1 =>
  bif decide (y1 < (0 : Int)) then
    (some x0)
  else (some (IntKind.i64.wrap ((-1 : Int) - x0))) := by kernel_rfl
theorem i_moved_eq (k : Nat) (x0 : List Int) (x1 : Int × Int) : i_moved (k + 1) (x0, x1) =
  bif (x1.1 == (1 : Int)) then
    (bif decide (0 ≤ x1.2) then
      (bif decide (x1.2 ≤ (x0.length : Int)) then
        (bif decide ((x0.length : Int) ≤ (x0.length : Int)) then
          (bif decide (0 ≤ x1.2) then
            (bif decide (x1.2 ≤ (x0.length : Int)) then
              ((slices_Concat_int k [((x0.take ((x0.length : Int)).toNat).drop x1.2.toNat), ((x0.take x1.2.toNat).drop 0)]).bind fun y1 =>
              some y1)
            else (none))
          else (none))
        else (none))
      else (none))
    else (none))
  else (bif (x1.1 == (2 : Int)) then
      (bif decide (0 ≤ x1.2) then
        (bif decide (x1.2 ≤ (x0.length : Int)) then
          ((i_reversed k ((x0.take x1.2.toNat).drop 0)).bind fun y2 =>
          bif decide (0 ≤ x1.2) then
            (bif decide (x1.2 ≤ (x0.length : Int)) then
              (bif decide ((x0.length : Int) ≤ (x0.length : Int)) then
                ((slices_Concat_int k [y2, ((x0.take ((x0.length : Int)).toNat).drop x1.2.toNat)]).bind fun y3 =>
                some y3)
              else (none))
            else (none))
          else (none))
        else (none))
      else (none))
    else (bif (x1.1 == (3 : Int)) then
        (bif decide (0 ≤ x1.2) then
          (bif decide (x1.2 ≤ (x0.length : Int)) then
            ((i_reversed k ((x0.take x1.2.toNat).drop 0)).bind fun y4 =>
            bif decide (0 ≤ x1.2) then
              (bif decide (x1.2 ≤ (x0.length : Int)) then
                (bif decide ((x0.length : Int) ≤ (x0.length : Int)) then
                  ((slices_Concat_int k [y4, ((x0.take ((x0.length : Int)).toNat).drop x1.2.toNat)]).bind fun y5 =>
                  i_moved_l10 k x1.2 (0 : Int) y5)
                else (none))
              else (none))
            else (none))
          else (none))
        else (none))
      else (bif (x1.1 == (4 : Int)) then
          ((i_faro k (x0, x1.2)).bind fun y6 =>
          some y6)
        else (bif (x1.1 == (5 : Int)) then
            ((i_monge k (x0, x1.2)).bind fun y7 =>
            some y7)
          else (bif (x1.1 == (6 : Int)) then
              ((i_milk k x0).bind fun y8 =>
              some y8)
            else (bif (x1.1 == (7 : Int)) then
                ((i_dealt k (x0, x1.2)).bind fun y9 =>
                (i_reversed k y9).bind fun y10 =>
                some y10)
              else (bif (x1.1 == (8 : Int)) then
                  ((slices_Clone_int k x0).bind fun y11 =>
                  bif decide (0 ≤ x1.2) then
                    (bif decide (x1.2 < (y11.length : Int)) then
                      (bif decide (x1.2.toNat < y11.length) then
                        ((i_TurnCard k (y11.getD x1.2.toNat (0 : Int))).bind fun y12 =>
                        bif decide (0 ≤ x1.2) then
                          (bif decide (x1.2 < (y11.length : Int)) then
                            (bif decide (x1.2.toNat < y11.length) then
                              (some (y11.set x1.2.toNat y12))
                            else (none))
                          else (none))
                        else (none))
                      else (none))
                    else (none))
                  else (none))
                else (bif decide (0 ≤ x1.2) then
                    (bif decide (x1.2 ≤ (x0.length : Int)) then
                      (bif decide (0 ≤ (IntKind.i64.wrap (x1.2 + (1 : Int)))) then
                        (bif decide ((IntKind.i64.wrap (x1.2 + (1 : Int))) ≤ (x0.length : Int)) then
                          (bif decide ((x0.length : Int) ≤ (x0.length : Int)) then
                            (bif decide (0 ≤ x1.2) then
                              (bif decide (x1.2 ≤ (IntKind.i64.wrap (x1.2 + (1 : Int)))) then
                                (bif decide ((IntKind.i64.wrap (x1.2 + (1 : Int))) ≤ (x0.length : Int)) then
                                  ((slices_Concat_int k [((x0.take x1.2.toNat).drop 0), ((x0.take ((x0.length : Int)).toNat).drop (IntKind.i64.wrap (x1.2 + (1 : Int))).toNat), ((x0.take (IntKind.i64.wrap (x1.2 + (1 : Int))).toNat).drop x1.2.toNat)]).bind fun y13 =>
                                  some y13)
                                else (none))
                              else (none))
                            else (none))
                          else (none))
                        else (none))
                      else (none))
                    else (none))
                  else (none))))))))) := by kernel_rfl
theorem i_moved_l10_eq (k : Nat) (v5 : Int) (v7 : Int) (o100006 : List Int) : i_moved_l10 (k + 1) v5 v7 o100006 =
  bif decide (v7 < v5) then
    (bif decide (0 ≤ v7) then
      (bif decide (v7 < (o100006.length : Int)) then
        (bif decide (v7.toNat < o100006.length) then
          ((i_TurnCard k (o100006.getD v7.toNat (0 : Int))).bind fun y1 =>
          bif decide (0 ≤ v7) then
            (bif decide (v7 < (o100006.length : Int)) then
              (bif decide (v7.toNat < o100006.length) then
                (i_moved_l10 k v5 (IntKind.i64.wrap (v7 + (1 : Int))) (o100006.set v7.toNat y1))
              else (none))
            else (none))
          else (none))
        else (none))
      else (none))
    else (none))
  else (some o100006) := by kernel_rfl
theorem i_cuts_eq (k : Nat) (x0 : List Int) : i_cuts (k + 1) x0 =
  i_cuts_l3 k x0 (x0.length : Int) (0 : Int) [] := by kernel_rfl
theorem i_cuts_l3_eq (k : Nat) (v0 : List Int) (v6 : Int) (v7 : Int) (o100003 : List (List Int)) : i_cuts_l3 (k + 1) v0 v6 v7 o100003 =
  bif decide (v7 < v6) then
    ((i_moved k (v0, ((1 : Int), v7))).bind fun y1 =>
    bif decide (o100003.length + [y1].length ≤ rowMax) then
      (i_cuts_l3 k v0 v6 (IntKind.i64.wrap (v7 + (1 : Int))) (o100003 ++ [y1]))
    else (none))
  else (some o100003) := by kernel_rfl
theorem i_riffled_eq (k : Nat) (x0 : List Int) (x1 : Int) : i_riffled (k + 1) (x0, x1) =
  i_riffled_l3 k x0 x1 (0 : Int) (0 : Int) (x0.length : Int) (0 : Int) := by kernel_rfl
theorem i_riffled_l3_eq (k : Nat) (v0 : List Int) (v1 : Int) (v5 : Int) (v6 : Int) (v11 : Int) (v12 : Int) : i_riffled_l3 (k + 1) v0 v1 v5 v6 v11 v12 =
  bif decide (v12 < v11) then
    (bif decide (0 ≤ v12) then
      (i_riffled_l3 k v0 v1 v5 (IntKind.i64.wrap (v6 + (IntKind.i64.wrap ((1 : Int) - (IntKind.i64.wrap (((BitVec.ofInt IntKind.i64.bits (v1.fdiv (2 ^ (min v12.toNat IntKind.i64.bits))) &&& BitVec.ofInt IntKind.i64.bits (1 : Int)).toNat : Int))))))) v11 (IntKind.i64.wrap (v12 + (1 : Int))))
    else (none))
  else (i_riffled_l9 k v0 v1 v5 v6 (v0.length : Int) (0 : Int) []) := by kernel_rfl
theorem i_riffled_l9_eq (k : Nat) (v0 : List Int) (v1 : Int) (v5 : Int) (v6 : Int) (v24 : Int) (v25 : Int) (o100008 : List Int) : i_riffled_l9 (k + 1) v0 v1 v5 v6 v24 v25 o100008 =
  bif decide (v25 < v24) then
    (bif decide (0 ≤ v25) then
      (bif ((IntKind.i64.wrap (((BitVec.ofInt IntKind.i64.bits (v1.fdiv (2 ^ (min v25.toNat IntKind.i64.bits))) &&& BitVec.ofInt IntKind.i64.bits (1 : Int)).toNat : Int))) == (1 : Int)) then
        (bif decide (0 ≤ v6) then
          (bif decide (v6 < (v0.length : Int)) then
            (bif decide (o100008.length + [(v0.getD v6.toNat (0 : Int))].length ≤ rowMax) then
              (i_riffled_l9 k v0 v1 v5 (IntKind.i64.wrap (v6 + (1 : Int))) v24 (IntKind.i64.wrap (v25 + (1 : Int))) (o100008 ++ [(v0.getD v6.toNat (0 : Int))]))
            else (none))
          else (none))
        else (none))
      else (bif decide (0 ≤ v5) then
          (bif decide (v5 < (v0.length : Int)) then
            (bif decide (o100008.length + [(v0.getD v5.toNat (0 : Int))].length ≤ rowMax) then
              (i_riffled_l9 k v0 v1 (IntKind.i64.wrap (v5 + (1 : Int))) v6 v24 (IntKind.i64.wrap (v25 + (1 : Int))) (o100008 ++ [(v0.getD v5.toNat (0 : Int))]))
            else (none))
          else (none))
        else (none)))
    else (none))
  else (some o100008) := by kernel_rfl
theorem i_all_eq (k : Nat) (x0 : List Int) (x1 : Int) : i_all (k + 1) (x0, x1) =
  bif (x1 == (0 : Int)) then
    ((slices_Clone_int k x0).bind fun y1 =>
    some ([y1], true))
  else (bif (x1 == (1 : Int)) then
      ((i_cuts k x0).bind fun y2 =>
      some (y2, true))
    else (bif (x1 == (2 : Int)) then
        (i_all_l9 k x0 (0 : Int) [])
      else (bif (x1 == (3 : Int)) then
          (bif decide ((x0.length : Int) < (2 : Int)) then
            (some ([], false))
          else ((i_moved k (x0, ((3 : Int), (2 : Int)))).bind fun y3 =>
            (i_cuts k y3).bind fun y4 =>
            some (y4, true)))
        else (bif (x1 == (4 : Int)) then
            (i_all_l20 k x0 (x0.length : Int) (0 : Int) [])
          else (some ([], false)))))) := by kernel_rfl
theorem i_all_l9_eq (k : Nat) (v0 : List Int) (v7 : Int) (o100006 : List (List Int)) : i_all_l9 (k + 1) v0 v7 o100006 =
  bif decide (0 ≤ (v0.length : Int)) then
    (bif decide (v7 < (IntKind.i64.wrap ((1 : Int) * 2 ^ (min (v0.length : Int).toNat IntKind.i64.bits)))) then
      ((i_riffled k (v0, v7)).bind fun y1 =>
      bif decide (o100006.length + [y1].length ≤ rowMax) then
        (i_all_l9 k v0 (IntKind.i64.wrap (v7 + (1 : Int))) (o100006 ++ [y1]))
      else (none))
    else (some (o100006, true)))
  else (none) := by kernel_rfl
theorem i_all_l20_eq (k : Nat) (v0 : List Int) (v48 : Int) (v49 : Int) (o100008 : List (List Int)) : i_all_l20 (k + 1) v0 v48 v49 o100008 =
  bif decide (v49 < v48) then
    (bif decide (0 ≤ v49) then
      (bif decide (v49 ≤ (IntKind.i64.wrap (v49 + (1 : Int)))) then
        (bif decide ((IntKind.i64.wrap (v49 + (1 : Int))) ≤ (v0.length : Int)) then
          (bif decide (0 ≤ v49) then
            (bif decide (v49 ≤ (v0.length : Int)) then
              (bif decide (0 ≤ (IntKind.i64.wrap (v49 + (1 : Int)))) then
                (bif decide ((IntKind.i64.wrap (v49 + (1 : Int))) ≤ (v0.length : Int)) then
                  (bif decide ((v0.length : Int) ≤ (v0.length : Int)) then
                    ((slices_Concat_int k [((v0.take (IntKind.i64.wrap (v49 + (1 : Int))).toNat).drop v49.toNat), ((v0.take v49.toNat).drop 0), ((v0.take ((v0.length : Int)).toNat).drop (IntKind.i64.wrap (v49 + (1 : Int))).toNat)]).bind fun y1 =>
                    bif decide (o100008.length + [y1].length ≤ rowMax) then
                      (i_all_l20 k v0 v48 (IntKind.i64.wrap (v49 + (1 : Int))) (o100008 ++ [y1]))
                    else (none))
                  else (none))
                else (none))
              else (none))
            else (none))
          else (none))
        else (none))
      else (none))
    else (none))
  else (some (o100008, true)) := by kernel_rfl
theorem slices_SortFunc_int_int_eq (k : Nat) (x0 : List (List Int)) (x1 : Bool) : slices_SortFunc_int_int k (x0, x1) = (fun a _ => sortF a) x0 x1 := by kernel_rfl
theorem slices_CompactFunc_int_int_eq (k : Nat) (x0 : List (List Int)) (x1 : Bool) : slices_CompactFunc_int_int k (x0, x1) = (fun a _ => compactF a) x0 x1 := by kernel_rfl
theorem i_SortPackets_eq (k : Nat) (x0 : List (List Int)) : i_SortPackets (k + 1) x0 =
  i_SortPackets_l3 k x0 (x0.length : Int) (0 : Int) [] := by kernel_rfl
theorem i_SortPackets_l3_eq (k : Nat) (v6 : List (List Int)) (v7 : Int) (v8 : Int) (o100003 : List (List Int)) : i_SortPackets_l3 (k + 1) v6 v7 v8 o100003 =
  bif decide (v8 < v7) then
    (bif decide (0 ≤ v8) then
      (bif decide (v8 < (v6.length : Int)) then
        ((slices_Clone_int k (v6.getD v8.toNat [])).bind fun y1 =>
        bif decide (o100003.length + [y1].length ≤ rowMax) then
          (i_SortPackets_l3 k v6 v7 (IntKind.i64.wrap (v8 + (1 : Int))) (o100003 ++ [y1]))
        else (none))
      else (none))
    else (none))
  else ((slices_SortFunc_int_int k (o100003, false)).bind fun y2 =>
    (slices_CompactFunc_int_int k (y2.2, false)).bind fun y3 =>
    some y3) := by kernel_rfl
theorem i_ResultsOf_eq (k : Nat) (x0 : List Int) (x1 : Int) : i_ResultsOf (k + 1) (x0, x1) =
  (i_PacketOk k x0).bind fun y1 =>
  bif (!y1) then
    (some ([], false))
  else (bif ((x0.length : Int) == (0 : Int)) then
      (some ([], false))
    else ((i_all k (x0, x1)).bind fun y2 =>
      (i_SortPackets k y2.1).bind fun y3 =>
      bif (!y2.2) then
        (some ([], false))
      else (bif decide ((y3.length : Int) > (3000 : Int)) then
          (some ([], false))
        else (some (y3, true))))) := by kernel_rfl
theorem i_NextScenes_eq (k : Nat) (x0 : (List Int) × Int) (x1 : Int × (Int × Int) × Int) : i_NextScenes (k + 1) (x0, x1) =
  (i_PacketOk k x0.1).bind fun y1 =>
  bif (!y1) then
    (some [])
  else (bif decide (x0.2 < (-1 : Int)) then
      (some [])
    else (bif decide (x0.2 ≥ (12 : Int)) then
        (some [])
      else ((i_StepOk k ((x0.1.length : Int), x1)).bind fun y2 =>
        bif (!y2) then
          (some [])
        else (bif (x1.1 == (1 : Int)) then
            ((i_moved k (x0.1, x1.2.1)).bind fun y3 =>
            some [(y3, x0.2)])
          else (bif (x1.1 == (3 : Int)) then
              ((slices_Clone_int k x0.1).bind fun y4 =>
              bif decide (0 ≤ x1.2.2) then
                (bif decide (x1.2.2 < (x0.1.length : Int)) then
                  ((i_CardOf k (x0.1.getD x1.2.2.toNat (0 : Int))).bind fun y5 =>
                  some [(y4, y5)])
                else (none))
              else (none))
            else ((i_ResultsOf k (x0.1, x1.2.2)).bind fun y6 =>
              i_NextScenes_l11 k (y6.1.length : Int) (0 : Int) x0.1 x0.2 [] y6.1 0)))))) := by kernel_rfl
theorem i_NextScenes_l11_eq (k : Nat) (v68 : Int) (v69 : Int) (o200002_0 : List Int) (o200002_1 : Int) (o100005 : List ((List Int) × Int)) (o440067 : List (List Int)) (o440067_n : Nat) : i_NextScenes_l11 (k + 1) v68 v69 o200002_0 o200002_1 o100005 o440067 o440067_n =
  bif decide (v69 < v68) then
    (bif decide (0 ≤ v69) then
      (bif decide (v69 < (o440067.length : Int)) then
        (bif decide (v69.toNat < o440067.length) then
          (bif (Nat.beq v69.toNat o440067_n) then
            (bif decide (o100005.length + ([((o440067.getD v69.toNat []), o200002_1)]).length ≤ rowMax) then
              (i_NextScenes_l11 k v68 (IntKind.i64.wrap (v69 + (1 : Int))) o200002_0 o200002_1 (o100005 ++ ([((o440067.getD v69.toNat []), o200002_1)])) o440067 (o440067_n + 1))
            else (none))
          else (none))
        else (none))
      else (none))
    else (none))
  else (some o100005) := by kernel_rfl
theorem strconv_Itoa_eq (k : Nat) (x0 : Int) : strconv_Itoa k x0 = itoaF x0 := by kernel_rfl
theorem i_FormatInt_eq (k : Nat) (x0 : Int) : i_FormatInt (k + 1) x0 =
  (strconv_Itoa k x0).bind fun y1 =>
  some y1 := by kernel_rfl
theorem i_numbersOf_eq (k : Nat) (x0 : List Int) : i_numbersOf (k + 1) x0 =
  i_numbersOf_l3 k x0 (x0.length : Int) (0 : Int) [] := by kernel_rfl
theorem i_numbersOf_l3_eq (k : Nat) (v6 : List Int) (v7 : Int) (v8 : Int) (o100003 : List ByteArray) : i_numbersOf_l3 (k + 1) v6 v7 v8 o100003 =
  bif decide (v8 < v7) then
    (bif decide (0 ≤ v8) then
      (bif decide (v8 < (v6.length : Int)) then
        ((i_FormatInt k (v6.getD v8.toNat (0 : Int))).bind fun y1 =>
        bif decide (o100003.length + [y1].length ≤ rowMax) then
          (i_numbersOf_l3 k v6 v7 (IntKind.i64.wrap (v8 + (1 : Int))) (o100003 ++ [y1]))
        else (none))
      else (none))
    else (none))
  else (some o100003) := by kernel_rfl
theorem strings_Join_eq (k : Nat) (x0 : List ByteArray) (x1 : ByteArray) : strings_Join k (x0, x1) = joinF x0 x1 := by kernel_rfl
theorem i_Join_eq (k : Nat) (x0 : List ByteArray) (x1 : ByteArray) : i_Join (k + 1) (x0, x1) =
  (strings_Join k (x0, x1)).bind fun y1 =>
  some y1 := by kernel_rfl
theorem i_FormatPicks_eq (k : Nat) (x0 : List Int) : i_FormatPicks (k + 1) x0 =
  bif ((x0.length : Int) == (0 : Int)) then
    (some (⟨#[45]⟩ : ByteArray))
  else ((i_numbersOf k x0).bind fun y1 =>
    (i_Join k (y1, (⟨#[44]⟩ : ByteArray))).bind fun y2 =>
    some y2) := by kernel_rfl
theorem i_keyOf_eq (k : Nat) (x0 : (List Int) × Int) : i_keyOf (k + 1) x0 =
  (i_FormatPicks k x0.1).bind fun y1 =>
  bif decide (y1.size + (⟨#[47]⟩ : ByteArray).size ≤ 9223372036854775807) then
    ((i_FormatInt k x0.2).bind fun y2 =>
    bif decide ((y1 ++ (⟨#[47]⟩ : ByteArray)).size + y2.size ≤ 9223372036854775807) then
      (some ((y1 ++ (⟨#[47]⟩ : ByteArray)) ++ y2))
    else (none))
  else (none) := by kernel_rfl
theorem i_levels_eq (k : Nat) (x0 : (List Int) × (List (Int × (Int × Int) × Int)) × Int × Int × Int) : i_levels (k + 1) x0 =
  (i_StartScene k x0).bind fun y1 =>
  i_levels_l4 k x0.2.1 (x0.2.1.length : Int) (0 : Int) ([[(y1.1, y1.2.1)]]) := by kernel_rfl
theorem i_levels_l4_eq (k : Nat) (v25 : List (Int × (Int × Int) × Int)) (v26 : Int) (v27 : Int) (o450006 : List (List ((List Int) × Int))) : i_levels_l4 (k + 1) v25 v26 v27 o450006 =
  bif decide (v27 < v26) then
    (bif decide (0 ≤ v27) then
      (bif decide (v27 < (v25.length : Int)) then
        (bif decide (0 ≤ v27) then
          (bif decide (v27 < (o450006.length : Int)) then
            (bif decide (v27.toNat < o450006.length) then
              (i_levels_l9 k v25 v26 v27 ((o450006.getD v27.toNat []).length : Int) (0 : Int) o450006 v27.toNat ((v25.getD v27.toNat ((0 : Int), (((0 : Int), (0 : Int)), (0 : Int)))).1) ((((v25.getD v27.toNat ((0 : Int), (((0 : Int), (0 : Int)), (0 : Int)))).2).1).1) ((((v25.getD v27.toNat ((0 : Int), (((0 : Int), (0 : Int)), (0 : Int)))).2).1).2) (((v25.getD v27.toNat ((0 : Int), (((0 : Int), (0 : Int)), (0 : Int)))).2).2) ([] : List ByteArray) [] (o450006.getD v27.toNat []))
            else (none))
          else (none))
        else (none))
      else (none))
    else (none))
  else (some (o450006, true)) := by kernel_rfl
theorem i_levels_l9_eq (k : Nat) (v25 : List (Int × (Int × Int) × Int)) (v26 : Int) (v27 : Int) (v37 : Int) (v38 : Int) (o420006 : List (List ((List Int) × Int))) (o420006_i : Nat) (o200008_0 : Int) (o200008_1 : Int) (o200008_2 : Int) (o200008_3 : Int) (o430009 : List ByteArray) (o450010 : List ((List Int) × Int)) (o450036 : List ((List Int) × Int)) : i_levels_l9 (k + 1) v25 v26 v27 v37 v38 o420006 o420006_i o200008_0 o200008_1 o200008_2 o200008_3 o430009 o450010 o450036 =
  bif decide (v38 < v37) then
    (bif decide (0 ≤ v38) then
      (bif decide (v38 < (o450036.length : Int)) then
        (bif decide (v38.toNat < o450036.length) then
          ((i_NextScenes k ((o450036.getD v38.toNat ([], (0 : Int))), (o200008_0, ((o200008_1, o200008_2), o200008_3)))).bind fun y1 =>
          i_levels_l12 k v25 v26 v27 v37 v38 (y1.length : Int) (0 : Int) o420006 o420006_i o200008_0 o200008_1 o200008_2 o200008_3 o430009 o450010 (o450036.set v38.toNat (o450036.getD v38.toNat ([], (0 : Int)))) y1 0)
        else (none))
      else (none))
    else (none))
  else (bif decide ((o420006.set o420006_i o450036).length + [o450010].length ≤ rowMax) then
      (i_levels_l4 k v25 v26 (IntKind.i64.wrap (v27 + (1 : Int))) ((o420006.set o420006_i o450036) ++ [o450010]))
    else (none)) := by kernel_rfl
theorem i_levels_l12_eq (k : Nat) (v25 : List (Int × (Int × Int) × Int)) (v26 : Int) (v27 : Int) (v37 : Int) (v38 : Int) (v45 : Int) (v46 : Int) (o420006 : List (List ((List Int) × Int))) (o420006_i : Nat) (o200008_0 : Int) (o200008_1 : Int) (o200008_2 : Int) (o200008_3 : Int) (o430009 : List ByteArray) (o450010 : List ((List Int) × Int)) (o450036 : List ((List Int) × Int)) (o440044 : List ((List Int) × Int)) (o440044_n : Nat) : i_levels_l12 (k + 1) v25 v26 v27 v37 v38 v45 v46 o420006 o420006_i o200008_0 o200008_1 o200008_2 o200008_3 o430009 o450010 o450036 o440044 o440044_n =
  bif decide (v46 < v45) then
    (bif decide (0 ≤ v46) then
      (bif decide (v46 < (o440044.length : Int)) then
        (bif decide (v46.toNat < o440044.length) then
          (bif (Nat.beq v46.toNat o440044_n) then
            ((i_keyOf k (o440044.getD v46.toNat ([], (0 : Int)))).bind fun y1 =>
            bif (!(mpHas o430009 y1)) then
              (bif decide (o450010.length + ([(o440044.getD v46.toNat ([], (0 : Int)))]).length ≤ rowMax) then
                (i_levels_l12 k v25 v26 v27 v37 v38 v45 (IntKind.i64.wrap (v46 + (1 : Int))) o420006 o420006_i o200008_0 o200008_1 o200008_2 o200008_3 (bif mpHas o430009 y1 then o430009 else o430009 ++ [y1]) (o450010 ++ ([(o440044.getD v46.toNat ([], (0 : Int)))])) o450036 o440044 (o440044_n + 1))
              else (none))
            else (i_levels_l12 k v25 v26 v27 v37 v38 v45 (IntKind.i64.wrap (v46 + (1 : Int))) o420006 o420006_i o200008_0 o200008_1 o200008_2 o200008_3 o430009 o450010 o450036 o440044 (o440044_n + 1)))
          else (none))
        else (none))
      else (none))
    else (none))
  else (bif decide ((o450010.length : Int) > (3000 : Int)) then
      (some ([], false))
    else (i_levels_l9 k v25 v26 v27 v37 (IntKind.i64.wrap (v38 + (1 : Int))) o420006 o420006_i o200008_0 o200008_1 o200008_2 o200008_3 o430009 o450010 o450036)) := by kernel_rfl
theorem i_AllScenes_eq (k : Nat) (x0 : (List Int) × (List (Int × (Int × Int) × Int)) × Int × Int × Int) : i_AllScenes (k + 1) x0 =
  (i_TrickOk k x0).bind fun y1 =>
  bif (!y1) then
    (some ([], false))
  else ((i_levels k x0).bind fun y2 =>
    bif (!y2.2) then
      (some ([], false))
    else (bif decide (0 ≤ (IntKind.i64.wrap ((y2.1.length : Int) - (1 : Int)))) then
        (bif decide ((IntKind.i64.wrap ((y2.1.length : Int) - (1 : Int))) < (y2.1.length : Int)) then
          (bif decide ((IntKind.i64.wrap ((y2.1.length : Int) - (1 : Int))).toNat < y2.1.length) then
            (some ((y2.1.getD (IntKind.i64.wrap ((y2.1.length : Int) - (1 : Int))).toNat []), true))
          else (none))
        else (none))
      else (none))) := by kernel_rfl
theorem i_CountChoices_eq (k : Nat) (x0 : (List Int) × (List (Int × (Int × Int) × Int)) × Int × Int × Int) : i_CountChoices (k + 1) x0 =
  (i_TrickOk k x0).bind fun y1 =>
  bif (!y1) then
    (some (-1 : Int))
  else (i_CountChoices_l5 k (0 : Int) x0.2.1 (x0.2.1.length : Int) (0 : Int)) := by kernel_rfl
theorem i_CountChoices_l5_eq (k : Nat) (v3 : Int) (v10 : List (Int × (Int × Int) × Int)) (v11 : Int) (v12 : Int) : i_CountChoices_l5 (k + 1) v3 v10 v11 v12 =
  bif decide (v12 < v11) then
    (bif decide (0 ≤ v12) then
      (bif decide (v12 < (v10.length : Int)) then
        (bif (((v10.getD v12.toNat ((0 : Int), (((0 : Int), (0 : Int)), (0 : Int)))).1) == (2 : Int)) then
          (i_CountChoices_l5 k (IntKind.i64.wrap (v3 + (1 : Int))) v10 v11 (IntKind.i64.wrap (v12 + (1 : Int))))
        else (i_CountChoices_l5 k v3 v10 v11 (IntKind.i64.wrap (v12 + (1 : Int)))))
      else (none))
    else (none))
  else (some v3) := by kernel_rfl
theorem i_CountEnds_eq (k : Nat) (x0 : (List Int) × (List (Int × (Int × Int) × Int)) × Int × Int × Int) : i_CountEnds (k + 1) x0 =
  (i_AllScenes k x0).bind fun y1 =>
  bif (!y1.2) then
    (some (-1 : Int))
  else (some (y1.1.length : Int)) := by kernel_rfl
theorem s_l23New_eq (k : Nat) (x0 : List Int) (x1 : Int) : s_l23New (k + 1) (x0, x1) =
  (s_l01New k x0).bind fun y1 =>
  s_l23New_l3 k x1 (0 : Int) y1.1 y1.2.1 y1.2.2 := by kernel_rfl
theorem s_l23New_l3_eq (k : Nat) (v1 : Int) (v6 : Int) (o200005_0 : List Int) (o200005_1 : Int) (o200005_2 : Int) : s_l23New_l3 (k + 1) v1 v6 o200005_0 o200005_1 o200005_2 =
  bif decide (v6 < v1) then
    ((s_l01Byte k (o200005_0, (o200005_1, o200005_2))).bind fun y1 =>
    s_l23New_l3 k v1 (IntKind.i64.wrap (v6 + (1 : Int))) y1.2.1 y1.2.2.1 y1.2.2.2)
  else (some (o200005_0, (o200005_1, o200005_2))) := by kernel_rfl
theorem s_MakeNum_eq (k : Nat) (x0 : List Int) (x1 : Int) : s_MakeNum (k + 1) (x0, x1) =
  (s_l23New k (x0, x1)).bind fun y1 =>
  (s_l01Byte k y1).bind fun y2 =>
  (s_l01Byte k y2.2).bind fun y3 =>
  some (IntKind.i64.wrap ((IntKind.i64.wrap (y2.1 * (256 : Int))) + y3.1)) := by kernel_rfl
theorem i_RunTrick_eq (k : Nat) (x0 : (List Int) × (List (Int × (Int × Int) × Int)) × Int × Int × Int) (x1 : List Int) : i_RunTrick (k + 1) (x0, x1) =
  (i_StartScene k x0).bind fun y1 =>
  bif (!y1.2.2) then
    (some ([], ((0 : Int), false)))
  else ((i_CountChoices k x0).bind fun y2 =>
    bif (!((x1.length : Int) == y2)) then
      (some ([], ((0 : Int), false)))
    else (i_RunTrick_l5 k x1 x0.2.1 (x0.2.1.length : Int) (0 : Int) (0 : Int) y1.2.1 y1.1)) := by kernel_rfl
theorem i_RunTrick_l5_eq (k : Nat) (v1 : List Int) (v28 : List (Int × (Int × Int) × Int)) (v29 : Int) (v30 : Int) (o200004_1 : Int) (o200006_1 : Int) (o300600 : List Int) : i_RunTrick_l5 (k + 1) v1 v28 v29 v30 o200004_1 o200006_1 o300600 =
  bif decide (v30 < v29) then
    (bif decide (0 ≤ v30) then
      (bif decide (v30 < (v28.length : Int)) then
        (bif (((v28.getD v30.toNat ((0 : Int), (((0 : Int), (0 : Int)), (0 : Int)))).1) == (2 : Int)) then
          (bif decide ((0 : Int) < (v1.length : Int)) then
            (bif decide ((1 : Int) ≤ (v1.length : Int)) then
              (bif decide ((v1.length : Int) ≤ (v1.length : Int)) then
                ((i_NextScenes k ((o300600, o200006_1), ((v28.getD v30.toNat ((0 : Int), (((0 : Int), (0 : Int)), (0 : Int)))).1, ((((v28.getD v30.toNat ((0 : Int), (((0 : Int), (0 : Int)), (0 : Int)))).2).1), ((v28.getD v30.toNat ((0 : Int), (((0 : Int), (0 : Int)), (0 : Int)))).2).2)))).bind fun y1 =>
                bif decide ((v1.getD 0 (0 : Int)) < (0 : Int)) then
                  (some ([], ((0 : Int), false)))
                else (bif decide ((v1.getD 0 (0 : Int)) ≥ (y1.length : Int)) then
                    (some ([], ((0 : Int), false)))
                  else (bif decide (0 ≤ (v1.getD 0 (0 : Int))) then
                      (bif decide ((v1.getD 0 (0 : Int)) < (y1.length : Int)) then
                        (bif decide ((v1.getD 0 (0 : Int)).toNat < y1.length) then
                          (i_RunTrick_l5 k ((v1.take ((v1.length : Int)).toNat).drop 1) v28 v29 (IntKind.i64.wrap (v30 + (1 : Int))) o200004_1 ((y1.getD (v1.getD 0 (0 : Int)).toNat ([], (0 : Int))).2) ((y1.getD (v1.getD 0 (0 : Int)).toNat ([], (0 : Int))).1))
                        else (none))
                      else (none))
                    else (none))))
              else (none))
            else (none))
          else (none))
        else ((i_NextScenes k ((o300600, o200006_1), ((v28.getD v30.toNat ((0 : Int), (((0 : Int), (0 : Int)), (0 : Int)))).1, ((((v28.getD v30.toNat ((0 : Int), (((0 : Int), (0 : Int)), (0 : Int)))).2).1), ((v28.getD v30.toNat ((0 : Int), (((0 : Int), (0 : Int)), (0 : Int)))).2).2)))).bind fun y2 =>
          bif decide ((0 : Int) ≥ (y2.length : Int)) then
            (some ([], ((0 : Int), false)))
          else (bif decide ((0 : Int) < (y2.length : Int)) then
              (bif decide (0 < y2.length) then
                (i_RunTrick_l5 k v1 v28 v29 (IntKind.i64.wrap (v30 + (1 : Int))) o200004_1 ((y2.getD 0 ([], (0 : Int))).2) ((y2.getD 0 ([], (0 : Int))).1))
              else (none))
            else (none))))
      else (none))
    else (none))
  else (some (o300600, (o200006_1, true))) := by kernel_rfl
theorem slices_Equal_int_eq (k : Nat) (x0 : List Int) (x1 : List Int) : slices_Equal_int (k + 1) (x0, x1) =
  bif (!((x0.length : Int) == (x1.length : Int))) then
    (some false)
  else (slices_Equal_int_l4 k x0 x1 (x0.length : Int) (0 : Int)) := by kernel_rfl
theorem slices_Equal_int_l4_eq (k : Nat) (v0 : List Int) (v1 : List Int) (v12 : Int) (v13 : Int) : slices_Equal_int_l4 (k + 1) v0 v1 v12 v13 =
  bif decide (v13 < v12) then
    (bif decide (0 ≤ v13) then
      (bif decide (v13 < (v0.length : Int)) then
        (bif decide (0 ≤ v13) then
          (bif decide (v13 < (v1.length : Int)) then
            (bif (!((v0.getD v13.toNat (0 : Int)) == (v1.getD v13.toNat (0 : Int)))) then
              (some false)
            else (slices_Equal_int_l4 k v0 v1 v12 (IntKind.i64.wrap (v13 + (1 : Int)))))
          else (none))
        else (none))
      else (none))
    else (none))
  else (some true) := by kernel_rfl
theorem i_SameScene_eq (k : Nat) (x0 : (List Int) × Int) (x1 : (List Int) × Int) : i_SameScene (k + 1) (x0, x1) =
  (slices_Equal_int k (x0.1, x1.1)).bind fun y1 =>
  bif y1 then
    (some (x0.2 == x1.2))
  else (some false) := by kernel_rfl
theorem i_IsArrangement_1_eq (k : Nat) (x0 : Int) (x1 : List Int) : i_IsArrangement_1 (k + 1) (x0, x1) =
  (i_CardOf k x0).bind fun y1 =>
  (i_PositionOf k (x1, y1)).bind fun y2 =>
  some (decide (y2 < (0 : Int))) := by kernel_rfl
theorem slices_IndexFunc_int_of_i_IsArrangement_1_eq (k : Nat) (x0 : List Int) (x1 : List Int) : slices_IndexFunc_int_of_i_IsArrangement_1 (k + 1) (x0, x1) =
  slices_IndexFunc_int_of_i_IsArrangement_1_l2 k x0 x1 (x0.length : Int) (0 : Int) := by kernel_rfl
theorem slices_IndexFunc_int_of_i_IsArrangement_1_l2_eq (k : Nat) (v0 : List Int) (v1_0_0 : List Int) (v7 : Int) (v8 : Int) : slices_IndexFunc_int_of_i_IsArrangement_1_l2 (k + 1) v0 v1_0_0 v7 v8 =
  bif decide (v8 < v7) then
    (bif decide (0 ≤ v8) then
      (bif decide (v8 < (v0.length : Int)) then
        ((i_IsArrangement_1 k ((v0.getD v8.toNat (0 : Int)), v1_0_0)).bind fun y1 =>
        bif y1 then
          (some v8)
        else (slices_IndexFunc_int_of_i_IsArrangement_1_l2 k v0 v1_0_0 v7 (IntKind.i64.wrap (v8 + (1 : Int)))))
      else (none))
    else (none))
  else (some (-1 : Int)) := by kernel_rfl
theorem slices_ContainsFunc_int_of_i_IsArrangement_1_eq (k : Nat) (x0 : List Int) (x1 : List Int) : slices_ContainsFunc_int_of_i_IsArrangement_1 (k + 1) (x0, x1) =
  (slices_IndexFunc_int_of_i_IsArrangement_1 k (x0, x1)).bind fun y1 =>
  some (decide (y1 ≥ (0 : Int))) := by kernel_rfl
theorem i_IsArrangement_eq (k : Nat) (x0 : List Int) (x1 : List Int) : i_IsArrangement (k + 1) (x0, x1) =
  (i_PacketOk k x0).bind fun y1 =>
  bif (!y1) then
    (some false)
  else ((i_PacketOk k x1).bind fun y2 =>
    bif (!y2) then
      (some false)
    else (bif (!((x0.length : Int) == (x1.length : Int))) then
        (some false)
      else ((slices_ContainsFunc_int_of_i_IsArrangement_1 k (x0, x1)).bind fun y3 =>
        some (!y3)))) := by kernel_rfl
theorem w_same_eq (k : Nat) (x0 : List Int) (x1 : List Int) : w_same (k + 1) (x0, x1) =
  bif (!((x0.length : Int) == (x1.length : Int))) then
    (some false)
  else (w_same_l4 k x1 x0 (x0.length : Int) (0 : Int)) := by kernel_rfl
theorem w_same_l4_eq (k : Nat) (v1 : List Int) (v12 : List Int) (v13 : Int) (v14 : Int) : w_same_l4 (k + 1) v1 v12 v13 v14 =
  bif decide (v14 < v13) then
    (bif decide (0 ≤ v14) then
      (bif decide (v14 < (v12.length : Int)) then
        (bif decide (0 ≤ v14) then
          (bif decide (v14 < (v1.length : Int)) then
            (bif (!((v12.getD v14.toNat (0 : Int)) == (v1.getD v14.toNat (0 : Int)))) then
              (some false)
            else (w_same_l4 k v1 v12 v13 (IntKind.i64.wrap (v14 + (1 : Int)))))
          else (none))
        else (none))
      else (none))
    else (none))
  else (some true) := by kernel_rfl
theorem w_FnRuns_eq (k : Nat) (x0 : List Int) : w_FnRuns (k + 1) x0 =
  bif decide ((x0.length : Int) > (1048576 : Int)) then
    (some true)
  else ((s_MakeTrick k x0).bind fun y1 =>
    (i_AllScenes k y1).bind fun y2 =>
    (i_CountChoices k y1).bind fun y3 =>
    bif (!y2.2) then
      (some false)
    else (bif ((y2.1.length : Int) == (0 : Int)) then
        (some false)
      else (bif decide (y3 < (0 : Int)) then
          (some false)
        else ((i_CountEnds k y1).bind fun y4 =>
          bif (!(y4 == (y2.1.length : Int))) then
            (some false)
          else (w_FnRuns_l10 k x0 y3 (0 : Int) y1.2.2.1 y1.2.2.2.1 y1.2.2.2.2 y1.1 y1.2.1 y2.1 ([] : List Int)))))) := by kernel_rfl
theorem w_FnRuns_l10_eq (k : Nat) (v0 : List Int) (v6 : Int) (v8 : Int) (o200003_2 : Int) (o200003_3 : Int) (o200003_4 : Int) (o300300 : List Int) (o300301 : List (Int × (Int × Int) × Int)) (o100004 : List ((List Int) × Int)) (o100007 : List Int) : w_FnRuns_l10 (k + 1) v0 v6 v8 o200003_2 o200003_3 o200003_4 o300300 o300301 o100004 o100007 =
  bif decide (v8 < v6) then
    (bif decide (v8 < (12 : Int)) then
      ((s_MakeNum k (v0, (IntKind.i64.wrap ((40 : Int) + v8)))).bind fun y1 =>
      bif decide (o100007.length + [(y1.tmod (2 : Int))].length ≤ rowMax) then
        (w_FnRuns_l10 k v0 v6 (IntKind.i64.wrap (v8 + (1 : Int))) o200003_2 o200003_3 o200003_4 o300300 o300301 o100004 (o100007 ++ [(y1.tmod (2 : Int))]))
      else (none))
    else ((i_RunTrick k ((o300300, (o300301, (o200003_2, (o200003_3, o200003_4)))), o100007)).bind fun y2 =>
      bif y2.2.2 then
        (w_FnRuns_l17 k o100004 false o100004 (o100004.length : Int) (0 : Int) o200003_2 o200003_3 o200003_4 o300300 o300301 y2.2.1 y2.1)
      else (w_FnRuns_l24 k o100004 o100004 (o100004.length : Int) (0 : Int) o200003_2 o200003_3 o200003_4 o300300 o300301)))
  else ((i_RunTrick k ((o300300, (o300301, (o200003_2, (o200003_3, o200003_4)))), o100007)).bind fun y3 =>
    bif y3.2.2 then
      (w_FnRuns_l17 k o100004 false o100004 (o100004.length : Int) (0 : Int) o200003_2 o200003_3 o200003_4 o300300 o300301 y3.2.1 y3.1)
    else (w_FnRuns_l24 k o100004 o100004 (o100004.length : Int) (0 : Int) o200003_2 o200003_3 o200003_4 o300300 o300301)) := by kernel_rfl
theorem w_FnRuns_l17_eq (k : Nat) (v4 : List ((List Int) × Int)) (v11 : Bool) (v74 : List ((List Int) × Int)) (v75 : Int) (v76 : Int) (o200003_2 : Int) (o200003_3 : Int) (o200003_4 : Int) (o300300 : List Int) (o300301 : List (Int × (Int × Int) × Int)) (o200009_1 : Int) (o300900 : List Int) : w_FnRuns_l17 (k + 1) v4 v11 v74 v75 v76 o200003_2 o200003_3 o200003_4 o300300 o300301 o200009_1 o300900 =
  bif decide (v76 < v75) then
    (bif decide (0 ≤ v76) then
      (bif decide (v76 < (v74.length : Int)) then
        (bif v11 then
          (w_FnRuns_l17 k v4 true v74 v75 (IntKind.i64.wrap (v76 + (1 : Int))) o200003_2 o200003_3 o200003_4 o300300 o300301 o200009_1 o300900)
        else ((i_SameScene k ((v74.getD v76.toNat ([], (0 : Int))), (o300900, o200009_1))).bind fun y1 =>
          w_FnRuns_l17 k v4 y1 v74 v75 (IntKind.i64.wrap (v76 + (1 : Int))) o200003_2 o200003_3 o200003_4 o300300 o300301 o200009_1 o300900))
      else (none))
    else (none))
  else (bif (!v11) then
      (some false)
    else (w_FnRuns_l24 k v4 v4 (v4.length : Int) (0 : Int) o200003_2 o200003_3 o200003_4 o300300 o300301)) := by kernel_rfl
theorem w_FnRuns_l24_eq (k : Nat) (v4 : List ((List Int) × Int)) (v89 : List ((List Int) × Int)) (v90 : Int) (v91 : Int) (o200003_2 : Int) (o200003_3 : Int) (o200003_4 : Int) (o300300 : List Int) (o300301 : List (Int × (Int × Int) × Int)) : w_FnRuns_l24 (k + 1) v4 v89 v90 v91 o200003_2 o200003_3 o200003_4 o300300 o300301 =
  bif decide (v91 < v90) then
    (bif decide (0 ≤ v91) then
      (bif decide (v91 < (v89.length : Int)) then
        ((i_IsArrangement k (o300300, (v89.getD v91.toNat ([], (0 : Int))).1)).bind fun y1 =>
        bif (!y1) then
          (some false)
        else (w_FnRuns_l29 k v4 v91 (0 : Int) v89 v90 v91 o200003_2 o200003_3 o200003_4 o300300 o300301 ((v89.getD v91.toNat ([], (0 : Int))).1) ((v89.getD v91.toNat ([], (0 : Int))).2)))
      else (none))
    else (none))
  else ((i_StartScene k (o300300, (o300301, (o200003_2, (o200003_3, o200003_4))))).bind fun y2 =>
    bif y2.2.2 then
      ((w_same k (y2.1, o300300)).bind fun y3 =>
      bif y3 then
        (some (y2.2.1 == (-1 : Int)))
      else (some false))
    else (some false)) := by kernel_rfl
theorem w_FnRuns_l29_eq (k : Nat) (v4 : List ((List Int) × Int)) (v14 : Int) (v16 : Int) (v89 : List ((List Int) × Int)) (v90 : Int) (v91 : Int) (o200003_2 : Int) (o200003_3 : Int) (o200003_4 : Int) (o300300 : List Int) (o300301 : List (Int × (Int × Int) × Int)) (o200015_0 : List Int) (o200015_1 : Int) : w_FnRuns_l29 (k + 1) v4 v14 v16 v89 v90 v91 o200003_2 o200003_3 o200003_4 o300300 o300301 o200015_0 o200015_1 =
  bif decide (v16 < v14) then
    (bif decide (0 ≤ v16) then
      (bif decide (v16 < (v4.length : Int)) then
        ((i_SameScene k ((v4.getD v16.toNat ([], (0 : Int))), (o200015_0, o200015_1))).bind fun y1 =>
        bif y1 then
          (some false)
        else (w_FnRuns_l29 k v4 v14 (IntKind.i64.wrap (v16 + (1 : Int))) v89 v90 v91 o200003_2 o200003_3 o200003_4 o300300 o300301 o200015_0 o200015_1))
      else (none))
    else (none))
  else (w_FnRuns_l24 k v4 v89 v90 (IntKind.i64.wrap (v91 + (1 : Int))) o200003_2 o200003_3 o200003_4 o300300 o300301) := by kernel_rfl

/-! ### the tables are right -/
/-- What holds of the world throughout. -/
abbrev gw : Gw := ⟨fun w => Go.Lib.TabIs Go.Proofs.Tryz.prog w "internal/strconv.uint64pow10" .u64 Go.Lib.pow10Tab, false⟩
theorem ty_3 : TyOk Go.Proofs.Tryz.prog 3 (.one (.int .i64)) := tyOk_int (by kernel_rfl) (by kernel_rfl) (by kernel_rfl)
theorem ty_4 : TyOk Go.Proofs.Tryz.prog 4 (.one (.bool)) := tyOk_bool (by kernel_rfl) (by kernel_rfl) (by kernel_rfl)
theorem ty_5 : TyOk Go.Proofs.Tryz.prog 5 (.one (.int .u8)) := tyOk_int (by kernel_rfl) (by kernel_rfl) (by kernel_rfl)
theorem ty_22 : TyOk Go.Proofs.Tryz.prog 22 (.one (.slice (.int .u8))) := tyOk_slice (e := 5) (by kernel_rfl) (by kernel_rfl) (by kernel_rfl) (elemOk_of (by kernel_rfl) (by kernel_rfl) (by kernel_rfl))
theorem ty_23 : TyOk Go.Proofs.Tryz.prog 23 (.one (.slice (.int .i64))) := tyOk_slice (e := 3) (by kernel_rfl) (by kernel_rfl) (by kernel_rfl) (elemOk_of (by kernel_rfl) (by kernel_rfl) (by kernel_rfl))
theorem ty_24 : TyOk Go.Proofs.Tryz.prog 24 (.one (.slice (.pair (.int .i64) (.pair (.pair (.int .i64) (.int .i64)) (.int .i64))))) := tyOk_slice (e := 51) (by kernel_rfl) (by kernel_rfl) (by kernel_rfl) (elemOk_of (by kernel_rfl) (by kernel_rfl) (by kernel_rfl))
theorem ty_26 : TyOk Go.Proofs.Tryz.prog 26 (.struct [(0, 23), (1, 24), (2, 3), (3, 3), (4, 3)] [.slice (.int .i64), .slice (.pair (.int .i64) (.pair (.pair (.int .i64) (.int .i64)) (.int .i64))), .int .i64, .int .i64, .int .i64] false) := tyOk_struct (fields := Go.Proofs.Tryz.prog.fieldsOf 26) (by kernel_rfl) (by kernel_rfl) (by kernel_rfl) (by kernel_rfl) (by kernel_rfl) (by kernel_rfl) (fun e => by cases e)
theorem ty_28 : TyOk Go.Proofs.Tryz.prog 28 (.one (.slice (.pair (.slice (.int .i64)) (.int .i64)))) := tyOk_slice (e := 34) (by kernel_rfl) (by kernel_rfl) (by kernel_rfl) (elemOk_of (by kernel_rfl) (by kernel_rfl) (by kernel_rfl))
theorem ty_34 : TyOk Go.Proofs.Tryz.prog 34 (.struct [(0, 23), (1, 3)] [.slice (.int .i64), .int .i64] false) := tyOk_struct (fields := Go.Proofs.Tryz.prog.fieldsOf 34) (by kernel_rfl) (by kernel_rfl) (by kernel_rfl) (by kernel_rfl) (by kernel_rfl) (by kernel_rfl) (fun e => by cases e)
theorem ty_45 : TyOk Go.Proofs.Tryz.prog 45 (.one (.slice (.slice (.pair (.slice (.int .i64)) (.int .i64))))) := tyOk_slice (e := 28) (by kernel_rfl) (by kernel_rfl) (by kernel_rfl) (elemOk_of (by kernel_rfl) (by kernel_rfl) (by kernel_rfl))
theorem ty_49 : TyOk Go.Proofs.Tryz.prog 49 (.struct [(0, 3), (1, 3)] [.int .i64, .int .i64] true) := tyOk_struct (fields := Go.Proofs.Tryz.prog.fieldsOf 49) (by kernel_rfl) (by kernel_rfl) (by kernel_rfl) (by kernel_rfl) (by kernel_rfl) (by kernel_rfl) (fun _ => structEq_ok (d := 20) (fields := Go.Proofs.Tryz.prog.fieldsOf 49) (by kernel_rfl) (by kernel_rfl) (by decide) (by kernel_rfl))
theorem ty_51 : TyOk Go.Proofs.Tryz.prog 51 (.struct [(0, 3), (1, 49), (3, 3)] [.int .i64, .int .i64, .int .i64, .int .i64] true) := tyOk_struct (fields := Go.Proofs.Tryz.prog.fieldsOf 51) (by kernel_rfl) (by kernel_rfl) (by kernel_rfl) (by kernel_rfl) (by kernel_rfl) (by kernel_rfl) (fun _ => structEq_ok (d := 20) (fields := Go.Proofs.Tryz.prog.fieldsOf 51) (by kernel_rfl) (by kernel_rfl) (by decide) (by kernel_rfl))
theorem ty_66 : TyOk Go.Proofs.Tryz.prog 66 (.struct [(0, 22), (1, 3), (2, 3)] [.slice (.int .u8), .int .i64, .int .i64] false) := tyOk_struct (fields := Go.Proofs.Tryz.prog.fieldsOf 66) (by kernel_rfl) (by kernel_rfl) (by kernel_rfl) (by kernel_rfl) (by kernel_rfl) (by kernel_rfl) (fun e => by cases e)
theorem ty_68 : TyOk Go.Proofs.Tryz.prog 68 (.one (.set)) := tyOk_set (kt := 9) (et := 4) (by kernel_rfl) (by kernel_rfl) (by kernel_rfl) (by kernel_rfl) (by kernel_rfl)
theorem ty_72 : TyOk Go.Proofs.Tryz.prog 72 (.one (.slice (.slice (.int .i64)))) := tyOk_slice (e := 23) (by kernel_rfl) (by kernel_rfl) (by kernel_rfl) (elemOk_of (by kernel_rfl) (by kernel_rfl) (by kernel_rfl))
theorem ty_75 : TyOk Go.Proofs.Tryz.prog 75 (.arr 12 (.bool)) := tyOk_arr (e := 4) (by kernel_rfl) (elemOk_of (by kernel_rfl) (by kernel_rfl) (by kernel_rfl)) (by kernel_rfl) (by kernel_rfl)
theorem ty_88 : TyOk Go.Proofs.Tryz.prog 88 (.one (.slice (.str))) := tyOk_slice (e := 9) (by kernel_rfl) (by kernel_rfl) (by kernel_rfl) (elemOk_of (by kernel_rfl) (by kernel_rfl) (by kernel_rfl))
theorem ty_5023031 : TyOk Go.Proofs.Tryz.prog 5023031 (.flag) := trivial
theorem ty_5023072 : TyOk Go.Proofs.Tryz.prog 5023072 (.flag) := trivial
theorem ty_5028021 : TyOk Go.Proofs.Tryz.prog 5028021 (.flag) := trivial
theorem ty_5034049 : TyOk Go.Proofs.Tryz.prog 5034049 (.flag) := trivial
theorem ty_5034057 : TyOk Go.Proofs.Tryz.prog 5034057 (.flag) := trivial
theorem hE : ∀ T ti, E.ty T = some ti → TyOk Go.Proofs.Tryz.prog T ti := lookT_ok (l := tyL) ⟨ty_3, ty_4, ty_5, ty_22, ty_23, ty_24, ty_26, ty_28, ty_34, ty_45, ty_49, ty_51, ty_66, ty_68, ty_72, ty_75, ty_88, ty_5023031, ty_5023072, ty_5028021, ty_5034049, ty_5034057, trivial⟩
theorem s_l01New_ok : OneF Go.Proofs.Tryz.prog gw 15 s_l01New_fi := fnOk_of (fn := Go.Proofs.Tryz.f15) (c := s_l01New_c) Go.Proofs.Tryz.func15 (by kernel_rfl) (by kernel_rfl) rfl rfl (by kernel_rfl) (by kernel_rfl) rfl
theorem s_l01Byte_ok : OneF Go.Proofs.Tryz.prog gw 19 s_l01Byte_fi := fnOk_of (fn := Go.Proofs.Tryz.f19) (c := s_l01Byte_c) Go.Proofs.Tryz.func19 (by kernel_rfl) (by kernel_rfl) rfl rfl (by kernel_rfl) (by kernel_rfl) rfl
theorem s_l01Below_ok : OneF Go.Proofs.Tryz.prog gw 31 s_l01Below_fi := fnOk_of (fn := Go.Proofs.Tryz.f31) (c := s_l01Below_c) Go.Proofs.Tryz.func31 (by kernel_rfl) (by kernel_rfl) rfl rfl (by kernel_rfl) (by kernel_rfl) rfl
theorem s_l01Once_ok : OneF Go.Proofs.Tryz.prog gw 28 s_l01Once_fi := fnOk_of (fn := Go.Proofs.Tryz.f28) (c := s_l01Once_c) Go.Proofs.Tryz.func28 (by kernel_rfl) (by kernel_rfl) rfl rfl (by kernel_rfl) (by kernel_rfl) rfl
theorem s_l01In_ok : OneF Go.Proofs.Tryz.prog gw 44 s_l01In_fi := fnOk_of (fn := Go.Proofs.Tryz.f44) (c := s_l01In_c) Go.Proofs.Tryz.func44 (by kernel_rfl) (by kernel_rfl) rfl rfl (by kernel_rfl) (by kernel_rfl) rfl
theorem s_NewPacket_ok : OneF Go.Proofs.Tryz.prog gw 40 s_NewPacket_fi := fnOk_of (fn := Go.Proofs.Tryz.f40) (c := s_NewPacket_c) Go.Proofs.Tryz.func40 (by kernel_rfl) (by kernel_rfl) rfl rfl (by kernel_rfl) (by kernel_rfl) rfl
theorem s_l16Known_ok : OneF Go.Proofs.Tryz.prog gw 29 s_l16Known_fi := fnOk_of (fn := Go.Proofs.Tryz.f29) (c := s_l16Known_c) Go.Proofs.Tryz.func29 (by kernel_rfl) (by kernel_rfl) rfl rfl (by kernel_rfl) (by kernel_rfl) rfl
theorem s_l02Shuffle_ok : OneF Go.Proofs.Tryz.prog gw 41 s_l02Shuffle_fi := fnOk_of (fn := Go.Proofs.Tryz.f41) (c := s_l02Shuffle_c) Go.Proofs.Tryz.func41 (by kernel_rfl) (by kernel_rfl) rfl rfl (by kernel_rfl) (by kernel_rfl) rfl
theorem s_l02Draw_ok : OneF Go.Proofs.Tryz.prog gw 30 s_l02Draw_fi := fnOk_of (fn := Go.Proofs.Tryz.f30) (c := s_l02Draw_c) Go.Proofs.Tryz.func30 (by kernel_rfl) (by kernel_rfl) rfl rfl (by kernel_rfl) (by kernel_rfl) rfl
theorem s_l01Pick_ok : OneF Go.Proofs.Tryz.prog gw 42 s_l01Pick_fi := fnOk_of (fn := Go.Proofs.Tryz.f42) (c := s_l01Pick_c) Go.Proofs.Tryz.func42 (by kernel_rfl) (by kernel_rfl) rfl rfl (by kernel_rfl) (by kernel_rfl) rfl
theorem s_l04Draw_ok : OneF Go.Proofs.Tryz.prog gw 43 s_l04Draw_fi := fnOk_of (fn := Go.Proofs.Tryz.f43) (c := s_l04Draw_c) Go.Proofs.Tryz.func43 (by kernel_rfl) (by kernel_rfl) rfl rfl (by kernel_rfl) (by kernel_rfl) rfl
theorem s_l16Step_ok : OneF Go.Proofs.Tryz.prog gw 32 s_l16Step_fi := fnOk_of (fn := Go.Proofs.Tryz.f32) (c := s_l16Step_c) Go.Proofs.Tryz.func32 (by kernel_rfl) (by kernel_rfl) rfl rfl (by kernel_rfl) (by kernel_rfl) rfl
theorem s_CardOf_ok : OneF Go.Proofs.Tryz.prog gw 33 s_CardOf_fi := fnOk_of (fn := Go.Proofs.Tryz.f33) (c := s_CardOf_c) Go.Proofs.Tryz.func33 (by kernel_rfl) (by kernel_rfl) rfl rfl (by kernel_rfl) (by kernel_rfl) rfl
theorem s_l16Draw_ok : OneF Go.Proofs.Tryz.prog gw 14 s_l16Draw_fi := fnOk_of (fn := Go.Proofs.Tryz.f14) (c := s_l16Draw_c) Go.Proofs.Tryz.func14 (by kernel_rfl) (by kernel_rfl) rfl rfl (by kernel_rfl) (by kernel_rfl) rfl
theorem s_MakeTrick_ok : OneF Go.Proofs.Tryz.prog gw 4 s_MakeTrick_fi := fnOk_of (fn := Go.Proofs.Tryz.f4) (c := s_MakeTrick_c) Go.Proofs.Tryz.func4 (by kernel_rfl) (by kernel_rfl) rfl rfl (by kernel_rfl) (by kernel_rfl) rfl
theorem i_CardOf_ok : OneF Go.Proofs.Tryz.prog gw 26 i_CardOf_fi := fnOk_of (fn := Go.Proofs.Tryz.f26) (c := i_CardOf_c) Go.Proofs.Tryz.func26 (by kernel_rfl) (by kernel_rfl) rfl rfl (by kernel_rfl) (by kernel_rfl) rfl
theorem i_PacketOk_ok : OneF Go.Proofs.Tryz.prog gw 22 i_PacketOk_fi := fnOk_of (fn := Go.Proofs.Tryz.f22) (c := i_PacketOk_c) Go.Proofs.Tryz.func22 (by kernel_rfl) (by kernel_rfl) rfl rfl (by kernel_rfl) (by kernel_rfl) rfl
theorem i_MoveOk_ok : OneF Go.Proofs.Tryz.prog gw 45 i_MoveOk_fi := fnOk_of (fn := Go.Proofs.Tryz.f45) (c := i_MoveOk_c) Go.Proofs.Tryz.func45 (by kernel_rfl) (by kernel_rfl) rfl rfl (by kernel_rfl) (by kernel_rfl) rfl
theorem i_StepOk_ok : OneF Go.Proofs.Tryz.prog gw 34 i_StepOk_fi := fnOk_of (fn := Go.Proofs.Tryz.f34) (c := i_StepOk_c) Go.Proofs.Tryz.func34 (by kernel_rfl) (by kernel_rfl) rfl rfl (by kernel_rfl) (by kernel_rfl) rfl
theorem i_PositionOf_1_ok : OneF Go.Proofs.Tryz.prog gw 39 i_PositionOf_1_fi := fnOk_of (fn := Go.Proofs.Tryz.f39) (c := i_PositionOf_1_c) Go.Proofs.Tryz.func39 (by kernel_rfl) (by kernel_rfl) rfl rfl (by kernel_rfl) (by kernel_rfl) rfl
theorem slices_IndexFunc_int_of_i_PositionOf_1_ok : OneF Go.Proofs.Tryz.prog gw 38 slices_IndexFunc_int_of_i_PositionOf_1_fi := fnOk_of (fn := Go.Proofs.Tryz.f38) (c := slices_IndexFunc_int_of_i_PositionOf_1_c) Go.Proofs.Tryz.func38 (by kernel_rfl) (by kernel_rfl) rfl rfl (by kernel_rfl) (by kernel_rfl) rfl
theorem i_PositionOf_ok : OneF Go.Proofs.Tryz.prog gw 25 i_PositionOf_fi := fnOk_of (fn := Go.Proofs.Tryz.f25) (c := i_PositionOf_c) Go.Proofs.Tryz.func25 (by kernel_rfl) (by kernel_rfl) rfl rfl (by kernel_rfl) (by kernel_rfl) rfl
theorem i_TrickOk_ok : OneF Go.Proofs.Tryz.prog gw 16 i_TrickOk_fi := fnOk_of (fn := Go.Proofs.Tryz.f16) (c := i_TrickOk_c) Go.Proofs.Tryz.func16 (by kernel_rfl) (by kernel_rfl) rfl rfl (by kernel_rfl) (by kernel_rfl) rfl
theorem slices_Clone_int_ok : OneF Go.Proofs.Tryz.prog gw 27 slices_Clone_int_fi := fnOk_of (fn := Go.Proofs.Tryz.f27) (c := slices_Clone_int_c) Go.Proofs.Tryz.func27 (by kernel_rfl) (by kernel_rfl) rfl rfl (by kernel_rfl) (by kernel_rfl) rfl
theorem i_StartScene_ok : OneF Go.Proofs.Tryz.prog gw 12 i_StartScene_fi := fnOk_of (fn := Go.Proofs.Tryz.f12) (c := i_StartScene_c) Go.Proofs.Tryz.func12 (by kernel_rfl) (by kernel_rfl) rfl rfl (by kernel_rfl) (by kernel_rfl) rfl
theorem slices_Grow_int_ok : OneF Go.Proofs.Tryz.prog gw 60 slices_Grow_int_fi := Go.Proofs.Tryz.growOne
theorem slices_Concat_int_ok : OneF Go.Proofs.Tryz.prog gw 48 slices_Concat_int_fi := fnOk_of (fn := Go.Proofs.Tryz.f48) (c := slices_Concat_int_c) Go.Proofs.Tryz.func48 (by kernel_rfl) (by kernel_rfl) rfl rfl (by kernel_rfl) (by kernel_rfl) rfl
theorem slices_Reverse_int_ok : OneF Go.Proofs.Tryz.prog gw 61 slices_Reverse_int_fi := Go.Proofs.Tryz.revOne
theorem i_reversed_ok : OneF Go.Proofs.Tryz.prog gw 49 i_reversed_fi := fnOk_of (fn := Go.Proofs.Tryz.f49) (c := i_reversed_c) Go.Proofs.Tryz.func49 (by kernel_rfl) (by kernel_rfl) rfl rfl (by kernel_rfl) (by kernel_rfl) rfl
theorem i_faro_ok : OneF Go.Proofs.Tryz.prog gw 51 i_faro_fi := fnOk_of (fn := Go.Proofs.Tryz.f51) (c := i_faro_c) Go.Proofs.Tryz.func51 (by kernel_rfl) (by kernel_rfl) rfl rfl (by kernel_rfl) (by kernel_rfl) rfl
theorem i_monge_ok : OneF Go.Proofs.Tryz.prog gw 52 i_monge_fi := fnOk_of (fn := Go.Proofs.Tryz.f52) (c := i_monge_c) Go.Proofs.Tryz.func52 (by kernel_rfl) (by kernel_rfl) rfl rfl (by kernel_rfl) (by kernel_rfl) rfl
theorem i_milk_ok : OneF Go.Proofs.Tryz.prog gw 53 i_milk_fi := fnOk_of (fn := Go.Proofs.Tryz.f53) (c := i_milk_c) Go.Proofs.Tryz.func53 (by kernel_rfl) (by kernel_rfl) rfl rfl (by kernel_rfl) (by kernel_rfl) rfl
theorem i_dealt_ok : OneF Go.Proofs.Tryz.prog gw 54 i_dealt_fi := fnOk_of (fn := Go.Proofs.Tryz.f54) (c := i_dealt_c) Go.Proofs.Tryz.func54 (by kernel_rfl) (by kernel_rfl) rfl rfl (by kernel_rfl) (by kernel_rfl) rfl
theorem i_TurnCard_ok : OneF Go.Proofs.Tryz.prog gw 50 i_TurnCard_fi := fnOk_of (fn := Go.Proofs.Tryz.f50) (c := i_TurnCard_c) Go.Proofs.Tryz.func50 (by kernel_rfl) (by kernel_rfl) rfl rfl (by kernel_rfl) (by kernel_rfl) rfl
theorem i_moved_ok : OneF Go.Proofs.Tryz.prog gw 36 i_moved_fi := fnOk_of (fn := Go.Proofs.Tryz.f36) (c := i_moved_c) Go.Proofs.Tryz.func36 (by kernel_rfl) (by kernel_rfl) rfl rfl (by kernel_rfl) (by kernel_rfl) rfl
theorem i_cuts_ok : OneF Go.Proofs.Tryz.prog gw 62 i_cuts_fi := fnOk_of (fn := Go.Proofs.Tryz.f62) (c := i_cuts_c) Go.Proofs.Tryz.func62 (by kernel_rfl) (by kernel_rfl) rfl rfl (by kernel_rfl) (by kernel_rfl) rfl
theorem i_riffled_ok : OneF Go.Proofs.Tryz.prog gw 63 i_riffled_fi := fnOk_of (fn := Go.Proofs.Tryz.f63) (c := i_riffled_c) Go.Proofs.Tryz.func63 (by kernel_rfl) (by kernel_rfl) rfl rfl (by kernel_rfl) (by kernel_rfl) rfl
theorem i_all_ok : OneF Go.Proofs.Tryz.prog gw 55 i_all_fi := fnOk_of (fn := Go.Proofs.Tryz.f55) (c := i_all_c) Go.Proofs.Tryz.func55 (by kernel_rfl) (by kernel_rfl) rfl rfl (by kernel_rfl) (by kernel_rfl) rfl
theorem slices_SortFunc_int_int_ok : OneF Go.Proofs.Tryz.prog gw 64 slices_SortFunc_int_int_fi := Go.Proofs.Tryz.sortOne
theorem slices_CompactFunc_int_int_ok : OneF Go.Proofs.Tryz.prog gw 66 slices_CompactFunc_int_int_fi := Go.Proofs.Tryz.compactOne
theorem i_SortPackets_ok : OneF Go.Proofs.Tryz.prog gw 56 i_SortPackets_fi := fnOk_of (fn := Go.Proofs.Tryz.f56) (c := i_SortPackets_c) Go.Proofs.Tryz.func56 (by kernel_rfl) (by kernel_rfl) rfl rfl (by kernel_rfl) (by kernel_rfl) rfl
theorem i_ResultsOf_ok : OneF Go.Proofs.Tryz.prog gw 37 i_ResultsOf_fi := fnOk_of (fn := Go.Proofs.Tryz.f37) (c := i_ResultsOf_c) Go.Proofs.Tryz.func37 (by kernel_rfl) (by kernel_rfl) rfl rfl (by kernel_rfl) (by kernel_rfl) rfl
theorem i_NextScenes_ok : OneF Go.Proofs.Tryz.prog gw 20 i_NextScenes_fi := fnOk_of (fn := Go.Proofs.Tryz.f20) (c := i_NextScenes_c) Go.Proofs.Tryz.func20 (by kernel_rfl) (by kernel_rfl) rfl rfl (by kernel_rfl) (by kernel_rfl) rfl
theorem strconv_Itoa_ok : OneF Go.Proofs.Tryz.prog gw 59 strconv_Itoa_fi := itoa_ok Go.Proofs.Tryz.func59 (by kernel_rfl) (by kernel_rfl) (fun n w hw h0 h1 => Go.Proofs.Tryz.strconv_Itoa n h0 h1 w hw)
theorem i_FormatInt_ok : OneF Go.Proofs.Tryz.prog gw 47 i_FormatInt_fi := fnOk_of (fn := Go.Proofs.Tryz.f47) (c := i_FormatInt_c) Go.Proofs.Tryz.func47 (by kernel_rfl) (by kernel_rfl) rfl rfl (by kernel_rfl) (by kernel_rfl) rfl
theorem i_numbersOf_ok : OneF Go.Proofs.Tryz.prog gw 58 i_numbersOf_fi := fnOk_of (fn := Go.Proofs.Tryz.f58) (c := i_numbersOf_c) Go.Proofs.Tryz.func58 (by kernel_rfl) (by kernel_rfl) rfl rfl (by kernel_rfl) (by kernel_rfl) rfl
theorem strings_Join_ok : OneF Go.Proofs.Tryz.prog gw 67 strings_Join_fi := join_ok Go.Proofs.Tryz.func67 (by kernel_rfl) (by kernel_rfl) (fun a c sep w => Go.Proofs.Tryz.strings_Join_none a c sep w) (fun bk o c xs sep w hc hb hN hcap hl => Go.Proofs.Tryz.strings_Join bk o c xs sep w hc hb hN hcap hl) rfl
theorem i_Join_ok : OneF Go.Proofs.Tryz.prog gw 57 i_Join_fi := fnOk_of (fn := Go.Proofs.Tryz.f57) (c := i_Join_c) Go.Proofs.Tryz.func57 (by kernel_rfl) (by kernel_rfl) rfl rfl (by kernel_rfl) (by kernel_rfl) rfl
theorem i_FormatPicks_ok : OneF Go.Proofs.Tryz.prog gw 46 i_FormatPicks_fi := fnOk_of (fn := Go.Proofs.Tryz.f46) (c := i_FormatPicks_c) Go.Proofs.Tryz.func46 (by kernel_rfl) (by kernel_rfl) rfl rfl (by kernel_rfl) (by kernel_rfl) rfl
theorem i_keyOf_ok : OneF Go.Proofs.Tryz.prog gw 35 i_keyOf_fi := fnOk_of (fn := Go.Proofs.Tryz.f35) (c := i_keyOf_c) Go.Proofs.Tryz.func35 (by kernel_rfl) (by kernel_rfl) rfl rfl (by kernel_rfl) (by kernel_rfl) rfl
theorem i_levels_ok : OneF Go.Proofs.Tryz.prog gw 17 i_levels_fi := fnOk_of (fn := Go.Proofs.Tryz.f17) (c := i_levels_c) Go.Proofs.Tryz.func17 (by kernel_rfl) (by kernel_rfl) rfl rfl (by kernel_rfl) (by kernel_rfl) rfl
theorem i_AllScenes_ok : OneF Go.Proofs.Tryz.prog gw 5 i_AllScenes_fi := fnOk_of (fn := Go.Proofs.Tryz.f5) (c := i_AllScenes_c) Go.Proofs.Tryz.func5 (by kernel_rfl) (by kernel_rfl) rfl rfl (by kernel_rfl) (by kernel_rfl) rfl
theorem i_CountChoices_ok : OneF Go.Proofs.Tryz.prog gw 6 i_CountChoices_fi := fnOk_of (fn := Go.Proofs.Tryz.f6) (c := i_CountChoices_c) Go.Proofs.Tryz.func6 (by kernel_rfl) (by kernel_rfl) rfl rfl (by kernel_rfl) (by kernel_rfl) rfl
theorem i_CountEnds_ok : OneF Go.Proofs.Tryz.prog gw 7 i_CountEnds_fi := fnOk_of (fn := Go.Proofs.Tryz.f7) (c := i_CountEnds_c) Go.Proofs.Tryz.func7 (by kernel_rfl) (by kernel_rfl) rfl rfl (by kernel_rfl) (by kernel_rfl) rfl
theorem s_l23New_ok : OneF Go.Proofs.Tryz.prog gw 18 s_l23New_fi := fnOk_of (fn := Go.Proofs.Tryz.f18) (c := s_l23New_c) Go.Proofs.Tryz.func18 (by kernel_rfl) (by kernel_rfl) rfl rfl (by kernel_rfl) (by kernel_rfl) rfl
theorem s_MakeNum_ok : OneF Go.Proofs.Tryz.prog gw 8 s_MakeNum_fi := fnOk_of (fn := Go.Proofs.Tryz.f8) (c := s_MakeNum_c) Go.Proofs.Tryz.func8 (by kernel_rfl) (by kernel_rfl) rfl rfl (by kernel_rfl) (by kernel_rfl) rfl
theorem i_RunTrick_ok : OneF Go.Proofs.Tryz.prog gw 9 i_RunTrick_fi := fnOk_of (fn := Go.Proofs.Tryz.f9) (c := i_RunTrick_c) Go.Proofs.Tryz.func9 (by kernel_rfl) (by kernel_rfl) rfl rfl (by kernel_rfl) (by kernel_rfl) rfl
theorem slices_Equal_int_ok : OneF Go.Proofs.Tryz.prog gw 21 slices_Equal_int_fi := fnOk_of (fn := Go.Proofs.Tryz.f21) (c := slices_Equal_int_c) Go.Proofs.Tryz.func21 (by kernel_rfl) (by kernel_rfl) rfl rfl (by kernel_rfl) (by kernel_rfl) rfl
theorem i_SameScene_ok : OneF Go.Proofs.Tryz.prog gw 10 i_SameScene_fi := fnOk_of (fn := Go.Proofs.Tryz.f10) (c := i_SameScene_c) Go.Proofs.Tryz.func10 (by kernel_rfl) (by kernel_rfl) rfl rfl (by kernel_rfl) (by kernel_rfl) rfl
theorem i_IsArrangement_1_ok : OneF Go.Proofs.Tryz.prog gw 24 i_IsArrangement_1_fi := fnOk_of (fn := Go.Proofs.Tryz.f24) (c := i_IsArrangement_1_c) Go.Proofs.Tryz.func24 (by kernel_rfl) (by kernel_rfl) rfl rfl (by kernel_rfl) (by kernel_rfl) rfl
theorem slices_IndexFunc_int_of_i_IsArrangement_1_ok : OneF Go.Proofs.Tryz.prog gw 38 slices_IndexFunc_int_of_i_IsArrangement_1_fi := fnOk_of (fn := Go.Proofs.Tryz.f38) (c := slices_IndexFunc_int_of_i_IsArrangement_1_c) Go.Proofs.Tryz.func38 (by kernel_rfl) (by kernel_rfl) rfl rfl (by kernel_rfl) (by kernel_rfl) rfl
theorem slices_ContainsFunc_int_of_i_IsArrangement_1_ok : OneF Go.Proofs.Tryz.prog gw 23 slices_ContainsFunc_int_of_i_IsArrangement_1_fi := fnOk_of (fn := Go.Proofs.Tryz.f23) (c := slices_ContainsFunc_int_of_i_IsArrangement_1_c) Go.Proofs.Tryz.func23 (by kernel_rfl) (by kernel_rfl) rfl rfl (by kernel_rfl) (by kernel_rfl) rfl
theorem i_IsArrangement_ok : OneF Go.Proofs.Tryz.prog gw 11 i_IsArrangement_fi := fnOk_of (fn := Go.Proofs.Tryz.f11) (c := i_IsArrangement_c) Go.Proofs.Tryz.func11 (by kernel_rfl) (by kernel_rfl) rfl rfl (by kernel_rfl) (by kernel_rfl) rfl
theorem w_same_ok : OneF Go.Proofs.Tryz.prog gw 13 w_same_fi := fnOk_of (fn := Go.Proofs.Tryz.f13) (c := w_same_c) Go.Proofs.Tryz.func13 (by kernel_rfl) (by kernel_rfl) rfl rfl (by kernel_rfl) (by kernel_rfl) rfl
theorem w_FnRuns_ok : OneF Go.Proofs.Tryz.prog gw 3 w_FnRuns_fi := fnOk_of (fn := Go.Proofs.Tryz.f3) (c := w_FnRuns_c) Go.Proofs.Tryz.func3 (by kernel_rfl) (by kernel_rfl) rfl rfl (by kernel_rfl) (by kernel_rfl) rfl
theorem hF : FnOk Go.Proofs.Tryz.prog gw E := lookF_ok (l := fnL) ⟨s_l01New_ok, s_l01Byte_ok, s_l01Below_ok, s_l01Once_ok, s_l01In_ok, s_NewPacket_ok, s_l16Known_ok, s_l02Shuffle_ok, s_l02Draw_ok, s_l01Pick_ok, s_l04Draw_ok, s_l16Step_ok, s_CardOf_ok, s_l16Draw_ok, s_MakeTrick_ok, i_CardOf_ok, i_PacketOk_ok, i_MoveOk_ok, i_StepOk_ok, i_PositionOf_1_ok, slices_IndexFunc_int_of_i_PositionOf_1_ok, i_PositionOf_ok, i_TrickOk_ok, slices_Clone_int_ok, i_StartScene_ok, slices_Grow_int_ok, slices_Concat_int_ok, slices_Reverse_int_ok, i_reversed_ok, i_faro_ok, i_monge_ok, i_milk_ok, i_dealt_ok, i_TurnCard_ok, i_moved_ok, i_cuts_ok, i_riffled_ok, i_all_ok, slices_SortFunc_int_int_ok, slices_CompactFunc_int_int_ok, i_SortPackets_ok, i_ResultsOf_ok, i_NextScenes_ok, strconv_Itoa_ok, i_FormatInt_ok, i_numbersOf_ok, strings_Join_ok, i_Join_ok, i_FormatPicks_ok, i_keyOf_ok, i_levels_ok, i_AllScenes_ok, i_CountChoices_ok, i_CountEnds_ok, s_l23New_ok, s_MakeNum_ok, i_RunTrick_ok, slices_Equal_int_ok, i_SameScene_ok, i_IsArrangement_1_ok, slices_IndexFunc_int_of_i_IsArrangement_1_ok, slices_ContainsFunc_int_of_i_IsArrangement_1_ok, i_IsArrangement_ok, w_same_ok, w_FnRuns_ok, trivial⟩
end Pt
