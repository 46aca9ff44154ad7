/-
  The plain machine's telling of functions of the program. Printed by gen.py.
  Conditions: none; these are definitions and equations that the kernel checks.
-/
import Derived.Test.YtcchipplglbfmaaGreatDoorXvza
import Derived.Test.YtcchipplglbfmaaGreatDoorXvze
import Derived.Test.YtcchipplglbfmaaGreatDoorProg
import Derived.Test.YtcchipplglbfmaaGreatDoorShelf
import Derived.Test.YtcchipplglbfmaaGreatDoorDel
import Derived.Test.YtcchipplglbfmaaGreatDoorSrt
namespace Pt
open Go Go.Vt
set_option linter.unusedVariables false
set_option maxRecDepth 100000

noncomputable def tyL : List (Nat × TI) := [(3, .one (.int .i64)),
  (4, .one (.bool)),
  (22, .one (.slice (.int .i64))),
  (23, .one (.slice (.pair (.int .i64) (.pair (.pair (.int .i64) (.int .i64)) (.int .i64))))),
  (25, .struct [(0, 22), (1, 23), (2, 3), (3, 3), (4, 3)] [.slice (.int .i64), .slice (.pair (.int .i64) (.pair (.pair (.int .i64) (.int .i64)) (.int .i64))), .int .i64, .int .i64, .int .i64] false),
  (28, .one (.slice (.pair (.int .i64) (.pair (.pair (.int .i64) (.int .i64)) (.int .i64))))),
  (30, .struct [(0, 22), (1, 28), (2, 3), (3, 3), (4, 3)] [.slice (.int .i64), .slice (.pair (.int .i64) (.pair (.pair (.int .i64) (.int .i64)) (.int .i64))), .int .i64, .int .i64, .int .i64] false),
  (34, .one (.slice (.pair (.slice (.int .i64)) (.int .i64)))),
  (41, .struct [(0, 22), (1, 3)] [.slice (.int .i64), .int .i64] false),
  (67, .one (.slice (.slice (.int .i64)))),
  (70, .one (.slice (.slice (.pair (.slice (.int .i64)) (.int .i64))))),
  (81, .struct [(0, 3), (1, 3)] [.int .i64, .int .i64] true),
  (83, .struct [(0, 3), (1, 81), (3, 3)] [.int .i64, .int .i64, .int .i64, .int .i64] true),
  (86, .sset),
  (101, .struct [(0, 3), (1, 3)] [.int .i64, .int .i64] true),
  (103, .struct [(0, 3), (1, 101), (3, 3)] [.int .i64, .int .i64, .int .i64, .int .i64] true),
  (118, .one (.slice (.str))),
  (128, .arr 12 (.bool)),
  (5022023, .flag),
  (5022031, .flag),
  (5022072, .flag),
  (5034021, .flag),
  (5041049, .flag)]

/-! ### w_szIntS -/
noncomputable def w_szIntS_c : Code := (Go.Proofs.Tryz.f40.body).getD .skip
noncomputable def w_szIntS_h : Nat → Option (List Hint)
  | _ => none
noncomputable def w_szIntS_fi : Fi := ⟨[.v (.slice (.int .i64)) false, .v (.int .i64) false], [(false, [⟨.int .i64, none⟩])], none, w_szIntS_c, Go.Proofs.Tryz.f40.results.toList, 12, w_szIntS_h⟩
/-! ### w_szStepS -/
noncomputable def w_szStepS_c : Code := (Go.Proofs.Tryz.f41.body).getD .skip
noncomputable def w_szStepS_h : Nat → Option (List Hint)
  | _ => none
noncomputable def w_szStepS_fi : Fi := ⟨[.v (.slice (.pair (.int .i64) (.pair (.pair (.int .i64) (.int .i64)) (.int .i64)))) false, .v (.int .i64) false], [(false, [⟨.int .i64, none⟩])], none, w_szStepS_c, Go.Proofs.Tryz.f41.results.toList, 12, w_szStepS_h⟩
/-! ### w_szTrick -/
noncomputable def w_szTrick_c : Code := (Go.Proofs.Tryz.f11.body).getD .skip
noncomputable def w_szTrick_h : Nat → Option (List Hint)
  | _ => none
noncomputable def w_szTrick_fi : Fi := ⟨[.v (.pair (.slice (.int .i64)) (.pair (.slice (.pair (.int .i64) (.pair (.pair (.int .i64) (.int .i64)) (.int .i64)))) (.pair (.int .i64) (.pair (.int .i64) (.int .i64))))) true, .v (.int .i64) false], [(false, [⟨.int .i64, none⟩])], none, w_szTrick_c, Go.Proofs.Tryz.f11.results.toList, 18, w_szTrick_h⟩
/-! ### w_toIntS -/
noncomputable def w_toIntS_c : Code := (Go.Proofs.Tryz.f42.body).getD .skip
noncomputable def w_toIntS_h : Nat → Option (List Hint)
  | 3 => some [.keep 0, .cell 3 (.row 100003 (.int .i64) true false), .keep 4]
  | _ => none
noncomputable def w_toIntS_fi : Fi := ⟨[.v (.slice (.int .i64)) false], [(false, [⟨.slice (.int .i64), some (true, false)⟩])], none, w_toIntS_c, Go.Proofs.Tryz.f42.results.toList, 22, w_toIntS_h⟩
/-! ### w_toMove -/
noncomputable def w_toMove_c : Code := (Go.Proofs.Tryz.f121.body).getD .skip
noncomputable def w_toMove_h : Nat → Option (List Hint)
  | _ => none
noncomputable def w_toMove_fi : Fi := ⟨[.v (.pair (.int .i64) (.int .i64)) true], [(true, [⟨.int .i64, none⟩, ⟨.int .i64, none⟩])], none, w_toMove_c, Go.Proofs.Tryz.f121.results.toList, 11, w_toMove_h⟩
/-! ### w_toStep -/
noncomputable def w_toStep_c : Code := (Go.Proofs.Tryz.f88.body).getD .skip
noncomputable def w_toStep_h : Nat → Option (List Hint)
  | _ => none
noncomputable def w_toStep_fi : Fi := ⟨[.v (.pair (.int .i64) (.pair (.pair (.int .i64) (.int .i64)) (.int .i64))) true], [(true, [⟨.int .i64, none⟩, ⟨.int .i64, none⟩, ⟨.int .i64, none⟩, ⟨.int .i64, none⟩])], none, w_toStep_c, Go.Proofs.Tryz.f88.results.toList, 15, w_toStep_h⟩
/-! ### w_toStepS -/
noncomputable def w_toStepS_c : Code := (Go.Proofs.Tryz.f43.body).getD .skip
noncomputable def w_toStepS_h : Nat → Option (List Hint)
  | 3 => some [.keep 0, .cell 3 (.row 100003 (.pair (.int .i64) (.pair (.pair (.int .i64) (.int .i64)) (.int .i64))) true false), .keep 4]
  | _ => none
noncomputable def w_toStepS_fi : Fi := ⟨[.v (.slice (.pair (.int .i64) (.pair (.pair (.int .i64) (.int .i64)) (.int .i64)))) false], [(false, [⟨.slice (.pair (.int .i64) (.pair (.pair (.int .i64) (.int .i64)) (.int .i64))), some (true, false)⟩])], none, w_toStepS_c, Go.Proofs.Tryz.f43.results.toList, 23, w_toStepS_h⟩
/-! ### w_toTrick -/
noncomputable def w_toTrick_c : Code := (Go.Proofs.Tryz.f13.body).getD .skip
noncomputable def w_toTrick_h : Nat → Option (List Hint)
  | _ => none
noncomputable def w_toTrick_fi : Fi := ⟨[.v (.pair (.slice (.int .i64)) (.pair (.slice (.pair (.int .i64) (.pair (.pair (.int .i64) (.int .i64)) (.int .i64)))) (.pair (.int .i64) (.pair (.int .i64) (.int .i64))))) true], [(true, [⟨.slice (.int .i64), some (true, false)⟩, ⟨.slice (.pair (.int .i64) (.pair (.pair (.int .i64) (.int .i64)) (.int .i64))), some (true, false)⟩, ⟨.int .i64, none⟩, ⟨.int .i64, none⟩, ⟨.int .i64, none⟩])], none, w_toTrick_c, Go.Proofs.Tryz.f13.results.toList, 22, w_toTrick_h⟩
/-! ### s_l01In -/
noncomputable def s_l01In_c : Code := (Go.Proofs.Tryz.f67.body).getD .skip
noncomputable def s_l01In_h : Nat → Option (List Hint)
  | _ => none
noncomputable def s_l01In_fi : Fi := ⟨[.v (.int .i64) false, .v (.int .i64) false, .v (.int .i64) false], [(false, [⟨.bool, none⟩])], none, s_l01In_c, Go.Proofs.Tryz.f67.results.toList, 15, s_l01In_h⟩
/-! ### s_CardOf -/
noncomputable def s_CardOf_c : Code := (Go.Proofs.Tryz.f123.body).getD .skip
noncomputable def s_CardOf_h : Nat → Option (List Hint)
  | _ => none
noncomputable def s_CardOf_fi : Fi := ⟨[.v (.int .i64) false], [(false, [⟨.int .i64, none⟩])], none, s_CardOf_c, Go.Proofs.Tryz.f123.results.toList, 10, s_CardOf_h⟩
/-! ### s_l02Has -/
noncomputable def s_l02Has_c : Code := (Go.Proofs.Tryz.f124.body).getD .skip
noncomputable def s_l02Has_h : Nat → Option (List Hint)
  | 2 => some [.keep 1, .keep 7, .keep 8, .keep 9]
  | _ => none
noncomputable def s_l02Has_fi : Fi := ⟨[.v (.slice (.int .i64)) false, .v (.int .i64) false], [(false, [⟨.bool, none⟩])], none, s_l02Has_c, Go.Proofs.Tryz.f124.results.toList, 17, s_l02Has_h⟩
/-! ### s_PacketOk -/
noncomputable def s_PacketOk_c : Code := (Go.Proofs.Tryz.f90.body).getD .skip
noncomputable def s_PacketOk_h : Nat → Option (List Hint)
  | 5 => some [.cell 3 (.row 100003 (.int .i64) true false), .keep 11, .keep 12, .keep 13]
  | _ => none
noncomputable def s_PacketOk_fi : Fi := ⟨[.v (.slice (.int .i64)) false], [(false, [⟨.bool, none⟩])], none, s_PacketOk_c, Go.Proofs.Tryz.f90.results.toList, 31, s_PacketOk_h⟩
/-! ### s_MoveOk -/
noncomputable def s_MoveOk_c : Code := (Go.Proofs.Tryz.f125.body).getD .skip
noncomputable def s_MoveOk_h : Nat → Option (List Hint)
  | _ => none
noncomputable def s_MoveOk_fi : Fi := ⟨[.v (.int .i64) false, .v (.pair (.int .i64) (.int .i64)) true], [(false, [⟨.bool, none⟩])], none, s_MoveOk_c, Go.Proofs.Tryz.f125.results.toList, 38, s_MoveOk_h⟩
/-! ### s_l16Choice -/
noncomputable def s_l16Choice_c : Code := (Go.Proofs.Tryz.f126.body).getD .skip
noncomputable def s_l16Choice_h : Nat → Option (List Hint)
  | _ => none
noncomputable def s_l16Choice_fi : Fi := ⟨[.v (.int .i64) false, .v (.int .i64) false], [(false, [⟨.bool, none⟩])], none, s_l16Choice_c, Go.Proofs.Tryz.f126.results.toList, 23, s_l16Choice_h⟩
/-! ### s_StepOk -/
noncomputable def s_StepOk_c : Code := (Go.Proofs.Tryz.f91.body).getD .skip
noncomputable def s_StepOk_h : Nat → Option (List Hint)
  | _ => none
noncomputable def s_StepOk_fi : Fi := ⟨[.v (.int .i64) false, .v (.pair (.int .i64) (.pair (.pair (.int .i64) (.int .i64)) (.int .i64))) true], [(false, [⟨.bool, none⟩])], none, s_StepOk_c, Go.Proofs.Tryz.f91.results.toList, 46, s_StepOk_h⟩
/-! ### s_PositionOf -/
noncomputable def s_PositionOf_c : Code := (Go.Proofs.Tryz.f99.body).getD .skip
noncomputable def s_PositionOf_h : Nat → Option (List Hint)
  | 2 => some [.keep 1, .keep 7, .keep 8, .keep 9]
  | _ => none
noncomputable def s_PositionOf_fi : Fi := ⟨[.v (.slice (.int .i64)) false, .v (.int .i64) false], [(false, [⟨.int .i64, none⟩])], none, s_PositionOf_c, Go.Proofs.Tryz.f99.results.toList, 24, s_PositionOf_h⟩
/-! ### s_l16Claim -/
noncomputable def s_l16Claim_c : Code := (Go.Proofs.Tryz.f92.body).getD .skip
noncomputable def s_l16Claim_h : Nat → Option (List Hint)
  | _ => none
noncomputable def s_l16Claim_fi : Fi := ⟨[.v (.pair (.slice (.int .i64)) (.pair (.slice (.pair (.int .i64) (.pair (.pair (.int .i64) (.int .i64)) (.int .i64)))) (.pair (.int .i64) (.pair (.int .i64) (.int .i64))))) true, .v (.int .i64) false, .v (.bool) false], [(false, [⟨.bool, none⟩])], none, s_l16Claim_c, Go.Proofs.Tryz.f92.results.toList, 61, s_l16Claim_h⟩
/-! ### s_TrickOk -/
noncomputable def s_TrickOk_c : Code := (Go.Proofs.Tryz.f46.body).getD .skip
noncomputable def s_TrickOk_h : Nat → Option (List Hint)
  | 6 => some [.box 1 200001 [.keep, .keep, .keep, .keep, .keep], .keep 3, .keep 4, .keep 25, .keep 26, .keep 27]
  | _ => none
noncomputable def s_TrickOk_fi : Fi := ⟨[.v (.pair (.slice (.int .i64)) (.pair (.slice (.pair (.int .i64) (.pair (.pair (.int .i64) (.int .i64)) (.int .i64)))) (.pair (.int .i64) (.pair (.int .i64) (.int .i64))))) true], [(false, [⟨.bool, none⟩])], none, s_TrickOk_c, Go.Proofs.Tryz.f46.results.toList, 46, s_TrickOk_h⟩
/-! ### s_TurnCard -/
noncomputable def s_TurnCard_c : Code := (Go.Proofs.Tryz.f153.body).getD .skip
noncomputable def s_TurnCard_h : Nat → Option (List Hint)
  | _ => none
noncomputable def s_TurnCard_fi : Fi := ⟨[.v (.int .i64) false], [(false, [⟨.int .i64, none⟩])], none, s_TurnCard_c, Go.Proofs.Tryz.f153.results.toList, 9, s_TurnCard_h⟩
/-! ### s_l04Back -/
noncomputable def s_l04Back_c : Code := (Go.Proofs.Tryz.f148.body).getD .skip
noncomputable def s_l04Back_h : Nat → Option (List Hint)
  | 3 => some [.keep 0, .keep 1, .keep 2, .cell 7 (.row 100007 (.int .i64) true false), .keep 8]
  | _ => none
noncomputable def s_l04Back_fi : Fi := ⟨[.v (.slice (.int .i64)) false, .v (.int .i64) false, .v (.bool) false], [(false, [⟨.slice (.int .i64), some (true, false)⟩])], none, s_l04Back_c, Go.Proofs.Tryz.f148.results.toList, 37, s_l04Back_h⟩
/-! ### s_l04Faro -/
noncomputable def s_l04Faro_c : Code := (Go.Proofs.Tryz.f149.body).getD .skip
noncomputable def s_l04Faro_h : Nat → Option (List Hint)
  | 4 => some [.keep 1, .keep 5, .keep 6, .cell 7 (.row 100007 (.int .i64) true false)]
  | _ => none
noncomputable def s_l04Faro_fi : Fi := ⟨[.v (.slice (.int .i64)) false, .v (.int .i64) false], [(false, [⟨.slice (.int .i64), some (true, false)⟩])], none, s_l04Faro_c, Go.Proofs.Tryz.f149.results.toList, 59, s_l04Faro_h⟩
/-! ### s_l04Monge -/
noncomputable def s_l04Monge_c : Code := (Go.Proofs.Tryz.f150.body).getD .skip
noncomputable def s_l04Monge_h : Nat → Option (List Hint)
  | 3 => some [.keep 1, .cell 5 (.row 100005 (.int .i64) true false), .keep 9, .keep 10, .keep 11]
  | _ => none
noncomputable def s_l04Monge_fi : Fi := ⟨[.v (.slice (.int .i64)) false, .v (.int .i64) false], [(false, [⟨.slice (.int .i64), some (true, false)⟩])], none, s_l04Monge_c, Go.Proofs.Tryz.f150.results.toList, 34, s_l04Monge_h⟩
/-! ### s_l04Milk -/
noncomputable def s_l04Milk_c : Code := (Go.Proofs.Tryz.f151.body).getD .skip
noncomputable def s_l04Milk_h : Nat → Option (List Hint)
  | 2 => some [.keep 0, .cell 3 (.row 100003 (.int .i64) true false)]
  | _ => none
noncomputable def s_l04Milk_fi : Fi := ⟨[.v (.slice (.int .i64)) false], [(false, [⟨.slice (.int .i64), some (true, false)⟩])], none, s_l04Milk_c, Go.Proofs.Tryz.f151.results.toList, 30, s_l04Milk_h⟩
/-! ### s_l04Duck -/
noncomputable def s_l04Duck_c : Code := (Go.Proofs.Tryz.f152.body).getD .skip
noncomputable def s_l04Duck_h : Nat → Option (List Hint)
  | 4 => some [.cell 5 (.row 100005 (.int .i64) true false), .cell 6 (.row 100006 (.int .i64) true false), .keep 7]
  | _ => none
noncomputable def s_l04Duck_fi : Fi := ⟨[.v (.slice (.int .i64)) false, .v (.int .i64) false], [(false, [⟨.slice (.int .i64), some (true, false)⟩])], none, s_l04Duck_c, Go.Proofs.Tryz.f152.results.toList, 41, s_l04Duck_h⟩
/-! ### s_l04Do -/
noncomputable def s_l04Do_c : Code := (Go.Proofs.Tryz.f127.body).getD .skip
noncomputable def s_l04Do_h : Nat → Option (List Hint)
  | _ => none
noncomputable def s_l04Do_fi : Fi := ⟨[.v (.slice (.int .i64)) false, .v (.pair (.int .i64) (.int .i64)) true], [(false, [⟨.slice (.int .i64), some (true, false)⟩])], none, s_l04Do_c, Go.Proofs.Tryz.f127.results.toList, 90, s_l04Do_h⟩
/-! ### s_l05Cuts -/
noncomputable def s_l05Cuts_c : Code := (Go.Proofs.Tryz.f155.body).getD .skip
noncomputable def s_l05Cuts_h : Nat → Option (List Hint)
  | 3 => some [.keep 0, .cell 3 (.row 100003 (.slice (.int .i64)) true false), .keep 7, .keep 8]
  | _ => none
noncomputable def s_l05Cuts_fi : Fi := ⟨[.v (.slice (.int .i64)) false], [(false, [⟨.slice (.slice (.int .i64)), some (true, false)⟩])], none, s_l05Cuts_c, Go.Proofs.Tryz.f155.results.toList, 20, s_l05Cuts_h⟩
/-! ### s_l05Weave -/
noncomputable def s_l05Weave_c : Code := (Go.Proofs.Tryz.f156.body).getD .skip
noncomputable def s_l05Weave_h : Nat → Option (List Hint)
  | 999999 => some []
  | _ => none
noncomputable def s_l05Weave_fi : Fi := ⟨[.v (.slice (.slice (.int .i64))) false, .v (.slice (.int .i64)) false, .v (.slice (.int .i64)) false, .v (.slice (.int .i64)) false], [(false, [⟨.slice (.slice (.int .i64)), some (false, false)⟩])], none, s_l05Weave_c, Go.Proofs.Tryz.f156.results.toList, 54, s_l05Weave_h⟩
/-! ### s_l05Of -/
noncomputable def s_l05Of_c : Code := (Go.Proofs.Tryz.f129.body).getD .skip
noncomputable def s_l05Of_h : Nat → Option (List Hint)
  | 7 => some [.keep 0, .cell 5 (.row 100005 (.slice (.int .i64)) false false), .keep 6]
  | 15 => some [.keep 0, .cell 5 (.row 100005 (.slice (.int .i64)) true false), .keep 40, .keep 41, .keep 42]
  | _ => none
noncomputable def s_l05Of_fi : Fi := ⟨[.v (.slice (.int .i64)) false, .v (.int .i64) false], [(false, [⟨.slice (.slice (.int .i64)), some (false, false)⟩])], none, s_l05Of_c, Go.Proofs.Tryz.f129.results.toList, 69, s_l05Of_h⟩
/-! ### s_SamePacket -/
noncomputable def s_SamePacket_c : Code := (Go.Proofs.Tryz.f101.body).getD .skip
noncomputable def s_SamePacket_h : Nat → Option (List Hint)
  | 4 => some [.keep 1, .keep 12, .keep 13, .keep 14]
  | _ => none
noncomputable def s_SamePacket_fi : Fi := ⟨[.v (.slice (.int .i64)) false, .v (.slice (.int .i64)) false], [(false, [⟨.bool, none⟩])], none, s_SamePacket_c, Go.Proofs.Tryz.f101.results.toList, 26, s_SamePacket_h⟩
/-! ### s_l05Less -/
noncomputable def s_l05Less_c : Code := (Go.Proofs.Tryz.f168.body).getD .skip
noncomputable def s_l05Less_h : Nat → Option (List Hint)
  | 2 => some [.keep 0, .keep 1, .keep 7, .keep 8, .keep 9]
  | _ => none
noncomputable def s_l05Less_fi : Fi := ⟨[.v (.slice (.int .i64)) false, .v (.slice (.int .i64)) false], [(false, [⟨.bool, none⟩])], none, s_l05Less_c, Go.Proofs.Tryz.f168.results.toList, 36, s_l05Less_h⟩
/-! ### s_l05Merge -/
noncomputable def s_l05Merge_c : Code := (Go.Proofs.Tryz.f154.body).getD .skip
noncomputable def s_l05Merge_h : Nat → Option (List Hint)
  | 2 => some [.keep 0, .keep 1, .cell 5 (.row 450005 (.slice (.int .i64)) true false)]
  | _ => none
noncomputable def s_l05Merge_fi : Fi := ⟨[.v (.slice (.slice (.int .i64))) false, .v (.slice (.slice (.int .i64))) false], [(false, [⟨.slice (.slice (.int .i64)), some (true, false)⟩])], none, s_l05Merge_c, Go.Proofs.Tryz.f154.results.toList, 66, s_l05Merge_h⟩
/-! ### s_SortPackets -/
noncomputable def s_SortPackets_c : Code := (Go.Proofs.Tryz.f128.body).getD .skip
noncomputable def s_SortPackets_h : Nat → Option (List Hint)
  | _ => none
noncomputable def s_SortPackets_fi : Fi := ⟨[.v (.slice (.slice (.int .i64))) false], [(false, [⟨.slice (.slice (.int .i64)), some (true, false)⟩])], none, s_SortPackets_c, Go.Proofs.Tryz.f128.results.toList, 21, s_SortPackets_h⟩
/-! ### s_l16Next -/
noncomputable def s_l16Next_c : Code := (Go.Proofs.Tryz.f93.body).getD .skip
noncomputable def s_l16Next_h : Nat → Option (List Hint)
  | 8 => some [.box 2 200002 [.keep, .keep], .cell 5 (.row 100005 (.pair (.slice (.int .i64)) (.int .i64)) false false), .cell 42 (.row 100042 (.slice (.int .i64)) false false), .keep 43, .keep 44]
  | _ => none
noncomputable def s_l16Next_fi : Fi := ⟨[.v (.pair (.slice (.int .i64)) (.int .i64)) true, .v (.pair (.int .i64) (.pair (.pair (.int .i64) (.int .i64)) (.int .i64))) true], [(false, [⟨.slice (.pair (.slice (.int .i64)) (.int .i64)), some (false, false)⟩])], none, s_l16Next_c, Go.Proofs.Tryz.f93.results.toList, 57, s_l16Next_h⟩
/-! ### s_SameScene -/
noncomputable def s_SameScene_c : Code := (Go.Proofs.Tryz.f73.body).getD .skip
noncomputable def s_SameScene_h : Nat → Option (List Hint)
  | _ => none
noncomputable def s_SameScene_fi : Fi := ⟨[.v (.pair (.slice (.int .i64)) (.int .i64)) true, .v (.pair (.slice (.int .i64)) (.int .i64)) true], [(false, [⟨.bool, none⟩])], none, s_SameScene_c, Go.Proofs.Tryz.f73.results.toList, 17, s_SameScene_h⟩
/-! ### s_l17Find -/
noncomputable def s_l17Find_c : Code := (Go.Proofs.Tryz.f94.body).getD .skip
noncomputable def s_l17Find_h : Nat → Option (List Hint)
  | 2 => some [.box 3 200003 [.keep, .keep], .keep 7, .keep 8, .keep 9]
  | _ => none
noncomputable def s_l17Find_fi : Fi := ⟨[.v (.slice (.pair (.slice (.int .i64)) (.int .i64))) false, .v (.pair (.slice (.int .i64)) (.int .i64)) true], [(false, [⟨.int .i64, none⟩])], none, s_l17Find_c, Go.Proofs.Tryz.f94.results.toList, 19, s_l17Find_h⟩
/-! ### s_l17Ends -/
noncomputable def s_l17Ends_c : Code := (Go.Proofs.Tryz.f47.body).getD .skip
noncomputable def s_l17Ends_h : Nat → Option (List Hint)
  | 4 => some [.cell 5 (.row 100005 (.pair (.slice (.int .i64)) (.int .i64)) false false), .cell 6 (.row 100006 (.slice (.int .i64)) true false), .keep 25, .keep 26, .keep 27]
  | 9 => some [.cell 6 (.row 100006 (.slice (.int .i64)) false false), .box 8 200008 [.keep, .keep, .keep, .keep], .cell 9 (.row 100009 (.pair (.slice (.int .i64)) (.int .i64)) false false), .cell 10 (.row 100010 (.slice (.int .i64)) true false), .keep 25, .keep 26, .keep 27, .cell 33 (.row 100033 (.pair (.slice (.int .i64)) (.int .i64)) false false), .keep 34, .keep 35]
  | 12 => some [.cell 6 (.row 100006 (.slice (.int .i64)) false false), .box 8 200008 [.keep, .keep, .keep, .keep], .cell 9 (.row 100009 (.pair (.slice (.int .i64)) (.int .i64)) false false), .cell 10 (.row 100010 (.slice (.int .i64)) true false), .keep 11, .keep 25, .keep 26, .keep 27, .cell 33 (.row 100033 (.pair (.slice (.int .i64)) (.int .i64)) false false), .keep 34, .keep 35, .cell 42 (.row 100042 (.pair (.slice (.int .i64)) (.int .i64)) false false), .keep 43, .keep 44]
  | _ => none
noncomputable def s_l17Ends_fi : Fi := ⟨[.v (.pair (.slice (.int .i64)) (.pair (.slice (.pair (.int .i64) (.pair (.pair (.int .i64) (.int .i64)) (.int .i64)))) (.pair (.int .i64) (.pair (.int .i64) (.int .i64))))) true], [(false, [⟨.slice (.pair (.slice (.int .i64)) (.int .i64)), some (false, false)⟩]), (false, [⟨.slice (.slice (.int .i64)), some (true, false)⟩]), (false, [⟨.bool, none⟩])], none, s_l17Ends_c, Go.Proofs.Tryz.f47.results.toList, 84, s_l17Ends_h⟩
/-! ### s_AllScenes -/
noncomputable def s_AllScenes_c : Code := (Go.Proofs.Tryz.f16.body).getD .skip
noncomputable def s_AllScenes_h : Nat → Option (List Hint)
  | _ => none
noncomputable def s_AllScenes_fi : Fi := ⟨[.v (.pair (.slice (.int .i64)) (.pair (.slice (.pair (.int .i64) (.pair (.pair (.int .i64) (.int .i64)) (.int .i64)))) (.pair (.int .i64) (.pair (.int .i64) (.int .i64))))) true], [(false, [⟨.slice (.pair (.slice (.int .i64)) (.int .i64)), some (false, false)⟩]), (false, [⟨.bool, none⟩])], none, s_AllScenes_c, Go.Proofs.Tryz.f16.results.toList, 18, s_AllScenes_h⟩
/-! ### i_CardOf -/
noncomputable def i_CardOf_c : Code := (Go.Proofs.Tryz.f103.body).getD .skip
noncomputable def i_CardOf_h : Nat → Option (List Hint)
  | _ => none
noncomputable def i_CardOf_fi : Fi := ⟨[.v (.int .i64) false], [(false, [⟨.int .i64, none⟩])], none, i_CardOf_c, Go.Proofs.Tryz.f103.results.toList, 10, i_CardOf_h⟩
/-! ### i_PacketOk -/
noncomputable def i_PacketOk_c : Code := (Go.Proofs.Tryz.f95.body).getD .skip
noncomputable def i_PacketOk_h : Nat → Option (List Hint)
  | 3 => some [.arr 3 400003, .keep 7, .keep 8, .keep 9]
  | _ => none
noncomputable def i_PacketOk_fi : Fi := ⟨[.v (.slice (.int .i64)) false], [(false, [⟨.bool, none⟩])], none, i_PacketOk_c, Go.Proofs.Tryz.f95.results.toList, 25, i_PacketOk_h⟩
/-! ### i_MoveOk -/
noncomputable def i_MoveOk_c : Code := (Go.Proofs.Tryz.f130.body).getD .skip
noncomputable def i_MoveOk_h : Nat → Option (List Hint)
  | _ => none
noncomputable def i_MoveOk_fi : Fi := ⟨[.v (.int .i64) false, .v (.pair (.int .i64) (.int .i64)) true], [(false, [⟨.bool, none⟩])], none, i_MoveOk_c, Go.Proofs.Tryz.f130.results.toList, 45, i_MoveOk_h⟩
/-! ### i_StepOk -/
noncomputable def i_StepOk_c : Code := (Go.Proofs.Tryz.f96.body).getD .skip
noncomputable def i_StepOk_h : Nat → Option (List Hint)
  | _ => none
noncomputable def i_StepOk_fi : Fi := ⟨[.v (.int .i64) false, .v (.pair (.int .i64) (.pair (.pair (.int .i64) (.int .i64)) (.int .i64))) true], [(false, [⟨.bool, none⟩])], none, i_StepOk_c, Go.Proofs.Tryz.f96.results.toList, 75, i_StepOk_h⟩
/-! ### i_PositionOf_1 -/
noncomputable def i_PositionOf_1_c : Code := (Go.Proofs.Tryz.f132.body).getD .skip
noncomputable def i_PositionOf_1_h : Nat → Option (List Hint)
  | _ => none
noncomputable def i_PositionOf_1_fi : Fi := ⟨[.v (.int .i64) false, .r (.int .i64)], [(false, [⟨.bool, none⟩])], none, i_PositionOf_1_c, Go.Proofs.Tryz.f132.results.toList, 8, i_PositionOf_1_h⟩
/-! ### slices_IndexFunc_int_of_i_PositionOf_1 -/
noncomputable def slices_IndexFunc_int_of_i_PositionOf_1_c : Code := (Go.Proofs.Tryz.f131.body).getD .skip
noncomputable def slices_IndexFunc_int_of_i_PositionOf_1_h : Nat → Option (List Hint)
  | 2 => some [.keep 0, .keep 1, .keep 7, .keep 8]
  | _ => none
noncomputable def slices_IndexFunc_int_of_i_PositionOf_1_fi : Fi := ⟨[.v (.slice (.int .i64)) false, .fn 132 [.int .i64]], [(false, [⟨.int .i64, none⟩])], none, slices_IndexFunc_int_of_i_PositionOf_1_c, Go.Proofs.Tryz.f131.results.toList, 19, slices_IndexFunc_int_of_i_PositionOf_1_h⟩
/-! ### i_PositionOf -/
noncomputable def i_PositionOf_c : Code := (Go.Proofs.Tryz.f97.body).getD .skip
noncomputable def i_PositionOf_h : Nat → Option (List Hint)
  | _ => none
noncomputable def i_PositionOf_fi : Fi := ⟨[.v (.slice (.int .i64)) false, .v (.int .i64) false], [(false, [⟨.int .i64, none⟩])], none, i_PositionOf_c, Go.Proofs.Tryz.f97.results.toList, 10, i_PositionOf_h⟩
/-! ### i_TrickOk -/
noncomputable def i_TrickOk_c : Code := (Go.Proofs.Tryz.f48.body).getD .skip
noncomputable def i_TrickOk_h : Nat → Option (List Hint)
  | 6 => some [.box 1 200001 [.keep, .keep, .keep, .keep, .keep], .keep 3, .keep 4, .keep 25, .keep 26, .keep 27]
  | _ => none
noncomputable def i_TrickOk_fi : Fi := ⟨[.v (.pair (.slice (.int .i64)) (.pair (.slice (.pair (.int .i64) (.pair (.pair (.int .i64) (.int .i64)) (.int .i64)))) (.pair (.int .i64) (.pair (.int .i64) (.int .i64))))) true], [(false, [⟨.bool, none⟩])], none, i_TrickOk_c, Go.Proofs.Tryz.f48.results.toList, 109, i_TrickOk_h⟩
/-! ### slices_Clone_int -/
noncomputable def slices_Clone_int_c : Code := (Go.Proofs.Tryz.f108.body).getD .skip
noncomputable def slices_Clone_int_h : Nat → Option (List Hint)
  | _ => none
noncomputable def slices_Clone_int_fi : Fi := ⟨[.v (.slice (.int .i64)) false], [(false, [⟨.slice (.int .i64), some (true, false)⟩])], none, slices_Clone_int_c, Go.Proofs.Tryz.f108.results.toList, 8, slices_Clone_int_h⟩
/-! ### i_StartScene -/
noncomputable def i_StartScene_c : Code := (Go.Proofs.Tryz.f98.body).getD .skip
noncomputable def i_StartScene_h : Nat → Option (List Hint)
  | _ => none
noncomputable def i_StartScene_fi : Fi := ⟨[.v (.pair (.slice (.int .i64)) (.pair (.slice (.pair (.int .i64) (.pair (.pair (.int .i64) (.int .i64)) (.int .i64)))) (.pair (.int .i64) (.pair (.int .i64) (.int .i64))))) true], [(true, [⟨.slice (.int .i64), some (true, true)⟩, ⟨.int .i64, none⟩]), (false, [⟨.bool, none⟩])], none, i_StartScene_c, Go.Proofs.Tryz.f98.results.toList, 12, i_StartScene_h⟩
/-! ### slices_Grow_int -/
noncomputable abbrev slices_Grow_int_fi : Fi := growFi
/-! ### slices_Concat_int -/
noncomputable def slices_Concat_int_c : Code := (Go.Proofs.Tryz.f137.body).getD .skip
noncomputable def slices_Concat_int_h : Nat → Option (List Hint)
  | 3 => some [.keep 0, .keep 3, .keep 9, .keep 10, .keep 11]
  | 11 => some [.cell 6 (.row 100006 (.int .i64) true false), .keep 25, .keep 26, .keep 27]
  | _ => none
noncomputable def slices_Concat_int_fi : Fi := ⟨[.v (.slice (.slice (.int .i64))) false], [(false, [⟨.slice (.int .i64), some (true, false)⟩])], none, slices_Concat_int_c, Go.Proofs.Tryz.f137.results.toList, 36, slices_Concat_int_h⟩
/-! ### slices_Reverse_int -/
noncomputable abbrev slices_Reverse_int_fi : Fi := reverseFi
/-! ### i_reversed -/
noncomputable def i_reversed_c : Code := (Go.Proofs.Tryz.f138.body).getD .skip
noncomputable def i_reversed_h : Nat → Option (List Hint)
  | _ => none
noncomputable def i_reversed_fi : Fi := ⟨[.v (.slice (.int .i64)) false], [(false, [⟨.slice (.int .i64), some (true, false)⟩])], none, i_reversed_c, Go.Proofs.Tryz.f138.results.toList, 9, i_reversed_h⟩
/-! ### i_faro -/
noncomputable def i_faro_c : Code := (Go.Proofs.Tryz.f140.body).getD .skip
noncomputable def i_faro_h : Nat → Option (List Hint)
  | 4 => some [.keep 5, .keep 6, .cell 7 (.row 100007 (.int .i64) true true), .keep 8]
  | _ => none
noncomputable def i_faro_fi : Fi := ⟨[.v (.slice (.int .i64)) false, .v (.int .i64) false], [(false, [⟨.slice (.int .i64), some (true, true)⟩])], none, i_faro_c, Go.Proofs.Tryz.f140.results.toList, 59, i_faro_h⟩
/-! ### i_monge -/
noncomputable def i_monge_c : Code := (Go.Proofs.Tryz.f141.body).getD .skip
noncomputable def i_monge_h : Nat → Option (List Hint)
  | 3 => some [.keep 1, .cell 5 (.row 100005 (.int .i64) true false), .keep 8, .keep 9, .keep 10]
  | _ => none
noncomputable def i_monge_fi : Fi := ⟨[.v (.slice (.int .i64)) false, .v (.int .i64) false], [(false, [⟨.slice (.int .i64), some (true, false)⟩])], none, i_monge_c, Go.Proofs.Tryz.f141.results.toList, 34, i_monge_h⟩
/-! ### i_milk -/
noncomputable def i_milk_c : Code := (Go.Proofs.Tryz.f142.body).getD .skip
noncomputable def i_milk_h : Nat → Option (List Hint)
  | 2 => some [.keep 0, .cell 3 (.row 100003 (.int .i64) true false)]
  | _ => none
noncomputable def i_milk_fi : Fi := ⟨[.v (.slice (.int .i64)) false], [(false, [⟨.slice (.int .i64), some (true, false)⟩])], none, i_milk_c, Go.Proofs.Tryz.f142.results.toList, 28, i_milk_h⟩
/-! ### i_dealt -/
noncomputable def i_dealt_c : Code := (Go.Proofs.Tryz.f143.body).getD .skip
noncomputable def i_dealt_h : Nat → Option (List Hint)
  | 4 => some [.cell 5 (.row 100005 (.int .i64) true true), .cell 6 (.row 100006 (.int .i64) true false), .keep 7]
  | _ => none
noncomputable def i_dealt_fi : Fi := ⟨[.v (.slice (.int .i64)) false, .v (.int .i64) false], [(false, [⟨.slice (.int .i64), some (true, true)⟩])], none, i_dealt_c, Go.Proofs.Tryz.f143.results.toList, 35, i_dealt_h⟩
/-! ### i_TurnCard -/
noncomputable def i_TurnCard_c : Code := (Go.Proofs.Tryz.f139.body).getD .skip
noncomputable def i_TurnCard_h : Nat → Option (List Hint)
  | _ => none
noncomputable def i_TurnCard_fi : Fi := ⟨[.v (.int .i64) false], [(false, [⟨.int .i64, none⟩])], none, i_TurnCard_c, Go.Proofs.Tryz.f139.results.toList, 9, i_TurnCard_h⟩
/-! ### i_moved -/
noncomputable def i_moved_c : Code := (Go.Proofs.Tryz.f107.body).getD .skip
noncomputable def i_moved_h : Nat → Option (List Hint)
  | 10 => some [.keep 5, .cell 6 (.row 100006 (.int .i64) true false), .keep 7]
  | _ => none
noncomputable def i_moved_fi : Fi := ⟨[.v (.slice (.int .i64)) false, .v (.pair (.int .i64) (.int .i64)) true], [(false, [⟨.slice (.int .i64), some (true, false)⟩])], none, i_moved_c, Go.Proofs.Tryz.f107.results.toList, 106, i_moved_h⟩
/-! ### i_cuts -/
noncomputable def i_cuts_c : Code := (Go.Proofs.Tryz.f159.body).getD .skip
noncomputable def i_cuts_h : Nat → Option (List Hint)
  | 3 => some [.keep 0, .cell 3 (.row 100003 (.slice (.int .i64)) true true), .keep 6, .keep 7]
  | _ => none
noncomputable def i_cuts_fi : Fi := ⟨[.v (.slice (.int .i64)) false], [(false, [⟨.slice (.slice (.int .i64)), some (true, true)⟩])], none, i_cuts_c, Go.Proofs.Tryz.f159.results.toList, 19, i_cuts_h⟩
/-! ### i_riffled -/
noncomputable def i_riffled_c : Code := (Go.Proofs.Tryz.f160.body).getD .skip
noncomputable def i_riffled_h : Nat → Option (List Hint)
  | 3 => some [.keep 0, .keep 1, .keep 5, .keep 6, .keep 11, .keep 12]
  | 9 => some [.keep 0, .keep 1, .keep 5, .keep 6, .cell 8 (.row 100008 (.int .i64) true true), .keep 24, .keep 25]
  | _ => none
noncomputable def i_riffled_fi : Fi := ⟨[.v (.slice (.int .i64)) false, .v (.int .i64) false], [(false, [⟨.slice (.int .i64), some (true, true)⟩])], none, i_riffled_c, Go.Proofs.Tryz.f160.results.toList, 53, i_riffled_h⟩
/-! ### i_all -/
noncomputable def i_all_c : Code := (Go.Proofs.Tryz.f144.body).getD .skip
noncomputable def i_all_h : Nat → Option (List Hint)
  | 9 => some [.keep 0, .cell 6 (.row 100006 (.slice (.int .i64)) true true), .keep 7]
  | 20 => some [.keep 0, .cell 8 (.row 100008 (.slice (.int .i64)) true true), .keep 48, .keep 49]
  | _ => none
noncomputable def i_all_fi : Fi := ⟨[.v (.slice (.int .i64)) false, .v (.int .i64) false], [(false, [⟨.slice (.slice (.int .i64)), some (true, false)⟩]), (false, [⟨.bool, none⟩])], none, i_all_c, Go.Proofs.Tryz.f144.results.toList, 71, i_all_h⟩
/-! ### slices_SortFunc_int_int -/
noncomputable abbrev slices_SortFunc_int_int_fi : Fi := (sortFi 162)
/-! ### slices_CompactFunc_int_int -/
noncomputable abbrev slices_CompactFunc_int_int_fi : Fi := compactFi
/-! ### i_SortPackets -/
noncomputable def i_SortPackets_c : Code := (Go.Proofs.Tryz.f145.body).getD .skip
noncomputable def i_SortPackets_h : Nat → Option (List Hint)
  | 3 => some [.cell 3 (.row 100003 (.slice (.int .i64)) true true), .keep 6, .keep 7, .keep 8]
  | _ => none
noncomputable def i_SortPackets_fi : Fi := ⟨[.v (.slice (.slice (.int .i64))) false], [(false, [⟨.slice (.slice (.int .i64)), some (true, false)⟩])], none, i_SortPackets_c, Go.Proofs.Tryz.f145.results.toList, 22, i_SortPackets_h⟩
/-! ### i_ResultsOf -/
noncomputable def i_ResultsOf_c : Code := (Go.Proofs.Tryz.f109.body).getD .skip
noncomputable def i_ResultsOf_h : Nat → Option (List Hint)
  | _ => none
noncomputable def i_ResultsOf_fi : Fi := ⟨[.v (.slice (.int .i64)) false, .v (.int .i64) false], [(false, [⟨.slice (.slice (.int .i64)), some (true, false)⟩]), (false, [⟨.bool, none⟩])], none, i_ResultsOf_c, Go.Proofs.Tryz.f109.results.toList, 33, i_ResultsOf_h⟩
/-! ### i_NextScenes -/
noncomputable def i_NextScenes_c : Code := (Go.Proofs.Tryz.f59.body).getD .skip
noncomputable def i_NextScenes_h : Nat → Option (List Hint)
  | 11 => some [.box 2 200002 [.keep, .keep], .cell 5 (.row 100005 (.pair (.slice (.int .i64)) (.int .i64)) true true), .cell 67 (.row 440067 (.slice (.int .i64)) true false), .keep 68, .keep 69]
  | _ => none
noncomputable def i_NextScenes_fi : Fi := ⟨[.v (.pair (.slice (.int .i64)) (.int .i64)) true, .v (.pair (.int .i64) (.pair (.pair (.int .i64) (.int .i64)) (.int .i64))) true], [(false, [⟨.slice (.pair (.slice (.int .i64)) (.int .i64)), some (true, false)⟩])], none, i_NextScenes_c, Go.Proofs.Tryz.f59.results.toList, 82, i_NextScenes_h⟩
/-! ### strconv_Itoa -/
noncomputable abbrev strconv_Itoa_fi : Fi := itoaFi
/-! ### i_FormatInt -/
noncomputable def i_FormatInt_c : Code := (Go.Proofs.Tryz.f85.body).getD .skip
noncomputable def i_FormatInt_h : Nat → Option (List Hint)
  | _ => none
noncomputable def i_FormatInt_fi : Fi := ⟨[.v (.int .i64) false], [(false, [⟨.str, none⟩])], none, i_FormatInt_c, Go.Proofs.Tryz.f85.results.toList, 5, i_FormatInt_h⟩
/-! ### i_numbersOf -/
noncomputable def i_numbersOf_c : Code := (Go.Proofs.Tryz.f119.body).getD .skip
noncomputable def i_numbersOf_h : Nat → Option (List Hint)
  | 3 => some [.cell 3 (.row 100003 (.str) true true), .keep 6, .keep 7, .keep 8]
  | _ => none
noncomputable def i_numbersOf_fi : Fi := ⟨[.v (.slice (.int .i64)) false], [(false, [⟨.slice (.str), some (true, true)⟩])], none, i_numbersOf_c, Go.Proofs.Tryz.f119.results.toList, 19, i_numbersOf_h⟩
/-! ### strings_Join -/
noncomputable abbrev strings_Join_fi : Fi := joinFi
/-! ### i_Join -/
noncomputable def i_Join_c : Code := (Go.Proofs.Tryz.f118.body).getD .skip
noncomputable def i_Join_h : Nat → Option (List Hint)
  | _ => none
noncomputable def i_Join_fi : Fi := ⟨[.v (.slice (.str)) false, .v (.str) false], [(false, [⟨.str, none⟩])], none, i_Join_c, Go.Proofs.Tryz.f118.results.toList, 8, i_Join_h⟩
/-! ### i_FormatPicks -/
noncomputable def i_FormatPicks_c : Code := (Go.Proofs.Tryz.f86.body).getD .skip
noncomputable def i_FormatPicks_h : Nat → Option (List Hint)
  | _ => none
noncomputable def i_FormatPicks_fi : Fi := ⟨[.v (.slice (.int .i64)) false], [(false, [⟨.str, none⟩])], none, i_FormatPicks_c, Go.Proofs.Tryz.f86.results.toList, 9, i_FormatPicks_h⟩
/-! ### i_keyOf -/
noncomputable def i_keyOf_c : Code := (Go.Proofs.Tryz.f62.body).getD .skip
noncomputable def i_keyOf_h : Nat → Option (List Hint)
  | _ => none
noncomputable def i_keyOf_fi : Fi := ⟨[.v (.pair (.slice (.int .i64)) (.int .i64)) true], [(false, [⟨.str, none⟩])], none, i_keyOf_c, Go.Proofs.Tryz.f62.results.toList, 11, i_keyOf_h⟩
/-! ### i_levels -/
noncomputable def i_levels_c : Code := (Go.Proofs.Tryz.f49.body).getD .skip
noncomputable def i_levels_h : Nat → Option (List Hint)
  | 4 => some [.cell 6 (.row 450006 (.slice (.pair (.slice (.int .i64)) (.int .i64))) true false), .keep 25, .keep 26, .keep 27]
  | 9 => some [.cell 6 (.row 420006 (.pair (.slice (.int .i64)) (.int .i64)) true false), .box 8 200008 [.keep, .keep, .keep, .keep], .cell 9 (.row 430009 (.bool) false false), .cell 10 (.row 450010 (.pair (.slice (.int .i64)) (.int .i64)) true true), .keep 25, .keep 26, .keep 27, .cell 36 (.row 450036 (.pair (.slice (.int .i64)) (.int .i64)) true false), .keep 37, .keep 38]
  | 12 => some [.cell 6 (.row 420006 (.pair (.slice (.int .i64)) (.int .i64)) true false), .box 8 200008 [.keep, .keep, .keep, .keep], .cell 9 (.row 430009 (.bool) false false), .cell 10 (.row 450010 (.pair (.slice (.int .i64)) (.int .i64)) true true), .keep 25, .keep 26, .keep 27, .cell 36 (.row 450036 (.pair (.slice (.int .i64)) (.int .i64)) true false), .keep 37, .keep 38, .cell 44 (.row 440044 (.pair (.slice (.int .i64)) (.int .i64)) true false), .keep 45, .keep 46]
  | _ => none
noncomputable def i_levels_fi : Fi := ⟨[.v (.pair (.slice (.int .i64)) (.pair (.slice (.pair (.int .i64) (.pair (.pair (.int .i64) (.int .i64)) (.int .i64)))) (.pair (.int .i64) (.pair (.int .i64) (.int .i64))))) true], [(false, [⟨.slice (.slice (.pair (.slice (.int .i64)) (.int .i64))), some (true, false)⟩]), (false, [⟨.bool, none⟩])], none, i_levels_c, Go.Proofs.Tryz.f49.results.toList, 73, i_levels_h⟩
/-! ### i_AllScenes -/
noncomputable def i_AllScenes_c : Code := (Go.Proofs.Tryz.f17.body).getD .skip
noncomputable def i_AllScenes_h : Nat → Option (List Hint)
  | _ => none
noncomputable def i_AllScenes_fi : Fi := ⟨[.v (.pair (.slice (.int .i64)) (.pair (.slice (.pair (.int .i64) (.pair (.pair (.int .i64) (.int .i64)) (.int .i64)))) (.pair (.int .i64) (.pair (.int .i64) (.int .i64))))) true], [(false, [⟨.slice (.pair (.slice (.int .i64)) (.int .i64)), some (true, false)⟩]), (false, [⟨.bool, none⟩])], none, i_AllScenes_c, Go.Proofs.Tryz.f17.results.toList, 22, i_AllScenes_h⟩
/-! ### w_eqIntS -/
noncomputable def w_eqIntS_c : Code := (Go.Proofs.Tryz.f44.body).getD .skip
noncomputable def w_eqIntS_h : Nat → Option (List Hint)
  | 4 => some [.keep 0, .keep 1, .keep 5]
  | _ => none
noncomputable def w_eqIntS_fi : Fi := ⟨[.v (.slice (.int .i64)) false, .v (.slice (.int .i64)) false], [(false, [⟨.bool, none⟩])], none, w_eqIntS_c, Go.Proofs.Tryz.f44.results.toList, 26, w_eqIntS_h⟩
/-! ### w_eqScene -/
noncomputable def w_eqScene_c : Code := (Go.Proofs.Tryz.f50.body).getD .skip
noncomputable def w_eqScene_h : Nat → Option (List Hint)
  | _ => none
noncomputable def w_eqScene_fi : Fi := ⟨[.v (.pair (.slice (.int .i64)) (.int .i64)) true, .v (.pair (.slice (.int .i64)) (.int .i64)) true], [(false, [⟨.bool, none⟩])], none, w_eqScene_c, Go.Proofs.Tryz.f50.results.toList, 16, w_eqScene_h⟩
/-! ### w_eqSceneS -/
noncomputable def w_eqSceneS_c : Code := (Go.Proofs.Tryz.f18.body).getD .skip
noncomputable def w_eqSceneS_h : Nat → Option (List Hint)
  | 4 => some [.keep 0, .keep 1, .keep 5]
  | _ => none
noncomputable def w_eqSceneS_fi : Fi := ⟨[.v (.slice (.pair (.slice (.int .i64)) (.int .i64))) false, .v (.slice (.pair (.slice (.int .i64)) (.int .i64))) false], [(false, [⟨.bool, none⟩])], none, w_eqSceneS_c, Go.Proofs.Tryz.f18.results.toList, 27, w_eqSceneS_h⟩
/-! ### w_eqMove -/
noncomputable def w_eqMove_c : Code := (Go.Proofs.Tryz.f122.body).getD .skip
noncomputable def w_eqMove_h : Nat → Option (List Hint)
  | _ => none
noncomputable def w_eqMove_fi : Fi := ⟨[.v (.pair (.int .i64) (.int .i64)) true, .v (.pair (.int .i64) (.int .i64)) true], [(false, [⟨.bool, none⟩])], none, w_eqMove_c, Go.Proofs.Tryz.f122.results.toList, 15, w_eqMove_h⟩
/-! ### w_eqStep -/
noncomputable def w_eqStep_c : Code := (Go.Proofs.Tryz.f89.body).getD .skip
noncomputable def w_eqStep_h : Nat → Option (List Hint)
  | _ => none
noncomputable def w_eqStep_fi : Fi := ⟨[.v (.pair (.int .i64) (.pair (.pair (.int .i64) (.int .i64)) (.int .i64))) true, .v (.pair (.int .i64) (.pair (.pair (.int .i64) (.int .i64)) (.int .i64))) true], [(false, [⟨.bool, none⟩])], none, w_eqStep_c, Go.Proofs.Tryz.f89.results.toList, 21, w_eqStep_h⟩
/-! ### w_eqStepS -/
noncomputable def w_eqStepS_c : Code := (Go.Proofs.Tryz.f45.body).getD .skip
noncomputable def w_eqStepS_h : Nat → Option (List Hint)
  | 4 => some [.keep 0, .keep 1, .keep 5]
  | _ => none
noncomputable def w_eqStepS_fi : Fi := ⟨[.v (.slice (.pair (.int .i64) (.pair (.pair (.int .i64) (.int .i64)) (.int .i64)))) false, .v (.slice (.pair (.int .i64) (.pair (.pair (.int .i64) (.int .i64)) (.int .i64)))) false], [(false, [⟨.bool, none⟩])], none, w_eqStepS_c, Go.Proofs.Tryz.f45.results.toList, 27, w_eqStepS_h⟩
/-! ### w_eqTrick -/
noncomputable def w_eqTrick_c : Code := (Go.Proofs.Tryz.f15.body).getD .skip
noncomputable def w_eqTrick_h : Nat → Option (List Hint)
  | _ => none
noncomputable def w_eqTrick_fi : Fi := ⟨[.v (.pair (.slice (.int .i64)) (.pair (.slice (.pair (.int .i64) (.pair (.pair (.int .i64) (.int .i64)) (.int .i64)))) (.pair (.int .i64) (.pair (.int .i64) (.int .i64))))) true, .v (.pair (.slice (.int .i64)) (.pair (.slice (.pair (.int .i64) (.pair (.pair (.int .i64) (.int .i64)) (.int .i64)))) (.pair (.int .i64) (.pair (.int .i64) (.int .i64))))) true], [(false, [⟨.bool, none⟩])], none, w_eqTrick_c, Go.Proofs.Tryz.f15.results.toList, 32, w_eqTrick_h⟩
/-! ### w_markIntS -/
noncomputable def w_markIntS_c : Code := (Go.Proofs.Tryz.f51.body).getD .skip
noncomputable def w_markIntS_h : Nat → Option (List Hint)
  | 2 => some [.cell 0 (.row 500000 (.int .i64) true false), .keep 1, .keep 5]
  | _ => none
noncomputable def w_markIntS_fi : Fi := ⟨[.o [.o (.int .i64) true] false, .v (.int .i64) false], [(false, [⟨.int .i64, none⟩])], none, w_markIntS_c, Go.Proofs.Tryz.f51.results.toList, 19, w_markIntS_h⟩
/-! ### w_markStepS -/
noncomputable def w_markStepS_c : Code := (Go.Proofs.Tryz.f52.body).getD .skip
noncomputable def w_markStepS_h : Nat → Option (List Hint)
  | 2 => some [.cell 0 (.row 500000 (.pair (.int .i64) (.pair (.pair (.int .i64) (.int .i64)) (.int .i64))) true false), .keep 1, .keep 5]
  | _ => none
noncomputable def w_markStepS_fi : Fi := ⟨[.o [.o (.pair (.int .i64) (.pair (.pair (.int .i64) (.int .i64)) (.int .i64))) true] false, .v (.int .i64) false], [(false, [⟨.int .i64, none⟩])], none, w_markStepS_c, Go.Proofs.Tryz.f52.results.toList, 43, w_markStepS_h⟩
/-! ### w_markTrick -/
noncomputable def w_markTrick_c : Code := (Go.Proofs.Tryz.f19.body).getD .skip
noncomputable def w_markTrick_h : Nat → Option (List Hint)
  | _ => none
noncomputable def w_markTrick_fi : Fi := ⟨[.o [.o (.int .i64) true, .o (.pair (.int .i64) (.pair (.pair (.int .i64) (.int .i64)) (.int .i64))) true, .v (.int .i64), .v (.int .i64), .v (.int .i64)] true, .v (.int .i64) false], [(false, [⟨.int .i64, none⟩])], none, w_markTrick_c, Go.Proofs.Tryz.f19.results.toList, 14, w_markTrick_h⟩
/-! ### w_markSceneS -/
noncomputable def w_markSceneS_c : Code := (Go.Proofs.Tryz.f20.body).getD .skip
noncomputable def w_markSceneS_h : Nat → Option (List Hint)
  | 2 => some [.cell 0 (.row 500000 (.pair (.slice (.int .i64)) (.int .i64)) true false), .keep 1, .keep 5]
  | _ => none
noncomputable def w_markSceneS_fi : Fi := ⟨[.o [.o (.pair (.slice (.int .i64)) (.int .i64)) true] false, .v (.int .i64) false], [(false, [⟨.int .i64, none⟩])], none, w_markSceneS_c, Go.Proofs.Tryz.f20.results.toList, 27, w_markSceneS_h⟩
/-! ### w_heldIntS -/
noncomputable def w_heldIntS_c : Code := (Go.Proofs.Tryz.f53.body).getD .skip
noncomputable def w_heldIntS_h : Nat → Option (List Hint)
  | 2 => some [.keep 0, .keep 1, .keep 5]
  | _ => none
noncomputable def w_heldIntS_fi : Fi := ⟨[.v (.slice (.int .i64)) false, .v (.int .i64) false], [(false, [⟨.int .i64, none⟩])], none, w_heldIntS_c, Go.Proofs.Tryz.f53.results.toList, 21, w_heldIntS_h⟩
/-! ### w_heldSceneS -/
noncomputable def w_heldSceneS_c : Code := (Go.Proofs.Tryz.f21.body).getD .skip
noncomputable def w_heldSceneS_h : Nat → Option (List Hint)
  | 2 => some [.keep 0, .keep 1, .keep 5]
  | _ => none
noncomputable def w_heldSceneS_fi : Fi := ⟨[.v (.slice (.pair (.slice (.int .i64)) (.int .i64))) false, .v (.int .i64) false], [(false, [⟨.int .i64, none⟩])], none, w_heldSceneS_c, Go.Proofs.Tryz.f21.results.toList, 31, w_heldSceneS_h⟩
/-! ### w_FnExactAllScenes -/
noncomputable def w_FnExactAllScenes_c : Code := (Go.Proofs.Tryz.f4.body).getD .skip
noncomputable def w_FnExactAllScenes_h : Nat → Option (List Hint)
  | _ => none
noncomputable def w_FnExactAllScenes_fi : Fi := ⟨[.v (.pair (.slice (.int .i64)) (.pair (.slice (.pair (.int .i64) (.pair (.pair (.int .i64) (.int .i64)) (.int .i64)))) (.pair (.int .i64) (.pair (.int .i64) (.int .i64))))) true], [(false, [⟨.bool, none⟩])], none, w_FnExactAllScenes_c, Go.Proofs.Tryz.f4.results.toList, 96, w_FnExactAllScenes_h⟩

noncomputable def fnL : List (Nat × List Nat × Fi) := [(40, [], w_szIntS_fi),
  (41, [], w_szStepS_fi),
  (11, [], w_szTrick_fi),
  (42, [], w_toIntS_fi),
  (121, [], w_toMove_fi),
  (88, [], w_toStep_fi),
  (43, [], w_toStepS_fi),
  (13, [], w_toTrick_fi),
  (67, [], s_l01In_fi),
  (123, [], s_CardOf_fi),
  (124, [], s_l02Has_fi),
  (90, [], s_PacketOk_fi),
  (125, [], s_MoveOk_fi),
  (126, [], s_l16Choice_fi),
  (91, [], s_StepOk_fi),
  (99, [], s_PositionOf_fi),
  (92, [], s_l16Claim_fi),
  (46, [], s_TrickOk_fi),
  (153, [], s_TurnCard_fi),
  (148, [], s_l04Back_fi),
  (149, [], s_l04Faro_fi),
  (150, [], s_l04Monge_fi),
  (151, [], s_l04Milk_fi),
  (152, [], s_l04Duck_fi),
  (127, [], s_l04Do_fi),
  (155, [], s_l05Cuts_fi),
  (156, [], s_l05Weave_fi),
  (129, [], s_l05Of_fi),
  (101, [], s_SamePacket_fi),
  (168, [], s_l05Less_fi),
  (154, [], s_l05Merge_fi),
  (128, [], s_SortPackets_fi),
  (93, [], s_l16Next_fi),
  (73, [], s_SameScene_fi),
  (94, [], s_l17Find_fi),
  (47, [], s_l17Ends_fi),
  (16, [], s_AllScenes_fi),
  (103, [], i_CardOf_fi),
  (95, [], i_PacketOk_fi),
  (130, [], i_MoveOk_fi),
  (96, [], i_StepOk_fi),
  (132, [], i_PositionOf_1_fi),
  (131, [132], slices_IndexFunc_int_of_i_PositionOf_1_fi),
  (97, [], i_PositionOf_fi),
  (48, [], i_TrickOk_fi),
  (108, [], slices_Clone_int_fi),
  (98, [], i_StartScene_fi),
  (157, [], slices_Grow_int_fi),
  (137, [], slices_Concat_int_fi),
  (158, [], slices_Reverse_int_fi),
  (138, [], i_reversed_fi),
  (140, [], i_faro_fi),
  (141, [], i_monge_fi),
  (142, [], i_milk_fi),
  (143, [], i_dealt_fi),
  (139, [], i_TurnCard_fi),
  (107, [], i_moved_fi),
  (159, [], i_cuts_fi),
  (160, [], i_riffled_fi),
  (144, [], i_all_fi),
  (161, [162], slices_SortFunc_int_int_fi),
  (163, [105], slices_CompactFunc_int_int_fi),
  (145, [], i_SortPackets_fi),
  (109, [], i_ResultsOf_fi),
  (59, [], i_NextScenes_fi),
  (117, [], strconv_Itoa_fi),
  (85, [], i_FormatInt_fi),
  (119, [], i_numbersOf_fi),
  (147, [], strings_Join_fi),
  (118, [], i_Join_fi),
  (86, [], i_FormatPicks_fi),
  (62, [], i_keyOf_fi),
  (49, [], i_levels_fi),
  (17, [], i_AllScenes_fi),
  (44, [], w_eqIntS_fi),
  (50, [], w_eqScene_fi),
  (18, [], w_eqSceneS_fi),
  (122, [], w_eqMove_fi),
  (89, [], w_eqStep_fi),
  (45, [], w_eqStepS_fi),
  (15, [], w_eqTrick_fi),
  (51, [], w_markIntS_fi),
  (52, [], w_markStepS_fi),
  (19, [], w_markTrick_fi),
  (20, [], w_markSceneS_fi),
  (53, [], w_heldIntS_fi),
  (21, [], w_heldSceneS_fi),
  (4, [], w_FnExactAllScenes_fi)]
noncomputable def E : Env := ⟨lookT tyL, lookF fnL⟩

noncomputable def w_szIntS (k : Nat) (x : (List Int) × Int) : Option (Int) := aFn E w_szIntS_fi k x
noncomputable def w_szStepS (k : Nat) (x : (List (Int × (Int × Int) × Int)) × Int) : Option (Int) := aFn E w_szStepS_fi k x
noncomputable def w_szTrick (k : Nat) (x : ((List Int) × (List (Int × (Int × Int) × Int)) × Int × Int × Int) × Int) : Option (Int) := aFn E w_szTrick_fi k x
noncomputable def w_toIntS (k : Nat) (x : List Int) : Option (List Int) := aFn E w_toIntS_fi k x
noncomputable def w_toIntS_l3 (k : Nat) (v0 : List Int) (v4 : Int) (o100003 : List Int) : Option (List Int) := aRun E k w_toIntS_fi.rs (ioOf w_toIntS_fi.ps) w_toIntS_fi.res w_toIntS_fi.hints [.code (sub w_toIntS_c [1, 1, 0, 1, 0, 0, 0, 0]), .code (sub w_toIntS_c [1, 1, 0, 1, 0, 0, 0, 1]), .code (sub w_toIntS_c [1, 1, 0, 1, 0, 0, 1]), .inLoop (sub w_toIntS_c [1, 1, 0, 1, 0, 0]), .inBlock 0, .code (sub w_toIntS_c [1, 1, 1])] ⟨[.cv (.val (.slice (.int .i64)) v0), .cv .dead, .cv .dead, .cv (.own 100003), .cv (.val (.int .i64) v4), .cv .dead, .cv .dead, .cv .dead, .cv .dead, .cv .dead, .cv .dead, .cv .dead, .cv .dead, .cv .dead, .cv .dead, .cv .dead, .cv .dead, .cv .dead, .cv .dead, .cv .dead, .cv .dead, .cv .dead], [(100003, .row (.int .i64) o100003 true false)], true⟩
noncomputable def w_toMove (k : Nat) (x : Int × Int) : Option (Int × Int) := aFn E w_toMove_fi k x
noncomputable def w_toStep (k : Nat) (x : Int × (Int × Int) × Int) : Option (Int × Int × Int × Int) := aFn E w_toStep_fi k x
noncomputable def w_toStepS (k : Nat) (x : List (Int × (Int × Int) × Int)) : Option (List (Int × (Int × Int) × Int)) := aFn E w_toStepS_fi k x
noncomputable def w_toStepS_l3 (k : Nat) (v0 : List (Int × (Int × Int) × Int)) (v4 : Int) (o100003 : List (Int × (Int × Int) × Int)) : Option (List (Int × (Int × Int) × Int)) := aRun E k w_toStepS_fi.rs (ioOf w_toStepS_fi.ps) w_toStepS_fi.res w_toStepS_fi.hints [.code (sub w_toStepS_c [1, 1, 0, 1, 0, 0, 0, 0]), .code (sub w_toStepS_c [1, 1, 0, 1, 0, 0, 0, 1]), .code (sub w_toStepS_c [1, 1, 0, 1, 0, 0, 1]), .inLoop (sub w_toStepS_c [1, 1, 0, 1, 0, 0]), .inBlock 0, .code (sub w_toStepS_c [1, 1, 1])] ⟨[.cv (.val (.slice (.pair (.int .i64) (.pair (.pair (.int .i64) (.int .i64)) (.int .i64)))) v0), .cv .dead, .cv .dead, .cv (.own 100003), .cv (.val (.int .i64) v4), .cv .dead, .cv .dead, .cv .dead, .cv .dead, .cv .dead, .cv .dead, .cv .dead, .cv .dead, .cv .dead, .cv .dead, .cv .dead, .cv .dead, .cv .dead, .cv .dead, .cv .dead, .cv .dead, .cv .dead, .cv .dead], [(100003, .row (.pair (.int .i64) (.pair (.pair (.int .i64) (.int .i64)) (.int .i64))) o100003 true false)], true⟩
noncomputable def w_toTrick (k : Nat) (x : (List Int) × (List (Int × (Int × Int) × Int)) × Int × Int × Int) : Option ((List Int) × (List (Int × (Int × Int) × Int)) × Int × Int × Int) := aFn E w_toTrick_fi k x
noncomputable def s_l01In (k : Nat) (x : Int × Int × Int) : Option (Bool) := aFn E s_l01In_fi k x
noncomputable def s_CardOf (k : Nat) (x : Int) : Option (Int) := aFn E s_CardOf_fi k x
noncomputable def s_l02Has (k : Nat) (x : (List Int) × Int) : Option (Bool) := aFn E s_l02Has_fi k x
noncomputable def s_l02Has_l2 (k : Nat) (v1 : Int) (v7 : List Int) (v8 : Int) (v9 : Int) : Option (Bool) := aRun E k s_l02Has_fi.rs (ioOf s_l02Has_fi.ps) s_l02Has_fi.res s_l02Has_fi.hints [.code (sub s_l02Has_c [1, 0, 1, 0, 0, 0]), .code (sub s_l02Has_c [1, 0, 1, 0, 0, 1]), .inLoop (sub s_l02Has_c [1, 0, 1, 0, 0]), .inBlock 0, .code (sub s_l02Has_c [1, 1])] ⟨[.cv .dead, .cv (.val (.int .i64) v1), .cv .dead, .cv .dead, .cv .dead, .cv .dead, .cv .dead, .cv (.val (.slice (.int .i64)) v7), .cv (.val (.int .i64) v8), .cv (.val (.int .i64) v9), .cv .dead, .cv .dead, .cv .dead, .cv .dead, .cv .dead, .cv .dead, .cv .dead], [], true⟩
noncomputable def s_PacketOk (k : Nat) (x : List Int) : Option (Bool) := aFn E s_PacketOk_fi k x
noncomputable def s_PacketOk_l5 (k : Nat) (v11 : List Int) (v12 : Int) (v13 : Int) (o100003 : List Int) : Option (Bool) := aRun E k s_PacketOk_fi.rs (ioOf s_PacketOk_fi.ps) s_PacketOk_fi.res s_PacketOk_fi.hints [.code (sub s_PacketOk_c [1, 1, 1, 0, 1, 0, 0, 0]), .code (sub s_PacketOk_c [1, 1, 1, 0, 1, 0, 0, 1]), .inLoop (sub s_PacketOk_c [1, 1, 1, 0, 1, 0, 0]), .inBlock 0, .code (sub s_PacketOk_c [1, 1, 1, 1])] ⟨[.cv .dead, .cv .dead, .cv .dead, .cv (.own 100003), .cv .dead, .cv .dead, .cv .dead, .cv .dead, .cv .dead, .cv .dead, .cv .dead, .cv (.val (.slice (.int .i64)) v11), .cv (.val (.int .i64) v12), .cv (.val (.int .i64) v13), .cv .dead, .cv .dead, .cv .dead, .cv .dead, .cv .dead, .cv .dead, .cv .dead, .cv .dead, .cv .dead, .cv .dead, .cv .dead, .cv .dead, .cv .dead, .cv .dead, .cv .dead, .cv .dead, .cv .dead], [(100003, .row (.int .i64) o100003 true false)], true⟩
noncomputable def s_MoveOk (k : Nat) (x : Int × Int × Int) : Option (Bool) := aFn E s_MoveOk_fi k x
noncomputable def s_l16Choice (k : Nat) (x : Int × Int) : Option (Bool) := aFn E s_l16Choice_fi k x
noncomputable def s_StepOk (k : Nat) (x : Int × Int × (Int × Int) × Int) : Option (Bool) := aFn E s_StepOk_fi k x
noncomputable def s_PositionOf (k : Nat) (x : (List Int) × Int) : Option (Int) := aFn E s_PositionOf_fi k x
noncomputable def s_PositionOf_l2 (k : Nat) (v1 : Int) (v7 : List Int) (v8 : Int) (v9 : Int) : Option (Int) := aRun E k s_PositionOf_fi.rs (ioOf s_PositionOf_fi.ps) s_PositionOf_fi.res s_PositionOf_fi.hints [.code (sub s_PositionOf_c [1, 0, 1, 0, 0, 0]), .code (sub s_PositionOf_c [1, 0, 1, 0, 0, 1]), .inLoop (sub s_PositionOf_c [1, 0, 1, 0, 0]), .inBlock 0, .code (sub s_PositionOf_c [1, 1])] ⟨[.cv .dead, .cv (.val (.int .i64) v1), .cv .dead, .cv .dead, .cv .dead, .cv .dead, .cv .dead, .cv (.val (.slice (.int .i64)) v7), .cv (.val (.int .i64) v8), .cv (.val (.int .i64) v9), .cv .dead, .cv .dead, .cv .dead, .cv .dead, .cv .dead, .cv .dead, .cv .dead, .cv .dead, .cv .dead, .cv .dead, .cv .dead, .cv .dead, .cv .dead, .cv .dead], [], true⟩
noncomputable def s_l16Claim (k : Nat) (x : ((List Int) × (List (Int × (Int × Int) × Int)) × Int × Int × Int) × Int × Bool) : Option (Bool) := aFn E s_l16Claim_fi k x
noncomputable def s_TrickOk (k : Nat) (x : (List Int) × (List (Int × (Int × Int) × Int)) × Int × Int × Int) : Option (Bool) := aFn E s_TrickOk_fi k x
noncomputable def s_TrickOk_l6 (k : Nat) (v3 : Int) (v4 : Bool) (v25 : List (Int × (Int × Int) × Int)) (v26 : Int) (v27 : Int) (o200001_0 : List Int) (o200001_1 : List (Int × (Int × Int) × Int)) (o200001_2 : Int) (o200001_3 : Int) (o200001_4 : Int) : Option (Bool) := aRun E k s_TrickOk_fi.rs (ioOf s_TrickOk_fi.ps) s_TrickOk_fi.res s_TrickOk_fi.hints [.code (sub s_TrickOk_c [1, 1, 1, 1, 0, 1, 0, 0, 0]), .code (sub s_TrickOk_c [1, 1, 1, 1, 0, 1, 0, 0, 1]), .inLoop (sub s_TrickOk_c [1, 1, 1, 1, 0, 1, 0, 0]), .inBlock 0, .code (sub s_TrickOk_c [1, 1, 1, 1, 1])] ⟨[.cv .dead, .adr 200001 0, .cv .dead, .cv (.val (.int .i64) v3), .cv (.val (.bool) v4), .cv .dead, .cv .dead, .cv .dead, .cv .dead, .cv .dead, .cv .dead, .cv .dead, .cv .dead, .cv .dead, .cv .dead, .cv .dead, .cv .dead, .cv .dead, .cv .dead, .cv .dead, .cv .dead, .cv .dead, .cv .dead, .cv .dead, .cv .dead, .cv (.val (.slice (.pair (.int .i64) (.pair (.pair (.int .i64) (.int .i64)) (.int .i64)))) v25), .cv (.val (.int .i64) v26), .cv (.val (.int .i64) v27), .cv .dead, .cv .dead, .cv .dead, .cv .dead, .cv .dead, .cv .dead, .cv .dead, .cv .dead, .cv .dead, .cv .dead, .cv .dead, .cv .dead, .cv .dead, .cv .dead, .cv .dead, .cv .dead, .cv .dead, .cv .dead], [(200001, .box [.val (.slice (.int .i64)) o200001_0, .val (.slice (.pair (.int .i64) (.pair (.pair (.int .i64) (.int .i64)) (.int .i64)))) o200001_1, .val (.int .i64) o200001_2, .val (.int .i64) o200001_3, .val (.int .i64) o200001_4])], true⟩
noncomputable def s_TurnCard (k : Nat) (x : Int) : Option (Int) := aFn E s_TurnCard_fi k x
noncomputable def s_l04Back (k : Nat) (x : (List Int) × Int × Bool) : Option (List Int) := aFn E s_l04Back_fi k x
noncomputable def s_l04Back_l3 (k : Nat) (v0 : List Int) (v1 : Int) (v2 : Bool) (v8 : Int) (o100007 : List Int) : Option (List Int) := aRun E k s_l04Back_fi.rs (ioOf s_l04Back_fi.ps) s_l04Back_fi.res s_l04Back_fi.hints [.code (sub s_l04Back_c [1, 1, 0, 1, 0, 0, 0, 0]), .code (sub s_l04Back_c [1, 1, 0, 1, 0, 0, 0, 1]), .code (sub s_l04Back_c [1, 1, 0, 1, 0, 0, 1]), .inLoop (sub s_l04Back_c [1, 1, 0, 1, 0, 0]), .inBlock 0, .code (sub s_l04Back_c [1, 1, 1])] ⟨[.cv (.val (.slice (.int .i64)) v0), .cv (.val (.int .i64) v1), .cv (.val (.bool) v2), .cv .dead, .cv .dead, .cv .dead, .cv .dead, .cv (.own 100007), .cv (.val (.int .i64) v8), .cv .dead, .cv .dead, .cv .dead, .cv .dead, .cv .dead, .cv .dead, .cv .dead, .cv .dead, .cv .dead, .cv .dead, .cv .dead, .cv .dead, .cv .dead, .cv .dead, .cv .dead, .cv .dead, .cv .dead, .cv .dead, .cv .dead, .cv .dead, .cv .dead, .cv .dead, .cv .dead, .cv .dead, .cv .dead, .cv .dead, .cv .dead, .cv .dead], [(100007, .row (.int .i64) o100007 true false)], true⟩
noncomputable def s_l04Faro (k : Nat) (x : (List Int) × Int) : Option (List Int) := aFn E s_l04Faro_fi k x
noncomputable def s_l04Faro_l4 (k : Nat) (v1 : Int) (v5 : List Int) (v6 : List Int) (o100007 : List Int) : Option (List Int) := aRun E k s_l04Faro_fi.rs (ioOf s_l04Faro_fi.ps) s_l04Faro_fi.res s_l04Faro_fi.hints [.code (sub s_l04Faro_c [1, 1, 1, 1, 0, 0, 0, 0, 0]), .code (sub s_l04Faro_c [1, 1, 1, 1, 0, 0, 0, 0, 1]), .code (sub s_l04Faro_c [1, 1, 1, 1, 0, 0, 0, 1]), .inLoop (sub s_l04Faro_c [1, 1, 1, 1, 0, 0, 0]), .inBlock 0, .code (sub s_l04Faro_c [1, 1, 1, 1, 1])] ⟨[.cv .dead, .cv (.val (.int .i64) v1), .cv .dead, .cv .dead, .cv .dead, .cv (.val (.slice (.int .i64)) v5), .cv (.val (.slice (.int .i64)) v6), .cv (.own 100007), .cv .dead, .cv .dead, .cv .dead, .cv .dead, .cv .dead, .cv .dead, .cv .dead, .cv .dead, .cv .dead, .cv .dead, .cv .dead, .cv .dead, .cv .dead, .cv .dead, .cv .dead, .cv .dead, .cv .dead, .cv .dead, .cv .dead, .cv .dead, .cv .dead, .cv .dead, .cv .dead, .cv .dead, .cv .dead, .cv .dead, .cv .dead, .cv .dead, .cv .dead, .cv .dead, .cv .dead, .cv .dead, .cv .dead, .cv .dead, .cv .dead, .cv .dead, .cv .dead, .cv .dead, .cv .dead, .cv .dead, .cv .dead, .cv .dead, .cv .dead, .cv .dead, .cv .dead, .cv .dead, .cv .dead, .cv .dead, .cv .dead, .cv .dead, .cv .dead], [(100007, .row (.int .i64) o100007 true false)], true⟩
noncomputable def s_l04Monge (k : Nat) (x : (List Int) × Int) : Option (List Int) := aFn E s_l04Monge_fi k x
noncomputable def s_l04Monge_l3 (k : Nat) (v1 : Int) (v9 : List Int) (v10 : Int) (v11 : Int) (o100005 : List Int) : Option (List Int) := aRun E k s_l04Monge_fi.rs (ioOf s_l04Monge_fi.ps) s_l04Monge_fi.res s_l04Monge_fi.hints [.code (sub s_l04Monge_c [1, 1, 0, 1, 0, 0, 0]), .code (sub s_l04Monge_c [1, 1, 0, 1, 0, 0, 1]), .inLoop (sub s_l04Monge_c [1, 1, 0, 1, 0, 0]), .inBlock 0, .code (sub s_l04Monge_c [1, 1, 1])] ⟨[.cv .dead, .cv (.val (.int .i64) v1), .cv .dead, .cv .dead, .cv .dead, .cv (.own 100005), .cv .dead, .cv .dead, .cv .dead, .cv (.val (.slice (.int .i64)) v9), .cv (.val (.int .i64) v10), .cv (.val (.int .i64) v11), .cv .dead, .cv .dead, .cv .dead, .cv .dead, .cv .dead, .cv .dead, .cv .dead, .cv .dead, .cv .dead, .cv .dead, .cv .dead, .cv .dead, .cv .dead, .cv .dead, .cv .dead, .cv .dead, .cv .dead, .cv .dead, .cv .dead, .cv .dead, .cv .dead, .cv .dead], [(100005, .row (.int .i64) o100005 true false)], true⟩
noncomputable def s_l04Milk (k : Nat) (x : List Int) : Option (List Int) := aFn E s_l04Milk_fi k x
noncomputable def s_l04Milk_l2 (k : Nat) (v0 : List Int) (o100003 : List Int) : Option (List Int) := aRun E k s_l04Milk_fi.rs (ioOf s_l04Milk_fi.ps) s_l04Milk_fi.res s_l04Milk_fi.hints [.code (sub s_l04Milk_c [1, 1, 0, 0, 0, 0, 0]), .code (sub s_l04Milk_c [1, 1, 0, 0, 0, 0, 1]), .code (sub s_l04Milk_c [1, 1, 0, 0, 0, 1]), .inLoop (sub s_l04Milk_c [1, 1, 0, 0, 0]), .inBlock 0, .code (sub s_l04Milk_c [1, 1, 1])] ⟨[.cv (.val (.slice (.int .i64)) v0), .cv .dead, .cv .dead, .cv (.own 100003), .cv .dead, .cv .dead, .cv .dead, .cv .dead, .cv .dead, .cv .dead, .cv .dead, .cv .dead, .cv .dead, .cv .dead, .cv .dead, .cv .dead, .cv .dead, .cv .dead, .cv .dead, .cv .dead, .cv .dead, .cv .dead, .cv .dead, .cv .dead, .cv .dead, .cv .dead, .cv .dead, .cv .dead, .cv .dead, .cv .dead], [(100003, .row (.int .i64) o100003 true false)], true⟩
noncomputable def s_l04Duck (k : Nat) (x : (List Int) × Int) : Option (List Int) := aFn E s_l04Duck_fi k x
noncomputable def s_l04Duck_l4 (k : Nat) (v7 : Int) (o100005 : List Int) (o100006 : List Int) : Option (List Int) := aRun E k s_l04Duck_fi.rs (ioOf s_l04Duck_fi.ps) s_l04Duck_fi.res s_l04Duck_fi.hints [.code (sub s_l04Duck_c [1, 1, 1, 0, 1, 0, 0, 0, 0]), .code (sub s_l04Duck_c [1, 1, 1, 0, 1, 0, 0, 0, 1]), .code (sub s_l04Duck_c [1, 1, 1, 0, 1, 0, 0, 1]), .inLoop (sub s_l04Duck_c [1, 1, 1, 0, 1, 0, 0]), .inBlock 0, .code (sub s_l04Duck_c [1, 1, 1, 1])] ⟨[.cv .dead, .cv .dead, .cv .dead, .cv .dead, .cv .dead, .cv (.own 100005), .cv (.own 100006), .cv (.val (.int .i64) v7), .cv .dead, .cv .dead, .cv .dead, .cv .dead, .cv .dead, .cv .dead, .cv .dead, .cv .dead, .cv .dead, .cv .dead, .cv .dead, .cv .dead, .cv .dead, .cv .dead, .cv .dead, .cv .dead, .cv .dead, .cv .dead, .cv .dead, .cv .dead, .cv .dead, .cv .dead, .cv .dead, .cv .dead, .cv .dead, .cv .dead, .cv .dead, .cv .dead, .cv .dead, .cv .dead, .cv .dead, .cv .dead, .cv .dead], [(100005, .row (.int .i64) o100005 true false), (100006, .row (.int .i64) o100006 true false)], true⟩
noncomputable def s_l04Do (k : Nat) (x : (List Int) × Int × Int) : Option (List Int) := aFn E s_l04Do_fi k x
noncomputable def s_l05Cuts (k : Nat) (x : List Int) : Option (List (List Int)) := aFn E s_l05Cuts_fi k x
noncomputable def s_l05Cuts_l3 (k : Nat) (v0 : List Int) (v7 : Int) (v8 : Int) (o100003 : List (List Int)) : Option (List (List Int)) := aRun E k s_l05Cuts_fi.rs (ioOf s_l05Cuts_fi.ps) s_l05Cuts_fi.res s_l05Cuts_fi.hints [.code (sub s_l05Cuts_c [1, 1, 0, 1, 0, 0, 0]), .code (sub s_l05Cuts_c [1, 1, 0, 1, 0, 0, 1]), .inLoop (sub s_l05Cuts_c [1, 1, 0, 1, 0, 0]), .inBlock 0, .code (sub s_l05Cuts_c [1, 1, 1])] ⟨[.cv (.val (.slice (.int .i64)) v0), .cv .dead, .cv .dead, .cv (.own 100003), .cv .dead, .cv .dead, .cv .dead, .cv (.val (.int .i64) v7), .cv (.val (.int .i64) v8), .cv .dead, .cv .dead, .cv .dead, .cv .dead, .cv .dead, .cv .dead, .cv .dead, .cv .dead, .cv .dead, .cv .dead, .cv .dead], [(100003, .row (.slice (.int .i64)) o100003 true false)], true⟩
noncomputable def s_l05Weave (k : Nat) (x : (List (List Int)) × (List Int) × (List Int) × List Int) : Option (List (List Int)) := aFn E s_l05Weave_fi k x
noncomputable def s_l05Of (k : Nat) (x : (List Int) × Int) : Option (List (List Int)) := aFn E s_l05Of_fi k x
noncomputable def s_l05Of_l7 (k : Nat) (v0 : List Int) (v6 : Int) (o100005 : List (List Int)) : Option (List (List Int)) := aRun E k s_l05Of_fi.rs (ioOf s_l05Of_fi.ps) s_l05Of_fi.res s_l05Of_fi.hints [.code (sub s_l05Of_c [1, 1, 0, 1, 0, 1, 1, 1, 0, 0, 1, 0, 0, 0, 0]), .code (sub s_l05Of_c [1, 1, 0, 1, 0, 1, 1, 1, 0, 0, 1, 0, 0, 0, 1]), .code (sub s_l05Of_c [1, 1, 0, 1, 0, 1, 1, 1, 0, 0, 1, 0, 0, 1]), .inLoop (sub s_l05Of_c [1, 1, 0, 1, 0, 1, 1, 1, 0, 0, 1, 0, 0]), .inBlock 1, .code (sub s_l05Of_c [1, 1, 0, 1, 0, 1, 1, 1, 0, 1]), .inBlock 0, .code (sub s_l05Of_c [1, 1, 1])] ⟨[.cv (.val (.slice (.int .i64)) v0), .cv .dead, .cv .dead, .cv .dead, .cv .dead, .cv (.own 100005), .cv (.val (.int .i64) v6), .cv .dead, .cv .dead, .cv .dead, .cv .dead, .cv .dead, .cv .dead, .cv .dead, .cv .dead, .cv .dead, .cv .dead, .cv .dead, .cv .dead, .cv .dead, .cv .dead, .cv .dead, .cv .dead, .cv .dead, .cv .dead, .cv .dead, .cv .dead, .cv .dead, .cv .dead, .cv .dead, .cv .dead, .cv .dead, .cv .dead, .cv .dead, .cv .dead, .cv .dead, .cv .dead, .cv .dead, .cv .dead, .cv .dead, .cv .dead, .cv .dead, .cv .dead, .cv .dead, .cv .dead, .cv .dead, .cv .dead, .cv .dead, .cv .dead, .cv .dead, .cv .dead, .cv .dead, .cv .dead, .cv .dead, .cv .dead, .cv .dead, .cv .dead, .cv .dead, .cv .dead, .cv .dead, .cv .dead, .cv .dead, .cv .dead, .cv .dead, .cv .dead, .cv .dead, .cv .dead, .cv .dead, .cv .dead], [(100005, .row (.slice (.int .i64)) o100005 false false)], true⟩
noncomputable def s_l05Of_l15 (k : Nat) (v0 : List Int) (v40 : List Int) (v41 : Int) (v42 : Int) (o100005 : List (List Int)) : Option (List (List Int)) := aRun E k s_l05Of_fi.rs (ioOf s_l05Of_fi.ps) s_l05Of_fi.res s_l05Of_fi.hints [.code (sub s_l05Of_c [1, 1, 0, 1, 0, 1, 1, 1, 1, 1, 1, 1, 0, 0, 1, 0, 0, 0]), .code (sub s_l05Of_c [1, 1, 0, 1, 0, 1, 1, 1, 1, 1, 1, 1, 0, 0, 1, 0, 0, 1]), .inLoop (sub s_l05Of_c [1, 1, 0, 1, 0, 1, 1, 1, 1, 1, 1, 1, 0, 0, 1, 0, 0]), .inBlock 3, .code (sub s_l05Of_c [1, 1, 0, 1, 0, 1, 1, 1, 1, 1, 1, 1, 0, 1]), .inBlock 0, .code (sub s_l05Of_c [1, 1, 1])] ⟨[.cv (.val (.slice (.int .i64)) v0), .cv .dead, .cv .dead, .cv .dead, .cv .dead, .cv (.own 100005), .cv .dead, .cv .dead, .cv .dead, .cv .dead, .cv .dead, .cv .dead, .cv .dead, .cv .dead, .cv .dead, .cv .dead, .cv .dead, .cv .dead, .cv .dead, .cv .dead, .cv .dead, .cv .dead, .cv .dead, .cv .dead, .cv .dead, .cv .dead, .cv .dead, .cv .dead, .cv .dead, .cv .dead, .cv .dead, .cv .dead, .cv .dead, .cv .dead, .cv .dead, .cv .dead, .cv .dead, .cv .dead, .cv .dead, .cv .dead, .cv (.val (.slice (.int .i64)) v40), .cv (.val (.int .i64) v41), .cv (.val (.int .i64) v42), .cv .dead, .cv .dead, .cv .dead, .cv .dead, .cv .dead, .cv .dead, .cv .dead, .cv .dead, .cv .dead, .cv .dead, .cv .dead, .cv .dead, .cv .dead, .cv .dead, .cv .dead, .cv .dead, .cv .dead, .cv .dead, .cv .dead, .cv .dead, .cv .dead, .cv .dead, .cv .dead, .cv .dead, .cv .dead, .cv .dead], [(100005, .row (.slice (.int .i64)) o100005 true false)], true⟩
noncomputable def s_SamePacket (k : Nat) (x : (List Int) × List Int) : Option (Bool) := aFn E s_SamePacket_fi k x
noncomputable def s_SamePacket_l4 (k : Nat) (v1 : List Int) (v12 : List Int) (v13 : Int) (v14 : Int) : Option (Bool) := aRun E k s_SamePacket_fi.rs (ioOf s_SamePacket_fi.ps) s_SamePacket_fi.res s_SamePacket_fi.hints [.code (sub s_SamePacket_c [1, 1, 0, 1, 0, 0, 0]), .code (sub s_SamePacket_c [1, 1, 0, 1, 0, 0, 1]), .inLoop (sub s_SamePacket_c [1, 1, 0, 1, 0, 0]), .inBlock 0, .code (sub s_SamePacket_c [1, 1, 1])] ⟨[.cv .dead, .cv (.val (.slice (.int .i64)) v1), .cv .dead, .cv .dead, .cv .dead, .cv .dead, .cv .dead, .cv .dead, .cv .dead, .cv .dead, .cv .dead, .cv .dead, .cv (.val (.slice (.int .i64)) v12), .cv (.val (.int .i64) v13), .cv (.val (.int .i64) v14), .cv .dead, .cv .dead, .cv .dead, .cv .dead, .cv .dead, .cv .dead, .cv .dead, .cv .dead, .cv .dead, .cv .dead, .cv .dead], [], true⟩
noncomputable def s_l05Less (k : Nat) (x : (List Int) × List Int) : Option (Bool) := aFn E s_l05Less_fi k x
noncomputable def s_l05Less_l2 (k : Nat) (v0 : List Int) (v1 : List Int) (v7 : List Int) (v8 : Int) (v9 : Int) : Option (Bool) := aRun E k s_l05Less_fi.rs (ioOf s_l05Less_fi.ps) s_l05Less_fi.res s_l05Less_fi.hints [.code (sub s_l05Less_c [1, 0, 1, 0, 0, 0]), .code (sub s_l05Less_c [1, 0, 1, 0, 0, 1]), .inLoop (sub s_l05Less_c [1, 0, 1, 0, 0]), .inBlock 0, .code (sub s_l05Less_c [1, 1])] ⟨[.cv (.val (.slice (.int .i64)) v0), .cv (.val (.slice (.int .i64)) v1), .cv .dead, .cv .dead, .cv .dead, .cv .dead, .cv .dead, .cv (.val (.slice (.int .i64)) v7), .cv (.val (.int .i64) v8), .cv (.val (.int .i64) v9), .cv .dead, .cv .dead, .cv .dead, .cv .dead, .cv .dead, .cv .dead, .cv .dead, .cv .dead, .cv .dead, .cv .dead, .cv .dead, .cv .dead, .cv .dead, .cv .dead, .cv .dead, .cv .dead, .cv .dead, .cv .dead, .cv .dead, .cv .dead, .cv .dead, .cv .dead, .cv .dead, .cv .dead, .cv .dead, .cv .dead], [], true⟩
noncomputable def s_l05Merge (k : Nat) (x : (List (List Int)) × List (List Int)) : Option (List (List Int)) := aFn E s_l05Merge_fi k x
noncomputable def s_l05Merge_l2 (k : Nat) (v0 : List (List Int)) (v1 : List (List Int)) (o450005 : List (List Int)) : Option (List (List Int)) := aRun E k s_l05Merge_fi.rs (ioOf s_l05Merge_fi.ps) s_l05Merge_fi.res s_l05Merge_fi.hints [.code (sub s_l05Merge_c [1, 1, 0, 0, 0, 0, 0]), .code (sub s_l05Merge_c [1, 1, 0, 0, 0, 0, 1]), .code (sub s_l05Merge_c [1, 1, 0, 0, 0, 1]), .inLoop (sub s_l05Merge_c [1, 1, 0, 0, 0]), .inBlock 0, .code (sub s_l05Merge_c [1, 1, 1])] ⟨[.cv (.val (.slice (.slice (.int .i64))) v0), .cv (.val (.slice (.slice (.int .i64))) v1), .cv .dead, .cv .dead, .cv .dead, .cv (.own 450005), .cv .dead, .cv .dead, .cv .dead, .cv .dead, .cv .dead, .cv .dead, .cv .dead, .cv .dead, .cv .dead, .cv .dead, .cv .dead, .cv .dead, .cv .dead, .cv .dead, .cv .dead, .cv .dead, .cv .dead, .cv .dead, .cv .dead, .cv .dead, .cv .dead, .cv .dead, .cv .dead, .cv .dead, .cv .dead, .cv .dead, .cv .dead, .cv .dead, .cv .dead, .cv .dead, .cv .dead, .cv .dead, .cv .dead, .cv .dead, .cv .dead, .cv .dead, .cv .dead, .cv .dead, .cv .dead, .cv .dead, .cv .dead, .cv .dead, .cv .dead, .cv .dead, .cv .dead, .cv .dead, .cv .dead, .cv .dead, .cv .dead, .cv .dead, .cv .dead, .cv .dead, .cv .dead, .cv .dead, .cv .dead, .cv .dead, .cv .dead, .cv .dead, .cv .dead, .cv .dead], [(450005, .row (.slice (.int .i64)) o450005 true false)], true⟩
noncomputable def s_SortPackets (k : Nat) (x : List (List Int)) : Option (List (List Int)) := aFn E s_SortPackets_fi k x
noncomputable def s_l16Next (k : Nat) (x : ((List Int) × Int) × Int × (Int × Int) × Int) : Option (List ((List Int) × Int)) := aFn E s_l16Next_fi k x
noncomputable def s_l16Next_l8 (k : Nat) (v43 : Int) (v44 : Int) (o200002_0 : List Int) (o200002_1 : Int) (o100005 : List ((List Int) × Int)) (o100042 : List (List Int)) : Option (List ((List Int) × Int)) := aRun E k s_l16Next_fi.rs (ioOf s_l16Next_fi.ps) s_l16Next_fi.res s_l16Next_fi.hints [.code (sub s_l16Next_c [1, 1, 1, 0, 1, 0, 0, 0]), .code (sub s_l16Next_c [1, 1, 1, 0, 1, 0, 0, 1]), .inLoop (sub s_l16Next_c [1, 1, 1, 0, 1, 0, 0]), .inBlock 1, .code (sub s_l16Next_c [1, 1, 1, 1])] ⟨[.cv .dead, .cv .dead, .adr 200002 0, .cv .dead, .cv .dead, .cv (.own 100005), .cv .dead, .cv .dead, .cv .dead, .cv .dead, .cv .dead, .cv .dead, .cv .dead, .cv .dead, .cv .dead, .cv .dead, .cv .dead, .cv .dead, .cv .dead, .cv .dead, .cv .dead, .cv .dead, .cv .dead, .cv .dead, .cv .dead, .cv .dead, .cv .dead, .cv .dead, .cv .dead, .cv .dead, .cv .dead, .cv .dead, .cv .dead, .cv .dead, .cv .dead, .cv .dead, .cv .dead, .cv .dead, .cv .dead, .cv .dead, .cv .dead, .cv .dead, .cv (.own 100042), .cv (.val (.int .i64) v43), .cv (.val (.int .i64) v44), .cv .dead, .cv .dead, .cv .dead, .cv .dead, .cv .dead, .cv .dead, .cv .dead, .cv .dead, .cv .dead, .cv .dead, .cv .dead, .cv .dead], [(200002, .box [.val (.slice (.int .i64)) o200002_0, .val (.int .i64) o200002_1]), (100005, .row (.pair (.slice (.int .i64)) (.int .i64)) o100005 false false), (100042, .row (.slice (.int .i64)) o100042 false false)], true⟩
noncomputable def s_SameScene (k : Nat) (x : ((List Int) × Int) × (List Int) × Int) : Option (Bool) := aFn E s_SameScene_fi k x
noncomputable def s_l17Find (k : Nat) (x : (List ((List Int) × Int)) × (List Int) × Int) : Option (Int) := aFn E s_l17Find_fi k x
noncomputable def s_l17Find_l2 (k : Nat) (v7 : List ((List Int) × Int)) (v8 : Int) (v9 : Int) (o200003_0 : List Int) (o200003_1 : Int) : Option (Int) := aRun E k s_l17Find_fi.rs (ioOf s_l17Find_fi.ps) s_l17Find_fi.res s_l17Find_fi.hints [.code (sub s_l17Find_c [1, 0, 1, 0, 0, 0]), .code (sub s_l17Find_c [1, 0, 1, 0, 0, 1]), .inLoop (sub s_l17Find_c [1, 0, 1, 0, 0]), .inBlock 0, .code (sub s_l17Find_c [1, 1])] ⟨[.cv .dead, .cv .dead, .cv .dead, .adr 200003 0, .cv .dead, .cv .dead, .cv .dead, .cv (.val (.slice (.pair (.slice (.int .i64)) (.int .i64))) v7), .cv (.val (.int .i64) v8), .cv (.val (.int .i64) v9), .cv .dead, .cv .dead, .cv .dead, .cv .dead, .cv .dead, .cv .dead, .cv .dead, .cv .dead, .cv .dead], [(200003, .box [.val (.slice (.int .i64)) o200003_0, .val (.int .i64) o200003_1])], true⟩
noncomputable def s_l17Ends (k : Nat) (x : (List Int) × (List (Int × (Int × Int) × Int)) × Int × Int × Int) : Option ((List ((List Int) × Int)) × (List (List Int)) × Bool) := aFn E s_l17Ends_fi k x
noncomputable def s_l17Ends_l4 (k : Nat) (v25 : List (Int × (Int × Int) × Int)) (v26 : Int) (v27 : Int) (o100005 : List ((List Int) × Int)) (o100006 : List (List Int)) : Option ((List ((List Int) × Int)) × (List (List Int)) × Bool) := aRun E k s_l17Ends_fi.rs (ioOf s_l17Ends_fi.ps) s_l17Ends_fi.res s_l17Ends_fi.hints [.code (sub s_l17Ends_c [1, 1, 1, 0, 1, 0, 0, 0]), .code (sub s_l17Ends_c [1, 1, 1, 0, 1, 0, 0, 1]), .inLoop (sub s_l17Ends_c [1, 1, 1, 0, 1, 0, 0]), .inBlock 0, .code (sub s_l17Ends_c [1, 1, 1, 1])] ⟨[.cv .dead, .cv .dead, .cv .dead, .cv .dead, .cv .dead, .cv (.own 100005), .cv (.own 100006), .cv .dead, .cv .dead, .cv .dead, .cv .dead, .cv .dead, .cv .dead, .cv .dead, .cv .dead, .cv .dead, .cv .dead, .cv .dead, .cv .dead, .cv .dead, .cv .dead, .cv .dead, .cv .dead, .cv .dead, .cv .dead, .cv (.val (.slice (.pair (.int .i64) (.pair (.pair (.int .i64) (.int .i64)) (.int .i64)))) v25), .cv (.val (.int .i64) v26), .cv (.val (.int .i64) v27), .cv .dead, .cv .dead, .cv .dead, .cv .dead, .cv .dead, .cv .dead, .cv .dead, .cv .dead, .cv .dead, .cv .dead, .cv .dead, .cv .dead, .cv .dead, .cv .dead, .cv .dead, .cv .dead, .cv .dead, .cv .dead, .cv .dead, .cv .dead, .cv .dead, .cv .dead, .cv .dead, .cv .dead, .cv .dead, .cv .dead, .cv .dead, .cv .dead, .cv .dead, .cv .dead, .cv .dead, .cv .dead, .cv .dead, .cv .dead, .cv .dead, .cv .dead, .cv .dead, .cv .dead, .cv .dead, .cv .dead, .cv .dead, .cv .dead, .cv .dead, .cv .dead, .cv .dead, .cv .dead, .cv .dead, .cv .dead, .cv .dead, .cv .dead, .cv .dead, .cv .dead, .cv .dead, .cv .dead, .cv .dead, .cv .dead], [(100005, .row (.pair (.slice (.int .i64)) (.int .i64)) o100005 false false), (100006, .row (.slice (.int .i64)) o100006 true false)], true⟩
noncomputable def s_l17Ends_l9 (k : Nat) (v25 : List (Int × (Int × Int) × Int)) (v26 : Int) (v27 : Int) (v34 : Int) (v35 : Int) (o100006 : List (List Int)) (o200008_0 : Int) (o200008_1 : Int) (o200008_2 : Int) (o200008_3 : Int) (o100009 : List ((List Int) × Int)) (o100010 : List (List Int)) (o100033 : List ((List Int) × Int)) : Option ((List ((List Int) × Int)) × (List (List Int)) × Bool) := aRun E k s_l17Ends_fi.rs (ioOf s_l17Ends_fi.ps) s_l17Ends_fi.res s_l17Ends_fi.hints [.code (sub s_l17Ends_c [1, 1, 1, 0, 1, 0, 0, 1, 1, 0, 0, 1, 1, 1, 0, 1, 0, 0, 0]), .code (sub s_l17Ends_c [1, 1, 1, 0, 1, 0, 0, 1, 1, 0, 0, 1, 1, 1, 0, 1, 0, 0, 1]), .inLoop (sub s_l17Ends_c [1, 1, 1, 0, 1, 0, 0, 1, 1, 0, 0, 1, 1, 1, 0, 1, 0, 0]), .inBlock 2, .code (sub s_l17Ends_c [1, 1, 1, 0, 1, 0, 0, 1, 1, 0, 0, 1, 1, 1, 1]), .inBlock 1, .code (sub s_l17Ends_c [1, 1, 1, 0, 1, 0, 0, 1, 1, 1]), .inLoop (sub s_l17Ends_c [1, 1, 1, 0, 1, 0, 0]), .inBlock 0, .code (sub s_l17Ends_c [1, 1, 1, 1])] ⟨[.cv .dead, .cv .dead, .cv .dead, .cv .dead, .cv .dead, .cv .dead, .cv (.own 100006), .cv .dead, .adr 200008 0, .cv (.own 100009), .cv (.own 100010), .cv .dead, .cv .dead, .cv .dead, .cv .dead, .cv .dead, .cv .dead, .cv .dead, .cv .dead, .cv .dead, .cv .dead, .cv .dead, .cv .dead, .cv .dead, .cv .dead, .cv (.val (.slice (.pair (.int .i64) (.pair (.pair (.int .i64) (.int .i64)) (.int .i64)))) v25), .cv (.val (.int .i64) v26), .cv (.val (.int .i64) v27), .cv .dead, .cv .dead, .cv .dead, .cv .dead, .cv .dead, .cv (.own 100033), .cv (.val (.int .i64) v34), .cv (.val (.int .i64) v35), .cv .dead, .cv .dead, .cv .dead, .cv .dead, .cv .dead, .cv .dead, .cv .dead, .cv .dead, .cv .dead, .cv .dead, .cv .dead, .cv .dead, .cv .dead, .cv .dead, .cv .dead, .cv .dead, .cv .dead, .cv .dead, .cv .dead, .cv .dead, .cv .dead, .cv .dead, .cv .dead, .cv .dead, .cv .dead, .cv .dead, .cv .dead, .cv .dead, .cv .dead, .cv .dead, .cv .dead, .cv .dead, .cv .dead, .cv .dead, .cv .dead, .cv .dead, .cv .dead, .cv .dead, .cv .dead, .cv .dead, .cv .dead, .cv .dead, .cv .dead, .cv .dead, .cv .dead, .cv .dead, .cv .dead, .cv .dead], [(100006, .row (.slice (.int .i64)) o100006 false false), (200008, .box [.val (.int .i64) o200008_0, .val (.int .i64) o200008_1, .val (.int .i64) o200008_2, .val (.int .i64) o200008_3]), (100009, .row (.pair (.slice (.int .i64)) (.int .i64)) o100009 false false), (100010, .row (.slice (.int .i64)) o100010 true false), (100033, .row (.pair (.slice (.int .i64)) (.int .i64)) o100033 false false)], true⟩
noncomputable def s_l17Ends_l12 (k : Nat) (v11 : Int) (v25 : List (Int × (Int × Int) × Int)) (v26 : Int) (v27 : Int) (v34 : Int) (v35 : Int) (v43 : Int) (v44 : Int) (o100006 : List (List Int)) (o200008_0 : Int) (o200008_1 : Int) (o200008_2 : Int) (o200008_3 : Int) (o100009 : List ((List Int) × Int)) (o100010 : List (List Int)) (o100033 : List ((List Int) × Int)) (o100042 : List ((List Int) × Int)) : Option ((List ((List Int) × Int)) × (List (List Int)) × Bool) := aRun E k s_l17Ends_fi.rs (ioOf s_l17Ends_fi.ps) s_l17Ends_fi.res s_l17Ends_fi.hints [.code (sub s_l17Ends_c [1, 1, 1, 0, 1, 0, 0, 1, 1, 0, 0, 1, 1, 1, 0, 1, 0, 0, 1, 1, 0, 0, 1, 1, 0, 0, 0]), .code (sub s_l17Ends_c [1, 1, 1, 0, 1, 0, 0, 1, 1, 0, 0, 1, 1, 1, 0, 1, 0, 0, 1, 1, 0, 0, 1, 1, 0, 0, 1]), .inLoop (sub s_l17Ends_c [1, 1, 1, 0, 1, 0, 0, 1, 1, 0, 0, 1, 1, 1, 0, 1, 0, 0, 1, 1, 0, 0, 1, 1, 0, 0]), .inBlock 4, .inBlock 3, .code (sub s_l17Ends_c [1, 1, 1, 0, 1, 0, 0, 1, 1, 0, 0, 1, 1, 1, 0, 1, 0, 0, 1, 1, 1]), .inLoop (sub s_l17Ends_c [1, 1, 1, 0, 1, 0, 0, 1, 1, 0, 0, 1, 1, 1, 0, 1, 0, 0]), .inBlock 2, .code (sub s_l17Ends_c [1, 1, 1, 0, 1, 0, 0, 1, 1, 0, 0, 1, 1, 1, 1]), .inBlock 1, .code (sub s_l17Ends_c [1, 1, 1, 0, 1, 0, 0, 1, 1, 1]), .inLoop (sub s_l17Ends_c [1, 1, 1, 0, 1, 0, 0]), .inBlock 0, .code (sub s_l17Ends_c [1, 1, 1, 1])] ⟨[.cv .dead, .cv .dead, .cv .dead, .cv .dead, .cv .dead, .cv .dead, .cv (.own 100006), .cv .dead, .adr 200008 0, .cv (.own 100009), .cv (.own 100010), .cv (.val (.int .i64) v11), .cv .dead, .cv .dead, .cv .dead, .cv .dead, .cv .dead, .cv .dead, .cv .dead, .cv .dead, .cv .dead, .cv .dead, .cv .dead, .cv .dead, .cv .dead, .cv (.val (.slice (.pair (.int .i64) (.pair (.pair (.int .i64) (.int .i64)) (.int .i64)))) v25), .cv (.val (.int .i64) v26), .cv (.val (.int .i64) v27), .cv .dead, .cv .dead, .cv .dead, .cv .dead, .cv .dead, .cv (.own 100033), .cv (.val (.int .i64) v34), .cv (.val (.int .i64) v35), .cv .dead, .cv .dead, .cv .dead, .cv .dead, .cv .dead, .cv .dead, .cv (.own 100042), .cv (.val (.int .i64) v43), .cv (.val (.int .i64) v44), .cv .dead, .cv .dead, .cv .dead, .cv .dead, .cv .dead, .cv .dead, .cv .dead, .cv .dead, .cv .dead, .cv .dead, .cv .dead, .cv .dead, .cv .dead, .cv .dead, .cv .dead, .cv .dead, .cv .dead, .cv .dead, .cv .dead, .cv .dead, .cv .dead, .cv .dead, .cv .dead, .cv .dead, .cv .dead, .cv .dead, .cv .dead, .cv .dead, .cv .dead, .cv .dead, .cv .dead, .cv .dead, .cv .dead, .cv .dead, .cv .dead, .cv .dead, .cv .dead, .cv .dead, .cv .dead], [(100006, .row (.slice (.int .i64)) o100006 false false), (200008, .box [.val (.int .i64) o200008_0, .val (.int .i64) o200008_1, .val (.int .i64) o200008_2, .val (.int .i64) o200008_3]), (100009, .row (.pair (.slice (.int .i64)) (.int .i64)) o100009 false false), (100010, .row (.slice (.int .i64)) o100010 true false), (100033, .row (.pair (.slice (.int .i64)) (.int .i64)) o100033 false false), (100042, .row (.pair (.slice (.int .i64)) (.int .i64)) o100042 false false)], true⟩
noncomputable def s_AllScenes (k : Nat) (x : (List Int) × (List (Int × (Int × Int) × Int)) × Int × Int × Int) : Option ((List ((List Int) × Int)) × Bool) := aFn E s_AllScenes_fi k x
noncomputable def i_CardOf (k : Nat) (x : Int) : Option (Int) := aFn E i_CardOf_fi k x
noncomputable def i_PacketOk (k : Nat) (x : List Int) : Option (Bool) := aFn E i_PacketOk_fi k x
noncomputable def i_PacketOk_l3 (k : Nat) (v7 : List Int) (v8 : Int) (v9 : Int) (o400003 : List Bool) : Option (Bool) := aRun E k i_PacketOk_fi.rs (ioOf i_PacketOk_fi.ps) i_PacketOk_fi.res i_PacketOk_fi.hints [.code (sub i_PacketOk_c [1, 1, 0, 1, 0, 0, 0]), .code (sub i_PacketOk_c [1, 1, 0, 1, 0, 0, 1]), .inLoop (sub i_PacketOk_c [1, 1, 0, 1, 0, 0]), .inBlock 0, .code (sub i_PacketOk_c [1, 1, 1])] ⟨[.cv .dead, .cv .dead, .cv .dead, .adr 400003 0, .cv .dead, .cv .dead, .cv .dead, .cv (.val (.slice (.int .i64)) v7), .cv (.val (.int .i64) v8), .cv (.val (.int .i64) v9), .cv .dead, .cv .dead, .cv .dead, .cv .dead, .cv .dead, .cv .dead, .cv .dead, .cv .dead, .cv .dead, .cv .dead, .cv .dead, .cv .dead, .cv .dead, .cv .dead, .cv .dead], [(400003, .arr (.bool) o400003)], true⟩
noncomputable def i_MoveOk (k : Nat) (x : Int × Int × Int) : Option (Bool) := aFn E i_MoveOk_fi k x
noncomputable def i_StepOk (k : Nat) (x : Int × Int × (Int × Int) × Int) : Option (Bool) := aFn E i_StepOk_fi k x
noncomputable def i_PositionOf_1 (k : Nat) (x : Int × Int) : Option (Bool) := aFn E i_PositionOf_1_fi k x
noncomputable def slices_IndexFunc_int_of_i_PositionOf_1 (k : Nat) (x : (List Int) × Int) : Option (Int) := aFn E slices_IndexFunc_int_of_i_PositionOf_1_fi k x
noncomputable def slices_IndexFunc_int_of_i_PositionOf_1_l2 (k : Nat) (v0 : List Int) (v1_0_0 : Int) (v7 : Int) (v8 : Int) : Option (Int) := aRun E k slices_IndexFunc_int_of_i_PositionOf_1_fi.rs (ioOf slices_IndexFunc_int_of_i_PositionOf_1_fi.ps) slices_IndexFunc_int_of_i_PositionOf_1_fi.res slices_IndexFunc_int_of_i_PositionOf_1_fi.hints [.code (sub slices_IndexFunc_int_of_i_PositionOf_1_c [1, 0, 1, 0, 0, 0]), .code (sub slices_IndexFunc_int_of_i_PositionOf_1_c [1, 0, 1, 0, 0, 1]), .inLoop (sub slices_IndexFunc_int_of_i_PositionOf_1_c [1, 0, 1, 0, 0]), .inBlock 0, .code (sub slices_IndexFunc_int_of_i_PositionOf_1_c [1, 1])] ⟨[.cv (.val (.slice (.int .i64)) v0), .fn 132 [[.val (.int .i64) v1_0_0]], .cv .dead, .cv .dead, .cv .dead, .cv .dead, .cv .dead, .cv (.val (.int .i64) v7), .cv (.val (.int .i64) v8), .cv .dead, .cv .dead, .cv .dead, .cv .dead, .cv .dead, .cv .dead, .cv .dead, .cv .dead, .cv .dead, .cv .dead], [], true⟩
noncomputable def i_PositionOf (k : Nat) (x : (List Int) × Int) : Option (Int) := aFn E i_PositionOf_fi k x
noncomputable def i_TrickOk (k : Nat) (x : (List Int) × (List (Int × (Int × Int) × Int)) × Int × Int × Int) : Option (Bool) := aFn E i_TrickOk_fi k x
noncomputable def i_TrickOk_l6 (k : Nat) (v3 : Int) (v4 : Bool) (v25 : List (Int × (Int × Int) × Int)) (v26 : Int) (v27 : Int) (o200001_0 : List Int) (o200001_1 : List (Int × (Int × Int) × Int)) (o200001_2 : Int) (o200001_3 : Int) (o200001_4 : Int) : Option (Bool) := aRun E k i_TrickOk_fi.rs (ioOf i_TrickOk_fi.ps) i_TrickOk_fi.res i_TrickOk_fi.hints [.code (sub i_TrickOk_c [1, 1, 1, 1, 0, 1, 0, 0, 0]), .code (sub i_TrickOk_c [1, 1, 1, 1, 0, 1, 0, 0, 1]), .inLoop (sub i_TrickOk_c [1, 1, 1, 1, 0, 1, 0, 0]), .inBlock 0, .code (sub i_TrickOk_c [1, 1, 1, 1, 1])] ⟨[.cv .dead, .adr 200001 0, .cv .dead, .cv (.val (.int .i64) v3), .cv (.val (.bool) v4), .cv .dead, .cv .dead, .cv .dead, .cv .dead, .cv .dead, .cv .dead, .cv .dead, .cv .dead, .cv .dead, .cv .dead, .cv .dead, .cv .dead, .cv .dead, .cv .dead, .cv .dead, .cv .dead, .cv .dead, .cv .dead, .cv .dead, .cv .dead, .cv (.val (.slice (.pair (.int .i64) (.pair (.pair (.int .i64) (.int .i64)) (.int .i64)))) v25), .cv (.val (.int .i64) v26), .cv (.val (.int .i64) v27), .cv .dead, .cv .dead, .cv .dead, .cv .dead, .cv .dead, .cv .dead, .cv .dead, .cv .dead, .cv .dead, .cv .dead, .cv .dead, .cv .dead, .cv .dead, .cv .dead, .cv .dead, .cv .dead, .cv .dead, .cv .dead, .cv .dead, .cv .dead, .cv .dead, .cv .dead, .cv .dead, .cv .dead, .cv .dead, .cv .dead, .cv .dead, .cv .dead, .cv .dead, .cv .dead, .cv .dead, .cv .dead, .cv .dead, .cv .dead, .cv .dead, .cv .dead, .cv .dead, .cv .dead, .cv .dead, .cv .dead, .cv .dead, .cv .dead, .cv .dead, .cv .dead, .cv .dead, .cv .dead, .cv .dead, .cv .dead, .cv .dead, .cv .dead, .cv .dead, .cv .dead, .cv .dead, .cv .dead, .cv .dead, .cv .dead, .cv .dead, .cv .dead, .cv .dead, .cv .dead, .cv .dead, .cv .dead, .cv .dead, .cv .dead, .cv .dead, .cv .dead, .cv .dead, .cv .dead, .cv .dead, .cv .dead, .cv .dead, .cv .dead, .cv .dead, .cv .dead, .cv .dead, .cv .dead, .cv .dead, .cv .dead, .cv .dead, .cv .dead, .cv .dead], [(200001, .box [.val (.slice (.int .i64)) o200001_0, .val (.slice (.pair (.int .i64) (.pair (.pair (.int .i64) (.int .i64)) (.int .i64)))) o200001_1, .val (.int .i64) o200001_2, .val (.int .i64) o200001_3, .val (.int .i64) o200001_4])], true⟩
noncomputable def slices_Clone_int (k : Nat) (x : List Int) : Option (List Int) := aFn E slices_Clone_int_fi k x
noncomputable def i_StartScene (k : Nat) (x : (List Int) × (List (Int × (Int × Int) × Int)) × Int × Int × Int) : Option ((List Int) × Int × Bool) := aFn E i_StartScene_fi k x
noncomputable def slices_Grow_int (k : Nat) (x : (List Int) × Int) : Option (List Int) := aFn E slices_Grow_int_fi k x
noncomputable def slices_Concat_int (k : Nat) (x : List (List Int)) : Option (List Int) := aFn E slices_Concat_int_fi k x
noncomputable def slices_Concat_int_l3 (k : Nat) (v0 : List (List Int)) (v3 : Int) (v9 : List (List Int)) (v10 : Int) (v11 : Int) : Option (List Int) := aRun E k slices_Concat_int_fi.rs (ioOf slices_Concat_int_fi.ps) slices_Concat_int_fi.res slices_Concat_int_fi.hints [.code (sub slices_Concat_int_c [1, 1, 0, 1, 0, 0, 0]), .code (sub slices_Concat_int_c [1, 1, 0, 1, 0, 0, 1]), .inLoop (sub slices_Concat_int_c [1, 1, 0, 1, 0, 0]), .inBlock 0, .code (sub slices_Concat_int_c [1, 1, 1])] ⟨[.cv (.val (.slice (.slice (.int .i64))) v0), .cv .dead, .cv .dead, .cv (.val (.int .i64) v3), .cv .dead, .cv .dead, .cv .dead, .cv .dead, .cv .dead, .cv (.val (.slice (.slice (.int .i64))) v9), .cv (.val (.int .i64) v10), .cv (.val (.int .i64) v11), .cv .dead, .cv .dead, .cv .dead, .cv .dead, .cv .dead, .cv .dead, .cv .dead, .cv .dead, .cv .dead, .cv .dead, .cv .dead, .cv .dead, .cv .dead, .cv .dead, .cv .dead, .cv .dead, .cv .dead, .cv .dead, .cv .dead, .cv .dead, .cv .dead, .cv .dead, .cv .dead, .cv .dead], [], true⟩
noncomputable def slices_Concat_int_l11 (k : Nat) (v25 : List (List Int)) (v26 : Int) (v27 : Int) (o100006 : List Int) : Option (List Int) := aRun E k slices_Concat_int_fi.rs (ioOf slices_Concat_int_fi.ps) slices_Concat_int_fi.res slices_Concat_int_fi.hints [.code (sub slices_Concat_int_c [1, 1, 1, 1, 0, 1, 0, 0, 0]), .code (sub slices_Concat_int_c [1, 1, 1, 1, 0, 1, 0, 0, 1]), .inLoop (sub slices_Concat_int_c [1, 1, 1, 1, 0, 1, 0, 0]), .inBlock 2, .code (sub slices_Concat_int_c [1, 1, 1, 1, 1])] ⟨[.cv .dead, .cv .dead, .cv .dead, .cv .dead, .cv .dead, .cv .dead, .cv (.own 100006), .cv .dead, .cv .dead, .cv .dead, .cv .dead, .cv .dead, .cv .dead, .cv .dead, .cv .dead, .cv .dead, .cv .dead, .cv .dead, .cv .dead, .cv .dead, .cv .dead, .cv .dead, .cv .dead, .cv .dead, .cv .dead, .cv (.val (.slice (.slice (.int .i64))) v25), .cv (.val (.int .i64) v26), .cv (.val (.int .i64) v27), .cv .dead, .cv .dead, .cv .dead, .cv .dead, .cv .dead, .cv .dead, .cv .dead, .cv .dead], [(100006, .row (.int .i64) o100006 true false)], true⟩
noncomputable def slices_Reverse_int (k : Nat) (x : List Int) : Option ((Unit) × List Int) := aFn E slices_Reverse_int_fi k x
noncomputable def i_reversed (k : Nat) (x : List Int) : Option (List Int) := aFn E i_reversed_fi k x
noncomputable def i_faro (k : Nat) (x : (List Int) × Int) : Option (List Int) := aFn E i_faro_fi k x
noncomputable def i_faro_l4 (k : Nat) (v5 : List Int) (v6 : List Int) (v8 : Bool) (o100007 : List Int) : Option (List Int) := aRun E k i_faro_fi.rs (ioOf i_faro_fi.ps) i_faro_fi.res i_faro_fi.hints [.code (sub i_faro_c [1, 1, 1, 0, 1, 0, 0, 0, 0]), .code (sub i_faro_c [1, 1, 1, 0, 1, 0, 0, 0, 1]), .code (sub i_faro_c [1, 1, 1, 0, 1, 0, 0, 1]), .inLoop (sub i_faro_c [1, 1, 1, 0, 1, 0, 0]), .inBlock 0, .code (sub i_faro_c [1, 1, 1, 1])] ⟨[.cv .dead, .cv .dead, .cv .dead, .cv .dead, .cv .dead, .cv (.val (.slice (.int .i64)) v5), .cv (.val (.slice (.int .i64)) v6), .cv (.own 100007), .cv (.val (.bool) v8), .cv .dead, .cv .dead, .cv .dead, .cv .dead, .cv .dead, .cv .dead, .cv .dead, .cv .dead, .cv .dead, .cv .dead, .cv .dead, .cv .dead, .cv .dead, .cv .dead, .cv .dead, .cv .dead, .cv .dead, .cv .dead, .cv .dead, .cv .dead, .cv .dead, .cv .dead, .cv .dead, .cv .dead, .cv .dead, .cv .dead, .cv .dead, .cv .dead, .cv .dead, .cv .dead, .cv .dead, .cv .dead, .cv .dead, .cv .dead, .cv .dead, .cv .dead, .cv .dead, .cv .dead, .cv .dead, .cv .dead, .cv .dead, .cv .dead, .cv .dead, .cv .dead, .cv .dead, .cv .dead, .cv .dead, .cv .dead, .cv .dead, .cv .dead], [(100007, .row (.int .i64) o100007 true true)], true⟩
noncomputable def i_monge (k : Nat) (x : (List Int) × Int) : Option (List Int) := aFn E i_monge_fi k x
noncomputable def i_monge_l3 (k : Nat) (v1 : Int) (v8 : List Int) (v9 : Int) (v10 : Int) (o100005 : List Int) : Option (List Int) := aRun E k i_monge_fi.rs (ioOf i_monge_fi.ps) i_monge_fi.res i_monge_fi.hints [.code (sub i_monge_c [1, 1, 0, 1, 0, 0, 0]), .code (sub i_monge_c [1, 1, 0, 1, 0, 0, 1]), .inLoop (sub i_monge_c [1, 1, 0, 1, 0, 0]), .inBlock 0, .code (sub i_monge_c [1, 1, 1])] ⟨[.cv .dead, .cv (.val (.int .i64) v1), .cv .dead, .cv .dead, .cv .dead, .cv (.own 100005), .cv .dead, .cv .dead, .cv (.val (.slice (.int .i64)) v8), .cv (.val (.int .i64) v9), .cv (.val (.int .i64) v10), .cv .dead, .cv .dead, .cv .dead, .cv .dead, .cv .dead, .cv .dead, .cv .dead, .cv .dead, .cv .dead, .cv .dead, .cv .dead, .cv .dead, .cv .dead, .cv .dead, .cv .dead, .cv .dead, .cv .dead, .cv .dead, .cv .dead, .cv .dead, .cv .dead, .cv .dead, .cv .dead], [(100005, .row (.int .i64) o100005 true false)], true⟩
noncomputable def i_milk (k : Nat) (x : List Int) : Option (List Int) := aFn E i_milk_fi k x
noncomputable def i_milk_l2 (k : Nat) (v0 : List Int) (o100003 : List Int) : Option (List Int) := aRun E k i_milk_fi.rs (ioOf i_milk_fi.ps) i_milk_fi.res i_milk_fi.hints [.code (sub i_milk_c [1, 1, 0, 0, 0, 0, 0]), .code (sub i_milk_c [1, 1, 0, 0, 0, 0, 1]), .code (sub i_milk_c [1, 1, 0, 0, 0, 1]), .inLoop (sub i_milk_c [1, 1, 0, 0, 0]), .inBlock 0, .code (sub i_milk_c [1, 1, 1])] ⟨[.cv (.val (.slice (.int .i64)) v0), .cv .dead, .cv .dead, .cv (.own 100003), .cv .dead, .cv .dead, .cv .dead, .cv .dead, .cv .dead, .cv .dead, .cv .dead, .cv .dead, .cv .dead, .cv .dead, .cv .dead, .cv .dead, .cv .dead, .cv .dead, .cv .dead, .cv .dead, .cv .dead, .cv .dead, .cv .dead, .cv .dead, .cv .dead, .cv .dead, .cv .dead, .cv .dead], [(100003, .row (.int .i64) o100003 true false)], true⟩
noncomputable def i_dealt (k : Nat) (x : (List Int) × Int) : Option (List Int) := aFn E i_dealt_fi k x
noncomputable def i_dealt_l4 (k : Nat) (v7 : Bool) (o100005 : List Int) (o100006 : List Int) : Option (List Int) := aRun E k i_dealt_fi.rs (ioOf i_dealt_fi.ps) i_dealt_fi.res i_dealt_fi.hints [.code (sub i_dealt_c [1, 1, 1, 0, 1, 0, 0, 0, 0]), .code (sub i_dealt_c [1, 1, 1, 0, 1, 0, 0, 0, 1]), .code (sub i_dealt_c [1, 1, 1, 0, 1, 0, 0, 1]), .inLoop (sub i_dealt_c [1, 1, 1, 0, 1, 0, 0]), .inBlock 0, .code (sub i_dealt_c [1, 1, 1, 1])] ⟨[.cv .dead, .cv .dead, .cv .dead, .cv .dead, .cv .dead, .cv (.own 100005), .cv (.own 100006), .cv (.val (.bool) v7), .cv .dead, .cv .dead, .cv .dead, .cv .dead, .cv .dead, .cv .dead, .cv .dead, .cv .dead, .cv .dead, .cv .dead, .cv .dead, .cv .dead, .cv .dead, .cv .dead, .cv .dead, .cv .dead, .cv .dead, .cv .dead, .cv .dead, .cv .dead, .cv .dead, .cv .dead, .cv .dead, .cv .dead, .cv .dead, .cv .dead, .cv .dead], [(100005, .row (.int .i64) o100005 true true), (100006, .row (.int .i64) o100006 true false)], true⟩
noncomputable def i_TurnCard (k : Nat) (x : Int) : Option (Int) := aFn E i_TurnCard_fi k x
noncomputable def i_moved (k : Nat) (x : (List Int) × Int × Int) : Option (List Int) := aFn E i_moved_fi k x
noncomputable def i_moved_l10 (k : Nat) (v5 : Int) (v7 : Int) (o100006 : List Int) : Option (List Int) := aRun E k i_moved_fi.rs (ioOf i_moved_fi.ps) i_moved_fi.res i_moved_fi.hints [.code (sub i_moved_c [1, 1, 0, 1, 0, 1, 1, 1, 1, 1, 0, 1, 0, 1, 0, 0, 0, 0]), .code (sub i_moved_c [1, 1, 0, 1, 0, 1, 1, 1, 1, 1, 0, 1, 0, 1, 0, 0, 0, 1]), .code (sub i_moved_c [1, 1, 0, 1, 0, 1, 1, 1, 1, 1, 0, 1, 0, 1, 0, 0, 1]), .inLoop (sub i_moved_c [1, 1, 0, 1, 0, 1, 1, 1, 1, 1, 0, 1, 0, 1, 0, 0]), .inBlock 1, .code (sub i_moved_c [1, 1, 0, 1, 0, 1, 1, 1, 1, 1, 0, 1, 1]), .inBlock 0, .code (sub i_moved_c [1, 1, 1])] ⟨[.cv .dead, .cv .dead, .cv .dead, .cv .dead, .cv .dead, .cv (.val (.int .i64) v5), .cv (.own 100006), .cv (.val (.int .i64) v7), .cv .dead, .cv .dead, .cv .dead, .cv .dead, .cv .dead, .cv .dead, .cv .dead, .cv .dead, .cv .dead, .cv .dead, .cv .dead, .cv .dead, .cv .dead, .cv .dead, .cv .dead, .cv .dead, .cv .dead, .cv .dead, .cv .dead, .cv .dead, .cv .dead, .cv .dead, .cv .dead, .cv .dead, .cv .dead, .cv .dead, .cv .dead, .cv .dead, .cv .dead, .cv .dead, .cv .dead, .cv .dead, .cv .dead, .cv .dead, .cv .dead, .cv .dead, .cv .dead, .cv .dead, .cv .dead, .cv .dead, .cv .dead, .cv .dead, .cv .dead, .cv .dead, .cv .dead, .cv .dead, .cv .dead, .cv .dead, .cv .dead, .cv .dead, .cv .dead, .cv .dead, .cv .dead, .cv .dead, .cv .dead, .cv .dead, .cv .dead, .cv .dead, .cv .dead, .cv .dead, .cv .dead, .cv .dead, .cv .dead, .cv .dead, .cv .dead, .cv .dead, .cv .dead, .cv .dead, .cv .dead, .cv .dead, .cv .dead, .cv .dead, .cv .dead, .cv .dead, .cv .dead, .cv .dead, .cv .dead, .cv .dead, .cv .dead, .cv .dead, .cv .dead, .cv .dead, .cv .dead, .cv .dead, .cv .dead, .cv .dead, .cv .dead, .cv .dead, .cv .dead, .cv .dead, .cv .dead, .cv .dead, .cv .dead, .cv .dead, .cv .dead, .cv .dead, .cv .dead, .cv .dead], [(100006, .row (.int .i64) o100006 true false)], true⟩
noncomputable def i_cuts (k : Nat) (x : List Int) : Option (List (List Int)) := aFn E i_cuts_fi k x
noncomputable def i_cuts_l3 (k : Nat) (v0 : List Int) (v6 : Int) (v7 : Int) (o100003 : List (List Int)) : Option (List (List Int)) := aRun E k i_cuts_fi.rs (ioOf i_cuts_fi.ps) i_cuts_fi.res i_cuts_fi.hints [.code (sub i_cuts_c [1, 1, 0, 1, 0, 0, 0]), .code (sub i_cuts_c [1, 1, 0, 1, 0, 0, 1]), .inLoop (sub i_cuts_c [1, 1, 0, 1, 0, 0]), .inBlock 0, .code (sub i_cuts_c [1, 1, 1])] ⟨[.cv (.val (.slice (.int .i64)) v0), .cv .dead, .cv .dead, .cv (.own 100003), .cv .dead, .cv .dead, .cv (.val (.int .i64) v6), .cv (.val (.int .i64) v7), .cv .dead, .cv .dead, .cv .dead, .cv .dead, .cv .dead, .cv .dead, .cv .dead, .cv .dead, .cv .dead, .cv .dead, .cv .dead], [(100003, .row (.slice (.int .i64)) o100003 true true)], true⟩
noncomputable def i_riffled (k : Nat) (x : (List Int) × Int) : Option (List Int) := aFn E i_riffled_fi k x
noncomputable def i_riffled_l3 (k : Nat) (v0 : List Int) (v1 : Int) (v5 : Int) (v6 : Int) (v11 : Int) (v12 : Int) : Option (List Int) := aRun E k i_riffled_fi.rs (ioOf i_riffled_fi.ps) i_riffled_fi.res i_riffled_fi.hints [.code (sub i_riffled_c [1, 1, 0, 1, 0, 0, 0]), .code (sub i_riffled_c [1, 1, 0, 1, 0, 0, 1]), .inLoop (sub i_riffled_c [1, 1, 0, 1, 0, 0]), .inBlock 0, .code (sub i_riffled_c [1, 1, 1])] ⟨[.cv (.val (.slice (.int .i64)) v0), .cv (.val (.int .i64) v1), .cv .dead, .cv .dead, .cv .dead, .cv (.val (.int .i64) v5), .cv (.val (.int .i64) v6), .cv .dead, .cv .dead, .cv .dead, .cv .dead, .cv (.val (.int .i64) v11), .cv (.val (.int .i64) v12), .cv .dead, .cv .dead, .cv .dead, .cv .dead, .cv .dead, .cv .dead, .cv .dead, .cv .dead, .cv .dead, .cv .dead, .cv .dead, .cv .dead, .cv .dead, .cv .dead, .cv .dead, .cv .dead, .cv .dead, .cv .dead, .cv .dead, .cv .dead, .cv .dead, .cv .dead, .cv .dead, .cv .dead, .cv .dead, .cv .dead, .cv .dead, .cv .dead, .cv .dead, .cv .dead, .cv .dead, .cv .dead, .cv .dead, .cv .dead, .cv .dead, .cv .dead, .cv .dead, .cv .dead, .cv .dead, .cv .dead], [], true⟩
noncomputable def i_riffled_l9 (k : Nat) (v0 : List Int) (v1 : Int) (v5 : Int) (v6 : Int) (v24 : Int) (v25 : Int) (o100008 : List Int) : Option (List Int) := aRun E k i_riffled_fi.rs (ioOf i_riffled_fi.ps) i_riffled_fi.res i_riffled_fi.hints [.code (sub i_riffled_c [1, 1, 1, 1, 0, 1, 0, 0, 0]), .code (sub i_riffled_c [1, 1, 1, 1, 0, 1, 0, 0, 1]), .inLoop (sub i_riffled_c [1, 1, 1, 1, 0, 1, 0, 0]), .inBlock 2, .code (sub i_riffled_c [1, 1, 1, 1, 1])] ⟨[.cv (.val (.slice (.int .i64)) v0), .cv (.val (.int .i64) v1), .cv .dead, .cv .dead, .cv .dead, .cv (.val (.int .i64) v5), .cv (.val (.int .i64) v6), .cv .dead, .cv (.own 100008), .cv .dead, .cv .dead, .cv .dead, .cv .dead, .cv .dead, .cv .dead, .cv .dead, .cv .dead, .cv .dead, .cv .dead, .cv .dead, .cv .dead, .cv .dead, .cv .dead, .cv .dead, .cv (.val (.int .i64) v24), .cv (.val (.int .i64) v25), .cv .dead, .cv .dead, .cv .dead, .cv .dead, .cv .dead, .cv .dead, .cv .dead, .cv .dead, .cv .dead, .cv .dead, .cv .dead, .cv .dead, .cv .dead, .cv .dead, .cv .dead, .cv .dead, .cv .dead, .cv .dead, .cv .dead, .cv .dead, .cv .dead, .cv .dead, .cv .dead, .cv .dead, .cv .dead, .cv .dead, .cv .dead], [(100008, .row (.int .i64) o100008 true true)], true⟩
noncomputable def i_all (k : Nat) (x : (List Int) × Int) : Option ((List (List Int)) × Bool) := aFn E i_all_fi k x
noncomputable def i_all_l9 (k : Nat) (v0 : List Int) (v7 : Int) (o100006 : List (List Int)) : Option ((List (List Int)) × Bool) := aRun E k i_all_fi.rs (ioOf i_all_fi.ps) i_all_fi.res i_all_fi.hints [.code (sub i_all_c [1, 0, 1, 0, 1, 1, 1, 1, 1, 0, 1, 0, 1, 0, 0, 0, 0]), .code (sub i_all_c [1, 0, 1, 0, 1, 1, 1, 1, 1, 0, 1, 0, 1, 0, 0, 0, 1]), .code (sub i_all_c [1, 0, 1, 0, 1, 1, 1, 1, 1, 0, 1, 0, 1, 0, 0, 1]), .inLoop (sub i_all_c [1, 0, 1, 0, 1, 1, 1, 1, 1, 0, 1, 0, 1, 0, 0]), .inBlock 1, .code (sub i_all_c [1, 0, 1, 0, 1, 1, 1, 1, 1, 0, 1, 1]), .inBlock 0, .code (sub i_all_c [1, 1])] ⟨[.cv (.val (.slice (.int .i64)) v0), .cv .dead, .cv .dead, .cv .dead, .cv .dead, .cv .dead, .cv (.own 100006), .cv (.val (.int .i64) v7), .cv .dead, .cv .dead, .cv .dead, .cv .dead, .cv .dead, .cv .dead, .cv .dead, .cv .dead, .cv .dead, .cv .dead, .cv .dead, .cv .dead, .cv .dead, .cv .dead, .cv .dead, .cv .dead, .cv .dead, .cv .dead, .cv .dead, .cv .dead, .cv .dead, .cv .dead, .cv .dead, .cv .dead, .cv .dead, .cv .dead, .cv .dead, .cv .dead, .cv .dead, .cv .dead, .cv .dead, .cv .dead, .cv .dead, .cv .dead, .cv .dead, .cv .dead, .cv .dead, .cv .dead, .cv .dead, .cv .dead, .cv .dead, .cv .dead, .cv .dead, .cv .dead, .cv .dead, .cv .dead, .cv .dead, .cv .dead, .cv .dead, .cv .dead, .cv .dead, .cv .dead, .cv .dead, .cv .dead, .cv .dead, .cv .dead, .cv .dead, .cv .dead, .cv .dead, .cv .dead, .cv .dead, .cv .dead, .cv .dead], [(100006, .row (.slice (.int .i64)) o100006 true true)], true⟩
noncomputable def i_all_l20 (k : Nat) (v0 : List Int) (v48 : Int) (v49 : Int) (o100008 : List (List Int)) : Option ((List (List Int)) × Bool) := aRun E k i_all_fi.rs (ioOf i_all_fi.ps) i_all_fi.res i_all_fi.hints [.code (sub i_all_c [1, 0, 1, 0, 1, 1, 1, 1, 1, 1, 1, 1, 1, 0, 1, 0, 1, 0, 0, 0]), .code (sub i_all_c [1, 0, 1, 0, 1, 1, 1, 1, 1, 1, 1, 1, 1, 0, 1, 0, 1, 0, 0, 1]), .inLoop (sub i_all_c [1, 0, 1, 0, 1, 1, 1, 1, 1, 1, 1, 1, 1, 0, 1, 0, 1, 0, 0]), .inBlock 3, .code (sub i_all_c [1, 0, 1, 0, 1, 1, 1, 1, 1, 1, 1, 1, 1, 0, 1, 1]), .inBlock 0, .code (sub i_all_c [1, 1])] ⟨[.cv (.val (.slice (.int .i64)) v0), .cv .dead, .cv .dead, .cv .dead, .cv .dead, .cv .dead, .cv .dead, .cv .dead, .cv (.own 100008), .cv .dead, .cv .dead, .cv .dead, .cv .dead, .cv .dead, .cv .dead, .cv .dead, .cv .dead, .cv .dead, .cv .dead, .cv .dead, .cv .dead, .cv .dead, .cv .dead, .cv .dead, .cv .dead, .cv .dead, .cv .dead, .cv .dead, .cv .dead, .cv .dead, .cv .dead, .cv .dead, .cv .dead, .cv .dead, .cv .dead, .cv .dead, .cv .dead, .cv .dead, .cv .dead, .cv .dead, .cv .dead, .cv .dead, .cv .dead, .cv .dead, .cv .dead, .cv .dead, .cv .dead, .cv .dead, .cv (.val (.int .i64) v48), .cv (.val (.int .i64) v49), .cv .dead, .cv .dead, .cv .dead, .cv .dead, .cv .dead, .cv .dead, .cv .dead, .cv .dead, .cv .dead, .cv .dead, .cv .dead, .cv .dead, .cv .dead, .cv .dead, .cv .dead, .cv .dead, .cv .dead, .cv .dead, .cv .dead, .cv .dead, .cv .dead], [(100008, .row (.slice (.int .i64)) o100008 true true)], true⟩
noncomputable def slices_SortFunc_int_int (k : Nat) (x : (List (List Int)) × Bool) : Option ((Unit) × List (List Int)) := aFn E slices_SortFunc_int_int_fi k x
noncomputable def slices_CompactFunc_int_int (k : Nat) (x : (List (List Int)) × Bool) : Option (List (List Int)) := aFn E slices_CompactFunc_int_int_fi k x
noncomputable def i_SortPackets (k : Nat) (x : List (List Int)) : Option (List (List Int)) := aFn E i_SortPackets_fi k x
noncomputable def i_SortPackets_l3 (k : Nat) (v6 : List (List Int)) (v7 : Int) (v8 : Int) (o100003 : List (List Int)) : Option (List (List Int)) := aRun E k i_SortPackets_fi.rs (ioOf i_SortPackets_fi.ps) i_SortPackets_fi.res i_SortPackets_fi.hints [.code (sub i_SortPackets_c [1, 1, 0, 1, 0, 0, 0]), .code (sub i_SortPackets_c [1, 1, 0, 1, 0, 0, 1]), .inLoop (sub i_SortPackets_c [1, 1, 0, 1, 0, 0]), .inBlock 0, .code (sub i_SortPackets_c [1, 1, 1])] ⟨[.cv .dead, .cv .dead, .cv .dead, .cv (.own 100003), .cv .dead, .cv .dead, .cv (.val (.slice (.slice (.int .i64))) v6), .cv (.val (.int .i64) v7), .cv (.val (.int .i64) v8), .cv .dead, .cv .dead, .cv .dead, .cv .dead, .cv .dead, .cv .dead, .cv .dead, .cv .dead, .cv .dead, .cv .dead, .cv .dead, .cv .dead, .cv .dead], [(100003, .row (.slice (.int .i64)) o100003 true true)], true⟩
noncomputable def i_ResultsOf (k : Nat) (x : (List Int) × Int) : Option ((List (List Int)) × Bool) := aFn E i_ResultsOf_fi k x
noncomputable def i_NextScenes (k : Nat) (x : ((List Int) × Int) × Int × (Int × Int) × Int) : Option (List ((List Int) × Int)) := aFn E i_NextScenes_fi k x
noncomputable def i_NextScenes_l11 (k : Nat) (v68 : Int) (v69 : Int) (o200002_0 : List Int) (o200002_1 : Int) (o100005 : List ((List Int) × Int)) (o440067 : List (List Int)) (o440067_n : Nat) : Option (List ((List Int) × Int)) := aRun E k i_NextScenes_fi.rs (ioOf i_NextScenes_fi.ps) i_NextScenes_fi.res i_NextScenes_fi.hints [.code (sub i_NextScenes_c [1, 1, 1, 1, 1, 0, 1, 0, 0, 0]), .code (sub i_NextScenes_c [1, 1, 1, 1, 1, 0, 1, 0, 0, 1]), .inLoop (sub i_NextScenes_c [1, 1, 1, 1, 1, 0, 1, 0, 0]), .inBlock 1, .code (sub i_NextScenes_c [1, 1, 1, 1, 1, 1])] ⟨[.cv .dead, .cv .dead, .adr 200002 0, .cv .dead, .cv .dead, .cv (.own 100005), .cv .dead, .cv .dead, .cv .dead, .cv .dead, .cv .dead, .cv .dead, .cv .dead, .cv .dead, .cv .dead, .cv .dead, .cv .dead, .cv .dead, .cv .dead, .cv .dead, .cv .dead, .cv .dead, .cv .dead, .cv .dead, .cv .dead, .cv .dead, .cv .dead, .cv .dead, .cv .dead, .cv .dead, .cv .dead, .cv .dead, .cv .dead, .cv .dead, .cv .dead, .cv .dead, .cv .dead, .cv .dead, .cv .dead, .cv .dead, .cv .dead, .cv .dead, .cv .dead, .cv .dead, .cv .dead, .cv .dead, .cv .dead, .cv .dead, .cv .dead, .cv .dead, .cv .dead, .cv .dead, .cv .dead, .cv .dead, .cv .dead, .cv .dead, .cv .dead, .cv .dead, .cv .dead, .cv .dead, .cv .dead, .cv .dead, .cv .dead, .cv .dead, .cv .dead, .cv .dead, .cv .dead, .cv (.own 440067), .cv (.val (.int .i64) v68), .cv (.val (.int .i64) v69), .cv .dead, .cv .dead, .cv .dead, .cv .dead, .cv .dead, .cv .dead, .cv .dead, .cv .dead, .cv .dead, .cv .dead, .cv .dead, .cv .dead], [(200002, .box [.val (.slice (.int .i64)) o200002_0, .val (.int .i64) o200002_1]), (100005, .row (.pair (.slice (.int .i64)) (.int .i64)) o100005 true true), (440067, .tl (.slice (.int .i64)) o440067 o440067_n)], true⟩
noncomputable def strconv_Itoa (k : Nat) (x : Int) : Option (ByteArray) := aFn E strconv_Itoa_fi k x
noncomputable def i_FormatInt (k : Nat) (x : Int) : Option (ByteArray) := aFn E i_FormatInt_fi k x
noncomputable def i_numbersOf (k : Nat) (x : List Int) : Option (List ByteArray) := aFn E i_numbersOf_fi k x
noncomputable def i_numbersOf_l3 (k : Nat) (v6 : List Int) (v7 : Int) (v8 : Int) (o100003 : List ByteArray) : Option (List ByteArray) := aRun E k i_numbersOf_fi.rs (ioOf i_numbersOf_fi.ps) i_numbersOf_fi.res i_numbersOf_fi.hints [.code (sub i_numbersOf_c [1, 1, 0, 1, 0, 0, 0]), .code (sub i_numbersOf_c [1, 1, 0, 1, 0, 0, 1]), .inLoop (sub i_numbersOf_c [1, 1, 0, 1, 0, 0]), .inBlock 0, .code (sub i_numbersOf_c [1, 1, 1])] ⟨[.cv .dead, .cv .dead, .cv .dead, .cv (.own 100003), .cv .dead, .cv .dead, .cv (.val (.slice (.int .i64)) v6), .cv (.val (.int .i64) v7), .cv (.val (.int .i64) v8), .cv .dead, .cv .dead, .cv .dead, .cv .dead, .cv .dead, .cv .dead, .cv .dead, .cv .dead, .cv .dead, .cv .dead], [(100003, .row (.str) o100003 true true)], true⟩
noncomputable def strings_Join (k : Nat) (x : (List ByteArray) × ByteArray) : Option (ByteArray) := aFn E strings_Join_fi k x
noncomputable def i_Join (k : Nat) (x : (List ByteArray) × ByteArray) : Option (ByteArray) := aFn E i_Join_fi k x
noncomputable def i_FormatPicks (k : Nat) (x : List Int) : Option (ByteArray) := aFn E i_FormatPicks_fi k x
noncomputable def i_keyOf (k : Nat) (x : (List Int) × Int) : Option (ByteArray) := aFn E i_keyOf_fi k x
noncomputable def i_levels (k : Nat) (x : (List Int) × (List (Int × (Int × Int) × Int)) × Int × Int × Int) : Option ((List (List ((List Int) × Int))) × Bool) := aFn E i_levels_fi k x
noncomputable def i_levels_l4 (k : Nat) (v25 : List (Int × (Int × Int) × Int)) (v26 : Int) (v27 : Int) (o450006 : List (List ((List Int) × Int))) : Option ((List (List ((List Int) × Int))) × Bool) := aRun E k i_levels_fi.rs (ioOf i_levels_fi.ps) i_levels_fi.res i_levels_fi.hints [.code (sub i_levels_c [1, 1, 1, 0, 1, 0, 0, 0]), .code (sub i_levels_c [1, 1, 1, 0, 1, 0, 0, 1]), .inLoop (sub i_levels_c [1, 1, 1, 0, 1, 0, 0]), .inBlock 0, .code (sub i_levels_c [1, 1, 1, 1])] ⟨[.cv .dead, .cv .dead, .cv .dead, .cv .dead, .cv .dead, .cv .dead, .cv (.own 450006), .cv .dead, .cv .dead, .cv .dead, .cv .dead, .cv .dead, .cv .dead, .cv .dead, .cv .dead, .cv .dead, .cv .dead, .cv .dead, .cv .dead, .cv .dead, .cv .dead, .cv .dead, .cv .dead, .cv .dead, .cv .dead, .cv (.val (.slice (.pair (.int .i64) (.pair (.pair (.int .i64) (.int .i64)) (.int .i64)))) v25), .cv (.val (.int .i64) v26), .cv (.val (.int .i64) v27), .cv .dead, .cv .dead, .cv .dead, .cv .dead, .cv .dead, .cv .dead, .cv .dead, .cv .dead, .cv .dead, .cv .dead, .cv .dead, .cv .dead, .cv .dead, .cv .dead, .cv .dead, .cv .dead, .cv .dead, .cv .dead, .cv .dead, .cv .dead, .cv .dead, .cv .dead, .cv .dead, .cv .dead, .cv .dead, .cv .dead, .cv .dead, .cv .dead, .cv .dead, .cv .dead, .cv .dead, .cv .dead, .cv .dead, .cv .dead, .cv .dead, .cv .dead, .cv .dead, .cv .dead, .cv .dead, .cv .dead, .cv .dead, .cv .dead, .cv .dead, .cv .dead, .cv .dead], [(450006, .row (.slice (.pair (.slice (.int .i64)) (.int .i64))) o450006 true false)], true⟩
noncomputable def i_levels_l9 (k : Nat) (v25 : List (Int × (Int × Int) × Int)) (v26 : Int) (v27 : Int) (v37 : Int) (v38 : Int) (o420006 : List (List ((List Int) × Int))) (o420006_i : Nat) (o200008_0 : Int) (o200008_1 : Int) (o200008_2 : Int) (o200008_3 : Int) (o430009 : List ByteArray) (o450010 : List ((List Int) × Int)) (o450036 : List ((List Int) × Int)) : Option ((List (List ((List Int) × Int))) × Bool) := aRun E k i_levels_fi.rs (ioOf i_levels_fi.ps) i_levels_fi.res i_levels_fi.hints [.code (sub i_levels_c [1, 1, 1, 0, 1, 0, 0, 1, 1, 0, 0, 1, 1, 1, 0, 1, 0, 0, 0]), .code (sub i_levels_c [1, 1, 1, 0, 1, 0, 0, 1, 1, 0, 0, 1, 1, 1, 0, 1, 0, 0, 1]), .inLoop (sub i_levels_c [1, 1, 1, 0, 1, 0, 0, 1, 1, 0, 0, 1, 1, 1, 0, 1, 0, 0]), .inBlock 2, .code (sub i_levels_c [1, 1, 1, 0, 1, 0, 0, 1, 1, 0, 0, 1, 1, 1, 1]), .inBlock 1, .code (sub i_levels_c [1, 1, 1, 0, 1, 0, 0, 1, 1, 1]), .inLoop (sub i_levels_c [1, 1, 1, 0, 1, 0, 0]), .inBlock 0, .code (sub i_levels_c [1, 1, 1, 1])] ⟨[.cv .dead, .cv .dead, .cv .dead, .cv .dead, .cv .dead, .cv .dead, .cv (.own 420006), .cv .dead, .adr 200008 0, .cv (.own 430009), .cv (.own 450010), .cv .dead, .cv .dead, .cv .dead, .cv .dead, .cv .dead, .cv .dead, .cv .dead, .cv .dead, .cv .dead, .cv .dead, .cv .dead, .cv .dead, .cv .dead, .cv .dead, .cv (.val (.slice (.pair (.int .i64) (.pair (.pair (.int .i64) (.int .i64)) (.int .i64)))) v25), .cv (.val (.int .i64) v26), .cv (.val (.int .i64) v27), .cv .dead, .cv .dead, .cv .dead, .cv .dead, .cv .dead, .cv .dead, .cv .dead, .cv .dead, .cv (.own 450036), .cv (.val (.int .i64) v37), .cv (.val (.int .i64) v38), .cv .dead, .cv .dead, .cv .dead, .cv .dead, .cv .dead, .cv .dead, .cv .dead, .cv .dead, .cv .dead, .cv .dead, .cv .dead, .cv .dead, .cv .dead, .cv .dead, .cv .dead, .cv .dead, .cv .dead, .cv .dead, .cv .dead, .cv .dead, .cv .dead, .cv .dead, .cv .dead, .cv .dead, .cv .dead, .cv .dead, .cv .dead, .cv .dead, .cv .dead, .cv .dead, .cv .dead, .cv .dead, .cv .dead, .cv .dead], [(420006, .hole (.pair (.slice (.int .i64)) (.int .i64)) o420006 o420006_i (.own 450036)), (200008, .box [.val (.int .i64) o200008_0, .val (.int .i64) o200008_1, .val (.int .i64) o200008_2, .val (.int .i64) o200008_3]), (430009, .mp o430009), (450010, .row (.pair (.slice (.int .i64)) (.int .i64)) o450010 true true), (450036, .row (.pair (.slice (.int .i64)) (.int .i64)) o450036 true false)], true⟩
noncomputable def i_levels_l12 (k : Nat) (v25 : List (Int × (Int × Int) × Int)) (v26 : Int) (v27 : Int) (v37 : Int) (v38 : Int) (v45 : Int) (v46 : Int) (o420006 : List (List ((List Int) × Int))) (o420006_i : Nat) (o200008_0 : Int) (o200008_1 : Int) (o200008_2 : Int) (o200008_3 : Int) (o430009 : List ByteArray) (o450010 : List ((List Int) × Int)) (o450036 : List ((List Int) × Int)) (o440044 : List ((List Int) × Int)) (o440044_n : Nat) : Option ((List (List ((List Int) × Int))) × Bool) := aRun E k i_levels_fi.rs (ioOf i_levels_fi.ps) i_levels_fi.res i_levels_fi.hints [.code (sub i_levels_c [1, 1, 1, 0, 1, 0, 0, 1, 1, 0, 0, 1, 1, 1, 0, 1, 0, 0, 1, 1, 0, 0, 1, 0, 1, 0, 0, 0]), .code (sub i_levels_c [1, 1, 1, 0, 1, 0, 0, 1, 1, 0, 0, 1, 1, 1, 0, 1, 0, 0, 1, 1, 0, 0, 1, 0, 1, 0, 0, 1]), .inLoop (sub i_levels_c [1, 1, 1, 0, 1, 0, 0, 1, 1, 0, 0, 1, 1, 1, 0, 1, 0, 0, 1, 1, 0, 0, 1, 0, 1, 0, 0]), .inBlock 4, .code (sub i_levels_c [1, 1, 1, 0, 1, 0, 0, 1, 1, 0, 0, 1, 1, 1, 0, 1, 0, 0, 1, 1, 0, 0, 1, 1]), .inBlock 3, .code (sub i_levels_c [1, 1, 1, 0, 1, 0, 0, 1, 1, 0, 0, 1, 1, 1, 0, 1, 0, 0, 1, 1, 1]), .inLoop (sub i_levels_c [1, 1, 1, 0, 1, 0, 0, 1, 1, 0, 0, 1, 1, 1, 0, 1, 0, 0]), .inBlock 2, .code (sub i_levels_c [1, 1, 1, 0, 1, 0, 0, 1, 1, 0, 0, 1, 1, 1, 1]), .inBlock 1, .code (sub i_levels_c [1, 1, 1, 0, 1, 0, 0, 1, 1, 1]), .inLoop (sub i_levels_c [1, 1, 1, 0, 1, 0, 0]), .inBlock 0, .code (sub i_levels_c [1, 1, 1, 1])] ⟨[.cv .dead, .cv .dead, .cv .dead, .cv .dead, .cv .dead, .cv .dead, .cv (.own 420006), .cv .dead, .adr 200008 0, .cv (.own 430009), .cv (.own 450010), .cv .dead, .cv .dead, .cv .dead, .cv .dead, .cv .dead, .cv .dead, .cv .dead, .cv .dead, .cv .dead, .cv .dead, .cv .dead, .cv .dead, .cv .dead, .cv .dead, .cv (.val (.slice (.pair (.int .i64) (.pair (.pair (.int .i64) (.int .i64)) (.int .i64)))) v25), .cv (.val (.int .i64) v26), .cv (.val (.int .i64) v27), .cv .dead, .cv .dead, .cv .dead, .cv .dead, .cv .dead, .cv .dead, .cv .dead, .cv .dead, .cv (.own 450036), .cv (.val (.int .i64) v37), .cv (.val (.int .i64) v38), .cv .dead, .cv .dead, .cv .dead, .cv .dead, .cv .dead, .cv (.own 440044), .cv (.val (.int .i64) v45), .cv (.val (.int .i64) v46), .cv .dead, .cv .dead, .cv .dead, .cv .dead, .cv .dead, .cv .dead, .cv .dead, .cv .dead, .cv .dead, .cv .dead, .cv .dead, .cv .dead, .cv .dead, .cv .dead, .cv .dead, .cv .dead, .cv .dead, .cv .dead, .cv .dead, .cv .dead, .cv .dead, .cv .dead, .cv .dead, .cv .dead, .cv .dead, .cv .dead], [(420006, .hole (.pair (.slice (.int .i64)) (.int .i64)) o420006 o420006_i (.own 450036)), (200008, .box [.val (.int .i64) o200008_0, .val (.int .i64) o200008_1, .val (.int .i64) o200008_2, .val (.int .i64) o200008_3]), (430009, .mp o430009), (450010, .row (.pair (.slice (.int .i64)) (.int .i64)) o450010 true true), (450036, .row (.pair (.slice (.int .i64)) (.int .i64)) o450036 true false), (440044, .tl (.pair (.slice (.int .i64)) (.int .i64)) o440044 o440044_n)], true⟩
noncomputable def i_AllScenes (k : Nat) (x : (List Int) × (List (Int × (Int × Int) × Int)) × Int × Int × Int) : Option ((List ((List Int) × Int)) × Bool) := aFn E i_AllScenes_fi k x
noncomputable def w_eqIntS (k : Nat) (x : (List Int) × List Int) : Option (Bool) := aFn E w_eqIntS_fi k x
noncomputable def w_eqIntS_l4 (k : Nat) (v0 : List Int) (v1 : List Int) (v5 : Int) : Option (Bool) := aRun E k w_eqIntS_fi.rs (ioOf w_eqIntS_fi.ps) w_eqIntS_fi.res w_eqIntS_fi.hints [.code (sub w_eqIntS_c [1, 1, 0, 1, 0, 0, 0, 0]), .code (sub w_eqIntS_c [1, 1, 0, 1, 0, 0, 0, 1]), .code (sub w_eqIntS_c [1, 1, 0, 1, 0, 0, 1]), .inLoop (sub w_eqIntS_c [1, 1, 0, 1, 0, 0]), .inBlock 0, .code (sub w_eqIntS_c [1, 1, 1])] ⟨[.cv (.val (.slice (.int .i64)) v0), .cv (.val (.slice (.int .i64)) v1), .cv .dead, .cv .dead, .cv .dead, .cv (.val (.int .i64) v5), .cv .dead, .cv .dead, .cv .dead, .cv .dead, .cv .dead, .cv .dead, .cv .dead, .cv .dead, .cv .dead, .cv .dead, .cv .dead, .cv .dead, .cv .dead, .cv .dead, .cv .dead, .cv .dead, .cv .dead, .cv .dead, .cv .dead, .cv .dead], [], true⟩
noncomputable def w_eqScene (k : Nat) (x : ((List Int) × Int) × (List Int) × Int) : Option (Bool) := aFn E w_eqScene_fi k x
noncomputable def w_eqSceneS (k : Nat) (x : (List ((List Int) × Int)) × List ((List Int) × Int)) : Option (Bool) := aFn E w_eqSceneS_fi k x
noncomputable def w_eqSceneS_l4 (k : Nat) (v0 : List ((List Int) × Int)) (v1 : List ((List Int) × Int)) (v5 : Int) : Option (Bool) := aRun E k w_eqSceneS_fi.rs (ioOf w_eqSceneS_fi.ps) w_eqSceneS_fi.res w_eqSceneS_fi.hints [.code (sub w_eqSceneS_c [1, 1, 0, 1, 0, 0, 0, 0]), .code (sub w_eqSceneS_c [1, 1, 0, 1, 0, 0, 0, 1]), .code (sub w_eqSceneS_c [1, 1, 0, 1, 0, 0, 1]), .inLoop (sub w_eqSceneS_c [1, 1, 0, 1, 0, 0]), .inBlock 0, .code (sub w_eqSceneS_c [1, 1, 1])] ⟨[.cv (.val (.slice (.pair (.slice (.int .i64)) (.int .i64))) v0), .cv (.val (.slice (.pair (.slice (.int .i64)) (.int .i64))) v1), .cv .dead, .cv .dead, .cv .dead, .cv (.val (.int .i64) v5), .cv .dead, .cv .dead, .cv .dead, .cv .dead, .cv .dead, .cv .dead, .cv .dead, .cv .dead, .cv .dead, .cv .dead, .cv .dead, .cv .dead, .cv .dead, .cv .dead, .cv .dead, .cv .dead, .cv .dead, .cv .dead, .cv .dead, .cv .dead, .cv .dead], [], true⟩
noncomputable def w_eqMove (k : Nat) (x : (Int × Int) × Int × Int) : Option (Bool) := aFn E w_eqMove_fi k x
noncomputable def w_eqStep (k : Nat) (x : (Int × (Int × Int) × Int) × Int × (Int × Int) × Int) : Option (Bool) := aFn E w_eqStep_fi k x
noncomputable def w_eqStepS (k : Nat) (x : (List (Int × (Int × Int) × Int)) × List (Int × (Int × Int) × Int)) : Option (Bool) := aFn E w_eqStepS_fi k x
noncomputable def w_eqStepS_l4 (k : Nat) (v0 : List (Int × (Int × Int) × Int)) (v1 : List (Int × (Int × Int) × Int)) (v5 : Int) : Option (Bool) := aRun E k w_eqStepS_fi.rs (ioOf w_eqStepS_fi.ps) w_eqStepS_fi.res w_eqStepS_fi.hints [.code (sub w_eqStepS_c [1, 1, 0, 1, 0, 0, 0, 0]), .code (sub w_eqStepS_c [1, 1, 0, 1, 0, 0, 0, 1]), .code (sub w_eqStepS_c [1, 1, 0, 1, 0, 0, 1]), .inLoop (sub w_eqStepS_c [1, 1, 0, 1, 0, 0]), .inBlock 0, .code (sub w_eqStepS_c [1, 1, 1])] ⟨[.cv (.val (.slice (.pair (.int .i64) (.pair (.pair (.int .i64) (.int .i64)) (.int .i64)))) v0), .cv (.val (.slice (.pair (.int .i64) (.pair (.pair (.int .i64) (.int .i64)) (.int .i64)))) v1), .cv .dead, .cv .dead, .cv .dead, .cv (.val (.int .i64) v5), .cv .dead, .cv .dead, .cv .dead, .cv .dead, .cv .dead, .cv .dead, .cv .dead, .cv .dead, .cv .dead, .cv .dead, .cv .dead, .cv .dead, .cv .dead, .cv .dead, .cv .dead, .cv .dead, .cv .dead, .cv .dead, .cv .dead, .cv .dead, .cv .dead], [], true⟩
noncomputable def w_eqTrick (k : Nat) (x : ((List Int) × (List (Int × (Int × Int) × Int)) × Int × Int × Int) × (List Int) × (List (Int × (Int × Int) × Int)) × Int × Int × Int) : Option (Bool) := aFn E w_eqTrick_fi k x
noncomputable def w_markIntS (k : Nat) (x : (List Int) × Int) : Option ((Int) × List Int) := aFn E w_markIntS_fi k x
noncomputable def w_markIntS_l2 (k : Nat) (v1 : Int) (v5 : Int) (o500000 : List Int) : Option ((Int) × List Int) := aRun E k w_markIntS_fi.rs (ioOf w_markIntS_fi.ps) w_markIntS_fi.res w_markIntS_fi.hints [.code (sub w_markIntS_c [1, 0, 1, 0, 0, 0, 0]), .code (sub w_markIntS_c [1, 0, 1, 0, 0, 0, 1]), .code (sub w_markIntS_c [1, 0, 1, 0, 0, 1]), .inLoop (sub w_markIntS_c [1, 0, 1, 0, 0]), .inBlock 0, .code (sub w_markIntS_c [1, 1])] ⟨[.cv (.own 500000), .cv (.val (.int .i64) v1), .cv .dead, .cv .dead, .cv .dead, .cv (.val (.int .i64) v5), .cv .dead, .cv .dead, .cv .dead, .cv .dead, .cv .dead, .cv .dead, .cv .dead, .cv .dead, .cv .dead, .cv .dead, .cv .dead, .cv .dead, .cv .dead], [(500000, .row (.int .i64) o500000 true false)], true⟩
noncomputable def w_markStepS (k : Nat) (x : (List (Int × (Int × Int) × Int)) × Int) : Option ((Int) × List (Int × (Int × Int) × Int)) := aFn E w_markStepS_fi k x
noncomputable def w_markStepS_l2 (k : Nat) (v1 : Int) (v5 : Int) (o500000 : List (Int × (Int × Int) × Int)) : Option ((Int) × List (Int × (Int × Int) × Int)) := aRun E k w_markStepS_fi.rs (ioOf w_markStepS_fi.ps) w_markStepS_fi.res w_markStepS_fi.hints [.code (sub w_markStepS_c [1, 0, 1, 0, 0, 0, 0]), .code (sub w_markStepS_c [1, 0, 1, 0, 0, 0, 1]), .code (sub w_markStepS_c [1, 0, 1, 0, 0, 1]), .inLoop (sub w_markStepS_c [1, 0, 1, 0, 0]), .inBlock 0, .code (sub w_markStepS_c [1, 1])] ⟨[.cv (.own 500000), .cv (.val (.int .i64) v1), .cv .dead, .cv .dead, .cv .dead, .cv (.val (.int .i64) v5), .cv .dead, .cv .dead, .cv .dead, .cv .dead, .cv .dead, .cv .dead, .cv .dead, .cv .dead, .cv .dead, .cv .dead, .cv .dead, .cv .dead, .cv .dead, .cv .dead, .cv .dead, .cv .dead, .cv .dead, .cv .dead, .cv .dead, .cv .dead, .cv .dead, .cv .dead, .cv .dead, .cv .dead, .cv .dead, .cv .dead, .cv .dead, .cv .dead, .cv .dead, .cv .dead, .cv .dead, .cv .dead, .cv .dead, .cv .dead, .cv .dead, .cv .dead, .cv .dead], [(500000, .row (.pair (.int .i64) (.pair (.pair (.int .i64) (.int .i64)) (.int .i64))) o500000 true false)], true⟩
noncomputable def w_markTrick (k : Nat) (x : ((List Int) × (List (Int × (Int × Int) × Int)) × Int × Int × Int) × Int) : Option ((Int) × (List Int) × List (Int × (Int × Int) × Int)) := aFn E w_markTrick_fi k x
noncomputable def w_markSceneS (k : Nat) (x : (List ((List Int) × Int)) × Int) : Option ((Int) × List ((List Int) × Int)) := aFn E w_markSceneS_fi k x
noncomputable def w_markSceneS_l2 (k : Nat) (v1 : Int) (v5 : Int) (o500000 : List ((List Int) × Int)) : Option ((Int) × List ((List Int) × Int)) := aRun E k w_markSceneS_fi.rs (ioOf w_markSceneS_fi.ps) w_markSceneS_fi.res w_markSceneS_fi.hints [.code (sub w_markSceneS_c [1, 0, 1, 0, 0, 0, 0]), .code (sub w_markSceneS_c [1, 0, 1, 0, 0, 0, 1]), .code (sub w_markSceneS_c [1, 0, 1, 0, 0, 1]), .inLoop (sub w_markSceneS_c [1, 0, 1, 0, 0]), .inBlock 0, .code (sub w_markSceneS_c [1, 1])] ⟨[.cv (.own 500000), .cv (.val (.int .i64) v1), .cv .dead, .cv .dead, .cv .dead, .cv (.val (.int .i64) v5), .cv .dead, .cv .dead, .cv .dead, .cv .dead, .cv .dead, .cv .dead, .cv .dead, .cv .dead, .cv .dead, .cv .dead, .cv .dead, .cv .dead, .cv .dead, .cv .dead, .cv .dead, .cv .dead, .cv .dead, .cv .dead, .cv .dead, .cv .dead, .cv .dead], [(500000, .row (.pair (.slice (.int .i64)) (.int .i64)) o500000 true false)], true⟩
noncomputable def w_heldIntS (k : Nat) (x : (List Int) × Int) : Option (Int) := aFn E w_heldIntS_fi k x
noncomputable def w_heldIntS_l2 (k : Nat) (v0 : List Int) (v1 : Int) (v5 : Int) : Option (Int) := aRun E k w_heldIntS_fi.rs (ioOf w_heldIntS_fi.ps) w_heldIntS_fi.res w_heldIntS_fi.hints [.code (sub w_heldIntS_c [1, 0, 1, 0, 0, 0, 0]), .code (sub w_heldIntS_c [1, 0, 1, 0, 0, 0, 1]), .code (sub w_heldIntS_c [1, 0, 1, 0, 0, 1]), .inLoop (sub w_heldIntS_c [1, 0, 1, 0, 0]), .inBlock 0, .code (sub w_heldIntS_c [1, 1])] ⟨[.cv (.val (.slice (.int .i64)) v0), .cv (.val (.int .i64) v1), .cv .dead, .cv .dead, .cv .dead, .cv (.val (.int .i64) v5), .cv .dead, .cv .dead, .cv .dead, .cv .dead, .cv .dead, .cv .dead, .cv .dead, .cv .dead, .cv .dead, .cv .dead, .cv .dead, .cv .dead, .cv .dead, .cv .dead, .cv .dead], [], true⟩
noncomputable def w_heldSceneS (k : Nat) (x : (List ((List Int) × Int)) × Int) : Option (Int) := aFn E w_heldSceneS_fi k x
noncomputable def w_heldSceneS_l2 (k : Nat) (v0 : List ((List Int) × Int)) (v1 : Int) (v5 : Int) : Option (Int) := aRun E k w_heldSceneS_fi.rs (ioOf w_heldSceneS_fi.ps) w_heldSceneS_fi.res w_heldSceneS_fi.hints [.code (sub w_heldSceneS_c [1, 0, 1, 0, 0, 0, 0]), .code (sub w_heldSceneS_c [1, 0, 1, 0, 0, 0, 1]), .code (sub w_heldSceneS_c [1, 0, 1, 0, 0, 1]), .inLoop (sub w_heldSceneS_c [1, 0, 1, 0, 0]), .inBlock 0, .code (sub w_heldSceneS_c [1, 1])] ⟨[.cv (.val (.slice (.pair (.slice (.int .i64)) (.int .i64))) v0), .cv (.val (.int .i64) v1), .cv .dead, .cv .dead, .cv .dead, .cv (.val (.int .i64) v5), .cv .dead, .cv .dead, .cv .dead, .cv .dead, .cv .dead, .cv .dead, .cv .dead, .cv .dead, .cv .dead, .cv .dead, .cv .dead, .cv .dead, .cv .dead, .cv .dead, .cv .dead, .cv .dead, .cv .dead, .cv .dead, .cv .dead, .cv .dead, .cv .dead, .cv .dead, .cv .dead, .cv .dead, .cv .dead], [], true⟩
noncomputable def w_FnExactAllScenes (k : Nat) (x : (List Int) × (List (Int × (Int × Int) × Int)) × Int × Int × Int) : Option (Bool) := aFn E w_FnExactAllScenes_fi k x

theorem w_szIntS_eq (k : Nat) (x0 : List Int) (x1 : Int) : w_szIntS (k + 1) (x0, x1) =
  bif decide ((IntKind.i64.wrap (x1 - (x0.length : Int))) < (0 : Int)) then
    (some (-1 : Int))
  else (some (IntKind.i64.wrap (x1 - (x0.length : Int)))) := by kernel_rfl
theorem w_szStepS_eq (k : Nat) (x0 : List (Int × (Int × Int) × Int)) (x1 : Int) : w_szStepS (k + 1) (x0, x1) =
  bif decide ((IntKind.i64.wrap (x1 - (x0.length : Int))) < (0 : Int)) then
    (some (-1 : Int))
  else (some (IntKind.i64.wrap (x1 - (x0.length : Int)))) := by kernel_rfl
theorem w_szTrick_eq (k : Nat) (x0 : (List Int) × (List (Int × (Int × Int) × Int)) × Int × Int × Int) (x1 : Int) : w_szTrick (k + 1) (x0, x1) =
  (w_szIntS k (x0.1, x1)).bind fun y1 =>
  bif decide (y1 < (0 : Int)) then
    (some (-1 : Int))
  else ((w_szStepS k (x0.2.1, y1)).bind fun y2 =>
    bif decide (y2 < (0 : Int)) then
      (some (-1 : Int))
    else (some y2)) := by kernel_rfl
theorem w_toIntS_eq (k : Nat) (x0 : List Int) : w_toIntS (k + 1) x0 =
  bif decide (0 ≤ (x0.length : Int)) then
    (bif decide ((x0.length : Int) ≤ (rowMax : Int)) then
      (bif ((x0.length : Int) == (x0.length : Int)) then
        (w_toIntS_l3 k x0 (0 : Int) (List.replicate (x0.length : Int).toNat (0 : Int)))
      else (none))
    else (none))
  else (none) := by kernel_rfl
theorem w_toIntS_l3_eq (k : Nat) (v0 : List Int) (v4 : Int) (o100003 : List Int) : w_toIntS_l3 (k + 1) v0 v4 o100003 =
  bif decide (v4 < (v0.length : Int)) then
    (bif decide (0 ≤ v4) then
      (bif decide (v4 < (v0.length : Int)) then
        (bif decide (0 ≤ v4) then
          (bif decide (v4 < (o100003.length : Int)) then
            (bif decide (v4.toNat < o100003.length) then
              (w_toIntS_l3 k v0 (IntKind.i64.wrap (v4 + (1 : Int))) (o100003.set v4.toNat (v0.getD v4.toNat (0 : Int))))
            else (none))
          else (none))
        else (none))
      else (none))
    else (none))
  else (some o100003) := by kernel_rfl
theorem w_toMove_eq (k : Nat) (x0 : Int × Int) : w_toMove (k + 1) x0 =
  some x0 := by kernel_rfl
theorem w_toStep_eq (k : Nat) (x0 : Int × (Int × Int) × Int) : w_toStep (k + 1) x0 =
  (w_toMove k x0.2.1).bind fun y1 =>
  some (x0.1, (y1.1, (y1.2, x0.2.2))) := by kernel_rfl
theorem w_toStepS_eq (k : Nat) (x0 : List (Int × (Int × Int) × Int)) : w_toStepS (k + 1) x0 =
  bif decide (0 ≤ (x0.length : Int)) then
    (bif decide ((x0.length : Int) ≤ (rowMax : Int)) then
      (bif ((x0.length : Int) == (x0.length : Int)) then
        (w_toStepS_l3 k x0 (0 : Int) (List.replicate (x0.length : Int).toNat ((0 : Int), (((0 : Int), (0 : Int)), (0 : Int)))))
      else (none))
    else (none))
  else (none) := by kernel_rfl
theorem w_toStepS_l3_eq (k : Nat) (v0 : List (Int × (Int × Int) × Int)) (v4 : Int) (o100003 : List (Int × (Int × Int) × Int)) : w_toStepS_l3 (k + 1) v0 v4 o100003 =
  bif decide (v4 < (v0.length : Int)) then
    (bif decide (0 ≤ v4) then
      (bif decide (v4 < (v0.length : Int)) then
        ((w_toStep k ((v0.getD v4.toNat ((0 : Int), (((0 : Int), (0 : Int)), (0 : Int)))).1, ((((v0.getD v4.toNat ((0 : Int), (((0 : Int), (0 : Int)), (0 : Int)))).2).1), ((v0.getD v4.toNat ((0 : Int), (((0 : Int), (0 : Int)), (0 : Int)))).2).2))).bind fun y1 =>
        bif decide (0 ≤ v4) then
          (bif decide (v4 < (o100003.length : Int)) then
            (bif decide (v4.toNat < o100003.length) then
              (w_toStepS_l3 k v0 (IntKind.i64.wrap (v4 + (1 : Int))) (o100003.set v4.toNat (y1.1, ((y1.2.1, y1.2.2.1), y1.2.2.2))))
            else (none))
          else (none))
        else (none))
      else (none))
    else (none))
  else (some o100003) := by kernel_rfl
theorem w_toTrick_eq (k : Nat) (x0 : (List Int) × (List (Int × (Int × Int) × Int)) × Int × Int × Int) : w_toTrick (k + 1) x0 =
  (w_toIntS k x0.1).bind fun y1 =>
  (w_toStepS k x0.2.1).bind fun y2 =>
  some (y1, (y2, x0.2.2)) := by kernel_rfl
theorem s_l01In_eq (k : Nat) (x0 : Int) (x1 : Int) (x2 : Int) : s_l01In (k + 1) (x0, x1, x2) =
  bif decide (x0 ≥ x1) then
    (some (decide (x0 ≤ x2)))
  else (some false) := by kernel_rfl
theorem s_CardOf_eq (k : Nat) (x0 : Int) : s_CardOf (k + 1) x0 =
  (s_l01In k (x0, ((0 : Int), (11 : Int)))).bind fun y1 =>
  bif y1 then
    (some x0)
  else ((s_l01In k (x0, ((-12 : Int), (-1 : Int)))).bind fun y2 =>
    bif y2 then
      (some (IntKind.i64.wrap ((-1 : Int) - x0)))
    else (some (-1 : Int))) := by kernel_rfl
theorem s_l02Has_eq (k : Nat) (x0 : List Int) (x1 : Int) : s_l02Has (k + 1) (x0, x1) =
  s_l02Has_l2 k x1 x0 (x0.length : Int) (0 : Int) := by kernel_rfl
theorem s_l02Has_l2_eq (k : Nat) (v1 : Int) (v7 : List Int) (v8 : Int) (v9 : Int) : s_l02Has_l2 (k + 1) v1 v7 v8 v9 =
  bif decide (v9 < v8) then
    (bif decide (0 ≤ v9) then
      (bif decide (v9 < (v7.length : Int)) then
        (bif ((v7.getD v9.toNat (0 : Int)) == v1) then
          (some true)
        else (s_l02Has_l2 k v1 v7 v8 (IntKind.i64.wrap (v9 + (1 : Int)))))
      else (none))
    else (none))
  else (some false) := by kernel_rfl
theorem s_PacketOk_eq (k : Nat) (x0 : List Int) : s_PacketOk (k + 1) x0 =
  bif decide ((x0.length : Int) > (12 : Int)) then
    (some false)
  else (s_PacketOk_l5 k x0 (x0.length : Int) (0 : Int) ([] : List Int)) := by kernel_rfl
theorem s_PacketOk_l5_eq (k : Nat) (v11 : List Int) (v12 : Int) (v13 : Int) (o100003 : List Int) : s_PacketOk_l5 (k + 1) v11 v12 v13 o100003 =
  bif decide (v13 < v12) then
    (bif decide (0 ≤ v13) then
      (bif decide (v13 < (v11.length : Int)) then
        ((s_CardOf k (v11.getD v13.toNat (0 : Int))).bind fun y1 =>
        bif decide (y1 < (0 : Int)) then
          (some false)
        else ((s_l02Has k (o100003, y1)).bind fun y2 =>
          bif y2 then
            (some false)
          else (bif decide (o100003.length + [y1].length ≤ rowMax) then
              (s_PacketOk_l5 k v11 v12 (IntKind.i64.wrap (v13 + (1 : Int))) (o100003 ++ [y1]))
            else (none))))
      else (none))
    else (none))
  else (some true) := by kernel_rfl
theorem s_MoveOk_eq (k : Nat) (x0 : Int) (x1 : Int × Int) : s_MoveOk (k + 1) (x0, x1) =
  (s_l01In k (x0, ((1 : Int), (12 : Int)))).bind fun y1 =>
  bif (!y1) then
    (some false)
  else (bif (x1.1 == (1 : Int)) then
      ((s_l01In k (x1.2, ((0 : Int), x0))).bind fun y2 =>
      some y2)
    else (bif (x1.1 == (2 : Int)) then
        ((s_l01In k (x1.2, ((0 : Int), x0))).bind fun y3 =>
        some y3)
      else (bif (x1.1 == (3 : Int)) then
          ((s_l01In k (x1.2, ((0 : Int), x0))).bind fun y4 =>
          some y4)
        else (bif (x1.1 == (4 : Int)) then
            ((s_l01In k (x1.2, ((0 : Int), (1 : Int)))).bind fun y5 =>
            some y5)
          else (bif (x1.1 == (5 : Int)) then
              ((s_l01In k (x1.2, ((0 : Int), (1 : Int)))).bind fun y6 =>
              some y6)
            else (bif (x1.1 == (7 : Int)) then
                ((s_l01In k (x1.2, ((0 : Int), (1 : Int)))).bind fun y7 =>
                some y7)
              else (bif (x1.1 == (6 : Int)) then
                  (some (x1.2 == (0 : Int)))
                else (bif (x1.1 == (8 : Int)) then
                    ((s_l01In k (x1.2, ((0 : Int), (IntKind.i64.wrap (x0 - (1 : Int)))))).bind fun y8 =>
                    some y8)
                  else (bif (x1.1 == (9 : Int)) then
                      ((s_l01In k (x1.2, ((0 : Int), (IntKind.i64.wrap (x0 - (1 : Int)))))).bind fun y9 =>
                      some y9)
                    else (some false)))))))))) := by kernel_rfl
theorem s_l16Choice_eq (k : Nat) (x0 : Int) (x1 : Int) : s_l16Choice (k + 1) (x0, x1) =
  (s_l01In k (x1, ((0 : Int), (4 : Int)))).bind fun y1 =>
  bif y1 then
    (bif (!(x1 == (3 : Int))) then
      (bif (!(x1 == (2 : Int))) then
        (some true)
      else (some (decide (x0 ≤ (7 : Int)))))
    else (bif decide (x0 ≥ (2 : Int)) then
        (bif (!(x1 == (2 : Int))) then
          (some true)
        else (some (decide (x0 ≤ (7 : Int)))))
      else (some false)))
  else (some false) := by kernel_rfl
theorem s_StepOk_eq (k : Nat) (x0 : Int) (x1 : Int × (Int × Int) × Int) : s_StepOk (k + 1) (x0, x1) =
  (s_l01In k (x0, ((1 : Int), (12 : Int)))).bind fun y1 =>
  bif (!y1) then
    (some false)
  else (bif (x1.1 == (1 : Int)) then
      ((s_MoveOk k (x0, x1.2.1)).bind fun y2 =>
      bif y2 then
        (some (x1.2.2 == (0 : Int)))
      else (some false))
    else (bif (x1.1 == (2 : Int)) then
        (bif ((x1.2.1.1 == (0 : Int)) && ((x1.2.1.2 == (0 : Int)) && true)) then
          ((s_l16Choice k (x0, x1.2.2)).bind fun y3 =>
          some y3)
        else (some false))
      else (bif (x1.1 == (3 : Int)) then
          (bif ((x1.2.1.1 == (0 : Int)) && ((x1.2.1.2 == (0 : Int)) && true)) then
            ((s_l01In k (x1.2.2, ((0 : Int), (IntKind.i64.wrap (x0 - (1 : Int)))))).bind fun y4 =>
            some y4)
          else (some false))
        else (some false)))) := by kernel_rfl
theorem s_PositionOf_eq (k : Nat) (x0 : List Int) (x1 : Int) : s_PositionOf (k + 1) (x0, x1) =
  s_PositionOf_l2 k x1 x0 (x0.length : Int) (0 : Int) := by kernel_rfl
theorem s_PositionOf_l2_eq (k : Nat) (v1 : Int) (v7 : List Int) (v8 : Int) (v9 : Int) : s_PositionOf_l2 (k + 1) v1 v7 v8 v9 =
  bif decide (v9 < v8) then
    (bif decide (0 ≤ v9) then
      (bif decide (v9 < (v7.length : Int)) then
        ((s_CardOf k (v7.getD v9.toNat (0 : Int))).bind fun y1 =>
        bif (y1 == v1) then
          (bif decide (v1 ≥ (0 : Int)) then
            (some v9)
          else (s_PositionOf_l2 k v1 v7 v8 (IntKind.i64.wrap (v9 + (1 : Int)))))
        else (s_PositionOf_l2 k v1 v7 v8 (IntKind.i64.wrap (v9 + (1 : Int)))))
      else (none))
    else (none))
  else (some (-1 : Int)) := by kernel_rfl
theorem s_l16Claim_eq (k : Nat) (x0 : (List Int) × (List (Int × (Int × Int) × Int)) × Int × Int × Int) (x1 : Int) (x2 : Bool) : s_l16Claim (k + 1) (x0, x1, x2) =
  bif (x0.2.2.1 == (0 : Int)) then
    (bif (x0.2.2.2.1 == (0 : Int)) then
      (some (x0.2.2.2.2 == (0 : Int)))
    else (some false))
  else (bif (x0.2.2.1 == (4 : Int)) then
      (bif (x0.2.2.2.1 == (0 : Int)) then
        (some (x0.2.2.2.2 == (0 : Int)))
      else (some false))
    else (bif (x0.2.2.1 == (1 : Int)) then
        (bif x2 then
          ((s_l01In k (x0.2.2.2.1, ((0 : Int), (IntKind.i64.wrap (x1 - (1 : Int)))))).bind fun y1 =>
          bif y1 then
            (some (x0.2.2.2.2 == (0 : Int)))
          else (some false))
        else (some false))
      else (bif (x0.2.2.1 == (2 : Int)) then
          ((s_l01In k (x0.2.2.2.1, ((0 : Int), x1))).bind fun y2 =>
          bif y2 then
            (some (x0.2.2.2.2 == (0 : Int)))
          else (some false))
        else (bif (x0.2.2.1 == (3 : Int)) then
            ((s_PositionOf k (x0.1, x0.2.2.2.1)).bind fun y3 =>
            bif decide (y3 ≥ (0 : Int)) then
              ((s_l01In k (x0.2.2.2.2, ((0 : Int), (IntKind.i64.wrap (x1 - (1 : Int)))))).bind fun y4 =>
              some y4)
            else (some false))
          else (some false))))) := by kernel_rfl
theorem s_TrickOk_eq (k : Nat) (x0 : (List Int) × (List (Int × (Int × Int) × Int)) × Int × Int × Int) : s_TrickOk (k + 1) x0 =
  (s_PacketOk k x0.1).bind fun y1 =>
  bif (!y1) then
    (some false)
  else (bif ((x0.1.length : Int) == (0 : Int)) then
      (some false)
    else (bif decide ((x0.2.1.length : Int) > (12 : Int)) then
        (some false)
      else (s_TrickOk_l6 k (x0.1.length : Int) false x0.2.1 (x0.2.1.length : Int) (0 : Int) x0.1 x0.2.1 x0.2.2.1 x0.2.2.2.1 x0.2.2.2.2))) := by kernel_rfl
theorem s_TrickOk_l6_eq (k : Nat) (v3 : Int) (v4 : Bool) (v25 : List (Int × (Int × Int) × Int)) (v26 : Int) (v27 : Int) (o200001_0 : List Int) (o200001_1 : List (Int × (Int × Int) × Int)) (o200001_2 : Int) (o200001_3 : Int) (o200001_4 : Int) : s_TrickOk_l6 (k + 1) v3 v4 v25 v26 v27 o200001_0 o200001_1 o200001_2 o200001_3 o200001_4 =
  bif decide (v27 < v26) then
    (bif decide (0 ≤ v27) then
      (bif decide (v27 < (v25.length : Int)) then
        ((s_StepOk k (v3, ((v25.getD v27.toNat ((0 : Int), (((0 : Int), (0 : Int)), (0 : Int)))).1, ((((v25.getD v27.toNat ((0 : Int), (((0 : Int), (0 : Int)), (0 : Int)))).2).1), ((v25.getD v27.toNat ((0 : Int), (((0 : Int), (0 : Int)), (0 : Int)))).2).2)))).bind fun y1 =>
        bif (!y1) then
          (some false)
        else (bif v4 then
            (s_TrickOk_l6 k v3 true v25 v26 (IntKind.i64.wrap (v27 + (1 : Int))) o200001_0 o200001_1 o200001_2 o200001_3 o200001_4)
          else (s_TrickOk_l6 k v3 (((v25.getD v27.toNat ((0 : Int), (((0 : Int), (0 : Int)), (0 : Int)))).1) == (3 : Int)) v25 v26 (IntKind.i64.wrap (v27 + (1 : Int))) o200001_0 o200001_1 o200001_2 o200001_3 o200001_4)))
      else (none))
    else (none))
  else ((s_l16Claim k ((o200001_0, (o200001_1, (o200001_2, (o200001_3, o200001_4)))), (v3, v4))).bind fun y2 =>
    some y2) := by kernel_rfl
theorem s_TurnCard_eq (k : Nat) (x0 : Int) : s_TurnCard (k + 1) x0 =
  (s_CardOf k x0).bind fun y1 =>
  bif decide (y1 < (0 : Int)) then
    (some x0)
  else (some (IntKind.i64.wrap ((-1 : Int) - x0))) := by kernel_rfl
theorem s_l04Back_eq (k : Nat) (x0 : List Int) (x1 : Int) (x2 : Bool) : s_l04Back (k + 1) (x0, x1, x2) =
  s_l04Back_l3 k x0 x1 x2 (IntKind.i64.wrap (x1 - (1 : Int))) ([] : List Int) := by kernel_rfl
theorem s_l04Back_l3_eq (k : Nat) (v0 : List Int) (v1 : Int) (v2 : Bool) (v8 : Int) (o100007 : List Int) : s_l04Back_l3 (k + 1) v0 v1 v2 v8 o100007 =
  bif decide (v8 ≥ (0 : Int)) then
    (bif v2 then
      (bif decide (0 ≤ v8) then
        (bif decide (v8 < (v0.length : Int)) then
          ((s_TurnCard k (v0.getD v8.toNat (0 : Int))).bind fun y1 =>
          bif decide (o100007.length + [y1].length ≤ rowMax) then
            (s_l04Back_l3 k v0 v1 v2 (IntKind.i64.wrap (v8 - (1 : Int))) (o100007 ++ [y1]))
          else (none))
        else (none))
      else (none))
    else (bif decide (0 ≤ v8) then
        (bif decide (v8 < (v0.length : Int)) then
          (bif decide (o100007.length + [(v0.getD v8.toNat (0 : Int))].length ≤ rowMax) then
            (s_l04Back_l3 k v0 v1 v2 (IntKind.i64.wrap (v8 - (1 : Int))) (o100007 ++ [(v0.getD v8.toNat (0 : Int))]))
          else (none))
        else (none))
      else (none)))
  else (bif decide (0 ≤ v1) then
      (bif decide (v1 ≤ (v0.length : Int)) then
        (bif decide ((v0.length : Int) ≤ (v0.length : Int)) then
          (bif decide (o100007.length + ((v0.take ((v0.length : Int)).toNat).drop v1.toNat).length ≤ rowMax) then
            (some (o100007 ++ ((v0.take ((v0.length : Int)).toNat).drop v1.toNat)))
          else (none))
        else (none))
      else (none))
    else (none)) := by kernel_rfl
theorem s_l04Faro_eq (k : Nat) (x0 : List Int) (x1 : Int) : s_l04Faro (k + 1) (x0, x1) =
  bif decide (0 ≤ (IntKind.i64.wrap ((x0.length : Int).tdiv (2 : Int)))) then
    (bif decide ((IntKind.i64.wrap ((x0.length : Int).tdiv (2 : Int))) ≤ (x0.length : Int)) then
      (bif decide (0 ≤ (IntKind.i64.wrap ((x0.length : Int).tdiv (2 : Int)))) then
        (bif decide ((IntKind.i64.wrap ((x0.length : Int).tdiv (2 : Int))) ≤ (x0.length : Int)) then
          (bif decide ((x0.length : Int) ≤ (x0.length : Int)) then
            (s_l04Faro_l4 k x1 ((x0.take (IntKind.i64.wrap ((x0.length : Int).tdiv (2 : Int))).toNat).drop 0) ((x0.take ((x0.length : Int)).toNat).drop (IntKind.i64.wrap ((x0.length : Int).tdiv (2 : Int))).toNat) ([] : List Int))
          else (none))
        else (none))
      else (none))
    else (none))
  else (none) := by kernel_rfl
theorem s_l04Faro_l4_eq (k : Nat) (v1 : Int) (v5 : List Int) (v6 : List Int) (o100007 : List Int) : s_l04Faro_l4 (k + 1) v1 v5 v6 o100007 =
  bif decide ((v5.length : Int) > (0 : Int)) then
    (bif ((v6.length : Int) == (0 : Int)) then
      (bif decide ((0 : Int) < (v5.length : Int)) then
        (bif decide (o100007.length + [(v5.getD 0 (0 : Int))].length ≤ rowMax) then
          (bif decide ((1 : Int) ≤ (v5.length : Int)) then
            (bif decide ((v5.length : Int) ≤ (v5.length : Int)) then
              (s_l04Faro_l4 k v1 ((v5.take ((v5.length : Int)).toNat).drop 1) v6 (o100007 ++ [(v5.getD 0 (0 : Int))]))
            else (none))
          else (none))
        else (none))
      else (none))
    else (bif decide ((v5.length : Int) > (0 : Int)) then
        (bif (((o100007.length : Int).tmod (2 : Int)) == v1) then
          (bif decide ((0 : Int) < (v5.length : Int)) then
            (bif decide (o100007.length + [(v5.getD 0 (0 : Int))].length ≤ rowMax) then
              (bif decide ((1 : Int) ≤ (v5.length : Int)) then
                (bif decide ((v5.length : Int) ≤ (v5.length : Int)) then
                  (s_l04Faro_l4 k v1 ((v5.take ((v5.length : Int)).toNat).drop 1) v6 (o100007 ++ [(v5.getD 0 (0 : Int))]))
                else (none))
              else (none))
            else (none))
          else (none))
        else (bif decide ((0 : Int) < (v6.length : Int)) then
            (bif decide (o100007.length + [(v6.getD 0 (0 : Int))].length ≤ rowMax) then
              (bif decide ((1 : Int) ≤ (v6.length : Int)) then
                (bif decide ((v6.length : Int) ≤ (v6.length : Int)) then
                  (s_l04Faro_l4 k v1 v5 ((v6.take ((v6.length : Int)).toNat).drop 1) (o100007 ++ [(v6.getD 0 (0 : Int))]))
                else (none))
              else (none))
            else (none))
          else (none)))
      else (bif decide ((0 : Int) < (v6.length : Int)) then
          (bif decide (o100007.length + [(v6.getD 0 (0 : Int))].length ≤ rowMax) then
            (bif decide ((1 : Int) ≤ (v6.length : Int)) then
              (bif decide ((v6.length : Int) ≤ (v6.length : Int)) then
                (s_l04Faro_l4 k v1 v5 ((v6.take ((v6.length : Int)).toNat).drop 1) (o100007 ++ [(v6.getD 0 (0 : Int))]))
              else (none))
            else (none))
          else (none))
        else (none))))
  else (bif decide ((v6.length : Int) > (0 : Int)) then
      (bif ((v6.length : Int) == (0 : Int)) then
        (bif decide ((0 : Int) < (v5.length : Int)) then
          (bif decide (o100007.length + [(v5.getD 0 (0 : Int))].length ≤ rowMax) then
            (bif decide ((1 : Int) ≤ (v5.length : Int)) then
              (bif decide ((v5.length : Int) ≤ (v5.length : Int)) then
                (s_l04Faro_l4 k v1 ((v5.take ((v5.length : Int)).toNat).drop 1) v6 (o100007 ++ [(v5.getD 0 (0 : Int))]))
              else (none))
            else (none))
          else (none))
        else (none))
      else (bif decide ((v5.length : Int) > (0 : Int)) then
          (bif (((o100007.length : Int).tmod (2 : Int)) == v1) then
            (bif decide ((0 : Int) < (v5.length : Int)) then
              (bif decide (o100007.length + [(v5.getD 0 (0 : Int))].length ≤ rowMax) then
                (bif decide ((1 : Int) ≤ (v5.length : Int)) then
                  (bif decide ((v5.length : Int) ≤ (v5.length : Int)) then
                    (s_l04Faro_l4 k v1 ((v5.take ((v5.length : Int)).toNat).drop 1) v6 (o100007 ++ [(v5.getD 0 (0 : Int))]))
                  else (none))
                else (none))
              else (none))
            else (none))
          else (bif decide ((0 : Int) < (v6.length : Int)) then
              (bif decide (o100007.length + [(v6.getD 0 (0 : Int))].length ≤ rowMax) then
                (bif decide ((1 : Int) ≤ (v6.length : Int)) then
                  (bif decide ((v6.length : Int) ≤ (v6.length : Int)) then
                    (s_l04Faro_l4 k v1 v5 ((v6.take ((v6.length : Int)).toNat).drop 1) (o100007 ++ [(v6.getD 0 (0 : Int))]))
                  else (none))
                else (none))
              else (none))
            else (none)))
        else (bif decide ((0 : Int) < (v6.length : Int)) then
            (bif decide (o100007.length + [(v6.getD 0 (0 : Int))].length ≤ rowMax) then
              (bif decide ((1 : Int) ≤ (v6.length : Int)) then
                (bif decide ((v6.length : Int) ≤ (v6.length : Int)) then
                  (s_l04Faro_l4 k v1 v5 ((v6.take ((v6.length : Int)).toNat).drop 1) (o100007 ++ [(v6.getD 0 (0 : Int))]))
                else (none))
              else (none))
            else (none))
          else (none))))
    else (some o100007)) := by kernel_rfl
theorem s_l04Monge_eq (k : Nat) (x0 : List Int) (x1 : Int) : s_l04Monge (k + 1) (x0, x1) =
  s_l04Monge_l3 k x1 x0 (x0.length : Int) (0 : Int) ([] : List Int) := by kernel_rfl
theorem s_l04Monge_l3_eq (k : Nat) (v1 : Int) (v9 : List Int) (v10 : Int) (v11 : Int) (o100005 : List Int) : s_l04Monge_l3 (k + 1) v1 v9 v10 v11 o100005 =
  bif decide (v11 < v10) then
    (bif decide (0 ≤ v11) then
      (bif decide (v11 < (v9.length : Int)) then
        (bif (v11 == (0 : Int)) then
          (bif decide (o100005.length + [(v9.getD v11.toNat (0 : Int))].length ≤ rowMax) then
            (s_l04Monge_l3 k v1 v9 v10 (IntKind.i64.wrap (v11 + (1 : Int))) (o100005 ++ [(v9.getD v11.toNat (0 : Int))]))
          else (none))
        else (bif ((v11.tmod (2 : Int)) == v1) then
            (bif decide (o100005.length + [(v9.getD v11.toNat (0 : Int))].length ≤ rowMax) then
              (s_l04Monge_l3 k v1 v9 v10 (IntKind.i64.wrap (v11 + (1 : Int))) (o100005 ++ [(v9.getD v11.toNat (0 : Int))]))
            else (none))
          else (bif decide ([(v9.getD v11.toNat (0 : Int))].length + o100005.length ≤ rowMax) then
              (s_l04Monge_l3 k v1 v9 v10 (IntKind.i64.wrap (v11 + (1 : Int))) ([(v9.getD v11.toNat (0 : Int))] ++ o100005))
            else (none))))
      else (none))
    else (none))
  else (some o100005) := by kernel_rfl
theorem s_l04Milk_eq (k : Nat) (x0 : List Int) : s_l04Milk (k + 1) x0 =
  s_l04Milk_l2 k x0 ([] : List Int) := by kernel_rfl
theorem s_l04Milk_l2_eq (k : Nat) (v0 : List Int) (o100003 : List Int) : s_l04Milk_l2 (k + 1) v0 o100003 =
  bif decide ((v0.length : Int) > (1 : Int)) then
    (bif decide ((0 : Int) < (v0.length : Int)) then
      (bif decide (0 ≤ (IntKind.i64.wrap ((v0.length : Int) - (1 : Int)))) then
        (bif decide ((IntKind.i64.wrap ((v0.length : Int) - (1 : Int))) < (v0.length : Int)) then
          (bif decide ([(v0.getD 0 (0 : Int)), (v0.getD (IntKind.i64.wrap ((v0.length : Int) - (1 : Int))).toNat (0 : Int))].length + o100003.length ≤ rowMax) then
            (bif decide ((1 : Int) ≤ (IntKind.i64.wrap ((v0.length : Int) - (1 : Int)))) then
              (bif decide ((IntKind.i64.wrap ((v0.length : Int) - (1 : Int))) ≤ (v0.length : Int)) then
                (s_l04Milk_l2 k ((v0.take (IntKind.i64.wrap ((v0.length : Int) - (1 : Int))).toNat).drop 1) ([(v0.getD 0 (0 : Int)), (v0.getD (IntKind.i64.wrap ((v0.length : Int) - (1 : Int))).toNat (0 : Int))] ++ o100003))
              else (none))
            else (none))
          else (none))
        else (none))
      else (none))
    else (none))
  else (bif decide (([] : List Int).length + v0.length ≤ rowMax) then
      (bif decide ((([] : List Int) ++ v0).length + o100003.length ≤ rowMax) then
        (some ((([] : List Int) ++ v0) ++ o100003))
      else (none))
    else (none)) := by kernel_rfl
theorem s_l04Duck_eq (k : Nat) (x0 : List Int) (x1 : Int) : s_l04Duck (k + 1) (x0, x1) =
  bif decide (([] : List Int).length + x0.length ≤ rowMax) then
    (s_l04Duck_l4 k x1 (([] : List Int) ++ x0) ([] : List Int))
  else (none) := by kernel_rfl
theorem s_l04Duck_l4_eq (k : Nat) (v7 : Int) (o100005 : List Int) (o100006 : List Int) : s_l04Duck_l4 (k + 1) v7 o100005 o100006 =
  bif decide ((o100005.length : Int) > (1 : Int)) then
    (bif decide ((0 : Int) < (o100005.length : Int)) then
      (bif decide (0 < o100005.length) then
        (bif decide ((1 : Int) ≤ (o100005.length : Int)) then
          (bif decide ((o100005.length : Int) ≤ (o100005.length : Int)) then
            (bif ((v7.tmod (2 : Int)) == (1 : Int)) then
              (bif decide ([(o100005.getD 0 (0 : Int))].length + o100006.length ≤ rowMax) then
                (s_l04Duck_l4 k (IntKind.i64.wrap (v7 + (1 : Int))) ((o100005.take ((o100005.length : Int)).toNat).drop 1) ([(o100005.getD 0 (0 : Int))] ++ o100006))
              else (none))
            else (bif decide (((o100005.take ((o100005.length : Int)).toNat).drop 1).length + [(o100005.getD 0 (0 : Int))].length ≤ rowMax) then
                (s_l04Duck_l4 k (IntKind.i64.wrap (v7 + (1 : Int))) (((o100005.take ((o100005.length : Int)).toNat).drop 1) ++ [(o100005.getD 0 (0 : Int))]) o100006)
              else (none)))
          else (none))
        else (none))
      else (none))
    else (none))
  else (bif decide ((0 : Int) < (o100005.length : Int)) then
      (bif decide (0 < o100005.length) then
        (bif decide ([(o100005.getD 0 (0 : Int))].length + o100006.length ≤ rowMax) then
          (some ([(o100005.getD 0 (0 : Int))] ++ o100006))
        else (none))
      else (none))
    else (none)) := by kernel_rfl
theorem s_l04Do_eq (k : Nat) (x0 : List Int) (x1 : Int × Int) : s_l04Do (k + 1) (x0, x1) =
  bif (x1.1 == (1 : Int)) then
    (bif decide (0 ≤ x1.2) then
      (bif decide (x1.2 ≤ (x0.length : Int)) then
        (bif decide ((x0.length : Int) ≤ (x0.length : Int)) then
          (bif decide (([] : List Int).length + ((x0.take ((x0.length : Int)).toNat).drop x1.2.toNat).length ≤ rowMax) then
            (bif decide (0 ≤ x1.2) then
              (bif decide (x1.2 ≤ (x0.length : Int)) then
                (bif decide ((([] : List Int) ++ ((x0.take ((x0.length : Int)).toNat).drop x1.2.toNat)).length + ((x0.take x1.2.toNat).drop 0).length ≤ rowMax) then
                  (some ((([] : List Int) ++ ((x0.take ((x0.length : Int)).toNat).drop x1.2.toNat)) ++ ((x0.take x1.2.toNat).drop 0)))
                else (none))
              else (none))
            else (none))
          else (none))
        else (none))
      else (none))
    else (none))
  else (bif (x1.1 == (2 : Int)) then
      ((s_l04Back k (x0, (x1.2, false))).bind fun y1 =>
      some y1)
    else (bif (x1.1 == (3 : Int)) then
        ((s_l04Back k (x0, (x1.2, true))).bind fun y2 =>
        some y2)
      else (bif (x1.1 == (4 : Int)) then
          ((s_l04Faro k (x0, x1.2)).bind fun y3 =>
          some y3)
        else (bif (x1.1 == (5 : Int)) then
            ((s_l04Monge k (x0, x1.2)).bind fun y4 =>
            some y4)
          else (bif (x1.1 == (6 : Int)) then
              ((s_l04Milk k x0).bind fun y5 =>
              some y5)
            else (bif (x1.1 == (7 : Int)) then
                ((s_l04Duck k (x0, x1.2)).bind fun y6 =>
                some y6)
              else (bif (x1.1 == (8 : Int)) then
                  (bif decide (([] : List Int).length + x0.length ≤ rowMax) then
                    (bif decide (0 ≤ x1.2) then
                      (bif decide (x1.2 < (x0.length : Int)) then
                        ((s_TurnCard k (x0.getD x1.2.toNat (0 : Int))).bind fun y7 =>
                        bif decide (0 ≤ x1.2) then
                          (bif decide (x1.2 < ((([] : List Int) ++ x0).length : Int)) then
                            (bif decide (x1.2.toNat < (([] : List Int) ++ x0).length) then
                              (some ((([] : List Int) ++ x0).set x1.2.toNat y7))
                            else (none))
                          else (none))
                        else (none))
                      else (none))
                    else (none))
                  else (none))
                else (bif decide (0 ≤ x1.2) then
                    (bif decide (x1.2 ≤ (x0.length : Int)) then
                      (bif decide (([] : List Int).length + ((x0.take x1.2.toNat).drop 0).length ≤ rowMax) then
                        (bif decide (0 ≤ (IntKind.i64.wrap (x1.2 + (1 : Int)))) then
                          (bif decide ((IntKind.i64.wrap (x1.2 + (1 : Int))) ≤ (x0.length : Int)) then
                            (bif decide ((x0.length : Int) ≤ (x0.length : Int)) then
                              (bif decide ((([] : List Int) ++ ((x0.take x1.2.toNat).drop 0)).length + ((x0.take ((x0.length : Int)).toNat).drop (IntKind.i64.wrap (x1.2 + (1 : Int))).toNat).length ≤ rowMax) then
                                (bif decide (0 ≤ x1.2) then
                                  (bif decide (x1.2 < (x0.length : Int)) then
                                    (bif decide (((([] : List Int) ++ ((x0.take x1.2.toNat).drop 0)) ++ ((x0.take ((x0.length : Int)).toNat).drop (IntKind.i64.wrap (x1.2 + (1 : Int))).toNat)).length + [(x0.getD x1.2.toNat (0 : Int))].length ≤ rowMax) then
                                      (some (((([] : List Int) ++ ((x0.take x1.2.toNat).drop 0)) ++ ((x0.take ((x0.length : Int)).toNat).drop (IntKind.i64.wrap (x1.2 + (1 : Int))).toNat)) ++ [(x0.getD x1.2.toNat (0 : Int))]))
                                    else (none))
                                  else (none))
                                else (none))
                              else (none))
                            else (none))
                          else (none))
                        else (none))
                      else (none))
                    else (none))
                  else (none))))))))) := by kernel_rfl
theorem s_l05Cuts_eq (k : Nat) (x0 : List Int) : s_l05Cuts (k + 1) x0 =
  s_l05Cuts_l3 k x0 (x0.length : Int) (0 : Int) ([] : List (List Int)) := by kernel_rfl
theorem s_l05Cuts_l3_eq (k : Nat) (v0 : List Int) (v7 : Int) (v8 : Int) (o100003 : List (List Int)) : s_l05Cuts_l3 (k + 1) v0 v7 v8 o100003 =
  bif decide (v8 < v7) then
    ((s_l04Do k (v0, ((1 : Int), v8))).bind fun y1 =>
    bif decide (o100003.length + [y1].length ≤ rowMax) then
      (s_l05Cuts_l3 k v0 v7 (IntKind.i64.wrap (v8 + (1 : Int))) (o100003 ++ [y1]))
    else (none))
  else (some o100003) := by kernel_rfl
theorem s_l05Weave_eq (k : Nat) (x0 : List (List Int)) (x1 : List Int) (x2 : List Int) (x3 : List Int) : s_l05Weave (k + 1) (x0, x1, x2, x3) =
  bif ((x2.length : Int) == (0 : Int)) then
    (bif ((x3.length : Int) == (0 : Int)) then
      (bif decide (x0.length + [x1].length ≤ rowMax) then
        (some (x0 ++ [x1]))
      else (none))
    else (bif decide ((x2.length : Int) > (0 : Int)) then
        (bif decide (([] : List Int).length + x1.length ≤ rowMax) then
          (bif decide ((0 : Int) < (x2.length : Int)) then
            (bif decide ((([] : List Int) ++ x1).length + [(x2.getD 0 (0 : Int))].length ≤ rowMax) then
              (bif decide ((1 : Int) ≤ (x2.length : Int)) then
                (bif decide ((x2.length : Int) ≤ (x2.length : Int)) then
                  ((s_l05Weave k (x0, (((([] : List Int) ++ x1) ++ [(x2.getD 0 (0 : Int))]), (((x2.take ((x2.length : Int)).toNat).drop 1), x3)))).bind fun y1 =>
                  bif decide ((x3.length : Int) > (0 : Int)) then
                    (bif decide (([] : List Int).length + x1.length ≤ rowMax) then
                      (bif decide ((0 : Int) < (x3.length : Int)) then
                        (bif decide ((([] : List Int) ++ x1).length + [(x3.getD 0 (0 : Int))].length ≤ rowMax) then
                          (bif decide ((1 : Int) ≤ (x3.length : Int)) then
                            (bif decide ((x3.length : Int) ≤ (x3.length : Int)) then
                              ((s_l05Weave k (y1, (((([] : List Int) ++ x1) ++ [(x3.getD 0 (0 : Int))]), (x2, ((x3.take ((x3.length : Int)).toNat).drop 1))))).bind fun y2 =>
                              some y2)
                            else (none))
                          else (none))
                        else (none))
                      else (none))
                    else (none))
                  else (some y1))
                else (none))
              else (none))
            else (none))
          else (none))
        else (none))
      else (bif decide ((x3.length : Int) > (0 : Int)) then
          (bif decide (([] : List Int).length + x1.length ≤ rowMax) then
            (bif decide ((0 : Int) < (x3.length : Int)) then
              (bif decide ((([] : List Int) ++ x1).length + [(x3.getD 0 (0 : Int))].length ≤ rowMax) then
                (bif decide ((1 : Int) ≤ (x3.length : Int)) then
                  (bif decide ((x3.length : Int) ≤ (x3.length : Int)) then
                    ((s_l05Weave k (x0, (((([] : List Int) ++ x1) ++ [(x3.getD 0 (0 : Int))]), (x2, ((x3.take ((x3.length : Int)).toNat).drop 1))))).bind fun y3 =>
                    some y3)
                  else (none))
                else (none))
              else (none))
            else (none))
          else (none))
        else (some x0))))
  else (bif decide ((x2.length : Int) > (0 : Int)) then
      (bif decide (([] : List Int).length + x1.length ≤ rowMax) then
        (bif decide ((0 : Int) < (x2.length : Int)) then
          (bif decide ((([] : List Int) ++ x1).length + [(x2.getD 0 (0 : Int))].length ≤ rowMax) then
            (bif decide ((1 : Int) ≤ (x2.length : Int)) then
              (bif decide ((x2.length : Int) ≤ (x2.length : Int)) then
                ((s_l05Weave k (x0, (((([] : List Int) ++ x1) ++ [(x2.getD 0 (0 : Int))]), (((x2.take ((x2.length : Int)).toNat).drop 1), x3)))).bind fun y4 =>
                bif decide ((x3.length : Int) > (0 : Int)) then
                  (bif decide (([] : List Int).length + x1.length ≤ rowMax) then
                    (bif decide ((0 : Int) < (x3.length : Int)) then
                      (bif decide ((([] : List Int) ++ x1).length + [(x3.getD 0 (0 : Int))].length ≤ rowMax) then
                        (bif decide ((1 : Int) ≤ (x3.length : Int)) then
                          (bif decide ((x3.length : Int) ≤ (x3.length : Int)) then
                            ((s_l05Weave k (y4, (((([] : List Int) ++ x1) ++ [(x3.getD 0 (0 : Int))]), (x2, ((x3.take ((x3.length : Int)).toNat).drop 1))))).bind fun y5 =>
                            some y5)
                          else (none))
                        else (none))
                      else (none))
                    else (none))
                  else (none))
                else (some y4))
              else (none))
            else (none))
          else (none))
        else (none))
      else (none))
    else (bif decide ((x3.length : Int) > (0 : Int)) then
        (bif decide (([] : List Int).length + x1.length ≤ rowMax) then
          (bif decide ((0 : Int) < (x3.length : Int)) then
            (bif decide ((([] : List Int) ++ x1).length + [(x3.getD 0 (0 : Int))].length ≤ rowMax) then
              (bif decide ((1 : Int) ≤ (x3.length : Int)) then
                (bif decide ((x3.length : Int) ≤ (x3.length : Int)) then
                  ((s_l05Weave k (x0, (((([] : List Int) ++ x1) ++ [(x3.getD 0 (0 : Int))]), (x2, ((x3.take ((x3.length : Int)).toNat).drop 1))))).bind fun y6 =>
                  some y6)
                else (none))
              else (none))
            else (none))
          else (none))
        else (none))
      else (some x0))) := by kernel_rfl
theorem s_l05Of_eq (k : Nat) (x0 : List Int) (x1 : Int) : s_l05Of (k + 1) (x0, x1) =
  bif (x1 == (1 : Int)) then
    ((s_l05Cuts k x0).bind fun y1 =>
    some y1)
  else (bif (x1 == (2 : Int)) then
      (s_l05Of_l7 k x0 (0 : Int) ([] : List (List Int)))
    else (bif (x1 == (3 : Int)) then
        ((s_l04Back k (x0, ((2 : Int), true))).bind fun y2 =>
        (s_l05Cuts k y2).bind fun y3 =>
        some y3)
      else (bif (x1 == (4 : Int)) then
          (s_l05Of_l15 k x0 x0 (x0.length : Int) (0 : Int) ([] : List (List Int)))
        else (bif decide (([] : List (List Int)).length + [x0].length ≤ rowMax) then
            (some (([] : List (List Int)) ++ [x0]))
          else (none))))) := by kernel_rfl
theorem s_l05Of_l7_eq (k : Nat) (v0 : List Int) (v6 : Int) (o100005 : List (List Int)) : s_l05Of_l7 (k + 1) v0 v6 o100005 =
  bif decide (v6 ≤ (v0.length : Int)) then
    (bif decide (0 ≤ v6) then
      (bif decide (v6 ≤ (v0.length : Int)) then
        (bif decide (0 ≤ v6) then
          (bif decide (v6 ≤ (v0.length : Int)) then
            (bif decide ((v0.length : Int) ≤ (v0.length : Int)) then
              ((s_l05Weave k (o100005, (([] : List Int), (((v0.take v6.toNat).drop 0), ((v0.take ((v0.length : Int)).toNat).drop v6.toNat))))).bind fun y1 =>
              s_l05Of_l7 k v0 (IntKind.i64.wrap (v6 + (1 : Int))) y1)
            else (none))
          else (none))
        else (none))
      else (none))
    else (none))
  else (some o100005) := by kernel_rfl
theorem s_l05Of_l15_eq (k : Nat) (v0 : List Int) (v40 : List Int) (v41 : Int) (v42 : Int) (o100005 : List (List Int)) : s_l05Of_l15 (k + 1) v0 v40 v41 v42 o100005 =
  bif decide (v42 < v41) then
    (bif decide (0 ≤ v42) then
      (bif decide (v42 < (v40.length : Int)) then
        (bif decide (0 ≤ v42) then
          (bif decide (v42 ≤ (v0.length : Int)) then
            (bif decide (([] : List Int).length + ((v0.take v42.toNat).drop 0).length ≤ rowMax) then
              (bif decide (0 ≤ (IntKind.i64.wrap (v42 + (1 : Int)))) then
                (bif decide ((IntKind.i64.wrap (v42 + (1 : Int))) ≤ (v0.length : Int)) then
                  (bif decide ((v0.length : Int) ≤ (v0.length : Int)) then
                    (bif decide ((([] : List Int) ++ ((v0.take v42.toNat).drop 0)).length + ((v0.take ((v0.length : Int)).toNat).drop (IntKind.i64.wrap (v42 + (1 : Int))).toNat).length ≤ rowMax) then
                      (bif decide ([(v40.getD v42.toNat (0 : Int))].length + ((([] : List Int) ++ ((v0.take v42.toNat).drop 0)) ++ ((v0.take ((v0.length : Int)).toNat).drop (IntKind.i64.wrap (v42 + (1 : Int))).toNat)).length ≤ rowMax) then
                        (bif decide (o100005.length + ([([(v40.getD v42.toNat (0 : Int))] ++ ((([] : List Int) ++ ((v0.take v42.toNat).drop 0)) ++ ((v0.take ((v0.length : Int)).toNat).drop (IntKind.i64.wrap (v42 + (1 : Int))).toNat)))]).length ≤ rowMax) then
                          (s_l05Of_l15 k v0 v40 v41 (IntKind.i64.wrap (v42 + (1 : Int))) (o100005 ++ ([([(v40.getD v42.toNat (0 : Int))] ++ ((([] : List Int) ++ ((v0.take v42.toNat).drop 0)) ++ ((v0.take ((v0.length : Int)).toNat).drop (IntKind.i64.wrap (v42 + (1 : Int))).toNat)))])))
                        else (none))
                      else (none))
                    else (none))
                  else (none))
                else (none))
              else (none))
            else (none))
          else (none))
        else (none))
      else (none))
    else (none))
  else (some o100005) := by kernel_rfl
theorem s_SamePacket_eq (k : Nat) (x0 : List Int) (x1 : List Int) : s_SamePacket (k + 1) (x0, x1) =
  bif (!((x0.length : Int) == (x1.length : Int))) then
    (some false)
  else (s_SamePacket_l4 k x1 x0 (x0.length : Int) (0 : Int)) := by kernel_rfl
theorem s_SamePacket_l4_eq (k : Nat) (v1 : List Int) (v12 : List Int) (v13 : Int) (v14 : Int) : s_SamePacket_l4 (k + 1) v1 v12 v13 v14 =
  bif decide (v14 < v13) then
    (bif decide (0 ≤ v14) then
      (bif decide (v14 < (v12.length : Int)) then
        (bif decide (0 ≤ v14) then
          (bif decide (v14 < (v1.length : Int)) then
            (bif (!((v12.getD v14.toNat (0 : Int)) == (v1.getD v14.toNat (0 : Int)))) then
              (some false)
            else (s_SamePacket_l4 k v1 v12 v13 (IntKind.i64.wrap (v14 + (1 : Int)))))
          else (none))
        else (none))
      else (none))
    else (none))
  else (some true) := by kernel_rfl
theorem s_l05Less_eq (k : Nat) (x0 : List Int) (x1 : List Int) : s_l05Less (k + 1) (x0, x1) =
  s_l05Less_l2 k x0 x1 x0 (x0.length : Int) (0 : Int) := by kernel_rfl
theorem s_l05Less_l2_eq (k : Nat) (v0 : List Int) (v1 : List Int) (v7 : List Int) (v8 : Int) (v9 : Int) : s_l05Less_l2 (k + 1) v0 v1 v7 v8 v9 =
  bif decide (v9 < v8) then
    (bif decide (0 ≤ v9) then
      (bif decide (v9 < (v7.length : Int)) then
        (bif decide (v9 ≥ (v1.length : Int)) then
          (some false)
        else (bif decide (0 ≤ v9) then
            (bif decide (v9 < (v1.length : Int)) then
              (bif (!((v7.getD v9.toNat (0 : Int)) == (v1.getD v9.toNat (0 : Int)))) then
                (bif decide (0 ≤ v9) then
                  (bif decide (v9 < (v1.length : Int)) then
                    (some (decide ((v7.getD v9.toNat (0 : Int)) < (v1.getD v9.toNat (0 : Int)))))
                  else (none))
                else (none))
              else (s_l05Less_l2 k v0 v1 v7 v8 (IntKind.i64.wrap (v9 + (1 : Int)))))
            else (none))
          else (none)))
      else (none))
    else (none))
  else (some (decide ((v0.length : Int) < (v1.length : Int)))) := by kernel_rfl
theorem s_l05Merge_eq (k : Nat) (x0 : List (List Int)) (x1 : List (List Int)) : s_l05Merge (k + 1) (x0, x1) =
  s_l05Merge_l2 k x0 x1 ([] : List (List Int)) := by kernel_rfl
theorem s_l05Merge_l2_eq (k : Nat) (v0 : List (List Int)) (v1 : List (List Int)) (o450005 : List (List Int)) : s_l05Merge_l2 (k + 1) v0 v1 o450005 =
  bif decide ((v0.length : Int) > (0 : Int)) then
    (bif ((v1.length : Int) == (0 : Int)) then
      (bif decide ((0 : Int) < (v0.length : Int)) then
        (bif decide ((1 : Int) ≤ (v0.length : Int)) then
          (bif decide ((v0.length : Int) ≤ (v0.length : Int)) then
            (bif ((o450005.length : Int) == (0 : Int)) then
              (bif decide (([] : List Int).length + (v0.getD 0 []).length ≤ rowMax) then
                (bif decide (o450005.length + ([(([] : List Int) ++ (v0.getD 0 []))]).length ≤ rowMax) then
                  (s_l05Merge_l2 k ((v0.take ((v0.length : Int)).toNat).drop 1) v1 (o450005 ++ ([(([] : List Int) ++ (v0.getD 0 []))])))
                else (none))
              else (none))
            else (bif decide (0 ≤ (IntKind.i64.wrap ((o450005.length : Int) - (1 : Int)))) then
                (bif decide ((IntKind.i64.wrap ((o450005.length : Int) - (1 : Int))) < (o450005.length : Int)) then
                  (bif decide ((IntKind.i64.wrap ((o450005.length : Int) - (1 : Int))).toNat < o450005.length) then
                    ((s_SamePacket k ((o450005.getD (IntKind.i64.wrap ((o450005.length : Int) - (1 : Int))).toNat []), (v0.getD 0 []))).bind fun y1 =>
                    bif (!y1) then
                      (bif decide (([] : List Int).length + (v0.getD 0 []).length ≤ rowMax) then
                        (bif decide ((o450005.set (IntKind.i64.wrap ((o450005.length : Int) - (1 : Int))).toNat (o450005.getD (IntKind.i64.wrap ((o450005.length : Int) - (1 : Int))).toNat [])).length + ([(([] : List Int) ++ (v0.getD 0 []))]).length ≤ rowMax) then
                          (s_l05Merge_l2 k ((v0.take ((v0.length : Int)).toNat).drop 1) v1 ((o450005.set (IntKind.i64.wrap ((o450005.length : Int) - (1 : Int))).toNat (o450005.getD (IntKind.i64.wrap ((o450005.length : Int) - (1 : Int))).toNat [])) ++ ([(([] : List Int) ++ (v0.getD 0 []))])))
                        else (none))
                      else (none))
                    else (s_l05Merge_l2 k ((v0.take ((v0.length : Int)).toNat).drop 1) v1 (o450005.set (IntKind.i64.wrap ((o450005.length : Int) - (1 : Int))).toNat (o450005.getD (IntKind.i64.wrap ((o450005.length : Int) - (1 : Int))).toNat []))))
                  else (none))
                else (none))
              else (none)))
          else (none))
        else (none))
      else (none))
    else (bif decide ((v0.length : Int) > (0 : Int)) then
        (bif decide ((0 : Int) < (v1.length : Int)) then
          (bif decide ((0 : Int) < (v0.length : Int)) then
            ((s_l05Less k ((v1.getD 0 []), (v0.getD 0 []))).bind fun y2 =>
            bif (!y2) then
              (bif decide ((0 : Int) < (v0.length : Int)) then
                (bif decide ((1 : Int) ≤ (v0.length : Int)) then
                  (bif decide ((v0.length : Int) ≤ (v0.length : Int)) then
                    (bif ((o450005.length : Int) == (0 : Int)) then
                      (bif decide (([] : List Int).length + (v0.getD 0 []).length ≤ rowMax) then
                        (bif decide (o450005.length + ([(([] : List Int) ++ (v0.getD 0 []))]).length ≤ rowMax) then
                          (s_l05Merge_l2 k ((v0.take ((v0.length : Int)).toNat).drop 1) v1 (o450005 ++ ([(([] : List Int) ++ (v0.getD 0 []))])))
                        else (none))
                      else (none))
                    else (bif decide (0 ≤ (IntKind.i64.wrap ((o450005.length : Int) - (1 : Int)))) then
                        (bif decide ((IntKind.i64.wrap ((o450005.length : Int) - (1 : Int))) < (o450005.length : Int)) then
                          (bif decide ((IntKind.i64.wrap ((o450005.length : Int) - (1 : Int))).toNat < o450005.length) then
                            ((s_SamePacket k ((o450005.getD (IntKind.i64.wrap ((o450005.length : Int) - (1 : Int))).toNat []), (v0.getD 0 []))).bind fun y3 =>
                            bif (!y3) then
                              (bif decide (([] : List Int).length + (v0.getD 0 []).length ≤ rowMax) then
                                (bif decide ((o450005.set (IntKind.i64.wrap ((o450005.length : Int) - (1 : Int))).toNat (o450005.getD (IntKind.i64.wrap ((o450005.length : Int) - (1 : Int))).toNat [])).length + ([(([] : List Int) ++ (v0.getD 0 []))]).length ≤ rowMax) then
                                  (s_l05Merge_l2 k ((v0.take ((v0.length : Int)).toNat).drop 1) v1 ((o450005.set (IntKind.i64.wrap ((o450005.length : Int) - (1 : Int))).toNat (o450005.getD (IntKind.i64.wrap ((o450005.length : Int) - (1 : Int))).toNat [])) ++ ([(([] : List Int) ++ (v0.getD 0 []))])))
                                else (none))
                              else (none))
                            else (s_l05Merge_l2 k ((v0.take ((v0.length : Int)).toNat).drop 1) v1 (o450005.set (IntKind.i64.wrap ((o450005.length : Int) - (1 : Int))).toNat (o450005.getD (IntKind.i64.wrap ((o450005.length : Int) - (1 : Int))).toNat []))))
                          else (none))
                        else (none))
                      else (none)))
                  else (none))
                else (none))
              else (none))
            else (bif decide ((0 : Int) < (v1.length : Int)) then
                (bif decide ((1 : Int) ≤ (v1.length : Int)) then
                  (bif decide ((v1.length : Int) ≤ (v1.length : Int)) then
                    (bif ((o450005.length : Int) == (0 : Int)) then
                      (bif decide (([] : List Int).length + (v1.getD 0 []).length ≤ rowMax) then
                        (bif decide (o450005.length + ([(([] : List Int) ++ (v1.getD 0 []))]).length ≤ rowMax) then
                          (s_l05Merge_l2 k v0 ((v1.take ((v1.length : Int)).toNat).drop 1) (o450005 ++ ([(([] : List Int) ++ (v1.getD 0 []))])))
                        else (none))
                      else (none))
                    else (bif decide (0 ≤ (IntKind.i64.wrap ((o450005.length : Int) - (1 : Int)))) then
                        (bif decide ((IntKind.i64.wrap ((o450005.length : Int) - (1 : Int))) < (o450005.length : Int)) then
                          (bif decide ((IntKind.i64.wrap ((o450005.length : Int) - (1 : Int))).toNat < o450005.length) then
                            ((s_SamePacket k ((o450005.getD (IntKind.i64.wrap ((o450005.length : Int) - (1 : Int))).toNat []), (v1.getD 0 []))).bind fun y4 =>
                            bif (!y4) then
                              (bif decide (([] : List Int).length + (v1.getD 0 []).length ≤ rowMax) then
                                (bif decide ((o450005.set (IntKind.i64.wrap ((o450005.length : Int) - (1 : Int))).toNat (o450005.getD (IntKind.i64.wrap ((o450005.length : Int) - (1 : Int))).toNat [])).length + ([(([] : List Int) ++ (v1.getD 0 []))]).length ≤ rowMax) then
                                  (s_l05Merge_l2 k v0 ((v1.take ((v1.length : Int)).toNat).drop 1) ((o450005.set (IntKind.i64.wrap ((o450005.length : Int) - (1 : Int))).toNat (o450005.getD (IntKind.i64.wrap ((o450005.length : Int) - (1 : Int))).toNat [])) ++ ([(([] : List Int) ++ (v1.getD 0 []))])))
                                else (none))
                              else (none))
                            else (s_l05Merge_l2 k v0 ((v1.take ((v1.length : Int)).toNat).drop 1) (o450005.set (IntKind.i64.wrap ((o450005.length : Int) - (1 : Int))).toNat (o450005.getD (IntKind.i64.wrap ((o450005.length : Int) - (1 : Int))).toNat []))))
                          else (none))
                        else (none))
                      else (none)))
                  else (none))
                else (none))
              else (none)))
          else (none))
        else (none))
      else (bif decide ((0 : Int) < (v1.length : Int)) then
          (bif decide ((1 : Int) ≤ (v1.length : Int)) then
            (bif decide ((v1.length : Int) ≤ (v1.length : Int)) then
              (bif ((o450005.length : Int) == (0 : Int)) then
                (bif decide (([] : List Int).length + (v1.getD 0 []).length ≤ rowMax) then
                  (bif decide (o450005.length + ([(([] : List Int) ++ (v1.getD 0 []))]).length ≤ rowMax) then
                    (s_l05Merge_l2 k v0 ((v1.take ((v1.length : Int)).toNat).drop 1) (o450005 ++ ([(([] : List Int) ++ (v1.getD 0 []))])))
                  else (none))
                else (none))
              else (bif decide (0 ≤ (IntKind.i64.wrap ((o450005.length : Int) - (1 : Int)))) then
                  (bif decide ((IntKind.i64.wrap ((o450005.length : Int) - (1 : Int))) < (o450005.length : Int)) then
                    (bif decide ((IntKind.i64.wrap ((o450005.length : Int) - (1 : Int))).toNat < o450005.length) then
                      ((s_SamePacket k ((o450005.getD (IntKind.i64.wrap ((o450005.length : Int) - (1 : Int))).toNat []), (v1.getD 0 []))).bind fun y5 =>
                      bif (!y5) then
                        (bif decide (([] : List Int).length + (v1.getD 0 []).length ≤ rowMax) then
                          (bif decide ((o450005.set (IntKind.i64.wrap ((o450005.length : Int) - (1 : Int))).toNat (o450005.getD (IntKind.i64.wrap ((o450005.length : Int) - (1 : Int))).toNat [])).length + ([(([] : List Int) ++ (v1.getD 0 []))]).length ≤ rowMax) then
                            (s_l05Merge_l2 k v0 ((v1.take ((v1.length : Int)).toNat).drop 1) ((o450005.set (IntKind.i64.wrap ((o450005.length : Int) - (1 : Int))).toNat (o450005.getD (IntKind.i64.wrap ((o450005.length : Int) - (1 : Int))).toNat [])) ++ ([(([] : List Int) ++ (v1.getD 0 []))])))
                          else (none))
                        else (none))
                      else (s_l05Merge_l2 k v0 ((v1.take ((v1.length : Int)).toNat).drop 1) (o450005.set (IntKind.i64.wrap ((o450005.length : Int) - (1 : Int))).toNat (o450005.getD (IntKind.i64.wrap ((o450005.length : Int) - (1 : Int))).toNat []))))
                    else (none))
                  else (none))
                else (none)))
            else (none))
          else (none))
        else (none))))
  else (bif decide ((v1.length : Int) > (0 : Int)) then
      (bif ((v1.length : Int) == (0 : Int)) then
        (bif decide ((0 : Int) < (v0.length : Int)) then
          (bif decide ((1 : Int) ≤ (v0.length : Int)) then
            (bif decide ((v0.length : Int) ≤ (v0.length : Int)) then
              (bif ((o450005.length : Int) == (0 : Int)) then
                (bif decide (([] : List Int).length + (v0.getD 0 []).length ≤ rowMax) then
                  (bif decide (o450005.length + ([(([] : List Int) ++ (v0.getD 0 []))]).length ≤ rowMax) then
                    (s_l05Merge_l2 k ((v0.take ((v0.length : Int)).toNat).drop 1) v1 (o450005 ++ ([(([] : List Int) ++ (v0.getD 0 []))])))
                  else (none))
                else (none))
              else (bif decide (0 ≤ (IntKind.i64.wrap ((o450005.length : Int) - (1 : Int)))) then
                  (bif decide ((IntKind.i64.wrap ((o450005.length : Int) - (1 : Int))) < (o450005.length : Int)) then
                    (bif decide ((IntKind.i64.wrap ((o450005.length : Int) - (1 : Int))).toNat < o450005.length) then
                      ((s_SamePacket k ((o450005.getD (IntKind.i64.wrap ((o450005.length : Int) - (1 : Int))).toNat []), (v0.getD 0 []))).bind fun y6 =>
                      bif (!y6) then
                        (bif decide (([] : List Int).length + (v0.getD 0 []).length ≤ rowMax) then
                          (bif decide ((o450005.set (IntKind.i64.wrap ((o450005.length : Int) - (1 : Int))).toNat (o450005.getD (IntKind.i64.wrap ((o450005.length : Int) - (1 : Int))).toNat [])).length + ([(([] : List Int) ++ (v0.getD 0 []))]).length ≤ rowMax) then
                            (s_l05Merge_l2 k ((v0.take ((v0.length : Int)).toNat).drop 1) v1 ((o450005.set (IntKind.i64.wrap ((o450005.length : Int) - (1 : Int))).toNat (o450005.getD (IntKind.i64.wrap ((o450005.length : Int) - (1 : Int))).toNat [])) ++ ([(([] : List Int) ++ (v0.getD 0 []))])))
                          else (none))
                        else (none))
                      else (s_l05Merge_l2 k ((v0.take ((v0.length : Int)).toNat).drop 1) v1 (o450005.set (IntKind.i64.wrap ((o450005.length : Int) - (1 : Int))).toNat (o450005.getD (IntKind.i64.wrap ((o450005.length : Int) - (1 : Int))).toNat []))))
                    else (none))
                  else (none))
                else (none)))
            else (none))
          else (none))
        else (none))
      else (bif decide ((v0.length : Int) > (0 : Int)) then
          (bif decide ((0 : Int) < (v1.length : Int)) then
            (bif decide ((0 : Int) < (v0.length : Int)) then
              ((s_l05Less k ((v1.getD 0 []), (v0.getD 0 []))).bind fun y7 =>
              bif (!y7) then
                (bif decide ((0 : Int) < (v0.length : Int)) then
                  (bif decide ((1 : Int) ≤ (v0.length : Int)) then
                    (bif decide ((v0.length : Int) ≤ (v0.length : Int)) then
                      (bif ((o450005.length : Int) == (0 : Int)) then
                        (bif decide (([] : List Int).length + (v0.getD 0 []).length ≤ rowMax) then
                          (bif decide (o450005.length + ([(([] : List Int) ++ (v0.getD 0 []))]).length ≤ rowMax) then
                            (s_l05Merge_l2 k ((v0.take ((v0.length : Int)).toNat).drop 1) v1 (o450005 ++ ([(([] : List Int) ++ (v0.getD 0 []))])))
                          else (none))
                        else (none))
                      else (bif decide (0 ≤ (IntKind.i64.wrap ((o450005.length : Int) - (1 : Int)))) then
                          (bif decide ((IntKind.i64.wrap ((o450005.length : Int) - (1 : Int))) < (o450005.length : Int)) then
                            (bif decide ((IntKind.i64.wrap ((o450005.length : Int) - (1 : Int))).toNat < o450005.length) then
                              ((s_SamePacket k ((o450005.getD (IntKind.i64.wrap ((o450005.length : Int) - (1 : Int))).toNat []), (v0.getD 0 []))).bind fun y8 =>
                              bif (!y8) then
                                (bif decide (([] : List Int).length + (v0.getD 0 []).length ≤ rowMax) then
                                  (bif decide ((o450005.set (IntKind.i64.wrap ((o450005.length : Int) - (1 : Int))).toNat (o450005.getD (IntKind.i64.wrap ((o450005.length : Int) - (1 : Int))).toNat [])).length + ([(([] : List Int) ++ (v0.getD 0 []))]).length ≤ rowMax) then
                                    (s_l05Merge_l2 k ((v0.take ((v0.length : Int)).toNat).drop 1) v1 ((o450005.set (IntKind.i64.wrap ((o450005.length : Int) - (1 : Int))).toNat (o450005.getD (IntKind.i64.wrap ((o450005.length : Int) - (1 : Int))).toNat [])) ++ ([(([] : List Int) ++ (v0.getD 0 []))])))
                                  else (none))
                                else (none))
                              else (s_l05Merge_l2 k ((v0.take ((v0.length : Int)).toNat).drop 1) v1 (o450005.set (IntKind.i64.wrap ((o450005.length : Int) - (1 : Int))).toNat (o450005.getD (IntKind.i64.wrap ((o450005.length : Int) - (1 : Int))).toNat []))))
                            else (none))
                          else (none))
                        else (none)))
                    else (none))
                  else (none))
                else (none))
              else (bif decide ((0 : Int) < (v1.length : Int)) then
                  (bif decide ((1 : Int) ≤ (v1.length : Int)) then
                    (bif decide ((v1.length : Int) ≤ (v1.length : Int)) then
                      (bif ((o450005.length : Int) == (0 : Int)) then
                        (bif decide (([] : List Int).length + (v1.getD 0 []).length ≤ rowMax) then
                          (bif decide (o450005.length + ([(([] : List Int) ++ (v1.getD 0 []))]).length ≤ rowMax) then
                            (s_l05Merge_l2 k v0 ((v1.take ((v1.length : Int)).toNat).drop 1) (o450005 ++ ([(([] : List Int) ++ (v1.getD 0 []))])))
                          else (none))
                        else (none))
                      else (bif decide (0 ≤ (IntKind.i64.wrap ((o450005.length : Int) - (1 : Int)))) then
                          (bif decide ((IntKind.i64.wrap ((o450005.length : Int) - (1 : Int))) < (o450005.length : Int)) then
                            (bif decide ((IntKind.i64.wrap ((o450005.length : Int) - (1 : Int))).toNat < o450005.length) then
                              ((s_SamePacket k ((o450005.getD (IntKind.i64.wrap ((o450005.length : Int) - (1 : Int))).toNat []), (v1.getD 0 []))).bind fun y9 =>
                              bif (!y9) then
                                (bif decide (([] : List Int).length + (v1.getD 0 []).length ≤ rowMax) then
                                  (bif decide ((o450005.set (IntKind.i64.wrap ((o450005.length : Int) - (1 : Int))).toNat (o450005.getD (IntKind.i64.wrap ((o450005.length : Int) - (1 : Int))).toNat [])).length + ([(([] : List Int) ++ (v1.getD 0 []))]).length ≤ rowMax) then
                                    (s_l05Merge_l2 k v0 ((v1.take ((v1.length : Int)).toNat).drop 1) ((o450005.set (IntKind.i64.wrap ((o450005.length : Int) - (1 : Int))).toNat (o450005.getD (IntKind.i64.wrap ((o450005.length : Int) - (1 : Int))).toNat [])) ++ ([(([] : List Int) ++ (v1.getD 0 []))])))
                                  else (none))
                                else (none))
                              else (s_l05Merge_l2 k v0 ((v1.take ((v1.length : Int)).toNat).drop 1) (o450005.set (IntKind.i64.wrap ((o450005.length : Int) - (1 : Int))).toNat (o450005.getD (IntKind.i64.wrap ((o450005.length : Int) - (1 : Int))).toNat []))))
                            else (none))
                          else (none))
                        else (none)))
                    else (none))
                  else (none))
                else (none)))
            else (none))
          else (none))
        else (bif decide ((0 : Int) < (v1.length : Int)) then
            (bif decide ((1 : Int) ≤ (v1.length : Int)) then
              (bif decide ((v1.length : Int) ≤ (v1.length : Int)) then
                (bif ((o450005.length : Int) == (0 : Int)) then
                  (bif decide (([] : List Int).length + (v1.getD 0 []).length ≤ rowMax) then
                    (bif decide (o450005.length + ([(([] : List Int) ++ (v1.getD 0 []))]).length ≤ rowMax) then
                      (s_l05Merge_l2 k v0 ((v1.take ((v1.length : Int)).toNat).drop 1) (o450005 ++ ([(([] : List Int) ++ (v1.getD 0 []))])))
                    else (none))
                  else (none))
                else (bif decide (0 ≤ (IntKind.i64.wrap ((o450005.length : Int) - (1 : Int)))) then
                    (bif decide ((IntKind.i64.wrap ((o450005.length : Int) - (1 : Int))) < (o450005.length : Int)) then
                      (bif decide ((IntKind.i64.wrap ((o450005.length : Int) - (1 : Int))).toNat < o450005.length) then
                        ((s_SamePacket k ((o450005.getD (IntKind.i64.wrap ((o450005.length : Int) - (1 : Int))).toNat []), (v1.getD 0 []))).bind fun y10 =>
                        bif (!y10) then
                          (bif decide (([] : List Int).length + (v1.getD 0 []).length ≤ rowMax) then
                            (bif decide ((o450005.set (IntKind.i64.wrap ((o450005.length : Int) - (1 : Int))).toNat (o450005.getD (IntKind.i64.wrap ((o450005.length : Int) - (1 : Int))).toNat [])).length + ([(([] : List Int) ++ (v1.getD 0 []))]).length ≤ rowMax) then
                              (s_l05Merge_l2 k v0 ((v1.take ((v1.length : Int)).toNat).drop 1) ((o450005.set (IntKind.i64.wrap ((o450005.length : Int) - (1 : Int))).toNat (o450005.getD (IntKind.i64.wrap ((o450005.length : Int) - (1 : Int))).toNat [])) ++ ([(([] : List Int) ++ (v1.getD 0 []))])))
                            else (none))
                          else (none))
                        else (s_l05Merge_l2 k v0 ((v1.take ((v1.length : Int)).toNat).drop 1) (o450005.set (IntKind.i64.wrap ((o450005.length : Int) - (1 : Int))).toNat (o450005.getD (IntKind.i64.wrap ((o450005.length : Int) - (1 : Int))).toNat []))))
                      else (none))
                    else (none))
                  else (none)))
              else (none))
            else (none))
          else (none))))
    else (some o450005)) := by kernel_rfl
theorem s_SortPackets_eq (k : Nat) (x0 : List (List Int)) : s_SortPackets (k + 1) x0 =
  bif decide ((x0.length : Int) < (2 : Int)) then
    ((s_l05Merge k (x0, [])).bind fun y1 =>
    some y1)
  else (bif decide (0 ≤ (IntKind.i64.wrap ((x0.length : Int).tdiv (2 : Int)))) then
      (bif decide ((IntKind.i64.wrap ((x0.length : Int).tdiv (2 : Int))) ≤ (x0.length : Int)) then
        ((s_SortPackets k ((x0.take (IntKind.i64.wrap ((x0.length : Int).tdiv (2 : Int))).toNat).drop 0)).bind fun y2 =>
        bif decide (0 ≤ (IntKind.i64.wrap ((x0.length : Int).tdiv (2 : Int)))) then
          (bif decide ((IntKind.i64.wrap ((x0.length : Int).tdiv (2 : Int))) ≤ (x0.length : Int)) then
            (bif decide ((x0.length : Int) ≤ (x0.length : Int)) then
              ((s_SortPackets k ((x0.take ((x0.length : Int)).toNat).drop (IntKind.i64.wrap ((x0.length : Int).tdiv (2 : Int))).toNat)).bind fun y3 =>
              (s_l05Merge k (y2, y3)).bind fun y4 =>
              some y4)
            else (none))
          else (none))
        else (none))
      else (none))
    else (none)) := by kernel_rfl
theorem s_l16Next_eq (k : Nat) (x0 : (List Int) × Int) (x1 : Int × (Int × Int) × Int) : s_l16Next (k + 1) (x0, x1) =
  bif (x1.1 == (1 : Int)) then
    ((s_l04Do k (x0.1, x1.2.1)).bind fun y1 =>
    some [(y1, x0.2)])
  else (bif (x1.1 == (3 : Int)) then
      (bif decide (([] : List Int).length + x0.1.length ≤ rowMax) then
        (bif decide (0 ≤ x1.2.2) then
          (bif decide (x1.2.2 < (x0.1.length : Int)) then
            ((s_CardOf k (x0.1.getD x1.2.2.toNat (0 : Int))).bind fun y2 =>
            some ([((([] : List Int) ++ x0.1), y2)]))
          else (none))
        else (none))
      else (none))
    else ((s_l05Of k (x0.1, x1.2.2)).bind fun y3 =>
      (s_SortPackets k y3).bind fun y4 =>
      s_l16Next_l8 k (y4.length : Int) (0 : Int) x0.1 x0.2 ([] : List ((List Int) × Int)) y4)) := by kernel_rfl
theorem s_l16Next_l8_eq (k : Nat) (v43 : Int) (v44 : Int) (o200002_0 : List Int) (o200002_1 : Int) (o100005 : List ((List Int) × Int)) (o100042 : List (List Int)) : s_l16Next_l8 (k + 1) v43 v44 o200002_0 o200002_1 o100005 o100042 =
  bif decide (v44 < v43) then
    (bif decide (0 ≤ v44) then
      (bif decide (v44 < (o100042.length : Int)) then
        (bif decide (v44.toNat < o100042.length) then
          (bif decide (o100005.length + ([((o100042.getD v44.toNat []), o200002_1)]).length ≤ rowMax) then
            (s_l16Next_l8 k v43 (IntKind.i64.wrap (v44 + (1 : Int))) o200002_0 o200002_1 (o100005 ++ ([((o100042.getD v44.toNat []), o200002_1)])) o100042)
          else (none))
        else (none))
      else (none))
    else (none))
  else (some o100005) := by kernel_rfl
theorem s_SameScene_eq (k : Nat) (x0 : (List Int) × Int) (x1 : (List Int) × Int) : s_SameScene (k + 1) (x0, x1) =
  (s_SamePacket k (x0.1, x1.1)).bind fun y1 =>
  bif y1 then
    (some (x0.2 == x1.2))
  else (some false) := by kernel_rfl
theorem s_l17Find_eq (k : Nat) (x0 : List ((List Int) × Int)) (x1 : (List Int) × Int) : s_l17Find (k + 1) (x0, x1) =
  s_l17Find_l2 k x0 (x0.length : Int) (0 : Int) x1.1 x1.2 := by kernel_rfl
theorem s_l17Find_l2_eq (k : Nat) (v7 : List ((List Int) × Int)) (v8 : Int) (v9 : Int) (o200003_0 : List Int) (o200003_1 : Int) : s_l17Find_l2 (k + 1) v7 v8 v9 o200003_0 o200003_1 =
  bif decide (v9 < v8) then
    (bif decide (0 ≤ v9) then
      (bif decide (v9 < (v7.length : Int)) then
        ((s_SameScene k ((o200003_0, o200003_1), (v7.getD v9.toNat ([], (0 : Int))))).bind fun y1 =>
        bif y1 then
          (some v9)
        else (s_l17Find_l2 k v7 v8 (IntKind.i64.wrap (v9 + (1 : Int))) o200003_0 o200003_1))
      else (none))
    else (none))
  else (some (-1 : Int)) := by kernel_rfl
theorem s_l17Ends_eq (k : Nat) (x0 : (List Int) × (List (Int × (Int × Int) × Int)) × Int × Int × Int) : s_l17Ends (k + 1) x0 =
  bif decide (([] : List Int).length + x0.1.length ≤ rowMax) then
    (s_l17Ends_l4 k x0.2.1 (x0.2.1.length : Int) (0 : Int) ([((([] : List Int) ++ x0.1), (-1 : Int))]) ([([] : List Int)]))
  else (none) := by kernel_rfl
theorem s_l17Ends_l4_eq (k : Nat) (v25 : List (Int × (Int × Int) × Int)) (v26 : Int) (v27 : Int) (o100005 : List ((List Int) × Int)) (o100006 : List (List Int)) : s_l17Ends_l4 (k + 1) v25 v26 v27 o100005 o100006 =
  bif decide (v27 < v26) then
    (bif decide (0 ≤ v27) then
      (bif decide (v27 < (v25.length : Int)) then
        (s_l17Ends_l9 k v25 v26 v27 (o100005.length : Int) (0 : Int) o100006 ((v25.getD v27.toNat ((0 : Int), (((0 : Int), (0 : Int)), (0 : Int)))).1) ((((v25.getD v27.toNat ((0 : Int), (((0 : Int), (0 : Int)), (0 : Int)))).2).1).1) ((((v25.getD v27.toNat ((0 : Int), (((0 : Int), (0 : Int)), (0 : Int)))).2).1).2) (((v25.getD v27.toNat ((0 : Int), (((0 : Int), (0 : Int)), (0 : Int)))).2).2) ([] : List ((List Int) × Int)) ([] : List (List Int)) o100005)
      else (none))
    else (none))
  else (some (o100005, (o100006, true))) := by kernel_rfl
theorem s_l17Ends_l9_eq (k : Nat) (v25 : List (Int × (Int × Int) × Int)) (v26 : Int) (v27 : Int) (v34 : Int) (v35 : Int) (o100006 : List (List Int)) (o200008_0 : Int) (o200008_1 : Int) (o200008_2 : Int) (o200008_3 : Int) (o100009 : List ((List Int) × Int)) (o100010 : List (List Int)) (o100033 : List ((List Int) × Int)) : s_l17Ends_l9 (k + 1) v25 v26 v27 v34 v35 o100006 o200008_0 o200008_1 o200008_2 o200008_3 o100009 o100010 o100033 =
  bif decide (v35 < v34) then
    (bif decide (0 ≤ v35) then
      (bif decide (v35 < (o100033.length : Int)) then
        (bif decide (v35.toNat < o100033.length) then
          ((s_l16Next k ((o100033.getD v35.toNat ([], (0 : Int))), (o200008_0, ((o200008_1, o200008_2), o200008_3)))).bind fun y1 =>
          s_l17Ends_l12 k v35 v25 v26 v27 v34 v35 (y1.length : Int) (0 : Int) o100006 o200008_0 o200008_1 o200008_2 o200008_3 o100009 o100010 o100033 y1)
        else (none))
      else (none))
    else (none))
  else (s_l17Ends_l4 k v25 v26 (IntKind.i64.wrap (v27 + (1 : Int))) o100009 o100010) := by kernel_rfl
theorem s_l17Ends_l12_eq (k : Nat) (v11 : Int) (v25 : List (Int × (Int × Int) × Int)) (v26 : Int) (v27 : Int) (v34 : Int) (v35 : Int) (v43 : Int) (v44 : Int) (o100006 : List (List Int)) (o200008_0 : Int) (o200008_1 : Int) (o200008_2 : Int) (o200008_3 : Int) (o100009 : List ((List Int) × Int)) (o100010 : List (List Int)) (o100033 : List ((List Int) × Int)) (o100042 : List ((List Int) × Int)) : s_l17Ends_l12 (k + 1) v11 v25 v26 v27 v34 v35 v43 v44 o100006 o200008_0 o200008_1 o200008_2 o200008_3 o100009 o100010 o100033 o100042 =
  bif decide (v44 < v43) then
    (bif decide (0 ≤ v44) then
      (bif decide (v44 < (o100042.length : Int)) then
        (bif decide (v44.toNat < o100042.length) then
          ((s_l17Find k (o100009, (o100042.getD v44.toNat ([], (0 : Int))))).bind fun y1 =>
          bif decide (y1 ≥ (0 : Int)) then
            (s_l17Ends_l12 k v11 v25 v26 v27 v34 v35 v43 (IntKind.i64.wrap (v44 + (1 : Int))) o100006 o200008_0 o200008_1 o200008_2 o200008_3 o100009 o100010 o100033 o100042)
          else (bif decide (o100009.length + ([(o100042.getD v44.toNat ([], (0 : Int)))]).length ≤ rowMax) then
              (bif decide (0 ≤ v11) then
                (bif decide (v11 < (o100006.length : Int)) then
                  (bif decide (v11.toNat < o100006.length) then
                    (bif decide (([] : List Int).length + (o100006.getD v11.toNat []).length ≤ rowMax) then
                      (bif (o200008_0 == (2 : Int)) then
                        (bif decide ((([] : List Int) ++ (o100006.getD v11.toNat [])).length + [v44].length ≤ rowMax) then
                          (bif decide (o100010.length + ([((([] : List Int) ++ (o100006.getD v11.toNat [])) ++ [v44])]).length ≤ rowMax) then
                            (bif decide (((o100009 ++ ([(o100042.getD v44.toNat ([], (0 : Int)))])).length : Int) > (3000 : Int)) then
                              (some ([], ([], false)))
                            else (s_l17Ends_l12 k v11 v25 v26 v27 v34 v35 v43 (IntKind.i64.wrap (v44 + (1 : Int))) o100006 o200008_0 o200008_1 o200008_2 o200008_3 (o100009 ++ ([(o100042.getD v44.toNat ([], (0 : Int)))])) (o100010 ++ ([((([] : List Int) ++ (o100006.getD v11.toNat [])) ++ [v44])])) o100033 o100042))
                          else (none))
                        else (none))
                      else (bif decide (o100010.length + ([(([] : List Int) ++ (o100006.getD v11.toNat []))]).length ≤ rowMax) then
                          (bif decide (((o100009 ++ ([(o100042.getD v44.toNat ([], (0 : Int)))])).length : Int) > (3000 : Int)) then
                            (some ([], ([], false)))
                          else (s_l17Ends_l12 k v11 v25 v26 v27 v34 v35 v43 (IntKind.i64.wrap (v44 + (1 : Int))) o100006 o200008_0 o200008_1 o200008_2 o200008_3 (o100009 ++ ([(o100042.getD v44.toNat ([], (0 : Int)))])) (o100010 ++ ([(([] : List Int) ++ (o100006.getD v11.toNat []))])) o100033 o100042))
                        else (none)))
                    else (none))
                  else (none))
                else (none))
              else (none))
            else (none)))
        else (none))
      else (none))
    else (none))
  else (s_l17Ends_l9 k v25 v26 v27 v34 (IntKind.i64.wrap (v35 + (1 : Int))) o100006 o200008_0 o200008_1 o200008_2 o200008_3 o100009 o100010 o100033) := by kernel_rfl
theorem s_AllScenes_eq (k : Nat) (x0 : (List Int) × (List (Int × (Int × Int) × Int)) × Int × Int × Int) : s_AllScenes (k + 1) x0 =
  (s_TrickOk k x0).bind fun y1 =>
  bif (!y1) then
    (some ([], false))
  else ((s_l17Ends k x0).bind fun y2 =>
    some (y2.1, y2.2.2)) := by kernel_rfl
theorem i_CardOf_eq (k : Nat) (x0 : Int) : i_CardOf (k + 1) x0 =
  bif decide (x0 < (0 : Int)) then
    (bif decide ((IntKind.i64.wrap ((-1 : Int) - x0)) ≥ (12 : Int)) then
      (some (-1 : Int))
    else (some (IntKind.i64.wrap ((-1 : Int) - x0))))
  else (bif decide (x0 ≥ (12 : Int)) then
      (some (-1 : Int))
    else (some x0)) := by kernel_rfl
theorem i_PacketOk_eq (k : Nat) (x0 : List Int) : i_PacketOk (k + 1) x0 =
  i_PacketOk_l3 k x0 (x0.length : Int) (0 : Int) (List.replicate 12 false) := by kernel_rfl
theorem i_PacketOk_l3_eq (k : Nat) (v7 : List Int) (v8 : Int) (v9 : Int) (o400003 : List Bool) : i_PacketOk_l3 (k + 1) v7 v8 v9 o400003 =
  bif decide (v9 < v8) then
    (bif decide (0 ≤ v9) then
      (bif decide (v9 < (v7.length : Int)) then
        ((i_CardOf k (v7.getD v9.toNat (0 : Int))).bind fun y1 =>
        bif decide (y1 < (0 : Int)) then
          (some false)
        else (bif (Nat.beq o400003.length 12 && true) then
            (bif decide (0 ≤ y1) then
              (bif decide (y1 < (o400003.length : Int)) then
                (bif decide (y1.toNat < o400003.length) then
                  (bif (o400003.getD y1.toNat false) then
                    (some false)
                  else (bif (Nat.beq o400003.length 12 && true) then
                      (bif decide (0 ≤ y1) then
                        (bif decide (y1 < (o400003.length : Int)) then
                          (bif decide (y1.toNat < o400003.length) then
                            (i_PacketOk_l3 k v7 v8 (IntKind.i64.wrap (v9 + (1 : Int))) (o400003.set y1.toNat true))
                          else (none))
                        else (none))
                      else (none))
                    else (none)))
                else (none))
              else (none))
            else (none))
          else (none)))
      else (none))
    else (none))
  else (some true) := by kernel_rfl
theorem i_MoveOk_eq (k : Nat) (x0 : Int) (x1 : Int × Int) : i_MoveOk (k + 1) (x0, x1) =
  bif decide (x0 < (1 : Int)) then
    (some false)
  else (bif decide (x0 > (12 : Int)) then
      (some false)
    else (bif decide (x1.2 < (0 : Int)) then
        (some false)
      else (bif (x1.1 == (1 : Int)) then
          (some (decide (x1.2 ≤ x0)))
        else (bif (x1.1 == (2 : Int)) then
            (some (decide (x1.2 ≤ x0)))
          else (bif (x1.1 == (3 : Int)) then
              (some (decide (x1.2 ≤ x0)))
            else (bif (x1.1 == (4 : Int)) then
                (some (decide (x1.2 ≤ (1 : Int))))
              else (bif (x1.1 == (5 : Int)) then
                  (some (decide (x1.2 ≤ (1 : Int))))
                else (bif (x1.1 == (7 : Int)) then
                    (some (decide (x1.2 ≤ (1 : Int))))
                  else (bif (x1.1 == (6 : Int)) then
                      (some (x1.2 == (0 : Int)))
                    else (bif (x1.1 == (8 : Int)) then
                        (some (decide (x1.2 < x0)))
                      else (bif (x1.1 == (9 : Int)) then
                          (some (decide (x1.2 < x0)))
                        else (some false)))))))))))) := by kernel_rfl
theorem i_StepOk_eq (k : Nat) (x0 : Int) (x1 : Int × (Int × Int) × Int) : i_StepOk (k + 1) (x0, x1) =
  bif decide (x0 < (1 : Int)) then
    (some false)
  else (bif decide (x0 > (12 : Int)) then
      (some false)
    else (bif (x1.1 == (1 : Int)) then
        ((i_MoveOk k (x0, x1.2.1)).bind fun y1 =>
        bif y1 then
          (some (x1.2.2 == (0 : Int)))
        else (some false))
      else (bif (x1.1 == (2 : Int)) then
          (bif ((x1.2.1.1 == (0 : Int)) && ((x1.2.1.2 == (0 : Int)) && true)) then
            (bif decide (x1.2.2 ≥ (0 : Int)) then
              (bif decide (x1.2.2 ≤ (4 : Int)) then
                (bif (!(x1.2.2 == (3 : Int))) then
                  (bif (!(x1.2.2 == (2 : Int))) then
                    (some true)
                  else (some (decide (x0 ≤ (7 : Int)))))
                else (bif decide (x0 ≥ (2 : Int)) then
                    (bif (!(x1.2.2 == (2 : Int))) then
                      (some true)
                    else (some (decide (x0 ≤ (7 : Int)))))
                  else (some false)))
              else (some false))
            else (some false))
          else (some false))
        else (bif (x1.1 == (3 : Int)) then
            (bif ((x1.2.1.1 == (0 : Int)) && ((x1.2.1.2 == (0 : Int)) && true)) then
              (bif decide (x1.2.2 ≥ (0 : Int)) then
                (some (decide (x1.2.2 < x0)))
              else (some false))
            else (some false))
          else (some false))))) := by kernel_rfl
theorem i_PositionOf_1_eq (k : Nat) (x0 : Int) (x1 : Int) : i_PositionOf_1 (k + 1) (x0, x1) =
  (i_CardOf k x0).bind fun y1 =>
  some (y1 == x1) := by kernel_rfl
theorem slices_IndexFunc_int_of_i_PositionOf_1_eq (k : Nat) (x0 : List Int) (x1 : Int) : slices_IndexFunc_int_of_i_PositionOf_1 (k + 1) (x0, x1) =
  slices_IndexFunc_int_of_i_PositionOf_1_l2 k x0 x1 (x0.length : Int) (0 : Int) := by kernel_rfl
theorem slices_IndexFunc_int_of_i_PositionOf_1_l2_eq (k : Nat) (v0 : List Int) (v1_0_0 : Int) (v7 : Int) (v8 : Int) : slices_IndexFunc_int_of_i_PositionOf_1_l2 (k + 1) v0 v1_0_0 v7 v8 =
  bif decide (v8 < v7) then
    (bif decide (0 ≤ v8) then
      (bif decide (v8 < (v0.length : Int)) then
        ((i_PositionOf_1 k ((v0.getD v8.toNat (0 : Int)), v1_0_0)).bind fun y1 =>
        bif y1 then
          (some v8)
        else (slices_IndexFunc_int_of_i_PositionOf_1_l2 k v0 v1_0_0 v7 (IntKind.i64.wrap (v8 + (1 : Int)))))
      else (none))
    else (none))
  else (some (-1 : Int)) := by kernel_rfl
theorem i_PositionOf_eq (k : Nat) (x0 : List Int) (x1 : Int) : i_PositionOf (k + 1) (x0, x1) =
  bif decide (x1 < (0 : Int)) then
    (some (-1 : Int))
  else ((slices_IndexFunc_int_of_i_PositionOf_1 k (x0, x1)).bind fun y1 =>
    some y1) := by kernel_rfl
theorem i_TrickOk_eq (k : Nat) (x0 : (List Int) × (List (Int × (Int × Int) × Int)) × Int × Int × Int) : i_TrickOk (k + 1) x0 =
  (i_PacketOk k x0.1).bind fun y1 =>
  bif (!y1) then
    (some false)
  else (bif ((x0.1.length : Int) == (0 : Int)) then
      (some false)
    else (bif decide ((x0.2.1.length : Int) > (12 : Int)) then
        (some false)
      else (i_TrickOk_l6 k (x0.1.length : Int) false x0.2.1 (x0.2.1.length : Int) (0 : Int) x0.1 x0.2.1 x0.2.2.1 x0.2.2.2.1 x0.2.2.2.2))) := by kernel_rfl
theorem i_TrickOk_l6_eq (k : Nat) (v3 : Int) (v4 : Bool) (v25 : List (Int × (Int × Int) × Int)) (v26 : Int) (v27 : Int) (o200001_0 : List Int) (o200001_1 : List (Int × (Int × Int) × Int)) (o200001_2 : Int) (o200001_3 : Int) (o200001_4 : Int) : i_TrickOk_l6 (k + 1) v3 v4 v25 v26 v27 o200001_0 o200001_1 o200001_2 o200001_3 o200001_4 =
  bif decide (v27 < v26) then
    (bif decide (0 ≤ v27) then
      (bif decide (v27 < (v25.length : Int)) then
        ((i_StepOk k (v3, ((v25.getD v27.toNat ((0 : Int), (((0 : Int), (0 : Int)), (0 : Int)))).1, ((((v25.getD v27.toNat ((0 : Int), (((0 : Int), (0 : Int)), (0 : Int)))).2).1), ((v25.getD v27.toNat ((0 : Int), (((0 : Int), (0 : Int)), (0 : Int)))).2).2)))).bind fun y1 =>
        bif (!y1) then
          (some false)
        else (bif v4 then
            (i_TrickOk_l6 k v3 true v25 v26 (IntKind.i64.wrap (v27 + (1 : Int))) o200001_0 o200001_1 o200001_2 o200001_3 o200001_4)
          else (i_TrickOk_l6 k v3 (((v25.getD v27.toNat ((0 : Int), (((0 : Int), (0 : Int)), (0 : Int)))).1) == (3 : Int)) v25 v26 (IntKind.i64.wrap (v27 + (1 : Int))) o200001_0 o200001_1 o200001_2 o200001_3 o200001_4)))
      else (none))
    else (none))
  else (bif (o200001_2 == (0 : Int)) then
      (bif (o200001_3 == (0 : Int)) then
        (some (o200001_4 == (0 : Int)))
      else (some false))
    else (bif (o200001_2 == (4 : Int)) then
        (bif (o200001_3 == (0 : Int)) then
          (some (o200001_4 == (0 : Int)))
        else (some false))
      else (bif (o200001_2 == (1 : Int)) then
          (bif v4 then
            (bif decide (o200001_3 ≥ (0 : Int)) then
              (bif decide (o200001_3 < v3) then
                (some (o200001_4 == (0 : Int)))
              else (some false))
            else (some false))
          else (some false))
        else (bif (o200001_2 == (2 : Int)) then
            (bif decide (o200001_3 ≥ (0 : Int)) then
              (bif decide (o200001_3 ≤ v3) then
                (some (o200001_4 == (0 : Int)))
              else (some false))
            else (some false))
          else (bif (o200001_2 == (3 : Int)) then
              ((i_PositionOf k (o200001_0, o200001_3)).bind fun y2 =>
              bif decide (y2 ≥ (0 : Int)) then
                (bif decide (o200001_4 ≥ (0 : Int)) then
                  (some (decide (o200001_4 < v3)))
                else (some false))
              else (some false))
            else (some false)))))) := by kernel_rfl
theorem slices_Clone_int_eq (k : Nat) (x0 : List Int) : slices_Clone_int (k + 1) x0 =
  bif (!x0.isEmpty) then
    (bif decide (([] : List Int).length + x0.length ≤ rowMax) then
      (some (([] : List Int) ++ x0))
    else (none))
  else (both (rs := flatRs slices_Clone_int_fi.rs) (ios := ioOf slices_Clone_int_fi.ps) (some [])
    (bif decide (([] : List Int).length + x0.length ≤ rowMax) then
        (some (([] : List Int) ++ x0))
      else (none))) := by kernel_rfl
theorem i_StartScene_eq (k : Nat) (x0 : (List Int) × (List (Int × (Int × Int) × Int)) × Int × Int × Int) : i_StartScene (k + 1) x0 =
  (i_TrickOk k x0).bind fun y1 =>
  bif (!y1) then
    (some ([], ((0 : Int), false)))
  else ((slices_Clone_int k x0.1).bind fun y2 =>
    ((bif (!y2.isEmpty) then some y2 else none).bind fun z0 => some (z0, ((-1 : Int), true)))) := by kernel_rfl
theorem slices_Grow_int_eq (k : Nat) (x0 : List Int) (x1 : Int) : slices_Grow_int k (x0, x1) = (fun _ n => growF n) x0 x1 := by kernel_rfl
theorem slices_Concat_int_eq (k : Nat) (x0 : List (List Int)) : slices_Concat_int (k + 1) x0 =
  slices_Concat_int_l3 k x0 (0 : Int) x0 (x0.length : Int) (0 : Int) := by kernel_rfl
theorem slices_Concat_int_l3_eq (k : Nat) (v0 : List (List Int)) (v3 : Int) (v9 : List (List Int)) (v10 : Int) (v11 : Int) : slices_Concat_int_l3 (k + 1) v0 v3 v9 v10 v11 =
  bif decide (v11 < v10) then
    (bif decide (0 ≤ v11) then
      (bif decide (v11 < (v9.length : Int)) then
        (bif decide ((IntKind.i64.wrap (v3 + ((v9.getD v11.toNat []).length : Int))) < (0 : Int)) then
          (none)
        else (slices_Concat_int_l3 k v0 (IntKind.i64.wrap (v3 + ((v9.getD v11.toNat []).length : Int))) v9 v10 (IntKind.i64.wrap (v11 + (1 : Int)))))
      else (none))
    else (none))
  else ((slices_Grow_int k ([], v3)).bind fun y1 =>
    slices_Concat_int_l11 k v0 (v0.length : Int) (0 : Int) y1) := by kernel_rfl
theorem slices_Concat_int_l11_eq (k : Nat) (v25 : List (List Int)) (v26 : Int) (v27 : Int) (o100006 : List Int) : slices_Concat_int_l11 (k + 1) v25 v26 v27 o100006 =
  bif decide (v27 < v26) then
    (bif decide (0 ≤ v27) then
      (bif decide (v27 < (v25.length : Int)) then
        (bif decide (o100006.length + (v25.getD v27.toNat []).length ≤ rowMax) then
          (slices_Concat_int_l11 k v25 v26 (IntKind.i64.wrap (v27 + (1 : Int))) (o100006 ++ (v25.getD v27.toNat [])))
        else (none))
      else (none))
    else (none))
  else (some o100006) := by kernel_rfl
theorem slices_Reverse_int_eq (k : Nat) (x0 : List Int) : slices_Reverse_int k x0 = reverseF x0 := by kernel_rfl
theorem i_reversed_eq (k : Nat) (x0 : List Int) : i_reversed (k + 1) x0 =
  (slices_Clone_int k x0).bind fun y1 =>
  (slices_Reverse_int k y1).bind fun y2 =>
  some y2.2 := by kernel_rfl
theorem i_faro_eq (k : Nat) (x0 : List Int) (x1 : Int) : i_faro (k + 1) (x0, x1) =
  bif decide (0 ≤ (IntKind.i64.wrap ((x0.length : Int).tdiv (2 : Int)))) then
    (bif decide ((IntKind.i64.wrap ((x0.length : Int).tdiv (2 : Int))) ≤ (x0.length : Int)) then
      (bif decide (0 ≤ (IntKind.i64.wrap ((x0.length : Int).tdiv (2 : Int)))) then
        (bif decide ((IntKind.i64.wrap ((x0.length : Int).tdiv (2 : Int))) ≤ (x0.length : Int)) then
          (bif decide ((x0.length : Int) ≤ (x0.length : Int)) then
            (i_faro_l4 k ((x0.take (IntKind.i64.wrap ((x0.length : Int).tdiv (2 : Int))).toNat).drop 0) ((x0.take ((x0.length : Int)).toNat).drop (IntKind.i64.wrap ((x0.length : Int).tdiv (2 : Int))).toNat) (x1 == (0 : Int)) [])
          else (none))
        else (none))
      else (none))
    else (none))
  else (none) := by kernel_rfl
theorem i_faro_l4_eq (k : Nat) (v5 : List Int) (v6 : List Int) (v8 : Bool) (o100007 : List Int) : i_faro_l4 (k + 1) v5 v6 v8 o100007 =
  bif decide ((v5.length : Int) > (0 : Int)) then
    (bif v8 then
      (bif decide ((v5.length : Int) > (0 : Int)) then
        (bif decide ((1 : Int) ≤ (v5.length : Int)) then
          (bif decide ((v5.length : Int) ≤ (v5.length : Int)) then
            (bif decide ((0 : Int) < (v5.length : Int)) then
              (bif decide (o100007.length + [(v5.getD 0 (0 : Int))].length ≤ rowMax) then
                (i_faro_l4 k ((v5.take ((v5.length : Int)).toNat).drop 1) v6 (!v8) (o100007 ++ [(v5.getD 0 (0 : Int))]))
              else (none))
            else (none))
          else (none))
        else (none))
      else (bif ((v6.length : Int) == (0 : Int)) then
          (bif decide ((1 : Int) ≤ (v5.length : Int)) then
            (bif decide ((v5.length : Int) ≤ (v5.length : Int)) then
              (bif decide ((0 : Int) < (v5.length : Int)) then
                (bif decide (o100007.length + [(v5.getD 0 (0 : Int))].length ≤ rowMax) then
                  (i_faro_l4 k ((v5.take ((v5.length : Int)).toNat).drop 1) v6 (!v8) (o100007 ++ [(v5.getD 0 (0 : Int))]))
                else (none))
              else (none))
            else (none))
          else (none))
        else (bif decide ((1 : Int) ≤ (v6.length : Int)) then
            (bif decide ((v6.length : Int) ≤ (v6.length : Int)) then
              (bif decide ((0 : Int) < (v6.length : Int)) then
                (bif decide (o100007.length + [(v6.getD 0 (0 : Int))].length ≤ rowMax) then
                  (i_faro_l4 k v5 ((v6.take ((v6.length : Int)).toNat).drop 1) (!v8) (o100007 ++ [(v6.getD 0 (0 : Int))]))
                else (none))
              else (none))
            else (none))
          else (none))))
    else (bif ((v6.length : Int) == (0 : Int)) then
        (bif decide ((1 : Int) ≤ (v5.length : Int)) then
          (bif decide ((v5.length : Int) ≤ (v5.length : Int)) then
            (bif decide ((0 : Int) < (v5.length : Int)) then
              (bif decide (o100007.length + [(v5.getD 0 (0 : Int))].length ≤ rowMax) then
                (i_faro_l4 k ((v5.take ((v5.length : Int)).toNat).drop 1) v6 (!v8) (o100007 ++ [(v5.getD 0 (0 : Int))]))
              else (none))
            else (none))
          else (none))
        else (none))
      else (bif decide ((1 : Int) ≤ (v6.length : Int)) then
          (bif decide ((v6.length : Int) ≤ (v6.length : Int)) then
            (bif decide ((0 : Int) < (v6.length : Int)) then
              (bif decide (o100007.length + [(v6.getD 0 (0 : Int))].length ≤ rowMax) then
                (i_faro_l4 k v5 ((v6.take ((v6.length : Int)).toNat).drop 1) (!v8) (o100007 ++ [(v6.getD 0 (0 : Int))]))
              else (none))
            else (none))
          else (none))
        else (none))))
  else (bif decide ((v6.length : Int) > (0 : Int)) then
      (bif v8 then
        (bif decide ((v5.length : Int) > (0 : Int)) then
          (bif decide ((1 : Int) ≤ (v5.length : Int)) then
            (bif decide ((v5.length : Int) ≤ (v5.length : Int)) then
              (bif decide ((0 : Int) < (v5.length : Int)) then
                (bif decide (o100007.length + [(v5.getD 0 (0 : Int))].length ≤ rowMax) then
                  (i_faro_l4 k ((v5.take ((v5.length : Int)).toNat).drop 1) v6 (!v8) (o100007 ++ [(v5.getD 0 (0 : Int))]))
                else (none))
              else (none))
            else (none))
          else (none))
        else (bif ((v6.length : Int) == (0 : Int)) then
            (bif decide ((1 : Int) ≤ (v5.length : Int)) then
              (bif decide ((v5.length : Int) ≤ (v5.length : Int)) then
                (bif decide ((0 : Int) < (v5.length : Int)) then
                  (bif decide (o100007.length + [(v5.getD 0 (0 : Int))].length ≤ rowMax) then
                    (i_faro_l4 k ((v5.take ((v5.length : Int)).toNat).drop 1) v6 (!v8) (o100007 ++ [(v5.getD 0 (0 : Int))]))
                  else (none))
                else (none))
              else (none))
            else (none))
          else (bif decide ((1 : Int) ≤ (v6.length : Int)) then
              (bif decide ((v6.length : Int) ≤ (v6.length : Int)) then
                (bif decide ((0 : Int) < (v6.length : Int)) then
                  (bif decide (o100007.length + [(v6.getD 0 (0 : Int))].length ≤ rowMax) then
                    (i_faro_l4 k v5 ((v6.take ((v6.length : Int)).toNat).drop 1) (!v8) (o100007 ++ [(v6.getD 0 (0 : Int))]))
                  else (none))
                else (none))
              else (none))
            else (none))))
      else (bif ((v6.length : Int) == (0 : Int)) then
          (bif decide ((1 : Int) ≤ (v5.length : Int)) then
            (bif decide ((v5.length : Int) ≤ (v5.length : Int)) then
              (bif decide ((0 : Int) < (v5.length : Int)) then
                (bif decide (o100007.length + [(v5.getD 0 (0 : Int))].length ≤ rowMax) then
                  (i_faro_l4 k ((v5.take ((v5.length : Int)).toNat).drop 1) v6 (!v8) (o100007 ++ [(v5.getD 0 (0 : Int))]))
                else (none))
              else (none))
            else (none))
          else (none))
        else (bif decide ((1 : Int) ≤ (v6.length : Int)) then
            (bif decide ((v6.length : Int) ≤ (v6.length : Int)) then
              (bif decide ((0 : Int) < (v6.length : Int)) then
                (bif decide (o100007.length + [(v6.getD 0 (0 : Int))].length ≤ rowMax) then
                  (i_faro_l4 k v5 ((v6.take ((v6.length : Int)).toNat).drop 1) (!v8) (o100007 ++ [(v6.getD 0 (0 : Int))]))
                else (none))
              else (none))
            else (none))
          else (none))))
    else (some o100007)) := by kernel_rfl
theorem i_monge_eq (k : Nat) (x0 : List Int) (x1 : Int) : i_monge (k + 1) (x0, x1) =
  i_monge_l3 k x1 x0 (x0.length : Int) (0 : Int) [] := by kernel_rfl
theorem i_monge_l3_eq (k : Nat) (v1 : Int) (v8 : List Int) (v9 : Int) (v10 : Int) (o100005 : List Int) : i_monge_l3 (k + 1) v1 v8 v9 v10 o100005 =
  bif decide (v10 < v9) then
    (bif decide (0 ≤ v10) then
      (bif decide (v10 < (v8.length : Int)) then
        (bif decide (v10 > (0 : Int)) then
          (bif (((IntKind.i64.wrap (v10 + v1)).tmod (2 : Int)) == (1 : Int)) then
            (bif decide ([(v8.getD v10.toNat (0 : Int))].length + o100005.length ≤ rowMax) then
              (i_monge_l3 k v1 v8 v9 (IntKind.i64.wrap (v10 + (1 : Int))) ([(v8.getD v10.toNat (0 : Int))] ++ o100005))
            else (none))
          else (bif decide (o100005.length + [(v8.getD v10.toNat (0 : Int))].length ≤ rowMax) then
              (i_monge_l3 k v1 v8 v9 (IntKind.i64.wrap (v10 + (1 : Int))) (o100005 ++ [(v8.getD v10.toNat (0 : Int))]))
            else (none)))
        else (bif decide (o100005.length + [(v8.getD v10.toNat (0 : Int))].length ≤ rowMax) then
            (i_monge_l3 k v1 v8 v9 (IntKind.i64.wrap (v10 + (1 : Int))) (o100005 ++ [(v8.getD v10.toNat (0 : Int))]))
          else (none)))
      else (none))
    else (none))
  else (some o100005) := by kernel_rfl
theorem i_milk_eq (k : Nat) (x0 : List Int) : i_milk (k + 1) x0 =
  i_milk_l2 k x0 [] := by kernel_rfl
theorem i_milk_l2_eq (k : Nat) (v0 : List Int) (o100003 : List Int) : i_milk_l2 (k + 1) v0 o100003 =
  bif decide ((v0.length : Int) > (1 : Int)) then
    (bif decide ((0 : Int) < (v0.length : Int)) then
      (bif decide (0 ≤ (IntKind.i64.wrap ((v0.length : Int) - (1 : Int)))) then
        (bif decide ((IntKind.i64.wrap ((v0.length : Int) - (1 : Int))) < (v0.length : Int)) then
          (bif decide ([(v0.getD 0 (0 : Int)), (v0.getD (IntKind.i64.wrap ((v0.length : Int) - (1 : Int))).toNat (0 : Int))].length + o100003.length ≤ rowMax) then
            (bif decide ((1 : Int) ≤ (IntKind.i64.wrap ((v0.length : Int) - (1 : Int)))) then
              (bif decide ((IntKind.i64.wrap ((v0.length : Int) - (1 : Int))) ≤ (v0.length : Int)) then
                (i_milk_l2 k ((v0.take (IntKind.i64.wrap ((v0.length : Int) - (1 : Int))).toNat).drop 1) ([(v0.getD 0 (0 : Int)), (v0.getD (IntKind.i64.wrap ((v0.length : Int) - (1 : Int))).toNat (0 : Int))] ++ o100003))
              else (none))
            else (none))
          else (none))
        else (none))
      else (none))
    else (none))
  else ((slices_Clone_int k v0).bind fun y1 =>
    bif decide (y1.length + o100003.length ≤ rowMax) then
      (some (y1 ++ o100003))
    else (none)) := by kernel_rfl
theorem i_dealt_eq (k : Nat) (x0 : List Int) (x1 : Int) : i_dealt (k + 1) (x0, x1) =
  (slices_Clone_int k x0).bind fun y1 =>
  i_dealt_l4 k (x1 == (1 : Int)) [] y1 := by kernel_rfl
theorem i_dealt_l4_eq (k : Nat) (v7 : Bool) (o100005 : List Int) (o100006 : List Int) : i_dealt_l4 (k + 1) v7 o100005 o100006 =
  bif decide ((o100006.length : Int) > (1 : Int)) then
    (bif v7 then
      (bif decide ((0 : Int) < (o100006.length : Int)) then
        (bif decide (0 < o100006.length) then
          (bif decide (o100005.length + [(o100006.getD 0 (0 : Int))].length ≤ rowMax) then
            (bif decide ((1 : Int) ≤ (o100006.length : Int)) then
              (bif decide ((o100006.length : Int) ≤ (o100006.length : Int)) then
                (i_dealt_l4 k (!v7) (o100005 ++ [(o100006.getD 0 (0 : Int))]) ((o100006.take ((o100006.length : Int)).toNat).drop 1))
              else (none))
            else (none))
          else (none))
        else (none))
      else (none))
    else (bif decide ((0 : Int) < (o100006.length : Int)) then
        (bif decide (0 < o100006.length) then
          (bif decide (o100006.length + [(o100006.getD 0 (0 : Int))].length ≤ rowMax) then
            (bif decide ((1 : Int) ≤ ((o100006 ++ [(o100006.getD 0 (0 : Int))]).length : Int)) then
              (bif decide (((o100006 ++ [(o100006.getD 0 (0 : Int))]).length : Int) ≤ ((o100006 ++ [(o100006.getD 0 (0 : Int))]).length : Int)) then
                (i_dealt_l4 k (!v7) o100005 (((o100006 ++ [(o100006.getD 0 (0 : Int))]).take (((o100006 ++ [(o100006.getD 0 (0 : Int))]).length : Int)).toNat).drop 1))
              else (none))
            else (none))
          else (none))
        else (none))
      else (none)))
  else (bif decide (o100005.length + o100006.length ≤ rowMax) then
      (some (o100005 ++ o100006))
    else (none)) := by kernel_rfl
theorem i_TurnCard_eq (k : Nat) (x0 : Int) : i_TurnCard (k + 1) x0 =
  (i_CardOf k x0).bind fun y1 =>
  bif decide (y1 < (0 : Int)) then
    (some x0)
  else (some (IntKind.i64.wrap ((-1 : Int) - x0))) := by kernel_rfl
theorem i_moved_eq (k : Nat) (x0 : List Int) (x1 : Int × Int) : i_moved (k + 1) (x0, x1) =
  bif (x1.1 == (1 : Int)) then
    (bif decide (0 ≤ x1.2) then
      (bif decide (x1.2 ≤ (x0.length : Int)) then
        (bif decide ((x0.length : Int) ≤ (x0.length : Int)) then
          (bif decide (0 ≤ x1.2) then
            (bif decide (x1.2 ≤ (x0.length : Int)) then
              ((slices_Concat_int k [((x0.take ((x0.length : Int)).toNat).drop x1.2.toNat), ((x0.take x1.2.toNat).drop 0)]).bind fun y1 =>
              some y1)
            else (none))
          else (none))
        else (none))
      else (none))
    else (none))
  else (bif (x1.1 == (2 : Int)) then
      (bif decide (0 ≤ x1.2) then
        (bif decide (x1.2 ≤ (x0.length : Int)) then
          ((i_reversed k ((x0.take x1.2.toNat).drop 0)).bind fun y2 =>
          bif decide (0 ≤ x1.2) then
            (bif decide (x1.2 ≤ (x0.length : Int)) then
              (bif decide ((x0.length : Int) ≤ (x0.length : Int)) then
                ((slices_Concat_int k [y2, ((x0.take ((x0.length : Int)).toNat).drop x1.2.toNat)]).bind fun y3 =>
                some y3)
              else (none))
            else (none))
          else (none))
        else (none))
      else (none))
    else (bif (x1.1 == (3 : Int)) then
        (bif decide (0 ≤ x1.2) then
          (bif decide (x1.2 ≤ (x0.length : Int)) then
            ((i_reversed k ((x0.take x1.2.toNat).drop 0)).bind fun y4 =>
            bif decide (0 ≤ x1.2) then
              (bif decide (x1.2 ≤ (x0.length : Int)) then
                (bif decide ((x0.length : Int) ≤ (x0.length : Int)) then
                  ((slices_Concat_int k [y4, ((x0.take ((x0.length : Int)).toNat).drop x1.2.toNat)]).bind fun y5 =>
                  i_moved_l10 k x1.2 (0 : Int) y5)
                else (none))
              else (none))
            else (none))
          else (none))
        else (none))
      else (bif (x1.1 == (4 : Int)) then
          ((i_faro k (x0, x1.2)).bind fun y6 =>
          some y6)
        else (bif (x1.1 == (5 : Int)) then
            ((i_monge k (x0, x1.2)).bind fun y7 =>
            some y7)
          else (bif (x1.1 == (6 : Int)) then
              ((i_milk k x0).bind fun y8 =>
              some y8)
            else (bif (x1.1 == (7 : Int)) then
                ((i_dealt k (x0, x1.2)).bind fun y9 =>
                (i_reversed k y9).bind fun y10 =>
                some y10)
              else (bif (x1.1 == (8 : Int)) then
                  ((slices_Clone_int k x0).bind fun y11 =>
                  bif decide (0 ≤ x1.2) then
                    (bif decide (x1.2 < (y11.length : Int)) then
                      (bif decide (x1.2.toNat < y11.length) then
                        ((i_TurnCard k (y11.getD x1.2.toNat (0 : Int))).bind fun y12 =>
                        bif decide (0 ≤ x1.2) then
                          (bif decide (x1.2 < (y11.length : Int)) then
                            (bif decide (x1.2.toNat < y11.length) then
                              (some (y11.set x1.2.toNat y12))
                            else (none))
                          else (none))
                        else (none))
                      else (none))
                    else (none))
                  else (none))
                else (bif decide (0 ≤ x1.2) then
                    (bif decide (x1.2 ≤ (x0.length : Int)) then
                      (bif decide (0 ≤ (IntKind.i64.wrap (x1.2 + (1 : Int)))) then
                        (bif decide ((IntKind.i64.wrap (x1.2 + (1 : Int))) ≤ (x0.length : Int)) then
                          (bif decide ((x0.length : Int) ≤ (x0.length : Int)) then
                            (bif decide (0 ≤ x1.2) then
                              (bif decide (x1.2 ≤ (IntKind.i64.wrap (x1.2 + (1 : Int)))) then
                                (bif decide ((IntKind.i64.wrap (x1.2 + (1 : Int))) ≤ (x0.length : Int)) then
                                  ((slices_Concat_int k [((x0.take x1.2.toNat).drop 0), ((x0.take ((x0.length : Int)).toNat).drop (IntKind.i64.wrap (x1.2 + (1 : Int))).toNat), ((x0.take (IntKind.i64.wrap (x1.2 + (1 : Int))).toNat).drop x1.2.toNat)]).bind fun y13 =>
                                  some y13)
                                else (none))
                              else (none))
                            else (none))
                          else (none))
                        else (none))
                      else (none))
                    else (none))
                  else (none))))))))) := by kernel_rfl
theorem i_moved_l10_eq (k : Nat) (v5 : Int) (v7 : Int) (o100006 : List Int) : i_moved_l10 (k + 1) v5 v7 o100006 =
  bif decide (v7 < v5) then
    (bif decide (0 ≤ v7) then
      (bif decide (v7 < (o100006.length : Int)) then
        (bif decide (v7.toNat < o100006.length) then
          ((i_TurnCard k (o100006.getD v7.toNat (0 : Int))).bind fun y1 =>
          bif decide (0 ≤ v7) then
            (bif decide (v7 < (o100006.length : Int)) then
              (bif decide (v7.toNat < o100006.length) then
                (i_moved_l10 k v5 (IntKind.i64.wrap (v7 + (1 : Int))) (o100006.set v7.toNat y1))
              else (none))
            else (none))
          else (none))
        else (none))
      else (none))
    else (none))
  else (some o100006) := by kernel_rfl
theorem i_cuts_eq (k : Nat) (x0 : List Int) : i_cuts (k + 1) x0 =
  i_cuts_l3 k x0 (x0.length : Int) (0 : Int) [] := by kernel_rfl
theorem i_cuts_l3_eq (k : Nat) (v0 : List Int) (v6 : Int) (v7 : Int) (o100003 : List (List Int)) : i_cuts_l3 (k + 1) v0 v6 v7 o100003 =
  bif decide (v7 < v6) then
    ((i_moved k (v0, ((1 : Int), v7))).bind fun y1 =>
    bif decide (o100003.length + [y1].length ≤ rowMax) then
      (i_cuts_l3 k v0 v6 (IntKind.i64.wrap (v7 + (1 : Int))) (o100003 ++ [y1]))
    else (none))
  else (some o100003) := by kernel_rfl
theorem i_riffled_eq (k : Nat) (x0 : List Int) (x1 : Int) : i_riffled (k + 1) (x0, x1) =
  i_riffled_l3 k x0 x1 (0 : Int) (0 : Int) (x0.length : Int) (0 : Int) := by kernel_rfl
theorem i_riffled_l3_eq (k : Nat) (v0 : List Int) (v1 : Int) (v5 : Int) (v6 : Int) (v11 : Int) (v12 : Int) : i_riffled_l3 (k + 1) v0 v1 v5 v6 v11 v12 =
  bif decide (v12 < v11) then
    (bif decide (0 ≤ v12) then
      (i_riffled_l3 k v0 v1 v5 (IntKind.i64.wrap (v6 + (IntKind.i64.wrap ((1 : Int) - (IntKind.i64.wrap (((BitVec.ofInt IntKind.i64.bits (v1.fdiv (2 ^ (min v12.toNat IntKind.i64.bits))) &&& BitVec.ofInt IntKind.i64.bits (1 : Int)).toNat : Int))))))) v11 (IntKind.i64.wrap (v12 + (1 : Int))))
    else (none))
  else (i_riffled_l9 k v0 v1 v5 v6 (v0.length : Int) (0 : Int) []) := by kernel_rfl
theorem i_riffled_l9_eq (k : Nat) (v0 : List Int) (v1 : Int) (v5 : Int) (v6 : Int) (v24 : Int) (v25 : Int) (o100008 : List Int) : i_riffled_l9 (k + 1) v0 v1 v5 v6 v24 v25 o100008 =
  bif decide (v25 < v24) then
    (bif decide (0 ≤ v25) then
      (bif ((IntKind.i64.wrap (((BitVec.ofInt IntKind.i64.bits (v1.fdiv (2 ^ (min v25.toNat IntKind.i64.bits))) &&& BitVec.ofInt IntKind.i64.bits (1 : Int)).toNat : Int))) == (1 : Int)) then
        (bif decide (0 ≤ v6) then
          (bif decide (v6 < (v0.length : Int)) then
            (bif decide (o100008.length + [(v0.getD v6.toNat (0 : Int))].length ≤ rowMax) then
              (i_riffled_l9 k v0 v1 v5 (IntKind.i64.wrap (v6 + (1 : Int))) v24 (IntKind.i64.wrap (v25 + (1 : Int))) (o100008 ++ [(v0.getD v6.toNat (0 : Int))]))
            else (none))
          else (none))
        else (none))
      else (bif decide (0 ≤ v5) then
          (bif decide (v5 < (v0.length : Int)) then
            (bif decide (o100008.length + [(v0.getD v5.toNat (0 : Int))].length ≤ rowMax) then
              (i_riffled_l9 k v0 v1 (IntKind.i64.wrap (v5 + (1 : Int))) v6 v24 (IntKind.i64.wrap (v25 + (1 : Int))) (o100008 ++ [(v0.getD v5.toNat (0 : Int))]))
            else (none))
          else (none))
        else (none)))
    else (none))
  else (some o100008) := by kernel_rfl
theorem i_all_eq (k : Nat) (x0 : List Int) (x1 : Int) : i_all (k + 1) (x0, x1) =
  bif (x1 == (0 : Int)) then
    ((slices_Clone_int k x0).bind fun y1 =>
    some ([y1], true))
  else (bif (x1 == (1 : Int)) then
      ((i_cuts k x0).bind fun y2 =>
      some (y2, true))
    else (bif (x1 == (2 : Int)) then
        (i_all_l9 k x0 (0 : Int) [])
      else (bif (x1 == (3 : Int)) then
          (bif decide ((x0.length : Int) < (2 : Int)) then
            (some ([], false))
          else ((i_moved k (x0, ((3 : Int), (2 : Int)))).bind fun y3 =>
            (i_cuts k y3).bind fun y4 =>
            some (y4, true)))
        else (bif (x1 == (4 : Int)) then
            (i_all_l20 k x0 (x0.length : Int) (0 : Int) [])
          else (some ([], false)))))) := by kernel_rfl
theorem i_all_l9_eq (k : Nat) (v0 : List Int) (v7 : Int) (o100006 : List (List Int)) : i_all_l9 (k + 1) v0 v7 o100006 =
  bif decide (0 ≤ (v0.length : Int)) then
    (bif decide (v7 < (IntKind.i64.wrap ((1 : Int) * 2 ^ (min (v0.length : Int).toNat IntKind.i64.bits)))) then
      ((i_riffled k (v0, v7)).bind fun y1 =>
      bif decide (o100006.length + [y1].length ≤ rowMax) then
        (i_all_l9 k v0 (IntKind.i64.wrap (v7 + (1 : Int))) (o100006 ++ [y1]))
      else (none))
    else (some (o100006, true)))
  else (none) := by kernel_rfl
theorem i_all_l20_eq (k : Nat) (v0 : List Int) (v48 : Int) (v49 : Int) (o100008 : List (List Int)) : i_all_l20 (k + 1) v0 v48 v49 o100008 =
  bif decide (v49 < v48) then
    (bif decide (0 ≤ v49) then
      (bif decide (v49 ≤ (IntKind.i64.wrap (v49 + (1 : Int)))) then
        (bif decide ((IntKind.i64.wrap (v49 + (1 : Int))) ≤ (v0.length : Int)) then
          (bif decide (0 ≤ v49) then
            (bif decide (v49 ≤ (v0.length : Int)) then
              (bif decide (0 ≤ (IntKind.i64.wrap (v49 + (1 : Int)))) then
                (bif decide ((IntKind.i64.wrap (v49 + (1 : Int))) ≤ (v0.length : Int)) then
                  (bif decide ((v0.length : Int) ≤ (v0.length : Int)) then
                    ((slices_Concat_int k [((v0.take (IntKind.i64.wrap (v49 + (1 : Int))).toNat).drop v49.toNat), ((v0.take v49.toNat).drop 0), ((v0.take ((v0.length : Int)).toNat).drop (IntKind.i64.wrap (v49 + (1 : Int))).toNat)]).bind fun y1 =>
                    bif decide (o100008.length + [y1].length ≤ rowMax) then
                      (i_all_l20 k v0 v48 (IntKind.i64.wrap (v49 + (1 : Int))) (o100008 ++ [y1]))
                    else (none))
                  else (none))
                else (none))
              else (none))
            else (none))
          else (none))
        else (none))
      else (none))
    else (none))
  else (some (o100008, true)) := by kernel_rfl
theorem slices_SortFunc_int_int_eq (k : Nat) (x0 : List (List Int)) (x1 : Bool) : slices_SortFunc_int_int k (x0, x1) = (fun a _ => sortF a) x0 x1 := by kernel_rfl
theorem slices_CompactFunc_int_int_eq (k : Nat) (x0 : List (List Int)) (x1 : Bool) : slices_CompactFunc_int_int k (x0, x1) = (fun a _ => compactF a) x0 x1 := by kernel_rfl
theorem i_SortPackets_eq (k : Nat) (x0 : List (List Int)) : i_SortPackets (k + 1) x0 =
  i_SortPackets_l3 k x0 (x0.length : Int) (0 : Int) [] := by kernel_rfl
theorem i_SortPackets_l3_eq (k : Nat) (v6 : List (List Int)) (v7 : Int) (v8 : Int) (o100003 : List (List Int)) : i_SortPackets_l3 (k + 1) v6 v7 v8 o100003 =
  bif decide (v8 < v7) then
    (bif decide (0 ≤ v8) then
      (bif decide (v8 < (v6.length : Int)) then
        ((slices_Clone_int k (v6.getD v8.toNat [])).bind fun y1 =>
        bif decide (o100003.length + [y1].length ≤ rowMax) then
          (i_SortPackets_l3 k v6 v7 (IntKind.i64.wrap (v8 + (1 : Int))) (o100003 ++ [y1]))
        else (none))
      else (none))
    else (none))
  else ((slices_SortFunc_int_int k (o100003, false)).bind fun y2 =>
    (slices_CompactFunc_int_int k (y2.2, false)).bind fun y3 =>
    some y3) := by kernel_rfl
theorem i_ResultsOf_eq (k : Nat) (x0 : List Int) (x1 : Int) : i_ResultsOf (k + 1) (x0, x1) =
  (i_PacketOk k x0).bind fun y1 =>
  bif (!y1) then
    (some ([], false))
  else (bif ((x0.length : Int) == (0 : Int)) then
      (some ([], false))
    else ((i_all k (x0, x1)).bind fun y2 =>
      (i_SortPackets k y2.1).bind fun y3 =>
      bif (!y2.2) then
        (some ([], false))
      else (bif decide ((y3.length : Int) > (3000 : Int)) then
          (some ([], false))
        else (some (y3, true))))) := by kernel_rfl
theorem i_NextScenes_eq (k : Nat) (x0 : (List Int) × Int) (x1 : Int × (Int × Int) × Int) : i_NextScenes (k + 1) (x0, x1) =
  (i_PacketOk k x0.1).bind fun y1 =>
  bif (!y1) then
    (some [])
  else (bif decide (x0.2 < (-1 : Int)) then
      (some [])
    else (bif decide (x0.2 ≥ (12 : Int)) then
        (some [])
      else ((i_StepOk k ((x0.1.length : Int), x1)).bind fun y2 =>
        bif (!y2) then
          (some [])
        else (bif (x1.1 == (1 : Int)) then
            ((i_moved k (x0.1, x1.2.1)).bind fun y3 =>
            some [(y3, x0.2)])
          else (bif (x1.1 == (3 : Int)) then
              ((slices_Clone_int k x0.1).bind fun y4 =>
              bif decide (0 ≤ x1.2.2) then
                (bif decide (x1.2.2 < (x0.1.length : Int)) then
                  ((i_CardOf k (x0.1.getD x1.2.2.toNat (0 : Int))).bind fun y5 =>
                  some [(y4, y5)])
                else (none))
              else (none))
            else ((i_ResultsOf k (x0.1, x1.2.2)).bind fun y6 =>
              i_NextScenes_l11 k (y6.1.length : Int) (0 : Int) x0.1 x0.2 [] y6.1 0)))))) := by kernel_rfl
theorem i_NextScenes_l11_eq (k : Nat) (v68 : Int) (v69 : Int) (o200002_0 : List Int) (o200002_1 : Int) (o100005 : List ((List Int) × Int)) (o440067 : List (List Int)) (o440067_n : Nat) : i_NextScenes_l11 (k + 1) v68 v69 o200002_0 o200002_1 o100005 o440067 o440067_n =
  bif decide (v69 < v68) then
    (bif decide (0 ≤ v69) then
      (bif decide (v69 < (o440067.length : Int)) then
        (bif decide (v69.toNat < o440067.length) then
          (bif (Nat.beq v69.toNat o440067_n) then
            (bif decide (o100005.length + ([((o440067.getD v69.toNat []), o200002_1)]).length ≤ rowMax) then
              (i_NextScenes_l11 k v68 (IntKind.i64.wrap (v69 + (1 : Int))) o200002_0 o200002_1 (o100005 ++ ([((o440067.getD v69.toNat []), o200002_1)])) o440067 (o440067_n + 1))
            else (none))
          else (none))
        else (none))
      else (none))
    else (none))
  else (some o100005) := by kernel_rfl
theorem strconv_Itoa_eq (k : Nat) (x0 : Int) : strconv_Itoa k x0 = itoaF x0 := by kernel_rfl
theorem i_FormatInt_eq (k : Nat) (x0 : Int) : i_FormatInt (k + 1) x0 =
  (strconv_Itoa k x0).bind fun y1 =>
  some y1 := by kernel_rfl
theorem i_numbersOf_eq (k : Nat) (x0 : List Int) : i_numbersOf (k + 1) x0 =
  i_numbersOf_l3 k x0 (x0.length : Int) (0 : Int) [] := by kernel_rfl
theorem i_numbersOf_l3_eq (k : Nat) (v6 : List Int) (v7 : Int) (v8 : Int) (o100003 : List ByteArray) : i_numbersOf_l3 (k + 1) v6 v7 v8 o100003 =
  bif decide (v8 < v7) then
    (bif decide (0 ≤ v8) then
      (bif decide (v8 < (v6.length : Int)) then
        ((i_FormatInt k (v6.getD v8.toNat (0 : Int))).bind fun y1 =>
        bif decide (o100003.length + [y1].length ≤ rowMax) then
          (i_numbersOf_l3 k v6 v7 (IntKind.i64.wrap (v8 + (1 : Int))) (o100003 ++ [y1]))
        else (none))
      else (none))
    else (none))
  else (some o100003) := by kernel_rfl
theorem strings_Join_eq (k : Nat) (x0 : List ByteArray) (x1 : ByteArray) : strings_Join k (x0, x1) = joinF x0 x1 := by kernel_rfl
theorem i_Join_eq (k : Nat) (x0 : List ByteArray) (x1 : ByteArray) : i_Join (k + 1) (x0, x1) =
  (strings_Join k (x0, x1)).bind fun y1 =>
  some y1 := by kernel_rfl
theorem i_FormatPicks_eq (k : Nat) (x0 : List Int) : i_FormatPicks (k + 1) x0 =
  bif ((x0.length : Int) == (0 : Int)) then
    (some (⟨#[45]⟩ : ByteArray))
  else ((i_numbersOf k x0).bind fun y1 =>
    (i_Join k (y1, (⟨#[44]⟩ : ByteArray))).bind fun y2 =>
    some y2) := by kernel_rfl
theorem i_keyOf_eq (k : Nat) (x0 : (List Int) × Int) : i_keyOf (k + 1) x0 =
  (i_FormatPicks k x0.1).bind fun y1 =>
  bif decide (y1.size + (⟨#[47]⟩ : ByteArray).size ≤ 9223372036854775807) then
    ((i_FormatInt k x0.2).bind fun y2 =>
    bif decide ((y1 ++ (⟨#[47]⟩ : ByteArray)).size + y2.size ≤ 9223372036854775807) then
      (some ((y1 ++ (⟨#[47]⟩ : ByteArray)) ++ y2))
    else (none))
  else (none) := by kernel_rfl
theorem i_levels_eq (k : Nat) (x0 : (List Int) × (List (Int × (Int × Int) × Int)) × Int × Int × Int) : i_levels (k + 1) x0 =
  (i_StartScene k x0).bind fun y1 =>
  i_levels_l4 k x0.2.1 (x0.2.1.length : Int) (0 : Int) ([[(y1.1, y1.2.1)]]) := by kernel_rfl
theorem i_levels_l4_eq (k : Nat) (v25 : List (Int × (Int × Int) × Int)) (v26 : Int) (v27 : Int) (o450006 : List (List ((List Int) × Int))) : i_levels_l4 (k + 1) v25 v26 v27 o450006 =
  bif decide (v27 < v26) then
    (bif decide (0 ≤ v27) then
      (bif decide (v27 < (v25.length : Int)) then
        (bif decide (0 ≤ v27) then
          (bif decide (v27 < (o450006.length : Int)) then
            (bif decide (v27.toNat < o450006.length) then
              (i_levels_l9 k v25 v26 v27 ((o450006.getD v27.toNat []).length : Int) (0 : Int) o450006 v27.toNat ((v25.getD v27.toNat ((0 : Int), (((0 : Int), (0 : Int)), (0 : Int)))).1) ((((v25.getD v27.toNat ((0 : Int), (((0 : Int), (0 : Int)), (0 : Int)))).2).1).1) ((((v25.getD v27.toNat ((0 : Int), (((0 : Int), (0 : Int)), (0 : Int)))).2).1).2) (((v25.getD v27.toNat ((0 : Int), (((0 : Int), (0 : Int)), (0 : Int)))).2).2) ([] : List ByteArray) [] (o450006.getD v27.toNat []))
            else (none))
          else (none))
        else (none))
      else (none))
    else (none))
  else (some (o450006, true)) := by kernel_rfl
theorem i_levels_l9_eq (k : Nat) (v25 : List (Int × (Int × Int) × Int)) (v26 : Int) (v27 : Int) (v37 : Int) (v38 : Int) (o420006 : List (List ((List Int) × Int))) (o420006_i : Nat) (o200008_0 : Int) (o200008_1 : Int) (o200008_2 : Int) (o200008_3 : Int) (o430009 : List ByteArray) (o450010 : List ((List Int) × Int)) (o450036 : List ((List Int) × Int)) : i_levels_l9 (k + 1) v25 v26 v27 v37 v38 o420006 o420006_i o200008_0 o200008_1 o200008_2 o200008_3 o430009 o450010 o450036 =
  bif decide (v38 < v37) then
    (bif decide (0 ≤ v38) then
      (bif decide (v38 < (o450036.length : Int)) then
        (bif decide (v38.toNat < o450036.length) then
          ((i_NextScenes k ((o450036.getD v38.toNat ([], (0 : Int))), (o200008_0, ((o200008_1, o200008_2), o200008_3)))).bind fun y1 =>
          i_levels_l12 k v25 v26 v27 v37 v38 (y1.length : Int) (0 : Int) o420006 o420006_i o200008_0 o200008_1 o200008_2 o200008_3 o430009 o450010 (o450036.set v38.toNat (o450036.getD v38.toNat ([], (0 : Int)))) y1 0)
        else (none))
      else (none))
    else (none))
  else (bif decide ((o420006.set o420006_i o450036).length + [o450010].length ≤ rowMax) then
      (i_levels_l4 k v25 v26 (IntKind.i64.wrap (v27 + (1 : Int))) ((o420006.set o420006_i o450036) ++ [o450010]))
    else (none)) := by kernel_rfl
theorem i_levels_l12_eq (k : Nat) (v25 : List (Int × (Int × Int) × Int)) (v26 : Int) (v27 : Int) (v37 : Int) (v38 : Int) (v45 : Int) (v46 : Int) (o420006 : List (List ((List Int) × Int))) (o420006_i : Nat) (o200008_0 : Int) (o200008_1 : Int) (o200008_2 : Int) (o200008_3 : Int) (o430009 : List ByteArray) (o450010 : List ((List Int) × Int)) (o450036 : List ((List Int) × Int)) (o440044 : List ((List Int) × Int)) (o440044_n : Nat) : i_levels_l12 (k + 1) v25 v26 v27 v37 v38 v45 v46 o420006 o420006_i o200008_0 o200008_1 o200008_2 o200008_3 o430009 o450010 o450036 o440044 o440044_n =
  bif decide (v46 < v45) then
    (bif decide (0 ≤ v46) then
      (bif decide (v46 < (o440044.length : Int)) then
        (bif decide (v46.toNat < o440044.length) then
          (bif (Nat.beq v46.toNat o440044_n) then
            ((i_keyOf k (o440044.getD v46.toNat ([], (0 : Int)))).bind fun y1 =>
            bif (!(mpHas o430009 y1)) then
              (bif decide (o450010.length + ([(o440044.getD v46.toNat ([], (0 : Int)))]).length ≤ rowMax) then
                (i_levels_l12 k v25 v26 v27 v37 v38 v45 (IntKind.i64.wrap (v46 + (1 : Int))) o420006 o420006_i o200008_0 o200008_1 o200008_2 o200008_3 (bif mpHas o430009 y1 then o430009 else o430009 ++ [y1]) (o450010 ++ ([(o440044.getD v46.toNat ([], (0 : Int)))])) o450036 o440044 (o440044_n + 1))
              else (none))
            else (i_levels_l12 k v25 v26 v27 v37 v38 v45 (IntKind.i64.wrap (v46 + (1 : Int))) o420006 o420006_i o200008_0 o200008_1 o200008_2 o200008_3 o430009 o450010 o450036 o440044 (o440044_n + 1)))
          else (none))
        else (none))
      else (none))
    else (none))
  else (bif decide ((o450010.length : Int) > (3000 : Int)) then
      (some ([], false))
    else (i_levels_l9 k v25 v26 v27 v37 (IntKind.i64.wrap (v38 + (1 : Int))) o420006 o420006_i o200008_0 o200008_1 o200008_2 o200008_3 o430009 o450010 o450036)) := by kernel_rfl
theorem i_AllScenes_eq (k : Nat) (x0 : (List Int) × (List (Int × (Int × Int) × Int)) × Int × Int × Int) : i_AllScenes (k + 1) x0 =
  (i_TrickOk k x0).bind fun y1 =>
  bif (!y1) then
    (some ([], false))
  else ((i_levels k x0).bind fun y2 =>
    bif (!y2.2) then
      (some ([], false))
    else (bif decide (0 ≤ (IntKind.i64.wrap ((y2.1.length : Int) - (1 : Int)))) then
        (bif decide ((IntKind.i64.wrap ((y2.1.length : Int) - (1 : Int))) < (y2.1.length : Int)) then
          (bif decide ((IntKind.i64.wrap ((y2.1.length : Int) - (1 : Int))).toNat < y2.1.length) then
            (some ((y2.1.getD (IntKind.i64.wrap ((y2.1.length : Int) - (1 : Int))).toNat []), true))
          else (none))
        else (none))
      else (none))) := by kernel_rfl
theorem w_eqIntS_eq (k : Nat) (x0 : List Int) (x1 : List Int) : w_eqIntS (k + 1) (x0, x1) =
  bif (!((x0.length : Int) == (x1.length : Int))) then
    (some false)
  else (w_eqIntS_l4 k x0 x1 (0 : Int)) := by kernel_rfl
theorem w_eqIntS_l4_eq (k : Nat) (v0 : List Int) (v1 : List Int) (v5 : Int) : w_eqIntS_l4 (k + 1) v0 v1 v5 =
  bif decide (v5 < (v0.length : Int)) then
    (bif decide (0 ≤ v5) then
      (bif decide (v5 < (v0.length : Int)) then
        (bif decide (0 ≤ v5) then
          (bif decide (v5 < (v1.length : Int)) then
            (bif (!((v0.getD v5.toNat (0 : Int)) == (v1.getD v5.toNat (0 : Int)))) then
              (some false)
            else (w_eqIntS_l4 k v0 v1 (IntKind.i64.wrap (v5 + (1 : Int)))))
          else (none))
        else (none))
      else (none))
    else (none))
  else (some true) := by kernel_rfl
theorem w_eqScene_eq (k : Nat) (x0 : (List Int) × Int) (x1 : (List Int) × Int) : w_eqScene (k + 1) (x0, x1) =
  (w_eqIntS k (x0.1, x1.1)).bind fun y1 =>
  bif (!y1) then
    (some false)
  else (bif (!(x0.2 == x1.2)) then
      (some false)
    else (some true)) := by kernel_rfl
theorem w_eqSceneS_eq (k : Nat) (x0 : List ((List Int) × Int)) (x1 : List ((List Int) × Int)) : w_eqSceneS (k + 1) (x0, x1) =
  bif (!((x0.length : Int) == (x1.length : Int))) then
    (some false)
  else (w_eqSceneS_l4 k x0 x1 (0 : Int)) := by kernel_rfl
theorem w_eqSceneS_l4_eq (k : Nat) (v0 : List ((List Int) × Int)) (v1 : List ((List Int) × Int)) (v5 : Int) : w_eqSceneS_l4 (k + 1) v0 v1 v5 =
  bif decide (v5 < (v0.length : Int)) then
    (bif decide (0 ≤ v5) then
      (bif decide (v5 < (v0.length : Int)) then
        (bif decide (0 ≤ v5) then
          (bif decide (v5 < (v1.length : Int)) then
            ((w_eqScene k ((v0.getD v5.toNat ([], (0 : Int))), (v1.getD v5.toNat ([], (0 : Int))))).bind fun y1 =>
            bif (!y1) then
              (some false)
            else (w_eqSceneS_l4 k v0 v1 (IntKind.i64.wrap (v5 + (1 : Int)))))
          else (none))
        else (none))
      else (none))
    else (none))
  else (some true) := by kernel_rfl
theorem w_eqMove_eq (k : Nat) (x0 : Int × Int) (x1 : Int × Int) : w_eqMove (k + 1) (x0, x1) =
  bif (!(x0.1 == x1.1)) then
    (some false)
  else (bif (!(x0.2 == x1.2)) then
      (some false)
    else (some true)) := by kernel_rfl
theorem w_eqStep_eq (k : Nat) (x0 : Int × (Int × Int) × Int) (x1 : Int × (Int × Int) × Int) : w_eqStep (k + 1) (x0, x1) =
  bif (!(x0.1 == x1.1)) then
    (some false)
  else ((w_eqMove k (x0.2.1, x1.2.1)).bind fun y1 =>
    bif (!y1) then
      (some false)
    else (bif (!(x0.2.2 == x1.2.2)) then
        (some false)
      else (some true))) := by kernel_rfl
theorem w_eqStepS_eq (k : Nat) (x0 : List (Int × (Int × Int) × Int)) (x1 : List (Int × (Int × Int) × Int)) : w_eqStepS (k + 1) (x0, x1) =
  bif (!((x0.length : Int) == (x1.length : Int))) then
    (some false)
  else (w_eqStepS_l4 k x0 x1 (0 : Int)) := by kernel_rfl
theorem w_eqStepS_l4_eq (k : Nat) (v0 : List (Int × (Int × Int) × Int)) (v1 : List (Int × (Int × Int) × Int)) (v5 : Int) : w_eqStepS_l4 (k + 1) v0 v1 v5 =
  bif decide (v5 < (v0.length : Int)) then
    (bif decide (0 ≤ v5) then
      (bif decide (v5 < (v0.length : Int)) then
        (bif decide (0 ≤ v5) then
          (bif decide (v5 < (v1.length : Int)) then
            ((w_eqStep k (((v0.getD v5.toNat ((0 : Int), (((0 : Int), (0 : Int)), (0 : Int)))).1, ((((v0.getD v5.toNat ((0 : Int), (((0 : Int), (0 : Int)), (0 : Int)))).2).1), ((v0.getD v5.toNat ((0 : Int), (((0 : Int), (0 : Int)), (0 : Int)))).2).2)), ((v1.getD v5.toNat ((0 : Int), (((0 : Int), (0 : Int)), (0 : Int)))).1, ((((v1.getD v5.toNat ((0 : Int), (((0 : Int), (0 : Int)), (0 : Int)))).2).1), ((v1.getD v5.toNat ((0 : Int), (((0 : Int), (0 : Int)), (0 : Int)))).2).2)))).bind fun y1 =>
            bif (!y1) then
              (some false)
            else (w_eqStepS_l4 k v0 v1 (IntKind.i64.wrap (v5 + (1 : Int)))))
          else (none))
        else (none))
      else (none))
    else (none))
  else (some true) := by kernel_rfl
theorem w_eqTrick_eq (k : Nat) (x0 : (List Int) × (List (Int × (Int × Int) × Int)) × Int × Int × Int) (x1 : (List Int) × (List (Int × (Int × Int) × Int)) × Int × Int × Int) : w_eqTrick (k + 1) (x0, x1) =
  (w_eqIntS k (x0.1, x1.1)).bind fun y1 =>
  bif (!y1) then
    (some false)
  else ((w_eqStepS k (x0.2.1, x1.2.1)).bind fun y2 =>
    bif (!y2) then
      (some false)
    else (bif (!(x0.2.2.1 == x1.2.2.1)) then
        (some false)
      else (bif (!(x0.2.2.2.1 == x1.2.2.2.1)) then
          (some false)
        else (bif (!(x0.2.2.2.2 == x1.2.2.2.2)) then
            (some false)
          else (some true))))) := by kernel_rfl
theorem w_markIntS_eq (k : Nat) (x0 : List Int) (x1 : Int) : w_markIntS (k + 1) (x0, x1) =
  w_markIntS_l2 k x1 (0 : Int) x0 := by kernel_rfl
theorem w_markIntS_l2_eq (k : Nat) (v1 : Int) (v5 : Int) (o500000 : List Int) : w_markIntS_l2 (k + 1) v1 v5 o500000 =
  bif decide (v5 < (o500000.length : Int)) then
    (bif decide (0 ≤ v5) then
      (bif decide (v5 < (o500000.length : Int)) then
        (bif decide (v5.toNat < o500000.length) then
          (w_markIntS_l2 k (IntKind.i64.wrap (v1 + (1 : Int))) (IntKind.i64.wrap (v5 + (1 : Int))) (o500000.set v5.toNat v1))
        else (none))
      else (none))
    else (none))
  else (some (v1, o500000)) := by kernel_rfl
theorem w_markStepS_eq (k : Nat) (x0 : List (Int × (Int × Int) × Int)) (x1 : Int) : w_markStepS (k + 1) (x0, x1) =
  w_markStepS_l2 k x1 (0 : Int) x0 := by kernel_rfl
theorem w_markStepS_l2_eq (k : Nat) (v1 : Int) (v5 : Int) (o500000 : List (Int × (Int × Int) × Int)) : w_markStepS_l2 (k + 1) v1 v5 o500000 =
  bif decide (v5 < (o500000.length : Int)) then
    (bif decide (0 ≤ v5) then
      (bif decide (v5 < (o500000.length : Int)) then
        (bif decide (v5.toNat < o500000.length) then
          (bif decide (0 ≤ v5) then
            (bif decide (v5 < ((o500000.set v5.toNat (v1, ((((o500000.getD v5.toNat ((0 : Int), (((0 : Int), (0 : Int)), (0 : Int)))).2).1), ((o500000.getD v5.toNat ((0 : Int), (((0 : Int), (0 : Int)), (0 : Int)))).2).2))).length : Int)) then
              (bif decide (v5.toNat < (o500000.set v5.toNat (v1, ((((o500000.getD v5.toNat ((0 : Int), (((0 : Int), (0 : Int)), (0 : Int)))).2).1), ((o500000.getD v5.toNat ((0 : Int), (((0 : Int), (0 : Int)), (0 : Int)))).2).2))).length) then
                (bif decide (0 ≤ v5) then
                  (bif decide (v5 < (((o500000.set v5.toNat (v1, ((((o500000.getD v5.toNat ((0 : Int), (((0 : Int), (0 : Int)), (0 : Int)))).2).1), ((o500000.getD v5.toNat ((0 : Int), (((0 : Int), (0 : Int)), (0 : Int)))).2).2))).set v5.toNat (((o500000.set v5.toNat (v1, ((((o500000.getD v5.toNat ((0 : Int), (((0 : Int), (0 : Int)), (0 : Int)))).2).1), ((o500000.getD v5.toNat ((0 : Int), (((0 : Int), (0 : Int)), (0 : Int)))).2).2))).getD v5.toNat ((0 : Int), (((0 : Int), (0 : Int)), (0 : Int)))).1, (((IntKind.i64.wrap (v1 + (1 : Int))), ((((o500000.set v5.toNat (v1, ((((o500000.getD v5.toNat ((0 : Int), (((0 : Int), (0 : Int)), (0 : Int)))).2).1), ((o500000.getD v5.toNat ((0 : Int), (((0 : Int), (0 : Int)), (0 : Int)))).2).2))).getD v5.toNat ((0 : Int), (((0 : Int), (0 : Int)), (0 : Int)))).2).1).2), (((o500000.set v5.toNat (v1, ((((o500000.getD v5.toNat ((0 : Int), (((0 : Int), (0 : Int)), (0 : Int)))).2).1), ((o500000.getD v5.toNat ((0 : Int), (((0 : Int), (0 : Int)), (0 : Int)))).2).2))).getD v5.toNat ((0 : Int), (((0 : Int), (0 : Int)), (0 : Int)))).2).2))).length : Int)) then
                    (bif decide (v5.toNat < ((o500000.set v5.toNat (v1, ((((o500000.getD v5.toNat ((0 : Int), (((0 : Int), (0 : Int)), (0 : Int)))).2).1), ((o500000.getD v5.toNat ((0 : Int), (((0 : Int), (0 : Int)), (0 : Int)))).2).2))).set v5.toNat (((o500000.set v5.toNat (v1, ((((o500000.getD v5.toNat ((0 : Int), (((0 : Int), (0 : Int)), (0 : Int)))).2).1), ((o500000.getD v5.toNat ((0 : Int), (((0 : Int), (0 : Int)), (0 : Int)))).2).2))).getD v5.toNat ((0 : Int), (((0 : Int), (0 : Int)), (0 : Int)))).1, (((IntKind.i64.wrap (v1 + (1 : Int))), ((((o500000.set v5.toNat (v1, ((((o500000.getD v5.toNat ((0 : Int), (((0 : Int), (0 : Int)), (0 : Int)))).2).1), ((o500000.getD v5.toNat ((0 : Int), (((0 : Int), (0 : Int)), (0 : Int)))).2).2))).getD v5.toNat ((0 : Int), (((0 : Int), (0 : Int)), (0 : Int)))).2).1).2), (((o500000.set v5.toNat (v1, ((((o500000.getD v5.toNat ((0 : Int), (((0 : Int), (0 : Int)), (0 : Int)))).2).1), ((o500000.getD v5.toNat ((0 : Int), (((0 : Int), (0 : Int)), (0 : Int)))).2).2))).getD v5.toNat ((0 : Int), (((0 : Int), (0 : Int)), (0 : Int)))).2).2))).length) then
                      (bif decide (0 ≤ v5) then
                        (bif decide (v5 < ((((o500000.set v5.toNat (v1, ((((o500000.getD v5.toNat ((0 : Int), (((0 : Int), (0 : Int)), (0 : Int)))).2).1), ((o500000.getD v5.toNat ((0 : Int), (((0 : Int), (0 : Int)), (0 : Int)))).2).2))).set v5.toNat (((o500000.set v5.toNat (v1, ((((o500000.getD v5.toNat ((0 : Int), (((0 : Int), (0 : Int)), (0 : Int)))).2).1), ((o500000.getD v5.toNat ((0 : Int), (((0 : Int), (0 : Int)), (0 : Int)))).2).2))).getD v5.toNat ((0 : Int), (((0 : Int), (0 : Int)), (0 : Int)))).1, (((IntKind.i64.wrap (v1 + (1 : Int))), ((((o500000.set v5.toNat (v1, ((((o500000.getD v5.toNat ((0 : Int), (((0 : Int), (0 : Int)), (0 : Int)))).2).1), ((o500000.getD v5.toNat ((0 : Int), (((0 : Int), (0 : Int)), (0 : Int)))).2).2))).getD v5.toNat ((0 : Int), (((0 : Int), (0 : Int)), (0 : Int)))).2).1).2), (((o500000.set v5.toNat (v1, ((((o500000.getD v5.toNat ((0 : Int), (((0 : Int), (0 : Int)), (0 : Int)))).2).1), ((o500000.getD v5.toNat ((0 : Int), (((0 : Int), (0 : Int)), (0 : Int)))).2).2))).getD v5.toNat ((0 : Int), (((0 : Int), (0 : Int)), (0 : Int)))).2).2))).set v5.toNat ((((o500000.set v5.toNat (v1, ((((o500000.getD v5.toNat ((0 : Int), (((0 : Int), (0 : Int)), (0 : Int)))).2).1), ((o500000.getD v5.toNat ((0 : Int), (((0 : Int), (0 : Int)), (0 : Int)))).2).2))).set v5.toNat (((o500000.set v5.toNat (v1, ((((o500000.getD v5.toNat ((0 : Int), (((0 : Int), (0 : Int)), (0 : Int)))).2).1), ((o500000.getD v5.toNat ((0 : Int), (((0 : Int), (0 : Int)), (0 : Int)))).2).2))).getD v5.toNat ((0 : Int), (((0 : Int), (0 : Int)), (0 : Int)))).1, (((IntKind.i64.wrap (v1 + (1 : Int))), ((((o500000.set v5.toNat (v1, ((((o500000.getD v5.toNat ((0 : Int), (((0 : Int), (0 : Int)), (0 : Int)))).2).1), ((o500000.getD v5.toNat ((0 : Int), (((0 : Int), (0 : Int)), (0 : Int)))).2).2))).getD v5.toNat ((0 : Int), (((0 : Int), (0 : Int)), (0 : Int)))).2).1).2), (((o500000.set v5.toNat (v1, ((((o500000.getD v5.toNat ((0 : Int), (((0 : Int), (0 : Int)), (0 : Int)))).2).1), ((o500000.getD v5.toNat ((0 : Int), (((0 : Int), (0 : Int)), (0 : Int)))).2).2))).getD v5.toNat ((0 : Int), (((0 : Int), (0 : Int)), (0 : Int)))).2).2))).getD v5.toNat ((0 : Int), (((0 : Int), (0 : Int)), (0 : Int)))).1, (((((((o500000.set v5.toNat (v1, ((((o500000.getD v5.toNat ((0 : Int), (((0 : Int), (0 : Int)), (0 : Int)))).2).1), ((o500000.getD v5.toNat ((0 : Int), (((0 : Int), (0 : Int)), (0 : Int)))).2).2))).set v5.toNat (((o500000.set v5.toNat (v1, ((((o500000.getD v5.toNat ((0 : Int), (((0 : Int), (0 : Int)), (0 : Int)))).2).1), ((o500000.getD v5.toNat ((0 : Int), (((0 : Int), (0 : Int)), (0 : Int)))).2).2))).getD v5.toNat ((0 : Int), (((0 : Int), (0 : Int)), (0 : Int)))).1, (((IntKind.i64.wrap (v1 + (1 : Int))), ((((o500000.set v5.toNat (v1, ((((o500000.getD v5.toNat ((0 : Int), (((0 : Int), (0 : Int)), (0 : Int)))).2).1), ((o500000.getD v5.toNat ((0 : Int), (((0 : Int), (0 : Int)), (0 : Int)))).2).2))).getD v5.toNat ((0 : Int), (((0 : Int), (0 : Int)), (0 : Int)))).2).1).2), (((o500000.set v5.toNat (v1, ((((o500000.getD v5.toNat ((0 : Int), (((0 : Int), (0 : Int)), (0 : Int)))).2).1), ((o500000.getD v5.toNat ((0 : Int), (((0 : Int), (0 : Int)), (0 : Int)))).2).2))).getD v5.toNat ((0 : Int), (((0 : Int), (0 : Int)), (0 : Int)))).2).2))).getD v5.toNat ((0 : Int), (((0 : Int), (0 : Int)), (0 : Int)))).2).1).1, (IntKind.i64.wrap ((IntKind.i64.wrap (v1 + (1 : Int))) + (1 : Int)))), ((((o500000.set v5.toNat (v1, ((((o500000.getD v5.toNat ((0 : Int), (((0 : Int), (0 : Int)), (0 : Int)))).2).1), ((o500000.getD v5.toNat ((0 : Int), (((0 : Int), (0 : Int)), (0 : Int)))).2).2))).set v5.toNat (((o500000.set v5.toNat (v1, ((((o500000.getD v5.toNat ((0 : Int), (((0 : Int), (0 : Int)), (0 : Int)))).2).1), ((o500000.getD v5.toNat ((0 : Int), (((0 : Int), (0 : Int)), (0 : Int)))).2).2))).getD v5.toNat ((0 : Int), (((0 : Int), (0 : Int)), (0 : Int)))).1, (((IntKind.i64.wrap (v1 + (1 : Int))), ((((o500000.set v5.toNat (v1, ((((o500000.getD v5.toNat ((0 : Int), (((0 : Int), (0 : Int)), (0 : Int)))).2).1), ((o500000.getD v5.toNat ((0 : Int), (((0 : Int), (0 : Int)), (0 : Int)))).2).2))).getD v5.toNat ((0 : Int), (((0 : Int), (0 : Int)), (0 : Int)))).2).1).2), (((o500000.set v5.toNat (v1, ((((o500000.getD v5.toNat ((0 : Int), (((0 : Int), (0 : Int)), (0 : Int)))).2).1), ((o500000.getD v5.toNat ((0 : Int), (((0 : Int), (0 : Int)), (0 : Int)))).2).2))).getD v5.toNat ((0 : Int), (((0 : Int), (0 : Int)), (0 : Int)))).2).2))).getD v5.toNat ((0 : Int), (((0 : Int), (0 : Int)), (0 : Int)))).2).2))).length : Int)) then
                          (bif decide (v5.toNat < (((o500000.set v5.toNat (v1, ((((o500000.getD v5.toNat ((0 : Int), (((0 : Int), (0 : Int)), (0 : Int)))).2).1), ((o500000.getD v5.toNat ((0 : Int), (((0 : Int), (0 : Int)), (0 : Int)))).2).2))).set v5.toNat (((o500000.set v5.toNat (v1, ((((o500000.getD v5.toNat ((0 : Int), (((0 : Int), (0 : Int)), (0 : Int)))).2).1), ((o500000.getD v5.toNat ((0 : Int), (((0 : Int), (0 : Int)), (0 : Int)))).2).2))).getD v5.toNat ((0 : Int), (((0 : Int), (0 : Int)), (0 : Int)))).1, (((IntKind.i64.wrap (v1 + (1 : Int))), ((((o500000.set v5.toNat (v1, ((((o500000.getD v5.toNat ((0 : Int), (((0 : Int), (0 : Int)), (0 : Int)))).2).1), ((o500000.getD v5.toNat ((0 : Int), (((0 : Int), (0 : Int)), (0 : Int)))).2).2))).getD v5.toNat ((0 : Int), (((0 : Int), (0 : Int)), (0 : Int)))).2).1).2), (((o500000.set v5.toNat (v1, ((((o500000.getD v5.toNat ((0 : Int), (((0 : Int), (0 : Int)), (0 : Int)))).2).1), ((o500000.getD v5.toNat ((0 : Int), (((0 : Int), (0 : Int)), (0 : Int)))).2).2))).getD v5.toNat ((0 : Int), (((0 : Int), (0 : Int)), (0 : Int)))).2).2))).set v5.toNat ((((o500000.set v5.toNat (v1, ((((o500000.getD v5.toNat ((0 : Int), (((0 : Int), (0 : Int)), (0 : Int)))).2).1), ((o500000.getD v5.toNat ((0 : Int), (((0 : Int), (0 : Int)), (0 : Int)))).2).2))).set v5.toNat (((o500000.set v5.toNat (v1, ((((o500000.getD v5.toNat ((0 : Int), (((0 : Int), (0 : Int)), (0 : Int)))).2).1), ((o500000.getD v5.toNat ((0 : Int), (((0 : Int), (0 : Int)), (0 : Int)))).2).2))).getD v5.toNat ((0 : Int), (((0 : Int), (0 : Int)), (0 : Int)))).1, (((IntKind.i64.wrap (v1 + (1 : Int))), ((((o500000.set v5.toNat (v1, ((((o500000.getD v5.toNat ((0 : Int), (((0 : Int), (0 : Int)), (0 : Int)))).2).1), ((o500000.getD v5.toNat ((0 : Int), (((0 : Int), (0 : Int)), (0 : Int)))).2).2))).getD v5.toNat ((0 : Int), (((0 : Int), (0 : Int)), (0 : Int)))).2).1).2), (((o500000.set v5.toNat (v1, ((((o500000.getD v5.toNat ((0 : Int), (((0 : Int), (0 : Int)), (0 : Int)))).2).1), ((o500000.getD v5.toNat ((0 : Int), (((0 : Int), (0 : Int)), (0 : Int)))).2).2))).getD v5.toNat ((0 : Int), (((0 : Int), (0 : Int)), (0 : Int)))).2).2))).getD v5.toNat ((0 : Int), (((0 : Int), (0 : Int)), (0 : Int)))).1, (((((((o500000.set v5.toNat (v1, ((((o500000.getD v5.toNat ((0 : Int), (((0 : Int), (0 : Int)), (0 : Int)))).2).1), ((o500000.getD v5.toNat ((0 : Int), (((0 : Int), (0 : Int)), (0 : Int)))).2).2))).set v5.toNat (((o500000.set v5.toNat (v1, ((((o500000.getD v5.toNat ((0 : Int), (((0 : Int), (0 : Int)), (0 : Int)))).2).1), ((o500000.getD v5.toNat ((0 : Int), (((0 : Int), (0 : Int)), (0 : Int)))).2).2))).getD v5.toNat ((0 : Int), (((0 : Int), (0 : Int)), (0 : Int)))).1, (((IntKind.i64.wrap (v1 + (1 : Int))), ((((o500000.set v5.toNat (v1, ((((o500000.getD v5.toNat ((0 : Int), (((0 : Int), (0 : Int)), (0 : Int)))).2).1), ((o500000.getD v5.toNat ((0 : Int), (((0 : Int), (0 : Int)), (0 : Int)))).2).2))).getD v5.toNat ((0 : Int), (((0 : Int), (0 : Int)), (0 : Int)))).2).1).2), (((o500000.set v5.toNat (v1, ((((o500000.getD v5.toNat ((0 : Int), (((0 : Int), (0 : Int)), (0 : Int)))).2).1), ((o500000.getD v5.toNat ((0 : Int), (((0 : Int), (0 : Int)), (0 : Int)))).2).2))).getD v5.toNat ((0 : Int), (((0 : Int), (0 : Int)), (0 : Int)))).2).2))).getD v5.toNat ((0 : Int), (((0 : Int), (0 : Int)), (0 : Int)))).2).1).1, (IntKind.i64.wrap ((IntKind.i64.wrap (v1 + (1 : Int))) + (1 : Int)))), ((((o500000.set v5.toNat (v1, ((((o500000.getD v5.toNat ((0 : Int), (((0 : Int), (0 : Int)), (0 : Int)))).2).1), ((o500000.getD v5.toNat ((0 : Int), (((0 : Int), (0 : Int)), (0 : Int)))).2).2))).set v5.toNat (((o500000.set v5.toNat (v1, ((((o500000.getD v5.toNat ((0 : Int), (((0 : Int), (0 : Int)), (0 : Int)))).2).1), ((o500000.getD v5.toNat ((0 : Int), (((0 : Int), (0 : Int)), (0 : Int)))).2).2))).getD v5.toNat ((0 : Int), (((0 : Int), (0 : Int)), (0 : Int)))).1, (((IntKind.i64.wrap (v1 + (1 : Int))), ((((o500000.set v5.toNat (v1, ((((o500000.getD v5.toNat ((0 : Int), (((0 : Int), (0 : Int)), (0 : Int)))).2).1), ((o500000.getD v5.toNat ((0 : Int), (((0 : Int), (0 : Int)), (0 : Int)))).2).2))).getD v5.toNat ((0 : Int), (((0 : Int), (0 : Int)), (0 : Int)))).2).1).2), (((o500000.set v5.toNat (v1, ((((o500000.getD v5.toNat ((0 : Int), (((0 : Int), (0 : Int)), (0 : Int)))).2).1), ((o500000.getD v5.toNat ((0 : Int), (((0 : Int), (0 : Int)), (0 : Int)))).2).2))).getD v5.toNat ((0 : Int), (((0 : Int), (0 : Int)), (0 : Int)))).2).2))).getD v5.toNat ((0 : Int), (((0 : Int), (0 : Int)), (0 : Int)))).2).2))).length) then
                            (w_markStepS_l2 k (IntKind.i64.wrap ((IntKind.i64.wrap ((IntKind.i64.wrap ((IntKind.i64.wrap (v1 + (1 : Int))) + (1 : Int))) + (1 : Int))) + (1 : Int))) (IntKind.i64.wrap (v5 + (1 : Int))) ((((o500000.set v5.toNat (v1, ((((o500000.getD v5.toNat ((0 : Int), (((0 : Int), (0 : Int)), (0 : Int)))).2).1), ((o500000.getD v5.toNat ((0 : Int), (((0 : Int), (0 : Int)), (0 : Int)))).2).2))).set v5.toNat (((o500000.set v5.toNat (v1, ((((o500000.getD v5.toNat ((0 : Int), (((0 : Int), (0 : Int)), (0 : Int)))).2).1), ((o500000.getD v5.toNat ((0 : Int), (((0 : Int), (0 : Int)), (0 : Int)))).2).2))).getD v5.toNat ((0 : Int), (((0 : Int), (0 : Int)), (0 : Int)))).1, (((IntKind.i64.wrap (v1 + (1 : Int))), ((((o500000.set v5.toNat (v1, ((((o500000.getD v5.toNat ((0 : Int), (((0 : Int), (0 : Int)), (0 : Int)))).2).1), ((o500000.getD v5.toNat ((0 : Int), (((0 : Int), (0 : Int)), (0 : Int)))).2).2))).getD v5.toNat ((0 : Int), (((0 : Int), (0 : Int)), (0 : Int)))).2).1).2), (((o500000.set v5.toNat (v1, ((((o500000.getD v5.toNat ((0 : Int), (((0 : Int), (0 : Int)), (0 : Int)))).2).1), ((o500000.getD v5.toNat ((0 : Int), (((0 : Int), (0 : Int)), (0 : Int)))).2).2))).getD v5.toNat ((0 : Int), (((0 : Int), (0 : Int)), (0 : Int)))).2).2))).set v5.toNat ((((o500000.set v5.toNat (v1, ((((o500000.getD v5.toNat ((0 : Int), (((0 : Int), (0 : Int)), (0 : Int)))).2).1), ((o500000.getD v5.toNat ((0 : Int), (((0 : Int), (0 : Int)), (0 : Int)))).2).2))).set v5.toNat (((o500000.set v5.toNat (v1, ((((o500000.getD v5.toNat ((0 : Int), (((0 : Int), (0 : Int)), (0 : Int)))).2).1), ((o500000.getD v5.toNat ((0 : Int), (((0 : Int), (0 : Int)), (0 : Int)))).2).2))).getD v5.toNat ((0 : Int), (((0 : Int), (0 : Int)), (0 : Int)))).1, (((IntKind.i64.wrap (v1 + (1 : Int))), ((((o500000.set v5.toNat (v1, ((((o500000.getD v5.toNat ((0 : Int), (((0 : Int), (0 : Int)), (0 : Int)))).2).1), ((o500000.getD v5.toNat ((0 : Int), (((0 : Int), (0 : Int)), (0 : Int)))).2).2))).getD v5.toNat ((0 : Int), (((0 : Int), (0 : Int)), (0 : Int)))).2).1).2), (((o500000.set v5.toNat (v1, ((((o500000.getD v5.toNat ((0 : Int), (((0 : Int), (0 : Int)), (0 : Int)))).2).1), ((o500000.getD v5.toNat ((0 : Int), (((0 : Int), (0 : Int)), (0 : Int)))).2).2))).getD v5.toNat ((0 : Int), (((0 : Int), (0 : Int)), (0 : Int)))).2).2))).getD v5.toNat ((0 : Int), (((0 : Int), (0 : Int)), (0 : Int)))).1, (((((((o500000.set v5.toNat (v1, ((((o500000.getD v5.toNat ((0 : Int), (((0 : Int), (0 : Int)), (0 : Int)))).2).1), ((o500000.getD v5.toNat ((0 : Int), (((0 : Int), (0 : Int)), (0 : Int)))).2).2))).set v5.toNat (((o500000.set v5.toNat (v1, ((((o500000.getD v5.toNat ((0 : Int), (((0 : Int), (0 : Int)), (0 : Int)))).2).1), ((o500000.getD v5.toNat ((0 : Int), (((0 : Int), (0 : Int)), (0 : Int)))).2).2))).getD v5.toNat ((0 : Int), (((0 : Int), (0 : Int)), (0 : Int)))).1, (((IntKind.i64.wrap (v1 + (1 : Int))), ((((o500000.set v5.toNat (v1, ((((o500000.getD v5.toNat ((0 : Int), (((0 : Int), (0 : Int)), (0 : Int)))).2).1), ((o500000.getD v5.toNat ((0 : Int), (((0 : Int), (0 : Int)), (0 : Int)))).2).2))).getD v5.toNat ((0 : Int), (((0 : Int), (0 : Int)), (0 : Int)))).2).1).2), (((o500000.set v5.toNat (v1, ((((o500000.getD v5.toNat ((0 : Int), (((0 : Int), (0 : Int)), (0 : Int)))).2).1), ((o500000.getD v5.toNat ((0 : Int), (((0 : Int), (0 : Int)), (0 : Int)))).2).2))).getD v5.toNat ((0 : Int), (((0 : Int), (0 : Int)), (0 : Int)))).2).2))).getD v5.toNat ((0 : Int), (((0 : Int), (0 : Int)), (0 : Int)))).2).1).1, (IntKind.i64.wrap ((IntKind.i64.wrap (v1 + (1 : Int))) + (1 : Int)))), ((((o500000.set v5.toNat (v1, ((((o500000.getD v5.toNat ((0 : Int), (((0 : Int), (0 : Int)), (0 : Int)))).2).1), ((o500000.getD v5.toNat ((0 : Int), (((0 : Int), (0 : Int)), (0 : Int)))).2).2))).set v5.toNat (((o500000.set v5.toNat (v1, ((((o500000.getD v5.toNat ((0 : Int), (((0 : Int), (0 : Int)), (0 : Int)))).2).1), ((o500000.getD v5.toNat ((0 : Int), (((0 : Int), (0 : Int)), (0 : Int)))).2).2))).getD v5.toNat ((0 : Int), (((0 : Int), (0 : Int)), (0 : Int)))).1, (((IntKind.i64.wrap (v1 + (1 : Int))), ((((o500000.set v5.toNat (v1, ((((o500000.getD v5.toNat ((0 : Int), (((0 : Int), (0 : Int)), (0 : Int)))).2).1), ((o500000.getD v5.toNat ((0 : Int), (((0 : Int), (0 : Int)), (0 : Int)))).2).2))).getD v5.toNat ((0 : Int), (((0 : Int), (0 : Int)), (0 : Int)))).2).1).2), (((o500000.set v5.toNat (v1, ((((o500000.getD v5.toNat ((0 : Int), (((0 : Int), (0 : Int)), (0 : Int)))).2).1), ((o500000.getD v5.toNat ((0 : Int), (((0 : Int), (0 : Int)), (0 : Int)))).2).2))).getD v5.toNat ((0 : Int), (((0 : Int), (0 : Int)), (0 : Int)))).2).2))).getD v5.toNat ((0 : Int), (((0 : Int), (0 : Int)), (0 : Int)))).2).2))).set v5.toNat (((((o500000.set v5.toNat (v1, ((((o500000.getD v5.toNat ((0 : Int), (((0 : Int), (0 : Int)), (0 : Int)))).2).1), ((o500000.getD v5.toNat ((0 : Int), (((0 : Int), (0 : Int)), (0 : Int)))).2).2))).set v5.toNat (((o500000.set v5.toNat (v1, ((((o500000.getD v5.toNat ((0 : Int), (((0 : Int), (0 : Int)), (0 : Int)))).2).1), ((o500000.getD v5.toNat ((0 : Int), (((0 : Int), (0 : Int)), (0 : Int)))).2).2))).getD v5.toNat ((0 : Int), (((0 : Int), (0 : Int)), (0 : Int)))).1, (((IntKind.i64.wrap (v1 + (1 : Int))), ((((o500000.set v5.toNat (v1, ((((o500000.getD v5.toNat ((0 : Int), (((0 : Int), (0 : Int)), (0 : Int)))).2).1), ((o500000.getD v5.toNat ((0 : Int), (((0 : Int), (0 : Int)), (0 : Int)))).2).2))).getD v5.toNat ((0 : Int), (((0 : Int), (0 : Int)), (0 : Int)))).2).1).2), (((o500000.set v5.toNat (v1, ((((o500000.getD v5.toNat ((0 : Int), (((0 : Int), (0 : Int)), (0 : Int)))).2).1), ((o500000.getD v5.toNat ((0 : Int), (((0 : Int), (0 : Int)), (0 : Int)))).2).2))).getD v5.toNat ((0 : Int), (((0 : Int), (0 : Int)), (0 : Int)))).2).2))).set v5.toNat ((((o500000.set v5.toNat (v1, ((((o500000.getD v5.toNat ((0 : Int), (((0 : Int), (0 : Int)), (0 : Int)))).2).1), ((o500000.getD v5.toNat ((0 : Int), (((0 : Int), (0 : Int)), (0 : Int)))).2).2))).set v5.toNat (((o500000.set v5.toNat (v1, ((((o500000.getD v5.toNat ((0 : Int), (((0 : Int), (0 : Int)), (0 : Int)))).2).1), ((o500000.getD v5.toNat ((0 : Int), (((0 : Int), (0 : Int)), (0 : Int)))).2).2))).getD v5.toNat ((0 : Int), (((0 : Int), (0 : Int)), (0 : Int)))).1, (((IntKind.i64.wrap (v1 + (1 : Int))), ((((o500000.set v5.toNat (v1, ((((o500000.getD v5.toNat ((0 : Int), (((0 : Int), (0 : Int)), (0 : Int)))).2).1), ((o500000.getD v5.toNat ((0 : Int), (((0 : Int), (0 : Int)), (0 : Int)))).2).2))).getD v5.toNat ((0 : Int), (((0 : Int), (0 : Int)), (0 : Int)))).2).1).2), (((o500000.set v5.toNat (v1, ((((o500000.getD v5.toNat ((0 : Int), (((0 : Int), (0 : Int)), (0 : Int)))).2).1), ((o500000.getD v5.toNat ((0 : Int), (((0 : Int), (0 : Int)), (0 : Int)))).2).2))).getD v5.toNat ((0 : Int), (((0 : Int), (0 : Int)), (0 : Int)))).2).2))).getD v5.toNat ((0 : Int), (((0 : Int), (0 : Int)), (0 : Int)))).1, (((((((o500000.set v5.toNat (v1, ((((o500000.getD v5.toNat ((0 : Int), (((0 : Int), (0 : Int)), (0 : Int)))).2).1), ((o500000.getD v5.toNat ((0 : Int), (((0 : Int), (0 : Int)), (0 : Int)))).2).2))).set v5.toNat (((o500000.set v5.toNat (v1, ((((o500000.getD v5.toNat ((0 : Int), (((0 : Int), (0 : Int)), (0 : Int)))).2).1), ((o500000.getD v5.toNat ((0 : Int), (((0 : Int), (0 : Int)), (0 : Int)))).2).2))).getD v5.toNat ((0 : Int), (((0 : Int), (0 : Int)), (0 : Int)))).1, (((IntKind.i64.wrap (v1 + (1 : Int))), ((((o500000.set v5.toNat (v1, ((((o500000.getD v5.toNat ((0 : Int), (((0 : Int), (0 : Int)), (0 : Int)))).2).1), ((o500000.getD v5.toNat ((0 : Int), (((0 : Int), (0 : Int)), (0 : Int)))).2).2))).getD v5.toNat ((0 : Int), (((0 : Int), (0 : Int)), (0 : Int)))).2).1).2), (((o500000.set v5.toNat (v1, ((((o500000.getD v5.toNat ((0 : Int), (((0 : Int), (0 : Int)), (0 : Int)))).2).1), ((o500000.getD v5.toNat ((0 : Int), (((0 : Int), (0 : Int)), (0 : Int)))).2).2))).getD v5.toNat ((0 : Int), (((0 : Int), (0 : Int)), (0 : Int)))).2).2))).getD v5.toNat ((0 : Int), (((0 : Int), (0 : Int)), (0 : Int)))).2).1).1, (IntKind.i64.wrap ((IntKind.i64.wrap (v1 + (1 : Int))) + (1 : Int)))), ((((o500000.set v5.toNat (v1, ((((o500000.getD v5.toNat ((0 : Int), (((0 : Int), (0 : Int)), (0 : Int)))).2).1), ((o500000.getD v5.toNat ((0 : Int), (((0 : Int), (0 : Int)), (0 : Int)))).2).2))).set v5.toNat (((o500000.set v5.toNat (v1, ((((o500000.getD v5.toNat ((0 : Int), (((0 : Int), (0 : Int)), (0 : Int)))).2).1), ((o500000.getD v5.toNat ((0 : Int), (((0 : Int), (0 : Int)), (0 : Int)))).2).2))).getD v5.toNat ((0 : Int), (((0 : Int), (0 : Int)), (0 : Int)))).1, (((IntKind.i64.wrap (v1 + (1 : Int))), ((((o500000.set v5.toNat (v1, ((((o500000.getD v5.toNat ((0 : Int), (((0 : Int), (0 : Int)), (0 : Int)))).2).1), ((o500000.getD v5.toNat ((0 : Int), (((0 : Int), (0 : Int)), (0 : Int)))).2).2))).getD v5.toNat ((0 : Int), (((0 : Int), (0 : Int)), (0 : Int)))).2).1).2), (((o500000.set v5.toNat (v1, ((((o500000.getD v5.toNat ((0 : Int), (((0 : Int), (0 : Int)), (0 : Int)))).2).1), ((o500000.getD v5.toNat ((0 : Int), (((0 : Int), (0 : Int)), (0 : Int)))).2).2))).getD v5.toNat ((0 : Int), (((0 : Int), (0 : Int)), (0 : Int)))).2).2))).getD v5.toNat ((0 : Int), (((0 : Int), (0 : Int)), (0 : Int)))).2).2))).getD v5.toNat ((0 : Int), (((0 : Int), (0 : Int)), (0 : Int)))).1, (((((((o500000.set v5.toNat (v1, ((((o500000.getD v5.toNat ((0 : Int), (((0 : Int), (0 : Int)), (0 : Int)))).2).1), ((o500000.getD v5.toNat ((0 : Int), (((0 : Int), (0 : Int)), (0 : Int)))).2).2))).set v5.toNat (((o500000.set v5.toNat (v1, ((((o500000.getD v5.toNat ((0 : Int), (((0 : Int), (0 : Int)), (0 : Int)))).2).1), ((o500000.getD v5.toNat ((0 : Int), (((0 : Int), (0 : Int)), (0 : Int)))).2).2))).getD v5.toNat ((0 : Int), (((0 : Int), (0 : Int)), (0 : Int)))).1, (((IntKind.i64.wrap (v1 + (1 : Int))), ((((o500000.set v5.toNat (v1, ((((o500000.getD v5.toNat ((0 : Int), (((0 : Int), (0 : Int)), (0 : Int)))).2).1), ((o500000.getD v5.toNat ((0 : Int), (((0 : Int), (0 : Int)), (0 : Int)))).2).2))).getD v5.toNat ((0 : Int), (((0 : Int), (0 : Int)), (0 : Int)))).2).1).2), (((o500000.set v5.toNat (v1, ((((o500000.getD v5.toNat ((0 : Int), (((0 : Int), (0 : Int)), (0 : Int)))).2).1), ((o500000.getD v5.toNat ((0 : Int), (((0 : Int), (0 : Int)), (0 : Int)))).2).2))).getD v5.toNat ((0 : Int), (((0 : Int), (0 : Int)), (0 : Int)))).2).2))).set v5.toNat ((((o500000.set v5.toNat (v1, ((((o500000.getD v5.toNat ((0 : Int), (((0 : Int), (0 : Int)), (0 : Int)))).2).1), ((o500000.getD v5.toNat ((0 : Int), (((0 : Int), (0 : Int)), (0 : Int)))).2).2))).set v5.toNat (((o500000.set v5.toNat (v1, ((((o500000.getD v5.toNat ((0 : Int), (((0 : Int), (0 : Int)), (0 : Int)))).2).1), ((o500000.getD v5.toNat ((0 : Int), (((0 : Int), (0 : Int)), (0 : Int)))).2).2))).getD v5.toNat ((0 : Int), (((0 : Int), (0 : Int)), (0 : Int)))).1, (((IntKind.i64.wrap (v1 + (1 : Int))), ((((o500000.set v5.toNat (v1, ((((o500000.getD v5.toNat ((0 : Int), (((0 : Int), (0 : Int)), (0 : Int)))).2).1), ((o500000.getD v5.toNat ((0 : Int), (((0 : Int), (0 : Int)), (0 : Int)))).2).2))).getD v5.toNat ((0 : Int), (((0 : Int), (0 : Int)), (0 : Int)))).2).1).2), (((o500000.set v5.toNat (v1, ((((o500000.getD v5.toNat ((0 : Int), (((0 : Int), (0 : Int)), (0 : Int)))).2).1), ((o500000.getD v5.toNat ((0 : Int), (((0 : Int), (0 : Int)), (0 : Int)))).2).2))).getD v5.toNat ((0 : Int), (((0 : Int), (0 : Int)), (0 : Int)))).2).2))).getD v5.toNat ((0 : Int), (((0 : Int), (0 : Int)), (0 : Int)))).1, (((((((o500000.set v5.toNat (v1, ((((o500000.getD v5.toNat ((0 : Int), (((0 : Int), (0 : Int)), (0 : Int)))).2).1), ((o500000.getD v5.toNat ((0 : Int), (((0 : Int), (0 : Int)), (0 : Int)))).2).2))).set v5.toNat (((o500000.set v5.toNat (v1, ((((o500000.getD v5.toNat ((0 : Int), (((0 : Int), (0 : Int)), (0 : Int)))).2).1), ((o500000.getD v5.toNat ((0 : Int), (((0 : Int), (0 : Int)), (0 : Int)))).2).2))).getD v5.toNat ((0 : Int), (((0 : Int), (0 : Int)), (0 : Int)))).1, (((IntKind.i64.wrap (v1 + (1 : Int))), ((((o500000.set v5.toNat (v1, ((((o500000.getD v5.toNat ((0 : Int), (((0 : Int), (0 : Int)), (0 : Int)))).2).1), ((o500000.getD v5.toNat ((0 : Int), (((0 : Int), (0 : Int)), (0 : Int)))).2).2))).getD v5.toNat ((0 : Int), (((0 : Int), (0 : Int)), (0 : Int)))).2).1).2), (((o500000.set v5.toNat (v1, ((((o500000.getD v5.toNat ((0 : Int), (((0 : Int), (0 : Int)), (0 : Int)))).2).1), ((o500000.getD v5.toNat ((0 : Int), (((0 : Int), (0 : Int)), (0 : Int)))).2).2))).getD v5.toNat ((0 : Int), (((0 : Int), (0 : Int)), (0 : Int)))).2).2))).getD v5.toNat ((0 : Int), (((0 : Int), (0 : Int)), (0 : Int)))).2).1).1, (IntKind.i64.wrap ((IntKind.i64.wrap (v1 + (1 : Int))) + (1 : Int)))), ((((o500000.set v5.toNat (v1, ((((o500000.getD v5.toNat ((0 : Int), (((0 : Int), (0 : Int)), (0 : Int)))).2).1), ((o500000.getD v5.toNat ((0 : Int), (((0 : Int), (0 : Int)), (0 : Int)))).2).2))).set v5.toNat (((o500000.set v5.toNat (v1, ((((o500000.getD v5.toNat ((0 : Int), (((0 : Int), (0 : Int)), (0 : Int)))).2).1), ((o500000.getD v5.toNat ((0 : Int), (((0 : Int), (0 : Int)), (0 : Int)))).2).2))).getD v5.toNat ((0 : Int), (((0 : Int), (0 : Int)), (0 : Int)))).1, (((IntKind.i64.wrap (v1 + (1 : Int))), ((((o500000.set v5.toNat (v1, ((((o500000.getD v5.toNat ((0 : Int), (((0 : Int), (0 : Int)), (0 : Int)))).2).1), ((o500000.getD v5.toNat ((0 : Int), (((0 : Int), (0 : Int)), (0 : Int)))).2).2))).getD v5.toNat ((0 : Int), (((0 : Int), (0 : Int)), (0 : Int)))).2).1).2), (((o500000.set v5.toNat (v1, ((((o500000.getD v5.toNat ((0 : Int), (((0 : Int), (0 : Int)), (0 : Int)))).2).1), ((o500000.getD v5.toNat ((0 : Int), (((0 : Int), (0 : Int)), (0 : Int)))).2).2))).getD v5.toNat ((0 : Int), (((0 : Int), (0 : Int)), (0 : Int)))).2).2))).getD v5.toNat ((0 : Int), (((0 : Int), (0 : Int)), (0 : Int)))).2).2))).getD v5.toNat ((0 : Int), (((0 : Int), (0 : Int)), (0 : Int)))).2).1), (IntKind.i64.wrap ((IntKind.i64.wrap ((IntKind.i64.wrap (v1 + (1 : Int))) + (1 : Int))) + (1 : Int)))))))
                          else (none))
                        else (none))
                      else (none))
                    else (none))
                  else (none))
                else (none))
              else (none))
            else (none))
          else (none))
        else (none))
      else (none))
    else (none))
  else (some (v1, o500000)) := by kernel_rfl
theorem w_markTrick_eq (k : Nat) (x0 : (List Int) × (List (Int × (Int × Int) × Int)) × Int × Int × Int) (x1 : Int) : w_markTrick (k + 1) (x0, x1) =
  (w_markIntS k (x0.1, x1)).bind fun y1 =>
  (w_markStepS k (x0.2.1, y1.1)).bind fun y2 =>
  some (y2.1, (y1.2, y2.2)) := by kernel_rfl
theorem w_markSceneS_eq (k : Nat) (x0 : List ((List Int) × Int)) (x1 : Int) : w_markSceneS (k + 1) (x0, x1) =
  w_markSceneS_l2 k x1 (0 : Int) x0 := by kernel_rfl
theorem w_markSceneS_l2_eq (k : Nat) (v1 : Int) (v5 : Int) (o500000 : List ((List Int) × Int)) : w_markSceneS_l2 (k + 1) v1 v5 o500000 =
  bif decide (v5 < (o500000.length : Int)) then
    (bif decide (0 ≤ v5) then
      (bif decide (v5 < (o500000.length : Int)) then
        (bif decide (v5.toNat < o500000.length) then
          ((w_markIntS k ((o500000.getD v5.toNat ([], (0 : Int))).1, v1)).bind fun y1 =>
          bif decide (0 ≤ v5) then
            (bif decide (v5 < (o500000.length : Int)) then
              (bif (Nat.beq v5.toNat v5.toNat) then
                (w_markSceneS_l2 k (IntKind.i64.wrap (y1.1 + (1 : Int))) (IntKind.i64.wrap (v5 + (1 : Int))) (o500000.set v5.toNat (y1.2, y1.1)))
              else (none))
            else (none))
          else (none))
        else (none))
      else (none))
    else (none))
  else (some (v1, o500000)) := by kernel_rfl
theorem w_heldIntS_eq (k : Nat) (x0 : List Int) (x1 : Int) : w_heldIntS (k + 1) (x0, x1) =
  w_heldIntS_l2 k x0 x1 (0 : Int) := by kernel_rfl
theorem w_heldIntS_l2_eq (k : Nat) (v0 : List Int) (v1 : Int) (v5 : Int) : w_heldIntS_l2 (k + 1) v0 v1 v5 =
  bif decide (v5 < (v0.length : Int)) then
    (bif decide (0 ≤ v5) then
      (bif decide (v5 < (v0.length : Int)) then
        (bif (!((v0.getD v5.toNat (0 : Int)) == v1)) then
          (some (-1 : Int))
        else (w_heldIntS_l2 k v0 (IntKind.i64.wrap (v1 + (1 : Int))) (IntKind.i64.wrap (v5 + (1 : Int)))))
      else (none))
    else (none))
  else (some v1) := by kernel_rfl
theorem w_heldSceneS_eq (k : Nat) (x0 : List ((List Int) × Int)) (x1 : Int) : w_heldSceneS (k + 1) (x0, x1) =
  w_heldSceneS_l2 k x0 x1 (0 : Int) := by kernel_rfl
theorem w_heldSceneS_l2_eq (k : Nat) (v0 : List ((List Int) × Int)) (v1 : Int) (v5 : Int) : w_heldSceneS_l2 (k + 1) v0 v1 v5 =
  bif decide (v5 < (v0.length : Int)) then
    (bif decide (0 ≤ v5) then
      (bif decide (v5 < (v0.length : Int)) then
        ((w_heldIntS k ((v0.getD v5.toNat ([], (0 : Int))).1, v1)).bind fun y1 =>
        bif decide (y1 < (0 : Int)) then
          (some (-1 : Int))
        else (bif decide (0 ≤ v5) then
            (bif decide (v5 < (v0.length : Int)) then
              (bif (!(((v0.getD v5.toNat ([], (0 : Int))).2) == y1)) then
                (some (-1 : Int))
              else (w_heldSceneS_l2 k v0 (IntKind.i64.wrap (y1 + (1 : Int))) (IntKind.i64.wrap (v5 + (1 : Int)))))
            else (none))
          else (none)))
      else (none))
    else (none))
  else (some v1) := by kernel_rfl
theorem w_FnExactAllScenes_eq (k : Nat) (x0 : (List Int) × (List (Int × (Int × Int) × Int)) × Int × Int × Int) : w_FnExactAllScenes (k + 1) x0 =
  (w_szTrick k (x0, (1048576 : Int))).bind fun y1 =>
  bif decide (y1 < (0 : Int)) then
    (some true)
  else ((w_toTrick k x0).bind fun y2 =>
    (s_AllScenes k y2).bind fun y3 =>
    (w_toTrick k x0).bind fun y4 =>
    (i_AllScenes k y4).bind fun y5 =>
    (w_eqSceneS k (y5.1, y3.1)).bind fun y6 =>
    bif (!y6) then
      (some false)
    else (bif (!(y5.2 == y3.2)) then
        (some false)
      else ((w_toTrick k x0).bind fun y7 =>
        (w_eqTrick k (y4, y7)).bind fun y8 =>
        bif (!y8) then
          (some false)
        else ((w_markTrick k (y4, (1 : Int))).bind fun y9 =>
          bif decide (y9.1 < (0 : Int)) then
            (some false)
          else ((w_eqSceneS k (y5.1, y3.1)).bind fun y10 =>
            bif (!y10) then
              (some false)
            else (bif (!(y5.2 == y3.2)) then
                (some false)
              else ((w_markSceneS k (y5.1, (1 : Int))).bind fun y11 =>
                (w_heldSceneS k (y11.2, (1 : Int))).bind fun y12 =>
                bif decide (y12 < (0 : Int)) then
                  (some false)
                else (bif (!(y12 == y11.1)) then
                    (some false)
                  else ((w_toTrick k x0).bind fun y13 =>
                    (i_AllScenes k y13).bind fun y14 =>
                    (w_eqSceneS k (y14.1, y3.1)).bind fun y15 =>
                    bif (!y15) then
                      (some false)
                    else (bif (!(y14.2 == y3.2)) then
                        (some false)
                      else ((w_heldSceneS k (y11.2, (1 : Int))).bind fun y16 =>
                        bif decide (y16 < (0 : Int)) then
                          (some false)
                        else (bif (!(y16 == y11.1)) then
                            (some false)
                          else (some true))))))))))))) := by kernel_rfl

/-! ### the tables are right -/
/-- What holds of the world throughout. -/
abbrev gw : Gw := ⟨fun w => Go.Lib.TabIs Go.Proofs.Tryz.prog w "internal/strconv.uint64pow10" .u64 Go.Lib.pow10Tab, false⟩
theorem ty_3 : TyOk Go.Proofs.Tryz.prog 3 (.one (.int .i64)) := tyOk_int (by kernel_rfl) (by kernel_rfl) (by kernel_rfl)
theorem ty_4 : TyOk Go.Proofs.Tryz.prog 4 (.one (.bool)) := tyOk_bool (by kernel_rfl) (by kernel_rfl) (by kernel_rfl)
theorem ty_22 : TyOk Go.Proofs.Tryz.prog 22 (.one (.slice (.int .i64))) := tyOk_slice (e := 3) (by kernel_rfl) (by kernel_rfl) (by kernel_rfl) (elemOk_of (by kernel_rfl) (by kernel_rfl) (by kernel_rfl))
theorem ty_23 : TyOk Go.Proofs.Tryz.prog 23 (.one (.slice (.pair (.int .i64) (.pair (.pair (.int .i64) (.int .i64)) (.int .i64))))) := tyOk_slice (e := 103) (by kernel_rfl) (by kernel_rfl) (by kernel_rfl) (elemOk_of (by kernel_rfl) (by kernel_rfl) (by kernel_rfl))
theorem ty_25 : TyOk Go.Proofs.Tryz.prog 25 (.struct [(0, 22), (1, 23), (2, 3), (3, 3), (4, 3)] [.slice (.int .i64), .slice (.pair (.int .i64) (.pair (.pair (.int .i64) (.int .i64)) (.int .i64))), .int .i64, .int .i64, .int .i64] false) := tyOk_struct (fields := Go.Proofs.Tryz.prog.fieldsOf 25) (by kernel_rfl) (by kernel_rfl) (by kernel_rfl) (by kernel_rfl) (by kernel_rfl) (by kernel_rfl) (fun e => by cases e)
theorem ty_28 : TyOk Go.Proofs.Tryz.prog 28 (.one (.slice (.pair (.int .i64) (.pair (.pair (.int .i64) (.int .i64)) (.int .i64))))) := tyOk_slice (e := 83) (by kernel_rfl) (by kernel_rfl) (by kernel_rfl) (elemOk_of (by kernel_rfl) (by kernel_rfl) (by kernel_rfl))
theorem ty_30 : TyOk Go.Proofs.Tryz.prog 30 (.struct [(0, 22), (1, 28), (2, 3), (3, 3), (4, 3)] [.slice (.int .i64), .slice (.pair (.int .i64) (.pair (.pair (.int .i64) (.int .i64)) (.int .i64))), .int .i64, .int .i64, .int .i64] false) := tyOk_struct (fields := Go.Proofs.Tryz.prog.fieldsOf 30) (by kernel_rfl) (by kernel_rfl) (by kernel_rfl) (by kernel_rfl) (by kernel_rfl) (by kernel_rfl) (fun e => by cases e)
theorem ty_34 : TyOk Go.Proofs.Tryz.prog 34 (.one (.slice (.pair (.slice (.int .i64)) (.int .i64)))) := tyOk_slice (e := 41) (by kernel_rfl) (by kernel_rfl) (by kernel_rfl) (elemOk_of (by kernel_rfl) (by kernel_rfl) (by kernel_rfl))
theorem ty_41 : TyOk Go.Proofs.Tryz.prog 41 (.struct [(0, 22), (1, 3)] [.slice (.int .i64), .int .i64] false) := tyOk_struct (fields := Go.Proofs.Tryz.prog.fieldsOf 41) (by kernel_rfl) (by kernel_rfl) (by kernel_rfl) (by kernel_rfl) (by kernel_rfl) (by kernel_rfl) (fun e => by cases e)
theorem ty_67 : TyOk Go.Proofs.Tryz.prog 67 (.one (.slice (.slice (.int .i64)))) := tyOk_slice (e := 22) (by kernel_rfl) (by kernel_rfl) (by kernel_rfl) (elemOk_of (by kernel_rfl) (by kernel_rfl) (by kernel_rfl))
theorem ty_70 : TyOk Go.Proofs.Tryz.prog 70 (.one (.slice (.slice (.pair (.slice (.int .i64)) (.int .i64))))) := tyOk_slice (e := 34) (by kernel_rfl) (by kernel_rfl) (by kernel_rfl) (elemOk_of (by kernel_rfl) (by kernel_rfl) (by kernel_rfl))
theorem ty_81 : TyOk Go.Proofs.Tryz.prog 81 (.struct [(0, 3), (1, 3)] [.int .i64, .int .i64] true) := tyOk_struct (fields := Go.Proofs.Tryz.prog.fieldsOf 81) (by kernel_rfl) (by kernel_rfl) (by kernel_rfl) (by kernel_rfl) (by kernel_rfl) (by kernel_rfl) (fun _ => structEq_ok (d := 20) (fields := Go.Proofs.Tryz.prog.fieldsOf 81) (by kernel_rfl) (by kernel_rfl) (by decide) (by kernel_rfl))
theorem ty_83 : TyOk Go.Proofs.Tryz.prog 83 (.struct [(0, 3), (1, 81), (3, 3)] [.int .i64, .int .i64, .int .i64, .int .i64] true) := tyOk_struct (fields := Go.Proofs.Tryz.prog.fieldsOf 83) (by kernel_rfl) (by kernel_rfl) (by kernel_rfl) (by kernel_rfl) (by kernel_rfl) (by kernel_rfl) (fun _ => structEq_ok (d := 20) (fields := Go.Proofs.Tryz.prog.fieldsOf 83) (by kernel_rfl) (by kernel_rfl) (by decide) (by kernel_rfl))
theorem ty_86 : TyOk Go.Proofs.Tryz.prog 86 (.sset) := tyOk_sset (kt := 9) (et := 4) (by kernel_rfl) (by kernel_rfl) (by kernel_rfl)
theorem ty_101 : TyOk Go.Proofs.Tryz.prog 101 (.struct [(0, 3), (1, 3)] [.int .i64, .int .i64] true) := tyOk_struct (fields := Go.Proofs.Tryz.prog.fieldsOf 101) (by kernel_rfl) (by kernel_rfl) (by kernel_rfl) (by kernel_rfl) (by kernel_rfl) (by kernel_rfl) (fun _ => structEq_ok (d := 20) (fields := Go.Proofs.Tryz.prog.fieldsOf 101) (by kernel_rfl) (by kernel_rfl) (by decide) (by kernel_rfl))
theorem ty_103 : TyOk Go.Proofs.Tryz.prog 103 (.struct [(0, 3), (1, 101), (3, 3)] [.int .i64, .int .i64, .int .i64, .int .i64] true) := tyOk_struct (fields := Go.Proofs.Tryz.prog.fieldsOf 103) (by kernel_rfl) (by kernel_rfl) (by kernel_rfl) (by kernel_rfl) (by kernel_rfl) (by kernel_rfl) (fun _ => structEq_ok (d := 20) (fields := Go.Proofs.Tryz.prog.fieldsOf 103) (by kernel_rfl) (by kernel_rfl) (by decide) (by kernel_rfl))
theorem ty_118 : TyOk Go.Proofs.Tryz.prog 118 (.one (.slice (.str))) := tyOk_slice (e := 9) (by kernel_rfl) (by kernel_rfl) (by kernel_rfl) (elemOk_of (by kernel_rfl) (by kernel_rfl) (by kernel_rfl))
theorem ty_128 : TyOk Go.Proofs.Tryz.prog 128 (.arr 12 (.bool)) := tyOk_arr (e := 4) (by kernel_rfl) (elemOk_of (by kernel_rfl) (by kernel_rfl) (by kernel_rfl)) (by kernel_rfl) (by kernel_rfl)
theorem ty_5022023 : TyOk Go.Proofs.Tryz.prog 5022023 (.flag) := trivial
theorem ty_5022031 : TyOk Go.Proofs.Tryz.prog 5022031 (.flag) := trivial
theorem ty_5022072 : TyOk Go.Proofs.Tryz.prog 5022072 (.flag) := trivial
theorem ty_5034021 : TyOk Go.Proofs.Tryz.prog 5034021 (.flag) := trivial
theorem ty_5041049 : TyOk Go.Proofs.Tryz.prog 5041049 (.flag) := trivial
theorem hE : ∀ T ti, E.ty T = some ti → TyOk Go.Proofs.Tryz.prog T ti := lookT_ok (l := tyL) ⟨ty_3, ty_4, ty_22, ty_23, ty_25, ty_28, ty_30, ty_34, ty_41, ty_67, ty_70, ty_81, ty_83, ty_86, ty_101, ty_103, ty_118, ty_128, ty_5022023, ty_5022031, ty_5022072, ty_5034021, ty_5041049, trivial⟩
theorem w_szIntS_ok : OneF Go.Proofs.Tryz.prog gw 40 w_szIntS_fi := fnOk_of (fn := Go.Proofs.Tryz.f40) (c := w_szIntS_c) Go.Proofs.Tryz.func40 (by kernel_rfl) (by kernel_rfl) rfl rfl (by kernel_rfl) (by kernel_rfl) rfl
theorem w_szStepS_ok : OneF Go.Proofs.Tryz.prog gw 41 w_szStepS_fi := fnOk_of (fn := Go.Proofs.Tryz.f41) (c := w_szStepS_c) Go.Proofs.Tryz.func41 (by kernel_rfl) (by kernel_rfl) rfl rfl (by kernel_rfl) (by kernel_rfl) rfl
theorem w_szTrick_ok : OneF Go.Proofs.Tryz.prog gw 11 w_szTrick_fi := fnOk_of (fn := Go.Proofs.Tryz.f11) (c := w_szTrick_c) Go.Proofs.Tryz.func11 (by kernel_rfl) (by kernel_rfl) rfl rfl (by kernel_rfl) (by kernel_rfl) rfl
theorem w_toIntS_ok : OneF Go.Proofs.Tryz.prog gw 42 w_toIntS_fi := fnOk_of (fn := Go.Proofs.Tryz.f42) (c := w_toIntS_c) Go.Proofs.Tryz.func42 (by kernel_rfl) (by kernel_rfl) rfl rfl (by kernel_rfl) (by kernel_rfl) rfl
theorem w_toMove_ok : OneF Go.Proofs.Tryz.prog gw 121 w_toMove_fi := fnOk_of (fn := Go.Proofs.Tryz.f121) (c := w_toMove_c) Go.Proofs.Tryz.func121 (by kernel_rfl) (by kernel_rfl) rfl rfl (by kernel_rfl) (by kernel_rfl) rfl
theorem w_toStep_ok : OneF Go.Proofs.Tryz.prog gw 88 w_toStep_fi := fnOk_of (fn := Go.Proofs.Tryz.f88) (c := w_toStep_c) Go.Proofs.Tryz.func88 (by kernel_rfl) (by kernel_rfl) rfl rfl (by kernel_rfl) (by kernel_rfl) rfl
theorem w_toStepS_ok : OneF Go.Proofs.Tryz.prog gw 43 w_toStepS_fi := fnOk_of (fn := Go.Proofs.Tryz.f43) (c := w_toStepS_c) Go.Proofs.Tryz.func43 (by kernel_rfl) (by kernel_rfl) rfl rfl (by kernel_rfl) (by kernel_rfl) rfl
theorem w_toTrick_ok : OneF Go.Proofs.Tryz.prog gw 13 w_toTrick_fi := fnOk_of (fn := Go.Proofs.Tryz.f13) (c := w_toTrick_c) Go.Proofs.Tryz.func13 (by kernel_rfl) (by kernel_rfl) rfl rfl (by kernel_rfl) (by kernel_rfl) rfl
theorem s_l01In_ok : OneF Go.Proofs.Tryz.prog gw 67 s_l01In_fi := fnOk_of (fn := Go.Proofs.Tryz.f67) (c := s_l01In_c) Go.Proofs.Tryz.func67 (by kernel_rfl) (by kernel_rfl) rfl rfl (by kernel_rfl) (by kernel_rfl) rfl
theorem s_CardOf_ok : OneF Go.Proofs.Tryz.prog gw 123 s_CardOf_fi := fnOk_of (fn := Go.Proofs.Tryz.f123) (c := s_CardOf_c) Go.Proofs.Tryz.func123 (by kernel_rfl) (by kernel_rfl) rfl rfl (by kernel_rfl) (by kernel_rfl) rfl
theorem s_l02Has_ok : OneF Go.Proofs.Tryz.prog gw 124 s_l02Has_fi := fnOk_of (fn := Go.Proofs.Tryz.f124) (c := s_l02Has_c) Go.Proofs.Tryz.func124 (by kernel_rfl) (by kernel_rfl) rfl rfl (by kernel_rfl) (by kernel_rfl) rfl
theorem s_PacketOk_ok : OneF Go.Proofs.Tryz.prog gw 90 s_PacketOk_fi := fnOk_of (fn := Go.Proofs.Tryz.f90) (c := s_PacketOk_c) Go.Proofs.Tryz.func90 (by kernel_rfl) (by kernel_rfl) rfl rfl (by kernel_rfl) (by kernel_rfl) rfl
theorem s_MoveOk_ok : OneF Go.Proofs.Tryz.prog gw 125 s_MoveOk_fi := fnOk_of (fn := Go.Proofs.Tryz.f125) (c := s_MoveOk_c) Go.Proofs.Tryz.func125 (by kernel_rfl) (by kernel_rfl) rfl rfl (by kernel_rfl) (by kernel_rfl) rfl
theorem s_l16Choice_ok : OneF Go.Proofs.Tryz.prog gw 126 s_l16Choice_fi := fnOk_of (fn := Go.Proofs.Tryz.f126) (c := s_l16Choice_c) Go.Proofs.Tryz.func126 (by kernel_rfl) (by kernel_rfl) rfl rfl (by kernel_rfl) (by kernel_rfl) rfl
theorem s_StepOk_ok : OneF Go.Proofs.Tryz.prog gw 91 s_StepOk_fi := fnOk_of (fn := Go.Proofs.Tryz.f91) (c := s_StepOk_c) Go.Proofs.Tryz.func91 (by kernel_rfl) (by kernel_rfl) rfl rfl (by kernel_rfl) (by kernel_rfl) rfl
theorem s_PositionOf_ok : OneF Go.Proofs.Tryz.prog gw 99 s_PositionOf_fi := fnOk_of (fn := Go.Proofs.Tryz.f99) (c := s_PositionOf_c) Go.Proofs.Tryz.func99 (by kernel_rfl) (by kernel_rfl) rfl rfl (by kernel_rfl) (by kernel_rfl) rfl
theorem s_l16Claim_ok : OneF Go.Proofs.Tryz.prog gw 92 s_l16Claim_fi := fnOk_of (fn := Go.Proofs.Tryz.f92) (c := s_l16Claim_c) Go.Proofs.Tryz.func92 (by kernel_rfl) (by kernel_rfl) rfl rfl (by kernel_rfl) (by kernel_rfl) rfl
theorem s_TrickOk_ok : OneF Go.Proofs.Tryz.prog gw 46 s_TrickOk_fi := fnOk_of (fn := Go.Proofs.Tryz.f46) (c := s_TrickOk_c) Go.Proofs.Tryz.func46 (by kernel_rfl) (by kernel_rfl) rfl rfl (by kernel_rfl) (by kernel_rfl) rfl
theorem s_TurnCard_ok : OneF Go.Proofs.Tryz.prog gw 153 s_TurnCard_fi := fnOk_of (fn := Go.Proofs.Tryz.f153) (c := s_TurnCard_c) Go.Proofs.Tryz.func153 (by kernel_rfl) (by kernel_rfl) rfl rfl (by kernel_rfl) (by kernel_rfl) rfl
theorem s_l04Back_ok : OneF Go.Proofs.Tryz.prog gw 148 s_l04Back_fi := fnOk_of (fn := Go.Proofs.Tryz.f148) (c := s_l04Back_c) Go.Proofs.Tryz.func148 (by kernel_rfl) (by kernel_rfl) rfl rfl (by kernel_rfl) (by kernel_rfl) rfl
theorem s_l04Faro_ok : OneF Go.Proofs.Tryz.prog gw 149 s_l04Faro_fi := fnOk_of (fn := Go.Proofs.Tryz.f149) (c := s_l04Faro_c) Go.Proofs.Tryz.func149 (by kernel_rfl) (by kernel_rfl) rfl rfl (by kernel_rfl) (by kernel_rfl) rfl
theorem s_l04Monge_ok : OneF Go.Proofs.Tryz.prog gw 150 s_l04Monge_fi := fnOk_of (fn := Go.Proofs.Tryz.f150) (c := s_l04Monge_c) Go.Proofs.Tryz.func150 (by kernel_rfl) (by kernel_rfl) rfl rfl (by kernel_rfl) (by kernel_rfl) rfl
theorem s_l04Milk_ok : OneF Go.Proofs.Tryz.prog gw 151 s_l04Milk_fi := fnOk_of (fn := Go.Proofs.Tryz.f151) (c := s_l04Milk_c) Go.Proofs.Tryz.func151 (by kernel_rfl) (by kernel_rfl) rfl rfl (by kernel_rfl) (by kernel_rfl) rfl
theorem s_l04Duck_ok : OneF Go.Proofs.Tryz.prog gw 152 s_l04Duck_fi := fnOk_of (fn := Go.Proofs.Tryz.f152) (c := s_l04Duck_c) Go.Proofs.Tryz.func152 (by kernel_rfl) (by kernel_rfl) rfl rfl (by kernel_rfl) (by kernel_rfl) rfl
theorem s_l04Do_ok : OneF Go.Proofs.Tryz.prog gw 127 s_l04Do_fi := fnOk_of (fn := Go.Proofs.Tryz.f127) (c := s_l04Do_c) Go.Proofs.Tryz.func127 (by kernel_rfl) (by kernel_rfl) rfl rfl (by kernel_rfl) (by kernel_rfl) rfl
theorem s_l05Cuts_ok : OneF Go.Proofs.Tryz.prog gw 155 s_l05Cuts_fi := fnOk_of (fn := Go.Proofs.Tryz.f155) (c := s_l05Cuts_c) Go.Proofs.Tryz.func155 (by kernel_rfl) (by kernel_rfl) rfl rfl (by kernel_rfl) (by kernel_rfl) rfl
theorem s_l05Weave_ok : OneF Go.Proofs.Tryz.prog gw 156 s_l05Weave_fi := fnOk_of (fn := Go.Proofs.Tryz.f156) (c := s_l05Weave_c) Go.Proofs.Tryz.func156 (by kernel_rfl) (by kernel_rfl) rfl rfl (by kernel_rfl) (by kernel_rfl) rfl
theorem s_l05Of_ok : OneF Go.Proofs.Tryz.prog gw 129 s_l05Of_fi := fnOk_of (fn := Go.Proofs.Tryz.f129) (c := s_l05Of_c) Go.Proofs.Tryz.func129 (by kernel_rfl) (by kernel_rfl) rfl rfl (by kernel_rfl) (by kernel_rfl) rfl
theorem s_SamePacket_ok : OneF Go.Proofs.Tryz.prog gw 101 s_SamePacket_fi := fnOk_of (fn := Go.Proofs.Tryz.f101) (c := s_SamePacket_c) Go.Proofs.Tryz.func101 (by kernel_rfl) (by kernel_rfl) rfl rfl (by kernel_rfl) (by kernel_rfl) rfl
theorem s_l05Less_ok : OneF Go.Proofs.Tryz.prog gw 168 s_l05Less_fi := fnOk_of (fn := Go.Proofs.Tryz.f168) (c := s_l05Less_c) Go.Proofs.Tryz.func168 (by kernel_rfl) (by kernel_rfl) rfl rfl (by kernel_rfl) (by kernel_rfl) rfl
theorem s_l05Merge_ok : OneF Go.Proofs.Tryz.prog gw 154 s_l05Merge_fi := fnOk_of (fn := Go.Proofs.Tryz.f154) (c := s_l05Merge_c) Go.Proofs.Tryz.func154 (by kernel_rfl) (by kernel_rfl) rfl rfl (by kernel_rfl) (by kernel_rfl) rfl
theorem s_SortPackets_ok : OneF Go.Proofs.Tryz.prog gw 128 s_SortPackets_fi := fnOk_of (fn := Go.Proofs.Tryz.f128) (c := s_SortPackets_c) Go.Proofs.Tryz.func128 (by kernel_rfl) (by kernel_rfl) rfl rfl (by kernel_rfl) (by kernel_rfl) rfl
theorem s_l16Next_ok : OneF Go.Proofs.Tryz.prog gw 93 s_l16Next_fi := fnOk_of (fn := Go.Proofs.Tryz.f93) (c := s_l16Next_c) Go.Proofs.Tryz.func93 (by kernel_rfl) (by kernel_rfl) rfl rfl (by kernel_rfl) (by kernel_rfl) rfl
theorem s_SameScene_ok : OneF Go.Proofs.Tryz.prog gw 73 s_SameScene_fi := fnOk_of (fn := Go.Proofs.Tryz.f73) (c := s_SameScene_c) Go.Proofs.Tryz.func73 (by kernel_rfl) (by kernel_rfl) rfl rfl (by kernel_rfl) (by kernel_rfl) rfl
theorem s_l17Find_ok : OneF Go.Proofs.Tryz.prog gw 94 s_l17Find_fi := fnOk_of (fn := Go.Proofs.Tryz.f94) (c := s_l17Find_c) Go.Proofs.Tryz.func94 (by kernel_rfl) (by kernel_rfl) rfl rfl (by kernel_rfl) (by kernel_rfl) rfl
theorem s_l17Ends_ok : OneF Go.Proofs.Tryz.prog gw 47 s_l17Ends_fi := fnOk_of (fn := Go.Proofs.Tryz.f47) (c := s_l17Ends_c) Go.Proofs.Tryz.func47 (by kernel_rfl) (by kernel_rfl) rfl rfl (by kernel_rfl) (by kernel_rfl) rfl
theorem s_AllScenes_ok : OneF Go.Proofs.Tryz.prog gw 16 s_AllScenes_fi := fnOk_of (fn := Go.Proofs.Tryz.f16) (c := s_AllScenes_c) Go.Proofs.Tryz.func16 (by kernel_rfl) (by kernel_rfl) rfl rfl (by kernel_rfl) (by kernel_rfl) rfl
theorem i_CardOf_ok : OneF Go.Proofs.Tryz.prog gw 103 i_CardOf_fi := fnOk_of (fn := Go.Proofs.Tryz.f103) (c := i_CardOf_c) Go.Proofs.Tryz.func103 (by kernel_rfl) (by kernel_rfl) rfl rfl (by kernel_rfl) (by kernel_rfl) rfl
theorem i_PacketOk_ok : OneF Go.Proofs.Tryz.prog gw 95 i_PacketOk_fi := fnOk_of (fn := Go.Proofs.Tryz.f95) (c := i_PacketOk_c) Go.Proofs.Tryz.func95 (by kernel_rfl) (by kernel_rfl) rfl rfl (by kernel_rfl) (by kernel_rfl) rfl
theorem i_MoveOk_ok : OneF Go.Proofs.Tryz.prog gw 130 i_MoveOk_fi := fnOk_of (fn := Go.Proofs.Tryz.f130) (c := i_MoveOk_c) Go.Proofs.Tryz.func130 (by kernel_rfl) (by kernel_rfl) rfl rfl (by kernel_rfl) (by kernel_rfl) rfl
theorem i_StepOk_ok : OneF Go.Proofs.Tryz.prog gw 96 i_StepOk_fi := fnOk_of (fn := Go.Proofs.Tryz.f96) (c := i_StepOk_c) Go.Proofs.Tryz.func96 (by kernel_rfl) (by kernel_rfl) rfl rfl (by kernel_rfl) (by kernel_rfl) rfl
theorem i_PositionOf_1_ok : OneF Go.Proofs.Tryz.prog gw 132 i_PositionOf_1_fi := fnOk_of (fn := Go.Proofs.Tryz.f132) (c := i_PositionOf_1_c) Go.Proofs.Tryz.func132 (by kernel_rfl) (by kernel_rfl) rfl rfl (by kernel_rfl) (by kernel_rfl) rfl
theorem slices_IndexFunc_int_of_i_PositionOf_1_ok : OneF Go.Proofs.Tryz.prog gw 131 slices_IndexFunc_int_of_i_PositionOf_1_fi := fnOk_of (fn := Go.Proofs.Tryz.f131) (c := slices_IndexFunc_int_of_i_PositionOf_1_c) Go.Proofs.Tryz.func131 (by kernel_rfl) (by kernel_rfl) rfl rfl (by kernel_rfl) (by kernel_rfl) rfl
theorem i_PositionOf_ok : OneF Go.Proofs.Tryz.prog gw 97 i_PositionOf_fi := fnOk_of (fn := Go.Proofs.Tryz.f97) (c := i_PositionOf_c) Go.Proofs.Tryz.func97 (by kernel_rfl) (by kernel_rfl) rfl rfl (by kernel_rfl) (by kernel_rfl) rfl
theorem i_TrickOk_ok : OneF Go.Proofs.Tryz.prog gw 48 i_TrickOk_fi := fnOk_of (fn := Go.Proofs.Tryz.f48) (c := i_TrickOk_c) Go.Proofs.Tryz.func48 (by kernel_rfl) (by kernel_rfl) rfl rfl (by kernel_rfl) (by kernel_rfl) rfl
theorem slices_Clone_int_ok : OneF Go.Proofs.Tryz.prog gw 108 slices_Clone_int_fi := fnOk_of (fn := Go.Proofs.Tryz.f108) (c := slices_Clone_int_c) Go.Proofs.Tryz.func108 (by kernel_rfl) (by kernel_rfl) rfl rfl (by kernel_rfl) (by kernel_rfl) rfl
theorem i_StartScene_ok : OneF Go.Proofs.Tryz.prog gw 98 i_StartScene_fi := fnOk_of (fn := Go.Proofs.Tryz.f98) (c := i_StartScene_c) Go.Proofs.Tryz.func98 (by kernel_rfl) (by kernel_rfl) rfl rfl (by kernel_rfl) (by kernel_rfl) rfl
theorem slices_Grow_int_ok : OneF Go.Proofs.Tryz.prog gw 157 slices_Grow_int_fi := Go.Proofs.Tryz.growOne
theorem slices_Concat_int_ok : OneF Go.Proofs.Tryz.prog gw 137 slices_Concat_int_fi := fnOk_of (fn := Go.Proofs.Tryz.f137) (c := slices_Concat_int_c) Go.Proofs.Tryz.func137 (by kernel_rfl) (by kernel_rfl) rfl rfl (by kernel_rfl) (by kernel_rfl) rfl
theorem slices_Reverse_int_ok : OneF Go.Proofs.Tryz.prog gw 158 slices_Reverse_int_fi := Go.Proofs.Tryz.revOne
theorem i_reversed_ok : OneF Go.Proofs.Tryz.prog gw 138 i_reversed_fi := fnOk_of (fn := Go.Proofs.Tryz.f138) (c := i_reversed_c) Go.Proofs.Tryz.func138 (by kernel_rfl) (by kernel_rfl) rfl rfl (by kernel_rfl) (by kernel_rfl) rfl
theorem i_faro_ok : OneF Go.Proofs.Tryz.prog gw 140 i_faro_fi := fnOk_of (fn := Go.Proofs.Tryz.f140) (c := i_faro_c) Go.Proofs.Tryz.func140 (by kernel_rfl) (by kernel_rfl) rfl rfl (by kernel_rfl) (by kernel_rfl) rfl
theorem i_monge_ok : OneF Go.Proofs.Tryz.prog gw 141 i_monge_fi := fnOk_of (fn := Go.Proofs.Tryz.f141) (c := i_monge_c) Go.Proofs.Tryz.func141 (by kernel_rfl) (by kernel_rfl) rfl rfl (by kernel_rfl) (by kernel_rfl) rfl
theorem i_milk_ok : OneF Go.Proofs.Tryz.prog gw 142 i_milk_fi := fnOk_of (fn := Go.Proofs.Tryz.f142) (c := i_milk_c) Go.Proofs.Tryz.func142 (by kernel_rfl) (by kernel_rfl) rfl rfl (by kernel_rfl) (by kernel_rfl) rfl
theorem i_dealt_ok : OneF Go.Proofs.Tryz.prog gw 143 i_dealt_fi := fnOk_of (fn := Go.Proofs.Tryz.f143) (c := i_dealt_c) Go.Proofs.Tryz.func143 (by kernel_rfl) (by kernel_rfl) rfl rfl (by kernel_rfl) (by kernel_rfl) rfl
theorem i_TurnCard_ok : OneF Go.Proofs.Tryz.prog gw 139 i_TurnCard_fi := fnOk_of (fn := Go.Proofs.Tryz.f139) (c := i_TurnCard_c) Go.Proofs.Tryz.func139 (by kernel_rfl) (by kernel_rfl) rfl rfl (by kernel_rfl) (by kernel_rfl) rfl
theorem i_moved_ok : OneF Go.Proofs.Tryz.prog gw 107 i_moved_fi := fnOk_of (fn := Go.Proofs.Tryz.f107) (c := i_moved_c) Go.Proofs.Tryz.func107 (by kernel_rfl) (by kernel_rfl) rfl rfl (by kernel_rfl) (by kernel_rfl) rfl
theorem i_cuts_ok : OneF Go.Proofs.Tryz.prog gw 159 i_cuts_fi := fnOk_of (fn := Go.Proofs.Tryz.f159) (c := i_cuts_c) Go.Proofs.Tryz.func159 (by kernel_rfl) (by kernel_rfl) rfl rfl (by kernel_rfl) (by kernel_rfl) rfl
theorem i_riffled_ok : OneF Go.Proofs.Tryz.prog gw 160 i_riffled_fi := fnOk_of (fn := Go.Proofs.Tryz.f160) (c := i_riffled_c) Go.Proofs.Tryz.func160 (by kernel_rfl) (by kernel_rfl) rfl rfl (by kernel_rfl) (by kernel_rfl) rfl
theorem i_all_ok : OneF Go.Proofs.Tryz.prog gw 144 i_all_fi := fnOk_of (fn := Go.Proofs.Tryz.f144) (c := i_all_c) Go.Proofs.Tryz.func144 (by kernel_rfl) (by kernel_rfl) rfl rfl (by kernel_rfl) (by kernel_rfl) rfl
theorem slices_SortFunc_int_int_ok : OneF Go.Proofs.Tryz.prog gw 161 slices_SortFunc_int_int_fi := Go.Proofs.Tryz.sortOne
theorem slices_CompactFunc_int_int_ok : OneF Go.Proofs.Tryz.prog gw 163 slices_CompactFunc_int_int_fi := Go.Proofs.Tryz.compactOne
theorem i_SortPackets_ok : OneF Go.Proofs.Tryz.prog gw 145 i_SortPackets_fi := fnOk_of (fn := Go.Proofs.Tryz.f145) (c := i_SortPackets_c) Go.Proofs.Tryz.func145 (by kernel_rfl) (by kernel_rfl) rfl rfl (by kernel_rfl) (by kernel_rfl) rfl
theorem i_ResultsOf_ok : OneF Go.Proofs.Tryz.prog gw 109 i_ResultsOf_fi := fnOk_of (fn := Go.Proofs.Tryz.f109) (c := i_ResultsOf_c) Go.Proofs.Tryz.func109 (by kernel_rfl) (by kernel_rfl) rfl rfl (by kernel_rfl) (by kernel_rfl) rfl
theorem i_NextScenes_ok : OneF Go.Proofs.Tryz.prog gw 59 i_NextScenes_fi := fnOk_of (fn := Go.Proofs.Tryz.f59) (c := i_NextScenes_c) Go.Proofs.Tryz.func59 (by kernel_rfl) (by kernel_rfl) rfl rfl (by kernel_rfl) (by kernel_rfl) rfl
theorem strconv_Itoa_ok : OneF Go.Proofs.Tryz.prog gw 117 strconv_Itoa_fi := itoa_ok Go.Proofs.Tryz.func117 (by kernel_rfl) (by kernel_rfl) (fun n w hw h0 h1 => Go.Proofs.Tryz.strconv_Itoa n h0 h1 w hw)
theorem i_FormatInt_ok : OneF Go.Proofs.Tryz.prog gw 85 i_FormatInt_fi := fnOk_of (fn := Go.Proofs.Tryz.f85) (c := i_FormatInt_c) Go.Proofs.Tryz.func85 (by kernel_rfl) (by kernel_rfl) rfl rfl (by kernel_rfl) (by kernel_rfl) rfl
theorem i_numbersOf_ok : OneF Go.Proofs.Tryz.prog gw 119 i_numbersOf_fi := fnOk_of (fn := Go.Proofs.Tryz.f119) (c := i_numbersOf_c) Go.Proofs.Tryz.func119 (by kernel_rfl) (by kernel_rfl) rfl rfl (by kernel_rfl) (by kernel_rfl) rfl
theorem strings_Join_ok : OneF Go.Proofs.Tryz.prog gw 147 strings_Join_fi := join_ok Go.Proofs.Tryz.func147 (by kernel_rfl) (by kernel_rfl) (fun a c sep w => Go.Proofs.Tryz.strings_Join_none a c sep w) (fun bk o c xs sep w hc hb hN hcap hl => Go.Proofs.Tryz.strings_Join bk o c xs sep w hc hb hN hcap hl) rfl
theorem i_Join_ok : OneF Go.Proofs.Tryz.prog gw 118 i_Join_fi := fnOk_of (fn := Go.Proofs.Tryz.f118) (c := i_Join_c) Go.Proofs.Tryz.func118 (by kernel_rfl) (by kernel_rfl) rfl rfl (by kernel_rfl) (by kernel_rfl) rfl
theorem i_FormatPicks_ok : OneF Go.Proofs.Tryz.prog gw 86 i_FormatPicks_fi := fnOk_of (fn := Go.Proofs.Tryz.f86) (c := i_FormatPicks_c) Go.Proofs.Tryz.func86 (by kernel_rfl) (by kernel_rfl) rfl rfl (by kernel_rfl) (by kernel_rfl) rfl
theorem i_keyOf_ok : OneF Go.Proofs.Tryz.prog gw 62 i_keyOf_fi := fnOk_of (fn := Go.Proofs.Tryz.f62) (c := i_keyOf_c) Go.Proofs.Tryz.func62 (by kernel_rfl) (by kernel_rfl) rfl rfl (by kernel_rfl) (by kernel_rfl) rfl
theorem i_levels_ok : OneF Go.Proofs.Tryz.prog gw 49 i_levels_fi := fnOk_of (fn := Go.Proofs.Tryz.f49) (c := i_levels_c) Go.Proofs.Tryz.func49 (by kernel_rfl) (by kernel_rfl) rfl rfl (by kernel_rfl) (by kernel_rfl) rfl
theorem i_AllScenes_ok : OneF Go.Proofs.Tryz.prog gw 17 i_AllScenes_fi := fnOk_of (fn := Go.Proofs.Tryz.f17) (c := i_AllScenes_c) Go.Proofs.Tryz.func17 (by kernel_rfl) (by kernel_rfl) rfl rfl (by kernel_rfl) (by kernel_rfl) rfl
theorem w_eqIntS_ok : OneF Go.Proofs.Tryz.prog gw 44 w_eqIntS_fi := fnOk_of (fn := Go.Proofs.Tryz.f44) (c := w_eqIntS_c) Go.Proofs.Tryz.func44 (by kernel_rfl) (by kernel_rfl) rfl rfl (by kernel_rfl) (by kernel_rfl) rfl
theorem w_eqScene_ok : OneF Go.Proofs.Tryz.prog gw 50 w_eqScene_fi := fnOk_of (fn := Go.Proofs.Tryz.f50) (c := w_eqScene_c) Go.Proofs.Tryz.func50 (by kernel_rfl) (by kernel_rfl) rfl rfl (by kernel_rfl) (by kernel_rfl) rfl
theorem w_eqSceneS_ok : OneF Go.Proofs.Tryz.prog gw 18 w_eqSceneS_fi := fnOk_of (fn := Go.Proofs.Tryz.f18) (c := w_eqSceneS_c) Go.Proofs.Tryz.func18 (by kernel_rfl) (by kernel_rfl) rfl rfl (by kernel_rfl) (by kernel_rfl) rfl
theorem w_eqMove_ok : OneF Go.Proofs.Tryz.prog gw 122 w_eqMove_fi := fnOk_of (fn := Go.Proofs.Tryz.f122) (c := w_eqMove_c) Go.Proofs.Tryz.func122 (by kernel_rfl) (by kernel_rfl) rfl rfl (by kernel_rfl) (by kernel_rfl) rfl
theorem w_eqStep_ok : OneF Go.Proofs.Tryz.prog gw 89 w_eqStep_fi := fnOk_of (fn := Go.Proofs.Tryz.f89) (c := w_eqStep_c) Go.Proofs.Tryz.func89 (by kernel_rfl) (by kernel_rfl) rfl rfl (by kernel_rfl) (by kernel_rfl) rfl
theorem w_eqStepS_ok : OneF Go.Proofs.Tryz.prog gw 45 w_eqStepS_fi := fnOk_of (fn := Go.Proofs.Tryz.f45) (c := w_eqStepS_c) Go.Proofs.Tryz.func45 (by kernel_rfl) (by kernel_rfl) rfl rfl (by kernel_rfl) (by kernel_rfl) rfl
theorem w_eqTrick_ok : OneF Go.Proofs.Tryz.prog gw 15 w_eqTrick_fi := fnOk_of (fn := Go.Proofs.Tryz.f15) (c := w_eqTrick_c) Go.Proofs.Tryz.func15 (by kernel_rfl) (by kernel_rfl) rfl rfl (by kernel_rfl) (by kernel_rfl) rfl
theorem w_markIntS_ok : OneF Go.Proofs.Tryz.prog gw 51 w_markIntS_fi := fnOk_of (fn := Go.Proofs.Tryz.f51) (c := w_markIntS_c) Go.Proofs.Tryz.func51 (by kernel_rfl) (by kernel_rfl) rfl rfl (by kernel_rfl) (by kernel_rfl) rfl
theorem w_markStepS_ok : OneF Go.Proofs.Tryz.prog gw 52 w_markStepS_fi := fnOk_of (fn := Go.Proofs.Tryz.f52) (c := w_markStepS_c) Go.Proofs.Tryz.func52 (by kernel_rfl) (by kernel_rfl) rfl rfl (by kernel_rfl) (by kernel_rfl) rfl
theorem w_markTrick_ok : OneF Go.Proofs.Tryz.prog gw 19 w_markTrick_fi := fnOk_of (fn := Go.Proofs.Tryz.f19) (c := w_markTrick_c) Go.Proofs.Tryz.func19 (by kernel_rfl) (by kernel_rfl) rfl rfl (by kernel_rfl) (by kernel_rfl) rfl
theorem w_markSceneS_ok : OneF Go.Proofs.Tryz.prog gw 20 w_markSceneS_fi := fnOk_of (fn := Go.Proofs.Tryz.f20) (c := w_markSceneS_c) Go.Proofs.Tryz.func20 (by kernel_rfl) (by kernel_rfl) rfl rfl (by kernel_rfl) (by kernel_rfl) rfl
theorem w_heldIntS_ok : OneF Go.Proofs.Tryz.prog gw 53 w_heldIntS_fi := fnOk_of (fn := Go.Proofs.Tryz.f53) (c := w_heldIntS_c) Go.Proofs.Tryz.func53 (by kernel_rfl) (by kernel_rfl) rfl rfl (by kernel_rfl) (by kernel_rfl) rfl
theorem w_heldSceneS_ok : OneF Go.Proofs.Tryz.prog gw 21 w_heldSceneS_fi := fnOk_of (fn := Go.Proofs.Tryz.f21) (c := w_heldSceneS_c) Go.Proofs.Tryz.func21 (by kernel_rfl) (by kernel_rfl) rfl rfl (by kernel_rfl) (by kernel_rfl) rfl
theorem w_FnExactAllScenes_ok : OneF Go.Proofs.Tryz.prog gw 4 w_FnExactAllScenes_fi := fnOk_of (fn := Go.Proofs.Tryz.f4) (c := w_FnExactAllScenes_c) Go.Proofs.Tryz.func4 (by kernel_rfl) (by kernel_rfl) rfl rfl (by kernel_rfl) (by kernel_rfl) rfl
theorem hF : FnOk Go.Proofs.Tryz.prog gw E := lookF_ok (l := fnL) ⟨w_szIntS_ok, w_szStepS_ok, w_szTrick_ok, w_toIntS_ok, w_toMove_ok, w_toStep_ok, w_toStepS_ok, w_toTrick_ok, s_l01In_ok, s_CardOf_ok, s_l02Has_ok, s_PacketOk_ok, s_MoveOk_ok, s_l16Choice_ok, s_StepOk_ok, s_PositionOf_ok, s_l16Claim_ok, s_TrickOk_ok, s_TurnCard_ok, s_l04Back_ok, s_l04Faro_ok, s_l04Monge_ok, s_l04Milk_ok, s_l04Duck_ok, s_l04Do_ok, s_l05Cuts_ok, s_l05Weave_ok, s_l05Of_ok, s_SamePacket_ok, s_l05Less_ok, s_l05Merge_ok, s_SortPackets_ok, s_l16Next_ok, s_SameScene_ok, s_l17Find_ok, s_l17Ends_ok, s_AllScenes_ok, i_CardOf_ok, i_PacketOk_ok, i_MoveOk_ok, i_StepOk_ok, i_PositionOf_1_ok, slices_IndexFunc_int_of_i_PositionOf_1_ok, i_PositionOf_ok, i_TrickOk_ok, slices_Clone_int_ok, i_StartScene_ok, slices_Grow_int_ok, slices_Concat_int_ok, slices_Reverse_int_ok, i_reversed_ok, i_faro_ok, i_monge_ok, i_milk_ok, i_dealt_ok, i_TurnCard_ok, i_moved_ok, i_cuts_ok, i_riffled_ok, i_all_ok, slices_SortFunc_int_int_ok, slices_CompactFunc_int_int_ok, i_SortPackets_ok, i_ResultsOf_ok, i_NextScenes_ok, strconv_Itoa_ok, i_FormatInt_ok, i_numbersOf_ok, strings_Join_ok, i_Join_ok, i_FormatPicks_ok, i_keyOf_ok, i_levels_ok, i_AllScenes_ok, w_eqIntS_ok, w_eqScene_ok, w_eqSceneS_ok, w_eqMove_ok, w_eqStep_ok, w_eqStepS_ok, w_eqTrick_ok, w_markIntS_ok, w_markStepS_ok, w_markTrick_ok, w_markSceneS_ok, w_heldIntS_ok, w_heldSceneS_ok, w_FnExactAllScenes_ok, trivial⟩
end Pt
