/-
  The plain machine's telling of functions of the program. Printed by gen.py.
  Conditions: none; these are definitions and equations that the kernel checks.
-/
import Derived.Test.YtbdaipnoibgcgaaDoorXvza
import Derived.Test.YtbdaipnoibgcgaaDoorXvzl
import Derived.Test.YtbdaipnoibgcgaaDoorProg
import Derived.Test.YtbdaipnoibgcgaaDoorShelf
namespace Pt
open Go Go.Vt
set_option linter.unusedVariables false
set_option maxRecDepth 100000

noncomputable def tyL : List (Nat × TI) := [(3, .one (.int .i64)),
  (4, .one (.bool)),
  (5, .one (.int .u8)),
  (22, .one (.slice (.int .u8))),
  (23, .one (.slice (.int .i64))),
  (26, .struct [(0, 23), (1, 3)] [.slice (.int .i64), .int .i64] false),
  (35, .one (.slice (.str))),
  (39, .one (.slice (.slice (.int .i64)))),
  (46, .arr 12 (.bool)),
  (48, .one (.slice (.bool))),
  (50, .struct [(0, 22), (1, 3), (2, 3)] [.slice (.int .u8), .int .i64, .int .i64] false)]

/-! ### s_l01New -/
noncomputable def s_l01New_c : Code := (Go.Proofs.Tryd.f24.body).getD .skip
noncomputable def s_l01New_h : Nat → Option (List Hint)
  | 3 => some [.keep 0, .keep 3, .keep 4]
  | _ => none
noncomputable def s_l01New_fi : Fi := ⟨[.v (.slice (.int .u8)) false], [(false, [⟨.pair (.slice (.int .u8)) (.pair (.int .i64) (.int .i64)), some (false, false)⟩])], none, s_l01New_c, Go.Proofs.Tryd.f24.results.toList, 32, s_l01New_h⟩
/-! ### s_l01Byte -/
noncomputable def s_l01Byte_c : Code := (Go.Proofs.Tryd.f25.body).getD .skip
noncomputable def s_l01Byte_h : Nat → Option (List Hint)
  | _ => none
noncomputable def s_l01Byte_fi : Fi := ⟨[.p (.slice (.int .u8)) (.pair (.int .i64) (.int .i64))], [(false, [⟨.int .i64, none⟩])], none, s_l01Byte_c, Go.Proofs.Tryd.f25.results.toList, 58, s_l01Byte_h⟩
/-! ### s_l23New -/
noncomputable def s_l23New_c : Code := (Go.Proofs.Tryd.f12.body).getD .skip
noncomputable def s_l23New_h : Nat → Option (List Hint)
  | 3 => some [.keep 1, .box 5 200005 [.keep, .keep, .keep], .keep 6]
  | _ => none
noncomputable def s_l23New_fi : Fi := ⟨[.v (.slice (.int .u8)) false, .v (.int .i64) false], [(false, [⟨.pair (.slice (.int .u8)) (.pair (.int .i64) (.int .i64)), some (false, false)⟩])], none, s_l23New_c, Go.Proofs.Tryd.f12.results.toList, 17, s_l23New_h⟩
/-! ### s_l01Below -/
noncomputable def s_l01Below_c : Code := (Go.Proofs.Tryd.f22.body).getD .skip
noncomputable def s_l01Below_h : Nat → Option (List Hint)
  | _ => none
noncomputable def s_l01Below_fi : Fi := ⟨[.p (.slice (.int .u8)) (.pair (.int .i64) (.int .i64)), .v (.int .i64) false], [(false, [⟨.int .i64, none⟩])], none, s_l01Below_c, Go.Proofs.Tryd.f22.results.toList, 37, s_l01Below_h⟩
/-! ### s_l02Shuffle -/
noncomputable def s_l02Shuffle_c : Code := (Go.Proofs.Tryd.f13.body).getD .skip
noncomputable def s_l02Shuffle_h : Nat → Option (List Hint)
  | 3 => some [.box 0 500000 [.keep, .keep, .keep], .keep 1, .cell 5 (.row 100005 (.int .i64) true false), .keep 6]
  | _ => none
noncomputable def s_l02Shuffle_fi : Fi := ⟨[.p (.slice (.int .u8)) (.pair (.int .i64) (.int .i64)), .v (.int .i64) false], [(false, [⟨.slice (.int .i64), some (true, false)⟩])], none, s_l02Shuffle_c, Go.Proofs.Tryd.f13.results.toList, 34, s_l02Shuffle_h⟩
/-! ### s_l01Once -/
noncomputable def s_l01Once_c : Code := (Go.Proofs.Tryd.f23.body).getD .skip
noncomputable def s_l01Once_h : Nat → Option (List Hint)
  | _ => none
noncomputable def s_l01Once_fi : Fi := ⟨[.p (.slice (.int .u8)) (.pair (.int .i64) (.int .i64)), .v (.int .i64) false], [(false, [⟨.bool, none⟩])], none, s_l01Once_c, Go.Proofs.Tryd.f23.results.toList, 9, s_l01Once_h⟩
/-! ### s_l02Draw -/
noncomputable def s_l02Draw_c : Code := (Go.Proofs.Tryd.f11.body).getD .skip
noncomputable def s_l02Draw_h : Nat → Option (List Hint)
  | 4 => some [.box 0 500000 [.keep, .keep, .keep], .cell 5 (.row 100005 (.int .i64) true false), .keep 16, .keep 17]
  | _ => none
noncomputable def s_l02Draw_fi : Fi := ⟨[.p (.slice (.int .u8)) (.pair (.int .i64) (.int .i64)), .v (.int .i64) false], [(false, [⟨.slice (.int .i64), some (true, false)⟩])], none, s_l02Draw_c, Go.Proofs.Tryd.f11.results.toList, 32, s_l02Draw_h⟩
/-! ### s_MakePacket -/
noncomputable def s_MakePacket_c : Code := (Go.Proofs.Tryd.f4.body).getD .skip
noncomputable def s_MakePacket_h : Nat → Option (List Hint)
  | _ => none
noncomputable def s_MakePacket_fi : Fi := ⟨[.v (.slice (.int .u8)) false, .v (.int .i64) false, .v (.int .i64) false], [(false, [⟨.slice (.int .i64), some (true, false)⟩])], none, s_MakePacket_c, Go.Proofs.Tryd.f4.results.toList, 14, s_MakePacket_h⟩
/-! ### s_MakePerm -/
noncomputable def s_MakePerm_c : Code := (Go.Proofs.Tryd.f5.body).getD .skip
noncomputable def s_MakePerm_h : Nat → Option (List Hint)
  | _ => none
noncomputable def s_MakePerm_fi : Fi := ⟨[.v (.slice (.int .u8)) false, .v (.int .i64) false, .v (.int .i64) false], [(false, [⟨.slice (.int .i64), some (true, false)⟩])], none, s_MakePerm_c, Go.Proofs.Tryd.f5.results.toList, 14, s_MakePerm_h⟩
/-! ### i_CardOf -/
noncomputable def i_CardOf_c : Code := (Go.Proofs.Tryd.f16.body).getD .skip
noncomputable def i_CardOf_h : Nat → Option (List Hint)
  | _ => none
noncomputable def i_CardOf_fi : Fi := ⟨[.v (.int .i64) false], [(false, [⟨.int .i64, none⟩])], none, i_CardOf_c, Go.Proofs.Tryd.f16.results.toList, 10, i_CardOf_h⟩
/-! ### i_PacketOk -/
noncomputable def i_PacketOk_c : Code := (Go.Proofs.Tryd.f15.body).getD .skip
noncomputable def i_PacketOk_h : Nat → Option (List Hint)
  | 3 => some [.arr 3 400003, .keep 7, .keep 8, .keep 9]
  | _ => none
noncomputable def i_PacketOk_fi : Fi := ⟨[.v (.slice (.int .i64)) false], [(false, [⟨.bool, none⟩])], none, i_PacketOk_c, Go.Proofs.Tryd.f15.results.toList, 25, i_PacketOk_h⟩
/-! ### strconv_Itoa -/
noncomputable abbrev strconv_Itoa_fi : Fi := itoaFi
/-! ### i_FormatInt -/
noncomputable def i_FormatInt_c : Code := (Go.Proofs.Tryd.f14.body).getD .skip
noncomputable def i_FormatInt_h : Nat → Option (List Hint)
  | _ => none
noncomputable def i_FormatInt_fi : Fi := ⟨[.v (.int .i64) false], [(false, [⟨.str, none⟩])], none, i_FormatInt_c, Go.Proofs.Tryd.f14.results.toList, 5, i_FormatInt_h⟩
/-! ### i_IsUp -/
noncomputable def i_IsUp_c : Code := (Go.Proofs.Tryd.f17.body).getD .skip
noncomputable def i_IsUp_h : Nat → Option (List Hint)
  | _ => none
noncomputable def i_IsUp_fi : Fi := ⟨[.v (.int .i64) false], [(false, [⟨.bool, none⟩])], none, i_IsUp_c, Go.Proofs.Tryd.f17.results.toList, 10, i_IsUp_h⟩
/-! ### strings_Join -/
noncomputable abbrev strings_Join_fi : Fi := joinFi
/-! ### i_Join -/
noncomputable def i_Join_c : Code := (Go.Proofs.Tryd.f18.body).getD .skip
noncomputable def i_Join_h : Nat → Option (List Hint)
  | _ => none
noncomputable def i_Join_fi : Fi := ⟨[.v (.slice (.str)) false, .v (.str) false], [(false, [⟨.str, none⟩])], none, i_Join_c, Go.Proofs.Tryd.f18.results.toList, 8, i_Join_h⟩
/-! ### i_FormatPacket -/
noncomputable def i_FormatPacket_c : Code := (Go.Proofs.Tryd.f7.body).getD .skip
noncomputable def i_FormatPacket_h : Nat → Option (List Hint)
  | 7 => some [.cell 3 (.row 100003 (.str) true true), .keep 13, .keep 14, .keep 15]
  | _ => none
noncomputable def i_FormatPacket_fi : Fi := ⟨[.v (.slice (.int .i64)) false], [(false, [⟨.str, none⟩])], none, i_FormatPacket_c, Go.Proofs.Tryd.f7.results.toList, 33, i_FormatPacket_h⟩
/-! ### i_SceneLine -/
noncomputable def i_SceneLine_c : Code := (Go.Proofs.Tryd.f6.body).getD .skip
noncomputable def i_SceneLine_h : Nat → Option (List Hint)
  | _ => none
noncomputable def i_SceneLine_fi : Fi := ⟨[.v (.pair (.slice (.int .i64)) (.int .i64)) true], [(false, [⟨.str, none⟩])], none, i_SceneLine_c, Go.Proofs.Tryd.f6.results.toList, 26, i_SceneLine_h⟩
/-! ### slices_Index_int -/
noncomputable def slices_Index_int_c : Code := (Go.Proofs.Tryd.f33.body).getD .skip
noncomputable def slices_Index_int_h : Nat → Option (List Hint)
  | 2 => some [.keep 0, .keep 1, .keep 7, .keep 8]
  | _ => none
noncomputable def slices_Index_int_fi : Fi := ⟨[.v (.slice (.int .i64)) false, .v (.int .i64) false], [(false, [⟨.int .i64, none⟩])], none, slices_Index_int_c, Go.Proofs.Tryd.f33.results.toList, 19, slices_Index_int_h⟩
/-! ### slices_Contains_int -/
noncomputable def slices_Contains_int_c : Code := (Go.Proofs.Tryd.f28.body).getD .skip
noncomputable def slices_Contains_int_h : Nat → Option (List Hint)
  | _ => none
noncomputable def slices_Contains_int_fi : Fi := ⟨[.v (.slice (.int .i64)) false, .v (.int .i64) false], [(false, [⟨.bool, none⟩])], none, slices_Contains_int_c, Go.Proofs.Tryd.f28.results.toList, 9, slices_Contains_int_h⟩
/-! ### i_PermOk -/
noncomputable def i_PermOk_c : Code := (Go.Proofs.Tryd.f19.body).getD .skip
noncomputable def i_PermOk_h : Nat → Option (List Hint)
  | 2 => some [.keep 0, .keep 5, .keep 6, .keep 7]
  | _ => none
noncomputable def i_PermOk_fi : Fi := ⟨[.v (.slice (.int .i64)) false], [(false, [⟨.bool, none⟩])], none, i_PermOk_c, Go.Proofs.Tryd.f19.results.toList, 31, i_PermOk_h⟩
/-! ### i_CyclesOf -/
noncomputable def i_CyclesOf_c : Code := (Go.Proofs.Tryd.f20.body).getD .skip
noncomputable def i_CyclesOf_h : Nat → Option (List Hint)
  | 6 => some [.keep 0, .cell 3 (.row 100003 (.slice (.int .i64)) true true), .cell 4 (.row 100004 (.bool) true false), .keep 15, .keep 16]
  | 10 => some [.keep 0, .cell 3 (.row 100003 (.slice (.int .i64)) true true), .cell 4 (.row 100004 (.bool) true false), .cell 6 (.row 100006 (.int .i64) true true), .keep 7, .keep 15, .keep 16]
  | _ => none
noncomputable def i_CyclesOf_fi : Fi := ⟨[.v (.slice (.int .i64)) false], [(false, [⟨.slice (.slice (.int .i64)), some (true, true)⟩])], none, i_CyclesOf_c, Go.Proofs.Tryd.f20.results.toList, 44, i_CyclesOf_h⟩
/-! ### i_numbersOf -/
noncomputable def i_numbersOf_c : Code := (Go.Proofs.Tryd.f21.body).getD .skip
noncomputable def i_numbersOf_h : Nat → Option (List Hint)
  | 3 => some [.cell 3 (.row 100003 (.str) true true), .keep 6, .keep 7, .keep 8]
  | _ => none
noncomputable def i_numbersOf_fi : Fi := ⟨[.v (.slice (.int .i64)) false], [(false, [⟨.slice (.str), some (true, true)⟩])], none, i_numbersOf_c, Go.Proofs.Tryd.f21.results.toList, 19, i_numbersOf_h⟩
/-! ### i_CyclesLine -/
noncomputable def i_CyclesLine_c : Code := (Go.Proofs.Tryd.f8.body).getD .skip
noncomputable def i_CyclesLine_h : Nat → Option (List Hint)
  | 7 => some [.keep 3, .cell 13 (.row 100013 (.slice (.int .i64)) false true), .keep 14, .keep 15]
  | _ => none
noncomputable def i_CyclesLine_fi : Fi := ⟨[.v (.slice (.int .i64)) false], [(false, [⟨.str, none⟩])], none, i_CyclesLine_c, Go.Proofs.Tryd.f8.results.toList, 28, i_CyclesLine_h⟩
/-! ### i_ShuffleLine -/
noncomputable def i_ShuffleLine_c : Code := (Go.Proofs.Tryd.f9.body).getD .skip
noncomputable def i_ShuffleLine_h : Nat → Option (List Hint)
  | 3 => some [.keep 3, .keep 6, .keep 7, .keep 8]
  | _ => none
noncomputable def i_ShuffleLine_fi : Fi := ⟨[.v (.slice (.int .i64)) false], [(false, [⟨.str, none⟩])], none, i_ShuffleLine_c, Go.Proofs.Tryd.f9.results.toList, 22, i_ShuffleLine_h⟩
/-! ### i_FormatPicks -/
noncomputable def i_FormatPicks_c : Code := (Go.Proofs.Tryd.f10.body).getD .skip
noncomputable def i_FormatPicks_h : Nat → Option (List Hint)
  | _ => none
noncomputable def i_FormatPicks_fi : Fi := ⟨[.v (.slice (.int .i64)) false], [(false, [⟨.str, none⟩])], none, i_FormatPicks_c, Go.Proofs.Tryd.f10.results.toList, 9, i_FormatPicks_h⟩
/-! ### w_FnReports -/
noncomputable def w_FnReports_c : Code := (Go.Proofs.Tryd.f3.body).getD .skip
noncomputable def w_FnReports_h : Nat → Option (List Hint)
  | _ => none
noncomputable def w_FnReports_fi : Fi := ⟨[.v (.slice (.int .u8)) false], [(false, [⟨.bool, none⟩])], none, w_FnReports_c, Go.Proofs.Tryd.f3.results.toList, 53, w_FnReports_h⟩

noncomputable def fnL : List (Nat × List Nat × Fi) := [(24, [], s_l01New_fi),
  (25, [], s_l01Byte_fi),
  (12, [], s_l23New_fi),
  (22, [], s_l01Below_fi),
  (13, [], s_l02Shuffle_fi),
  (23, [], s_l01Once_fi),
  (11, [], s_l02Draw_fi),
  (4, [], s_MakePacket_fi),
  (5, [], s_MakePerm_fi),
  (16, [], i_CardOf_fi),
  (15, [], i_PacketOk_fi),
  (26, [], strconv_Itoa_fi),
  (14, [], i_FormatInt_fi),
  (17, [], i_IsUp_fi),
  (27, [], strings_Join_fi),
  (18, [], i_Join_fi),
  (7, [], i_FormatPacket_fi),
  (6, [], i_SceneLine_fi),
  (33, [], slices_Index_int_fi),
  (28, [], slices_Contains_int_fi),
  (19, [], i_PermOk_fi),
  (20, [], i_CyclesOf_fi),
  (21, [], i_numbersOf_fi),
  (8, [], i_CyclesLine_fi),
  (9, [], i_ShuffleLine_fi),
  (10, [], i_FormatPicks_fi),
  (3, [], w_FnReports_fi)]
noncomputable def E : Env := ⟨lookT tyL, lookF fnL⟩

noncomputable def s_l01New (k : Nat) (x : List Int) : Option ((List Int) × Int × Int) := aFn E s_l01New_fi k x
noncomputable def s_l01New_l3 (k : Nat) (v0 : List Int) (v3 : Int) (v4 : Int) : Option ((List Int) × Int × Int) := aRun E k s_l01New_fi.rs (ioOf s_l01New_fi.ps) s_l01New_fi.res s_l01New_fi.hints [.code (sub s_l01New_c [1, 1, 0, 1, 0, 0, 0, 0]), .code (sub s_l01New_c [1, 1, 0, 1, 0, 0, 0, 1]), .code (sub s_l01New_c [1, 1, 0, 1, 0, 0, 1]), .inLoop (sub s_l01New_c [1, 1, 0, 1, 0, 0]), .inBlock 0, .code (sub s_l01New_c [1, 1, 1])] ⟨[.cv (.val (.slice (.int .u8)) v0), .cv .dead, .cv .dead, .cv (.val (.int .i64) v3), .cv (.val (.int .i64) v4), .cv .dead, .cv .dead, .cv .dead, .cv .dead, .cv .dead, .cv .dead, .cv .dead, .cv .dead, .cv .dead, .cv .dead, .cv .dead, .cv .dead, .cv .dead, .cv .dead, .cv .dead, .cv .dead, .cv .dead, .cv .dead, .cv .dead, .cv .dead, .cv .dead, .cv .dead, .cv .dead, .cv .dead, .cv .dead, .cv .dead, .cv .dead], [], true⟩
noncomputable def s_l01Byte (k : Nat) (x : (List Int) × Int × Int) : Option ((Int) × (List Int) × Int × Int) := aFn E s_l01Byte_fi k x
noncomputable def s_l23New (k : Nat) (x : (List Int) × Int) : Option ((List Int) × Int × Int) := aFn E s_l23New_fi k x
noncomputable def s_l23New_l3 (k : Nat) (v1 : Int) (v6 : Int) (o200005_0 : List Int) (o200005_1 : Int) (o200005_2 : Int) : Option ((List Int) × Int × Int) := aRun E k s_l23New_fi.rs (ioOf s_l23New_fi.ps) s_l23New_fi.res s_l23New_fi.hints [.code (sub s_l23New_c [1, 1, 0, 1, 0, 0, 0, 0]), .code (sub s_l23New_c [1, 1, 0, 1, 0, 0, 0, 1]), .code (sub s_l23New_c [1, 1, 0, 1, 0, 0, 1]), .inLoop (sub s_l23New_c [1, 1, 0, 1, 0, 0]), .inBlock 0, .code (sub s_l23New_c [1, 1, 1])] ⟨[.cv .dead, .cv (.val (.int .i64) v1), .cv .dead, .cv .dead, .cv .dead, .adr 200005 0, .cv (.val (.int .i64) v6), .cv .dead, .cv .dead, .cv .dead, .cv .dead, .cv .dead, .cv .dead, .cv .dead, .cv .dead, .cv .dead, .cv .dead], [(200005, .box [.val (.slice (.int .u8)) o200005_0, .val (.int .i64) o200005_1, .val (.int .i64) o200005_2])], true⟩
noncomputable def s_l01Below (k : Nat) (x : ((List Int) × Int × Int) × Int) : Option ((Int) × (List Int) × Int × Int) := aFn E s_l01Below_fi k x
noncomputable def s_l02Shuffle (k : Nat) (x : ((List Int) × Int × Int) × Int) : Option ((List Int) × (List Int) × Int × Int) := aFn E s_l02Shuffle_fi k x
noncomputable def s_l02Shuffle_l3 (k : Nat) (v1 : Int) (v6 : Int) (o100005 : List Int) (o500000_0 : List Int) (o500000_1 : Int) (o500000_2 : Int) : Option ((List Int) × (List Int) × Int × Int) := aRun E k s_l02Shuffle_fi.rs (ioOf s_l02Shuffle_fi.ps) s_l02Shuffle_fi.res s_l02Shuffle_fi.hints [.code (sub s_l02Shuffle_c [1, 1, 0, 1, 0, 0, 0, 0]), .code (sub s_l02Shuffle_c [1, 1, 0, 1, 0, 0, 0, 1]), .code (sub s_l02Shuffle_c [1, 1, 0, 1, 0, 0, 1]), .inLoop (sub s_l02Shuffle_c [1, 1, 0, 1, 0, 0]), .inBlock 0, .code (sub s_l02Shuffle_c [1, 1, 1])] ⟨[.adr 500000 0, .cv (.val (.int .i64) v1), .cv .dead, .cv .dead, .cv .dead, .cv (.own 100005), .cv (.val (.int .i64) v6), .cv .dead, .cv .dead, .cv .dead, .cv .dead, .cv .dead, .cv .dead, .cv .dead, .cv .dead, .cv .dead, .cv .dead, .cv .dead, .cv .dead, .cv .dead, .cv .dead, .cv .dead, .cv .dead, .cv .dead, .cv .dead, .cv .dead, .cv .dead, .cv .dead, .cv .dead, .cv .dead, .cv .dead, .cv .dead, .cv .dead, .cv .dead], [(100005, .row (.int .i64) o100005 true false), (500000, .box [.val (.slice (.int .u8)) o500000_0, .val (.int .i64) o500000_1, .val (.int .i64) o500000_2])], true⟩
noncomputable def s_l01Once (k : Nat) (x : ((List Int) × Int × Int) × Int) : Option ((Bool) × (List Int) × Int × Int) := aFn E s_l01Once_fi k x
noncomputable def s_l02Draw (k : Nat) (x : ((List Int) × Int × Int) × Int) : Option ((List Int) × (List Int) × Int × Int) := aFn E s_l02Draw_fi k x
noncomputable def s_l02Draw_l4 (k : Nat) (v16 : Int) (v17 : Int) (o100005 : List Int) (o500000_0 : List Int) (o500000_1 : Int) (o500000_2 : Int) : Option ((List Int) × (List Int) × Int × Int) := aRun E k s_l02Draw_fi.rs (ioOf s_l02Draw_fi.ps) s_l02Draw_fi.res s_l02Draw_fi.hints [.code (sub s_l02Draw_c [1, 1, 0, 1, 0, 1, 0, 0, 0]), .code (sub s_l02Draw_c [1, 1, 0, 1, 0, 1, 0, 0, 1]), .inLoop (sub s_l02Draw_c [1, 1, 0, 1, 0, 1, 0, 0]), .inBlock 0, .code (sub s_l02Draw_c [1, 1, 1])] ⟨[.adr 500000 0, .cv .dead, .cv .dead, .cv .dead, .cv .dead, .cv (.own 100005), .cv .dead, .cv .dead, .cv .dead, .cv .dead, .cv .dead, .cv .dead, .cv .dead, .cv .dead, .cv .dead, .cv .dead, .cv (.val (.int .i64) v16), .cv (.val (.int .i64) v17), .cv .dead, .cv .dead, .cv .dead, .cv .dead, .cv .dead, .cv .dead, .cv .dead, .cv .dead, .cv .dead, .cv .dead, .cv .dead, .cv .dead, .cv .dead, .cv .dead], [(100005, .row (.int .i64) o100005 true false), (500000, .box [.val (.slice (.int .u8)) o500000_0, .val (.int .i64) o500000_1, .val (.int .i64) o500000_2])], true⟩
noncomputable def s_MakePacket (k : Nat) (x : (List Int) × Int × Int) : Option (List Int) := aFn E s_MakePacket_fi k x
noncomputable def s_MakePerm (k : Nat) (x : (List Int) × Int × Int) : Option (List Int) := aFn E s_MakePerm_fi k x
noncomputable def i_CardOf (k : Nat) (x : Int) : Option (Int) := aFn E i_CardOf_fi k x
noncomputable def i_PacketOk (k : Nat) (x : List Int) : Option (Bool) := aFn E i_PacketOk_fi k x
noncomputable def i_PacketOk_l3 (k : Nat) (v7 : List Int) (v8 : Int) (v9 : Int) (o400003 : List Bool) : Option (Bool) := aRun E k i_PacketOk_fi.rs (ioOf i_PacketOk_fi.ps) i_PacketOk_fi.res i_PacketOk_fi.hints [.code (sub i_PacketOk_c [1, 1, 0, 1, 0, 0, 0]), .code (sub i_PacketOk_c [1, 1, 0, 1, 0, 0, 1]), .inLoop (sub i_PacketOk_c [1, 1, 0, 1, 0, 0]), .inBlock 0, .code (sub i_PacketOk_c [1, 1, 1])] ⟨[.cv .dead, .cv .dead, .cv .dead, .adr 400003 0, .cv .dead, .cv .dead, .cv .dead, .cv (.val (.slice (.int .i64)) v7), .cv (.val (.int .i64) v8), .cv (.val (.int .i64) v9), .cv .dead, .cv .dead, .cv .dead, .cv .dead, .cv .dead, .cv .dead, .cv .dead, .cv .dead, .cv .dead, .cv .dead, .cv .dead, .cv .dead, .cv .dead, .cv .dead, .cv .dead], [(400003, .arr (.bool) o400003)], true⟩
noncomputable def strconv_Itoa (k : Nat) (x : Int) : Option (ByteArray) := aFn E strconv_Itoa_fi k x
noncomputable def i_FormatInt (k : Nat) (x : Int) : Option (ByteArray) := aFn E i_FormatInt_fi k x
noncomputable def i_IsUp (k : Nat) (x : Int) : Option (Bool) := aFn E i_IsUp_fi k x
noncomputable def strings_Join (k : Nat) (x : (List ByteArray) × ByteArray) : Option (ByteArray) := aFn E strings_Join_fi k x
noncomputable def i_Join (k : Nat) (x : (List ByteArray) × ByteArray) : Option (ByteArray) := aFn E i_Join_fi k x
noncomputable def i_FormatPacket (k : Nat) (x : List Int) : Option (ByteArray) := aFn E i_FormatPacket_fi k x
noncomputable def i_FormatPacket_l7 (k : Nat) (v13 : List Int) (v14 : Int) (v15 : Int) (o100003 : List ByteArray) : Option (ByteArray) := aRun E k i_FormatPacket_fi.rs (ioOf i_FormatPacket_fi.ps) i_FormatPacket_fi.res i_FormatPacket_fi.hints [.code (sub i_FormatPacket_c [1, 1, 1, 1, 0, 1, 0, 0, 0]), .code (sub i_FormatPacket_c [1, 1, 1, 1, 0, 1, 0, 0, 1]), .inLoop (sub i_FormatPacket_c [1, 1, 1, 1, 0, 1, 0, 0]), .inBlock 0, .code (sub i_FormatPacket_c [1, 1, 1, 1, 1])] ⟨[.cv .dead, .cv .dead, .cv .dead, .cv (.own 100003), .cv .dead, .cv .dead, .cv .dead, .cv .dead, .cv .dead, .cv .dead, .cv .dead, .cv .dead, .cv .dead, .cv (.val (.slice (.int .i64)) v13), .cv (.val (.int .i64) v14), .cv (.val (.int .i64) v15), .cv .dead, .cv .dead, .cv .dead, .cv .dead, .cv .dead, .cv .dead, .cv .dead, .cv .dead, .cv .dead, .cv .dead, .cv .dead, .cv .dead, .cv .dead, .cv .dead, .cv .dead, .cv .dead, .cv .dead], [(100003, .row (.str) o100003 true true)], true⟩
noncomputable def i_SceneLine (k : Nat) (x : (List Int) × Int) : Option (ByteArray) := aFn E i_SceneLine_fi k x
noncomputable def slices_Index_int (k : Nat) (x : (List Int) × Int) : Option (Int) := aFn E slices_Index_int_fi k x
noncomputable def slices_Index_int_l2 (k : Nat) (v0 : List Int) (v1 : Int) (v7 : Int) (v8 : Int) : Option (Int) := aRun E k slices_Index_int_fi.rs (ioOf slices_Index_int_fi.ps) slices_Index_int_fi.res slices_Index_int_fi.hints [.code (sub slices_Index_int_c [1, 0, 1, 0, 0, 0]), .code (sub slices_Index_int_c [1, 0, 1, 0, 0, 1]), .inLoop (sub slices_Index_int_c [1, 0, 1, 0, 0]), .inBlock 0, .code (sub slices_Index_int_c [1, 1])] ⟨[.cv (.val (.slice (.int .i64)) v0), .cv (.val (.int .i64) v1), .cv .dead, .cv .dead, .cv .dead, .cv .dead, .cv .dead, .cv (.val (.int .i64) v7), .cv (.val (.int .i64) v8), .cv .dead, .cv .dead, .cv .dead, .cv .dead, .cv .dead, .cv .dead, .cv .dead, .cv .dead, .cv .dead, .cv .dead], [], true⟩
noncomputable def slices_Contains_int (k : Nat) (x : (List Int) × Int) : Option (Bool) := aFn E slices_Contains_int_fi k x
noncomputable def i_PermOk (k : Nat) (x : List Int) : Option (Bool) := aFn E i_PermOk_fi k x
noncomputable def i_PermOk_l2 (k : Nat) (v0 : List Int) (v5 : List Int) (v6 : Int) (v7 : Int) : Option (Bool) := aRun E k i_PermOk_fi.rs (ioOf i_PermOk_fi.ps) i_PermOk_fi.res i_PermOk_fi.hints [.code (sub i_PermOk_c [1, 0, 1, 0, 0, 0]), .code (sub i_PermOk_c [1, 0, 1, 0, 0, 1]), .inLoop (sub i_PermOk_c [1, 0, 1, 0, 0]), .inBlock 0, .code (sub i_PermOk_c [1, 1])] ⟨[.cv (.val (.slice (.int .i64)) v0), .cv .dead, .cv .dead, .cv .dead, .cv .dead, .cv (.val (.slice (.int .i64)) v5), .cv (.val (.int .i64) v6), .cv (.val (.int .i64) v7), .cv .dead, .cv .dead, .cv .dead, .cv .dead, .cv .dead, .cv .dead, .cv .dead, .cv .dead, .cv .dead, .cv .dead, .cv .dead, .cv .dead, .cv .dead, .cv .dead, .cv .dead, .cv .dead, .cv .dead, .cv .dead, .cv .dead, .cv .dead, .cv .dead, .cv .dead, .cv .dead], [], true⟩
noncomputable def i_CyclesOf (k : Nat) (x : List Int) : Option (List (List Int)) := aFn E i_CyclesOf_fi k x
noncomputable def i_CyclesOf_l6 (k : Nat) (v0 : List Int) (v15 : Int) (v16 : Int) (o100003 : List (List Int)) (o100004 : List Bool) : Option (List (List Int)) := aRun E k i_CyclesOf_fi.rs (ioOf i_CyclesOf_fi.ps) i_CyclesOf_fi.res i_CyclesOf_fi.hints [.code (sub i_CyclesOf_c [1, 1, 1, 1, 0, 1, 0, 0, 0]), .code (sub i_CyclesOf_c [1, 1, 1, 1, 0, 1, 0, 0, 1]), .inLoop (sub i_CyclesOf_c [1, 1, 1, 1, 0, 1, 0, 0]), .inBlock 0, .code (sub i_CyclesOf_c [1, 1, 1, 1, 1])] ⟨[.cv (.val (.slice (.int .i64)) v0), .cv .dead, .cv .dead, .cv (.own 100003), .cv (.own 100004), .cv .dead, .cv .dead, .cv .dead, .cv .dead, .cv .dead, .cv .dead, .cv .dead, .cv .dead, .cv .dead, .cv .dead, .cv (.val (.int .i64) v15), .cv (.val (.int .i64) v16), .cv .dead, .cv .dead, .cv .dead, .cv .dead, .cv .dead, .cv .dead, .cv .dead, .cv .dead, .cv .dead, .cv .dead, .cv .dead, .cv .dead, .cv .dead, .cv .dead, .cv .dead, .cv .dead, .cv .dead, .cv .dead, .cv .dead, .cv .dead, .cv .dead, .cv .dead, .cv .dead, .cv .dead, .cv .dead, .cv .dead, .cv .dead], [(100003, .row (.slice (.int .i64)) o100003 true true), (100004, .row (.bool) o100004 true false)], true⟩
noncomputable def i_CyclesOf_l10 (k : Nat) (v0 : List Int) (v7 : Int) (v15 : Int) (v16 : Int) (o100003 : List (List Int)) (o100004 : List Bool) (o100006 : List Int) : Option (List (List Int)) := aRun E k i_CyclesOf_fi.rs (ioOf i_CyclesOf_fi.ps) i_CyclesOf_fi.res i_CyclesOf_fi.hints [.code (sub i_CyclesOf_c [1, 1, 1, 1, 0, 1, 0, 0, 1, 1, 0, 0, 1, 1, 0, 1, 0, 0, 0, 0]), .code (sub i_CyclesOf_c [1, 1, 1, 1, 0, 1, 0, 0, 1, 1, 0, 0, 1, 1, 0, 1, 0, 0, 0, 1]), .code (sub i_CyclesOf_c [1, 1, 1, 1, 0, 1, 0, 0, 1, 1, 0, 0, 1, 1, 0, 1, 0, 0, 1]), .inLoop (sub i_CyclesOf_c [1, 1, 1, 1, 0, 1, 0, 0, 1, 1, 0, 0, 1, 1, 0, 1, 0, 0]), .inBlock 2, .code (sub i_CyclesOf_c [1, 1, 1, 1, 0, 1, 0, 0, 1, 1, 0, 0, 1, 1, 1]), .inBlock 1, .code (sub i_CyclesOf_c [1, 1, 1, 1, 0, 1, 0, 0, 1, 1, 1]), .inLoop (sub i_CyclesOf_c [1, 1, 1, 1, 0, 1, 0, 0]), .inBlock 0, .code (sub i_CyclesOf_c [1, 1, 1, 1, 1])] ⟨[.cv (.val (.slice (.int .i64)) v0), .cv .dead, .cv .dead, .cv (.own 100003), .cv (.own 100004), .cv .dead, .cv (.own 100006), .cv (.val (.int .i64) v7), .cv .dead, .cv .dead, .cv .dead, .cv .dead, .cv .dead, .cv .dead, .cv .dead, .cv (.val (.int .i64) v15), .cv (.val (.int .i64) v16), .cv .dead, .cv .dead, .cv .dead, .cv .dead, .cv .dead, .cv .dead, .cv .dead, .cv .dead, .cv .dead, .cv .dead, .cv .dead, .cv .dead, .cv .dead, .cv .dead, .cv .dead, .cv .dead, .cv .dead, .cv .dead, .cv .dead, .cv .dead, .cv .dead, .cv .dead, .cv .dead, .cv .dead, .cv .dead, .cv .dead, .cv .dead], [(100003, .row (.slice (.int .i64)) o100003 true true), (100004, .row (.bool) o100004 true false), (100006, .row (.int .i64) o100006 true true)], true⟩
noncomputable def i_numbersOf (k : Nat) (x : List Int) : Option (List ByteArray) := aFn E i_numbersOf_fi k x
noncomputable def i_numbersOf_l3 (k : Nat) (v6 : List Int) (v7 : Int) (v8 : Int) (o100003 : List ByteArray) : Option (List ByteArray) := aRun E k i_numbersOf_fi.rs (ioOf i_numbersOf_fi.ps) i_numbersOf_fi.res i_numbersOf_fi.hints [.code (sub i_numbersOf_c [1, 1, 0, 1, 0, 0, 0]), .code (sub i_numbersOf_c [1, 1, 0, 1, 0, 0, 1]), .inLoop (sub i_numbersOf_c [1, 1, 0, 1, 0, 0]), .inBlock 0, .code (sub i_numbersOf_c [1, 1, 1])] ⟨[.cv .dead, .cv .dead, .cv .dead, .cv (.own 100003), .cv .dead, .cv .dead, .cv (.val (.slice (.int .i64)) v6), .cv (.val (.int .i64) v7), .cv (.val (.int .i64) v8), .cv .dead, .cv .dead, .cv .dead, .cv .dead, .cv .dead, .cv .dead, .cv .dead, .cv .dead, .cv .dead, .cv .dead], [(100003, .row (.str) o100003 true true)], true⟩
noncomputable def i_CyclesLine (k : Nat) (x : List Int) : Option (ByteArray) := aFn E i_CyclesLine_fi k x
noncomputable def i_CyclesLine_l7 (k : Nat) (v3 : ByteArray) (v14 : Int) (v15 : Int) (o100013 : List (List Int)) : Option (ByteArray) := aRun E k i_CyclesLine_fi.rs (ioOf i_CyclesLine_fi.ps) i_CyclesLine_fi.res i_CyclesLine_fi.hints [.code (sub i_CyclesLine_c [1, 1, 1, 1, 0, 1, 0, 0, 0]), .code (sub i_CyclesLine_c [1, 1, 1, 1, 0, 1, 0, 0, 1]), .inLoop (sub i_CyclesLine_c [1, 1, 1, 1, 0, 1, 0, 0]), .inBlock 0, .code (sub i_CyclesLine_c [1, 1, 1, 1, 1])] ⟨[.cv .dead, .cv .dead, .cv .dead, .cv (.val (.str) v3), .cv .dead, .cv .dead, .cv .dead, .cv .dead, .cv .dead, .cv .dead, .cv .dead, .cv .dead, .cv .dead, .cv (.own 100013), .cv (.val (.int .i64) v14), .cv (.val (.int .i64) v15), .cv .dead, .cv .dead, .cv .dead, .cv .dead, .cv .dead, .cv .dead, .cv .dead, .cv .dead, .cv .dead, .cv .dead, .cv .dead, .cv .dead], [(100013, .row (.slice (.int .i64)) o100013 false true)], true⟩
noncomputable def i_ShuffleLine (k : Nat) (x : List Int) : Option (ByteArray) := aFn E i_ShuffleLine_fi k x
noncomputable def i_ShuffleLine_l3 (k : Nat) (v3 : ByteArray) (v6 : List Int) (v7 : Int) (v8 : Int) : Option (ByteArray) := aRun E k i_ShuffleLine_fi.rs (ioOf i_ShuffleLine_fi.ps) i_ShuffleLine_fi.res i_ShuffleLine_fi.hints [.code (sub i_ShuffleLine_c [1, 1, 0, 1, 0, 0, 0]), .code (sub i_ShuffleLine_c [1, 1, 0, 1, 0, 0, 1]), .inLoop (sub i_ShuffleLine_c [1, 1, 0, 1, 0, 0]), .inBlock 0, .code (sub i_ShuffleLine_c [1, 1, 1])] ⟨[.cv .dead, .cv .dead, .cv .dead, .cv (.val (.str) v3), .cv .dead, .cv .dead, .cv (.val (.slice (.int .i64)) v6), .cv (.val (.int .i64) v7), .cv (.val (.int .i64) v8), .cv .dead, .cv .dead, .cv .dead, .cv .dead, .cv .dead, .cv .dead, .cv .dead, .cv .dead, .cv .dead, .cv .dead, .cv .dead, .cv .dead, .cv .dead], [], true⟩
noncomputable def i_FormatPicks (k : Nat) (x : List Int) : Option (ByteArray) := aFn E i_FormatPicks_fi k x
noncomputable def w_FnReports (k : Nat) (x : List Int) : Option (Bool) := aFn E w_FnReports_fi k x

theorem s_l01New_eq (k : Nat) (x0 : List Int) : s_l01New (k + 1) x0 =
  s_l01New_l3 k x0 (IntKind.i64.wrap ((2070 : Int) + (x0.length : Int))) (0 : Int) := by kernel_rfl
theorem s_l01New_l3_eq (k : Nat) (v0 : List Int) (v3 : Int) (v4 : Int) : s_l01New_l3 (k + 1) v0 v3 v4 =
  bif decide (v4 < (v0.length : Int)) then
    (bif decide (v4 < (4000 : Int)) then
      (bif decide (0 ≤ v4) then
        (bif decide (v4 < (v0.length : Int)) then
          (s_l01New_l3 k v0 (IntKind.i64.wrap (((BitVec.ofInt IntKind.i64.bits (IntKind.i64.wrap ((IntKind.i64.wrap ((IntKind.i64.wrap (v3 * (101 : Int))) + (IntKind.i64.wrap (v0.getD v4.toNat (0 : Int))))) + (7 : Int))) &&& BitVec.ofInt IntKind.i64.bits (1073741823 : Int)).toNat : Int))) (IntKind.i64.wrap (v4 + (1 : Int))))
        else (none))
      else (none))
    else (some (v0, ((0 : Int), v3))))
  else (some (v0, ((0 : Int), v3))) := by kernel_rfl
theorem s_l01Byte_eq (k : Nat) (x0 : (List Int) × Int × Int) : s_l01Byte (k + 1) x0 =
  bif decide (x0.2.1 < (x0.1.length : Int)) then
    (bif decide (0 ≤ x0.2.1) then
      (bif decide (x0.2.1 < (x0.1.length : Int)) then
        (some ((IntKind.i64.wrap (((BitVec.ofInt IntKind.i64.bits (IntKind.i64.wrap ((IntKind.i64.wrap (((BitVec.ofInt IntKind.i64.bits (IntKind.i64.wrap (((BitVec.ofInt IntKind.i64.bits ((IntKind.i64.wrap ((IntKind.i64.wrap (x0.2.2 * (6364136223846793005 : Int))) + (1442695040888963407 : Int))).fdiv (2 ^ (min 33 IntKind.i64.bits))) ^^^ BitVec.ofInt IntKind.i64.bits ((IntKind.i64.wrap ((IntKind.i64.wrap (x0.2.2 * (6364136223846793005 : Int))) + (1442695040888963407 : Int))).fdiv (2 ^ (min 45 IntKind.i64.bits)))).toNat : Int))) &&& BitVec.ofInt IntKind.i64.bits (255 : Int)).toNat : Int))) + (IntKind.i64.wrap (x0.1.getD x0.2.1.toNat (0 : Int))))) &&& BitVec.ofInt IntKind.i64.bits (255 : Int)).toNat : Int))), (x0.1, ((IntKind.i64.wrap (x0.2.1 + (1 : Int))), (IntKind.i64.wrap ((IntKind.i64.wrap (x0.2.2 * (6364136223846793005 : Int))) + (1442695040888963407 : Int)))))))
      else (none))
    else (none))
  else (some ((IntKind.i64.wrap (((BitVec.ofInt IntKind.i64.bits (IntKind.i64.wrap (((BitVec.ofInt IntKind.i64.bits ((IntKind.i64.wrap ((IntKind.i64.wrap (x0.2.2 * (6364136223846793005 : Int))) + (1442695040888963407 : Int))).fdiv (2 ^ (min 33 IntKind.i64.bits))) ^^^ BitVec.ofInt IntKind.i64.bits ((IntKind.i64.wrap ((IntKind.i64.wrap (x0.2.2 * (6364136223846793005 : Int))) + (1442695040888963407 : Int))).fdiv (2 ^ (min 45 IntKind.i64.bits)))).toNat : Int))) &&& BitVec.ofInt IntKind.i64.bits (255 : Int)).toNat : Int))), (x0.1, (x0.2.1, (IntKind.i64.wrap ((IntKind.i64.wrap (x0.2.2 * (6364136223846793005 : Int))) + (1442695040888963407 : Int))))))) := by kernel_rfl
theorem s_l23New_eq (k : Nat) (x0 : List Int) (x1 : Int) : s_l23New (k + 1) (x0, x1) =
  (s_l01New k x0).bind fun y1 =>
  s_l23New_l3 k x1 (0 : Int) y1.1 y1.2.1 y1.2.2 := by kernel_rfl
theorem s_l23New_l3_eq (k : Nat) (v1 : Int) (v6 : Int) (o200005_0 : List Int) (o200005_1 : Int) (o200005_2 : Int) : s_l23New_l3 (k + 1) v1 v6 o200005_0 o200005_1 o200005_2 =
  bif decide (v6 < v1) then
    ((s_l01Byte k (o200005_0, (o200005_1, o200005_2))).bind fun y1 =>
    s_l23New_l3 k v1 (IntKind.i64.wrap (v6 + (1 : Int))) y1.2.1 y1.2.2.1 y1.2.2.2)
  else (some (o200005_0, (o200005_1, o200005_2))) := by kernel_rfl
theorem s_l01Below_eq (k : Nat) (x0 : (List Int) × Int × Int) (x1 : Int) : s_l01Below (k + 1) (x0, x1) =
  bif decide (x1 ≤ (0 : Int)) then
    (some ((0 : Int), x0))
  else (bif decide (x1 ≤ (256 : Int)) then
      ((s_l01Byte k x0).bind fun y1 =>
      bif (!(x1 == 0)) then
        (some ((y1.1.tmod x1), y1.2))
      else (none))
    else ((s_l01Byte k x0).bind fun y2 =>
      (s_l01Byte k y2.2).bind fun y3 =>
      (s_l01Byte k y3.2).bind fun y4 =>
      (s_l01Byte k y4.2).bind fun y5 =>
      bif (!(x1 == 0)) then
        (some (((IntKind.i64.wrap ((IntKind.i64.wrap ((IntKind.i64.wrap ((IntKind.i64.wrap (y2.1 * (16777216 : Int))) + (IntKind.i64.wrap (y3.1 * (65536 : Int))))) + (IntKind.i64.wrap (y4.1 * (256 : Int))))) + y5.1)).tmod x1), y5.2))
      else (none))) := by kernel_rfl
theorem s_l02Shuffle_eq (k : Nat) (x0 : (List Int) × Int × Int) (x1 : Int) : s_l02Shuffle (k + 1) (x0, x1) =
  s_l02Shuffle_l3 k x1 (0 : Int) ([] : List Int) x0.1 x0.2.1 x0.2.2 := by kernel_rfl
theorem s_l02Shuffle_l3_eq (k : Nat) (v1 : Int) (v6 : Int) (o100005 : List Int) (o500000_0 : List Int) (o500000_1 : Int) (o500000_2 : Int) : s_l02Shuffle_l3 (k + 1) v1 v6 o100005 o500000_0 o500000_1 o500000_2 =
  bif decide (v6 < v1) then
    ((s_l01Below k ((o500000_0, (o500000_1, o500000_2)), (IntKind.i64.wrap (v6 + (1 : Int))))).bind fun y1 =>
    bif decide (o100005.length + [v6].length ≤ rowMax) then
      (bif decide (0 ≤ y1.1) then
        (bif decide (y1.1 < ((o100005 ++ [v6]).length : Int)) then
          (bif decide (y1.1.toNat < (o100005 ++ [v6]).length) then
            (bif decide (0 ≤ v6) then
              (bif decide (v6 < ((o100005 ++ [v6]).length : Int)) then
                (bif decide (v6.toNat < (o100005 ++ [v6]).length) then
                  (bif decide (0 ≤ y1.1) then
                    (bif decide (y1.1 < (((o100005 ++ [v6]).set v6.toNat ((o100005 ++ [v6]).getD y1.1.toNat (0 : Int))).length : Int)) then
                      (bif decide (y1.1.toNat < ((o100005 ++ [v6]).set v6.toNat ((o100005 ++ [v6]).getD y1.1.toNat (0 : Int))).length) then
                        (s_l02Shuffle_l3 k v1 (IntKind.i64.wrap (v6 + (1 : Int))) (((o100005 ++ [v6]).set v6.toNat ((o100005 ++ [v6]).getD y1.1.toNat (0 : Int))).set y1.1.toNat v6) y1.2.1 y1.2.2.1 y1.2.2.2)
                      else (none))
                    else (none))
                  else (none))
                else (none))
              else (none))
            else (none))
          else (none))
        else (none))
      else (none))
    else (none))
  else (some (o100005, (o500000_0, (o500000_1, o500000_2)))) := by kernel_rfl
theorem s_l01Once_eq (k : Nat) (x0 : (List Int) × Int × Int) (x1 : Int) : s_l01Once (k + 1) (x0, x1) =
  (s_l01Below k (x0, x1)).bind fun y1 =>
  some ((y1.1 == (0 : Int)), y1.2) := by kernel_rfl
theorem s_l02Draw_eq (k : Nat) (x0 : (List Int) × Int × Int) (x1 : Int) : s_l02Draw (k + 1) (x0, x1) =
  (s_l01Below k (x0, x1)).bind fun y1 =>
  (s_l02Shuffle k (y1.2, (IntKind.i64.wrap ((1 : Int) + y1.1)))).bind fun y2 =>
  (s_l01Once k (y2.2, (2 : Int))).bind fun y3 =>
  bif y3.1 then
    (s_l02Draw_l4 k (y2.1.length : Int) (0 : Int) y2.1 y3.2.1 y3.2.2.1 y3.2.2.2)
  else (some (y2.1, y3.2)) := by kernel_rfl
theorem s_l02Draw_l4_eq (k : Nat) (v16 : Int) (v17 : Int) (o100005 : List Int) (o500000_0 : List Int) (o500000_1 : Int) (o500000_2 : Int) : s_l02Draw_l4 (k + 1) v16 v17 o100005 o500000_0 o500000_1 o500000_2 =
  bif decide (v17 < v16) then
    ((s_l01Once k ((o500000_0, (o500000_1, o500000_2)), (3 : Int))).bind fun y1 =>
    bif y1.1 then
      (bif decide (0 ≤ v17) then
        (bif decide (v17 < (o100005.length : Int)) then
          (bif decide (v17.toNat < o100005.length) then
            (bif decide (0 ≤ v17) then
              (bif decide (v17 < (o100005.length : Int)) then
                (bif decide (v17.toNat < o100005.length) then
                  (s_l02Draw_l4 k v16 (IntKind.i64.wrap (v17 + (1 : Int))) (o100005.set v17.toNat (IntKind.i64.wrap ((-1 : Int) - (o100005.getD v17.toNat (0 : Int))))) y1.2.1 y1.2.2.1 y1.2.2.2)
                else (none))
              else (none))
            else (none))
          else (none))
        else (none))
      else (none))
    else (s_l02Draw_l4 k v16 (IntKind.i64.wrap (v17 + (1 : Int))) o100005 y1.2.1 y1.2.2.1 y1.2.2.2))
  else (some (o100005, (o500000_0, (o500000_1, o500000_2)))) := by kernel_rfl
theorem s_MakePacket_eq (k : Nat) (x0 : List Int) (x1 : Int) (x2 : Int) : s_MakePacket (k + 1) (x0, x1, x2) =
  (s_l23New k (x0, x1)).bind fun y1 =>
  (s_l02Draw k (y1, (bif decide ((bif decide ((12 : Int) < x2) then (12 : Int) else x2) > (1 : Int)) then (bif decide ((12 : Int) < x2) then (12 : Int) else x2) else (1 : Int)))).bind fun y2 =>
  some y2.1 := by kernel_rfl
theorem s_MakePerm_eq (k : Nat) (x0 : List Int) (x1 : Int) (x2 : Int) : s_MakePerm (k + 1) (x0, x1, x2) =
  (s_l23New k (x0, x1)).bind fun y1 =>
  (s_l02Shuffle k (y1, (bif decide ((bif decide ((12 : Int) < x2) then (12 : Int) else x2) > (1 : Int)) then (bif decide ((12 : Int) < x2) then (12 : Int) else x2) else (1 : Int)))).bind fun y2 =>
  some y2.1 := by kernel_rfl
theorem i_CardOf_eq (k : Nat) (x0 : Int) : i_CardOf (k + 1) x0 =
  bif decide (x0 < (0 : Int)) then
    (bif decide ((IntKind.i64.wrap ((-1 : Int) - x0)) ≥ (12 : Int)) then
      (some (-1 : Int))
    else (some (IntKind.i64.wrap ((-1 : Int) - x0))))
  else (bif decide (x0 ≥ (12 : Int)) then
      (some (-1 : Int))
    else (some x0)) := by kernel_rfl
theorem i_PacketOk_eq (k : Nat) (x0 : List Int) : i_PacketOk (k + 1) x0 =
  i_PacketOk_l3 k x0 (x0.length : Int) (0 : Int) (List.replicate 12 false) := by kernel_rfl
theorem i_PacketOk_l3_eq (k : Nat) (v7 : List Int) (v8 : Int) (v9 : Int) (o400003 : List Bool) : i_PacketOk_l3 (k + 1) v7 v8 v9 o400003 =
  bif decide (v9 < v8) then
    (bif decide (0 ≤ v9) then
      (bif decide (v9 < (v7.length : Int)) then
        ((i_CardOf k (v7.getD v9.toNat (0 : Int))).bind fun y1 =>
        bif decide (y1 < (0 : Int)) then
          (some false)
        else (bif (Nat.beq o400003.length 12 && true) then
            (bif decide (0 ≤ y1) then
              (bif decide (y1 < (o400003.length : Int)) then
                (bif decide (y1.toNat < o400003.length) then
                  (bif (o400003.getD y1.toNat false) then
                    (some false)
                  else (bif (Nat.beq o400003.length 12 && true) then
                      (bif decide (0 ≤ y1) then
                        (bif decide (y1 < (o400003.length : Int)) then
                          (bif decide (y1.toNat < o400003.length) then
                            (i_PacketOk_l3 k v7 v8 (IntKind.i64.wrap (v9 + (1 : Int))) (o400003.set y1.toNat true))
                          else (none))
                        else (none))
                      else (none))
                    else (none)))
                else (none))
              else (none))
            else (none))
          else (none)))
      else (none))
    else (none))
  else (some true) := by kernel_rfl
theorem strconv_Itoa_eq (k : Nat) (x0 : Int) : strconv_Itoa k x0 = itoaF x0 := by kernel_rfl
theorem i_FormatInt_eq (k : Nat) (x0 : Int) : i_FormatInt (k + 1) x0 =
  (strconv_Itoa k x0).bind fun y1 =>
  some y1 := by kernel_rfl
theorem i_IsUp_eq (k : Nat) (x0 : Int) : i_IsUp (k + 1) x0 =
  bif decide (x0 < (0 : Int)) then
    ((i_CardOf k x0).bind fun y1 =>
    some (decide (y1 ≥ (0 : Int))))
  else (some false) := by kernel_rfl
theorem strings_Join_eq (k : Nat) (x0 : List ByteArray) (x1 : ByteArray) : strings_Join k (x0, x1) = joinF x0 x1 := by kernel_rfl
theorem i_Join_eq (k : Nat) (x0 : List ByteArray) (x1 : ByteArray) : i_Join (k + 1) (x0, x1) =
  (strings_Join k (x0, x1)).bind fun y1 =>
  some y1 := by kernel_rfl
theorem i_FormatPacket_eq (k : Nat) (x0 : List Int) : i_FormatPacket (k + 1) x0 =
  (i_PacketOk k x0).bind fun y1 =>
  bif (!y1) then
    (some (⟨#[]⟩ : ByteArray))
  else (bif ((x0.length : Int) == (0 : Int)) then
      (some (⟨#[101, 109, 112, 116, 121]⟩ : ByteArray))
    else (i_FormatPacket_l7 k x0 (x0.length : Int) (0 : Int) [])) := by kernel_rfl
theorem i_FormatPacket_l7_eq (k : Nat) (v13 : List Int) (v14 : Int) (v15 : Int) (o100003 : List ByteArray) : i_FormatPacket_l7 (k + 1) v13 v14 v15 o100003 =
  bif decide (v15 < v14) then
    (bif decide (0 ≤ v15) then
      (bif decide (v15 < (v13.length : Int)) then
        ((i_CardOf k (v13.getD v15.toNat (0 : Int))).bind fun y1 =>
        (i_FormatInt k y1).bind fun y2 =>
        (i_IsUp k (v13.getD v15.toNat (0 : Int))).bind fun y3 =>
        bif y3 then
          (bif decide (y2.size + (⟨#[94]⟩ : ByteArray).size ≤ 9223372036854775807) then
            (bif decide (o100003.length + ([(y2 ++ (⟨#[94]⟩ : ByteArray))]).length ≤ rowMax) then
              (i_FormatPacket_l7 k v13 v14 (IntKind.i64.wrap (v15 + (1 : Int))) (o100003 ++ ([(y2 ++ (⟨#[94]⟩ : ByteArray))])))
            else (none))
          else (none))
        else (bif decide (o100003.length + [y2].length ≤ rowMax) then
            (i_FormatPacket_l7 k v13 v14 (IntKind.i64.wrap (v15 + (1 : Int))) (o100003 ++ [y2]))
          else (none)))
      else (none))
    else (none))
  else ((i_Join k (o100003, (⟨#[32]⟩ : ByteArray))).bind fun y4 =>
    some y4) := by kernel_rfl
theorem i_SceneLine_eq (k : Nat) (x0 : (List Int) × Int) : i_SceneLine (k + 1) x0 =
  (i_FormatPacket k x0.1).bind fun y1 =>
  bif (!(y1.toList == (⟨#[]⟩ : ByteArray).toList)) then
    (bif decide (x0.2 ≥ (0 : Int)) then
      (bif decide (x0.2 < (12 : Int)) then
        ((i_FormatInt k x0.2).bind fun y2 =>
        bif decide ((⟨#[32, 110, 111, 116, 101, 100, 32]⟩ : ByteArray).size + y2.size ≤ 9223372036854775807) then
          (bif decide (y1.size + ((⟨#[32, 110, 111, 116, 101, 100, 32]⟩ : ByteArray) ++ y2).size ≤ 9223372036854775807) then
            (some (y1 ++ ((⟨#[32, 110, 111, 116, 101, 100, 32]⟩ : ByteArray) ++ y2)))
          else (none))
        else (none))
      else (some y1))
    else (some y1))
  else (some y1) := by kernel_rfl
theorem slices_Index_int_eq (k : Nat) (x0 : List Int) (x1 : Int) : slices_Index_int (k + 1) (x0, x1) =
  slices_Index_int_l2 k x0 x1 (x0.length : Int) (0 : Int) := by kernel_rfl
theorem slices_Index_int_l2_eq (k : Nat) (v0 : List Int) (v1 : Int) (v7 : Int) (v8 : Int) : slices_Index_int_l2 (k + 1) v0 v1 v7 v8 =
  bif decide (v8 < v7) then
    (bif decide (0 ≤ v8) then
      (bif decide (v8 < (v0.length : Int)) then
        (bif (v1 == (v0.getD v8.toNat (0 : Int))) then
          (some v8)
        else (slices_Index_int_l2 k v0 v1 v7 (IntKind.i64.wrap (v8 + (1 : Int)))))
      else (none))
    else (none))
  else (some (-1 : Int)) := by kernel_rfl
theorem slices_Contains_int_eq (k : Nat) (x0 : List Int) (x1 : Int) : slices_Contains_int (k + 1) (x0, x1) =
  (slices_Index_int k (x0, x1)).bind fun y1 =>
  some (decide (y1 ≥ (0 : Int))) := by kernel_rfl
theorem i_PermOk_eq (k : Nat) (x0 : List Int) : i_PermOk (k + 1) x0 =
  i_PermOk_l2 k x0 x0 (x0.length : Int) (0 : Int) := by kernel_rfl
theorem i_PermOk_l2_eq (k : Nat) (v0 : List Int) (v5 : List Int) (v6 : Int) (v7 : Int) : i_PermOk_l2 (k + 1) v0 v5 v6 v7 =
  bif decide (v7 < v6) then
    (bif decide (0 ≤ v7) then
      (bif decide (v7 < (v5.length : Int)) then
        (bif decide ((v5.getD v7.toNat (0 : Int)) < (0 : Int)) then
          (some false)
        else (bif decide ((v5.getD v7.toNat (0 : Int)) ≥ (v0.length : Int)) then
            (some false)
          else (bif decide (0 ≤ v7) then
              (bif decide (v7 ≤ (v0.length : Int)) then
                ((slices_Contains_int k (((v0.take v7.toNat).drop 0), (v5.getD v7.toNat (0 : Int)))).bind fun y1 =>
                bif y1 then
                  (some false)
                else (i_PermOk_l2 k v0 v5 v6 (IntKind.i64.wrap (v7 + (1 : Int)))))
              else (none))
            else (none))))
      else (none))
    else (none))
  else (some (decide ((v0.length : Int) ≤ (12 : Int)))) := by kernel_rfl
theorem i_CyclesOf_eq (k : Nat) (x0 : List Int) : i_CyclesOf (k + 1) x0 =
  (i_PermOk k x0).bind fun y1 =>
  bif (!y1) then
    (some [])
  else (bif decide (0 ≤ (x0.length : Int)) then
      (bif decide ((x0.length : Int) ≤ (rowMax : Int)) then
        (bif ((x0.length : Int) == (x0.length : Int)) then
          (i_CyclesOf_l6 k x0 (x0.length : Int) (0 : Int) [] (List.replicate (x0.length : Int).toNat false))
        else (none))
      else (none))
    else (none)) := by kernel_rfl
theorem i_CyclesOf_l6_eq (k : Nat) (v0 : List Int) (v15 : Int) (v16 : Int) (o100003 : List (List Int)) (o100004 : List Bool) : i_CyclesOf_l6 (k + 1) v0 v15 v16 o100003 o100004 =
  bif decide (v16 < v15) then
    (i_CyclesOf_l10 k v0 v16 v15 v16 o100003 o100004 [])
  else (some o100003) := by kernel_rfl
theorem i_CyclesOf_l10_eq (k : Nat) (v0 : List Int) (v7 : Int) (v15 : Int) (v16 : Int) (o100003 : List (List Int)) (o100004 : List Bool) (o100006 : List Int) : i_CyclesOf_l10 (k + 1) v0 v7 v15 v16 o100003 o100004 o100006 =
  bif decide (0 ≤ v7) then
    (bif decide (v7 < (o100004.length : Int)) then
      (bif decide (v7.toNat < o100004.length) then
        (bif (!(o100004.getD v7.toNat false)) then
          (bif decide (0 ≤ v7) then
            (bif decide (v7 < (o100004.length : Int)) then
              (bif decide (v7.toNat < o100004.length) then
                (bif decide (o100006.length + [v7].length ≤ rowMax) then
                  (bif decide (0 ≤ v7) then
                    (bif decide (v7 < (v0.length : Int)) then
                      (i_CyclesOf_l10 k v0 (v0.getD v7.toNat (0 : Int)) v15 v16 o100003 (o100004.set v7.toNat true) (o100006 ++ [v7]))
                    else (none))
                  else (none))
                else (none))
              else (none))
            else (none))
          else (none))
        else (bif (!o100006.isEmpty) then
            (bif decide (o100003.length + [o100006].length ≤ rowMax) then
              (i_CyclesOf_l6 k v0 v15 (IntKind.i64.wrap (v16 + (1 : Int))) (o100003 ++ [o100006]) o100004)
            else (none))
          else (i_CyclesOf_l6 k v0 v15 (IntKind.i64.wrap (v16 + (1 : Int))) o100003 o100004)))
      else (none))
    else (none))
  else (none) := by kernel_rfl
theorem i_numbersOf_eq (k : Nat) (x0 : List Int) : i_numbersOf (k + 1) x0 =
  i_numbersOf_l3 k x0 (x0.length : Int) (0 : Int) [] := by kernel_rfl
theorem i_numbersOf_l3_eq (k : Nat) (v6 : List Int) (v7 : Int) (v8 : Int) (o100003 : List ByteArray) : i_numbersOf_l3 (k + 1) v6 v7 v8 o100003 =
  bif decide (v8 < v7) then
    (bif decide (0 ≤ v8) then
      (bif decide (v8 < (v6.length : Int)) then
        ((i_FormatInt k (v6.getD v8.toNat (0 : Int))).bind fun y1 =>
        bif decide (o100003.length + [y1].length ≤ rowMax) then
          (i_numbersOf_l3 k v6 v7 (IntKind.i64.wrap (v8 + (1 : Int))) (o100003 ++ [y1]))
        else (none))
      else (none))
    else (none))
  else (some o100003) := by kernel_rfl
theorem i_CyclesLine_eq (k : Nat) (x0 : List Int) : i_CyclesLine (k + 1) x0 =
  (i_PermOk k x0).bind fun y1 =>
  bif (!y1) then
    (some (⟨#[]⟩ : ByteArray))
  else (bif ((x0.length : Int) == (0 : Int)) then
      (some (⟨#[40, 41]⟩ : ByteArray))
    else ((i_CyclesOf k x0).bind fun y2 =>
      i_CyclesLine_l7 k (⟨#[]⟩ : ByteArray) (y2.length : Int) (0 : Int) y2)) := by kernel_rfl
theorem i_CyclesLine_l7_eq (k : Nat) (v3 : ByteArray) (v14 : Int) (v15 : Int) (o100013 : List (List Int)) : i_CyclesLine_l7 (k + 1) v3 v14 v15 o100013 =
  bif decide (v15 < v14) then
    (bif decide (0 ≤ v15) then
      (bif decide (v15 < (o100013.length : Int)) then
        (bif decide (v15.toNat < o100013.length) then
          ((i_numbersOf k (o100013.getD v15.toNat [])).bind fun y1 =>
          (i_Join k (y1, (⟨#[32]⟩ : ByteArray))).bind fun y2 =>
          bif decide ((⟨#[40]⟩ : ByteArray).size + y2.size ≤ 9223372036854775807) then
            (bif decide (((⟨#[40]⟩ : ByteArray) ++ y2).size + (⟨#[41]⟩ : ByteArray).size ≤ 9223372036854775807) then
              (bif decide (v3.size + (((⟨#[40]⟩ : ByteArray) ++ y2) ++ (⟨#[41]⟩ : ByteArray)).size ≤ 9223372036854775807) then
                (i_CyclesLine_l7 k (v3 ++ (((⟨#[40]⟩ : ByteArray) ++ y2) ++ (⟨#[41]⟩ : ByteArray))) v14 (IntKind.i64.wrap (v15 + (1 : Int))) o100013)
              else (none))
            else (none))
          else (none))
        else (none))
      else (none))
    else (none))
  else (some v3) := by kernel_rfl
theorem i_ShuffleLine_eq (k : Nat) (x0 : List Int) : i_ShuffleLine (k + 1) x0 =
  i_ShuffleLine_l3 k (⟨#[]⟩ : ByteArray) x0 (x0.length : Int) (0 : Int) := by kernel_rfl
theorem i_ShuffleLine_l3_eq (k : Nat) (v3 : ByteArray) (v6 : List Int) (v7 : Int) (v8 : Int) : i_ShuffleLine_l3 (k + 1) v3 v6 v7 v8 =
  bif decide (v8 < v7) then
    (bif decide (0 ≤ v8) then
      (bif decide (v8 < (v6.length : Int)) then
        (bif ((v6.getD v8.toNat (0 : Int)) == (0 : Int)) then
          (bif decide (v3.size + (⟨#[79]⟩ : ByteArray).size ≤ 9223372036854775807) then
            (i_ShuffleLine_l3 k (v3 ++ (⟨#[79]⟩ : ByteArray)) v6 v7 (IntKind.i64.wrap (v8 + (1 : Int))))
          else (none))
        else (bif decide (v3.size + (⟨#[73]⟩ : ByteArray).size ≤ 9223372036854775807) then
            (i_ShuffleLine_l3 k (v3 ++ (⟨#[73]⟩ : ByteArray)) v6 v7 (IntKind.i64.wrap (v8 + (1 : Int))))
          else (none)))
      else (none))
    else (none))
  else (bif (v3.toList == (⟨#[]⟩ : ByteArray).toList) then
      (some (⟨#[45]⟩ : ByteArray))
    else (some v3)) := by kernel_rfl
theorem i_FormatPicks_eq (k : Nat) (x0 : List Int) : i_FormatPicks (k + 1) x0 =
  bif ((x0.length : Int) == (0 : Int)) then
    (some (⟨#[45]⟩ : ByteArray))
  else ((i_numbersOf k x0).bind fun y1 =>
    (i_Join k (y1, (⟨#[44]⟩ : ByteArray))).bind fun y2 =>
    some y2) := by kernel_rfl
theorem w_FnReports_eq (k : Nat) (x0 : List Int) : w_FnReports (k + 1) x0 =
  bif decide ((x0.length : Int) > (1048576 : Int)) then
    (some true)
  else ((s_MakePacket k (x0, ((0 : Int), (8 : Int)))).bind fun y1 =>
    (s_MakePerm k (x0, ((20 : Int), (y1.length : Int)))).bind fun y2 =>
    (i_SceneLine k (y1, (3 : Int))).bind fun y3 =>
    (i_FormatPacket k y1).bind fun y4 =>
    bif decide (y4.size + (⟨#[32, 110, 111, 116, 101, 100, 32, 51]⟩ : ByteArray).size ≤ 9223372036854775807) then
      (bif (y3.toList == (y4 ++ (⟨#[32, 110, 111, 116, 101, 100, 32, 51]⟩ : ByteArray)).toList) then
        ((i_SceneLine k (y1, (-1 : Int))).bind fun y5 =>
        (i_FormatPacket k y1).bind fun y6 =>
        bif (y5.toList == y6.toList) then
          ((i_FormatPacket k y1).bind fun y7 =>
          bif (!(y7.toList == (⟨#[]⟩ : ByteArray).toList)) then
            ((i_CyclesLine k y2).bind fun y8 =>
            bif (!(y8.toList == (⟨#[]⟩ : ByteArray).toList)) then
              ((i_ShuffleLine k [(0 : Int), (1 : Int), (1 : Int)]).bind fun y9 =>
              bif (y9.toList == (⟨#[79, 73, 73]⟩ : ByteArray).toList) then
                ((i_FormatPicks k [(2 : Int), (0 : Int)]).bind fun y10 =>
                some (y10.toList == (⟨#[50, 44, 48]⟩ : ByteArray).toList))
              else (some false))
            else (some false))
          else (some false))
        else (some false))
      else (some false))
    else (none)) := by kernel_rfl

/-! ### the tables are right -/
/-- What holds of the world throughout. -/
abbrev gw : Gw := ⟨fun w => Go.Lib.TabIs Go.Proofs.Tryd.prog w "internal/strconv.uint64pow10" .u64 Go.Lib.pow10Tab, false⟩
theorem ty_3 : TyOk Go.Proofs.Tryd.prog 3 (.one (.int .i64)) := tyOk_int (by kernel_rfl) (by kernel_rfl) (by kernel_rfl)
theorem ty_4 : TyOk Go.Proofs.Tryd.prog 4 (.one (.bool)) := tyOk_bool (by kernel_rfl) (by kernel_rfl) (by kernel_rfl)
theorem ty_5 : TyOk Go.Proofs.Tryd.prog 5 (.one (.int .u8)) := tyOk_int (by kernel_rfl) (by kernel_rfl) (by kernel_rfl)
theorem ty_22 : TyOk Go.Proofs.Tryd.prog 22 (.one (.slice (.int .u8))) := tyOk_slice (e := 5) (by kernel_rfl) (by kernel_rfl) (by kernel_rfl) (elemOk_of (by kernel_rfl) (by kernel_rfl) (by kernel_rfl))
theorem ty_23 : TyOk Go.Proofs.Tryd.prog 23 (.one (.slice (.int .i64))) := tyOk_slice (e := 3) (by kernel_rfl) (by kernel_rfl) (by kernel_rfl) (elemOk_of (by kernel_rfl) (by kernel_rfl) (by kernel_rfl))
theorem ty_26 : TyOk Go.Proofs.Tryd.prog 26 (.struct [(0, 23), (1, 3)] [.slice (.int .i64), .int .i64] false) := tyOk_struct (fields := Go.Proofs.Tryd.prog.fieldsOf 26) (by kernel_rfl) (by kernel_rfl) (by kernel_rfl) (by kernel_rfl) (by kernel_rfl) (by kernel_rfl) (fun e => by cases e)
theorem ty_35 : TyOk Go.Proofs.Tryd.prog 35 (.one (.slice (.str))) := tyOk_slice (e := 9) (by kernel_rfl) (by kernel_rfl) (by kernel_rfl) (elemOk_of (by kernel_rfl) (by kernel_rfl) (by kernel_rfl))
theorem ty_39 : TyOk Go.Proofs.Tryd.prog 39 (.one (.slice (.slice (.int .i64)))) := tyOk_slice (e := 23) (by kernel_rfl) (by kernel_rfl) (by kernel_rfl) (elemOk_of (by kernel_rfl) (by kernel_rfl) (by kernel_rfl))
theorem ty_46 : TyOk Go.Proofs.Tryd.prog 46 (.arr 12 (.bool)) := tyOk_arr (e := 4) (by kernel_rfl) (elemOk_of (by kernel_rfl) (by kernel_rfl) (by kernel_rfl)) (by kernel_rfl) (by kernel_rfl)
theorem ty_48 : TyOk Go.Proofs.Tryd.prog 48 (.one (.slice (.bool))) := tyOk_slice (e := 4) (by kernel_rfl) (by kernel_rfl) (by kernel_rfl) (elemOk_of (by kernel_rfl) (by kernel_rfl) (by kernel_rfl))
theorem ty_50 : TyOk Go.Proofs.Tryd.prog 50 (.struct [(0, 22), (1, 3), (2, 3)] [.slice (.int .u8), .int .i64, .int .i64] false) := tyOk_struct (fields := Go.Proofs.Tryd.prog.fieldsOf 50) (by kernel_rfl) (by kernel_rfl) (by kernel_rfl) (by kernel_rfl) (by kernel_rfl) (by kernel_rfl) (fun e => by cases e)
theorem hE : ∀ T ti, E.ty T = some ti → TyOk Go.Proofs.Tryd.prog T ti := lookT_ok (l := tyL) ⟨ty_3, ty_4, ty_5, ty_22, ty_23, ty_26, ty_35, ty_39, ty_46, ty_48, ty_50, trivial⟩
theorem s_l01New_ok : OneF Go.Proofs.Tryd.prog gw 24 s_l01New_fi := fnOk_of (fn := Go.Proofs.Tryd.f24) (c := s_l01New_c) Go.Proofs.Tryd.func24 (by kernel_rfl) (by kernel_rfl) rfl rfl (by kernel_rfl) (by kernel_rfl) rfl
theorem s_l01Byte_ok : OneF Go.Proofs.Tryd.prog gw 25 s_l01Byte_fi := fnOk_of (fn := Go.Proofs.Tryd.f25) (c := s_l01Byte_c) Go.Proofs.Tryd.func25 (by kernel_rfl) (by kernel_rfl) rfl rfl (by kernel_rfl) (by kernel_rfl) rfl
theorem s_l23New_ok : OneF Go.Proofs.Tryd.prog gw 12 s_l23New_fi := fnOk_of (fn := Go.Proofs.Tryd.f12) (c := s_l23New_c) Go.Proofs.Tryd.func12 (by kernel_rfl) (by kernel_rfl) rfl rfl (by kernel_rfl) (by kernel_rfl) rfl
theorem s_l01Below_ok : OneF Go.Proofs.Tryd.prog gw 22 s_l01Below_fi := fnOk_of (fn := Go.Proofs.Tryd.f22) (c := s_l01Below_c) Go.Proofs.Tryd.func22 (by kernel_rfl) (by kernel_rfl) rfl rfl (by kernel_rfl) (by kernel_rfl) rfl
theorem s_l02Shuffle_ok : OneF Go.Proofs.Tryd.prog gw 13 s_l02Shuffle_fi := fnOk_of (fn := Go.Proofs.Tryd.f13) (c := s_l02Shuffle_c) Go.Proofs.Tryd.func13 (by kernel_rfl) (by kernel_rfl) rfl rfl (by kernel_rfl) (by kernel_rfl) rfl
theorem s_l01Once_ok : OneF Go.Proofs.Tryd.prog gw 23 s_l01Once_fi := fnOk_of (fn := Go.Proofs.Tryd.f23) (c := s_l01Once_c) Go.Proofs.Tryd.func23 (by kernel_rfl) (by kernel_rfl) rfl rfl (by kernel_rfl) (by kernel_rfl) rfl
theorem s_l02Draw_ok : OneF Go.Proofs.Tryd.prog gw 11 s_l02Draw_fi := fnOk_of (fn := Go.Proofs.Tryd.f11) (c := s_l02Draw_c) Go.Proofs.Tryd.func11 (by kernel_rfl) (by kernel_rfl) rfl rfl (by kernel_rfl) (by kernel_rfl) rfl
theorem s_MakePacket_ok : OneF Go.Proofs.Tryd.prog gw 4 s_MakePacket_fi := fnOk_of (fn := Go.Proofs.Tryd.f4) (c := s_MakePacket_c) Go.Proofs.Tryd.func4 (by kernel_rfl) (by kernel_rfl) rfl rfl (by kernel_rfl) (by kernel_rfl) rfl
theorem s_MakePerm_ok : OneF Go.Proofs.Tryd.prog gw 5 s_MakePerm_fi := fnOk_of (fn := Go.Proofs.Tryd.f5) (c := s_MakePerm_c) Go.Proofs.Tryd.func5 (by kernel_rfl) (by kernel_rfl) rfl rfl (by kernel_rfl) (by kernel_rfl) rfl
theorem i_CardOf_ok : OneF Go.Proofs.Tryd.prog gw 16 i_CardOf_fi := fnOk_of (fn := Go.Proofs.Tryd.f16) (c := i_CardOf_c) Go.Proofs.Tryd.func16 (by kernel_rfl) (by kernel_rfl) rfl rfl (by kernel_rfl) (by kernel_rfl) rfl
theorem i_PacketOk_ok : OneF Go.Proofs.Tryd.prog gw 15 i_PacketOk_fi := fnOk_of (fn := Go.Proofs.Tryd.f15) (c := i_PacketOk_c) Go.Proofs.Tryd.func15 (by kernel_rfl) (by kernel_rfl) rfl rfl (by kernel_rfl) (by kernel_rfl) rfl
theorem strconv_Itoa_ok : OneF Go.Proofs.Tryd.prog gw 26 strconv_Itoa_fi := itoa_ok Go.Proofs.Tryd.func26 (by kernel_rfl) (by kernel_rfl) (fun n w hw h0 h1 => Go.Proofs.Tryd.strconv_Itoa n h0 h1 w hw)
theorem i_FormatInt_ok : OneF Go.Proofs.Tryd.prog gw 14 i_FormatInt_fi := fnOk_of (fn := Go.Proofs.Tryd.f14) (c := i_FormatInt_c) Go.Proofs.Tryd.func14 (by kernel_rfl) (by kernel_rfl) rfl rfl (by kernel_rfl) (by kernel_rfl) rfl
theorem i_IsUp_ok : OneF Go.Proofs.Tryd.prog gw 17 i_IsUp_fi := fnOk_of (fn := Go.Proofs.Tryd.f17) (c := i_IsUp_c) Go.Proofs.Tryd.func17 (by kernel_rfl) (by kernel_rfl) rfl rfl (by kernel_rfl) (by kernel_rfl) rfl
theorem strings_Join_ok : OneF Go.Proofs.Tryd.prog gw 27 strings_Join_fi := join_ok Go.Proofs.Tryd.func27 (by kernel_rfl) (by kernel_rfl) (fun a c sep w => Go.Proofs.Tryd.strings_Join_none a c sep w) (fun bk o c xs sep w hc hb hN hcap hl => Go.Proofs.Tryd.strings_Join bk o c xs sep w hc hb hN hcap hl) rfl
theorem i_Join_ok : OneF Go.Proofs.Tryd.prog gw 18 i_Join_fi := fnOk_of (fn := Go.Proofs.Tryd.f18) (c := i_Join_c) Go.Proofs.Tryd.func18 (by kernel_rfl) (by kernel_rfl) rfl rfl (by kernel_rfl) (by kernel_rfl) rfl
theorem i_FormatPacket_ok : OneF Go.Proofs.Tryd.prog gw 7 i_FormatPacket_fi := fnOk_of (fn := Go.Proofs.Tryd.f7) (c := i_FormatPacket_c) Go.Proofs.Tryd.func7 (by kernel_rfl) (by kernel_rfl) rfl rfl (by kernel_rfl) (by kernel_rfl) rfl
theorem i_SceneLine_ok : OneF Go.Proofs.Tryd.prog gw 6 i_SceneLine_fi := fnOk_of (fn := Go.Proofs.Tryd.f6) (c := i_SceneLine_c) Go.Proofs.Tryd.func6 (by kernel_rfl) (by kernel_rfl) rfl rfl (by kernel_rfl) (by kernel_rfl) rfl
theorem slices_Index_int_ok : OneF Go.Proofs.Tryd.prog gw 33 slices_Index_int_fi := fnOk_of (fn := Go.Proofs.Tryd.f33) (c := slices_Index_int_c) Go.Proofs.Tryd.func33 (by kernel_rfl) (by kernel_rfl) rfl rfl (by kernel_rfl) (by kernel_rfl) rfl
theorem slices_Contains_int_ok : OneF Go.Proofs.Tryd.prog gw 28 slices_Contains_int_fi := fnOk_of (fn := Go.Proofs.Tryd.f28) (c := slices_Contains_int_c) Go.Proofs.Tryd.func28 (by kernel_rfl) (by kernel_rfl) rfl rfl (by kernel_rfl) (by kernel_rfl) rfl
theorem i_PermOk_ok : OneF Go.Proofs.Tryd.prog gw 19 i_PermOk_fi := fnOk_of (fn := Go.Proofs.Tryd.f19) (c := i_PermOk_c) Go.Proofs.Tryd.func19 (by kernel_rfl) (by kernel_rfl) rfl rfl (by kernel_rfl) (by kernel_rfl) rfl
theorem i_CyclesOf_ok : OneF Go.Proofs.Tryd.prog gw 20 i_CyclesOf_fi := fnOk_of (fn := Go.Proofs.Tryd.f20) (c := i_CyclesOf_c) Go.Proofs.Tryd.func20 (by kernel_rfl) (by kernel_rfl) rfl rfl (by kernel_rfl) (by kernel_rfl) rfl
theorem i_numbersOf_ok : OneF Go.Proofs.Tryd.prog gw 21 i_numbersOf_fi := fnOk_of (fn := Go.Proofs.Tryd.f21) (c := i_numbersOf_c) Go.Proofs.Tryd.func21 (by kernel_rfl) (by kernel_rfl) rfl rfl (by kernel_rfl) (by kernel_rfl) rfl
theorem i_CyclesLine_ok : OneF Go.Proofs.Tryd.prog gw 8 i_CyclesLine_fi := fnOk_of (fn := Go.Proofs.Tryd.f8) (c := i_CyclesLine_c) Go.Proofs.Tryd.func8 (by kernel_rfl) (by kernel_rfl) rfl rfl (by kernel_rfl) (by kernel_rfl) rfl
theorem i_ShuffleLine_ok : OneF Go.Proofs.Tryd.prog gw 9 i_ShuffleLine_fi := fnOk_of (fn := Go.Proofs.Tryd.f9) (c := i_ShuffleLine_c) Go.Proofs.Tryd.func9 (by kernel_rfl) (by kernel_rfl) rfl rfl (by kernel_rfl) (by kernel_rfl) rfl
theorem i_FormatPicks_ok : OneF Go.Proofs.Tryd.prog gw 10 i_FormatPicks_fi := fnOk_of (fn := Go.Proofs.Tryd.f10) (c := i_FormatPicks_c) Go.Proofs.Tryd.func10 (by kernel_rfl) (by kernel_rfl) rfl rfl (by kernel_rfl) (by kernel_rfl) rfl
theorem w_FnReports_ok : OneF Go.Proofs.Tryd.prog gw 3 w_FnReports_fi := fnOk_of (fn := Go.Proofs.Tryd.f3) (c := w_FnReports_c) Go.Proofs.Tryd.func3 (by kernel_rfl) (by kernel_rfl) rfl rfl (by kernel_rfl) (by kernel_rfl) rfl
theorem hF : FnOk Go.Proofs.Tryd.prog gw E := lookF_ok (l := fnL) ⟨s_l01New_ok, s_l01Byte_ok, s_l23New_ok, s_l01Below_ok, s_l02Shuffle_ok, s_l01Once_ok, s_l02Draw_ok, s_MakePacket_ok, s_MakePerm_ok, i_CardOf_ok, i_PacketOk_ok, strconv_Itoa_ok, i_FormatInt_ok, i_IsUp_ok, strings_Join_ok, i_Join_ok, i_FormatPacket_ok, i_SceneLine_ok, slices_Index_int_ok, slices_Contains_int_ok, i_PermOk_ok, i_CyclesOf_ok, i_numbersOf_ok, i_CyclesLine_ok, i_ShuffleLine_ok, i_FormatPicks_ok, w_FnReports_ok, trivial⟩
end Pt
