/-
  The plain machine's telling of functions of the program: codes, functions, tables. Printed by gen11.py.
  Conditions: none; these are definitions and equations that the kernel checks.
-/
import Derived.Test.YtgbbdagfjenmeaaGreatDoorVd
import Derived.Test.YtgbbdagfjenmeaaGreatDoorProg
import Derived.Test.YtgbbdagfjenmeaaGreatDoorShelf
import Derived.Test.YtgbbdagfjenmeaaGreatDoorCmf
import Derived.Test.YtgbbdagfjenmeaaGreatDoorDel
import Derived.Test.YtgbbdagfjenmeaaGreatDoorSrt
namespace Pt
open Go Go.Vt Go.Proofs
set_option linter.unusedVariables false
set_option maxRecDepth 100000
abbrev tI : Ty := .int .i64
abbrev tR : Ty := .slice tI
abbrev tS : Ty := .pair tI (.pair (.pair tI tI) tI)
abbrev tQ : Ty := .slice tS
abbrev tT : Ty := .pair tR (.pair tQ (.pair tI (.pair tI tI)))
abbrev tC : Ty := .pair tR tI
abbrev tD : Ty := .slice tC
abbrev tW : Ty := .slice tR
abbrev tK : Ty := .pair (.slice (.int .u8)) (.pair tI tI)
abbrev dS : Type := Int × (Int × Int) × Int
abbrev dT : Type := List Int × List dS × Int × Int × Int
abbrev dC : Type := List Int × Int
noncomputable abbrev ci (x : Int) : AV := .cv (.val tI x)
noncomputable abbrev cw (t : Ty) (x : t.den) : AV := .cv (.val t x)
noncomputable abbrev co (c : Nat) : AV := .cv (.own c)
noncomputable def tyL : List (Nat × TI) := [(3, .one (tI)), (4, .one (.bool)), (5, .one (.int .u8)), (22, .one (.slice (.int .u8))), (23, .one (tR)), (24, .one (tQ)), (26, .struct [(0, 23), (1, 24), (2, 3), (3, 3), (4, 3)] [tR, tQ, tI, tI, tI] false), (30, .one (tD)), (35, .struct [(0, 23), (1, 3)] [tR, tI] false), (38, .struct [(0, 3), (1, 3)] [tI, tI] true), (40, .struct [(0, 3), (1, 38), (3, 3)] [tI, tI, tI, tI] true), (47, .struct [(0, 3), (1, 23), (2, 35)] [tI, tR, tR, tI] false), (81, .one (.slice .str)), (88, .one (.slice tD)), (93, .one (tW)), (100, .one (.slice .set)), (104, .one (.set)), (132, .struct [(0, 22), (1, 3), (2, 3)] [.slice (.int .u8), tI, tI] false), (149, .arr 12 (.bool)), (5023023, .flag), (5023031, .flag), (5023072, .flag), (5030021, .flag), (5035049, .flag), (5073036, .flag), (5077056, .flag), (5143049, .flag), (8104055, .flag)]
noncomputable def Zi : Fi := fiOf Tryz.f58 [.v (.slice (.int .u8)) false] [(false, [⟨tK, some (false, false)⟩])] fun | 3 => some [.keep 0, .keep 3, .keep 4] | _ => none
noncomputable def XN : Fi := fiOf Tryz.f163 [.p (.slice (.int .u8)) (.pair tI tI)] [(false, [⟨tI, none⟩])] h0
noncomputable def ZW : Fi := fiOf Tryz.f133 [.p (.slice (.int .u8)) (.pair tI tI), .v tI false] [(false, [⟨tI, none⟩])] h0
noncomputable def XL : Fi := fiOf Tryz.f131 [.p (.slice (.int .u8)) (.pair tI tI), .v tI false] [(false, [⟨.bool, none⟩])] h0
noncomputable def Ts : Fi := fiOf Tryz.f88 [.v tI false, .v tI false, .v tI false] [(false, [⟨.bool, none⟩])] h0
noncomputable def ga : Fi := fiOf Tryz.f134 [.v tI false] [(false, [⟨tR, some (true, true)⟩])] fun | 5 => some [.keep 0, .cell 3 (.row 100003 (tI) true false), .keep 4] | _ => none
noncomputable def ZM : Fi := fiOf Tryz.f61 [.p (.slice (.int .u8)) (.pair tI tI)] [(true, [⟨tR, some (true, true)⟩, ⟨tQ, some (true, false)⟩, ⟨tI, none⟩, ⟨tI, none⟩, ⟨tI, none⟩])] h0
noncomputable def uS : Fi := fiOf Tryz.f162 [.p (.slice (.int .u8)) (.pair tI tI), .v tI false] [(false, [⟨tR, some (true, false)⟩])] fun | 3 => some [.box 0 500000 [.keep, .keep, .keep], .keep 1, .cell 5 (.row 100005 (tI) true false), .keep 6] | _ => none
noncomputable def cL : Fi := fiOf Tryz.f120 [.p (.slice (.int .u8)) (.pair tI tI), .v tI false] [(false, [⟨tR, some (true, false)⟩])] fun | 4 => some [.box 0 500000 [.keep, .keep, .keep], .cell 5 (.row 100005 (tI) true false), .keep 16, .keep 17] | _ => none
noncomputable def XJ : Fi := fiOf Tryz.f187 [.p (.slice (.int .u8)) (.pair tI tI), .v tR false] [(false, [⟨tI, none⟩])] h0
noncomputable def XH : Fi := fiOf Tryz.f188 [.p (.slice (.int .u8)) (.pair tI tI), .v tI false] [(true, [⟨tI, none⟩, ⟨tI, none⟩])] h0
noncomputable def XE : Fi := fiOf Tryz.f153 [.p (.slice (.int .u8)) (.pair tI tI), .v tI false] [(true, [⟨tI, none⟩, ⟨tI, none⟩, ⟨tI, none⟩, ⟨tI, none⟩])] h0
noncomputable def Vu : Fi := fiOf Tryz.f154 [.v tI false] [(false, [⟨tI, none⟩])] h0
noncomputable def cd : Fi := fiOf Tryz.f107 [.p (.slice (.int .u8)) (.pair tI tI)] [(true, [⟨tR, some (true, false)⟩, ⟨tQ, some (true, false)⟩, ⟨tI, none⟩, ⟨tI, none⟩, ⟨tI, none⟩])] fun | 7 => some [.box 0 500000 [.keep, .keep, .keep], .box 2 200002 [.keep, .keep, .keep, .keep, .keep], .box 3 200003 [.row 300300 (tI) true false, .row 300301 (tS) true true, .keep, .keep, .keep], .keep 4, .keep 5, .keep 6] | _ => none
noncomputable def XM : Fi := fiOf Tryz.f169 [.p (.slice (.int .u8)) (.pair tI tI), .v tI false, .v tI false] [(false, [⟨tI, none⟩])] h0
noncomputable def Vk : Fi := fiOf Tryz.f170 [.p (.slice (.int .u8)) (.pair tI tI)] [(false, [⟨tR, some (true, false)⟩])] h0
noncomputable def vq : Fi := fiOf Tryz.f132 [.p (.slice (.int .u8)) (.pair tI tI)] [(true, [⟨tR, some (true, false)⟩, ⟨tQ, some (true, false)⟩, ⟨tI, none⟩, ⟨tI, none⟩, ⟨tI, none⟩])] h0
noncomputable def eR : Fi := fiOf Tryz.f59 [.p (.slice (.int .u8)) (.pair tI tI)] [(true, [⟨tR, none⟩, ⟨tQ, none⟩, ⟨tI, none⟩, ⟨tI, none⟩, ⟨tI, none⟩])] fun | 6 => some [.box 0 500000 [.keep, .keep, .keep], .box 2 200002 [.keep, .keep, .keep, .keep, .keep], .box 3 200003 [.row 300300 (tI) true true, .val (tQ), .keep, .keep, .keep], .keep 4, .keep 5] | _ => none
noncomputable def Zh : Fi := fiOf Tryz.f159 [.v tR false, .v tI false] [(false, [⟨.bool, none⟩])] fun | 2 => some [.keep 1, .keep 7, .keep 8, .keep 9] | _ => none
noncomputable def fg : Fi := fiOf Tryz.f116 [.v tR false] [(false, [⟨.bool, none⟩])] fun | 5 => some [.cell 3 (.row 100003 (tI) true false), .keep 11, .keep 12, .keep 13] | _ => none
noncomputable def Vp : Fi := fiOf Tryz.f160 [.v tI false, .v (.pair tI tI) true] [(false, [⟨.bool, none⟩])] h0
noncomputable def ao : Fi := fiOf Tryz.f161 [.v tI false, .v tI false] [(false, [⟨.bool, none⟩])] h0
noncomputable def Vm : Fi := fiOf Tryz.f117 [.v tI false, .v tS true] [(false, [⟨.bool, none⟩])] h0
noncomputable def uY : Fi := fiOf Tryz.f139 [.v tR false, .v tI false] [(false, [⟨tI, none⟩])] fun | 2 => some [.keep 1, .keep 7, .keep 8, .keep 9] | _ => none
noncomputable def ZP : Fi := fiOf Tryz.f118 [.v tT true, .v tI false, .v .bool false] [(false, [⟨.bool, none⟩])] h0
noncomputable def cO : Fi := fiOf Tryz.f47 [.v tT true] [(false, [⟨.bool, none⟩])] fun | 6 => some [.box 1 200001 [.keep, .keep, .keep, .keep, .keep], .keep 3, .keep 4, .keep 25, .keep 26, .keep 27] | _ => none
noncomputable def ZX : Fi := fiOf Tryz.f200 [.v tI false] [(false, [⟨tI, none⟩])] h0
noncomputable def cH : Fi := fiOf Tryz.f195 [.v tR false, .v tI false, .v .bool false] [(false, [⟨tR, some (true, false)⟩])] fun | 3 => some [.keep 0, .keep 1, .keep 2, .cell 7 (.row 100007 (tI) true false), .keep 8] | _ => none
noncomputable def cB : Fi := fiOf Tryz.f196 [.v tR false, .v tI false] [(false, [⟨tR, some (true, false)⟩])] fun | 4 => some [.keep 1, .keep 5, .keep 6, .cell 7 (.row 100007 (tI) true false)] | _ => none
noncomputable def fc : Fi := fiOf Tryz.f197 [.v tR false, .v tI false] [(false, [⟨tR, some (true, false)⟩])] fun | 3 => some [.keep 1, .cell 5 (.row 100005 (tI) true false), .keep 9, .keep 10, .keep 11] | _ => none
noncomputable def cx : Fi := fiOf Tryz.f198 [.v tR false] [(false, [⟨tR, some (true, false)⟩])] fun | 2 => some [.keep 0, .cell 3 (.row 100003 (tI) true false)] | _ => none
noncomputable def cD : Fi := fiOf Tryz.f199 [.v tR false, .v tI false] [(false, [⟨tR, some (true, false)⟩])] fun | 4 => some [.cell 5 (.row 100005 (tI) true false), .cell 6 (.row 100006 (tI) true false), .keep 7] | _ => none
noncomputable def Tq : Fi := fiOf Tryz.f171 [.v tR false, .v (.pair tI tI) true] [(false, [⟨tR, some (true, false)⟩])] h0
noncomputable def cq : Fi := fiOf Tryz.f202 [.v tR false] [(false, [⟨tW, some (true, false)⟩])] fun | 3 => some [.keep 0, .cell 3 (.row 100003 (tR) true false), .keep 7, .keep 8] | _ => none
noncomputable def ZQ : Fi := fiOf Tryz.f203 [.v tW false, .v tR false, .v tR false, .v tR false] [(false, [⟨tW, some (false, false)⟩])] fun  | 999999 => some [] | _ => none
noncomputable def bQ : Fi := fiOf Tryz.f173 [.v tR false, .v tI false] [(false, [⟨tW, some (false, false)⟩])] fun | 7 => some [.keep 0, .cell 5 (.row 100005 (tR) false false), .keep 6] | 15 => some [.keep 0, .cell 5 (.row 100005 (tR) true false), .keep 40, .keep 41, .keep 42] | _ => none
noncomputable def uW : Fi := fiOf Tryz.f141 [.v tR false, .v tR false] [(false, [⟨.bool, none⟩])] fun | 4 => some [.keep 1, .keep 12, .keep 13, .keep 14] | _ => none
noncomputable def cf : Fi := fiOf Tryz.f220 [.v tR false, .v tR false] [(false, [⟨.bool, none⟩])] fun | 2 => some [.keep 0, .keep 1, .keep 7, .keep 8, .keep 9] | _ => none
noncomputable def fb : Fi := fiOf Tryz.f201 [.v tW false, .v tW false] [(false, [⟨tW, some (true, false)⟩])] fun | 2 => some [.keep 0, .keep 1, .cell 5 (.row 450005 (tR) true false)] | _ => none
noncomputable def fU : Fi := fiOf Tryz.f172 [.v tW false] [(false, [⟨tW, some (true, false)⟩])] h0
noncomputable def cb : Fi := fiOf Tryz.f137 [.v tC true, .v tS true] [(false, [⟨tD, some (false, false)⟩])] fun | 8 => some [.box 2 200002 [.keep, .keep], .cell 5 (.row 100005 (tC) false false), .cell 42 (.row 100042 (tR) false false), .keep 43, .keep 44] | _ => none
noncomputable def aw : Fi := fiOf Tryz.f94 [.v tC true, .v tC true] [(false, [⟨.bool, none⟩])] h0
noncomputable def eT : Fi := fiOf Tryz.f138 [.v tD false, .v tC true] [(false, [⟨tI, none⟩])] fun | 2 => some [.box 3 200003 [.keep, .keep], .keep 7, .keep 8, .keep 9] | _ => none
noncomputable def ua : Fi := fiOf Tryz.f68 [.v tT true] [(false, [⟨tD, some (false, false)⟩]), (false, [⟨tW, some (true, false)⟩]), (false, [⟨.bool, none⟩])] fun | 4 => some [.cell 5 (.row 100005 (tC) false false), .cell 6 (.row 100006 (tR) true false), .keep 25, .keep 26, .keep 27] | 9 => some [.cell 6 (.row 100006 (tR) false false), .box 8 200008 [.keep, .keep, .keep, .keep], .cell 9 (.row 100009 (tC) false false), .cell 10 (.row 100010 (tR) true false), .keep 25, .keep 26, .keep 27, .cell 33 (.row 100033 (tC) false false), .keep 34, .keep 35] | 12 => some [.cell 6 (.row 100006 (tR) false false), .box 8 200008 [.keep, .keep, .keep, .keep], .cell 9 (.row 100009 (tC) false false), .cell 10 (.row 100010 (tR) true false), .keep 11, .keep 25, .keep 26, .keep 27, .cell 33 (.row 100033 (tC) false false), .keep 34, .keep 35, .cell 42 (.row 100042 (tC) false false), .keep 43, .keep 44] | _ => none
noncomputable def RY : Fi := fiOf Tryz.f174 [.v tI false] [(false, [⟨.bool, none⟩])] h0
noncomputable def cR : Fi := fiOf Tryz.f140 [.v tR false] [(false, [⟨tI, none⟩])] fun | 3 => some [.keep 3, .keep 6, .keep 7, .keep 8] | _ => none
noncomputable def ZN : Fi := fiOf Tryz.f69 [.v tT true, .v tC true] [(false, [⟨.bool, none⟩])] h0
noncomputable def u6 : Fi := fiOf Tryz.f19 [.v tT true] [(true, [⟨tI, none⟩, ⟨tR, none⟩, ⟨tR, none⟩, ⟨tI, none⟩]), (false, [⟨.bool, none⟩])] fun | 7 => some [.box 1 200001 [.keep, .keep, .keep, .keep, .keep], .box 2 200002 [.keep, .keep, .keep, .keep], .cell 5 (.val (tW)), .cell 22 (.row 100022 (tC) false false), .keep 23, .keep 24] | _ => none
noncomputable def ZL : Fi := fiOf Tryz.f60 [.v tT true] [(false, [⟨.bool, none⟩])] h0
noncomputable def u4 : Fi := fiOf Tryz.f13 [.v (.slice (.int .u8)) false] [(true, [⟨tR, none⟩, ⟨tQ, none⟩, ⟨tI, none⟩, ⟨tI, none⟩, ⟨tI, none⟩])] fun | 3 => some [.box 2 200002 [.keep, .keep, .keep, .keep, .keep], .box 3 200003 [.keep, .keep, .keep], .keep 4] | _ => none
noncomputable def Uq : Fi := fiOf Tryz.f109 [.v tI false] [(false, [⟨tI, none⟩])] h0
noncomputable def fB : Fi := fiOf Tryz.f113 [.v tR false] [(false, [⟨.bool, none⟩])] fun | 3 => some [.arr 3 400003, .keep 7, .keep 8, .keep 9] | _ => none
noncomputable def Um : Fi := fiOf Tryz.f128 [.v tI false, .v (.pair tI tI) true] [(false, [⟨.bool, none⟩])] h0
noncomputable def Ug : Fi := fiOf Tryz.f114 [.v tI false, .v tS true] [(false, [⟨.bool, none⟩])] h0
noncomputable def gK : Fi := fiOf Tryz.f158 [.v tI false, .r tI] [(false, [⟨.bool, none⟩])] h0
noncomputable def zL : Fi := fiOf Tryz.f157 [.v tR false, .fn 158 [tI]] [(false, [⟨tI, none⟩])] fun | 2 => some [.keep 0, .keep 1, .keep 7, .keep 8] | _ => none
noncomputable def br : Fi := fiOf Tryz.f115 [.v tR false, .v tI false] [(false, [⟨tI, none⟩])] h0
noncomputable def bn : Fi := fiOf Tryz.f46 [.v tT true] [(false, [⟨.bool, none⟩])] fun | 6 => some [.box 1 200001 [.keep, .keep, .keep, .keep, .keep], .keep 3, .keep 4, .keep 25, .keep 26, .keep 27] | _ => none
noncomputable def xA : Fi := fiOf Tryz.f135 [.v tR false] [(false, [⟨tR, some (true, false)⟩])] h0
noncomputable def yQ : Fi := fiOf Tryz.f136 [.v tQ false] [(false, [⟨tQ, some (true, false)⟩])] h0
noncomputable def aL : Fi := fiOf Tryz.f62 [.v tT true] [(true, [⟨tR, some (true, false)⟩, ⟨tQ, some (true, false)⟩, ⟨tI, none⟩, ⟨tI, none⟩, ⟨tI, none⟩])] h0
noncomputable abbrev slices_Delete_i_Step_fi : Fi := (deleteFi (.pair (.int .i64) (.pair (.pair (.int .i64) (.int .i64)) (.int .i64))))
noncomputable def gj : Fi := fiOf Tryz.f14 [.v tT true] [(true, [⟨tR, some (true, false)⟩, ⟨tQ, some (false, false)⟩, ⟨tI, none⟩, ⟨tI, none⟩, ⟨tI, none⟩]), (false, [⟨.bool, none⟩])] fun | 5 => some [.box 1 200001 [.keep, .keep, .keep, .keep, .keep], .box 2 200002 [.keep, .keep, .keep, .keep, .keep], .box 4 200004 [.row 300400 (tI) true false, .row 300401 (tS) false false, .keep, .keep, .keep], .keep 5] | _ => none
noncomputable def bp : Fi := fiOf Tryz.f111 [.v tT true] [(true, [⟨tR, some (true, true)⟩, ⟨tI, none⟩]), (false, [⟨.bool, none⟩])] h0
noncomputable abbrev slices_Grow_int_fi : Fi := growFi
noncomputable def xj : Fi := fiOf Tryz.f176 [.v tW false] [(false, [⟨tR, some (true, false)⟩])] fun | 3 => some [.keep 0, .keep 3, .keep 9, .keep 10, .keep 11] | 11 => some [.cell 6 (.row 100006 (tI) true false), .keep 25, .keep 26, .keep 27] | _ => none
noncomputable abbrev slices_Reverse_int_fi : Fi := reverseFi
noncomputable def Yk : Fi := fiOf Tryz.f177 [.v tR false] [(false, [⟨tR, some (true, false)⟩])] h0
noncomputable def Ub : Fi := fiOf Tryz.f179 [.v tR false, .v tI false] [(false, [⟨tR, some (true, true)⟩])] fun | 4 => some [.keep 5, .keep 6, .cell 7 (.row 100007 (tI) true true), .keep 8] | _ => none
noncomputable def Xe : Fi := fiOf Tryz.f180 [.v tR false, .v tI false] [(false, [⟨tR, some (true, false)⟩])] fun | 3 => some [.keep 1, .cell 5 (.row 100005 (tI) true false), .keep 8, .keep 9, .keep 10] | _ => none
noncomputable def V9 : Fi := fiOf Tryz.f181 [.v tR false] [(false, [⟨tR, some (true, false)⟩])] fun | 2 => some [.keep 0, .cell 3 (.row 100003 (tI) true false)] | _ => none
noncomputable def Xg : Fi := fiOf Tryz.f182 [.v tR false, .v tI false] [(false, [⟨tR, some (true, true)⟩])] fun | 4 => some [.cell 5 (.row 100005 (tI) true true), .cell 6 (.row 100006 (tI) true false), .keep 7] | _ => none
noncomputable def Yt : Fi := fiOf Tryz.f178 [.v tI false] [(false, [⟨tI, none⟩])] h0
noncomputable def Xc : Fi := fiOf Tryz.f144 [.v tR false, .v (.pair tI tI) true] [(false, [⟨tR, some (true, false)⟩])] fun | 10 => some [.keep 5, .cell 6 (.row 100006 (tI) true false), .keep 7] | _ => none
noncomputable def Ud : Fi := fiOf Tryz.f206 [.v tR false] [(false, [⟨tW, some (true, true)⟩])] fun | 3 => some [.keep 0, .cell 3 (.row 100003 (tR) true true), .keep 6, .keep 7] | _ => none
noncomputable def jR : Fi := fiOf Tryz.f207 [.v tR false, .v tI false] [(false, [⟨tR, some (true, true)⟩])] fun | 3 => some [.keep 0, .keep 1, .keep 5, .keep 6, .keep 11, .keep 12] | 9 => some [.keep 0, .keep 1, .keep 5, .keep 6, .cell 8 (.row 100008 (tI) true true), .keep 24, .keep 25] | _ => none
noncomputable def WJ : Fi := fiOf Tryz.f183 [.v tR false, .v tI false] [(false, [⟨tW, some (true, false)⟩]), (false, [⟨.bool, none⟩])] fun | 9 => some [.keep 0, .cell 6 (.row 100006 (tR) true true), .keep 7] | 20 => some [.keep 0, .cell 8 (.row 100008 (tR) true true), .keep 48, .keep 49] | _ => none
noncomputable abbrev slices_SortFunc_int_int_fi : Fi := (sortFi 209)
noncomputable abbrev slices_CompactFunc_int_int_fi : Fi := compactFi
noncomputable def uB : Fi := fiOf Tryz.f184 [.v tW false] [(false, [⟨tW, some (true, false)⟩])] fun | 3 => some [.cell 3 (.row 100003 (tR) true true), .keep 6, .keep 7, .keep 8] | _ => none
noncomputable def aP : Fi := fiOf Tryz.f145 [.v tR false, .v tI false] [(false, [⟨tW, some (true, false)⟩]), (false, [⟨.bool, none⟩])] h0
noncomputable def jm : Fi := fiOf Tryz.f75 [.v tC true, .v tS true] [(false, [⟨tD, some (true, false)⟩])] fun | 11 => some [.box 2 200002 [.keep, .keep], .cell 5 (.row 100005 (tC) true true), .cell 67 (.row 440067 (tR) true false), .keep 68, .keep 69] | _ => none
noncomputable abbrev strconv_Itoa_fi : Fi := itoaFi
noncomputable def aQ : Fi := fiOf Tryz.f104 [.v tI false] [(false, [⟨.str, none⟩])] h0
noncomputable def gg : Fi := fiOf Tryz.f152 [.v tR false] [(false, [⟨.slice .str, some (true, true)⟩])] fun | 3 => some [.cell 3 (.row 100003 (.str) true true), .keep 6, .keep 7, .keep 8] | _ => none
noncomputable abbrev strings_Join_fi : Fi := joinFi
noncomputable def Qz : Fi := fiOf Tryz.f125 [.v (.slice .str) false, .v .str false] [(false, [⟨.str, none⟩])] h0
noncomputable def eh : Fi := fiOf Tryz.f105 [.v tR false] [(false, [⟨.str, none⟩])] h0
noncomputable def TL : Fi := fiOf Tryz.f78 [.v tC true] [(false, [⟨.str, none⟩])] h0
noncomputable def je : Fi := fiOf Tryz.f64 [.v tT true] [(false, [⟨.slice tD, some (true, false)⟩]), (false, [⟨.bool, none⟩])] fun | 4 => some [.cell 6 (.row 450006 (tD) true false), .keep 25, .keep 26, .keep 27] | 9 => some [.cell 6 (.row 420006 (tC) true false), .box 8 200008 [.keep, .keep, .keep, .keep], .cell 9 (.row 430009 (.bool) false false), .cell 10 (.row 450010 (tC) true true), .keep 25, .keep 26, .keep 27, .cell 36 (.row 450036 (tC) true false), .keep 37, .keep 38] | 12 => some [.cell 6 (.row 420006 (tC) true false), .box 8 200008 [.keep, .keep, .keep, .keep], .cell 9 (.row 430009 (.bool) false false), .cell 10 (.row 450010 (tC) true true), .keep 25, .keep 26, .keep 27, .cell 36 (.row 450036 (tC) true false), .keep 37, .keep 38, .cell 44 (.row 440044 (tC) true false), .keep 45, .keep 46] | _ => none
noncomputable def aS : Fi := fiOf Tryz.f15 [.v tT true] [(false, [⟨tD, some (true, false)⟩]), (false, [⟨.bool, none⟩])] h0
noncomputable def jr : Fi := fiOf Tryz.f16 [.v tT true] [(false, [⟨tI, none⟩])] fun | 5 => some [.keep 3, .keep 10, .keep 11, .keep 12] | _ => none
noncomputable def slices_Equal_int_fi : Fi := fiOf Tryz.f65 [.v tR false, .v tR false] [(false, [⟨.bool, none⟩])] fun | 4 => some [.keep 0, .keep 1, .keep 12, .keep 13] | _ => none
noncomputable def aO : Fi := fiOf Tryz.f17 [.v tC true, .v tC true] [(false, [⟨.bool, none⟩])] h0
noncomputable def wI : Fi := fiOf Tryz.f3 [.v (.slice (.int .u8)) false] [(false, [⟨.bool, none⟩])] fun | 10 => some [.box 4 200004 [.row 300400 (tI) true false, .row 300401 (tS) false false, .keep, .keep, .keep], .cell 8 (.val (tD)), .cell 65 (.row 100065 (tC) false false), .keep 66, .keep 67] | 14 => some [.box 4 200004 [.row 300400 (tI) true false, .row 300401 (tS) false false, .keep, .keep, .keep], .cell 8 (.val (tD)), .box 11 200011 [.keep, .keep], .keep 12, .cell 65 (.row 100065 (tC) false false), .keep 66, .keep 67, .cell 71 (.val (tD)), .keep 72, .keep 73] | 22 => some [.box 4 200004 [.row 300400 (tI) true false, .val (tQ), .keep, .keep, .keep], .keep 15] | _ => none
noncomputable def uF : Fi := fiOf Tryz.f156 [.v tI false, .r tR] [(false, [⟨.bool, none⟩])] h0
noncomputable def zF : Fi := fiOf Tryz.f157 [.v tR false, .fn 156 [tR]] [(false, [⟨tI, none⟩])] fun | 2 => some [.keep 0, .keep 1, .keep 7, .keep 8] | _ => none
noncomputable def z6 : Fi := fiOf Tryz.f155 [.v tR false, .fn 156 [tR]] [(false, [⟨.bool, none⟩])] h0
noncomputable def jU : Fi := fiOf Tryz.f108 [.v tR false, .v tR false] [(false, [⟨.bool, none⟩])] h0
noncomputable def QA : Fi := fiOf Tryz.f124 [.v tI false] [(false, [⟨.bool, none⟩])] h0
noncomputable def bx : Fi := fiOf Tryz.f110 [.v tR false] [(false, [⟨tI, none⟩])] fun | 3 => some [.keep 3, .keep 6, .keep 7, .keep 8] | _ => none
noncomputable def bz : Fi := fiOf Tryz.f40 [.v tT true, .v tC true] [(false, [⟨.bool, none⟩])] h0
noncomputable def gN : Fi := fiOf Tryz.f73 [.v tC true, .r tT] [(false, [⟨.bool, none⟩])] h0
noncomputable def zC : Fi := fiOf Tryz.f76 [.v tD false, .fn 73 [tT]] [(false, [⟨tI, none⟩])] fun | 2 => some [.keep 0, .keep 1, .keep 7, .keep 8] | _ => none
noncomputable def zV : Fi := fiOf Tryz.f72 [.v tD false, .fn 73 [tT]] [(false, [⟨.bool, none⟩])] h0
noncomputable def aK : Fi := fiOf Tryz.f143 [.v tC true, .r (.slice .set), .r tI] [(false, [⟨.bool, none⟩])] h0
noncomputable def zH : Fi := fiOf Tryz.f76 [.v tD false, .fn 143 [.slice .set, tI]] [(false, [⟨tI, none⟩])] fun | 2 => some [.keep 0, .keep 1, .keep 7, .keep 8] | _ => none
noncomputable def ye : Fi := fiOf Tryz.f72 [.v tD false, .fn 143 [.slice .set, tI]] [(false, [⟨.bool, none⟩])] h0
noncomputable def jS : Fi := fiOf Tryz.f74 [.v tT true, .v (.slice tD) false] [(false, [⟨.slice .set, some (true, false)⟩])] fun | 3 => some [.keep 1, .box 2 200002 [.keep, .keep, .keep, .keep, .keep], .box 5 200005 [.row 300500 (.set) true false], .box 6 200006 [.keep]] | 7 => some [.keep 1, .box 2 200002 [.keep, .keep, .keep, .keep, .keep], .box 5 200005 [.row 300500 (.set) true false], .box 6 200006 [.keep], .keep 27, .keep 28, .keep 29] | _ => none
noncomputable def gM : Fi := fiOf Tryz.f77 [.v tC true, .r (.slice .set), .r tI] [(false, [⟨.bool, none⟩])] h0
noncomputable def zB : Fi := fiOf Tryz.f76 [.v tD false, .fn 77 [.slice .set, tI]] [(false, [⟨tI, none⟩])] fun | 2 => some [.keep 0, .keep 1, .keep 7, .keep 8] | _ => none
noncomputable def aM : Fi := fiOf Tryz.f79 [.v tC true] [(true, [⟨tR, some (true, false)⟩, ⟨tI, none⟩])] h0
noncomputable def ju : Fi := fiOf Tryz.f21 [.v tT true] [(true, [⟨tI, none⟩, ⟨tR, some (true, true)⟩, ⟨tR, some (true, false)⟩, ⟨tI, none⟩]), (false, [⟨.bool, none⟩])] fun | 12 => some [.box 2 200002 [.keep, .keep, .keep, .keep], .box 6 200006 [.keep, .keep], .box 7 200007 [.row 300700 (.set) true false], .box 8 200008 [.keep, .row 300801 (tI) true true, .keep, .keep], .keep 45, .keep 46, .keep 47] | _ => none
noncomputable def TN : Fi := fiOf Tryz.f90 [.v tT true] [(false, [⟨.bool, none⟩])] h0
noncomputable def Yy : Fi := fiOf Tryz.f98 [.v tT true, .v tI false] [(true, [⟨tR, some (true, false)⟩, ⟨tQ, some (false, false)⟩, ⟨tI, none⟩, ⟨tI, none⟩, ⟨tI, none⟩]), (false, [⟨.bool, none⟩])] h0
noncomputable def Yo : Fi := fiOf Tryz.f91 [.v tT true, .v tI false] [(false, [⟨.bool, none⟩])] h0
noncomputable def vu : Fi := fiOf Tryz.f34 [.v tT true] [(true, [⟨tR, some (true, false)⟩, ⟨tQ, some (false, false)⟩, ⟨tI, none⟩, ⟨tI, none⟩, ⟨tI, none⟩]), (false, [⟨.bool, none⟩])] fun | 5 => some [.box 2 200002 [.keep, .keep, .keep, .keep, .keep], .box 4 200004 [.row 300400 (tI) true false, .row 300401 (tS) false false, .keep, .keep, .keep], .keep 5] | _ => none
noncomputable def vC : Fi := fiOf Tryz.f43 [.v tT true] [(false, [⟨tI, none⟩])] fun | 5 => some [.keep 3, .keep 10, .keep 11, .keep 12] | _ => none
noncomputable def WV : Fi := fiOf Tryz.f44 [.v tR false, .v tR false] [(false, [⟨.bool, none⟩])] fun | 4 => some [.keep 1, .keep 12, .keep 13, .keep 14] | _ => none
noncomputable def Yv : Fi := fiOf Tryz.f28 [.v tT true, .v tI false] [(false, [⟨.bool, none⟩])] h0
noncomputable def xK : Fi := fiOf Tryz.f112 [.v tQ false, .v tQ false] [(false, [⟨.bool, none⟩])] fun | 4 => some [.keep 0, .keep 1, .keep 12, .keep 13] | _ => none
noncomputable def aN : Fi := fiOf Tryz.f45 [.v tT true, .v tT true] [(false, [⟨.bool, none⟩])] h0
noncomputable def jE : Fi := fiOf Tryz.f10 [.v (.slice (.int .u8)) false] [(false, [⟨.bool, none⟩])] fun | 9 => some [.box 4 200004 [.row 300400 (tI) true false, .row 300401 (tS) false false, .keep, .keep, .keep], .keep 82, .keep 83] | _ => none
noncomputable def fnL : List (Nat × List Nat × Fi) := [(58, [], Zi), (163, [], XN), (133, [], ZW), (131, [], XL), (88, [], Ts), (134, [], ga), (61, [], ZM), (162, [], uS), (120, [], cL), (187, [], XJ), (188, [], XH), (153, [], XE), (154, [], Vu), (107, [], cd), (169, [], XM), (170, [], Vk), (132, [], vq), (59, [], eR), (159, [], Zh), (116, [], fg), (160, [], Vp), (161, [], ao), (117, [], Vm), (139, [], uY), (118, [], ZP), (47, [], cO), (200, [], ZX), (195, [], cH), (196, [], cB), (197, [], fc), (198, [], cx), (199, [], cD), (171, [], Tq), (202, [], cq), (203, [], ZQ), (173, [], bQ), (141, [], uW), (220, [], cf), (201, [], fb), (172, [], fU), (137, [], cb), (94, [], aw), (138, [], eT), (68, [], ua), (174, [], RY), (140, [], cR), (69, [], ZN), (19, [], u6), (60, [], ZL), (13, [], u4), (109, [], Uq), (113, [], fB), (128, [], Um), (114, [], Ug), (158, [], gK), (157, [158], zL), (115, [], br), (46, [], bn), (135, [], xA), (136, [], yQ), (62, [], aL), (63, [], slices_Delete_i_Step_fi), (14, [], gj), (111, [], bp), (204, [], slices_Grow_int_fi), (176, [], xj), (205, [], slices_Reverse_int_fi), (177, [], Yk), (179, [], Ub), (180, [], Xe), (181, [], V9), (182, [], Xg), (178, [], Yt), (144, [], Xc), (206, [], Ud), (207, [], jR), (183, [], WJ), (208, [209], slices_SortFunc_int_int_fi), (210, [65], slices_CompactFunc_int_int_fi), (184, [], uB), (145, [], aP), (75, [], jm), (151, [], strconv_Itoa_fi), (104, [], aQ), (152, [], gg), (166, [], strings_Join_fi), (125, [], Qz), (105, [], eh), (78, [], TL), (64, [], je), (15, [], aS), (16, [], jr), (65, [], slices_Equal_int_fi), (17, [], aO), (3, [], wI), (156, [], uF), (157, [156], zF), (155, [156], z6), (108, [], jU), (124, [], QA), (110, [], bx), (40, [], bz), (73, [], gN), (76, [73], zC), (72, [73], zV), (143, [], aK), (76, [143], zH), (72, [143], ye), (74, [], jS), (77, [], gM), (76, [77], zB), (79, [], aM), (21, [], ju), (90, [], TN), (98, [], Yy), (91, [], Yo), (34, [], vu), (43, [], vC), (44, [], WV), (28, [], Yv), (112, [], xK), (45, [], aN), (10, [], jE)]
noncomputable def E : Env := ⟨lookT tyL, lookF fnL⟩
noncomputable def Sl (k : Nat) (x : List Int) : Option ((List Int) × Int × Int) := aFn E Zi k x
noncomputable def fe (k : Nat) (v0 : List Int) (v3 v4 : Int) : Option ((List Int) × Int × Int) := zR E k Zi 3 [(0, cw (.slice (.int .u8)) v0), (3, ci v3), (4, ci v4)] []
noncomputable def uU (k : Nat) (x : (List Int) × Int × Int) : Option (Int × (List Int) × Int × Int) := aFn E XN k x
noncomputable def zh (k : Nat) (x : ((List Int) × Int × Int) × Int) : Option (Int × (List Int) × Int × Int) := aFn E ZW k x
noncomputable def ue (k : Nat) (x : ((List Int) × Int × Int) × Int) : Option (Bool × (List Int) × Int × Int) := aFn E XL k x
noncomputable def xc (k : Nat) (x : Int × Int × Int) : Option Bool := aFn E Ts k x
noncomputable def vr (k : Nat) (x : Int) : Option (List Int) := aFn E ga k x
noncomputable def vK (k : Nat) (v0 v4 : Int) (p3 : List Int) : Option (List Int) := zR E k ga 5 [(0, ci v0), (3, co 100003), (4, ci v4)] [(100003, .row tI p3 true false)]
noncomputable def vp (k : Nat) (x : (List Int) × Int × Int) : Option (((List Int) × (List dS) × Int × Int × Int) × (List Int) × Int × Int) := aFn E ZM k x
noncomputable def cK (k : Nat) (x : ((List Int) × Int × Int) × Int) : Option ((List Int) × (List Int) × Int × Int) := aFn E uS k x
noncomputable def wY (k : Nat) (v1 v6 : Int) (p5 z_0 : List Int) (z_1 z_2 : Int) : Option ((List Int) × (List Int) × Int × Int) := zR E k uS 3 [(0, .adr 500000 0), (1, ci v1), (5, co 100005), (6, ci v6)] [(100005, .row tI p5 true false), (500000, .box [.val (.slice (.int .u8)) z_0, .val tI z_1, .val tI z_2])]
noncomputable def cM (k : Nat) (x : ((List Int) × Int × Int) × Int) : Option ((List Int) × (List Int) × Int × Int) := aFn E cL k x
noncomputable def ud (k : Nat) (v16 v17 : Int) (p5 z_0 : List Int) (z_1 z_2 : Int) : Option ((List Int) × (List Int) × Int × Int) := zR E k cL 4 [(0, .adr 500000 0), (5, co 100005), (16, ci v16), (17, ci v17)] [(100005, .row tI p5 true false), (500000, .box [.val (.slice (.int .u8)) z_0, .val tI z_1, .val tI z_2])]
noncomputable def gv (k : Nat) (x : ((List Int) × Int × Int) × List Int) : Option (Int × (List Int) × Int × Int) := aFn E XJ k x
noncomputable def cE (k : Nat) (x : ((List Int) × Int × Int) × Int) : Option ((Int × Int) × (List Int) × Int × Int) := aFn E XH k x
noncomputable def gr (k : Nat) (x : ((List Int) × Int × Int) × Int) : Option ((Int × Int × Int × Int) × (List Int) × Int × Int) := aFn E XE k x
noncomputable def fh (k : Nat) (x : Int) : Option Int := aFn E Vu k x
noncomputable def ZO (k : Nat) (x : (List Int) × Int × Int) : Option (((List Int) × (List dS) × Int × Int × Int) × (List Int) × Int × Int) := aFn E cd k x
noncomputable def xS (k : Nat) (v4 : Int) (v5 : Bool) (v6 q2_2 q2_3 q2_4 q3_2 q3_3 q3_4 : Int) (r300 : List Int) (r301 : List dS) (z_0 : List Int) (z_1 z_2 : Int) : Option (((List Int) × (List dS) × Int × Int × Int) × (List Int) × Int × Int) := zR E k cd 7 [(0, .adr 500000 0), (2, .adr 200002 0), (3, .adr 200003 0), (4, ci v4), (5, cw .bool v5), (6, ci v6)] [(200002, .box [.nil, .nil, .val tI q2_2, .val tI q2_3, .val tI q2_4]), (200003, .box [.own 300300, .own 300301, .val tI q3_2, .val tI q3_3, .val tI q3_4]), (300300, .row tI r300 true false), (300301, .row tS r301 true true), (500000, .box [.val (.slice (.int .u8)) z_0, .val tI z_1, .val tI z_2])]
noncomputable def uf (k : Nat) (x : ((List Int) × Int × Int) × Int × Int) : Option (Int × (List Int) × Int × Int) := aFn E XM k x
noncomputable def Sk (k : Nat) (x : (List Int) × Int × Int) : Option ((List Int) × (List Int) × Int × Int) := aFn E Vk k x
noncomputable def Sf (k : Nat) (x : (List Int) × Int × Int) : Option (((List Int) × (List dS) × Int × Int × Int) × (List Int) × Int × Int) := aFn E vq k x
noncomputable def Vc (k : Nat) (x : (List Int) × Int × Int) : Option (((List Int) × (List dS) × Int × Int × Int) × (List Int) × Int × Int) := aFn E eR k x
noncomputable def vX (k : Nat) (v4 v5 q2_2 q2_3 q2_4 : Int) (q3_1 : List dS) (q3_2 q3_3 q3_4 : Int) (r300 z_0 : List Int) (z_1 z_2 : Int) : Option (((List Int) × (List dS) × Int × Int × Int) × (List Int) × Int × Int) := zR E k eR 6 [(0, .adr 500000 0), (2, .adr 200002 0), (3, .adr 200003 0), (4, ci v4), (5, ci v5)] [(200002, .box [.nil, .nil, .val tI q2_2, .val tI q2_3, .val tI q2_4]), (200003, .box [.own 300300, .val tQ q3_1, .val tI q3_2, .val tI q3_3, .val tI q3_4]), (300300, .row tI r300 true true), (500000, .box [.val (.slice (.int .u8)) z_0, .val tI z_1, .val tI z_2])]
noncomputable def Sj (k : Nat) (x : (List Int) × Int) : Option Bool := aFn E Zh k x
noncomputable def fd (k : Nat) (v1 : Int) (v7 : List Int) (v8 v9 : Int) : Option Bool := zR E k Zh 2 [(1, ci v1), (7, cw tR v7), (8, ci v8), (9, ci v9)] []
noncomputable def Y6 (k : Nat) (x : List Int) : Option Bool := aFn E fg k x
noncomputable def uI (k : Nat) (v11 : List Int) (v12 v13 : Int) (p3 : List Int) : Option Bool := zR E k fg 5 [(3, co 100003), (11, cw tR v11), (12, ci v12), (13, ci v13)] [(100003, .row tI p3 true false)]
noncomputable def Sr (k : Nat) (x : Int × Int × Int) : Option Bool := aFn E Vp k x
noncomputable def Zg (k : Nat) (x : Int × Int) : Option Bool := aFn E ao k x
noncomputable def So (k : Nat) (x : Int × dS) : Option Bool := aFn E Vm k x
noncomputable def uh (k : Nat) (x : (List Int) × Int) : Option Int := aFn E uY k x
noncomputable def xq (k : Nat) (v1 : Int) (v7 : List Int) (v8 v9 : Int) : Option Int := zR E k uY 2 [(1, ci v1), (7, cw tR v7), (8, ci v8), (9, ci v9)] []
noncomputable def Y5 (k : Nat) (x : dT × Int × Bool) : Option Bool := aFn E ZP k x
noncomputable def Vl (k : Nat) (x : dT) : Option Bool := aFn E cO k x
noncomputable def ug (k : Nat) (v3 : Int) (v4 : Bool) (v25 : List dS) (v26 v27 : Int) (q1_0 : List Int) (q1_1 : List dS) (q1_2 q1_3 q1_4 : Int) : Option Bool := zR E k cO 6 [(1, .adr 200001 0), (3, ci v3), (4, cw .bool v4), (25, cw tQ v25), (26, ci v26), (27, ci v27)] [(200001, .box [.val tR q1_0, .val tQ q1_1, .val tI q1_2, .val tI q1_3, .val tI q1_4])]
noncomputable def bS (k : Nat) (x : Int) : Option Int := aFn E ZX k x
noncomputable def cJ (k : Nat) (x : (List Int) × Int × Bool) : Option (List Int) := aFn E cH k x
noncomputable def uc (k : Nat) (v0 : List Int) (v1 : Int) (v2 : Bool) (v8 : Int) (p7 : List Int) : Option (List Int) := zR E k cH 3 [(0, cw tR v0), (1, ci v1), (2, cw .bool v2), (7, co 100007), (8, ci v8)] [(100007, .row tI p7 true false)]
noncomputable def Vh (k : Nat) (x : (List Int) × Int) : Option (List Int) := aFn E cB k x
noncomputable def yA (k : Nat) (v1 : Int) (v5 v6 p7 : List Int) : Option (List Int) := zR E k cB 4 [(1, ci v1), (5, cw tR v5), (6, cw tR v6), (7, co 100007)] [(100007, .row tI p7 true false)]
noncomputable def Tp (k : Nat) (x : (List Int) × Int) : Option (List Int) := aFn E fc k x
noncomputable def wc (k : Nat) (v1 : Int) (v9 : List Int) (v10 v11 : Int) (p5 : List Int) : Option (List Int) := zR E k fc 3 [(1, ci v1), (5, co 100005), (9, cw tR v9), (10, ci v10), (11, ci v11)] [(100005, .row tI p5 true false)]
noncomputable def RN (k : Nat) (x : List Int) : Option (List Int) := aFn E cx k x
noncomputable def jJ (k : Nat) (v0 p3 : List Int) : Option (List Int) := zR E k cx 2 [(0, cw tR v0), (3, co 100003)] [(100003, .row tI p3 true false)]
noncomputable def RR (k : Nat) (x : (List Int) × Int) : Option (List Int) := aFn E cD k x
noncomputable def ub (k : Nat) (v7 : Int) (p5 p6 : List Int) : Option (List Int) := zR E k cD 4 [(5, co 100005), (6, co 100006), (7, ci v7)] [(100005, .row tI p5 true false), (100006, .row tI p6 true false)]
noncomputable def Si (k : Nat) (x : (List Int) × Int × Int) : Option (List Int) := aFn E Tq k x
noncomputable def ZV (k : Nat) (x : List Int) : Option (List (List Int)) := aFn E cq k x
noncomputable def jI (k : Nat) (v0 : List Int) (v7 v8 : Int) (p3 : List (List Int)) : Option (List (List Int)) := zR E k cq 3 [(0, cw tR v0), (3, co 100003), (7, ci v7), (8, ci v8)] [(100003, .row tR p3 true false)]
noncomputable def wb (k : Nat) (x : (List (List Int)) × (List Int) × (List Int) × List Int) : Option (List (List Int)) := aFn E ZQ k x
noncomputable def Q8 (k : Nat) (x : (List Int) × Int) : Option (List (List Int)) := aFn E bQ k x
noncomputable def bP (k : Nat) (v0 : List Int) (v6 : Int) (p5 : List (List Int)) : Option (List (List Int)) := zR E k bQ 7 [(0, cw tR v0), (5, co 100005), (6, ci v6)] [(100005, .row tR p5 false false)]
noncomputable def fa (k : Nat) (v0 v40 : List Int) (v41 v42 : Int) (p5 : List (List Int)) : Option (List (List Int)) := zR E k bQ 15 [(0, cw tR v0), (5, co 100005), (40, cw tR v40), (41, ci v41), (42, ci v42)] [(100005, .row tR p5 true false)]
noncomputable def zW (k : Nat) (x : (List Int) × List Int) : Option Bool := aFn E uW k x
noncomputable def xT (k : Nat) (v1 v12 : List Int) (v13 v14 : Int) : Option Bool := zR E k uW 4 [(1, cw tR v1), (12, cw tR v12), (13, ci v13), (14, ci v14)] []
noncomputable def ZU (k : Nat) (x : (List Int) × List Int) : Option Bool := aFn E cf k x
noncomputable def jH (k : Nat) (v0 v1 v7 : List Int) (v8 v9 : Int) : Option Bool := zR E k cf 2 [(0, cw tR v0), (1, cw tR v1), (7, cw tR v7), (8, ci v8), (9, ci v9)] []
noncomputable def bR (k : Nat) (x : (List (List Int)) × List (List Int)) : Option (List (List Int)) := aFn E fb k x
noncomputable def zg (k : Nat) (v0 v1 wa5 : List (List Int)) : Option (List (List Int)) := zR E k fb 2 [(0, cw tW v0), (1, cw tW v1), (5, co 450005)] [(450005, .row tR wa5 true false)]
noncomputable def wZ (k : Nat) (x : List (List Int)) : Option (List (List Int)) := aFn E fU k x
noncomputable def Vf (k : Nat) (x : dC × dS) : Option (List dC) := aFn E cb k x
noncomputable def jG (k : Nat) (v43 v44 : Int) (q2_0 : List Int) (q2_1 : Int) (p5 : List dC) (p42 : List (List Int)) : Option (List dC) := zR E k cb 8 [(2, .adr 200002 0), (5, co 100005), (42, co 100042), (43, ci v43), (44, ci v44)] [(200002, .box [.val tR q2_0, .val tI q2_1]), (100005, .row tC p5 false false), (100042, .row tR p42 false false)]
noncomputable def Zj (k : Nat) (x : dC × dC) : Option Bool := aFn E aw k x
noncomputable def Vd (k : Nat) (x : (List dC) × dC) : Option Int := aFn E eT k x
noncomputable def jF (k : Nat) (v7 : List dC) (v8 v9 : Int) (q3_0 : List Int) (q3_1 : Int) : Option Int := zR E k eT 2 [(3, .adr 200003 0), (7, cw tD v7), (8, ci v8), (9, ci v9)] [(200003, .box [.val tR q3_0, .val tI q3_1])]
noncomputable def Ve (k : Nat) (x : dT) : Option ((List dC) × (List (List Int)) × Bool) := aFn E ua k x
noncomputable def vZ (k : Nat) (v25 : List dS) (v26 v27 : Int) (p5 : List dC) (p6 : List (List Int)) : Option ((List dC) × (List (List Int)) × Bool) := zR E k ua 4 [(5, co 100005), (6, co 100006), (25, cw tQ v25), (26, ci v26), (27, ci v27)] [(100005, .row tC p5 false false), (100006, .row tR p6 true false)]
noncomputable def vY (k : Nat) (v25 : List dS) (v26 v27 v34 v35 : Int) (p6 : List (List Int)) (q8_0 q8_1 q8_2 q8_3 : Int) (p9 : List dC) (p10 : List (List Int)) (p33 : List dC) : Option ((List dC) × (List (List Int)) × Bool) := zR E k ua 9 [(6, co 100006), (8, .adr 200008 0), (9, co 100009), (10, co 100010), (25, cw tQ v25), (26, ci v26), (27, ci v27), (33, co 100033), (34, ci v34), (35, ci v35)] [(100006, .row tR p6 false false), (200008, .box [.val tI q8_0, .val tI q8_1, .val tI q8_2, .val tI q8_3]), (100009, .row tC p9 false false), (100010, .row tR p10 true false), (100033, .row tC p33 false false)]
noncomputable def wa (k : Nat) (v11 : Int) (v25 : List dS) (v26 v27 v34 v35 v43 v44 : Int) (p6 : List (List Int)) (q8_0 q8_1 q8_2 q8_3 : Int) (p9 : List dC) (p10 : List (List Int)) (p33 p42 : List dC) : Option ((List dC) × (List (List Int)) × Bool) := zR E k ua 12 [(6, co 100006), (8, .adr 200008 0), (9, co 100009), (10, co 100010), (11, ci v11), (25, cw tQ v25), (26, ci v26), (27, ci v27), (33, co 100033), (34, ci v34), (35, ci v35), (42, co 100042), (43, ci v43), (44, ci v44)] [(100006, .row tR p6 false false), (200008, .box [.val tI q8_0, .val tI q8_1, .val tI q8_2, .val tI q8_3]), (100009, .row tC p9 false false), (100010, .row tR p10 true false), (100033, .row tC p33 false false), (100042, .row tC p42 false false)]
noncomputable def M4 (k : Nat) (x : Int) : Option Bool := aFn E RY k x
noncomputable def R0 (k : Nat) (x : List Int) : Option Int := aFn E cR k x
noncomputable def ui (k : Nat) (v3 : Int) (v6 : List Int) (v7 v8 : Int) : Option Int := zR E k cR 3 [(3, ci v3), (6, cw tR v6), (7, ci v7), (8, ci v8)] []
noncomputable def Y4 (k : Nat) (x : dT × dC) : Option Bool := aFn E ZN k x
noncomputable def cS (k : Nat) (x : dT) : Option (Int × (List Int) × (List Int) × Int × Bool) := aFn E u6 k x
noncomputable def w7 (k : Nat) (v5 : List (List Int)) (v23 v24 : Int) (q1_0 : List Int) (q1_1 : List dS) (q1_2 q1_3 q1_4 q2_0 q2_3 : Int) (p22 : List dC) : Option (Int × (List Int) × (List Int) × Int × Bool) := zR E k u6 7 [(1, .adr 200001 0), (2, .adr 200002 0), (5, cw tW v5), (22, co 100022), (23, ci v23), (24, ci v24)] [(200001, .box [.val tR q1_0, .val tQ q1_1, .val tI q1_2, .val tI q1_3, .val tI q1_4]), (200002, .box [.val tI q2_0, .nil, .nil, .val tI q2_3]), (100022, .row tC p22 false false)]
noncomputable def Y3 (k : Nat) (x : dT) : Option Bool := aFn E ZL k x
noncomputable def jN (k : Nat) (x : List Int) : Option ((List Int) × (List dS) × Int × Int × Int) := aFn E u4 k x
noncomputable def w6 (k : Nat) (v4 q2_2 q2_3 q2_4 : Int) (q3_0 : List Int) (q3_1 q3_2 : Int) : Option ((List Int) × (List dS) × Int × Int × Int) := zR E k u4 3 [(2, .adr 200002 0), (3, .adr 200003 0), (4, ci v4)] [(200002, .box [.nil, .nil, .val tI q2_2, .val tI q2_3, .val tI q2_4]), (200003, .box [.val (.slice (.int .u8)) q3_0, .val tI q3_1, .val tI q3_2])]
noncomputable def vQ (k : Nat) (x : Int) : Option Int := aFn E Uq k x
noncomputable def vw (k : Nat) (x : List Int) : Option Bool := aFn E fB k x
noncomputable def uK (k : Nat) (v7 : List Int) (v8 v9 : Int) (s3 : List Bool) : Option Bool := zR E k fB 3 [(3, .adr 400003 0), (7, cw tR v7), (8, ci v8), (9, ci v9)] [(400003, .arr .bool s3)]
noncomputable def SM (k : Nat) (x : Int × Int × Int) : Option Bool := aFn E Um k x
noncomputable def WK (k : Nat) (x : Int × dS) : Option Bool := aFn E Ug k x
noncomputable def gh (k : Nat) (x : Int × Int) : Option Bool := aFn E gK k x
noncomputable def yE (k : Nat) (x : (List Int) × Int) : Option Int := aFn E zL k x
noncomputable def zv (k : Nat) (v0 : List Int) (v1_0_0 v7 v8 : Int) : Option Int := zR E k zL 2 [(0, cw tR v0), (1, .fn 158 [[.val tI v1_0_0]]), (7, ci v7), (8, ci v8)] []
noncomputable def jT (k : Nat) (x : (List Int) × Int) : Option Int := aFn E br k x
noncomputable def xW (k : Nat) (x : dT) : Option Bool := aFn E bn k x
noncomputable def uq (k : Nat) (v3 : Int) (v4 : Bool) (v25 : List dS) (v26 v27 : Int) (q1_0 : List Int) (q1_1 : List dS) (q1_2 q1_3 q1_4 : Int) : Option Bool := zR E k bn 6 [(1, .adr 200001 0), (3, ci v3), (4, cw .bool v4), (25, cw tQ v25), (26, ci v26), (27, ci v27)] [(200001, .box [.val tR q1_0, .val tQ q1_1, .val tI q1_2, .val tI q1_3, .val tI q1_4])]
noncomputable def zA (k : Nat) (x : List Int) : Option (List Int) := aFn E xA k x
noncomputable def wG (k : Nat) (x : List dS) : Option (List dS) := aFn E yQ k x
noncomputable def jf (k : Nat) (x : dT) : Option ((List Int) × (List dS) × Int × Int × Int) := aFn E aL k x
noncomputable def yq (k : Nat) (x : (List dS) × Int × Int) : Option (List dS) := aFn E slices_Delete_i_Step_fi k x
noncomputable def Zt (k : Nat) (x : dT) : Option ((List Int) × (List dS) × Int × Int × Int × Bool) := aFn E gj k x
noncomputable def z8 (k : Nat) (v5 : Int) (q1_0 : List Int) (q1_1 : List dS) (q1_2 q1_3 q1_4 q2_2 q2_3 q2_4 q4_2 q4_3 q4_4 : Int) (r400 : List Int) (r401 : List dS) : Option ((List Int) × (List dS) × Int × Int × Int × Bool) := zR E k gj 5 [(1, .adr 200001 0), (2, .adr 200002 0), (4, .adr 200004 0), (5, ci v5)] [(200001, .box [.val tR q1_0, .val tQ q1_1, .val tI q1_2, .val tI q1_3, .val tI q1_4]), (200002, .box [.nil, .nil, .val tI q2_2, .val tI q2_3, .val tI q2_4]), (200004, .box [.own 300400, .own 300401, .val tI q4_2, .val tI q4_3, .val tI q4_4]), (300400, .row tI r400 true false), (300401, .row tS r401 false false)]
noncomputable def bq (k : Nat) (x : dT) : Option ((List Int) × Int × Bool) := aFn E bp k x
noncomputable def uP (k : Nat) (x : (List Int) × Int) : Option (List Int) := aFn E slices_Grow_int_fi k x
noncomputable def yf (k : Nat) (x : List (List Int)) : Option (List Int) := aFn E xj k x
noncomputable def xi (k : Nat) (v0 : List (List Int)) (v3 : Int) (v9 : List (List Int)) (v10 v11 : Int) : Option (List Int) := zR E k xj 3 [(0, cw tW v0), (3, ci v3), (9, cw tW v9), (10, ci v10), (11, ci v11)] []
noncomputable def yW (k : Nat) (v25 : List (List Int)) (v26 v27 : Int) (p6 : List Int) : Option (List Int) := zR E k xj 11 [(6, co 100006), (25, cw tW v25), (26, ci v26), (27, ci v27)] [(100006, .row tI p6 true false)]
noncomputable def wT (k : Nat) (x : List Int) : Option (Unit × List Int) := aFn E slices_Reverse_int_fi k x
noncomputable def gG (k : Nat) (x : List Int) : Option (List Int) := aFn E Yk k x
noncomputable def LG (k : Nat) (x : (List Int) × Int) : Option (List Int) := aFn E Ub k x
noncomputable def xt (k : Nat) (v5 v6 : List Int) (v8 : Bool) (p7 : List Int) : Option (List Int) := zR E k Ub 4 [(5, cw tR v5), (6, cw tR v6), (7, co 100007), (8, cw .bool v8)] [(100007, .row tI p7 true true)]
noncomputable def LC (k : Nat) (x : (List Int) × Int) : Option (List Int) := aFn E Xe k x
noncomputable def uO (k : Nat) (v1 : Int) (v8 : List Int) (v9 v10 : Int) (p5 : List Int) : Option (List Int) := zR E k Xe 3 [(1, ci v1), (5, co 100005), (8, cw tR v8), (9, ci v9), (10, ci v10)] [(100005, .row tI p5 true false)]
noncomputable def Jz (k : Nat) (x : List Int) : Option (List Int) := aFn E V9 k x
noncomputable def Yn (k : Nat) (v0 p3 : List Int) : Option (List Int) := zR E k V9 2 [(0, cw tR v0), (3, co 100003)] [(100003, .row tI p3 true false)]
noncomputable def LH (k : Nat) (x : (List Int) × Int) : Option (List Int) := aFn E Xg k x
noncomputable def gI (k : Nat) (v7 : Bool) (p5 p6 : List Int) : Option (List Int) := zR E k Xg 4 [(5, co 100005), (6, co 100006), (7, cw .bool v7)] [(100005, .row tI p5 true true), (100006, .row tI p6 true false)]
noncomputable def b5 (k : Nat) (x : Int) : Option Int := aFn E Yt k x
noncomputable def V8 (k : Nat) (x : (List Int) × Int × Int) : Option (List Int) := aFn E Xc k x
noncomputable def fv (k : Nat) (v5 v7 : Int) (p6 : List Int) : Option (List Int) := zR E k Xc 10 [(5, ci v5), (6, co 100006), (7, ci v7)] [(100006, .row tI p6 true false)]
noncomputable def Nq (k : Nat) (x : List Int) : Option (List (List Int)) := aFn E Ud k x
noncomputable def Yr (k : Nat) (v0 : List Int) (v6 v7 : Int) (p3 : List (List Int)) : Option (List (List Int)) := zR E k Ud 3 [(0, cw tR v0), (3, co 100003), (6, ci v6), (7, ci v7)] [(100003, .row tR p3 true true)]
noncomputable def V7 (k : Nat) (x : (List Int) × Int) : Option (List Int) := aFn E jR k x
noncomputable def jQ (k : Nat) (v0 : List Int) (v1 v5 v6 v11 v12 : Int) : Option (List Int) := zR E k jR 3 [(0, cw tR v0), (1, ci v1), (5, ci v5), (6, ci v6), (11, ci v11), (12, ci v12)] []
noncomputable def um (k : Nat) (v0 : List Int) (v1 v5 v6 v24 v25 : Int) (p8 : List Int) : Option (List Int) := zR E k jR 9 [(0, cw tR v0), (1, ci v1), (5, ci v5), (6, ci v6), (8, co 100008), (24, ci v24), (25, ci v25)] [(100008, .row tI p8 true true)]
noncomputable def J2 (k : Nat) (x : (List Int) × Int) : Option ((List (List Int)) × Bool) := aFn E WJ k x
noncomputable def WI (k : Nat) (v0 : List Int) (v7 : Int) (p6 : List (List Int)) : Option ((List (List Int)) × Bool) := zR E k WJ 9 [(0, cw tR v0), (6, co 100006), (7, ci v7)] [(100006, .row tR p6 true true)]
noncomputable def Ys (k : Nat) (v0 : List Int) (v48 v49 : Int) (p8 : List (List Int)) : Option ((List (List Int)) × Bool) := zR E k WJ 20 [(0, cw tR v0), (8, co 100008), (48, ci v48), (49, ci v49)] [(100008, .row tR p8 true true)]
noncomputable def xz (k : Nat) (x : (List (List Int)) × Bool) : Option (Unit × List (List Int)) := aFn E slices_SortFunc_int_int_fi k x
noncomputable def yR (k : Nat) (x : (List (List Int)) × Bool) : Option (List (List Int)) := aFn E slices_CompactFunc_int_int_fi k x
noncomputable def fA (k : Nat) (x : List (List Int)) : Option (List (List Int)) := aFn E uB k x
noncomputable def wA (k : Nat) (v6 : List (List Int)) (v7 v8 : Int) (p3 : List (List Int)) : Option (List (List Int)) := zR E k uB 3 [(3, co 100003), (6, cw tW v6), (7, ci v7), (8, ci v8)] [(100003, .row tR p3 true true)]
noncomputable def Zs (k : Nat) (x : (List Int) × Int) : Option ((List (List Int)) × Bool) := aFn E aP k x
noncomputable def wK (k : Nat) (x : dC × dS) : Option (List dC) := aFn E jm k x
noncomputable def wB (k : Nat) (v68 v69 : Int) (q2_0 : List Int) (q2_1 : Int) (p5 : List dC) (va67 : List (List Int)) (va67_n : Nat) : Option (List dC) := zR E k jm 11 [(2, .adr 200002 0), (5, co 100005), (67, co 440067), (68, ci v68), (69, ci v69)] [(200002, .box [.val tR q2_0, .val tI q2_1]), (100005, .row tC p5 true true), (440067, .tl tR va67 va67_n)]
noncomputable def strconv_Itoa (k : Nat) (x : Int) : Option ByteArray := aFn E strconv_Itoa_fi k x
noncomputable def fD (k : Nat) (x : Int) : Option ByteArray := aFn E aQ k x
noncomputable def Zo (k : Nat) (x : List Int) : Option (List ByteArray) := aFn E gg k x
noncomputable def vN (k : Nat) (v6 : List Int) (v7 v8 : Int) (p3 : List ByteArray) : Option (List ByteArray) := zR E k gg 3 [(3, co 100003), (6, cw tR v6), (7, ci v7), (8, ci v8)] [(100003, .row .str p3 true true)]
noncomputable def strings_Join (k : Nat) (x : (List ByteArray) × ByteArray) : Option ByteArray := aFn E strings_Join_fi k x
noncomputable def LM (k : Nat) (x : (List ByteArray) × ByteArray) : Option ByteArray := aFn E Qz k x
noncomputable def fC (k : Nat) (x : List Int) : Option ByteArray := aFn E eh k x
noncomputable def fw (k : Nat) (x : dC) : Option ByteArray := aFn E TL k x
noncomputable def WH (k : Nat) (x : dT) : Option ((List (List dC)) × Bool) := aFn E je k x
noncomputable def jd (k : Nat) (v25 : List dS) (v26 v27 : Int) (wa6 : List (List dC)) : Option ((List (List dC)) × Bool) := zR E k je 4 [(6, co 450006), (25, cw tQ v25), (26, ci v26), (27, ci v27)] [(450006, .row tD wa6 true false)]
noncomputable def jc (k : Nat) (v25 : List dS) (v26 v27 v37 v38 : Int) (ta6 : List (List dC)) (ta6_i : Nat) (q8_0 q8_1 q8_2 q8_3 : Int) (ua9 : List ByteArray) (wa10 wa36 : List dC) : Option ((List (List dC)) × Bool) := zR E k je 9 [(6, co 420006), (8, .adr 200008 0), (9, co 430009), (10, co 450010), (25, cw tQ v25), (26, ci v26), (27, ci v27), (36, co 450036), (37, ci v37), (38, ci v38)] [(420006, .hole tC ta6 ta6_i (.own 450036)), (200008, .box [.val tI q8_0, .val tI q8_1, .val tI q8_2, .val tI q8_3]), (430009, .mp ua9), (450010, .row tC wa10 true true), (450036, .row tC wa36 true false)]
noncomputable def un (k : Nat) (v25 : List dS) (v26 v27 v37 v38 v45 v46 : Int) (ta6 : List (List dC)) (ta6_i : Nat) (q8_0 q8_1 q8_2 q8_3 : Int) (ua9 : List ByteArray) (wa10 wa36 va44 : List dC) (va44_n : Nat) : Option ((List (List dC)) × Bool) := zR E k je 12 [(6, co 420006), (8, .adr 200008 0), (9, co 430009), (10, co 450010), (25, cw tQ v25), (26, ci v26), (27, ci v27), (36, co 450036), (37, ci v37), (38, ci v38), (44, co 440044), (45, ci v45), (46, ci v46)] [(420006, .hole tC ta6 ta6_i (.own 450036)), (200008, .box [.val tI q8_0, .val tI q8_1, .val tI q8_2, .val tI q8_3]), (430009, .mp ua9), (450010, .row tC wa10 true true), (450036, .row tC wa36 true false), (440044, .tl tC va44 va44_n)]
noncomputable def fE (k : Nat) (x : dT) : Option ((List dC) × Bool) := aFn E aS k x
noncomputable def wL (k : Nat) (x : dT) : Option Int := aFn E jr k x
noncomputable def xX (k : Nat) (v3 : Int) (v10 : List dS) (v11 v12 : Int) : Option Int := zR E k jr 5 [(3, ci v3), (10, cw tQ v10), (11, ci v11), (12, ci v12)] []
noncomputable def yb (k : Nat) (x : (List Int) × List Int) : Option Bool := aFn E slices_Equal_int_fi k x
noncomputable def zG (k : Nat) (v0 v1 : List Int) (v12 v13 : Int) : Option Bool := zR E k slices_Equal_int_fi 4 [(0, cw tR v0), (1, cw tR v1), (12, ci v12), (13, ci v13)] []
noncomputable def Zr (k : Nat) (x : dC × dC) : Option Bool := aFn E aO k x
noncomputable def Rr (k : Nat) (x : List Int) : Option Bool := aFn E wI k x
noncomputable def wR (k : Nat) (v8 : List dC) (v66 v67 q4_2 q4_3 q4_4 : Int) (r400 : List Int) (r401 : List dS) (p65 : List dC) : Option Bool := zR E k wI 10 [(4, .adr 200004 0), (8, cw tD v8), (65, co 100065), (66, ci v66), (67, ci v67)] [(200004, .box [.own 300400, .own 300401, .val tI q4_2, .val tI q4_3, .val tI q4_4]), (300400, .row tI r400 true false), (300401, .row tS r401 false false), (100065, .row tC p65 false false)]
noncomputable def wQ (k : Nat) (v8 : List dC) (v12 : Bool) (v66 v67 : Int) (v71 : List dC) (v72 v73 q4_2 q4_3 q4_4 : Int) (r400 : List Int) (r401 : List dS) (q11_0 : List Int) (q11_1 : Int) (p65 : List dC) : Option Bool := zR E k wI 14 [(4, .adr 200004 0), (8, cw tD v8), (11, .adr 200011 0), (12, cw .bool v12), (65, co 100065), (66, ci v66), (67, ci v67), (71, cw tD v71), (72, ci v72), (73, ci v73)] [(200004, .box [.own 300400, .own 300401, .val tI q4_2, .val tI q4_3, .val tI q4_4]), (300400, .row tI r400 true false), (300401, .row tS r401 false false), (200011, .box [.val tR q11_0, .val tI q11_1]), (100065, .row tC p65 false false)]
noncomputable def x8 (k : Nat) (v15 : Int) (q4_1 : List dS) (q4_2 q4_3 q4_4 : Int) (r400 : List Int) : Option Bool := zR E k wI 22 [(4, .adr 200004 0), (15, ci v15)] [(200004, .box [.own 300400, .val tQ q4_1, .val tI q4_2, .val tI q4_3, .val tI q4_4]), (300400, .row tI r400 true false)]
noncomputable def vB (k : Nat) (x : Int × List Int) : Option Bool := aFn E uF k x
noncomputable def yx (k : Nat) (x : (List Int) × List Int) : Option Int := aFn E zF k x
noncomputable def zq (k : Nat) (v0 v1_0_0 : List Int) (v7 v8 : Int) : Option Int := zR E k zF 2 [(0, cw tR v0), (1, .fn 156 [[.val tR v1_0_0]]), (7, ci v7), (8, ci v8)] []
noncomputable def yl (k : Nat) (x : (List Int) × List Int) : Option Bool := aFn E z6 k x
noncomputable def jo (k : Nat) (x : (List Int) × List Int) : Option Bool := aFn E jU k x
noncomputable def LP (k : Nat) (x : Int) : Option Bool := aFn E QA k x
noncomputable def QC (k : Nat) (x : List Int) : Option Int := aFn E bx k x
noncomputable def ur (k : Nat) (v3 : Int) (v6 : List Int) (v7 v8 : Int) : Option Int := zR E k bx 3 [(3, ci v3), (6, cw tR v6), (7, ci v7), (8, ci v8)] []
noncomputable def jW (k : Nat) (x : dT × dC) : Option Bool := aFn E bz k x
noncomputable def gl (k : Nat) (x : dC × dT) : Option Bool := aFn E gN k x
noncomputable def yu (k : Nat) (x : (List dC) × dT) : Option Int := aFn E zC k x
noncomputable def zp (k : Nat) (v0 : List dC) (v1_0_0 : List Int) (v1_0_1 : List dS) (v1_0_2 v1_0_3 v1_0_4 v7 v8 : Int) : Option Int := zR E k zC 2 [(0, cw tD v0), (1, .fn 73 [[.val tR v1_0_0, .val tQ v1_0_1, .val tI v1_0_2, .val tI v1_0_3, .val tI v1_0_4]]), (7, ci v7), (8, ci v8)] []
noncomputable def zD (k : Nat) (x : (List dC) × dT) : Option Bool := aFn E zV k x
noncomputable def Zp (k : Nat) (x : dC × (List (Option (List ByteArray))) × Int) : Option Bool := aFn E aK k x
noncomputable def yz (k : Nat) (x : (List dC) × (List (Option (List ByteArray))) × Int) : Option Int := aFn E zH k x
noncomputable def zu (k : Nat) (v0 : List dC) (v1_0_0 : List (Option (List ByteArray))) (v1_1_0 v7 v8 : Int) : Option Int := zR E k zH 2 [(0, cw tD v0), (1, .fn 143 [[.val (.slice .set) v1_0_0], [.val tI v1_1_0]]), (7, ci v7), (8, ci v8)] []
noncomputable def zJ (k : Nat) (x : (List dC) × (List (Option (List ByteArray))) × Int) : Option Bool := aFn E ye k x
noncomputable def Uc (k : Nat) (x : dT × List (List dC)) : Option (List (Option (List ByteArray))) := aFn E jS k x
noncomputable def uo (k : Nat) (v1 : List (List dC)) (q2_0 : List Int) (q2_1 : List dS) (q2_2 q2_3 q2_4 : Int) (r500 : List (Option (List ByteArray))) (q6_0 : Int) : Option (List (Option (List ByteArray))) := zR E k jS 3 [(1, cw (.slice tD) v1), (2, .adr 200002 0), (5, .adr 200005 0), (6, .adr 200006 0)] [(200002, .box [.val tR q2_0, .val tQ q2_1, .val tI q2_2, .val tI q2_3, .val tI q2_4]), (200005, .box [.own 300500]), (300500, .row .set r500 true false), (200006, .box [.val tI q6_0])]
noncomputable def yZ (k : Nat) (v1 : List (List dC)) (v27 : List dC) (v28 v29 : Int) (q2_0 : List Int) (q2_1 : List dS) (q2_2 q2_3 q2_4 : Int) (r500 : List (Option (List ByteArray))) (q6_0 : Int) : Option (List (Option (List ByteArray))) := zR E k jS 7 [(1, cw (.slice tD) v1), (2, .adr 200002 0), (5, .adr 200005 0), (6, .adr 200006 0), (27, cw tD v27), (28, ci v28), (29, ci v29)] [(200002, .box [.val tR q2_0, .val tQ q2_1, .val tI q2_2, .val tI q2_3, .val tI q2_4]), (200005, .box [.own 300500]), (300500, .row .set r500 true false), (200006, .box [.val tI q6_0])]
noncomputable def gk (k : Nat) (x : dC × (List (Option (List ByteArray))) × Int) : Option Bool := aFn E gM k x
noncomputable def zI (k : Nat) (x : (List dC) × (List (Option (List ByteArray))) × Int) : Option Int := aFn E zB k x
noncomputable def zo (k : Nat) (v0 : List dC) (v1_0_0 : List (Option (List ByteArray))) (v1_1_0 v7 v8 : Int) : Option Int := zR E k zB 2 [(0, cw tD v0), (1, .fn 77 [[.val (.slice .set) v1_0_0], [.val tI v1_1_0]]), (7, ci v7), (8, ci v8)] []
noncomputable def Ue (k : Nat) (x : dC) : Option ((List Int) × Int) := aFn E aM k x
noncomputable def jX (k : Nat) (x : dT) : Option (Int × (List Int) × (List Int) × Int × Bool) := aFn E ju k x
noncomputable def xG (k : Nat) (v45 : List dS) (v46 v47 q2_0 q2_3 : Int) (q6_0 : List Int) (q6_1 : Int) (r700 : List (Option (List ByteArray))) (q8_0 q8_3 : Int) (r801 : List Int) : Option (Int × (List Int) × (List Int) × Int × Bool) := zR E k ju 12 [(2, .adr 200002 0), (6, .adr 200006 0), (7, .adr 200007 0), (8, .adr 200008 0), (45, cw tQ v45), (46, ci v46), (47, ci v47)] [(200002, .box [.val tI q2_0, .nil, .nil, .val tI q2_3]), (200006, .box [.val tR q6_0, .val tI q6_1]), (200007, .box [.own 300700]), (300700, .row .set r700 true false), (200008, .box [.val tI q8_0, .own 300801, .nil, .val tI q8_3]), (300801, .row tI r801 true true)]
noncomputable def Ua (k : Nat) (x : dT) : Option Bool := aFn E TN k x
noncomputable def b6 (k : Nat) (x : dT × Int) : Option ((List Int) × (List dS) × Int × Int × Int × Bool) := aFn E Yy k x
noncomputable def b0 (k : Nat) (x : dT × Int) : Option Bool := aFn E Yo k x
noncomputable def vO (k : Nat) (x : dT) : Option ((List Int) × (List dS) × Int × Int × Int × Bool) := aFn E vu k x
noncomputable def xu (k : Nat) (v5 q2_2 q2_3 q2_4 q4_2 q4_3 q4_4 : Int) (r400 : List Int) (r401 : List dS) : Option ((List Int) × (List dS) × Int × Int × Int × Bool) := zR E k vu 5 [(2, .adr 200002 0), (4, .adr 200004 0), (5, ci v5)] [(200002, .box [.nil, .nil, .val tI q2_2, .val tI q2_3, .val tI q2_4]), (200004, .box [.own 300400, .own 300401, .val tI q4_2, .val tI q4_3, .val tI q4_4]), (300400, .row tI r400 true false), (300401, .row tS r401 false false)]
noncomputable def vP (k : Nat) (x : dT) : Option Int := aFn E vC k x
noncomputable def xv (k : Nat) (v3 : Int) (v10 : List dS) (v11 v12 : Int) : Option Int := zR E k vC 5 [(3, ci v3), (10, cw tQ v10), (11, ci v11), (12, ci v12)] []
noncomputable def MT (k : Nat) (x : (List Int) × List Int) : Option Bool := aFn E WV k x
noncomputable def ZA (k : Nat) (v1 v12 : List Int) (v13 v14 : Int) : Option Bool := zR E k WV 4 [(1, cw tR v1), (12, cw tR v12), (13, ci v13), (14, ci v14)] []
noncomputable def Xj (k : Nat) (x : dT × Int) : Option Bool := aFn E Yv k x
noncomputable def wF (k : Nat) (x : (List dS) × List dS) : Option Bool := aFn E xK k x
noncomputable def yP (k : Nat) (v0 v1 : List dS) (v12 v13 : Int) : Option Bool := zR E k xK 4 [(0, cw tQ v0), (1, cw tQ v1), (12, ci v12), (13, ci v13)] []
noncomputable def Zq (k : Nat) (x : dT × dT) : Option Bool := aFn E aN k x
noncomputable def Rp (k : Nat) (x : List Int) : Option Bool := aFn E jE k x
noncomputable def jD (k : Nat) (v82 v83 q4_2 q4_3 q4_4 : Int) (r400 : List Int) (r401 : List dS) : Option Bool := zR E k jE 9 [(4, .adr 200004 0), (82, ci v82), (83, ci v83)] [(200004, .box [.own 300400, .own 300401, .val tI q4_2, .val tI q4_3, .val tI q4_4]), (300400, .row tI r400 true false), (300401, .row tS r401 false false)]
abbrev gw : Gw := ⟨fun w => Go.Lib.TabIs Tryz.prog w "internal/strconv.uint64pow10" .u64 Go.Lib.pow10Tab, false⟩
theorem ty_3 : TyOk Tryz.prog 3 (.one (tI)) := T6 (by kernel_rfl) (by kernel_rfl) (by kernel_rfl)
theorem ty_4 : TyOk Tryz.prog 4 (.one (.bool)) := MV (by kernel_rfl) (by kernel_rfl) (by kernel_rfl)
theorem ty_5 : TyOk Tryz.prog 5 (.one (.int .u8)) := T6 (by kernel_rfl) (by kernel_rfl) (by kernel_rfl)
theorem HP : TyOk Tryz.prog 22 (.one (.slice (.int .u8))) := x9 (e := 5) (by kernel_rfl) (by kernel_rfl) (by kernel_rfl) (ww (by kernel_rfl) (by kernel_rfl) (by kernel_rfl))
theorem JF : TyOk Tryz.prog 23 (.one (tR)) := x9 (e := 3) (by kernel_rfl) (by kernel_rfl) (by kernel_rfl) (ww (by kernel_rfl) (by kernel_rfl) (by kernel_rfl))
theorem HO : TyOk Tryz.prog 24 (.one (tQ)) := x9 (e := 40) (by kernel_rfl) (by kernel_rfl) (by kernel_rfl) (ww (by kernel_rfl) (by kernel_rfl) (by kernel_rfl))
theorem HN : TyOk Tryz.prog 26 (.struct [(0, 23), (1, 24), (2, 3), (3, 3), (4, 3)] [tR, tQ, tI, tI, tI] false) := vn (fields := Tryz.prog.fieldsOf 26) (by kernel_rfl) (by kernel_rfl) (by kernel_rfl) (by kernel_rfl) (by kernel_rfl) (by kernel_rfl) (fun e => by cases e)
theorem HM : TyOk Tryz.prog 30 (.one (tD)) := x9 (e := 35) (by kernel_rfl) (by kernel_rfl) (by kernel_rfl) (ww (by kernel_rfl) (by kernel_rfl) (by kernel_rfl))
theorem HL : TyOk Tryz.prog 35 (.struct [(0, 23), (1, 3)] [tR, tI] false) := vn (fields := Tryz.prog.fieldsOf 35) (by kernel_rfl) (by kernel_rfl) (by kernel_rfl) (by kernel_rfl) (by kernel_rfl) (by kernel_rfl) (fun e => by cases e)
theorem HK : TyOk Tryz.prog 38 (.struct [(0, 3), (1, 3)] [tI, tI] true) := vn (fields := Tryz.prog.fieldsOf 38) (by kernel_rfl) (by kernel_rfl) (by kernel_rfl) (by kernel_rfl) (by kernel_rfl) (by kernel_rfl) (fun _ => WZ (d := 20) (fields := Tryz.prog.fieldsOf 38) (by kernel_rfl) (by kernel_rfl) (by decide) (by kernel_rfl))
theorem HJ : TyOk Tryz.prog 40 (.struct [(0, 3), (1, 38), (3, 3)] [tI, tI, tI, tI] true) := vn (fields := Tryz.prog.fieldsOf 40) (by kernel_rfl) (by kernel_rfl) (by kernel_rfl) (by kernel_rfl) (by kernel_rfl) (by kernel_rfl) (fun _ => WZ (d := 20) (fields := Tryz.prog.fieldsOf 40) (by kernel_rfl) (by kernel_rfl) (by decide) (by kernel_rfl))
theorem HI : TyOk Tryz.prog 47 (.struct [(0, 3), (1, 23), (2, 35)] [tI, tR, tR, tI] false) := vn (fields := Tryz.prog.fieldsOf 47) (by kernel_rfl) (by kernel_rfl) (by kernel_rfl) (by kernel_rfl) (by kernel_rfl) (by kernel_rfl) (fun e => by cases e)
theorem HH : TyOk Tryz.prog 81 (.one (.slice .str)) := x9 (e := 9) (by kernel_rfl) (by kernel_rfl) (by kernel_rfl) (ww (by kernel_rfl) (by kernel_rfl) (by kernel_rfl))
theorem HG : TyOk Tryz.prog 88 (.one (.slice tD)) := x9 (e := 30) (by kernel_rfl) (by kernel_rfl) (by kernel_rfl) (ww (by kernel_rfl) (by kernel_rfl) (by kernel_rfl))
theorem HF : TyOk Tryz.prog 93 (.one (tW)) := x9 (e := 23) (by kernel_rfl) (by kernel_rfl) (by kernel_rfl) (ww (by kernel_rfl) (by kernel_rfl) (by kernel_rfl))
theorem Hr : TyOk Tryz.prog 100 (.one (.slice .set)) := x9 (e := 104) (by kernel_rfl) (by kernel_rfl) (by kernel_rfl) (ww (by kernel_rfl) (by kernel_rfl) (by kernel_rfl))
theorem Hq : TyOk Tryz.prog 104 (.one (.set)) := KD (kt := 9) (et := 4) (by kernel_rfl) (by kernel_rfl) (by kernel_rfl) (by kernel_rfl) (by kernel_rfl)
theorem Hp : TyOk Tryz.prog 132 (.struct [(0, 22), (1, 3), (2, 3)] [.slice (.int .u8), tI, tI] false) := vn (fields := Tryz.prog.fieldsOf 132) (by kernel_rfl) (by kernel_rfl) (by kernel_rfl) (by kernel_rfl) (by kernel_rfl) (by kernel_rfl) (fun e => by cases e)
theorem Ho : TyOk Tryz.prog 149 (.arr 12 (.bool)) := KE (e := 4) (by kernel_rfl) (ww (by kernel_rfl) (by kernel_rfl) (by kernel_rfl)) (by kernel_rfl) (by kernel_rfl)
theorem NR : TyOk Tryz.prog 5023023 (.flag) := trivial
theorem NQ : TyOk Tryz.prog 5023031 (.flag) := trivial
theorem NP : TyOk Tryz.prog 5023072 (.flag) := trivial
theorem NO : TyOk Tryz.prog 5030021 (.flag) := trivial
theorem NN : TyOk Tryz.prog 5035049 (.flag) := trivial
theorem NM : TyOk Tryz.prog 5073036 (.flag) := trivial
theorem NL : TyOk Tryz.prog 5077056 (.flag) := trivial
theorem NK : TyOk Tryz.prog 5143049 (.flag) := trivial
theorem NJ : TyOk Tryz.prog 8104055 (.flag) := trivial
theorem hE : ∀ T ti, E.ty T = some ti → TyOk Tryz.prog T ti := Sz (l := tyL) ⟨ty_3, ty_4, ty_5, HP, JF, HO, HN, HM, HL, HK, HJ, HI, HH, HG, HF, Hr, Hq, Hp, Ho, NR, NQ, NP, NO, NN, NM, NL, NK, NJ, trivial⟩
theorem gW : OneF Tryz.prog gw 63 slices_Delete_i_Step_fi := Tryz.delOne
theorem ZH : OneF Tryz.prog gw 204 slices_Grow_int_fi := Tryz.growOne
theorem eM : OneF Tryz.prog gw 205 slices_Reverse_int_fi := Tryz.revOne
theorem jB : OneF Tryz.prog gw 208 slices_SortFunc_int_int_fi := Tryz.sortOne
theorem ux : OneF Tryz.prog gw 210 slices_CompactFunc_int_int_fi := Tryz.compactOne
theorem W3 : OneF Tryz.prog gw 151 strconv_Itoa_fi := J0 Tryz.func151 (by kernel_rfl) (by kernel_rfl) (fun n w hw h0 h1 => Tryz.strconv_Itoa n h0 h1 w hw)
theorem W0 : OneF Tryz.prog gw 166 strings_Join_fi := JZ Tryz.func166 (by kernel_rfl) (by kernel_rfl) (fun a c sep w => Tryz.strings_Join_none a c sep w) (fun bk o c xs sep w hc hb hN hcap hl => Tryz.strings_Join bk o c xs sep w hc hb hN hcap hl) rfl
theorem hF : FnOk Tryz.prog gw E := SA (l := fnL) ⟨(okOf Tryz.func58 (by kernel_rfl)), (okOf Tryz.func163 (by kernel_rfl)), (okOf Tryz.func133 (by kernel_rfl)), (okOf Tryz.func131 (by kernel_rfl)), (okOf Tryz.func88 (by kernel_rfl)), (okOf Tryz.func134 (by kernel_rfl)), (okOf Tryz.func61 (by kernel_rfl)), (okOf Tryz.func162 (by kernel_rfl)), (okOf Tryz.func120 (by kernel_rfl)), (okOf Tryz.func187 (by kernel_rfl)), (okOf Tryz.func188 (by kernel_rfl)), (okOf Tryz.func153 (by kernel_rfl)), (okOf Tryz.func154 (by kernel_rfl)), (okOf Tryz.func107 (by kernel_rfl)), (okOf Tryz.func169 (by kernel_rfl)), (okOf Tryz.func170 (by kernel_rfl)), (okOf Tryz.func132 (by kernel_rfl)), (okOf Tryz.func59 (by kernel_rfl)), (okOf Tryz.func159 (by kernel_rfl)), (okOf Tryz.func116 (by kernel_rfl)), (okOf Tryz.func160 (by kernel_rfl)), (okOf Tryz.func161 (by kernel_rfl)), (okOf Tryz.func117 (by kernel_rfl)), (okOf Tryz.func139 (by kernel_rfl)), (okOf Tryz.func118 (by kernel_rfl)), (okOf Tryz.func47 (by kernel_rfl)), (okOf Tryz.func200 (by kernel_rfl)), (okOf Tryz.func195 (by kernel_rfl)), (okOf Tryz.func196 (by kernel_rfl)), (okOf Tryz.func197 (by kernel_rfl)), (okOf Tryz.func198 (by kernel_rfl)), (okOf Tryz.func199 (by kernel_rfl)), (okOf Tryz.func171 (by kernel_rfl)), (okOf Tryz.func202 (by kernel_rfl)), (okOf Tryz.func203 (by kernel_rfl)), (okOf Tryz.func173 (by kernel_rfl)), (okOf Tryz.func141 (by kernel_rfl)), (okOf Tryz.func220 (by kernel_rfl)), (okOf Tryz.func201 (by kernel_rfl)), (okOf Tryz.func172 (by kernel_rfl)), (okOf Tryz.func137 (by kernel_rfl)), (okOf Tryz.func94 (by kernel_rfl)), (okOf Tryz.func138 (by kernel_rfl)), (okOf Tryz.func68 (by kernel_rfl)), (okOf Tryz.func174 (by kernel_rfl)), (okOf Tryz.func140 (by kernel_rfl)), (okOf Tryz.func69 (by kernel_rfl)), (okOf Tryz.func19 (by kernel_rfl)), (okOf Tryz.func60 (by kernel_rfl)), (okOf Tryz.func13 (by kernel_rfl)), (okOf Tryz.func109 (by kernel_rfl)), (okOf Tryz.func113 (by kernel_rfl)), (okOf Tryz.func128 (by kernel_rfl)), (okOf Tryz.func114 (by kernel_rfl)), (okOf Tryz.func158 (by kernel_rfl)), (okOf Tryz.func157 (by kernel_rfl)), (okOf Tryz.func115 (by kernel_rfl)), (okOf Tryz.func46 (by kernel_rfl)), (okOf Tryz.func135 (by kernel_rfl)), (okOf Tryz.func136 (by kernel_rfl)), (okOf Tryz.func62 (by kernel_rfl)), gW, (okOf Tryz.func14 (by kernel_rfl)), (okOf Tryz.func111 (by kernel_rfl)), ZH, (okOf Tryz.func176 (by kernel_rfl)), eM, (okOf Tryz.func177 (by kernel_rfl)), (okOf Tryz.func179 (by kernel_rfl)), (okOf Tryz.func180 (by kernel_rfl)), (okOf Tryz.func181 (by kernel_rfl)), (okOf Tryz.func182 (by kernel_rfl)), (okOf Tryz.func178 (by kernel_rfl)), (okOf Tryz.func144 (by kernel_rfl)), (okOf Tryz.func206 (by kernel_rfl)), (okOf Tryz.func207 (by kernel_rfl)), (okOf Tryz.func183 (by kernel_rfl)), jB, ux, (okOf Tryz.func184 (by kernel_rfl)), (okOf Tryz.func145 (by kernel_rfl)), (okOf Tryz.func75 (by kernel_rfl)), W3, (okOf Tryz.func104 (by kernel_rfl)), (okOf Tryz.func152 (by kernel_rfl)), W0, (okOf Tryz.func125 (by kernel_rfl)), (okOf Tryz.func105 (by kernel_rfl)), (okOf Tryz.func78 (by kernel_rfl)), (okOf Tryz.func64 (by kernel_rfl)), (okOf Tryz.func15 (by kernel_rfl)), (okOf Tryz.func16 (by kernel_rfl)), (okOf Tryz.func65 (by kernel_rfl)), (okOf Tryz.func17 (by kernel_rfl)), (okOf Tryz.func3 (by kernel_rfl)), (okOf Tryz.func156 (by kernel_rfl)), (okOf Tryz.func157 (by kernel_rfl)), (okOf Tryz.func155 (by kernel_rfl)), (okOf Tryz.func108 (by kernel_rfl)), (okOf Tryz.func124 (by kernel_rfl)), (okOf Tryz.func110 (by kernel_rfl)), (okOf Tryz.func40 (by kernel_rfl)), (okOf Tryz.func73 (by kernel_rfl)), (okOf Tryz.func76 (by kernel_rfl)), (okOf Tryz.func72 (by kernel_rfl)), (okOf Tryz.func143 (by kernel_rfl)), (okOf Tryz.func76 (by kernel_rfl)), (okOf Tryz.func72 (by kernel_rfl)), (okOf Tryz.func74 (by kernel_rfl)), (okOf Tryz.func77 (by kernel_rfl)), (okOf Tryz.func76 (by kernel_rfl)), (okOf Tryz.func79 (by kernel_rfl)), (okOf Tryz.func21 (by kernel_rfl)), (okOf Tryz.func90 (by kernel_rfl)), (okOf Tryz.func98 (by kernel_rfl)), (okOf Tryz.func91 (by kernel_rfl)), (okOf Tryz.func34 (by kernel_rfl)), (okOf Tryz.func43 (by kernel_rfl)), (okOf Tryz.func44 (by kernel_rfl)), (okOf Tryz.func28 (by kernel_rfl)), (okOf Tryz.func112 (by kernel_rfl)), (okOf Tryz.func45 (by kernel_rfl)), (okOf Tryz.func10 (by kernel_rfl)), trivial⟩
end Pt
