/-
  The plain machine's telling of functions of the program: codes, functions, tables. Printed by gen11.py.
  Conditions: none; these are definitions and equations that the kernel checks.
-/
import Derived.Test.YtgbbdagfjenmeaaGreatDoorVd
import Derived.Test.YtgbbdagfjenmeaaGreatDoorProg
import Derived.Test.YtgbbdagfjenmeaaGreatDoorShelf
import Derived.Test.YtgbbdagfjenmeaaGreatDoorCmf
import Derived.Test.YtgbbdagfjenmeaaGreatDoorSrt
namespace Pt
open Go Go.Vt Go.Proofs
set_option linter.unusedVariables false
set_option maxRecDepth 100000
abbrev tI : Ty := .int .i64
abbrev tR : Ty := .slice tI
abbrev tS : Ty := .pair tI (.pair (.pair tI tI) tI)
abbrev tQ : Ty := .slice tS
abbrev tT : Ty := .pair tR (.pair tQ (.pair tI (.pair tI tI)))
abbrev tC : Ty := .pair tR tI
abbrev tD : Ty := .slice tC
abbrev tW : Ty := .slice tR
abbrev tK : Ty := .pair (.slice (.int .u8)) (.pair tI tI)
abbrev dS : Type := Int × (Int × Int) × Int
abbrev dT : Type := List Int × List dS × Int × Int × Int
abbrev dC : Type := List Int × Int
noncomputable abbrev ci (x : Int) : AV := .cv (.val tI x)
noncomputable abbrev cw (t : Ty) (x : t.den) : AV := .cv (.val t x)
noncomputable abbrev co (c : Nat) : AV := .cv (.own c)
noncomputable def tyL : List (Nat × TI) := [(3, .one (tI)), (4, .one (.bool)), (5, .one (.int .u8)), (9, .one (.str)), (22, .one (.slice (.int .u8))), (23, .one (tR)), (24, .one (tQ)), (26, .struct [(0, 23), (1, 24), (2, 3), (3, 3), (4, 3)] [tR, tQ, tI, tI, tI] false), (30, .one (tD)), (35, .struct [(0, 23), (1, 3)] [tR, tI] false), (38, .struct [(0, 3), (1, 3)] [tI, tI] true), (40, .struct [(0, 3), (1, 38), (3, 3)] [tI, tI, tI, tI] true), (47, .struct [(0, 3), (1, 23), (2, 35)] [tI, tR, tR, tI] false), (81, .one (.slice .str)), (88, .one (.slice tD)), (93, .one (tW)), (100, .one (.slice .set)), (104, .one (.set)), (132, .struct [(0, 22), (1, 3), (2, 3)] [.slice (.int .u8), tI, tI] false), (149, .arr 12 (.bool)), (156, .one (.err)), (5023031, .flag), (5023072, .flag), (5030021, .flag), (5035049, .flag), (5073036, .flag), (5077056, .flag), (5143049, .flag), (8104055, .flag)]
noncomputable def cT : Fi := fiOf Tryz.f58 [.v (.slice (.int .u8)) false] [(false, [⟨tK, some (false, false)⟩])] fun | 3 => some [.keep 0, .keep 3, .keep 4] | _ => none
noncomputable def ZR : Fi := fiOf Tryz.f163 [.p (.slice (.int .u8)) (.pair tI tI)] [(false, [⟨tI, none⟩])] h0
noncomputable def cS : Fi := fiOf Tryz.f121 [.v (.slice (.int .u8)) false, .v tI false] [(false, [⟨tK, some (false, false)⟩])] fun | 3 => some [.keep 1, .box 5 200005 [.keep, .keep, .keep], .keep 6] | _ => none
noncomputable def bL : Fi := fiOf Tryz.f133 [.p (.slice (.int .u8)) (.pair tI tI), .v tI false] [(false, [⟨tI, none⟩])] h0
noncomputable def uc : Fi := fiOf Tryz.f162 [.p (.slice (.int .u8)) (.pair tI tI), .v tI false] [(false, [⟨tR, some (true, false)⟩])] fun | 3 => some [.box 0 500000 [.keep, .keep, .keep], .keep 1, .cell 5 (.row 100005 (tI) true false), .keep 6] | _ => none
noncomputable def ZQ : Fi := fiOf Tryz.f131 [.p (.slice (.int .u8)) (.pair tI tI), .v tI false] [(false, [⟨.bool, none⟩])] h0
noncomputable def gX : Fi := fiOf Tryz.f120 [.p (.slice (.int .u8)) (.pair tI tI), .v tI false] [(false, [⟨tR, some (true, false)⟩])] fun | 4 => some [.box 0 500000 [.keep, .keep, .keep], .cell 5 (.row 100005 (tI) true false), .keep 16, .keep 17] | _ => none
noncomputable def gZ : Fi := fiOf Tryz.f50 [.v (.slice (.int .u8)) false, .v tI false, .v tI false] [(false, [⟨tR, some (true, false)⟩])] h0
noncomputable def Vg : Fi := fiOf Tryz.f88 [.v tI false, .v tI false, .v tI false] [(false, [⟨.bool, none⟩])] h0
noncomputable def u7 : Fi := fiOf Tryz.f134 [.v tI false] [(false, [⟨tR, some (true, true)⟩])] fun | 5 => some [.keep 0, .cell 3 (.row 100003 (tI) true false), .keep 4] | _ => none
noncomputable def bI : Fi := fiOf Tryz.f61 [.p (.slice (.int .u8)) (.pair tI tI)] [(true, [⟨tR, some (true, true)⟩, ⟨tQ, some (true, false)⟩, ⟨tI, none⟩, ⟨tI, none⟩, ⟨tI, none⟩])] h0
noncomputable def ZP : Fi := fiOf Tryz.f187 [.p (.slice (.int .u8)) (.pair tI tI), .v tR false] [(false, [⟨tI, none⟩])] h0
noncomputable def ZN : Fi := fiOf Tryz.f188 [.p (.slice (.int .u8)) (.pair tI tI), .v tI false] [(true, [⟨tI, none⟩, ⟨tI, none⟩])] h0
noncomputable def ZL : Fi := fiOf Tryz.f153 [.p (.slice (.int .u8)) (.pair tI tI), .v tI false] [(true, [⟨tI, none⟩, ⟨tI, none⟩, ⟨tI, none⟩, ⟨tI, none⟩])] h0
noncomputable def Xh : Fi := fiOf Tryz.f154 [.v tI false] [(false, [⟨tI, none⟩])] h0
noncomputable def gU : Fi := fiOf Tryz.f107 [.p (.slice (.int .u8)) (.pair tI tI)] [(true, [⟨tR, some (true, false)⟩, ⟨tQ, some (true, false)⟩, ⟨tI, none⟩, ⟨tI, none⟩, ⟨tI, none⟩])] fun | 7 => some [.box 0 500000 [.keep, .keep, .keep], .box 2 200002 [.keep, .keep, .keep, .keep, .keep], .box 3 200003 [.row 300300 (tI) true false, .row 300301 (tS) true true, .keep, .keep, .keep], .keep 4, .keep 5, .keep 6] | _ => none
noncomputable def eR : Fi := fiOf Tryz.f38 [.v (.slice (.int .u8)) false] [(true, [⟨tR, some (true, false)⟩, ⟨tQ, some (true, false)⟩, ⟨tI, none⟩, ⟨tI, none⟩, ⟨tI, none⟩])] h0
noncomputable def Wg : Fi := fiOf Tryz.f109 [.v tI false] [(false, [⟨tI, none⟩])] h0
noncomputable def gf : Fi := fiOf Tryz.f113 [.v tR false] [(false, [⟨.bool, none⟩])] fun | 3 => some [.arr 3 400003, .keep 7, .keep 8, .keep 9] | _ => none
noncomputable abbrev strconv_Itoa_fi : Fi := itoaFi
noncomputable def cB : Fi := fiOf Tryz.f104 [.v tI false] [(false, [⟨.str, none⟩])] h0
noncomputable def TF : Fi := fiOf Tryz.f124 [.v tI false] [(false, [⟨.bool, none⟩])] h0
noncomputable abbrev strings_Join_fi : Fi := joinFi
noncomputable def TD : Fi := fiOf Tryz.f125 [.v (.slice .str) false, .v .str false] [(false, [⟨.str, none⟩])] h0
noncomputable def wW : Fi := fiOf Tryz.f52 [.v tR false] [(false, [⟨.str, none⟩])] fun | 7 => some [.cell 3 (.row 100003 (.str) true true), .keep 13, .keep 14, .keep 15] | _ => none
noncomputable abbrev strings_IndexByte_fi : Fi := indexByteFi
noncomputable def j9 : Fi := fiOf Tryz.f122 [.v .str false, .v .str false] [(false, [⟨.slice .str, some (true, true)⟩])] fun | 4 => some [.keep 0, .keep 1, .cell 5 (.row 100005 (.str) true true), .keep 6, .keep 7] | _ => none
noncomputable abbrev strconv_Atoi_fi : Fi := atoiFi
noncomputable def aq : Fi := fiOf Tryz.f123 [.v .str false] [(false, [⟨tI, none⟩]), (false, [⟨.bool, none⟩])] h0
noncomputable def vI : Fi := fiOf Tryz.f51 [.v .str false] [(false, [⟨tR, some (true, true)⟩]), (false, [⟨.bool, none⟩])] fun | 5 => some [.cell 4 (.row 100004 (tI) true true), .cell 13 (.row 100013 (.str) true true), .keep 14, .keep 15] | _ => none
noncomputable def Y0 : Fi := fiOf Tryz.f44 [.v tR false, .v tR false] [(false, [⟨.bool, none⟩])] fun | 4 => some [.keep 1, .keep 12, .keep 13, .keep 14] | _ => none
noncomputable def X8 : Fi := fiOf Tryz.f128 [.v tI false, .v (.pair tI tI) true] [(false, [⟨.bool, none⟩])] h0
noncomputable def X3 : Fi := fiOf Tryz.f114 [.v tI false, .v tS true] [(false, [⟨.bool, none⟩])] h0
noncomputable def jy : Fi := fiOf Tryz.f158 [.v tI false, .r tI] [(false, [⟨.bool, none⟩])] h0
noncomputable def zH : Fi := fiOf Tryz.f157 [.v tR false, .fn 158 [tI]] [(false, [⟨tI, none⟩])] fun | 2 => some [.keep 0, .keep 1, .keep 7, .keep 8] | _ => none
noncomputable def fv : Fi := fiOf Tryz.f115 [.v tR false, .v tI false] [(false, [⟨tI, none⟩])] h0
noncomputable def fq : Fi := fiOf Tryz.f46 [.v tT true] [(false, [⟨.bool, none⟩])] fun | 6 => some [.box 1 200001 [.keep, .keep, .keep, .keep, .keep], .keep 3, .keep 4, .keep 25, .keep 26, .keep 27] | _ => none
noncomputable def cb : Fi := fiOf Tryz.f168 [] [(false, [⟨.slice .str, some (true, false)⟩])] h0
noncomputable def ar : Fi := fiOf Tryz.f129 [.v tI false] [(false, [⟨.str, none⟩])] h0
noncomputable def fB : Fi := fiOf Tryz.f56 [.v (.pair tI tI) true] [(false, [⟨.str, none⟩])] h0
noncomputable def fG : Fi := fiOf Tryz.f126 [.v tI false] [(false, [⟨.str, none⟩])] h0
noncomputable def fA : Fi := fiOf Tryz.f54 [.v tS true] [(false, [⟨.str, none⟩])] h0
noncomputable def xF : Fi := fiOf Tryz.f167 [.v (.slice .str) false, .v .str false] [(false, [⟨tI, none⟩])] fun | 2 => some [.keep 0, .keep 1, .keep 7, .keep 8] | _ => none
noncomputable def cA : Fi := fiOf Tryz.f127 [.v .str false] [(false, [⟨tI, none⟩])] h0
noncomputable def cx : Fi := fiOf Tryz.f55 [.v .str false] [(true, [⟨tI, none⟩, ⟨tI, none⟩]), (false, [⟨.bool, none⟩])] h0
noncomputable def vf : Fi := fiOf Tryz.f53 [.v .str false] [(true, [⟨tI, none⟩, ⟨tI, none⟩, ⟨tI, none⟩, ⟨tI, none⟩]), (false, [⟨.bool, none⟩])] fun | 5 => some [.keep 0, .box 2 200002 [.keep, .keep, .keep, .keep], .keep 6] | 10 => some [.keep 0, .box 2 200002 [.keep, .keep, .keep, .keep], .keep 7] | _ => none
noncomputable def gF : Fi := fiOf Tryz.f130 [.v tT true] [(false, [⟨.str, none⟩])] h0
noncomputable def um : Fi := fiOf Tryz.f57 [.v tT true] [(false, [⟨.slice .str, some (true, false)⟩])] fun | 5 => some [.box 1 200001 [.keep, .keep, .keep, .keep, .keep], .cell 3 (.row 100003 (.str) true false), .keep 15, .keep 16, .keep 17] | _ => none
noncomputable def xv : Fi := fiOf Tryz.f135 [.v tR false] [(false, [⟨tR, some (true, false)⟩])] h0
noncomputable def ft : Fi := fiOf Tryz.f111 [.v tT true] [(true, [⟨tR, some (true, true)⟩, ⟨tI, none⟩]), (false, [⟨.bool, none⟩])] h0
noncomputable abbrev slices_Grow_int_fi : Fi := growFi
noncomputable def xh : Fi := fiOf Tryz.f176 [.v tW false] [(false, [⟨tR, some (true, false)⟩])] fun | 3 => some [.keep 0, .keep 3, .keep 9, .keep 10, .keep 11] | 11 => some [.cell 6 (.row 100006 (tI) true false), .keep 25, .keep 26, .keep 27] | _ => none
noncomputable abbrev slices_Reverse_int_fi : Fi := reverseFi
noncomputable def aa : Fi := fiOf Tryz.f177 [.v tR false] [(false, [⟨tR, some (true, false)⟩])] h0
noncomputable def XV : Fi := fiOf Tryz.f179 [.v tR false, .v tI false] [(false, [⟨tR, some (true, true)⟩])] fun | 4 => some [.keep 5, .keep 6, .cell 7 (.row 100007 (tI) true true), .keep 8] | _ => none
noncomputable def Zl : Fi := fiOf Tryz.f180 [.v tR false, .v tI false] [(false, [⟨tR, some (true, false)⟩])] fun | 3 => some [.keep 1, .cell 5 (.row 100005 (tI) true false), .keep 8, .keep 9, .keep 10] | _ => none
noncomputable def XU : Fi := fiOf Tryz.f181 [.v tR false] [(false, [⟨tR, some (true, false)⟩])] fun | 2 => some [.keep 0, .cell 3 (.row 100003 (tI) true false)] | _ => none
noncomputable def Zm : Fi := fiOf Tryz.f182 [.v tR false, .v tI false] [(false, [⟨tR, some (true, true)⟩])] fun | 4 => some [.cell 5 (.row 100005 (tI) true true), .cell 6 (.row 100006 (tI) true false), .keep 7] | _ => none
noncomputable def al : Fi := fiOf Tryz.f178 [.v tI false] [(false, [⟨tI, none⟩])] h0
noncomputable def Zj : Fi := fiOf Tryz.f144 [.v tR false, .v (.pair tI tI) true] [(false, [⟨tR, some (true, false)⟩])] fun | 10 => some [.keep 5, .cell 6 (.row 100006 (tI) true false), .keep 7] | _ => none
noncomputable def XX : Fi := fiOf Tryz.f206 [.v tR false] [(false, [⟨tW, some (true, true)⟩])] fun | 3 => some [.keep 0, .cell 3 (.row 100003 (tR) true true), .keep 6, .keep 7] | _ => none
noncomputable def uP : Fi := fiOf Tryz.f207 [.v tR false, .v tI false] [(false, [⟨tR, some (true, true)⟩])] fun | 3 => some [.keep 0, .keep 1, .keep 5, .keep 6, .keep 11, .keep 12] | 9 => some [.keep 0, .keep 1, .keep 5, .keep 6, .cell 8 (.row 100008 (tI) true true), .keep 24, .keep 25] | _ => none
noncomputable def YS : Fi := fiOf Tryz.f183 [.v tR false, .v tI false] [(false, [⟨tW, some (true, false)⟩]), (false, [⟨.bool, none⟩])] fun | 9 => some [.keep 0, .cell 6 (.row 100006 (tR) true true), .keep 7] | 20 => some [.keep 0, .cell 8 (.row 100008 (tR) true true), .keep 48, .keep 49] | _ => none
noncomputable abbrev slices_SortFunc_int_int_fi : Fi := (sortFi 209)
noncomputable abbrev slices_CompactFunc_int_int_fi : Fi := compactFi
noncomputable def vH : Fi := fiOf Tryz.f184 [.v tW false] [(false, [⟨tW, some (true, false)⟩])] fun | 3 => some [.cell 3 (.row 100003 (tR) true true), .keep 6, .keep 7, .keep 8] | _ => none
noncomputable def cr : Fi := fiOf Tryz.f145 [.v tR false, .v tI false] [(false, [⟨tW, some (true, false)⟩]), (false, [⟨.bool, none⟩])] h0
noncomputable def uw : Fi := fiOf Tryz.f75 [.v tC true, .v tS true] [(false, [⟨tD, some (true, false)⟩])] fun | 11 => some [.box 2 200002 [.keep, .keep], .cell 5 (.row 100005 (tC) true true), .cell 67 (.row 440067 (tR) true false), .keep 68, .keep 69] | _ => none
noncomputable def jc : Fi := fiOf Tryz.f152 [.v tR false] [(false, [⟨.slice .str, some (true, true)⟩])] fun | 3 => some [.cell 3 (.row 100003 (.str) true true), .keep 6, .keep 7, .keep 8] | _ => none
noncomputable def gD : Fi := fiOf Tryz.f105 [.v tR false] [(false, [⟨.str, none⟩])] h0
noncomputable def Vz : Fi := fiOf Tryz.f78 [.v tC true] [(false, [⟨.str, none⟩])] h0
noncomputable def ul : Fi := fiOf Tryz.f64 [.v tT true] [(false, [⟨.slice tD, some (true, false)⟩]), (false, [⟨.bool, none⟩])] fun | 4 => some [.cell 6 (.row 450006 (tD) true false), .keep 25, .keep 26, .keep 27] | 9 => some [.cell 6 (.row 420006 (tC) true false), .box 8 200008 [.keep, .keep, .keep, .keep], .cell 9 (.row 430009 (.bool) false false), .cell 10 (.row 450010 (tC) true true), .keep 25, .keep 26, .keep 27, .cell 36 (.row 450036 (tC) true false), .keep 37, .keep 38] | 12 => some [.cell 6 (.row 420006 (tC) true false), .box 8 200008 [.keep, .keep, .keep, .keep], .cell 9 (.row 430009 (.bool) false false), .cell 10 (.row 450010 (tC) true true), .keep 25, .keep 26, .keep 27, .cell 36 (.row 450036 (tC) true false), .keep 37, .keep 38, .cell 44 (.row 440044 (tC) true false), .keep 45, .keep 46] | _ => none
noncomputable def vL : Fi := fiOf Tryz.f156 [.v tI false, .r tR] [(false, [⟨.bool, none⟩])] h0
noncomputable def zz : Fi := fiOf Tryz.f157 [.v tR false, .fn 156 [tR]] [(false, [⟨tI, none⟩])] fun | 2 => some [.keep 0, .keep 1, .keep 7, .keep 8] | _ => none
noncomputable def zW : Fi := fiOf Tryz.f155 [.v tR false, .fn 156 [tR]] [(false, [⟨.bool, none⟩])] h0
noncomputable def uW : Fi := fiOf Tryz.f108 [.v tR false, .v tR false] [(false, [⟨.bool, none⟩])] h0
noncomputable def fD : Fi := fiOf Tryz.f110 [.v tR false] [(false, [⟨tI, none⟩])] fun | 3 => some [.keep 3, .keep 6, .keep 7, .keep 8] | _ => none
noncomputable def slices_Equal_int_fi : Fi := fiOf Tryz.f65 [.v tR false, .v tR false] [(false, [⟨.bool, none⟩])] fun | 4 => some [.keep 0, .keep 1, .keep 12, .keep 13] | _ => none
noncomputable def fE : Fi := fiOf Tryz.f40 [.v tT true, .v tC true] [(false, [⟨.bool, none⟩])] h0
noncomputable def jC : Fi := fiOf Tryz.f73 [.v tC true, .r tT] [(false, [⟨.bool, none⟩])] h0
noncomputable def zx : Fi := fiOf Tryz.f76 [.v tD false, .fn 73 [tT]] [(false, [⟨tI, none⟩])] fun | 2 => some [.keep 0, .keep 1, .keep 7, .keep 8] | _ => none
noncomputable def zS : Fi := fiOf Tryz.f72 [.v tD false, .fn 73 [tT]] [(false, [⟨.bool, none⟩])] h0
noncomputable def cg : Fi := fiOf Tryz.f143 [.v tC true, .r (.slice .set), .r tI] [(false, [⟨.bool, none⟩])] h0
noncomputable def zB : Fi := fiOf Tryz.f76 [.v tD false, .fn 143 [.slice .set, tI]] [(false, [⟨tI, none⟩])] fun | 2 => some [.keep 0, .keep 1, .keep 7, .keep 8] | _ => none
noncomputable def z7 : Fi := fiOf Tryz.f72 [.v tD false, .fn 143 [.slice .set, tI]] [(false, [⟨.bool, none⟩])] h0
noncomputable def uQ : Fi := fiOf Tryz.f74 [.v tT true, .v (.slice tD) false] [(false, [⟨.slice .set, some (true, false)⟩])] fun | 3 => some [.keep 1, .box 2 200002 [.keep, .keep, .keep, .keep, .keep], .box 5 200005 [.row 300500 (.set) true false], .box 6 200006 [.keep]] | 7 => some [.keep 1, .box 2 200002 [.keep, .keep, .keep, .keep, .keep], .box 5 200005 [.row 300500 (.set) true false], .box 6 200006 [.keep], .keep 27, .keep 28, .keep 29] | _ => none
noncomputable def jB : Fi := fiOf Tryz.f77 [.v tC true, .r (.slice .set), .r tI] [(false, [⟨.bool, none⟩])] h0
noncomputable def zw : Fi := fiOf Tryz.f76 [.v tD false, .fn 77 [.slice .set, tI]] [(false, [⟨tI, none⟩])] fun | 2 => some [.keep 0, .keep 1, .keep 7, .keep 8] | _ => none
noncomputable def cj : Fi := fiOf Tryz.f79 [.v tC true] [(true, [⟨tR, some (true, false)⟩, ⟨tI, none⟩])] h0
noncomputable def uC : Fi := fiOf Tryz.f21 [.v tT true] [(true, [⟨tI, none⟩, ⟨tR, some (true, true)⟩, ⟨tR, some (true, false)⟩, ⟨tI, none⟩]), (false, [⟨.bool, none⟩])] fun | 12 => some [.box 2 200002 [.keep, .keep, .keep, .keep], .box 6 200006 [.keep, .keep], .box 7 200007 [.row 300700 (.set) true false], .box 8 200008 [.keep, .row 300801 (tI) true true, .keep, .keep], .keep 45, .keep 46, .keep 47] | _ => none
noncomputable def cD : Fi := fiOf Tryz.f15 [.v tT true] [(false, [⟨tD, some (true, false)⟩]), (false, [⟨.bool, none⟩])] h0
noncomputable def cC : Fi := fiOf Tryz.f39 [.v tT true] [(false, [⟨tI, none⟩])] h0
noncomputable def cq : Fi := fiOf Tryz.f106 [.v tC true] [(false, [⟨.str, none⟩])] h0
noncomputable def gx : Fi := fiOf Tryz.f37 [.v tT true] [(false, [⟨.str, none⟩])] h0
noncomputable def uL : Fi := fiOf Tryz.f12 [.v (.slice (.int .u8)) false] [(false, [⟨.bool, none⟩])] fun | 9 => some [.box 4 200004 [.row 300400 (tI) true false, .val (tQ), .keep, .keep, .keep], .cell 40 (.val (tQ)), .keep 41, .keep 42] | _ => none
noncomputable def fnL : List (Nat × List Nat × Fi) := [(58, [], cT), (163, [], ZR), (121, [], cS), (133, [], bL), (162, [], uc), (131, [], ZQ), (120, [], gX), (50, [], gZ), (88, [], Vg), (134, [], u7), (61, [], bI), (187, [], ZP), (188, [], ZN), (153, [], ZL), (154, [], Xh), (107, [], gU), (38, [], eR), (109, [], Wg), (113, [], gf), (151, [], strconv_Itoa_fi), (104, [], cB), (124, [], TF), (166, [], strings_Join_fi), (125, [], TD), (52, [], wW), (164, [], strings_IndexByte_fi), (122, [], j9), (165, [], strconv_Atoi_fi), (123, [], aq), (51, [], vI), (44, [], Y0), (128, [], X8), (114, [], X3), (158, [], jy), (157, [158], zH), (115, [], fv), (46, [], fq), (168, [], cb), (129, [], ar), (56, [], fB), (126, [], fG), (54, [], fA), (167, [], xF), (127, [], cA), (55, [], cx), (53, [], vf), (130, [], gF), (57, [], um), (135, [], xv), (111, [], ft), (204, [], slices_Grow_int_fi), (176, [], xh), (205, [], slices_Reverse_int_fi), (177, [], aa), (179, [], XV), (180, [], Zl), (181, [], XU), (182, [], Zm), (178, [], al), (144, [], Zj), (206, [], XX), (207, [], uP), (183, [], YS), (208, [209], slices_SortFunc_int_int_fi), (210, [65], slices_CompactFunc_int_int_fi), (184, [], vH), (145, [], cr), (75, [], uw), (152, [], jc), (105, [], gD), (78, [], Vz), (64, [], ul), (156, [], vL), (157, [156], zz), (155, [156], zW), (108, [], uW), (110, [], fD), (65, [], slices_Equal_int_fi), (40, [], fE), (73, [], jC), (76, [73], zx), (72, [73], zS), (143, [], cg), (76, [143], zB), (72, [143], z7), (74, [], uQ), (77, [], jB), (76, [77], zw), (79, [], cj), (21, [], uC), (15, [], cD), (39, [], cC), (106, [], cq), (37, [], gx), (12, [], uL)]
noncomputable def E : Env := ⟨lookT tyL, lookF fnL⟩
noncomputable def YL (k : Nat) (x : List Int) : Option ((List Int) × Int × Int) := aFn E cT k x
noncomputable def jP (k : Nat) (v0 : List Int) (v3 v4 : Int) : Option ((List Int) × Int × Int) := yS E k cT 3 [(0, cw (.slice (.int .u8)) v0), (3, ci v3), (4, ci v4)] []
noncomputable def vn (k : Nat) (x : (List Int) × Int × Int) : Option (Int × (List Int) × Int × Int) := aFn E ZR k x
noncomputable def VY (k : Nat) (x : (List Int) × Int) : Option ((List Int) × Int × Int) := aFn E cS k x
noncomputable def jO (k : Nat) (v1 v6 : Int) (q5_0 : List Int) (q5_1 q5_2 : Int) : Option ((List Int) × Int × Int) := yS E k cS 3 [(1, ci v1), (5, .adr 200005 0), (6, ci v6)] [(200005, .box [.val (.slice (.int .u8)) q5_0, .val tI q5_1, .val tI q5_2])]
noncomputable def zh (k : Nat) (x : ((List Int) × Int × Int) × Int) : Option (Int × (List Int) × Int × Int) := aFn E bL k x
noncomputable def gW (k : Nat) (x : ((List Int) × Int × Int) × Int) : Option ((List Int) × (List Int) × Int × Int) := aFn E uc k x
noncomputable def wA (k : Nat) (v1 v6 : Int) (p5 z_0 : List Int) (z_1 z_2 : Int) : Option ((List Int) × (List Int) × Int × Int) := yS E k uc 3 [(0, .adr 500000 0), (1, ci v1), (5, co 100005), (6, ci v6)] [(100005, .row tI p5 true false), (500000, .box [.val (.slice (.int .u8)) z_0, .val tI z_1, .val tI z_2])]
noncomputable def gY (k : Nat) (x : ((List Int) × Int × Int) × Int) : Option (Bool × (List Int) × Int × Int) := aFn E ZQ k x
noncomputable def bJ (k : Nat) (x : ((List Int) × Int × Int) × Int) : Option ((List Int) × (List Int) × Int × Int) := aFn E gX k x
noncomputable def vm (k : Nat) (v16 v17 : Int) (p5 z_0 : List Int) (z_1 z_2 : Int) : Option ((List Int) × (List Int) × Int × Int) := yS E k gX 4 [(0, .adr 500000 0), (5, co 100005), (16, ci v16), (17, ci v17)] [(100005, .row tI p5 true false), (500000, .box [.val (.slice (.int .u8)) z_0, .val tI z_1, .val tI z_2])]
noncomputable def fa (k : Nat) (x : (List Int) × Int × Int) : Option (List Int) := aFn E gZ k x
noncomputable def Xf (k : Nat) (x : Int × Int × Int) : Option Bool := aFn E Vg k x
noncomputable def wU (k : Nat) (x : Int) : Option (List Int) := aFn E u7 k x
noncomputable def va (k : Nat) (v0 v4 : Int) (p3 : List Int) : Option (List Int) := yS E k u7 5 [(0, ci v0), (3, co 100003), (4, ci v4)] [(100003, .row tI p3 true false)]
noncomputable def Zb (k : Nat) (x : (List Int) × Int × Int) : Option (((List Int) × (List dS) × Int × Int × Int) × (List Int) × Int × Int) := aFn E bI k x
noncomputable def bK (k : Nat) (x : ((List Int) × Int × Int) × List Int) : Option (Int × (List Int) × Int × Int) := aFn E ZP k x
noncomputable def gV (k : Nat) (x : ((List Int) × Int × Int) × Int) : Option ((Int × Int) × (List Int) × Int × Int) := aFn E ZN k x
noncomputable def jk (k : Nat) (x : ((List Int) × Int × Int) × Int) : Option ((Int × Int × Int × Int) × (List Int) × Int × Int) := aFn E ZL k x
noncomputable def VZ (k : Nat) (x : Int) : Option Int := aFn E Xh k x
noncomputable def Xd (k : Nat) (x : (List Int) × Int × Int) : Option (((List Int) × (List dS) × Int × Int × Int) × (List Int) × Int × Int) := aFn E gU k x
noncomputable def xL (k : Nat) (v4 : Int) (v5 : Bool) (v6 q2_2 q2_3 q2_4 q3_2 q3_3 q3_4 : Int) (r300 : List Int) (r301 : List dS) (z_0 : List Int) (z_1 z_2 : Int) : Option (((List Int) × (List dS) × Int × Int × Int) × (List Int) × Int × Int) := yS E k gU 7 [(0, .adr 500000 0), (2, .adr 200002 0), (3, .adr 200003 0), (4, ci v4), (5, cw .bool v5), (6, ci v6)] [(200002, .box [.nil, .nil, .val tI q2_2, .val tI q2_3, .val tI q2_4]), (200003, .box [.own 300300, .own 300301, .val tI q3_2, .val tI q3_3, .val tI q3_4]), (300300, .row tI r300 true false), (300301, .row tS r301 true true), (500000, .box [.val (.slice (.int .u8)) z_0, .val tI z_1, .val tI z_2])]
noncomputable def cU (k : Nat) (x : List Int) : Option ((List Int) × (List dS) × Int × Int × Int) := aFn E eR k x
noncomputable def wM (k : Nat) (x : Int) : Option Int := aFn E Wg k x
noncomputable def xV (k : Nat) (x : List Int) : Option Bool := aFn E gf k x
noncomputable def vR (k : Nat) (v7 : List Int) (v8 v9 : Int) (s3 : List Bool) : Option Bool := yS E k gf 3 [(3, .adr 400003 0), (7, cw tR v7), (8, ci v8), (9, ci v9)] [(400003, .arr .bool s3)]
noncomputable def strconv_Itoa (k : Nat) (x : Int) : Option ByteArray := aFn E strconv_Itoa_fi k x
noncomputable def zO (k : Nat) (x : Int) : Option ByteArray := aFn E cB k x
noncomputable def RB (k : Nat) (x : Int) : Option Bool := aFn E TF k x
noncomputable def strings_Join (k : Nat) (x : (List ByteArray) × ByteArray) : Option ByteArray := aFn E strings_Join_fi k x
noncomputable def RA (k : Nat) (x : (List ByteArray) × ByteArray) : Option ByteArray := aFn E TD k x
noncomputable def x8 (k : Nat) (x : List Int) : Option ByteArray := aFn E wW k x
noncomputable def xq (k : Nat) (v13 : List Int) (v14 v15 : Int) (p3 : List ByteArray) : Option ByteArray := yS E k wW 7 [(3, co 100003), (13, cw tR v13), (14, ci v14), (15, ci v15)] [(100003, .row .str p3 true true)]
noncomputable def strings_IndexByte (k : Nat) (x : ByteArray × Int) : Option Int := aFn E strings_IndexByte_fi k x
noncomputable def eC (k : Nat) (x : ByteArray × ByteArray) : Option (List ByteArray) := aFn E j9 k x
noncomputable def wK (k : Nat) (v0 v1 : ByteArray) (v6 v7 : Int) (p5 : List ByteArray) : Option (List ByteArray) := yS E k j9 4 [(0, cw .str v0), (1, cw .str v1), (5, co 100005), (6, ci v6), (7, ci v7)] [(100005, .row .str p5 true true)]
noncomputable def ZH (k : Nat) (x : ByteArray) : Option (Int × Bool) := aFn E strconv_Atoi_fi k x
noncomputable def vX (k : Nat) (x : ByteArray) : Option (Int × Bool) := aFn E aq k x
noncomputable def gb (k : Nat) (x : ByteArray) : Option ((List Int) × Bool) := aFn E vI k x
noncomputable def zY (k : Nat) (v14 v15 : Int) (p4 : List Int) (p13 : List ByteArray) : Option ((List Int) × Bool) := yS E k vI 5 [(4, co 100004), (13, co 100013), (14, ci v14), (15, ci v15)] [(100004, .row tI p4 true true), (100013, .row .str p13 true true)]
noncomputable def Q0 (k : Nat) (x : (List Int) × List Int) : Option Bool := aFn E Y0 k x
noncomputable def bz (k : Nat) (v1 v12 : List Int) (v13 v14 : Int) : Option Bool := yS E k Y0 4 [(1, cw tR v1), (12, cw tR v12), (13, ci v13), (14, ci v14)] []
noncomputable def YT (k : Nat) (x : Int × Int × Int) : Option Bool := aFn E X8 k x
noncomputable def ao (k : Nat) (x : Int × dS) : Option Bool := aFn E X3 k x
noncomputable def jd (k : Nat) (x : Int × Int) : Option Bool := aFn E jy k x
noncomputable def yA (k : Nat) (x : (List Int) × Int) : Option Int := aFn E zH k x
noncomputable def zt (k : Nat) (v0 : List Int) (v1_0_0 v7 v8 : Int) : Option Int := yS E k zH 2 [(0, cw tR v0), (1, .fn 158 [[.val tI v1_0_0]]), (7, ci v7), (8, ci v8)] []
noncomputable def uT (k : Nat) (x : (List Int) × Int) : Option Int := aFn E fv k x
noncomputable def vw (k : Nat) (x : dT) : Option Bool := aFn E fq k x
noncomputable def vu (k : Nat) (v3 : Int) (v4 : Bool) (v25 : List dS) (v26 v27 : Int) (q1_0 : List Int) (q1_1 : List dS) (q1_2 q1_3 q1_4 : Int) : Option Bool := yS E k fq 6 [(1, .adr 200001 0), (3, ci v3), (4, cw .bool v4), (25, cw tQ v25), (26, ci v26), (27, ci v27)] [(200001, .box [.val tR q1_0, .val tQ q1_1, .val tI q1_2, .val tI q1_3, .val tI q1_4])]
noncomputable def cZ (k : Nat) (x : Unit) : Option (List ByteArray) := aFn E cb k x
noncomputable def Zo (k : Nat) (x : Int) : Option ByteArray := aFn E ar k x
noncomputable def xO (k : Nat) (x : Int × Int) : Option ByteArray := aFn E fB k x
noncomputable def wq (k : Nat) (x : Int) : Option ByteArray := aFn E fG k x
noncomputable def vz (k : Nat) (x : dS) : Option ByteArray := aFn E fA k x
noncomputable def ua (k : Nat) (x : (List ByteArray) × ByteArray) : Option Int := aFn E xF k x
noncomputable def yP (k : Nat) (v0 : List ByteArray) (v1 : ByteArray) (v7 v8 : Int) : Option Int := yS E k xF 2 [(0, cw (.slice .str) v0), (1, cw .str v1), (7, ci v7), (8, ci v8)] []
noncomputable def bj (k : Nat) (x : ByteArray) : Option Int := aFn E cA k x
noncomputable def gc (k : Nat) (x : ByteArray) : Option (Int × Int × Bool) := aFn E cx k x
noncomputable def bh (k : Nat) (x : ByteArray) : Option (Int × Int × Int × Int × Bool) := aFn E vf k x
noncomputable def ve (k : Nat) (v0 : ByteArray) (v6 q2_0 q2_1 q2_2 q2_3 : Int) : Option (Int × Int × Int × Int × Bool) := yS E k vf 5 [(0, cw .str v0), (2, .adr 200002 0), (6, ci v6)] [(200002, .box [.val tI q2_0, .val tI q2_1, .val tI q2_2, .val tI q2_3])]
noncomputable def wL (k : Nat) (v0 : ByteArray) (v7 q2_0 q2_1 q2_2 q2_3 : Int) : Option (Int × Int × Int × Int × Bool) := yS E k vf 10 [(0, cw .str v0), (2, .adr 200002 0), (7, ci v7)] [(200002, .box [.val tI q2_0, .val tI q2_1, .val tI q2_2, .val tI q2_3])]
noncomputable def gg (k : Nat) (x : dT) : Option ByteArray := aFn E gF k x
noncomputable def fr (k : Nat) (x : dT) : Option (List ByteArray) := aFn E um k x
noncomputable def wJ (k : Nat) (v15 : List dS) (v16 v17 : Int) (q1_0 : List Int) (q1_1 : List dS) (q1_2 q1_3 q1_4 : Int) (p3 : List ByteArray) : Option (List ByteArray) := yS E k um 5 [(1, .adr 200001 0), (3, co 100003), (15, cw tQ v15), (16, ci v16), (17, ci v17)] [(200001, .box [.val tR q1_0, .val tQ q1_1, .val tI q1_2, .val tI q1_3, .val tI q1_4]), (100003, .row .str p3 true false)]
noncomputable def zE (k : Nat) (x : List Int) : Option (List Int) := aFn E xv k x
noncomputable def fu (k : Nat) (x : dT) : Option ((List Int) × Int × Bool) := aFn E ft k x
noncomputable def ub (k : Nat) (x : (List Int) × Int) : Option (List Int) := aFn E slices_Grow_int_fi k x
noncomputable def z8 (k : Nat) (x : List (List Int)) : Option (List Int) := aFn E xh k x
noncomputable def xg (k : Nat) (v0 : List (List Int)) (v3 : Int) (v9 : List (List Int)) (v10 v11 : Int) : Option (List Int) := yS E k xh 3 [(0, cw tW v0), (3, ci v3), (9, cw tW v9), (10, ci v10), (11, ci v11)] []
noncomputable def yW (k : Nat) (v25 : List (List Int)) (v26 v27 : Int) (p6 : List Int) : Option (List Int) := yS E k xh 11 [(6, co 100006), (25, cw tW v25), (26, ci v26), (27, ci v27)] [(100006, .row tI p6 true false)]
noncomputable def wx (k : Nat) (x : List Int) : Option (Unit × List Int) := aFn E slices_Reverse_int_fi k x
noncomputable def jv (k : Nat) (x : List Int) : Option (List Int) := aFn E aa k x
noncomputable def PG (k : Nat) (x : (List Int) × Int) : Option (List Int) := aFn E XV k x
noncomputable def xp (k : Nat) (v5 v6 : List Int) (v8 : Bool) (p7 : List Int) : Option (List Int) := yS E k XV 4 [(5, cw tR v5), (6, cw tR v6), (7, co 100007), (8, cw .bool v8)] [(100007, .row tI p7 true true)]
noncomputable def PB (k : Nat) (x : (List Int) × Int) : Option (List Int) := aFn E Zl k x
noncomputable def vW (k : Nat) (v1 : Int) (v8 : List Int) (v9 v10 : Int) (p5 : List Int) : Option (List Int) := yS E k Zl 3 [(1, ci v1), (5, co 100005), (8, cw tR v8), (9, ci v9), (10, ci v10)] [(100005, .row tI p5 true false)]
noncomputable def Ms (k : Nat) (x : List Int) : Option (List Int) := aFn E XU k x
noncomputable def af (k : Nat) (v0 p3 : List Int) : Option (List Int) := yS E k XU 2 [(0, cw tR v0), (3, co 100003)] [(100003, .row tI p3 true false)]
noncomputable def PH (k : Nat) (x : (List Int) × Int) : Option (List Int) := aFn E Zm k x
noncomputable def jx (k : Nat) (v7 : Bool) (p5 p6 : List Int) : Option (List Int) := yS E k Zm 4 [(5, co 100005), (6, co 100006), (7, cw .bool v7)] [(100005, .row tI p5 true true), (100006, .row tI p6 true false)]
noncomputable def eB (k : Nat) (x : Int) : Option Int := aFn E al k x
noncomputable def XT (k : Nat) (x : (List Int) × Int × Int) : Option (List Int) := aFn E Zj k x
noncomputable def jY (k : Nat) (v5 v7 : Int) (p6 : List Int) : Option (List Int) := yS E k Zj 10 [(5, ci v5), (6, co 100006), (7, ci v7)] [(100006, .row tI p6 true false)]
noncomputable def Rz (k : Nat) (x : List Int) : Option (List (List Int)) := aFn E XX k x
noncomputable def aj (k : Nat) (v0 : List Int) (v6 v7 : Int) (p3 : List (List Int)) : Option (List (List Int)) := yS E k XX 3 [(0, cw tR v0), (3, co 100003), (6, ci v6), (7, ci v7)] [(100003, .row tR p3 true true)]
noncomputable def XS (k : Nat) (x : (List Int) × Int) : Option (List Int) := aFn E uP k x
noncomputable def uO (k : Nat) (v0 : List Int) (v1 v5 v6 v11 v12 : Int) : Option (List Int) := yS E k uP 3 [(0, cw tR v0), (1, ci v1), (5, ci v5), (6, ci v6), (11, ci v11), (12, ci v12)] []
noncomputable def vq (k : Nat) (v0 : List Int) (v1 v5 v6 v24 v25 : Int) (p8 : List Int) : Option (List Int) := yS E k uP 9 [(0, cw tR v0), (1, ci v1), (5, ci v5), (6, ci v6), (8, co 100008), (24, ci v24), (25, ci v25)] [(100008, .row tI p8 true true)]
noncomputable def MQ (k : Nat) (x : (List Int) × Int) : Option ((List (List Int)) × Bool) := aFn E YS k x
noncomputable def YR (k : Nat) (v0 : List Int) (v7 : Int) (p6 : List (List Int)) : Option ((List (List Int)) × Bool) := yS E k YS 9 [(0, cw tR v0), (6, co 100006), (7, ci v7)] [(100006, .row tR p6 true true)]
noncomputable def ak (k : Nat) (v0 : List Int) (v48 v49 : Int) (p8 : List (List Int)) : Option ((List (List Int)) × Bool) := yS E k YS 20 [(0, cw tR v0), (8, co 100008), (48, ci v48), (49, ci v49)] [(100008, .row tR p8 true true)]
noncomputable def xu (k : Nat) (x : (List (List Int)) × Bool) : Option (Unit × List (List Int)) := aFn E slices_SortFunc_int_int_fi k x
noncomputable def yR (k : Nat) (x : (List (List Int)) × Bool) : Option (List (List Int)) := aFn E slices_CompactFunc_int_int_fi k x
noncomputable def ga (k : Nat) (x : List (List Int)) : Option (List (List Int)) := aFn E vH k x
noncomputable def wd (k : Nat) (v6 : List (List Int)) (v7 v8 : Int) (p3 : List (List Int)) : Option (List (List Int)) := yS E k vH 3 [(3, co 100003), (6, cw tW v6), (7, ci v7), (8, ci v8)] [(100003, .row tR p3 true true)]
noncomputable def bg (k : Nat) (x : (List Int) × Int) : Option ((List (List Int)) × Bool) := aFn E cr k x
noncomputable def wo (k : Nat) (x : dC × dS) : Option (List dC) := aFn E uw k x
noncomputable def we (k : Nat) (v68 v69 : Int) (q2_0 : List Int) (q2_1 : Int) (p5 : List dC) (va67 : List (List Int)) (va67_n : Nat) : Option (List dC) := yS E k uw 11 [(2, .adr 200002 0), (5, co 100005), (67, co 440067), (68, ci v68), (69, ci v69)] [(200002, .box [.val tR q2_0, .val tI q2_1]), (100005, .row tC p5 true true), (440067, .tl tR va67 va67_n)]
noncomputable def cY (k : Nat) (x : List Int) : Option (List ByteArray) := aFn E jc k x
noncomputable def vd (k : Nat) (v6 : List Int) (v7 v8 : Int) (p3 : List ByteArray) : Option (List ByteArray) := yS E k jc 3 [(3, co 100003), (6, cw tR v6), (7, ci v7), (8, ci v8)] [(100003, .row .str p3 true true)]
noncomputable def vS (k : Nat) (x : List Int) : Option ByteArray := aFn E gD k x
noncomputable def jZ (k : Nat) (x : dC) : Option ByteArray := aFn E Vz k x
noncomputable def YQ (k : Nat) (x : dT) : Option ((List (List dC)) × Bool) := aFn E ul k x
noncomputable def uk (k : Nat) (v25 : List dS) (v26 v27 : Int) (wa6 : List (List dC)) : Option ((List (List dC)) × Bool) := yS E k ul 4 [(6, co 450006), (25, cw tQ v25), (26, ci v26), (27, ci v27)] [(450006, .row tD wa6 true false)]
noncomputable def uj (k : Nat) (v25 : List dS) (v26 v27 v37 v38 : Int) (ta6 : List (List dC)) (ta6_i : Nat) (q8_0 q8_1 q8_2 q8_3 : Int) (ua9 : List ByteArray) (wa10 wa36 : List dC) : Option ((List (List dC)) × Bool) := yS E k ul 9 [(6, co 420006), (8, .adr 200008 0), (9, co 430009), (10, co 450010), (25, cw tQ v25), (26, ci v26), (27, ci v27), (36, co 450036), (37, ci v37), (38, ci v38)] [(420006, .hole tC ta6 ta6_i (.own 450036)), (200008, .box [.val tI q8_0, .val tI q8_1, .val tI q8_2, .val tI q8_3]), (430009, .mp ua9), (450010, .row tC wa10 true true), (450036, .row tC wa36 true false)]
noncomputable def vr (k : Nat) (v25 : List dS) (v26 v27 v37 v38 v45 v46 : Int) (ta6 : List (List dC)) (ta6_i : Nat) (q8_0 q8_1 q8_2 q8_3 : Int) (ua9 : List ByteArray) (wa10 wa36 va44 : List dC) (va44_n : Nat) : Option ((List (List dC)) × Bool) := yS E k ul 12 [(6, co 420006), (8, .adr 200008 0), (9, co 430009), (10, co 450010), (25, cw tQ v25), (26, ci v26), (27, ci v27), (36, co 450036), (37, ci v37), (38, ci v38), (44, co 440044), (45, ci v45), (46, ci v46)] [(420006, .hole tC ta6 ta6_i (.own 450036)), (200008, .box [.val tI q8_0, .val tI q8_1, .val tI q8_2, .val tI q8_3]), (430009, .mp ua9), (450010, .row tC wa10 true true), (450036, .row tC wa36 true false), (440044, .tl tC va44 va44_n)]
noncomputable def wV (k : Nat) (x : Int × List Int) : Option Bool := aFn E vL k x
noncomputable def yq (k : Nat) (x : (List Int) × List Int) : Option Int := aFn E zz k x
noncomputable def zn (k : Nat) (v0 v1_0_0 : List Int) (v7 v8 : Int) : Option Int := yS E k zz 2 [(0, cw tR v0), (1, .fn 156 [[.val tR v1_0_0]]), (7, ci v7), (8, ci v8)] []
noncomputable def yg (k : Nat) (x : (List Int) × List Int) : Option Bool := aFn E zW k x
noncomputable def ux (k : Nat) (x : (List Int) × List Int) : Option Bool := aFn E uW k x
noncomputable def TJ (k : Nat) (x : List Int) : Option Int := aFn E fD k x
noncomputable def vA (k : Nat) (v3 : Int) (v6 : List Int) (v7 v8 : Int) : Option Int := yS E k fD 3 [(3, ci v3), (6, cw tR v6), (7, ci v7), (8, ci v8)] []
noncomputable def yF (k : Nat) (x : (List Int) × List Int) : Option Bool := aFn E slices_Equal_int_fi k x
noncomputable def zA (k : Nat) (v0 v1 : List Int) (v12 v13 : Int) : Option Bool := yS E k slices_Equal_int_fi 4 [(0, cw tR v0), (1, cw tR v1), (12, ci v12), (13, ci v13)] []
noncomputable def uX (k : Nat) (x : dT × dC) : Option Bool := aFn E fE k x
noncomputable def jf (k : Nat) (x : dC × dT) : Option Bool := aFn E jC k x
noncomputable def yn (k : Nat) (x : (List dC) × dT) : Option Int := aFn E zx k x
noncomputable def zm (k : Nat) (v0 : List dC) (v1_0_0 : List Int) (v1_0_1 : List dS) (v1_0_2 v1_0_3 v1_0_4 v7 v8 : Int) : Option Int := yS E k zx 2 [(0, cw tD v0), (1, .fn 73 [[.val tR v1_0_0, .val tQ v1_0_1, .val tI v1_0_2, .val tI v1_0_3, .val tI v1_0_4]]), (7, ci v7), (8, ci v8)] []
noncomputable def zy (k : Nat) (x : (List dC) × dT) : Option Bool := aFn E zS k x
noncomputable def bd (k : Nat) (x : dC × (List (Option (List ByteArray))) × Int) : Option Bool := aFn E cg k x
noncomputable def yx (k : Nat) (x : (List dC) × (List (Option (List ByteArray))) × Int) : Option Int := aFn E zB k x
noncomputable def zq (k : Nat) (v0 : List dC) (v1_0_0 : List (Option (List ByteArray))) (v1_1_0 v7 v8 : Int) : Option Int := yS E k zB 2 [(0, cw tD v0), (1, .fn 143 [[.val (.slice .set) v1_0_0], [.val tI v1_1_0]]), (7, ci v7), (8, ci v8)] []
noncomputable def zD (k : Nat) (x : (List dC) × (List (Option (List ByteArray))) × Int) : Option Bool := aFn E z7 k x
noncomputable def XW (k : Nat) (x : dT × List (List dC)) : Option (List (Option (List ByteArray))) := aFn E uQ k x
noncomputable def vt (k : Nat) (v1 : List (List dC)) (q2_0 : List Int) (q2_1 : List dS) (q2_2 q2_3 q2_4 : Int) (r500 : List (Option (List ByteArray))) (q6_0 : Int) : Option (List (Option (List ByteArray))) := yS E k uQ 3 [(1, cw (.slice tD) v1), (2, .adr 200002 0), (5, .adr 200005 0), (6, .adr 200006 0)] [(200002, .box [.val tR q2_0, .val tQ q2_1, .val tI q2_2, .val tI q2_3, .val tI q2_4]), (200005, .box [.own 300500]), (300500, .row .set r500 true false), (200006, .box [.val tI q6_0])]
noncomputable def xb (k : Nat) (v1 : List (List dC)) (v27 : List dC) (v28 v29 : Int) (q2_0 : List Int) (q2_1 : List dS) (q2_2 q2_3 q2_4 : Int) (r500 : List (Option (List ByteArray))) (q6_0 : Int) : Option (List (Option (List ByteArray))) := yS E k uQ 7 [(1, cw (.slice tD) v1), (2, .adr 200002 0), (5, .adr 200005 0), (6, .adr 200006 0), (27, cw tD v27), (28, ci v28), (29, ci v29)] [(200002, .box [.val tR q2_0, .val tQ q2_1, .val tI q2_2, .val tI q2_3, .val tI q2_4]), (200005, .box [.own 300500]), (300500, .row .set r500 true false), (200006, .box [.val tI q6_0])]
noncomputable def je (k : Nat) (x : dC × (List (Option (List ByteArray))) × Int) : Option Bool := aFn E jB k x
noncomputable def zC (k : Nat) (x : (List dC) × (List (Option (List ByteArray))) × Int) : Option Int := aFn E zw k x
noncomputable def zl (k : Nat) (v0 : List dC) (v1_0_0 : List (Option (List ByteArray))) (v1_1_0 v7 v8 : Int) : Option Int := yS E k zw 2 [(0, cw tD v0), (1, .fn 77 [[.val (.slice .set) v1_0_0], [.val tI v1_1_0]]), (7, ci v7), (8, ci v8)] []
noncomputable def XZ (k : Nat) (x : dC) : Option ((List Int) × Int) := aFn E cj k x
noncomputable def fI (k : Nat) (x : dT) : Option (Int × (List Int) × (List Int) × Int × Bool) := aFn E uC k x
noncomputable def xD (k : Nat) (v45 : List dS) (v46 v47 q2_0 q2_3 : Int) (q6_0 : List Int) (q6_1 : Int) (r700 : List (Option (List ByteArray))) (q8_0 q8_3 : Int) (r801 : List Int) : Option (Int × (List Int) × (List Int) × Int × Bool) := yS E k uC 12 [(2, .adr 200002 0), (6, .adr 200006 0), (7, .adr 200007 0), (8, .adr 200008 0), (45, cw tQ v45), (46, ci v46), (47, ci v47)] [(200002, .box [.val tI q2_0, .nil, .nil, .val tI q2_3]), (200006, .box [.val tR q6_0, .val tI q6_1]), (200007, .box [.own 300700]), (300700, .row .set r700 true false), (200008, .box [.val tI q8_0, .own 300801, .nil, .val tI q8_3]), (300801, .row tI r801 true true)]
noncomputable def bn (k : Nat) (x : dT) : Option ((List dC) × Bool) := aFn E cD k x
noncomputable def bm (k : Nat) (x : dT) : Option Int := aFn E cC k x
noncomputable def bf (k : Nat) (x : dC) : Option ByteArray := aFn E cq k x
noncomputable def j8 (k : Nat) (x : dT) : Option ByteArray := aFn E gx k x
noncomputable def UN (k : Nat) (x : List Int) : Option Bool := aFn E uL k x
noncomputable def vh (k : Nat) (v40 : List dS) (v41 v42 : Int) (q4_1 : List dS) (q4_2 q4_3 q4_4 : Int) (r400 : List Int) : Option Bool := yS E k uL 9 [(4, .adr 200004 0), (40, cw tQ v40), (41, ci v41), (42, ci v42)] [(200004, .box [.own 300400, .val tQ q4_1, .val tI q4_2, .val tI q4_3, .val tI q4_4]), (300400, .row tI r400 true false)]
abbrev gw : Gw := ⟨fun w => Go.Lib.TabIs Tryz.prog w "internal/strconv.uint64pow10" .u64 Go.Lib.pow10Tab ∧ (∃ tp p, w.var? Tryz.prog "strconv.ErrSyntax" = some #[.iface tp p]) ∧ ∃ tp p, w.var? Tryz.prog "strconv.ErrRange" = some #[.iface tp p], false⟩
theorem ty_3 : TyOk Tryz.prog 3 (.one (tI)) := VU (by kernel_rfl) (by kernel_rfl) (by kernel_rfl)
theorem ty_4 : TyOk Tryz.prog 4 (.one (.bool)) := Q3 (by kernel_rfl) (by kernel_rfl) (by kernel_rfl)
theorem ty_5 : TyOk Tryz.prog 5 (.one (.int .u8)) := VU (by kernel_rfl) (by kernel_rfl) (by kernel_rfl)
theorem ty_9 : TyOk Tryz.prog 9 (.one (.str)) := Nr (by kernel_rfl) (by kernel_rfl) (by kernel_rfl)
theorem LI : TyOk Tryz.prog 22 (.one (.slice (.int .u8))) := xR (e := 5) (by kernel_rfl) (by kernel_rfl) (by kernel_rfl) (x9 (by kernel_rfl) (by kernel_rfl) (by kernel_rfl))
theorem Mz : TyOk Tryz.prog 23 (.one (tR)) := xR (e := 3) (by kernel_rfl) (by kernel_rfl) (by kernel_rfl) (x9 (by kernel_rfl) (by kernel_rfl) (by kernel_rfl))
theorem LH : TyOk Tryz.prog 24 (.one (tQ)) := xR (e := 40) (by kernel_rfl) (by kernel_rfl) (by kernel_rfl) (x9 (by kernel_rfl) (by kernel_rfl) (by kernel_rfl))
theorem LG : TyOk Tryz.prog 26 (.struct [(0, 23), (1, 24), (2, 3), (3, 3), (4, 3)] [tR, tQ, tI, tI, tI] false) := wS (fields := Tryz.prog.fieldsOf 26) (by kernel_rfl) (by kernel_rfl) (by kernel_rfl) (by kernel_rfl) (by kernel_rfl) (by kernel_rfl) (fun e => by cases e)
theorem LF : TyOk Tryz.prog 30 (.one (tD)) := xR (e := 35) (by kernel_rfl) (by kernel_rfl) (by kernel_rfl) (x9 (by kernel_rfl) (by kernel_rfl) (by kernel_rfl))
theorem LE : TyOk Tryz.prog 35 (.struct [(0, 23), (1, 3)] [tR, tI] false) := wS (fields := Tryz.prog.fieldsOf 35) (by kernel_rfl) (by kernel_rfl) (by kernel_rfl) (by kernel_rfl) (by kernel_rfl) (by kernel_rfl) (fun e => by cases e)
theorem LD : TyOk Tryz.prog 38 (.struct [(0, 3), (1, 3)] [tI, tI] true) := wS (fields := Tryz.prog.fieldsOf 38) (by kernel_rfl) (by kernel_rfl) (by kernel_rfl) (by kernel_rfl) (by kernel_rfl) (by kernel_rfl) (fun _ => Y5 (d := 20) (fields := Tryz.prog.fieldsOf 38) (by kernel_rfl) (by kernel_rfl) (by decide) (by kernel_rfl))
theorem LC : TyOk Tryz.prog 40 (.struct [(0, 3), (1, 38), (3, 3)] [tI, tI, tI, tI] true) := wS (fields := Tryz.prog.fieldsOf 40) (by kernel_rfl) (by kernel_rfl) (by kernel_rfl) (by kernel_rfl) (by kernel_rfl) (by kernel_rfl) (fun _ => Y5 (d := 20) (fields := Tryz.prog.fieldsOf 40) (by kernel_rfl) (by kernel_rfl) (by decide) (by kernel_rfl))
theorem LB : TyOk Tryz.prog 47 (.struct [(0, 3), (1, 23), (2, 35)] [tI, tR, tR, tI] false) := wS (fields := Tryz.prog.fieldsOf 47) (by kernel_rfl) (by kernel_rfl) (by kernel_rfl) (by kernel_rfl) (by kernel_rfl) (by kernel_rfl) (fun e => by cases e)
theorem LA : TyOk Tryz.prog 81 (.one (.slice .str)) := xR (e := 9) (by kernel_rfl) (by kernel_rfl) (by kernel_rfl) (x9 (by kernel_rfl) (by kernel_rfl) (by kernel_rfl))
theorem Lz : TyOk Tryz.prog 88 (.one (.slice tD)) := xR (e := 30) (by kernel_rfl) (by kernel_rfl) (by kernel_rfl) (x9 (by kernel_rfl) (by kernel_rfl) (by kernel_rfl))
theorem Ly : TyOk Tryz.prog 93 (.one (tW)) := xR (e := 23) (by kernel_rfl) (by kernel_rfl) (by kernel_rfl) (x9 (by kernel_rfl) (by kernel_rfl) (by kernel_rfl))
theorem Lj : TyOk Tryz.prog 100 (.one (.slice .set)) := xR (e := 104) (by kernel_rfl) (by kernel_rfl) (by kernel_rfl) (x9 (by kernel_rfl) (by kernel_rfl) (by kernel_rfl))
theorem Lh : TyOk Tryz.prog 104 (.one (.set)) := Ns (kt := 9) (et := 4) (by kernel_rfl) (by kernel_rfl) (by kernel_rfl) (by kernel_rfl) (by kernel_rfl)
theorem Lg : TyOk Tryz.prog 132 (.struct [(0, 22), (1, 3), (2, 3)] [.slice (.int .u8), tI, tI] false) := wS (fields := Tryz.prog.fieldsOf 132) (by kernel_rfl) (by kernel_rfl) (by kernel_rfl) (by kernel_rfl) (by kernel_rfl) (by kernel_rfl) (fun e => by cases e)
theorem Lf : TyOk Tryz.prog 149 (.arr 12 (.bool)) := Nu (e := 4) (by kernel_rfl) (x9 (by kernel_rfl) (by kernel_rfl) (by kernel_rfl)) (by kernel_rfl) (by kernel_rfl)
theorem Le : TyOk Tryz.prog 156 (.one (.err)) := Q2 (by kernel_rfl) (by kernel_rfl) (by kernel_rfl)
theorem RX : TyOk Tryz.prog 5023031 (.flag) := trivial
theorem RW : TyOk Tryz.prog 5023072 (.flag) := trivial
theorem RV : TyOk Tryz.prog 5030021 (.flag) := trivial
theorem RU : TyOk Tryz.prog 5035049 (.flag) := trivial
theorem RT : TyOk Tryz.prog 5073036 (.flag) := trivial
theorem RS : TyOk Tryz.prog 5077056 (.flag) := trivial
theorem RR : TyOk Tryz.prog 5143049 (.flag) := trivial
theorem RQ : TyOk Tryz.prog 8104055 (.flag) := trivial
theorem hE : ∀ T ti, E.ty T = some ti → TyOk Tryz.prog T ti := V6 (l := tyL) ⟨ty_3, ty_4, ty_5, ty_9, LI, Mz, LH, LG, LF, LE, LD, LC, LB, LA, Lz, Ly, Lj, Lh, Lg, Lf, Le, RX, RW, RV, RU, RT, RS, RR, RQ, trivial⟩
theorem Y8 : OneF Tryz.prog gw 151 strconv_Itoa_fi := MN Tryz.func151 (by kernel_rfl) (by kernel_rfl) (fun n w hw h0 h1 => Tryz.strconv_Itoa n h0 h1 w hw.1)
theorem Y6 : OneF Tryz.prog gw 166 strings_Join_fi := MM Tryz.func166 (by kernel_rfl) (by kernel_rfl) (fun a c sep w => Tryz.strings_Join_none a c sep w) (fun bk o c xs sep w hc hb hN hcap hl => Tryz.strings_Join bk o c xs sep w hc hb hN hcap hl) rfl
theorem eL : OneF Tryz.prog gw 164 strings_IndexByte_fi := Tq Tryz.func164 (by kernel_rfl) (by kernel_rfl) (fun s c w => Go.Proofs.Any.strings_IndexByte Tryz.lays137 s c w)
theorem strconv_Atoi_ok : OneF Tryz.prog gw 165 strconv_Atoi_fi := La Tryz.func165 (by kernel_rfl) (by kernel_rfl) rfl (SY Tryz.laysC172 (fun w hw => hw.2))
theorem bE : OneF Tryz.prog gw 204 slices_Grow_int_fi := Tryz.growOne
theorem gP : OneF Tryz.prog gw 205 slices_Reverse_int_fi := Tryz.revOne
theorem uJ : OneF Tryz.prog gw 208 slices_SortFunc_int_int_fi := Tryz.sortOne
theorem vD : OneF Tryz.prog gw 210 slices_CompactFunc_int_int_fi := Tryz.compactOne
theorem hF : FnOk Tryz.prog gw E := V7 (l := fnL) ⟨(okOf Tryz.func58 (by kernel_rfl)), (okOf Tryz.func163 (by kernel_rfl)), (okOf Tryz.func121 (by kernel_rfl)), (okOf Tryz.func133 (by kernel_rfl)), (okOf Tryz.func162 (by kernel_rfl)), (okOf Tryz.func131 (by kernel_rfl)), (okOf Tryz.func120 (by kernel_rfl)), (okOf Tryz.func50 (by kernel_rfl)), (okOf Tryz.func88 (by kernel_rfl)), (okOf Tryz.func134 (by kernel_rfl)), (okOf Tryz.func61 (by kernel_rfl)), (okOf Tryz.func187 (by kernel_rfl)), (okOf Tryz.func188 (by kernel_rfl)), (okOf Tryz.func153 (by kernel_rfl)), (okOf Tryz.func154 (by kernel_rfl)), (okOf Tryz.func107 (by kernel_rfl)), (okOf Tryz.func38 (by kernel_rfl)), (okOf Tryz.func109 (by kernel_rfl)), (okOf Tryz.func113 (by kernel_rfl)), Y8, (okOf Tryz.func104 (by kernel_rfl)), (okOf Tryz.func124 (by kernel_rfl)), Y6, (okOf Tryz.func125 (by kernel_rfl)), (okOf Tryz.func52 (by kernel_rfl)), eL, (okOf Tryz.func122 (by kernel_rfl)), strconv_Atoi_ok, (okOf Tryz.func123 (by kernel_rfl)), (okOf Tryz.func51 (by kernel_rfl)), (okOf Tryz.func44 (by kernel_rfl)), (okOf Tryz.func128 (by kernel_rfl)), (okOf Tryz.func114 (by kernel_rfl)), (okOf Tryz.func158 (by kernel_rfl)), (okOf Tryz.func157 (by kernel_rfl)), (okOf Tryz.func115 (by kernel_rfl)), (okOf Tryz.func46 (by kernel_rfl)), (okOf Tryz.func168 (by kernel_rfl)), (okOf Tryz.func129 (by kernel_rfl)), (okOf Tryz.func56 (by kernel_rfl)), (okOf Tryz.func126 (by kernel_rfl)), (okOf Tryz.func54 (by kernel_rfl)), (okOf Tryz.func167 (by kernel_rfl)), (okOf Tryz.func127 (by kernel_rfl)), (okOf Tryz.func55 (by kernel_rfl)), (okOf Tryz.func53 (by kernel_rfl)), (okOf Tryz.func130 (by kernel_rfl)), (okOf Tryz.func57 (by kernel_rfl)), (okOf Tryz.func135 (by kernel_rfl)), (okOf Tryz.func111 (by kernel_rfl)), bE, (okOf Tryz.func176 (by kernel_rfl)), gP, (okOf Tryz.func177 (by kernel_rfl)), (okOf Tryz.func179 (by kernel_rfl)), (okOf Tryz.func180 (by kernel_rfl)), (okOf Tryz.func181 (by kernel_rfl)), (okOf Tryz.func182 (by kernel_rfl)), (okOf Tryz.func178 (by kernel_rfl)), (okOf Tryz.func144 (by kernel_rfl)), (okOf Tryz.func206 (by kernel_rfl)), (okOf Tryz.func207 (by kernel_rfl)), (okOf Tryz.func183 (by kernel_rfl)), uJ, vD, (okOf Tryz.func184 (by kernel_rfl)), (okOf Tryz.func145 (by kernel_rfl)), (okOf Tryz.func75 (by kernel_rfl)), (okOf Tryz.func152 (by kernel_rfl)), (okOf Tryz.func105 (by kernel_rfl)), (okOf Tryz.func78 (by kernel_rfl)), (okOf Tryz.func64 (by kernel_rfl)), (okOf Tryz.func156 (by kernel_rfl)), (okOf Tryz.func157 (by kernel_rfl)), (okOf Tryz.func155 (by kernel_rfl)), (okOf Tryz.func108 (by kernel_rfl)), (okOf Tryz.func110 (by kernel_rfl)), (okOf Tryz.func65 (by kernel_rfl)), (okOf Tryz.func40 (by kernel_rfl)), (okOf Tryz.func73 (by kernel_rfl)), (okOf Tryz.func76 (by kernel_rfl)), (okOf Tryz.func72 (by kernel_rfl)), (okOf Tryz.func143 (by kernel_rfl)), (okOf Tryz.func76 (by kernel_rfl)), (okOf Tryz.func72 (by kernel_rfl)), (okOf Tryz.func74 (by kernel_rfl)), (okOf Tryz.func77 (by kernel_rfl)), (okOf Tryz.func76 (by kernel_rfl)), (okOf Tryz.func79 (by kernel_rfl)), (okOf Tryz.func21 (by kernel_rfl)), (okOf Tryz.func15 (by kernel_rfl)), (okOf Tryz.func39 (by kernel_rfl)), (okOf Tryz.func106 (by kernel_rfl)), (okOf Tryz.func37 (by kernel_rfl)), (okOf Tryz.func12 (by kernel_rfl)), trivial⟩
end Pt
