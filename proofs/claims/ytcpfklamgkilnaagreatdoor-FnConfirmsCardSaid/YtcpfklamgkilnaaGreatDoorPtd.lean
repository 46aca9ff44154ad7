/-
  The plain machine's telling of functions of the program: codes, functions, tables. Printed by gen11.py.
  Conditions: none; these are definitions and equations that the kernel checks.
-/
import Derived.Test.YtcpfklamgkilnaaGreatDoorVd
import Derived.Test.YtcpfklamgkilnaaGreatDoorProg
import Derived.Test.YtcpfklamgkilnaaGreatDoorShelf
import Derived.Test.YtcpfklamgkilnaaGreatDoorCmf
import Derived.Test.YtcpfklamgkilnaaGreatDoorDel
import Derived.Test.YtcpfklamgkilnaaGreatDoorSrt
namespace Pt
open Go Go.Vt Go.Proofs
set_option linter.unusedVariables false
set_option maxRecDepth 100000
abbrev tI : Ty := .int .i64
abbrev tR : Ty := .slice tI
abbrev tS : Ty := .pair tI (.pair (.pair tI tI) tI)
abbrev tQ : Ty := .slice tS
abbrev tT : Ty := .pair tR (.pair tQ (.pair tI (.pair tI tI)))
abbrev tC : Ty := .pair tR tI
abbrev tD : Ty := .slice tC
abbrev tW : Ty := .slice tR
abbrev tK : Ty := .pair (.slice (.int .u8)) (.pair tI tI)
abbrev tN : Ty := .pair tT tC
abbrev dS : Type := Int × (Int × Int) × Int
abbrev dT : Type := List Int × List dS × Int × Int × Int
abbrev dC : Type := List Int × Int
abbrev dN : Type := dT × dC
noncomputable abbrev ci (x : Int) : AV := .cv (.val tI x)
noncomputable abbrev cw (t : Ty) (x : t.den) : AV := .cv (.val t x)
noncomputable abbrev co (c : Nat) : AV := .cv (.own c)
noncomputable def tyL : List (Nat × TI) := [(3, .one (tI)), (4, .one (.bool)), (5, .one (.int .u8)), (9, .one (.str)), (22, .one (.slice (.int .u8))), (27, .one (.slice .str)), (31, .one (tR)), (32, .one (tQ)), (34, .struct [(0, 31), (1, 32), (2, 3), (3, 3), (4, 3)] [tR, tQ, tI, tI, tI] false), (36, .struct [(0, 31), (1, 3)] [tR, tI] false), (38, .struct [(0, 34), (5, 36)] [tR, tQ, tI, tI, tI, tR, tI] false), (56, .struct [(0, 22), (1, 3), (2, 3)] [.slice (.int .u8), tI, tI] false), (66, .struct [(0, 3), (1, 3)] [tI, tI] true), (68, .struct [(0, 3), (1, 66), (3, 3)] [tI, tI, tI, tI] true), (80, .one (.err)), (113, .arr 12 (.bool)), (124, .one (tW)), (129, .one (tD)), (136, .struct [(0, 3), (1, 31), (2, 36)] [tI, tR, tR, tI] false), (152, .one (.slice .bool)), (161, .imap), (164, .one (.slice tD)), (170, .one (.slice .set)), (173, .one (.set)), (5031025, .flag), (5031031, .flag), (5031072, .flag), (5036049, .flag), (5036057, .flag), (5129021, .flag), (5131036, .flag), (5135056, .flag), (5155049, .flag), (8173055, .flag)]
noncomputable def Yt : Fi := fiOf Tryz.f18 [.v (.slice (.int .u8)) false] [(false, [⟨tK, some (false, false)⟩])] fun | 3 => some [.keep 0, .keep 3, .keep 4] | _ => none
noncomputable def Vj : Fi := fiOf Tryz.f14 [.p (.slice (.int .u8)) (.pair tI tI)] [(false, [⟨tI, none⟩])] h0
noncomputable def Y7 : Fi := fiOf Tryz.f28 [.p (.slice (.int .u8)) (.pair tI tI), .v tI false] [(false, [⟨tI, none⟩])] h0
noncomputable def U0 : Fi := fiOf Tryz.f27 [.p (.slice (.int .u8)) (.pair tI tI), .v (.slice .str) false] [(false, [⟨.str, none⟩])] h0
noncomputable def Vi : Fi := fiOf Tryz.f29 [.p (.slice (.int .u8)) (.pair tI tI)] [(false, [⟨.str, none⟩])] h0
noncomputable def bY : Fi := fiOf Tryz.f17 [.p (.slice (.int .u8)) (.pair tI tI), .v tI false] [(false, [⟨.slice .str, some (true, false)⟩])] fun | 3 => some [.box 0 500000 [.keep, .keep, .keep], .cell 5 (.row 100005 (.str) true false), .keep 6] | _ => none
noncomputable def ZI : Fi := fiOf Tryz.f9 [.v (.slice (.int .u8)) false] [(false, [⟨.slice .str, some (true, false)⟩])] h0
noncomputable def TF : Fi := fiOf Tryz.f30 [.v tI false] [(false, [⟨tR, some (true, true)⟩])] fun | 3 => some [.keep 0, .cell 3 (.row 100003 (tI) true true), .keep 4] | _ => none
noncomputable def Z8 : Fi := fiOf Tryz.f19 [.v tI false] [(false, [⟨tR, some (true, true)⟩])] h0
noncomputable def Sb : Fi := fiOf Tryz.f72 [.v tI false] [(false, [⟨tI, none⟩])] h0
noncomputable def cN : Fi := fiOf Tryz.f45 [.v tR false] [(false, [⟨.bool, none⟩])] fun | 3 => some [.arr 3 400003, .keep 7, .keep 8, .keep 9] | _ => none
noncomputable def T1 : Fi := fiOf Tryz.f73 [.v tI false, .v (.pair tI tI) true] [(false, [⟨.bool, none⟩])] h0
noncomputable def TP : Fi := fiOf Tryz.f46 [.v tI false, .v tS true] [(false, [⟨.bool, none⟩])] h0
noncomputable def ef : Fi := fiOf Tryz.f75 [.v tI false, .r tI] [(false, [⟨.bool, none⟩])] h0
noncomputable def zR : Fi := fiOf Tryz.f74 [.v tR false, .fn 75 [tI]] [(false, [⟨tI, none⟩])] fun | 2 => some [.keep 0, .keep 1, .keep 7, .keep 8] | _ => none
noncomputable def aq : Fi := fiOf Tryz.f47 [.v tR false, .v tI false] [(false, [⟨tI, none⟩])] h0
noncomputable def al : Fi := fiOf Tryz.f31 [.v tT true] [(false, [⟨.bool, none⟩])] fun | 6 => some [.box 1 200001 [.keep, .keep, .keep, .keep, .keep], .keep 3, .keep 4, .keep 25, .keep 26, .keep 27] | _ => none
noncomputable def xX : Fi := fiOf Tryz.f32 [.v tR false] [(false, [⟨tR, some (true, false)⟩])] h0
noncomputable def am : Fi := fiOf Tryz.f20 [.v tT true] [(true, [⟨tR, some (true, true)⟩, ⟨tI, none⟩]), (false, [⟨.bool, none⟩])] h0
noncomputable def ay : Fi := fiOf Tryz.f10 [] [(true, [⟨tR, some (true, true)⟩, ⟨tQ, some (true, true)⟩, ⟨tI, none⟩, ⟨tI, none⟩, ⟨tI, none⟩, ⟨tR, some (true, true)⟩, ⟨tI, none⟩])] h0
noncomputable def xh : Fi := fiOf Tryz.f33 [.v tQ false] [(false, [⟨tQ, some (true, false)⟩])] h0
noncomputable def ZY : Fi := fiOf Tryz.f21 [.v tT true] [(true, [⟨tR, some (true, false)⟩, ⟨tQ, some (true, false)⟩, ⟨tI, none⟩, ⟨tI, none⟩, ⟨tI, none⟩])] h0
noncomputable def ZZ : Fi := fiOf Tryz.f22 [.v tC true] [(true, [⟨tR, some (true, false)⟩, ⟨tI, none⟩])] h0
noncomputable abbrev strings_IndexByte_fi : Fi := indexByteFi
noncomputable def cE : Fi := fiOf Tryz.f16 [.v .str false, .v .str false] [(false, [⟨.slice .str, some (true, true)⟩])] fun | 4 => some [.keep 0, .keep 1, .cell 5 (.row 100005 (.str) true true), .keep 6, .keep 7] | _ => none
noncomputable abbrev strings_Join_fi : Fi := joinFi
noncomputable def Nw : Fi := fiOf Tryz.f12 [.v (.slice .str) false, .v .str false] [(false, [⟨.str, none⟩])] h0
noncomputable abbrev strconv_Atoi_fi : Fi := atoiFi
noncomputable abbrev strconv_Itoa_fi : Fi := itoaFi
noncomputable def Yb : Fi := fiOf Tryz.f6 [.v tI false] [(false, [⟨.str, none⟩])] h0
noncomputable def XI : Fi := fiOf Tryz.f37 [.v .str false] [(false, [⟨tI, none⟩]), (false, [⟨.bool, none⟩])] h0
noncomputable def jx : Fi := fiOf Tryz.f48 [.v .str false] [(false, [⟨tR, some (true, true)⟩]), (false, [⟨.bool, none⟩])] fun | 5 => some [.cell 4 (.row 100004 (tI) true true), .cell 13 (.row 100013 (.str) true true), .keep 14, .keep 15] | _ => none
noncomputable def eB : Fi := fiOf Tryz.f49 [.p tT tC, .v tT true] [(false, [⟨.str, none⟩])] h0
noncomputable def ZT : Fi := fiOf Tryz.f83 [] [(false, [⟨.slice .str, some (true, false)⟩])] h0
noncomputable def wj : Fi := fiOf Tryz.f82 [.v (.slice .str) false, .v .str false] [(false, [⟨tI, none⟩])] fun | 2 => some [.keep 0, .keep 1, .keep 7, .keep 8] | _ => none
noncomputable def Z9 : Fi := fiOf Tryz.f55 [.v .str false] [(false, [⟨tI, none⟩])] h0
noncomputable def XK : Fi := fiOf Tryz.f112 [.v tI false] [(false, [⟨.str, none⟩])] h0
noncomputable def aF : Fi := fiOf Tryz.f78 [.v (.pair tI tI) true] [(false, [⟨.str, none⟩])] h0
noncomputable def Z6 : Fi := fiOf Tryz.f51 [.v .str false] [(true, [⟨tI, none⟩, ⟨tI, none⟩]), (false, [⟨.bool, none⟩])] h0
noncomputable def aM : Fi := fiOf Tryz.f76 [.v tI false] [(false, [⟨.str, none⟩])] h0
noncomputable def aC : Fi := fiOf Tryz.f77 [.v tS true] [(false, [⟨.str, none⟩])] h0
noncomputable def uP : Fi := fiOf Tryz.f50 [.v .str false] [(true, [⟨tI, none⟩, ⟨tI, none⟩, ⟨tI, none⟩, ⟨tI, none⟩]), (false, [⟨.bool, none⟩])] fun | 5 => some [.keep 0, .box 2 200002 [.keep, .keep, .keep, .keep], .keep 6] | 10 => some [.keep 0, .box 2 200002 [.keep, .keep, .keep, .keep], .keep 7] | _ => none
noncomputable abbrev slices_Grow_int_fi : Fi := growFi
noncomputable def xB : Fi := fiOf Tryz.f113 [.v tW false] [(false, [⟨tR, some (true, false)⟩])] fun | 3 => some [.keep 0, .keep 3, .keep 9, .keep 10, .keep 11] | 11 => some [.cell 6 (.row 100006 (tI) true false), .keep 25, .keep 26, .keep 27] | _ => none
noncomputable abbrev slices_Reverse_int_fi : Fi := reverseFi
noncomputable def Xt : Fi := fiOf Tryz.f114 [.v tR false] [(false, [⟨tR, some (true, false)⟩])] h0
noncomputable def TJ : Fi := fiOf Tryz.f95 [.v tR false, .v tI false] [(false, [⟨tR, some (true, true)⟩])] fun | 4 => some [.keep 5, .keep 6, .cell 7 (.row 100007 (tI) true true), .keep 8] | _ => none
noncomputable def WB : Fi := fiOf Tryz.f116 [.v tR false, .v tI false] [(false, [⟨tR, some (true, false)⟩])] fun | 3 => some [.keep 1, .cell 5 (.row 100005 (tI) true false), .keep 8, .keep 9, .keep 10] | _ => none
noncomputable def TH : Fi := fiOf Tryz.f117 [.v tR false] [(false, [⟨tR, some (true, false)⟩])] fun | 2 => some [.keep 0, .cell 3 (.row 100003 (tI) true false)] | _ => none
noncomputable def WF : Fi := fiOf Tryz.f118 [.v tR false, .v tI false] [(false, [⟨tR, some (true, true)⟩])] fun | 4 => some [.cell 5 (.row 100005 (tI) true true), .cell 6 (.row 100006 (tI) true false), .keep 7] | _ => none
noncomputable def XC : Fi := fiOf Tryz.f115 [.v tI false] [(false, [⟨tI, none⟩])] h0
noncomputable def WA : Fi := fiOf Tryz.f79 [.v tR false, .v (.pair tI tI) true] [(false, [⟨tR, some (true, false)⟩])] fun | 10 => some [.keep 5, .cell 6 (.row 100006 (tI) true false), .keep 7] | _ => none
noncomputable def VK : Fi := fiOf Tryz.f52 [.v tR false, .v (.pair tI tI) true] [(false, [⟨tR, some (true, false)⟩]), (false, [⟨.bool, none⟩])] h0
noncomputable def Ny : Fi := fiOf Tryz.f139 [.v tI false] [(false, [⟨.bool, none⟩])] h0
noncomputable def uy : Fi := fiOf Tryz.f103 [.v tR false] [(false, [⟨.str, none⟩])] fun | 7 => some [.cell 3 (.row 100003 (.str) true true), .keep 13, .keep 14, .keep 15] | _ => none
noncomputable def Z1 : Fi := fiOf Tryz.f80 [.v tC true] [(false, [⟨.str, none⟩])] h0
noncomputable def eC : Fi := fiOf Tryz.f53 [.p tT tC, .v tC true, .v .bool false] [(false, [⟨.str, none⟩])] h0
noncomputable def eu : Fi := fiOf Tryz.f34 [.p tT tC, .v .str false, .v .str false] [(false, [⟨.str, none⟩])] h0
noncomputable def za : Fi := fiOf Tryz.f35 [.p tT tC, .v (.slice .str) false] [(false, [⟨.str, none⟩])] fun | 3 => some [.box 0 500000 [.keep, .keep, .keep, .keep, .keep, .keep, .keep], .keep 1, .cell 5 (.row 100005 (tI) true true), .keep 11, .keep 12, .keep 13] | _ => none
noncomputable def jF : Fi := fiOf Tryz.f145 [.v tI false, .r tR] [(false, [⟨.bool, none⟩])] h0
noncomputable def zJ : Fi := fiOf Tryz.f74 [.v tR false, .fn 145 [tR]] [(false, [⟨tI, none⟩])] fun | 2 => some [.keep 0, .keep 1, .keep 7, .keep 8] | _ => none
noncomputable def yf : Fi := fiOf Tryz.f144 [.v tR false, .fn 145 [tR]] [(false, [⟨.bool, none⟩])] h0
noncomputable def fe : Fi := fiOf Tryz.f119 [.v tR false, .v tR false] [(false, [⟨.bool, none⟩])] h0
noncomputable def jw : Fi := fiOf Tryz.f81 [.v tR false, .v tR false] [(false, [⟨tR, some (true, true)⟩]), (false, [⟨.bool, none⟩])] fun | 5 => some [.keep 0, .cell 6 (.row 100006 (tI) true true), .keep 13, .keep 14, .keep 15] | _ => none
noncomputable def aw : Fi := fiOf Tryz.f54 [.v tI false, .v (.pair tI tI) true] [(false, [⟨tR, some (true, true)⟩]), (false, [⟨.bool, none⟩])] h0
noncomputable def vg : Fi := fiOf Tryz.f94 [.v tR false, .v tI false] [(false, [⟨tI, none⟩])] fun | 2 => some [.keep 0, .keep 1, .keep 7, .keep 8] | _ => none
noncomputable def um : Fi := fiOf Tryz.f120 [.v tR false, .v tI false] [(false, [⟨.bool, none⟩])] h0
noncomputable def YK : Fi := fiOf Tryz.f84 [.v tR false] [(false, [⟨.bool, none⟩])] fun | 2 => some [.keep 0, .keep 5, .keep 6, .keep 7] | _ => none
noncomputable def jR : Fi := fiOf Tryz.f85 [.v tR false] [(false, [⟨tW, some (true, true)⟩])] fun | 6 => some [.keep 0, .cell 3 (.row 100003 (tR) true true), .cell 4 (.row 100004 (.bool) true false), .keep 15, .keep 16] | 10 => some [.keep 0, .cell 3 (.row 100003 (tR) true true), .cell 4 (.row 100004 (.bool) true false), .cell 6 (.row 100006 (tI) true true), .keep 7, .keep 15, .keep 16] | _ => none
noncomputable def fC : Fi := fiOf Tryz.f86 [.v tR false] [(false, [⟨.slice .str, some (true, true)⟩])] fun | 3 => some [.cell 3 (.row 100003 (.str) true true), .keep 6, .keep 7, .keep 8] | _ => none
noncomputable def gF : Fi := fiOf Tryz.f56 [.v tR false] [(false, [⟨.str, none⟩])] fun | 7 => some [.keep 3, .cell 13 (.row 100013 (tR) false true), .keep 14, .keep 15] | _ => none
noncomputable def gH : Fi := fiOf Tryz.f36 [.p tT tC, .v (.slice .str) false] [(false, [⟨.str, none⟩])] h0
noncomputable def TL : Fi := fiOf Tryz.f158 [.v tR false] [(false, [⟨tW, some (true, true)⟩])] fun | 3 => some [.keep 0, .cell 3 (.row 100003 (tR) true true), .keep 6, .keep 7] | _ => none
noncomputable def gW : Fi := fiOf Tryz.f152 [.v tR false, .v tI false] [(false, [⟨tR, some (true, true)⟩])] fun | 3 => some [.keep 0, .keep 1, .keep 5, .keep 6, .keep 11, .keep 12] | 9 => some [.keep 0, .keep 1, .keep 5, .keep 6, .cell 8 (.row 100008 (tI) true true), .keep 24, .keep 25] | _ => none
noncomputable def Uw : Fi := fiOf Tryz.f149 [.v tR false, .v tI false] [(false, [⟨tW, some (true, false)⟩]), (false, [⟨.bool, none⟩])] fun | 9 => some [.keep 0, .cell 6 (.row 100006 (tR) true true), .keep 7] | 20 => some [.keep 0, .cell 8 (.row 100008 (tR) true true), .keep 48, .keep 49] | _ => none
noncomputable abbrev slices_SortFunc_int_int_fi : Fi := (sortFi 160)
noncomputable abbrev slices_CompactFunc_int_int_fi : Fi := compactFi
noncomputable def jt : Fi := fiOf Tryz.f150 [.v tW false] [(false, [⟨tW, some (true, false)⟩])] fun | 3 => some [.cell 3 (.row 100003 (tR) true true), .keep 6, .keep 7, .keep 8] | _ => none
noncomputable def Z3 : Fi := fiOf Tryz.f126 [.v tR false, .v tI false] [(false, [⟨tW, some (true, false)⟩]), (false, [⟨.bool, none⟩])] h0
noncomputable def gE : Fi := fiOf Tryz.f90 [.v tC true, .v tS true] [(false, [⟨tD, some (true, false)⟩])] fun | 11 => some [.box 2 200002 [.keep, .keep], .cell 5 (.row 100005 (tC) true true), .cell 67 (.row 440067 (tR) true false), .keep 68, .keep 69] | _ => none
noncomputable def bz : Fi := fiOf Tryz.f99 [.v tR false] [(false, [⟨.str, none⟩])] h0
noncomputable def RY : Fi := fiOf Tryz.f136 [.v tC true] [(false, [⟨.str, none⟩])] h0
noncomputable def gn : Fi := fiOf Tryz.f129 [.v tT true] [(false, [⟨.slice tD, some (true, false)⟩]), (false, [⟨.bool, none⟩])] fun | 4 => some [.cell 6 (.row 450006 (tD) true false), .keep 25, .keep 26, .keep 27] | 9 => some [.cell 6 (.row 420006 (tC) true false), .box 8 200008 [.keep, .keep, .keep, .keep], .cell 9 (.row 430009 (.bool) false false), .cell 10 (.row 450010 (tC) true true), .keep 25, .keep 26, .keep 27, .cell 36 (.row 450036 (tC) true false), .keep 37, .keep 38] | 12 => some [.cell 6 (.row 420006 (tC) true false), .box 8 200008 [.keep, .keep, .keep, .keep], .cell 9 (.row 430009 (.bool) false false), .cell 10 (.row 450010 (tC) true true), .keep 25, .keep 26, .keep 27, .cell 36 (.row 450036 (tC) true false), .keep 37, .keep 38, .cell 44 (.row 440044 (tC) true false), .keep 45, .keep 46] | _ => none
noncomputable def aJ : Fi := fiOf Tryz.f154 [.v tR false] [(false, [⟨tI, none⟩])] fun | 3 => some [.keep 3, .keep 6, .keep 7, .keep 8] | _ => none
noncomputable def slices_Equal_int_fi : Fi := fiOf Tryz.f153 [.v tR false, .v tR false] [(false, [⟨.bool, none⟩])] fun | 4 => some [.keep 0, .keep 1, .keep 12, .keep 13] | _ => none
noncomputable def aK : Fi := fiOf Tryz.f132 [.v tT true, .v tC true] [(false, [⟨.bool, none⟩])] h0
noncomputable def eE : Fi := fiOf Tryz.f131 [.v tC true, .r tT] [(false, [⟨.bool, none⟩])] h0
noncomputable def zG : Fi := fiOf Tryz.f134 [.v tD false, .fn 131 [tT]] [(false, [⟨tI, none⟩])] fun | 2 => some [.keep 0, .keep 1, .keep 7, .keep 8] | _ => none
noncomputable def ya : Fi := fiOf Tryz.f130 [.v tD false, .fn 131 [tT]] [(false, [⟨.bool, none⟩])] h0
noncomputable def ZX : Fi := fiOf Tryz.f155 [.v tC true, .r (.slice .set), .r tI] [(false, [⟨.bool, none⟩])] h0
noncomputable def zN : Fi := fiOf Tryz.f134 [.v tD false, .fn 155 [.slice .set, tI]] [(false, [⟨tI, none⟩])] fun | 2 => some [.keep 0, .keep 1, .keep 7, .keep 8] | _ => none
noncomputable def yl : Fi := fiOf Tryz.f130 [.v tD false, .fn 155 [.slice .set, tI]] [(false, [⟨.bool, none⟩])] h0
noncomputable def gX : Fi := fiOf Tryz.f133 [.v tT true, .v (.slice tD) false] [(false, [⟨.slice .set, some (true, false)⟩])] fun | 3 => some [.keep 1, .box 2 200002 [.keep, .keep, .keep, .keep, .keep], .box 5 200005 [.row 300500 (.set) true false], .box 6 200006 [.keep]] | 7 => some [.keep 1, .box 2 200002 [.keep, .keep, .keep, .keep, .keep], .box 5 200005 [.row 300500 (.set) true false], .box 6 200006 [.keep], .keep 27, .keep 28, .keep 29] | _ => none
noncomputable def eD : Fi := fiOf Tryz.f135 [.v tC true, .r (.slice .set), .r tI] [(false, [⟨.bool, none⟩])] h0
noncomputable def zF : Fi := fiOf Tryz.f134 [.v tD false, .fn 135 [.slice .set, tI]] [(false, [⟨tI, none⟩])] fun | 2 => some [.keep 0, .keep 1, .keep 7, .keep 8] | _ => none
noncomputable def gK : Fi := fiOf Tryz.f97 [.v tT true] [(true, [⟨tI, none⟩, ⟨tR, some (true, true)⟩, ⟨tR, some (true, false)⟩, ⟨tI, none⟩]), (false, [⟨.bool, none⟩])] fun | 12 => some [.box 2 200002 [.keep, .keep, .keep, .keep], .box 6 200006 [.keep, .keep], .box 7 200007 [.row 300700 (.set) true false], .box 8 200008 [.keep, .row 300801 (tI) true true, .keep, .keep], .keep 45, .keep 46, .keep 47] | _ => none
noncomputable def Yd : Fi := fiOf Tryz.f137 [.v tT true] [(false, [⟨tD, some (true, false)⟩]), (false, [⟨.bool, none⟩])] h0
noncomputable def Yc : Fi := fiOf Tryz.f98 [.v tT true] [(false, [⟨tI, none⟩])] h0
noncomputable def bp : Fi := fiOf Tryz.f62 [.v tT true] [(false, [⟨.str, none⟩])] h0
noncomputable def R0 : Fi := fiOf Tryz.f100 [.v tT true] [(false, [⟨.bool, none⟩])] h0
noncomputable abbrev slices_Delete_i_Step_fi : Fi := (deleteFi (.pair (.int .i64) (.pair (.pair (.int .i64) (.int .i64)) (.int .i64))))
noncomputable def XM : Fi := fiOf Tryz.f102 [.v tT true, .v tI false] [(true, [⟨tR, some (true, false)⟩, ⟨tQ, some (false, false)⟩, ⟨tI, none⟩, ⟨tI, none⟩, ⟨tI, none⟩]), (false, [⟨.bool, none⟩])] h0
noncomputable def Xy : Fi := fiOf Tryz.f101 [.v tT true, .v tI false] [(false, [⟨.bool, none⟩])] h0
noncomputable def uw : Fi := fiOf Tryz.f63 [.v tT true] [(true, [⟨tR, some (true, false)⟩, ⟨tQ, some (false, false)⟩, ⟨tI, none⟩, ⟨tI, none⟩, ⟨tI, none⟩]), (false, [⟨.bool, none⟩])] fun | 5 => some [.box 2 200002 [.keep, .keep, .keep, .keep, .keep], .box 4 200004 [.row 300400 (tI) true false, .row 300401 (tS) false false, .keep, .keep, .keep], .keep 5] | _ => none
noncomputable def bB : Fi := fiOf Tryz.f104 [.v tT true] [(false, [⟨.str, none⟩])] h0
noncomputable def gp : Fi := fiOf Tryz.f64 [.v tT true] [(false, [⟨.slice .str, some (true, false)⟩])] fun | 5 => some [.box 1 200001 [.keep, .keep, .keep, .keep, .keep], .cell 3 (.row 100003 (.str) true false), .keep 15, .keep 16, .keep 17] | _ => none
noncomputable def ep : Fi := fiOf Tryz.f39 [.p tT tC, .v .str false] [(false, [⟨.str, none⟩])] h0
noncomputable def uz : Fi := fiOf Tryz.f89 [.v tT true] [(false, [⟨tI, none⟩])] fun | 5 => some [.keep 3, .keep 10, .keep 11, .keep 12] | _ => none
noncomputable def cJ : Fi := fiOf Tryz.f58 [.v tT true, .v tR false] [(true, [⟨tR, some (true, false)⟩, ⟨tI, none⟩]), (false, [⟨.bool, none⟩])] fun | 5 => some [.keep 1, .box 4 200004 [.keep, .keep], .box 6 200006 [.row 300600 (tI) true false, .keep], .keep 28, .keep 29, .keep 30] | _ => none
noncomputable def Xx : Fi := fiOf Tryz.f91 [.v tI false] [(false, [⟨.bool, none⟩])] h0
noncomputable def gv : Fi := fiOf Tryz.f93 [.v tI false, .v tI false, .r tI] [(false, [⟨tI, none⟩])] h0
noncomputable def zS : Fi := fiOf Tryz.f92 [.v tI false, .v tI false, .v tI false, .fn 93 [tI]] [(false, [⟨tR, some (true, false)⟩]), (false, [⟨.bool, none⟩])] fun | 3 => some [.keep 1, .keep 2, .keep 3, .cell 10 (.row 430010 (.bool) false false), .cell 11 (.row 100011 (tI) true false)] | 8 => some [.keep 1, .keep 2, .keep 3, .cell 10 (.row 430010 (.bool) false false), .cell 11 (.row 100011 (tI) true false), .keep 12] | _ => none
noncomputable def fZ : Fi := fiOf Tryz.f59 [.v tI false, .v tI false, .v tI false] [(false, [⟨tR, some (true, false)⟩]), (false, [⟨.bool, none⟩])] h0
noncomputable def ju : Fi := fiOf Tryz.f60 [.v tR false] [(false, [⟨.str, none⟩])] fun | 3 => some [.keep 3, .keep 6, .keep 7, .keep 8] | _ => none
noncomputable def cB : Fi := fiOf Tryz.f151 [.v tI false, .v tR false] [(false, [⟨.bool, none⟩])] fun | 4 => some [.keep 0, .keep 1, .keep 13, .keep 14, .keep 15] | _ => none
noncomputable def cO : Fi := fiOf Tryz.f127 [.v tI false, .v tR false] [(false, [⟨tR, some (true, true)⟩])] fun | 5 => some [.keep 0, .keep 1, .cell 5 (.row 100005 (tI) true true), .cell 6 (.row 100006 (tI) true false), .keep 7] | _ => none
noncomputable def ut : Fi := fiOf Tryz.f128 [.v tR false] [(false, [⟨tI, none⟩])] fun | 5 => some [.keep 0, .keep 3, .keep 4] | _ => none
noncomputable def Wy : Fi := fiOf Tryz.f96 [.v tI false, .v tR false] [(false, [⟨tI, none⟩])] fun | 6 => some [.keep 0, .keep 1, .keep 6, .cell 16 (.row 100016 (tI) true true), .keep 17, .keep 18] | _ => none
noncomputable def aB : Fi := fiOf Tryz.f61 [.v tI false] [(false, [⟨tI, none⟩])] h0
noncomputable def jJ : Fi := fiOf Tryz.f38 [.p tT tC, .v .str false, .v tR false] [(false, [⟨.str, none⟩])] h0
noncomputable def wR : Fi := fiOf Tryz.f23 [.p tT tC, .v .str false] [(false, [⟨.str, none⟩])] fun | 17 => some [.box 0 500000 [.keep, .keep, .keep, .keep, .keep, .keep, .keep], .keep 5, .cell 7 (.row 100007 (tI) true true), .keep 44, .keep 45, .keep 46] | _ => none
noncomputable def VJ : Fi := fiOf Tryz.f11 [.v tN true, .v .str false] [(true, [⟨tR, none⟩, ⟨tQ, none⟩, ⟨tI, none⟩, ⟨tI, none⟩, ⟨tI, none⟩, ⟨tR, none⟩, ⟨tI, none⟩]), (false, [⟨.str, none⟩])] h0
noncomputable def ao : Fi := fiOf Tryz.f8 [.v .str false] [(false, [⟨.slice .str, none⟩])] h0
noncomputable def gx : Fi := fiOf Tryz.f7 [.v .str false] [(false, [⟨.str, none⟩]), (false, [⟨tI, none⟩])] fun | 7 => some [.keep 4, .box 5 200005 [.val (tR), .val (tQ), .keep, .keep, .keep, .val (tR), .keep], .keep 6, .keep 16, .keep 17, .keep 18] | _ => none
noncomputable def uI : Fi := fiOf Tryz.f4 [.v (.slice (.int .u8)) false] [(false, [⟨.bool, none⟩])] fun | 7 => some [.cell 3 (.val (.slice .str)), .box 4 200004 [.val (tR), .val (tQ), .keep, .keep, .keep, .val (tR), .keep], .keep 5, .cell 18 (.val (.slice .str)), .keep 19, .keep 20] | _ => none
noncomputable def Ys : Fi := fiOf Tryz.f13 [.v (.slice (.int .u8)) false, .v tI false] [(false, [⟨tK, some (false, false)⟩])] fun | 3 => some [.keep 1, .box 5 200005 [.keep, .keep, .keep], .keep 6] | _ => none
noncomputable def Vl : Fi := fiOf Tryz.f5 [.v (.slice (.int .u8)) false, .v tI false] [(false, [⟨tI, none⟩])] h0
noncomputable def jZ : Fi := fiOf Tryz.f3 [.v (.slice (.int .u8)) false] [(false, [⟨.bool, none⟩])] h0
noncomputable def fnL : List (Nat × List Nat × Fi) := [(18, [], Yt), (14, [], Vj), (28, [], Y7), (27, [], U0), (29, [], Vi), (17, [], bY), (9, [], ZI), (30, [], TF), (19, [], Z8), (72, [], Sb), (45, [], cN), (73, [], T1), (46, [], TP), (75, [], ef), (74, [75], zR), (47, [], aq), (31, [], al), (32, [], xX), (20, [], am), (10, [], ay), (33, [], xh), (21, [], ZY), (22, [], ZZ), (26, [], strings_IndexByte_fi), (16, [], cE), (24, [], strings_Join_fi), (12, [], Nw), (57, [], strconv_Atoi_fi), (15, [], strconv_Itoa_fi), (6, [], Yb), (37, [], XI), (48, [], jx), (49, [], eB), (83, [], ZT), (82, [], wj), (55, [], Z9), (112, [], XK), (78, [], aF), (51, [], Z6), (76, [], aM), (77, [], aC), (50, [], uP), (142, [], slices_Grow_int_fi), (113, [], xB), (143, [], slices_Reverse_int_fi), (114, [], Xt), (95, [], TJ), (116, [], WB), (117, [], TH), (118, [], WF), (115, [], XC), (79, [], WA), (52, [], VK), (139, [], Ny), (103, [], uy), (80, [], Z1), (53, [], eC), (34, [], eu), (35, [], za), (145, [], jF), (74, [145], zJ), (144, [145], yf), (119, [], fe), (81, [], jw), (54, [], aw), (94, [], vg), (120, [], um), (84, [], YK), (85, [], jR), (86, [], fC), (56, [], gF), (36, [], gH), (158, [], TL), (152, [], gW), (149, [], Uw), (159, [160], slices_SortFunc_int_int_fi), (161, [153], slices_CompactFunc_int_int_fi), (150, [], jt), (126, [], Z3), (90, [], gE), (99, [], bz), (136, [], RY), (129, [], gn), (154, [], aJ), (153, [], slices_Equal_int_fi), (132, [], aK), (131, [], eE), (134, [131], zG), (130, [131], ya), (155, [], ZX), (134, [155], zN), (130, [155], yl), (133, [], gX), (135, [], eD), (134, [135], zF), (97, [], gK), (137, [], Yd), (98, [], Yc), (62, [], bp), (100, [], R0), (138, [], slices_Delete_i_Step_fi), (102, [], XM), (101, [], Xy), (63, [], uw), (104, [], bB), (64, [], gp), (39, [], ep), (89, [], uz), (58, [], cJ), (91, [], Xx), (93, [], gv), (92, [93], zS), (59, [], fZ), (60, [], ju), (151, [], cB), (127, [], cO), (128, [], ut), (96, [], Wy), (61, [], aB), (38, [], jJ), (23, [], wR), (11, [], VJ), (8, [], ao), (7, [], gx), (4, [], uI), (13, [], Ys), (5, [], Vl), (3, [], jZ)]
noncomputable def E : Env := ⟨lookT tyL, lookF fnL⟩
noncomputable def Up (k : Nat) (x : List Int) : Option ((List Int) × Int × Int) := aFn E Yt k x
noncomputable def eV (k : Nat) (v0 : List Int) (v3 v4 : Int) : Option ((List Int) × Int × Int) := yr E k Yt 3 [(0, cw (.slice (.int .u8)) v0), (3, ci v3), (4, ci v4)] []
noncomputable def wW (k : Nat) (x : (List Int) × Int × Int) : Option (Int × (List Int) × Int × Int) := aFn E Vj k x
noncomputable def jU (k : Nat) (x : ((List Int) × Int × Int) × Int) : Option (Int × (List Int) × Int × Int) := aFn E Y7 k x
noncomputable def eU (k : Nat) (x : ((List Int) × Int × Int) × List ByteArray) : Option (ByteArray × (List Int) × Int × Int) := aFn E U0 k x
noncomputable def UZ (k : Nat) (x : (List Int) × Int × Int) : Option (ByteArray × (List Int) × Int × Int) := aFn E Vi k x
noncomputable def UY (k : Nat) (x : ((List Int) × Int × Int) × Int) : Option ((List ByteArray) × (List Int) × Int × Int) := aFn E bY k x
noncomputable def uY (k : Nat) (v6 : Int) (p5 : List ByteArray) (z_0 : List Int) (z_1 z_2 : Int) : Option ((List ByteArray) × (List Int) × Int × Int) := yr E k bY 3 [(0, .adr 500000 0), (5, co 100005), (6, ci v6)] [(100005, .row .str p5 true false), (500000, .box [.val (.slice (.int .u8)) z_0, .val tI z_1, .val tI z_2])]
noncomputable def Yu (k : Nat) (x : List Int) : Option (List ByteArray) := aFn E ZI k x
noncomputable def TG (k : Nat) (x : Int) : Option (List Int) := aFn E TF k x
noncomputable def Xq (k : Nat) (v0 v4 : Int) (p3 : List Int) : Option (List Int) := yr E k TF 3 [(0, ci v0), (3, co 100003), (4, ci v4)] [(100003, .row tI p3 true true)]
noncomputable def YM (k : Nat) (x : Int) : Option (List Int) := aFn E Z8 k x
noncomputable def vd (k : Nat) (x : Int) : Option Int := aFn E Sb k x
noncomputable def we (k : Nat) (x : List Int) : Option Bool := aFn E cN k x
noncomputable def jP (k : Nat) (v7 : List Int) (v8 v9 : Int) (s3 : List Bool) : Option Bool := yr E k cN 3 [(3, .adr 400003 0), (7, cw tR v7), (8, ci v8), (9, ci v9)] [(400003, .arr .bool s3)]
noncomputable def Zp (k : Nat) (x : Int × Int × Int) : Option Bool := aFn E T1 k x
noncomputable def XE (k : Nat) (x : Int × dS) : Option Bool := aFn E TP k x
noncomputable def fF (k : Nat) (x : Int × Int) : Option Bool := aFn E ef k x
noncomputable def yP (k : Nat) (x : (List Int) × Int) : Option Int := aFn E zR k x
noncomputable def zA (k : Nat) (v0 : List Int) (v1_0_0 v7 v8 : Int) : Option Int := yr E k zR 2 [(0, cw tR v0), (1, .fn 75 [[.val tI v1_0_0]]), (7, ci v7), (8, ci v8)] []
noncomputable def je (k : Nat) (x : (List Int) × Int) : Option Int := aFn E aq k x
noncomputable def wy (k : Nat) (x : dT) : Option Bool := aFn E al k x
noncomputable def jb (k : Nat) (v3 : Int) (v4 : Bool) (v25 : List dS) (v26 v27 : Int) (q1_0 : List Int) (q1_1 : List dS) (q1_2 q1_3 q1_4 : Int) : Option Bool := yr E k al 6 [(1, .adr 200001 0), (3, ci v3), (4, cw .bool v4), (25, cw tQ v25), (26, ci v26), (27, ci v27)] [(200001, .box [.val tR q1_0, .val tQ q1_1, .val tI q1_2, .val tI q1_3, .val tI q1_4])]
noncomputable def zv (k : Nat) (x : List Int) : Option (List Int) := aFn E xX k x
noncomputable def vt (k : Nat) (x : dT) : Option ((List Int) × Int × Bool) := aFn E am k x
noncomputable def fd (k : Nat) (x : Unit) : Option ((List Int) × (List dS) × Int × Int × Int × (List Int) × Int) := aFn E ay k x
noncomputable def vi (k : Nat) (x : List dS) : Option (List dS) := aFn E xh k x
noncomputable def vj (k : Nat) (x : dT) : Option ((List Int) × (List dS) × Int × Int × Int) := aFn E ZY k x
noncomputable def YG (k : Nat) (x : dC) : Option ((List Int) × Int) := aFn E ZZ k x
noncomputable def strings_IndexByte (k : Nat) (x : ByteArray × Int) : Option Int := aFn E strings_IndexByte_fi k x
noncomputable def uv (k : Nat) (x : ByteArray × ByteArray) : Option (List ByteArray) := aFn E cE k x
noncomputable def wJ (k : Nat) (v0 v1 : ByteArray) (v6 v7 : Int) (p5 : List ByteArray) : Option (List ByteArray) := yr E k cE 4 [(0, cw .str v0), (1, cw .str v1), (5, co 100005), (6, ci v6), (7, ci v7)] [(100005, .row .str p5 true true)]
noncomputable def strings_Join (k : Nat) (x : (List ByteArray) × ByteArray) : Option ByteArray := aFn E strings_Join_fi k x
noncomputable def jE (k : Nat) (x : (List ByteArray) × ByteArray) : Option ByteArray := aFn E Nw k x
noncomputable def Ve (k : Nat) (x : ByteArray) : Option (Int × Bool) := aFn E strconv_Atoi_fi k x
noncomputable def strconv_Itoa (k : Nat) (x : Int) : Option ByteArray := aFn E strconv_Itoa_fi k x
noncomputable def zB (k : Nat) (x : Int) : Option ByteArray := aFn E Yb k x
noncomputable def wK (k : Nat) (x : ByteArray) : Option (Int × Bool) := aFn E XI k x
noncomputable def cL (k : Nat) (x : ByteArray) : Option ((List Int) × Bool) := aFn E jx k x
noncomputable def yh (k : Nat) (v14 v15 : Int) (p4 : List Int) (p13 : List ByteArray) : Option ((List Int) × Bool) := yr E k jx 5 [(4, co 100004), (13, co 100013), (14, ci v14), (15, ci v15)] [(100004, .row tI p4 true true), (100013, .row .str p13 true true)]
noncomputable def ze (k : Nat) (x : dN × dT) : Option (ByteArray × dN) := aFn E eB k x
noncomputable def YE (k : Nat) (x : Unit) : Option (List ByteArray) := aFn E ZT k x
noncomputable def j9 (k : Nat) (x : (List ByteArray) × ByteArray) : Option Int := aFn E wj k x
noncomputable def xg (k : Nat) (v0 : List ByteArray) (v1 : ByteArray) (v7 v8 : Int) : Option Int := yr E k wj 2 [(0, cw (.slice .str) v0), (1, cw .str v1), (7, ci v7), (8, ci v8)] []
noncomputable def cQ (k : Nat) (x : ByteArray) : Option Int := aFn E Z9 k x
noncomputable def WM (k : Nat) (x : Int) : Option ByteArray := aFn E XK k x
noncomputable def vz (k : Nat) (x : Int × Int) : Option ByteArray := aFn E aF k x
noncomputable def cM (k : Nat) (x : ByteArray) : Option (Int × Int × Bool) := aFn E Z6 k x
noncomputable def vB (k : Nat) (x : Int) : Option ByteArray := aFn E aM k x
noncomputable def fg (k : Nat) (x : dS) : Option ByteArray := aFn E aC k x
noncomputable def YL (k : Nat) (x : ByteArray) : Option (Int × Int × Int × Int × Bool) := aFn E uP k x
noncomputable def uO (k : Nat) (v0 : ByteArray) (v6 q2_0 q2_1 q2_2 q2_3 : Int) : Option (Int × Int × Int × Int × Bool) := yr E k uP 5 [(0, cw .str v0), (2, .adr 200002 0), (6, ci v6)] [(200002, .box [.val tI q2_0, .val tI q2_1, .val tI q2_2, .val tI q2_3])]
noncomputable def uc (k : Nat) (v0 : ByteArray) (v7 q2_0 q2_1 q2_2 q2_3 : Int) : Option (Int × Int × Int × Int × Bool) := yr E k uP 10 [(0, cw .str v0), (2, .adr 200002 0), (7, ci v7)] [(200002, .box [.val tI q2_0, .val tI q2_1, .val tI q2_2, .val tI q2_3])]
noncomputable def ga (k : Nat) (x : (List Int) × Int) : Option (List Int) := aFn E slices_Grow_int_fi k x
noncomputable def ym (k : Nat) (x : List (List Int)) : Option (List Int) := aFn E xB k x
noncomputable def xA (k : Nat) (v0 : List (List Int)) (v3 : Int) (v9 : List (List Int)) (v10 v11 : Int) : Option (List Int) := yr E k xB 3 [(0, cw tW v0), (3, ci v3), (9, cw tW v9), (10, ci v10), (11, ci v11)] []
noncomputable def xn (k : Nat) (v25 : List (List Int)) (v26 v27 : Int) (p6 : List Int) : Option (List Int) := yr E k xB 11 [(6, co 100006), (25, cw tW v25), (26, ci v26), (27, ci v27)] [(100006, .row tI p6 true false)]
noncomputable def vK (k : Nat) (x : List Int) : Option (Unit × List Int) := aFn E slices_Reverse_int_fi k x
noncomputable def fV (k : Nat) (x : List Int) : Option (List Int) := aFn E Xt k x
noncomputable def L6 (k : Nat) (x : (List Int) × Int) : Option (List Int) := aFn E TJ k x
noncomputable def xI (k : Nat) (v5 v6 : List Int) (v8 : Bool) (p7 : List Int) : Option (List Int) := yr E k TJ 4 [(5, cw tR v5), (6, cw tR v6), (7, co 100007), (8, cw .bool v8)] [(100007, .row tI p7 true true)]
noncomputable def Hv (k : Nat) (x : (List Int) × Int) : Option (List Int) := aFn E WB k x
noncomputable def jW (k : Nat) (v1 : Int) (v8 : List Int) (v9 v10 : Int) (p5 : List Int) : Option (List Int) := yr E k WB 3 [(1, ci v1), (5, co 100005), (8, cw tR v8), (9, ci v9), (10, ci v10)] [(100005, .row tI p5 true false)]
noncomputable def FO (k : Nat) (x : List Int) : Option (List Int) := aFn E TH k x
noncomputable def Xw (k : Nat) (v0 p3 : List Int) : Option (List Int) := yr E k TH 2 [(0, cw tR v0), (3, co 100003)] [(100003, .row tI p3 true false)]
noncomputable def Hy (k : Nat) (x : (List Int) × Int) : Option (List Int) := aFn E WF k x
noncomputable def fY (k : Nat) (v7 : Bool) (p5 p6 : List Int) : Option (List Int) := yr E k WF 4 [(5, co 100005), (6, co 100006), (7, cw .bool v7)] [(100005, .row tI p5 true true), (100006, .row tI p6 true false)]
noncomputable def Zo (k : Nat) (x : Int) : Option Int := aFn E XC k x
noncomputable def YD (k : Nat) (x : (List Int) × Int × Int) : Option (List Int) := aFn E WA k x
noncomputable def cz (k : Nat) (v5 v7 : Int) (p6 : List Int) : Option (List Int) := yr E k WA 10 [(5, ci v5), (6, co 100006), (7, ci v7)] [(100006, .row tI p6 true false)]
noncomputable def TW (k : Nat) (x : (List Int) × Int × Int) : Option ((List Int) × Bool) := aFn E VK k x
noncomputable def L8 (k : Nat) (x : Int) : Option Bool := aFn E Ny k x
noncomputable def uQ (k : Nat) (x : List Int) : Option ByteArray := aFn E uy k x
noncomputable def xK (k : Nat) (v13 : List Int) (v14 v15 : Int) (p3 : List ByteArray) : Option ByteArray := yr E k uy 7 [(3, co 100003), (13, cw tR v13), (14, ci v14), (15, ci v15)] [(100003, .row .str p3 true true)]
noncomputable def cI (k : Nat) (x : dC) : Option ByteArray := aFn E Z1 k x
noncomputable def uR (k : Nat) (x : dN × dC × Bool) : Option (ByteArray × dN) := aFn E eC k x
noncomputable def wg (k : Nat) (x : dN × ByteArray × ByteArray) : Option (ByteArray × dN) := aFn E eu k x
noncomputable def gI (k : Nat) (x : dN × List ByteArray) : Option (ByteArray × dN) := aFn E za k x
noncomputable def yS (k : Nat) (v1 v11 : List ByteArray) (v12 v13 : Int) (p5 z_0 : List Int) (z_1 : List dS) (z_2 z_3 z_4 : Int) (z_5 : List Int) (z_6 : Int) : Option (ByteArray × dN) := yr E k za 3 [(0, .adr 500000 0), (1, cw (.slice .str) v1), (5, co 100005), (11, cw (.slice .str) v11), (12, ci v12), (13, ci v13)] [(100005, .row tI p5 true true), (500000, .box [.val tR z_0, .val tQ z_1, .val tI z_2, .val tI z_3, .val tI z_4, .val tR z_5, .val tI z_6])]
noncomputable def ux (k : Nat) (x : Int × List Int) : Option Bool := aFn E jF k x
noncomputable def yH (k : Nat) (x : (List Int) × List Int) : Option Int := aFn E zJ k x
noncomputable def zw (k : Nat) (v0 v1_0_0 : List Int) (v7 v8 : Int) : Option Int := yr E k zJ 2 [(0, cw tR v0), (1, .fn 145 [[.val tR v1_0_0]]), (7, ci v7), (8, ci v8)] []
noncomputable def yw (k : Nat) (x : (List Int) × List Int) : Option Bool := aFn E yf k x
noncomputable def uf (k : Nat) (x : (List Int) × List Int) : Option Bool := aFn E fe k x
noncomputable def XH (k : Nat) (x : (List Int) × List Int) : Option ((List Int) × Bool) := aFn E jw k x
noncomputable def vb (k : Nat) (v0 v13 : List Int) (v14 v15 : Int) (p6 : List Int) : Option ((List Int) × Bool) := yr E k jw 5 [(0, cw tR v0), (6, co 100006), (13, cw tR v13), (14, ci v14), (15, ci v15)] [(100006, .row tI p6 true true)]
noncomputable def ax (k : Nat) (x : Int × Int × Int) : Option ((List Int) × Bool) := aFn E aw k x
noncomputable def w7 (k : Nat) (x : (List Int) × Int) : Option Int := aFn E vg k x
noncomputable def xV (k : Nat) (v0 : List Int) (v1 v7 v8 : Int) : Option Int := yr E k vg 2 [(0, cw tR v0), (1, ci v1), (7, ci v7), (8, ci v8)] []
noncomputable def xW (k : Nat) (x : (List Int) × Int) : Option Bool := aFn E um k x
noncomputable def Ux (k : Nat) (x : List Int) : Option Bool := aFn E YK k x
noncomputable def cK (k : Nat) (v0 v5 : List Int) (v6 v7 : Int) : Option Bool := yr E k YK 2 [(0, cw tR v0), (5, cw tR v5), (6, ci v6), (7, ci v7)] []
noncomputable def WO (k : Nat) (x : List Int) : Option (List (List Int)) := aFn E jR k x
noncomputable def x4 (k : Nat) (v0 : List Int) (v15 v16 : Int) (p3 : List (List Int)) (p4 : List Bool) : Option (List (List Int)) := yr E k jR 6 [(0, cw tR v0), (3, co 100003), (4, co 100004), (15, ci v15), (16, ci v16)] [(100003, .row tR p3 true true), (100004, .row .bool p4 true false)]
noncomputable def w5 (k : Nat) (v0 : List Int) (v7 v15 v16 : Int) (p3 : List (List Int)) (p4 : List Bool) (p6 : List Int) : Option (List (List Int)) := yr E k jR 10 [(0, cw tR v0), (3, co 100003), (4, co 100004), (6, co 100006), (7, ci v7), (15, ci v15), (16, ci v16)] [(100003, .row tR p3 true true), (100004, .row .bool p4 true false), (100006, .row tI p6 true true)]
noncomputable def cx (k : Nat) (x : List Int) : Option (List ByteArray) := aFn E fC k x
noncomputable def uN (k : Nat) (v6 : List Int) (v7 v8 : Int) (p3 : List ByteArray) : Option (List ByteArray) := yr E k fC 3 [(3, co 100003), (6, cw tR v6), (7, ci v7), (8, ci v8)] [(100003, .row .str p3 true true)]
noncomputable def aH (k : Nat) (x : List Int) : Option ByteArray := aFn E gF k x
noncomputable def ug (k : Nat) (v3 : ByteArray) (v14 v15 : Int) (p13 : List (List Int)) : Option ByteArray := yr E k gF 7 [(3, cw .str v3), (13, co 100013), (14, ci v14), (15, ci v15)] [(100013, .row tR p13 false true)]
noncomputable def jy (k : Nat) (x : dN × List ByteArray) : Option (ByteArray × dN) := aFn E gH k x
noncomputable def L7 (k : Nat) (x : List Int) : Option (List (List Int)) := aFn E TL k x
noncomputable def XA (k : Nat) (v0 : List Int) (v6 v7 : Int) (p3 : List (List Int)) : Option (List (List Int)) := yr E k TL 3 [(0, cw tR v0), (3, co 100003), (6, ci v6), (7, ci v7)] [(100003, .row tR p3 true true)]
noncomputable def ae (k : Nat) (x : (List Int) × Int) : Option (List Int) := aFn E gW k x
noncomputable def u7 (k : Nat) (v0 : List Int) (v1 v5 v6 v11 v12 : Int) : Option (List Int) := yr E k gW 3 [(0, cw tR v0), (1, ci v1), (5, ci v5), (6, ci v6), (11, ci v11), (12, ci v12)] []
noncomputable def vr (k : Nat) (v0 : List Int) (v1 v5 v6 v24 v25 : Int) (p8 : List Int) : Option (List Int) := yr E k gW 9 [(0, cw tR v0), (1, ci v1), (5, ci v5), (6, ci v6), (8, co 100008), (24, ci v24), (25, ci v25)] [(100008, .row tI p8 true true)]
noncomputable def Em (k : Nat) (x : (List Int) × Int) : Option ((List (List Int)) × Bool) := aFn E Uw k x
noncomputable def Uv (k : Nat) (v0 : List Int) (v7 : Int) (p6 : List (List Int)) : Option ((List (List Int)) × Bool) := yr E k Uw 9 [(0, cw tR v0), (6, co 100006), (7, ci v7)] [(100006, .row tR p6 true true)]
noncomputable def XB (k : Nat) (v0 : List Int) (v48 v49 : Int) (p8 : List (List Int)) : Option ((List (List Int)) × Bool) := yr E k Uw 20 [(0, cw tR v0), (8, co 100008), (48, ci v48), (49, ci v49)] [(100008, .row tR p8 true true)]
noncomputable def xU (k : Nat) (x : (List (List Int)) × Bool) : Option (Unit × List (List Int)) := aFn E slices_SortFunc_int_int_fi k x
noncomputable def xk (k : Nat) (x : (List (List Int)) × Bool) : Option (List (List Int)) := aFn E slices_CompactFunc_int_int_fi k x
noncomputable def cG (k : Nat) (x : List (List Int)) : Option (List (List Int)) := aFn E jt k x
noncomputable def va (k : Nat) (v6 : List (List Int)) (v7 v8 : Int) (p3 : List (List Int)) : Option (List (List Int)) := yr E k jt 3 [(3, co 100003), (6, cw tW v6), (7, ci v7), (8, ci v8)] [(100003, .row tR p3 true true)]
noncomputable def YJ (k : Nat) (x : (List Int) × Int) : Option ((List (List Int)) × Bool) := aFn E Z3 k x
noncomputable def xR (k : Nat) (x : dC × dS) : Option (List dC) := aFn E gE k x
noncomputable def vc (k : Nat) (v68 v69 : Int) (q2_0 : List Int) (q2_1 : Int) (p5 : List dC) (va67 : List (List Int)) (va67_n : Nat) : Option (List dC) := yr E k gE 11 [(2, .adr 200002 0), (5, co 100005), (67, co 440067), (68, ci v68), (69, ci v69)] [(200002, .box [.val tR q2_0, .val tI q2_1]), (100005, .row tC p5 true true), (440067, .tl tR va67 va67_n)]
noncomputable def jQ (k : Nat) (x : List Int) : Option ByteArray := aFn E bz k x
noncomputable def cA (k : Nat) (x : dC) : Option ByteArray := aFn E RY k x
noncomputable def Uu (k : Nat) (x : dT) : Option ((List (List dC)) × Bool) := aFn E gn k x
noncomputable def gm (k : Nat) (v25 : List dS) (v26 v27 : Int) (wa6 : List (List dC)) : Option ((List (List dC)) × Bool) := yr E k gn 4 [(6, co 450006), (25, cw tQ v25), (26, ci v26), (27, ci v27)] [(450006, .row tD wa6 true false)]
noncomputable def gl (k : Nat) (v25 : List dS) (v26 v27 v37 v38 : Int) (ta6 : List (List dC)) (ta6_i : Nat) (q8_0 q8_1 q8_2 q8_3 : Int) (ua9 : List ByteArray) (wa10 wa36 : List dC) : Option ((List (List dC)) × Bool) := yr E k gn 9 [(6, co 420006), (8, .adr 200008 0), (9, co 430009), (10, co 450010), (25, cw tQ v25), (26, ci v26), (27, ci v27), (36, co 450036), (37, ci v37), (38, ci v38)] [(420006, .hole tC ta6 ta6_i (.own 450036)), (200008, .box [.val tI q8_0, .val tI q8_1, .val tI q8_2, .val tI q8_3]), (430009, .mp ua9), (450010, .row tC wa10 true true), (450036, .row tC wa36 true false)]
noncomputable def u9 (k : Nat) (v25 : List dS) (v26 v27 v37 v38 v45 v46 : Int) (ta6 : List (List dC)) (ta6_i : Nat) (q8_0 q8_1 q8_2 q8_3 : Int) (ua9 : List ByteArray) (wa10 wa36 va44 : List dC) (va44_n : Nat) : Option ((List (List dC)) × Bool) := yr E k gn 12 [(6, co 420006), (8, .adr 200008 0), (9, co 430009), (10, co 450010), (25, cw tQ v25), (26, ci v26), (27, ci v27), (36, co 450036), (37, ci v37), (38, ci v38), (44, co 440044), (45, ci v45), (46, ci v46)] [(420006, .hole tC ta6 ta6_i (.own 450036)), (200008, .box [.val tI q8_0, .val tI q8_1, .val tI q8_2, .val tI q8_3]), (430009, .mp ua9), (450010, .row tC wa10 true true), (450036, .row tC wa36 true false), (440044, .tl tC va44 va44_n)]
noncomputable def NB (k : Nat) (x : List Int) : Option Int := aFn E aJ k x
noncomputable def jf (k : Nat) (v3 : Int) (v6 : List Int) (v7 v8 : Int) : Option Int := yr E k aJ 3 [(3, ci v3), (6, cw tR v6), (7, ci v7), (8, ci v8)] []
noncomputable def yD (k : Nat) (x : (List Int) × List Int) : Option Bool := aFn E slices_Equal_int_fi k x
noncomputable def zM (k : Nat) (v0 v1 : List Int) (v12 v13 : Int) : Option Bool := yr E k slices_Equal_int_fi 4 [(0, cw tR v0), (1, cw tR v1), (12, ci v12), (13, ci v13)] []
noncomputable def fj (k : Nat) (x : dT × dC) : Option Bool := aFn E aK k x
noncomputable def fJ (k : Nat) (x : dC × dT) : Option Bool := aFn E eE k x
noncomputable def yC (k : Nat) (x : (List dC) × dT) : Option Int := aFn E zG k x
noncomputable def zq (k : Nat) (v0 : List dC) (v1_0_0 : List Int) (v1_0_1 : List dS) (v1_0_2 v1_0_3 v1_0_4 v7 v8 : Int) : Option Int := yr E k zG 2 [(0, cw tD v0), (1, .fn 131 [[.val tR v1_0_0, .val tQ v1_0_1, .val tI v1_0_2, .val tI v1_0_3, .val tI v1_0_4]]), (7, ci v7), (8, ci v8)] []
noncomputable def zH (k : Nat) (x : (List dC) × dT) : Option Bool := aFn E ya k x
noncomputable def YF (k : Nat) (x : dC × (List (Option (List ByteArray))) × Int) : Option Bool := aFn E ZX k x
noncomputable def yM (k : Nat) (x : (List dC) × (List (Option (List ByteArray))) × Int) : Option Int := aFn E zN k x
noncomputable def zz (k : Nat) (v0 : List dC) (v1_0_0 : List (Option (List ByteArray))) (v1_1_0 v7 v8 : Int) : Option Int := yr E k zN 2 [(0, cw tD v0), (1, .fn 155 [[.val (.slice .set) v1_0_0], [.val tI v1_1_0]]), (7, ci v7), (8, ci v8)] []
noncomputable def zP (k : Nat) (x : (List dC) × (List (Option (List ByteArray))) × Int) : Option Bool := aFn E yl k x
noncomputable def TK (k : Nat) (x : dT × List (List dC)) : Option (List (Option (List ByteArray))) := aFn E gX k x
noncomputable def ja (k : Nat) (v1 : List (List dC)) (q2_0 : List Int) (q2_1 : List dS) (q2_2 q2_3 q2_4 : Int) (r500 : List (Option (List ByteArray))) (q6_0 : Int) : Option (List (Option (List ByteArray))) := yr E k gX 3 [(1, cw (.slice tD) v1), (2, .adr 200002 0), (5, .adr 200005 0), (6, .adr 200006 0)] [(200002, .box [.val tR q2_0, .val tQ q2_1, .val tI q2_2, .val tI q2_3, .val tI q2_4]), (200005, .box [.own 300500]), (300500, .row .set r500 true false), (200006, .box [.val tI q6_0])]
noncomputable def xq (k : Nat) (v1 : List (List dC)) (v27 : List dC) (v28 v29 : Int) (q2_0 : List Int) (q2_1 : List dS) (q2_2 q2_3 q2_4 : Int) (r500 : List (Option (List ByteArray))) (q6_0 : Int) : Option (List (Option (List ByteArray))) := yr E k gX 7 [(1, cw (.slice tD) v1), (2, .adr 200002 0), (5, .adr 200005 0), (6, .adr 200006 0), (27, cw tD v27), (28, ci v28), (29, ci v29)] [(200002, .box [.val tR q2_0, .val tQ q2_1, .val tI q2_2, .val tI q2_3, .val tI q2_4]), (200005, .box [.own 300500]), (300500, .row .set r500 true false), (200006, .box [.val tI q6_0])]
noncomputable def fI (k : Nat) (x : dC × (List (Option (List ByteArray))) × Int) : Option Bool := aFn E eD k x
noncomputable def zO (k : Nat) (x : (List dC) × (List (Option (List ByteArray))) × Int) : Option Int := aFn E zF k x
noncomputable def zp (k : Nat) (v0 : List dC) (v1_0_0 : List (Option (List ByteArray))) (v1_1_0 v7 v8 : Int) : Option Int := yr E k zF 2 [(0, cw tD v0), (1, .fn 135 [[.val (.slice .set) v1_0_0], [.val tI v1_1_0]]), (7, ci v7), (8, ci v8)] []
noncomputable def fm (k : Nat) (x : dT) : Option (Int × (List Int) × (List Int) × Int × Bool) := aFn E gK k x
noncomputable def wa (k : Nat) (v45 : List dS) (v46 v47 q2_0 q2_3 : Int) (q6_0 : List Int) (q6_1 : Int) (r700 : List (Option (List ByteArray))) (q8_0 q8_3 : Int) (r801 : List Int) : Option (Int × (List Int) × (List Int) × Int × Bool) := yr E k gK 12 [(2, .adr 200002 0), (6, .adr 200006 0), (7, .adr 200007 0), (8, .adr 200008 0), (45, cw tQ v45), (46, ci v46), (47, ci v47)] [(200002, .box [.val tI q2_0, .nil, .nil, .val tI q2_3]), (200006, .box [.val tR q6_0, .val tI q6_1]), (200007, .box [.own 300700]), (300700, .row .set r700 true false), (200008, .box [.val tI q8_0, .own 300801, .nil, .val tI q8_3]), (300801, .row tI r801 true true)]
noncomputable def YP (k : Nat) (x : dT) : Option ((List dC) × Bool) := aFn E Yd k x
noncomputable def YN (k : Nat) (x : dT) : Option Int := aFn E Yc k x
noncomputable def cD (k : Nat) (x : dT) : Option ByteArray := aFn E bp k x
noncomputable def QP (k : Nat) (x : dT) : Option Bool := aFn E R0 k x
noncomputable def wO (k : Nat) (x : (List dS) × Int × Int) : Option (List dS) := aFn E slices_Delete_i_Step_fi k x
noncomputable def Zq (k : Nat) (x : dT × Int) : Option ((List Int) × (List dS) × Int × Int × Int × Bool) := aFn E XM k x
noncomputable def WE (k : Nat) (x : dT × Int) : Option Bool := aFn E Xy k x
noncomputable def fE (k : Nat) (x : dT) : Option ((List Int) × (List dS) × Int × Int × Int × Bool) := aFn E uw k x
noncomputable def xJ (k : Nat) (v5 q2_2 q2_3 q2_4 q4_2 q4_3 q4_4 : Int) (r400 : List Int) (r401 : List dS) : Option ((List Int) × (List dS) × Int × Int × Int × Bool) := yr E k uw 5 [(2, .adr 200002 0), (4, .adr 200004 0), (5, ci v5)] [(200002, .box [.nil, .nil, .val tI q2_2, .val tI q2_3, .val tI q2_4]), (200004, .box [.own 300400, .own 300401, .val tI q4_2, .val tI q4_3, .val tI q4_4]), (300400, .row tI r400 true false), (300401, .row tS r401 false false)]
noncomputable def cS (k : Nat) (x : dT) : Option ByteArray := aFn E bB k x
noncomputable def jc (k : Nat) (x : dT) : Option (List ByteArray) := aFn E gp k x
noncomputable def ua (k : Nat) (v15 : List dS) (v16 v17 : Int) (q1_0 : List Int) (q1_1 : List dS) (q1_2 q1_3 q1_4 : Int) (p3 : List ByteArray) : Option (List ByteArray) := yr E k gp 5 [(1, .adr 200001 0), (3, co 100003), (15, cw tQ v15), (16, ci v16), (17, ci v17)] [(200001, .box [.val tR q1_0, .val tQ q1_1, .val tI q1_2, .val tI q1_3, .val tI q1_4]), (100003, .row .str p3 true false)]
noncomputable def fH (k : Nat) (x : dN × ByteArray) : Option (ByteArray × dN) := aFn E ep k x
noncomputable def fG (k : Nat) (x : dT) : Option Int := aFn E uz k x
noncomputable def xL (k : Nat) (v3 : Int) (v10 : List dS) (v11 v12 : Int) : Option Int := yr E k uz 5 [(3, ci v3), (10, cw tQ v10), (11, ci v11), (12, ci v12)] []
noncomputable def WJ (k : Nat) (x : dT × List Int) : Option ((List Int) × Int × Bool) := aFn E cJ k x
noncomputable def ub (k : Nat) (v1 : List Int) (v28 : List dS) (v29 v30 q4_1 q6_1 : Int) (r600 : List Int) : Option ((List Int) × Int × Bool) := yr E k cJ 5 [(1, cw tR v1), (4, .adr 200004 0), (6, .adr 200006 0), (28, cw tQ v28), (29, ci v29), (30, ci v30)] [(200004, .box [.nil, .val tI q4_1]), (200006, .box [.own 300600, .val tI q6_1]), (300600, .row tI r600 true false)]
noncomputable def WD (k : Nat) (x : Int) : Option Bool := aFn E Xx k x
noncomputable def jv (k : Nat) (x : Int × Int × Int) : Option Int := aFn E gv k x
noncomputable def xQ (k : Nat) (x : Int × Int × Int × Int) : Option ((List Int) × Bool) := aFn E zS k x
noncomputable def zC (k : Nat) (v1 v2 v3_0_0 : Int) (ua10 : List (Int × List Int)) (p11 : List Int) : Option ((List Int) × Bool) := yr E k zS 3 [(1, ci v1), (2, ci v2), (3, .fn 93 [[.val tI v3_0_0]]), (10, co 430010), (11, co 100011)] [(430010, .im ua10), (100011, .row tI p11 true false)]
noncomputable def zt (k : Nat) (v1 v2 v3_0_0 v12 : Int) (ua10 : List (Int × List Int)) (p11 : List Int) : Option ((List Int) × Bool) := yr E k zS 8 [(1, ci v1), (2, ci v2), (3, .fn 93 [[.val tI v3_0_0]]), (10, co 430010), (11, co 100011), (12, ci v12)] [(430010, .im ua10), (100011, .row tI p11 true false)]
noncomputable def fD (k : Nat) (x : Int × Int × Int) : Option ((List Int) × Bool) := aFn E fZ k x
noncomputable def cH (k : Nat) (x : List Int) : Option ByteArray := aFn E ju k x
noncomputable def x9 (k : Nat) (v3 : ByteArray) (v6 : List Int) (v7 v8 : Int) : Option ByteArray := yr E k ju 3 [(3, cw .str v3), (6, cw tR v6), (7, ci v7), (8, ci v8)] []
noncomputable def WC (k : Nat) (x : Int × List Int) : Option Bool := aFn E cB k x
noncomputable def jO (k : Nat) (v0 : Int) (v1 v13 : List Int) (v14 v15 : Int) : Option Bool := yr E k cB 4 [(0, ci v0), (1, cw tR v1), (13, cw tR v13), (14, ci v14), (15, ci v15)] []
noncomputable def WL (k : Nat) (x : Int × List Int) : Option (List Int) := aFn E cO k x
noncomputable def ud (k : Nat) (v0 : Int) (v1 : List Int) (v7 : Int) (p5 p6 : List Int) : Option (List Int) := yr E k cO 5 [(0, ci v0), (1, cw tR v1), (5, co 100005), (6, co 100006), (7, ci v7)] [(100005, .row tI p5 true true), (100006, .row tI p6 true false)]
noncomputable def uJ (k : Nat) (x : List Int) : Option Int := aFn E ut k x
noncomputable def wE (k : Nat) (v0 : List Int) (v3 v4 : Int) : Option Int := yr E k ut 5 [(0, cw tR v0), (3, ci v3), (4, ci v4)] []
noncomputable def QG (k : Nat) (x : Int × List Int) : Option Int := aFn E Wy k x
noncomputable def fU (k : Nat) (v0 : Int) (v1 : List Int) (v6 v17 v18 : Int) (p16 : List Int) : Option Int := yr E k Wy 6 [(0, ci v0), (1, cw tR v1), (6, ci v6), (16, co 100016), (17, ci v17), (18, ci v18)] [(100016, .row tI p16 true true)]
noncomputable def vw (k : Nat) (x : Int) : Option Int := aFn E aB k x
noncomputable def uA (k : Nat) (x : dN × ByteArray × List Int) : Option (ByteArray × dN) := aFn E jJ k x
noncomputable def uB (k : Nat) (x : dN × ByteArray) : Option (ByteArray × dN) := aFn E wR k x
noncomputable def zW (k : Nat) (v5 v44 : List ByteArray) (v45 v46 : Int) (p7 z_0 : List Int) (z_1 : List dS) (z_2 z_3 z_4 : Int) (z_5 : List Int) (z_6 : Int) : Option (ByteArray × dN) := yr E k wR 17 [(0, .adr 500000 0), (5, cw (.slice .str) v5), (7, co 100007), (44, cw (.slice .str) v44), (45, ci v45), (46, ci v46)] [(100007, .row tI p7 true true), (500000, .box [.val tR z_0, .val tQ z_1, .val tI z_2, .val tI z_3, .val tI z_4, .val tR z_5, .val tI z_6])]
noncomputable def XG (k : Nat) (x : dN × ByteArray) : Option ((List Int) × (List dS) × Int × Int × Int × (List Int) × Int × ByteArray) := aFn E VJ k x
noncomputable def jd (k : Nat) (x : ByteArray) : Option (List ByteArray) := aFn E ao k x
noncomputable def vu (k : Nat) (x : ByteArray) : Option (ByteArray × Int) := aFn E gx k x
noncomputable def wz (k : Nat) (v4 : List ByteArray) (v6 : ByteArray) (v16 : List ByteArray) (v17 v18 : Int) (q5_0 : List Int) (q5_1 : List dS) (q5_2 q5_3 q5_4 : Int) (q5_5 : List Int) (q5_6 : Int) : Option (ByteArray × Int) := yr E k gx 7 [(4, cw (.slice .str) v4), (5, .adr 200005 0), (6, cw .str v6), (16, cw (.slice .str) v16), (17, ci v17), (18, ci v18)] [(200005, .box [.val tR q5_0, .val tQ q5_1, .val tI q5_2, .val tI q5_3, .val tI q5_4, .val tR q5_5, .val tI q5_6])]
noncomputable def UH (k : Nat) (x : List Int) : Option Bool := aFn E uI k x
noncomputable def wU (k : Nat) (v3 : List ByteArray) (v5 : ByteArray) (v18 : List ByteArray) (v19 v20 : Int) (q4_0 : List Int) (q4_1 : List dS) (q4_2 q4_3 q4_4 : Int) (q4_5 : List Int) (q4_6 : Int) : Option Bool := yr E k uI 7 [(3, cw (.slice .str) v3), (4, .adr 200004 0), (5, cw .str v5), (18, cw (.slice .str) v18), (19, ci v19), (20, ci v20)] [(200004, .box [.val tR q4_0, .val tQ q4_1, .val tI q4_2, .val tI q4_3, .val tI q4_4, .val tR q4_5, .val tI q4_6])]
noncomputable def Qt (k : Nat) (x : (List Int) × Int) : Option ((List Int) × Int × Int) := aFn E Ys k x
noncomputable def eT (k : Nat) (v1 v6 : Int) (q5_0 : List Int) (q5_1 q5_2 : Int) : Option ((List Int) × Int × Int) := yr E k Ys 3 [(1, ci v1), (5, .adr 200005 0), (6, ci v6)] [(200005, .box [.val (.slice (.int .u8)) q5_0, .val tI q5_1, .val tI q5_2])]
noncomputable def U1 (k : Nat) (x : (List Int) × Int) : Option Int := aFn E Vl k x
noncomputable def Va (k : Nat) (x : List Int) : Option Bool := aFn E jZ k x
abbrev gw : Gw := ⟨fun w => Go.Lib.TabIs Tryz.prog w "internal/strconv.uint64pow10" .u64 Go.Lib.pow10Tab ∧ (∃ tp p, w.var? Tryz.prog "strconv.ErrSyntax" = some #[.iface tp p]) ∧ ∃ tp p, w.var? Tryz.prog "strconv.ErrRange" = some #[.iface tp p], false⟩
theorem ty_3 : TyOk Tryz.prog 3 (.one (tI)) := Qo (by kernel_rfl) (by kernel_rfl) (by kernel_rfl)
theorem ty_4 : TyOk Tryz.prog 4 (.one (.bool)) := JN (by kernel_rfl) (by kernel_rfl) (by kernel_rfl)
theorem ty_5 : TyOk Tryz.prog 5 (.one (.int .u8)) := Qo (by kernel_rfl) (by kernel_rfl) (by kernel_rfl)
theorem ty_9 : TyOk Tryz.prog 9 (.one (.str)) := Gv (by kernel_rfl) (by kernel_rfl) (by kernel_rfl)
theorem Dl : TyOk Tryz.prog 22 (.one (.slice (.int .u8))) := wd (e := 5) (by kernel_rfl) (by kernel_rfl) (by kernel_rfl) (wB (by kernel_rfl) (by kernel_rfl) (by kernel_rfl))
theorem Dk : TyOk Tryz.prog 27 (.one (.slice .str)) := wd (e := 9) (by kernel_rfl) (by kernel_rfl) (by kernel_rfl) (wB (by kernel_rfl) (by kernel_rfl) (by kernel_rfl))
theorem FW : TyOk Tryz.prog 31 (.one (tR)) := wd (e := 3) (by kernel_rfl) (by kernel_rfl) (by kernel_rfl) (wB (by kernel_rfl) (by kernel_rfl) (by kernel_rfl))
theorem Dj : TyOk Tryz.prog 32 (.one (tQ)) := wd (e := 68) (by kernel_rfl) (by kernel_rfl) (by kernel_rfl) (wB (by kernel_rfl) (by kernel_rfl) (by kernel_rfl))
theorem Di : TyOk Tryz.prog 34 (.struct [(0, 31), (1, 32), (2, 3), (3, 3), (4, 3)] [tR, tQ, tI, tI, tI] false) := vf (fields := Tryz.prog.fieldsOf 34) (by kernel_rfl) (by kernel_rfl) (by kernel_rfl) (by kernel_rfl) (by kernel_rfl) (by kernel_rfl) (fun e => by cases e)
theorem Dh : TyOk Tryz.prog 36 (.struct [(0, 31), (1, 3)] [tR, tI] false) := vf (fields := Tryz.prog.fieldsOf 36) (by kernel_rfl) (by kernel_rfl) (by kernel_rfl) (by kernel_rfl) (by kernel_rfl) (by kernel_rfl) (fun e => by cases e)
theorem Dg : TyOk Tryz.prog 38 (.struct [(0, 34), (5, 36)] [tR, tQ, tI, tI, tI, tR, tI] false) := vf (fields := Tryz.prog.fieldsOf 38) (by kernel_rfl) (by kernel_rfl) (by kernel_rfl) (by kernel_rfl) (by kernel_rfl) (by kernel_rfl) (fun e => by cases e)
theorem Df : TyOk Tryz.prog 56 (.struct [(0, 22), (1, 3), (2, 3)] [.slice (.int .u8), tI, tI] false) := vf (fields := Tryz.prog.fieldsOf 56) (by kernel_rfl) (by kernel_rfl) (by kernel_rfl) (by kernel_rfl) (by kernel_rfl) (by kernel_rfl) (fun e => by cases e)
theorem De : TyOk Tryz.prog 66 (.struct [(0, 3), (1, 3)] [tI, tI] true) := vf (fields := Tryz.prog.fieldsOf 66) (by kernel_rfl) (by kernel_rfl) (by kernel_rfl) (by kernel_rfl) (by kernel_rfl) (by kernel_rfl) (fun _ => UN (d := 20) (fields := Tryz.prog.fieldsOf 66) (by kernel_rfl) (by kernel_rfl) (by decide) (by kernel_rfl))
theorem Dd : TyOk Tryz.prog 68 (.struct [(0, 3), (1, 66), (3, 3)] [tI, tI, tI, tI] true) := vf (fields := Tryz.prog.fieldsOf 68) (by kernel_rfl) (by kernel_rfl) (by kernel_rfl) (by kernel_rfl) (by kernel_rfl) (by kernel_rfl) (fun _ => UN (d := 20) (fields := Tryz.prog.fieldsOf 68) (by kernel_rfl) (by kernel_rfl) (by decide) (by kernel_rfl))
theorem Dc : TyOk Tryz.prog 80 (.one (.err)) := JM (by kernel_rfl) (by kernel_rfl) (by kernel_rfl)
theorem EX : TyOk Tryz.prog 113 (.arr 12 (.bool)) := Gz (e := 4) (by kernel_rfl) (wB (by kernel_rfl) (by kernel_rfl) (by kernel_rfl)) (by kernel_rfl) (by kernel_rfl)
theorem EW : TyOk Tryz.prog 124 (.one (tW)) := wd (e := 31) (by kernel_rfl) (by kernel_rfl) (by kernel_rfl) (wB (by kernel_rfl) (by kernel_rfl) (by kernel_rfl))
theorem EV : TyOk Tryz.prog 129 (.one (tD)) := wd (e := 36) (by kernel_rfl) (by kernel_rfl) (by kernel_rfl) (wB (by kernel_rfl) (by kernel_rfl) (by kernel_rfl))
theorem EU : TyOk Tryz.prog 136 (.struct [(0, 3), (1, 31), (2, 36)] [tI, tR, tR, tI] false) := vf (fields := Tryz.prog.fieldsOf 136) (by kernel_rfl) (by kernel_rfl) (by kernel_rfl) (by kernel_rfl) (by kernel_rfl) (by kernel_rfl) (fun e => by cases e)
theorem ET : TyOk Tryz.prog 152 (.one (.slice .bool)) := wd (e := 4) (by kernel_rfl) (by kernel_rfl) (by kernel_rfl) (wB (by kernel_rfl) (by kernel_rfl) (by kernel_rfl))
theorem ES : TyOk Tryz.prog 161 (.imap) := JL (kt := 3) (et := 31) (by kernel_rfl) (by kernel_rfl) (by kernel_rfl)
theorem ER : TyOk Tryz.prog 164 (.one (.slice tD)) := wd (e := 129) (by kernel_rfl) (by kernel_rfl) (by kernel_rfl) (wB (by kernel_rfl) (by kernel_rfl) (by kernel_rfl))
theorem EQ : TyOk Tryz.prog 170 (.one (.slice .set)) := wd (e := 173) (by kernel_rfl) (by kernel_rfl) (by kernel_rfl) (wB (by kernel_rfl) (by kernel_rfl) (by kernel_rfl))
theorem EP : TyOk Tryz.prog 173 (.one (.set)) := Gx (kt := 9) (et := 4) (by kernel_rfl) (by kernel_rfl) (by kernel_rfl) (by kernel_rfl) (by kernel_rfl)
theorem KF : TyOk Tryz.prog 5031025 (.flag) := trivial
theorem KE : TyOk Tryz.prog 5031031 (.flag) := trivial
theorem KD : TyOk Tryz.prog 5031072 (.flag) := trivial
theorem KC : TyOk Tryz.prog 5036049 (.flag) := trivial
theorem KB : TyOk Tryz.prog 5036057 (.flag) := trivial
theorem KA : TyOk Tryz.prog 5129021 (.flag) := trivial
theorem Kz : TyOk Tryz.prog 5131036 (.flag) := trivial
theorem Ky : TyOk Tryz.prog 5135056 (.flag) := trivial
theorem Kx : TyOk Tryz.prog 5155049 (.flag) := trivial
theorem Kw : TyOk Tryz.prog 8173055 (.flag) := trivial
theorem hE : ∀ T ti, E.ty T = some ti → TyOk Tryz.prog T ti := QA (l := tyL) ⟨ty_3, ty_4, ty_5, ty_9, Dl, Dk, FW, Dj, Di, Dh, Dg, Df, De, Dd, Dc, EX, EW, EV, EU, ET, ES, ER, EQ, EP, KF, KE, KD, KC, KB, KA, Kz, Ky, Kx, Kw, trivial⟩
theorem Zz : OneF Tryz.prog gw 26 strings_IndexByte_fi := Ng Tryz.func26 (by kernel_rfl) (by kernel_rfl) (fun s c w => Go.Proofs.Any.strings_IndexByte Tryz.lays137 s c w)
theorem UO : OneF Tryz.prog gw 24 strings_Join_fi := Eh Tryz.func24 (by kernel_rfl) (by kernel_rfl) (fun a c sep w => Tryz.strings_Join_none a c sep w) (fun bk o c xs sep w hc hb hN hcap hl => Tryz.strings_Join bk o c xs sep w hc hb hN hcap hl) rfl
theorem strconv_Atoi_ok : OneF Tryz.prog gw 57 strconv_Atoi_fi := EJ Tryz.func57 (by kernel_rfl) (by kernel_rfl) rfl (Lj Tryz.laysC172 (fun w hw => hw.2))
theorem UP : OneF Tryz.prog gw 15 strconv_Itoa_fi := Ei Tryz.func15 (by kernel_rfl) (by kernel_rfl) (fun n w hw h0 h1 => Tryz.strconv_Itoa n h0 h1 w hw.1)
theorem Y2 : OneF Tryz.prog gw 142 slices_Grow_int_fi := Tryz.growOne
theorem bT : OneF Tryz.prog gw 143 slices_Reverse_int_fi := Tryz.revOne
theorem gT : OneF Tryz.prog gw 159 slices_SortFunc_int_int_fi := Tryz.sortOne
theorem jm : OneF Tryz.prog gw 161 slices_CompactFunc_int_int_fi := Tryz.compactOne
theorem eQ : OneF Tryz.prog gw 138 slices_Delete_i_Step_fi := Tryz.delOne
theorem hF : FnOk Tryz.prog gw E := QB (l := fnL) ⟨(okOf Tryz.func18 (by kernel_rfl)), (okOf Tryz.func14 (by kernel_rfl)), (okOf Tryz.func28 (by kernel_rfl)), (okOf Tryz.func27 (by kernel_rfl)), (okOf Tryz.func29 (by kernel_rfl)), (okOf Tryz.func17 (by kernel_rfl)), (okOf Tryz.func9 (by kernel_rfl)), (okOf Tryz.func30 (by kernel_rfl)), (okOf Tryz.func19 (by kernel_rfl)), (okOf Tryz.func72 (by kernel_rfl)), (okOf Tryz.func45 (by kernel_rfl)), (okOf Tryz.func73 (by kernel_rfl)), (okOf Tryz.func46 (by kernel_rfl)), (okOf Tryz.func75 (by kernel_rfl)), (okOf Tryz.func74 (by kernel_rfl)), (okOf Tryz.func47 (by kernel_rfl)), (okOf Tryz.func31 (by kernel_rfl)), (okOf Tryz.func32 (by kernel_rfl)), (okOf Tryz.func20 (by kernel_rfl)), (okOf Tryz.func10 (by kernel_rfl)), (okOf Tryz.func33 (by kernel_rfl)), (okOf Tryz.func21 (by kernel_rfl)), (okOf Tryz.func22 (by kernel_rfl)), Zz, (okOf Tryz.func16 (by kernel_rfl)), UO, (okOf Tryz.func12 (by kernel_rfl)), strconv_Atoi_ok, UP, (okOf Tryz.func6 (by kernel_rfl)), (okOf Tryz.func37 (by kernel_rfl)), (okOf Tryz.func48 (by kernel_rfl)), (okOf Tryz.func49 (by kernel_rfl)), (okOf Tryz.func83 (by kernel_rfl)), (okOf Tryz.func82 (by kernel_rfl)), (okOf Tryz.func55 (by kernel_rfl)), (okOf Tryz.func112 (by kernel_rfl)), (okOf Tryz.func78 (by kernel_rfl)), (okOf Tryz.func51 (by kernel_rfl)), (okOf Tryz.func76 (by kernel_rfl)), (okOf Tryz.func77 (by kernel_rfl)), (okOf Tryz.func50 (by kernel_rfl)), Y2, (okOf Tryz.func113 (by kernel_rfl)), bT, (okOf Tryz.func114 (by kernel_rfl)), (okOf Tryz.func95 (by kernel_rfl)), (okOf Tryz.func116 (by kernel_rfl)), (okOf Tryz.func117 (by kernel_rfl)), (okOf Tryz.func118 (by kernel_rfl)), (okOf Tryz.func115 (by kernel_rfl)), (okOf Tryz.func79 (by kernel_rfl)), (okOf Tryz.func52 (by kernel_rfl)), (okOf Tryz.func139 (by kernel_rfl)), (okOf Tryz.func103 (by kernel_rfl)), (okOf Tryz.func80 (by kernel_rfl)), (okOf Tryz.func53 (by kernel_rfl)), (okOf Tryz.func34 (by kernel_rfl)), (okOf Tryz.func35 (by kernel_rfl)), (okOf Tryz.func145 (by kernel_rfl)), (okOf Tryz.func74 (by kernel_rfl)), (okOf Tryz.func144 (by kernel_rfl)), (okOf Tryz.func119 (by kernel_rfl)), (okOf Tryz.func81 (by kernel_rfl)), (okOf Tryz.func54 (by kernel_rfl)), (okOf Tryz.func94 (by kernel_rfl)), (okOf Tryz.func120 (by kernel_rfl)), (okOf Tryz.func84 (by kernel_rfl)), (okOf Tryz.func85 (by kernel_rfl)), (okOf Tryz.func86 (by kernel_rfl)), (okOf Tryz.func56 (by kernel_rfl)), (okOf Tryz.func36 (by kernel_rfl)), (okOf Tryz.func158 (by kernel_rfl)), (okOf Tryz.func152 (by kernel_rfl)), (okOf Tryz.func149 (by kernel_rfl)), gT, jm, (okOf Tryz.func150 (by kernel_rfl)), (okOf Tryz.func126 (by kernel_rfl)), (okOf Tryz.func90 (by kernel_rfl)), (okOf Tryz.func99 (by kernel_rfl)), (okOf Tryz.func136 (by kernel_rfl)), (okOf Tryz.func129 (by kernel_rfl)), (okOf Tryz.func154 (by kernel_rfl)), (okOf Tryz.func153 (by kernel_rfl)), (okOf Tryz.func132 (by kernel_rfl)), (okOf Tryz.func131 (by kernel_rfl)), (okOf Tryz.func134 (by kernel_rfl)), (okOf Tryz.func130 (by kernel_rfl)), (okOf Tryz.func155 (by kernel_rfl)), (okOf Tryz.func134 (by kernel_rfl)), (okOf Tryz.func130 (by kernel_rfl)), (okOf Tryz.func133 (by kernel_rfl)), (okOf Tryz.func135 (by kernel_rfl)), (okOf Tryz.func134 (by kernel_rfl)), (okOf Tryz.func97 (by kernel_rfl)), (okOf Tryz.func137 (by kernel_rfl)), (okOf Tryz.func98 (by kernel_rfl)), (okOf Tryz.func62 (by kernel_rfl)), (okOf Tryz.func100 (by kernel_rfl)), eQ, (okOf Tryz.func102 (by kernel_rfl)), (okOf Tryz.func101 (by kernel_rfl)), (okOf Tryz.func63 (by kernel_rfl)), (okOf Tryz.func104 (by kernel_rfl)), (okOf Tryz.func64 (by kernel_rfl)), (okOf Tryz.func39 (by kernel_rfl)), (okOf Tryz.func89 (by kernel_rfl)), (okOf Tryz.func58 (by kernel_rfl)), (okOf Tryz.func91 (by kernel_rfl)), (okOf Tryz.func93 (by kernel_rfl)), (okOf Tryz.func92 (by kernel_rfl)), (okOf Tryz.func59 (by kernel_rfl)), (okOf Tryz.func60 (by kernel_rfl)), (okOf Tryz.func151 (by kernel_rfl)), (okOf Tryz.func127 (by kernel_rfl)), (okOf Tryz.func128 (by kernel_rfl)), (okOf Tryz.func96 (by kernel_rfl)), (okOf Tryz.func61 (by kernel_rfl)), (okOf Tryz.func38 (by kernel_rfl)), (okOf Tryz.func23 (by kernel_rfl)), (okOf Tryz.func11 (by kernel_rfl)), (okOf Tryz.func8 (by kernel_rfl)), (okOf Tryz.func7 (by kernel_rfl)), (okOf Tryz.func4 (by kernel_rfl)), (okOf Tryz.func13 (by kernel_rfl)), (okOf Tryz.func5 (by kernel_rfl)), (okOf Tryz.func3 (by kernel_rfl)), trivial⟩
end Pt
