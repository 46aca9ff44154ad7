/-
  The plain machine's telling of functions of the program: codes, functions, tables. Printed by gen11.py.
  Conditions: none; these are definitions and equations that the kernel checks.
-/
import Derived.Test.YtgbbdagfjenmeaaGreatDoorVd
import Derived.Test.YtgbbdagfjenmeaaGreatDoorProg
import Derived.Test.YtgbbdagfjenmeaaGreatDoorShelf
import Derived.Test.YtgbbdagfjenmeaaGreatDoorCmf
import Derived.Test.YtgbbdagfjenmeaaGreatDoorDel
import Derived.Test.YtgbbdagfjenmeaaGreatDoorSrt
namespace Pt
open Go Go.Vt Go.Proofs
set_option linter.unusedVariables false
set_option maxRecDepth 100000
abbrev tI : Ty := .int .i64
abbrev tR : Ty := .slice tI
abbrev tS : Ty := .pair tI (.pair (.pair tI tI) tI)
abbrev tQ : Ty := .slice tS
abbrev tT : Ty := .pair tR (.pair tQ (.pair tI (.pair tI tI)))
abbrev tC : Ty := .pair tR tI
abbrev tD : Ty := .slice tC
abbrev tW : Ty := .slice tR
abbrev tK : Ty := .pair (.slice (.int .u8)) (.pair tI tI)
abbrev dS : Type := Int × (Int × Int) × Int
abbrev dT : Type := List Int × List dS × Int × Int × Int
abbrev dC : Type := List Int × Int
noncomputable abbrev ci (x : Int) : AV := .cv (.val tI x)
noncomputable abbrev cw (t : Ty) (x : t.den) : AV := .cv (.val t x)
noncomputable abbrev co (c : Nat) : AV := .cv (.own c)
noncomputable def tyL : List (Nat × TI) := [(3, .one (tI)), (4, .one (.bool)), (5, .one (.int .u8)), (9, .one (.str)), (22, .one (.slice (.int .u8))), (23, .one (tR)), (24, .one (tQ)), (26, .struct [(0, 23), (1, 24), (2, 3), (3, 3), (4, 3)] [tR, tQ, tI, tI, tI] false), (30, .one (tD)), (35, .struct [(0, 23), (1, 3)] [tR, tI] false), (38, .struct [(0, 3), (1, 3)] [tI, tI] true), (40, .struct [(0, 3), (1, 38), (3, 3)] [tI, tI, tI, tI] true), (42, .one (tQ)), (44, .struct [(0, 23), (1, 42), (2, 3), (3, 3), (4, 3)] [tR, tQ, tI, tI, tI] false), (47, .struct [(0, 3), (1, 23), (2, 35)] [tI, tR, tR, tI] false), (58, .struct [(0, 23), (1, 3)] [tR, tI] false), (60, .struct [(0, 3), (1, 23), (2, 58)] [tI, tR, tR, tI] false), (81, .one (.slice .str)), (88, .one (.slice tD)), (93, .one (tW)), (100, .one (.slice .set)), (104, .one (.set)), (132, .struct [(0, 22), (1, 3), (2, 3)] [.slice (.int .u8), tI, tI] false), (139, .struct [(0, 3), (1, 3)] [tI, tI] true), (141, .struct [(0, 3), (1, 139), (3, 3)] [tI, tI, tI, tI] true), (149, .arr 12 (.bool)), (1000022, .bytes), (5023023, .flag), (5023031, .flag), (5023072, .flag), (5030021, .flag), (5035049, .flag), (5035057, .flag), (5073036, .flag), (5077056, .flag), (5143049, .flag), (8104055, .flag)]
noncomputable def T9 : Fi := fiOf Tryz.f66 [.v tR false, .v tI false] [(false, [⟨tI, none⟩])] h0
noncomputable def Uw : Fi := fiOf Tryz.f67 [.v tQ false, .v tI false] [(false, [⟨tI, none⟩])] h0
noncomputable def Uv : Fi := fiOf Tryz.f18 [.v tT true, .v tI false] [(false, [⟨tI, none⟩])] h0
noncomputable def Xl : Fi := fiOf Tryz.f70 [.v tR false] [(false, [⟨tR, some (true, false)⟩])] fun | 3 => some [.keep 0, .cell 3 (.row 100003 (tI) true false), .keep 4] | _ => none
noncomputable def T6 : Fi := fiOf Tryz.f175 [.v (.pair tI tI) true] [(true, [⟨tI, none⟩, ⟨tI, none⟩])] h0
noncomputable def T3 : Fi := fiOf Tryz.f142 [.v tS true] [(true, [⟨tI, none⟩, ⟨tI, none⟩, ⟨tI, none⟩, ⟨tI, none⟩])] h0
noncomputable def aj : Fi := fiOf Tryz.f71 [.v tQ false] [(false, [⟨tQ, some (true, false)⟩])] fun | 3 => some [.keep 0, .cell 3 (.row 100003 (tS) true false), .keep 4] | _ => none
noncomputable def Ut : Fi := fiOf Tryz.f20 [.v tT true] [(true, [⟨tR, some (true, false)⟩, ⟨tQ, some (true, false)⟩, ⟨tI, none⟩, ⟨tI, none⟩, ⟨tI, none⟩])] h0
noncomputable def Q7 : Fi := fiOf Tryz.f88 [.v tI false, .v tI false, .v tI false] [(false, [⟨.bool, none⟩])] h0
noncomputable def SK : Fi := fiOf Tryz.f154 [.v tI false] [(false, [⟨tI, none⟩])] h0
noncomputable def Xv : Fi := fiOf Tryz.f159 [.v tR false, .v tI false] [(false, [⟨.bool, none⟩])] fun | 2 => some [.keep 1, .keep 7, .keep 8, .keep 9] | _ => none
noncomputable def cX : Fi := fiOf Tryz.f116 [.v tR false] [(false, [⟨.bool, none⟩])] fun | 5 => some [.cell 3 (.row 100003 (tI) true false), .keep 11, .keep 12, .keep 13] | _ => none
noncomputable def SE : Fi := fiOf Tryz.f160 [.v tI false, .v (.pair tI tI) true] [(false, [⟨.bool, none⟩])] h0
noncomputable def YJ : Fi := fiOf Tryz.f161 [.v tI false, .v tI false] [(false, [⟨.bool, none⟩])] h0
noncomputable def SA : Fi := fiOf Tryz.f117 [.v tI false, .v tS true] [(false, [⟨.bool, none⟩])] h0
noncomputable def gh : Fi := fiOf Tryz.f139 [.v tR false, .v tI false] [(false, [⟨tI, none⟩])] fun | 2 => some [.keep 1, .keep 7, .keep 8, .keep 9] | _ => none
noncomputable def Wd : Fi := fiOf Tryz.f118 [.v tT true, .v tI false, .v .bool false] [(false, [⟨.bool, none⟩])] h0
noncomputable def Zg : Fi := fiOf Tryz.f47 [.v tT true] [(false, [⟨.bool, none⟩])] fun | 6 => some [.box 1 200001 [.keep, .keep, .keep, .keep, .keep], .keep 3, .keep 4, .keep 25, .keep 26, .keep 27] | _ => none
noncomputable def Wm : Fi := fiOf Tryz.f200 [.v tI false] [(false, [⟨tI, none⟩])] h0
noncomputable def aZ : Fi := fiOf Tryz.f195 [.v tR false, .v tI false, .v .bool false] [(false, [⟨tR, some (true, false)⟩])] fun | 3 => some [.keep 0, .keep 1, .keep 2, .cell 7 (.row 100007 (tI) true false), .keep 8] | _ => none
noncomputable def aT : Fi := fiOf Tryz.f196 [.v tR false, .v tI false] [(false, [⟨tR, some (true, false)⟩])] fun | 4 => some [.keep 1, .keep 5, .keep 6, .cell 7 (.row 100007 (tI) true false)] | _ => none
noncomputable def cR : Fi := fiOf Tryz.f197 [.v tR false, .v tI false] [(false, [⟨tR, some (true, false)⟩])] fun | 3 => some [.keep 1, .cell 5 (.row 100005 (tI) true false), .keep 9, .keep 10, .keep 11] | _ => none
noncomputable def aQ : Fi := fiOf Tryz.f198 [.v tR false] [(false, [⟨tR, some (true, false)⟩])] fun | 2 => some [.keep 0, .cell 3 (.row 100003 (tI) true false)] | _ => none
noncomputable def aV : Fi := fiOf Tryz.f199 [.v tR false, .v tI false] [(false, [⟨tR, some (true, false)⟩])] fun | 4 => some [.cell 5 (.row 100005 (tI) true false), .cell 6 (.row 100006 (tI) true false), .keep 7] | _ => none
noncomputable def Q5 : Fi := fiOf Tryz.f171 [.v tR false, .v (.pair tI tI) true] [(false, [⟨tR, some (true, false)⟩])] h0
noncomputable def aO : Fi := fiOf Tryz.f202 [.v tR false] [(false, [⟨tW, some (true, false)⟩])] fun | 3 => some [.keep 0, .cell 3 (.row 100003 (tR) true false), .keep 7, .keep 8] | _ => none
noncomputable def We : Fi := fiOf Tryz.f203 [.v tW false, .v tR false, .v tR false, .v tR false] [(false, [⟨tW, some (false, false)⟩])] fun  | 999999 => some [] | _ => none
noncomputable def Z3 : Fi := fiOf Tryz.f173 [.v tR false, .v tI false] [(false, [⟨tW, some (false, false)⟩])] fun | 7 => some [.keep 0, .cell 5 (.row 100005 (tR) false false), .keep 6] | 15 => some [.keep 0, .cell 5 (.row 100005 (tR) true false), .keep 40, .keep 41, .keep 42] | _ => none
noncomputable def gf : Fi := fiOf Tryz.f141 [.v tR false, .v tR false] [(false, [⟨.bool, none⟩])] fun | 4 => some [.keep 1, .keep 12, .keep 13, .keep 14] | _ => none
noncomputable def aL : Fi := fiOf Tryz.f220 [.v tR false, .v tR false] [(false, [⟨.bool, none⟩])] fun | 2 => some [.keep 0, .keep 1, .keep 7, .keep 8, .keep 9] | _ => none
noncomputable def cQ : Fi := fiOf Tryz.f201 [.v tW false, .v tW false] [(false, [⟨tW, some (true, false)⟩])] fun | 2 => some [.keep 0, .keep 1, .cell 5 (.row 450005 (tR) true false)] | _ => none
noncomputable def bM : Fi := fiOf Tryz.f172 [.v tW false] [(false, [⟨tW, some (true, false)⟩])] h0
noncomputable def aI : Fi := fiOf Tryz.f137 [.v tC true, .v tS true] [(false, [⟨tD, some (false, false)⟩])] fun | 8 => some [.box 2 200002 [.keep, .keep], .cell 5 (.row 100005 (tC) false false), .cell 42 (.row 100042 (tR) false false), .keep 43, .keep 44] | _ => none
noncomputable def YO : Fi := fiOf Tryz.f94 [.v tC true, .v tC true] [(false, [⟨.bool, none⟩])] h0
noncomputable def aA : Fi := fiOf Tryz.f138 [.v tD false, .v tC true] [(false, [⟨tI, none⟩])] fun | 2 => some [.box 3 200003 [.keep, .keep], .keep 7, .keep 8, .keep 9] | _ => none
noncomputable def uU : Fi := fiOf Tryz.f68 [.v tT true] [(false, [⟨tD, some (false, false)⟩]), (false, [⟨tW, some (true, false)⟩]), (false, [⟨.bool, none⟩])] fun | 4 => some [.cell 5 (.row 100005 (tC) false false), .cell 6 (.row 100006 (tR) true false), .keep 25, .keep 26, .keep 27] | 9 => some [.cell 6 (.row 100006 (tR) false false), .box 8 200008 [.keep, .keep, .keep, .keep], .cell 9 (.row 100009 (tC) false false), .cell 10 (.row 100010 (tR) true false), .keep 25, .keep 26, .keep 27, .cell 33 (.row 100033 (tC) false false), .keep 34, .keep 35] | 12 => some [.cell 6 (.row 100006 (tR) false false), .box 8 200008 [.keep, .keep, .keep, .keep], .cell 9 (.row 100009 (tC) false false), .cell 10 (.row 100010 (tR) true false), .keep 11, .keep 25, .keep 26, .keep 27, .cell 33 (.row 100033 (tC) false false), .keep 34, .keep 35, .cell 42 (.row 100042 (tC) false false), .keep 43, .keep 44] | _ => none
noncomputable def MG : Fi := fiOf Tryz.f174 [.v tI false] [(false, [⟨.bool, none⟩])] h0
noncomputable def Zm : Fi := fiOf Tryz.f140 [.v tR false] [(false, [⟨tI, none⟩])] fun | 3 => some [.keep 3, .keep 6, .keep 7, .keep 8] | _ => none
noncomputable def Wc : Fi := fiOf Tryz.f69 [.v tT true, .v tC true] [(false, [⟨.bool, none⟩])] h0
noncomputable def gn : Fi := fiOf Tryz.f19 [.v tT true] [(true, [⟨tI, none⟩, ⟨tR, none⟩, ⟨tR, none⟩, ⟨tI, none⟩]), (false, [⟨.bool, none⟩])] fun | 7 => some [.box 1 200001 [.keep, .keep, .keep, .keep, .keep], .box 2 200002 [.keep, .keep, .keep, .keep], .cell 5 (.val (tW)), .cell 22 (.row 100022 (tC) false false), .keep 23, .keep 24] | _ => none
noncomputable def X7 : Fi := fiOf Tryz.f60 [.v tT true] [(false, [⟨.bool, none⟩])] h0
noncomputable def UG : Fi := fiOf Tryz.f97 [.v tT true, .v tI false] [(true, [⟨tR, some (true, false)⟩, ⟨tQ, some (true, false)⟩, ⟨tI, none⟩, ⟨tI, none⟩, ⟨tI, none⟩])] h0
noncomputable def Wu : Fi := fiOf Tryz.f89 [.v tT true, .v tI false] [(true, [⟨tR, some (true, false)⟩, ⟨tQ, some (true, false)⟩, ⟨tI, none⟩, ⟨tI, none⟩, ⟨tI, none⟩]), (false, [⟨.bool, none⟩])] h0
noncomputable def Wq : Fi := fiOf Tryz.f27 [.v tT true, .v tI false] [(false, [⟨.bool, none⟩])] h0
noncomputable def RQ : Fi := fiOf Tryz.f109 [.v tI false] [(false, [⟨tI, none⟩])] h0
noncomputable def bu : Fi := fiOf Tryz.f113 [.v tR false] [(false, [⟨.bool, none⟩])] fun | 3 => some [.arr 3 400003, .keep 7, .keep 8, .keep 9] | _ => none
noncomputable def RN : Fi := fiOf Tryz.f128 [.v tI false, .v (.pair tI tI) true] [(false, [⟨.bool, none⟩])] h0
noncomputable def RH : Fi := fiOf Tryz.f114 [.v tI false, .v tS true] [(false, [⟨.bool, none⟩])] h0
noncomputable def eW : Fi := fiOf Tryz.f158 [.v tI false, .r tI] [(false, [⟨.bool, none⟩])] h0
noncomputable def zR : Fi := fiOf Tryz.f157 [.v tR false, .fn 158 [tI]] [(false, [⟨tI, none⟩])] fun | 2 => some [.keep 0, .keep 1, .keep 7, .keep 8] | _ => none
noncomputable def ZE : Fi := fiOf Tryz.f115 [.v tR false, .v tI false] [(false, [⟨tI, none⟩])] h0
noncomputable def ZC : Fi := fiOf Tryz.f46 [.v tT true] [(false, [⟨.bool, none⟩])] fun | 6 => some [.box 1 200001 [.keep, .keep, .keep, .keep, .keep], .keep 3, .keep 4, .keep 25, .keep 26, .keep 27] | _ => none
noncomputable def xR : Fi := fiOf Tryz.f135 [.v tR false] [(false, [⟨tR, some (true, false)⟩])] h0
noncomputable def ZD : Fi := fiOf Tryz.f111 [.v tT true] [(true, [⟨tR, some (true, true)⟩, ⟨tI, none⟩]), (false, [⟨.bool, none⟩])] h0
noncomputable abbrev slices_Grow_int_fi : Fi := growFi
noncomputable def xu : Fi := fiOf Tryz.f176 [.v tW false] [(false, [⟨tR, some (true, false)⟩])] fun | 3 => some [.keep 0, .keep 3, .keep 9, .keep 10, .keep 11] | 11 => some [.cell 6 (.row 100006 (tI) true false), .keep 25, .keep 26, .keep 27] | _ => none
noncomputable abbrev slices_Reverse_int_fi : Fi := reverseFi
noncomputable def WO : Fi := fiOf Tryz.f177 [.v tR false] [(false, [⟨tR, some (true, false)⟩])] h0
noncomputable def RB : Fi := fiOf Tryz.f179 [.v tR false, .v tI false] [(false, [⟨tR, some (true, true)⟩])] fun | 4 => some [.keep 5, .keep 6, .cell 7 (.row 100007 (tI) true true), .keep 8] | _ => none
noncomputable def V6 : Fi := fiOf Tryz.f180 [.v tR false, .v tI false] [(false, [⟨tR, some (true, false)⟩])] fun | 3 => some [.keep 1, .cell 5 (.row 100005 (tI) true false), .keep 8, .keep 9, .keep 10] | _ => none
noncomputable def Rz : Fi := fiOf Tryz.f181 [.v tR false] [(false, [⟨tR, some (true, false)⟩])] fun | 2 => some [.keep 0, .cell 3 (.row 100003 (tI) true false)] | _ => none
noncomputable def V8 : Fi := fiOf Tryz.f182 [.v tR false, .v tI false] [(false, [⟨tR, some (true, true)⟩])] fun | 4 => some [.cell 5 (.row 100005 (tI) true true), .cell 6 (.row 100006 (tI) true false), .keep 7] | _ => none
noncomputable def WX : Fi := fiOf Tryz.f178 [.v tI false] [(false, [⟨tI, none⟩])] h0
noncomputable def V4 : Fi := fiOf Tryz.f144 [.v tR false, .v (.pair tI tI) true] [(false, [⟨tR, some (true, false)⟩])] fun | 10 => some [.keep 5, .cell 6 (.row 100006 (tI) true false), .keep 7] | _ => none
noncomputable def RE : Fi := fiOf Tryz.f206 [.v tR false] [(false, [⟨tW, some (true, true)⟩])] fun | 3 => some [.keep 0, .cell 3 (.row 100003 (tR) true true), .keep 6, .keep 7] | _ => none
noncomputable def fq : Fi := fiOf Tryz.f207 [.v tR false, .v tI false] [(false, [⟨tR, some (true, true)⟩])] fun | 3 => some [.keep 0, .keep 1, .keep 5, .keep 6, .keep 11, .keep 12] | 9 => some [.keep 0, .keep 1, .keep 5, .keep 6, .cell 8 (.row 100008 (tI) true true), .keep 24, .keep 25] | _ => none
noncomputable def TU : Fi := fiOf Tryz.f183 [.v tR false, .v tI false] [(false, [⟨tW, some (true, false)⟩]), (false, [⟨.bool, none⟩])] fun | 9 => some [.keep 0, .cell 6 (.row 100006 (tR) true true), .keep 7] | 20 => some [.keep 0, .cell 8 (.row 100008 (tR) true true), .keep 48, .keep 49] | _ => none
noncomputable abbrev slices_SortFunc_int_int_fi : Fi := (sortFi 209)
noncomputable abbrev slices_CompactFunc_int_int_fi : Fi := compactFi
noncomputable def jr : Fi := fiOf Tryz.f184 [.v tW false] [(false, [⟨tW, some (true, false)⟩])] fun | 3 => some [.cell 3 (.row 100003 (tR) true true), .keep 6, .keep 7, .keep 8] | _ => none
noncomputable def Y9 : Fi := fiOf Tryz.f145 [.v tR false, .v tI false] [(false, [⟨tW, some (true, false)⟩]), (false, [⟨.bool, none⟩])] h0
noncomputable def gF : Fi := fiOf Tryz.f75 [.v tC true, .v tS true] [(false, [⟨tD, some (true, false)⟩])] fun | 11 => some [.box 2 200002 [.keep, .keep], .cell 5 (.row 100005 (tC) true true), .cell 67 (.row 440067 (tR) true false), .keep 68, .keep 69] | _ => none
noncomputable abbrev strconv_Itoa_fi : Fi := itoaFi
noncomputable def Xa : Fi := fiOf Tryz.f104 [.v tI false] [(false, [⟨.str, none⟩])] h0
noncomputable def fP : Fi := fiOf Tryz.f152 [.v tR false] [(false, [⟨.slice .str, some (true, true)⟩])] fun | 3 => some [.cell 3 (.row 100003 (.str) true true), .keep 6, .keep 7, .keep 8] | _ => none
noncomputable abbrev strings_Join_fi : Fi := joinFi
noncomputable def Ll : Fi := fiOf Tryz.f125 [.v (.slice .str) false, .v .str false] [(false, [⟨.str, none⟩])] h0
noncomputable def b6 : Fi := fiOf Tryz.f105 [.v tR false] [(false, [⟨.str, none⟩])] h0
noncomputable def Po : Fi := fiOf Tryz.f78 [.v tC true] [(false, [⟨.str, none⟩])] h0
noncomputable def gA : Fi := fiOf Tryz.f64 [.v tT true] [(false, [⟨.slice tD, some (true, false)⟩]), (false, [⟨.bool, none⟩])] fun | 4 => some [.cell 6 (.row 450006 (tD) true false), .keep 25, .keep 26, .keep 27] | 9 => some [.cell 6 (.row 420006 (tC) true false), .box 8 200008 [.keep, .keep, .keep, .keep], .cell 9 (.row 430009 (.bool) false false), .cell 10 (.row 450010 (tC) true true), .keep 25, .keep 26, .keep 27, .cell 36 (.row 450036 (tC) true false), .keep 37, .keep 38] | 12 => some [.cell 6 (.row 420006 (tC) true false), .box 8 200008 [.keep, .keep, .keep, .keep], .cell 9 (.row 430009 (.bool) false false), .cell 10 (.row 450010 (tC) true true), .keep 25, .keep 26, .keep 27, .cell 36 (.row 450036 (tC) true false), .keep 37, .keep 38, .cell 44 (.row 440044 (tC) true false), .keep 45, .keep 46] | _ => none
noncomputable def jB : Fi := fiOf Tryz.f156 [.v tI false, .r tR] [(false, [⟨.bool, none⟩])] h0
noncomputable def zG : Fi := fiOf Tryz.f157 [.v tR false, .fn 156 [tR]] [(false, [⟨tI, none⟩])] fun | 2 => some [.keep 0, .keep 1, .keep 7, .keep 8] | _ => none
noncomputable def ye : Fi := fiOf Tryz.f155 [.v tR false, .fn 156 [tR]] [(false, [⟨.bool, none⟩])] h0
noncomputable def fv : Fi := fiOf Tryz.f108 [.v tR false, .v tR false] [(false, [⟨.bool, none⟩])] h0
noncomputable def Ln : Fi := fiOf Tryz.f124 [.v tI false] [(false, [⟨.bool, none⟩])] h0
noncomputable def ZI : Fi := fiOf Tryz.f110 [.v tR false] [(false, [⟨tI, none⟩])] fun | 3 => some [.keep 3, .keep 6, .keep 7, .keep 8] | _ => none
noncomputable def slices_Equal_int_fi : Fi := fiOf Tryz.f65 [.v tR false, .v tR false] [(false, [⟨.bool, none⟩])] fun | 4 => some [.keep 0, .keep 1, .keep 12, .keep 13] | _ => none
noncomputable def ZJ : Fi := fiOf Tryz.f40 [.v tT true, .v tC true] [(false, [⟨.bool, none⟩])] h0
noncomputable def eZ : Fi := fiOf Tryz.f73 [.v tC true, .r tT] [(false, [⟨.bool, none⟩])] h0
noncomputable def zD : Fi := fiOf Tryz.f76 [.v tD false, .fn 73 [tT]] [(false, [⟨tI, none⟩])] fun | 2 => some [.keep 0, .keep 1, .keep 7, .keep 8] | _ => none
noncomputable def z8 : Fi := fiOf Tryz.f72 [.v tD false, .fn 73 [tT]] [(false, [⟨.bool, none⟩])] h0
noncomputable def Y4 : Fi := fiOf Tryz.f143 [.v tC true, .r (.slice .set), .r tI] [(false, [⟨.bool, none⟩])] h0
noncomputable def zL : Fi := fiOf Tryz.f76 [.v tD false, .fn 143 [.slice .set, tI]] [(false, [⟨tI, none⟩])] fun | 2 => some [.keep 0, .keep 1, .keep 7, .keep 8] | _ => none
noncomputable def yi : Fi := fiOf Tryz.f72 [.v tD false, .fn 143 [.slice .set, tI]] [(false, [⟨.bool, none⟩])] h0
noncomputable def fr : Fi := fiOf Tryz.f74 [.v tT true, .v (.slice tD) false] [(false, [⟨.slice .set, some (true, false)⟩])] fun | 3 => some [.keep 1, .box 2 200002 [.keep, .keep, .keep, .keep, .keep], .box 5 200005 [.row 300500 (.set) true false], .box 6 200006 [.keep]] | 7 => some [.keep 1, .box 2 200002 [.keep, .keep, .keep, .keep, .keep], .box 5 200005 [.row 300500 (.set) true false], .box 6 200006 [.keep], .keep 27, .keep 28, .keep 29] | _ => none
noncomputable def eY : Fi := fiOf Tryz.f77 [.v tC true, .r (.slice .set), .r tI] [(false, [⟨.bool, none⟩])] h0
noncomputable def zC : Fi := fiOf Tryz.f76 [.v tD false, .fn 77 [.slice .set, tI]] [(false, [⟨tI, none⟩])] fun | 2 => some [.keep 0, .keep 1, .keep 7, .keep 8] | _ => none
noncomputable def Y6 : Fi := fiOf Tryz.f79 [.v tC true] [(true, [⟨tR, some (true, false)⟩, ⟨tI, none⟩])] h0
noncomputable def gK : Fi := fiOf Tryz.f21 [.v tT true] [(true, [⟨tI, none⟩, ⟨tR, some (true, true)⟩, ⟨tR, some (true, false)⟩, ⟨tI, none⟩]), (false, [⟨.bool, none⟩])] fun | 12 => some [.box 2 200002 [.keep, .keep, .keep, .keep], .box 6 200006 [.keep, .keep], .box 7 200007 [.row 300700 (.set) true false], .box 8 200008 [.keep, .row 300801 (tI) true true, .keep, .keep], .keep 45, .keep 46, .keep 47] | _ => none
noncomputable def Pq : Fi := fiOf Tryz.f90 [.v tT true] [(false, [⟨.bool, none⟩])] h0
noncomputable def xe : Fi := fiOf Tryz.f136 [.v tQ false] [(false, [⟨tQ, some (true, false)⟩])] h0
noncomputable def Y5 : Fi := fiOf Tryz.f62 [.v tT true] [(true, [⟨tR, some (true, false)⟩, ⟨tQ, some (true, false)⟩, ⟨tI, none⟩, ⟨tI, none⟩, ⟨tI, none⟩])] h0
noncomputable abbrev slices_Delete_i_Step_fi : Fi := (deleteFi (.pair (.int .i64) (.pair (.pair (.int .i64) (.int .i64)) (.int .i64))))
noncomputable def W4 : Fi := fiOf Tryz.f98 [.v tT true, .v tI false] [(true, [⟨tR, some (true, false)⟩, ⟨tQ, some (false, false)⟩, ⟨tI, none⟩, ⟨tI, none⟩, ⟨tI, none⟩]), (false, [⟨.bool, none⟩])] h0
noncomputable def WS : Fi := fiOf Tryz.f91 [.v tT true, .v tI false] [(false, [⟨.bool, none⟩])] h0
noncomputable def W0 : Fi := fiOf Tryz.f28 [.v tT true, .v tI false] [(false, [⟨.bool, none⟩])] h0
noncomputable def Xq : Fi := fiOf Tryz.f80 [.v tR false, .v tR false] [(false, [⟨.bool, none⟩])] fun | 4 => some [.keep 0, .keep 1, .keep 5] | _ => none
noncomputable def Sd : Fi := fiOf Tryz.f185 [.v (.pair tI tI) true, .v (.pair tI tI) true] [(false, [⟨.bool, none⟩])] h0
noncomputable def Sa : Fi := fiOf Tryz.f146 [.v tS true, .v tS true] [(false, [⟨.bool, none⟩])] h0
noncomputable def al : Fi := fiOf Tryz.f82 [.v tQ false, .v tQ false] [(false, [⟨.bool, none⟩])] fun | 4 => some [.keep 0, .keep 1, .keep 5] | _ => none
noncomputable def Uy : Fi := fiOf Tryz.f23 [.v tT true, .v tT true] [(false, [⟨.bool, none⟩])] h0
noncomputable def wP : Fi := fiOf Tryz.f5 [.v tT true, .v tI false] [(false, [⟨.bool, none⟩])] h0
noncomputable def Ux : Fi := fiOf Tryz.f92 [.v tC true, .v tI false] [(false, [⟨tI, none⟩])] h0
noncomputable def YB : Fi := fiOf Tryz.f29 [.v (.pair tI (.pair tR tC)) true, .v tI false] [(false, [⟨tI, none⟩])] h0
noncomputable def Uu : Fi := fiOf Tryz.f96 [.v tC true] [(true, [⟨tR, some (true, false)⟩, ⟨tI, none⟩])] h0
noncomputable def Yz : Fi := fiOf Tryz.f31 [.v (.pair tI (.pair tR tC)) true] [(true, [⟨tI, none⟩, ⟨tR, some (true, false)⟩, ⟨tR, some (true, false)⟩, ⟨tI, none⟩])] h0
noncomputable def Zh : Fi := fiOf Tryz.f147 [.v tT true] [(true, [⟨tR, some (true, true)⟩, ⟨tI, none⟩]), (false, [⟨.bool, none⟩])] h0
noncomputable def uf : Fi := fiOf Tryz.f148 [.v tT true] [(false, [⟨tI, none⟩])] fun | 5 => some [.keep 3, .keep 10, .keep 11, .keep 12] | _ => none
noncomputable def cW : Fi := fiOf Tryz.f93 [.v tT true, .v tR false] [(true, [⟨tR, none⟩, ⟨tI, none⟩]), (false, [⟨.bool, none⟩])] fun | 6 => some [.keep 1, .box 4 200004 [.keep, .keep], .box 6 200006 [.val (tR), .keep], .keep 8, .keep 29, .keep 30, .keep 31] | _ => none
noncomputable def UH : Fi := fiOf Tryz.f95 [.v (.pair tI (.pair tR tC)) true, .v (.pair tI (.pair tR tC)) true] [(false, [⟨.bool, none⟩])] h0
noncomputable def Wo : Fi := fiOf Tryz.f30 [.v tT true, .v (.pair tI (.pair tR tC)) true] [(false, [⟨.bool, none⟩])] h0
noncomputable def uk : Fi := fiOf Tryz.f43 [.v tT true] [(false, [⟨tI, none⟩])] fun | 5 => some [.keep 3, .keep 10, .keep 11, .keep 12] | _ => none
noncomputable def br : Fi := fiOf Tryz.f42 [.v tT true, .v tR false] [(true, [⟨tR, some (true, false)⟩, ⟨tI, none⟩]), (false, [⟨.bool, none⟩])] fun | 5 => some [.keep 1, .box 4 200004 [.keep, .keep], .box 6 200006 [.row 300600 (tI) true false, .keep], .keep 28, .keep 29, .keep 30] | _ => none
noncomputable def Y8 : Fi := fiOf Tryz.f17 [.v tC true, .v tC true] [(false, [⟨.bool, none⟩])] h0
noncomputable def WZ : Fi := fiOf Tryz.f32 [.v tT true, .v (.pair tI (.pair tR tC)) true] [(false, [⟨.bool, none⟩])] h0
noncomputable def Uz : Fi := fiOf Tryz.f81 [.v tC true, .v tC true] [(false, [⟨.bool, none⟩])] h0
noncomputable def YE : Fi := fiOf Tryz.f22 [.v (.pair tI (.pair tR tC)) true, .v (.pair tI (.pair tR tC)) true] [(false, [⟨.bool, none⟩])] h0
noncomputable def wO : Fi := fiOf Tryz.f6 [.v tT true, .v (.pair tI (.pair tR tC)) true] [(false, [⟨.bool, none⟩])] h0
noncomputable def ub : Fi := fiOf Tryz.f33 [.v tT true] [(true, [⟨tR, some (true, false)⟩, ⟨tQ, some (true, false)⟩, ⟨tI, none⟩, ⟨tI, none⟩, ⟨tI, none⟩]), (false, [⟨.bool, none⟩])] fun | 5 => some [.box 2 200002 [.keep, .keep, .keep, .keep, .keep], .box 4 200004 [.row 300400 (tI) true false, .row 300401 (tS) true false, .keep, .keep, .keep], .keep 5] | _ => none
noncomputable def uh : Fi := fiOf Tryz.f34 [.v tT true] [(true, [⟨tR, some (true, false)⟩, ⟨tQ, some (false, false)⟩, ⟨tI, none⟩, ⟨tI, none⟩, ⟨tI, none⟩]), (false, [⟨.bool, none⟩])] fun | 5 => some [.box 2 200002 [.keep, .keep, .keep, .keep, .keep], .box 4 200004 [.row 300400 (tI) true false, .row 300401 (tS) false false, .keep, .keep, .keep], .keep 5] | _ => none
noncomputable def cA : Fi := fiOf Tryz.f83 [.o [.o tI true] false, .v tI false] [(false, [⟨tI, none⟩])] fun | 2 => some [.cell 0 (.row 500000 (tI) true false), .keep 1, .keep 5] | _ => none
noncomputable def fB : Fi := fiOf Tryz.f84 [.o [.o tS true] false, .v tI false] [(false, [⟨tI, none⟩])] fun | 2 => some [.cell 0 (.row 500000 (tS) true false), .keep 1, .keep 5] | _ => none
noncomputable def YC : Fi := fiOf Tryz.f24 [.o [.o tI true, .o tS true, .v tI, .v tI, .v tI] true, .v tI false] [(false, [⟨tI, none⟩])] h0
noncomputable def cC : Fi := fiOf Tryz.f86 [.v tR false, .v tI false] [(false, [⟨tI, none⟩])] fun | 2 => some [.keep 0, .keep 1, .keep 5] | _ => none
noncomputable def fC : Fi := fiOf Tryz.f99 [.v tQ false, .v tI false] [(false, [⟨tI, none⟩])] fun | 2 => some [.keep 0, .keep 1, .keep 5] | _ => none
noncomputable def YD : Fi := fiOf Tryz.f35 [.v tT true, .v tI false] [(false, [⟨tI, none⟩])] h0
noncomputable def xv : Fi := fiOf Tryz.f7 [.v tT true] [(false, [⟨.bool, none⟩])] h0
noncomputable def YS : Fi := fiOf Tryz.f48 [.v tT true] [(false, [⟨tD, some (false, false)⟩]), (false, [⟨.bool, none⟩])] h0
noncomputable def YR : Fi := fiOf Tryz.f101 [.v tT true] [(false, [⟨tI, none⟩])] h0
noncomputable def fK : Fi := fiOf Tryz.f100 [.v tI false] [(false, [⟨.str, none⟩])] fun | 6 => some [.keep 0, .keep 3] | _ => none
noncomputable def SF : Fi := fiOf Tryz.f149 [.v (.slice .str) false, .v .str false] [(false, [⟨.str, none⟩])] fun | 3 => some [.keep 1, .keep 5, .keep 8, .keep 9, .keep 10] | _ => none
noncomputable def jo : Fi := fiOf Tryz.f102 [.v tR false] [(false, [⟨.str, none⟩])] fun | 3 => some [.cell 3 (.row 100003 (.str) true false), .keep 7, .keep 8, .keep 9] | _ => none
noncomputable def ue : Fi := fiOf Tryz.f150 [.v tR false] [(false, [⟨.str, none⟩])] fun | 5 => some [.cell 3 (.row 100003 (.str) true false), .keep 11, .keep 12, .keep 13] | _ => none
noncomputable def YN : Fi := fiOf Tryz.f103 [.v tC true] [(false, [⟨.str, none⟩])] h0
noncomputable def bL : Fi := fiOf Tryz.f36 [.v tT true] [(false, [⟨.str, none⟩])] h0
noncomputable def Xc : Fi := fiOf Tryz.f15 [.v tT true] [(false, [⟨tD, some (true, false)⟩]), (false, [⟨.bool, none⟩])] h0
noncomputable def Xb : Fi := fiOf Tryz.f39 [.v tT true] [(false, [⟨tI, none⟩])] h0
noncomputable def uj : Fi := fiOf Tryz.f52 [.v tR false] [(false, [⟨.str, none⟩])] fun | 7 => some [.cell 3 (.row 100003 (.str) true true), .keep 13, .keep 14, .keep 15] | _ => none
noncomputable def Y7 : Fi := fiOf Tryz.f106 [.v tC true] [(false, [⟨.str, none⟩])] h0
noncomputable def bX : Fi := fiOf Tryz.f37 [.v tT true] [(false, [⟨.str, none⟩])] h0
noncomputable def xP : Fi := fiOf Tryz.f8 [.v tT true] [(false, [⟨.bool, none⟩])] h0
noncomputable def Xw : Fi := fiOf Tryz.f58 [.v (.slice (.int .u8)) false] [(false, [⟨tK, some (false, false)⟩])] fun | 3 => some [.keep 0, .keep 3, .keep 4] | _ => none
noncomputable def UR : Fi := fiOf Tryz.f163 [.p (.slice (.int .u8)) (.pair tI tI)] [(false, [⟨tI, none⟩])] h0
noncomputable def Wl : Fi := fiOf Tryz.f133 [.p (.slice (.int .u8)) (.pair tI tI), .v tI false] [(false, [⟨tI, none⟩])] h0
noncomputable def UQ : Fi := fiOf Tryz.f131 [.p (.slice (.int .u8)) (.pair tI tI), .v tI false] [(false, [⟨.bool, none⟩])] h0
noncomputable def fI : Fi := fiOf Tryz.f134 [.v tI false] [(false, [⟨tR, some (true, true)⟩])] fun | 5 => some [.keep 0, .cell 3 (.row 100003 (tI) true false), .keep 4] | _ => none
noncomputable def Wb : Fi := fiOf Tryz.f61 [.p (.slice (.int .u8)) (.pair tI tI)] [(true, [⟨tR, some (true, true)⟩, ⟨tQ, some (true, false)⟩, ⟨tI, none⟩, ⟨tI, none⟩, ⟨tI, none⟩])] h0
noncomputable def j7 : Fi := fiOf Tryz.f162 [.p (.slice (.int .u8)) (.pair tI tI), .v tI false] [(false, [⟨tR, some (true, false)⟩])] fun | 3 => some [.box 0 500000 [.keep, .keep, .keep], .keep 1, .cell 5 (.row 100005 (tI) true false), .keep 6] | _ => none
noncomputable def Zd : Fi := fiOf Tryz.f120 [.p (.slice (.int .u8)) (.pair tI tI), .v tI false] [(false, [⟨tR, some (true, false)⟩])] fun | 4 => some [.box 0 500000 [.keep, .keep, .keep], .cell 5 (.row 100005 (tI) true false), .keep 16, .keep 17] | _ => none
noncomputable def UP : Fi := fiOf Tryz.f187 [.p (.slice (.int .u8)) (.pair tI tI), .v tR false] [(false, [⟨tI, none⟩])] h0
noncomputable def UN : Fi := fiOf Tryz.f188 [.p (.slice (.int .u8)) (.pair tI tI), .v tI false] [(true, [⟨tI, none⟩, ⟨tI, none⟩])] h0
noncomputable def UJ : Fi := fiOf Tryz.f153 [.p (.slice (.int .u8)) (.pair tI tI), .v tI false] [(true, [⟨tI, none⟩, ⟨tI, none⟩, ⟨tI, none⟩, ⟨tI, none⟩])] h0
noncomputable def aJ : Fi := fiOf Tryz.f107 [.p (.slice (.int .u8)) (.pair tI tI)] [(true, [⟨tR, some (true, false)⟩, ⟨tQ, some (true, false)⟩, ⟨tI, none⟩, ⟨tI, none⟩, ⟨tI, none⟩])] fun | 7 => some [.box 0 500000 [.keep, .keep, .keep], .box 2 200002 [.keep, .keep, .keep, .keep, .keep], .box 3 200003 [.row 300300 (tI) true false, .row 300301 (tS) true true, .keep, .keep, .keep], .keep 4, .keep 5, .keep 6] | _ => none
noncomputable def YP : Fi := fiOf Tryz.f38 [.v (.slice (.int .u8)) false] [(true, [⟨tR, some (true, false)⟩, ⟨tQ, some (true, false)⟩, ⟨tI, none⟩, ⟨tI, none⟩, ⟨tI, none⟩])] h0
noncomputable def jt : Fi := fiOf Tryz.f41 [.v tT true] [(false, [⟨tI, none⟩])] fun | 6 => some [.box 1 200001 [.keep, .keep, .keep, .keep, .keep], .keep 5, .cell 15 (.row 100015 (tC) false false), .keep 16, .keep 17] | _ => none
noncomputable def ZW : Fi := fiOf Tryz.f9 [.v (.slice (.int .u8)) false] [(false, [⟨.bool, none⟩])] fun | 12 => some [.box 3 200003 [.row 300300 (tI) true false, .row 300301 (tS) true false, .keep, .keep, .keep], .box 4 200004 [.keep, .row 300401 (tI) true true, .row 300402 (tI) true false, .keep], .cell 6 (.val (tD)), .keep 7, .keep 8, .cell 61 (.val (tD)), .keep 62, .keep 63] | _ => none
noncomputable def vK : Fi := fiOf Tryz.f119 [.v tR false, .v tR false] [(false, [⟨.bool, none⟩])] fun | 4 => some [.keep 1, .keep 22, .keep 23, .keep 24] | _ => none
noncomputable def Zn : Fi := fiOf Tryz.f49 [.v tT true, .v tC true] [(false, [⟨.bool, none⟩])] h0
noncomputable def wC : Fi := fiOf Tryz.f11 [.v tT true] [(false, [⟨.bool, none⟩])] fun | 16 => some [.box 1 200001 [.keep, .keep, .keep, .keep, .keep], .box 3 200003 [.keep, .row 300301 (tI) true true, .row 300302 (tI) true false, .keep], .cell 7 (.val (tD)), .keep 9, .cell 77 (.val (tD)), .keep 78, .keep 79] | _ => none
noncomputable def fnL : List (Nat × List Nat × Fi) := [(66, [], T9), (67, [], Uw), (18, [], Uv), (70, [], Xl), (175, [], T6), (142, [], T3), (71, [], aj), (20, [], Ut), (88, [], Q7), (154, [], SK), (159, [], Xv), (116, [], cX), (160, [], SE), (161, [], YJ), (117, [], SA), (139, [], gh), (118, [], Wd), (47, [], Zg), (200, [], Wm), (195, [], aZ), (196, [], aT), (197, [], cR), (198, [], aQ), (199, [], aV), (171, [], Q5), (202, [], aO), (203, [], We), (173, [], Z3), (141, [], gf), (220, [], aL), (201, [], cQ), (172, [], bM), (137, [], aI), (94, [], YO), (138, [], aA), (68, [], uU), (174, [], MG), (140, [], Zm), (69, [], Wc), (19, [], gn), (60, [], X7), (97, [], UG), (89, [], Wu), (27, [], Wq), (109, [], RQ), (113, [], bu), (128, [], RN), (114, [], RH), (158, [], eW), (157, [158], zR), (115, [], ZE), (46, [], ZC), (135, [], xR), (111, [], ZD), (204, [], slices_Grow_int_fi), (176, [], xu), (205, [], slices_Reverse_int_fi), (177, [], WO), (179, [], RB), (180, [], V6), (181, [], Rz), (182, [], V8), (178, [], WX), (144, [], V4), (206, [], RE), (207, [], fq), (183, [], TU), (208, [209], slices_SortFunc_int_int_fi), (210, [65], slices_CompactFunc_int_int_fi), (184, [], jr), (145, [], Y9), (75, [], gF), (151, [], strconv_Itoa_fi), (104, [], Xa), (152, [], fP), (166, [], strings_Join_fi), (125, [], Ll), (105, [], b6), (78, [], Po), (64, [], gA), (156, [], jB), (157, [156], zG), (155, [156], ye), (108, [], fv), (124, [], Ln), (110, [], ZI), (65, [], slices_Equal_int_fi), (40, [], ZJ), (73, [], eZ), (76, [73], zD), (72, [73], z8), (143, [], Y4), (76, [143], zL), (72, [143], yi), (74, [], fr), (77, [], eY), (76, [77], zC), (79, [], Y6), (21, [], gK), (90, [], Pq), (136, [], xe), (62, [], Y5), (63, [], slices_Delete_i_Step_fi), (98, [], W4), (91, [], WS), (28, [], W0), (80, [], Xq), (185, [], Sd), (146, [], Sa), (82, [], al), (23, [], Uy), (5, [], wP), (92, [], Ux), (29, [], YB), (96, [], Uu), (31, [], Yz), (147, [], Zh), (148, [], uf), (93, [], cW), (95, [], UH), (30, [], Wo), (43, [], uk), (42, [], br), (17, [], Y8), (32, [], WZ), (81, [], Uz), (22, [], YE), (6, [], wO), (33, [], ub), (34, [], uh), (83, [], cA), (84, [], fB), (24, [], YC), (86, [], cC), (99, [], fC), (35, [], YD), (7, [], xv), (48, [], YS), (101, [], YR), (100, [], fK), (149, [], SF), (102, [], jo), (150, [], ue), (103, [], YN), (36, [], bL), (15, [], Xc), (39, [], Xb), (52, [], uj), (106, [], Y7), (37, [], bX), (8, [], xP), (58, [], Xw), (163, [], UR), (133, [], Wl), (131, [], UQ), (134, [], fI), (61, [], Wb), (162, [], j7), (120, [], Zd), (187, [], UP), (188, [], UN), (153, [], UJ), (107, [], aJ), (38, [], YP), (41, [], jt), (9, [], ZW), (119, [], vK), (49, [], Zn), (11, [], wC)]
noncomputable def E : Env := ⟨lookT tyL, lookF fnL⟩
noncomputable def XR (k : Nat) (x : (List Int) × Int) : Option Int := aFn E T9 k x
noncomputable def T7 (k : Nat) (x : (List dS) × Int) : Option Int := aFn E Uw k x
noncomputable def fZ (k : Nat) (x : dT × Int) : Option Int := aFn E Uv k x
noncomputable def XQ (k : Nat) (x : List Int) : Option (List Int) := aFn E Xl k x
noncomputable def cx (k : Nat) (v0 : List Int) (v4 : Int) (p3 : List Int) : Option (List Int) := zH E k Xl 3 [(0, cw tR v0), (3, co 100003), (4, ci v4)] [(100003, .row tI p3 true false)]
noncomputable def PM (k : Nat) (x : Int × Int) : Option (Int × Int) := aFn E T6 k x
noncomputable def PL (k : Nat) (x : dS) : Option (Int × Int × Int × Int) := aFn E T3 k x
noncomputable def T4 (k : Nat) (x : List dS) : Option (List dS) := aFn E aj k x
noncomputable def gV (k : Nat) (v0 : List dS) (v4 : Int) (p3 : List dS) : Option (List dS) := zH E k aj 3 [(0, cw tQ v0), (3, co 100003), (4, ci v4)] [(100003, .row tS p3 true false)]
noncomputable def yY (k : Nat) (x : dT) : Option ((List Int) × (List dS) × Int × Int × Int) := aFn E Ut k x
noncomputable def yJ (k : Nat) (x : Int × Int × Int) : Option Bool := aFn E Q7 k x
noncomputable def jK (k : Nat) (x : Int) : Option Int := aFn E SK k x
noncomputable def P4 (k : Nat) (x : (List Int) × Int) : Option Bool := aFn E Xv k x
noncomputable def cS (k : Nat) (v1 : Int) (v7 : List Int) (v8 v9 : Int) : Option Bool := zH E k Xv 2 [(1, ci v1), (7, cw tR v7), (8, ci v8), (9, ci v9)] []
noncomputable def uc (k : Nat) (x : List Int) : Option Bool := aFn E cX k x
noncomputable def jJ (k : Nat) (v11 : List Int) (v12 v13 : Int) (p3 : List Int) : Option Bool := zH E k cX 5 [(3, co 100003), (11, cw tR v11), (12, ci v12), (13, ci v13)] [(100003, .row tI p3 true false)]
noncomputable def Nb (k : Nat) (x : Int × Int × Int) : Option Bool := aFn E SE k x
noncomputable def Xu (k : Nat) (x : Int × Int) : Option Bool := aFn E YJ k x
noncomputable def P7 (k : Nat) (x : Int × dS) : Option Bool := aFn E SA k x
noncomputable def vm (k : Nat) (x : (List Int) × Int) : Option Int := aFn E gh k x
noncomputable def xD (k : Nat) (v1 : Int) (v7 : List Int) (v8 v9 : Int) : Option Int := zH E k gh 2 [(1, ci v1), (7, cw tR v7), (8, ci v8), (9, ci v9)] []
noncomputable def VM (k : Nat) (x : dT × Int × Bool) : Option Bool := aFn E Wd k x
noncomputable def xX (k : Nat) (x : dT) : Option Bool := aFn E Zg k x
noncomputable def uY (k : Nat) (v3 : Int) (v4 : Bool) (v25 : List dS) (v26 v27 : Int) (q1_0 : List Int) (q1_1 : List dS) (q1_2 q1_3 q1_4 : Int) : Option Bool := zH E k Zg 6 [(1, .adr 200001 0), (3, ci v3), (4, cw .bool v4), (25, cw tQ v25), (26, ci v26), (27, ci v27)] [(200001, .box [.val tR q1_0, .val tQ q1_1, .val tI q1_2, .val tI q1_3, .val tI q1_4])]
noncomputable def Z5 (k : Nat) (x : Int) : Option Int := aFn E Wm k x
noncomputable def Zb (k : Nat) (x : (List Int) × Int × Bool) : Option (List Int) := aFn E aZ k x
noncomputable def uW (k : Nat) (v0 : List Int) (v1 : Int) (v2 : Bool) (v8 : Int) (p7 : List Int) : Option (List Int) := zH E k aZ 3 [(0, cw tR v0), (1, ci v1), (2, cw .bool v2), (7, co 100007), (8, ci v8)] [(100007, .row tI p7 true false)]
noncomputable def Sw (k : Nat) (x : (List Int) × Int) : Option (List Int) := aFn E aT k x
noncomputable def yI (k : Nat) (v1 : Int) (v5 v6 p7 : List Int) : Option (List Int) := zH E k aT 4 [(1, ci v1), (5, cw tR v5), (6, cw tR v6), (7, co 100007)] [(100007, .row tI p7 true false)]
noncomputable def Q4 (k : Nat) (x : (List Int) × Int) : Option (List Int) := aFn E cR k x
noncomputable def wF (k : Nat) (v1 : Int) (v9 : List Int) (v10 v11 : Int) (p5 : List Int) : Option (List Int) := zH E k cR 3 [(1, ci v1), (5, co 100005), (9, cw tR v9), (10, ci v10), (11, ci v11)] [(100005, .row tI p5 true false)]
noncomputable def Mt (k : Nat) (x : List Int) : Option (List Int) := aFn E aQ k x
noncomputable def fd (k : Nat) (v0 p3 : List Int) : Option (List Int) := zH E k aQ 2 [(0, cw tR v0), (3, co 100003)] [(100003, .row tI p3 true false)]
noncomputable def Mz (k : Nat) (x : (List Int) × Int) : Option (List Int) := aFn E aV k x
noncomputable def uV (k : Nat) (v7 : Int) (p5 p6 : List Int) : Option (List Int) := zH E k aV 4 [(5, co 100005), (6, co 100006), (7, ci v7)] [(100005, .row tI p5 true false), (100006, .row tI p6 true false)]
noncomputable def P3 (k : Nat) (x : (List Int) × Int × Int) : Option (List Int) := aFn E Q5 k x
noncomputable def Wj (k : Nat) (x : List Int) : Option (List (List Int)) := aFn E aO k x
noncomputable def fc (k : Nat) (v0 : List Int) (v7 v8 : Int) (p3 : List (List Int)) : Option (List (List Int)) := zH E k aO 3 [(0, cw tR v0), (3, co 100003), (7, ci v7), (8, ci v8)] [(100003, .row tR p3 true false)]
noncomputable def wE (k : Nat) (x : (List (List Int)) × (List Int) × (List Int) × List Int) : Option (List (List Int)) := aFn E We k x
noncomputable def Kk (k : Nat) (x : (List Int) × Int) : Option (List (List Int)) := aFn E Z3 k x
noncomputable def Z2 (k : Nat) (v0 : List Int) (v6 : Int) (p5 : List (List Int)) : Option (List (List Int)) := zH E k Z3 7 [(0, cw tR v0), (5, co 100005), (6, ci v6)] [(100005, .row tR p5 false false)]
noncomputable def cP (k : Nat) (v0 v40 : List Int) (v41 v42 : Int) (p5 : List (List Int)) : Option (List (List Int)) := zH E k Z3 15 [(0, cw tR v0), (5, co 100005), (40, cw tR v40), (41, ci v41), (42, ci v42)] [(100005, .row tR p5 true false)]
noncomputable def zV (k : Nat) (x : (List Int) × List Int) : Option Bool := aFn E gf k x
noncomputable def wo (k : Nat) (v1 v12 : List Int) (v13 v14 : Int) : Option Bool := zH E k gf 4 [(1, cw tR v1), (12, cw tR v12), (13, ci v13), (14, ci v14)] []
noncomputable def Wi (k : Nat) (x : (List Int) × List Int) : Option Bool := aFn E aL k x
noncomputable def fb (k : Nat) (v0 v1 v7 : List Int) (v8 v9 : Int) : Option Bool := zH E k aL 2 [(0, cw tR v0), (1, cw tR v1), (7, cw tR v7), (8, ci v8), (9, ci v9)] []
noncomputable def Z4 (k : Nat) (x : (List (List Int)) × List (List Int)) : Option (List (List Int)) := aFn E cQ k x
noncomputable def zh (k : Nat) (v0 v1 wa5 : List (List Int)) : Option (List (List Int)) := zH E k cQ 2 [(0, cw tW v0), (1, cw tW v1), (5, co 450005)] [(450005, .row tR wa5 true false)]
noncomputable def vF (k : Nat) (x : List (List Int)) : Option (List (List Int)) := aFn E bM k x
noncomputable def Wa (k : Nat) (x : dC × dS) : Option (List dC) := aFn E aI k x
noncomputable def fa (k : Nat) (v43 v44 : Int) (q2_0 : List Int) (q2_1 : Int) (p5 : List dC) (p42 : List (List Int)) : Option (List dC) := zH E k aI 8 [(2, .adr 200002 0), (5, co 100005), (42, co 100042), (43, ci v43), (44, ci v44)] [(200002, .box [.val tR q2_0, .val tI q2_1]), (100005, .row tC p5 false false), (100042, .row tR p42 false false)]
noncomputable def gc (k : Nat) (x : dC × dC) : Option Bool := aFn E YO k x
noncomputable def Ss (k : Nat) (x : (List dC) × dC) : Option Int := aFn E aA k x
noncomputable def gZ (k : Nat) (v7 : List dC) (v8 v9 : Int) (q3_0 : List Int) (q3_1 : Int) : Option Int := zH E k aA 2 [(3, .adr 200003 0), (7, cw tD v7), (8, ci v8), (9, ci v9)] [(200003, .box [.val tR q3_0, .val tI q3_1])]
noncomputable def X9 (k : Nat) (x : dT) : Option ((List dC) × (List (List Int)) × Bool) := aFn E uU k x
noncomputable def uT (k : Nat) (v25 : List dS) (v26 v27 : Int) (p5 : List dC) (p6 : List (List Int)) : Option ((List dC) × (List (List Int)) × Bool) := zH E k uU 4 [(5, co 100005), (6, co 100006), (25, cw tQ v25), (26, ci v26), (27, ci v27)] [(100005, .row tC p5 false false), (100006, .row tR p6 true false)]
noncomputable def uS (k : Nat) (v25 : List dS) (v26 v27 v34 v35 : Int) (p6 : List (List Int)) (q8_0 q8_1 q8_2 q8_3 : Int) (p9 : List dC) (p10 : List (List Int)) (p33 : List dC) : Option ((List dC) × (List (List Int)) × Bool) := zH E k uU 9 [(6, co 100006), (8, .adr 200008 0), (9, co 100009), (10, co 100010), (25, cw tQ v25), (26, ci v26), (27, ci v27), (33, co 100033), (34, ci v34), (35, ci v35)] [(100006, .row tR p6 false false), (200008, .box [.val tI q8_0, .val tI q8_1, .val tI q8_2, .val tI q8_3]), (100009, .row tC p9 false false), (100010, .row tR p10 true false), (100033, .row tC p33 false false)]
noncomputable def wD (k : Nat) (v11 : Int) (v25 : List dS) (v26 v27 v34 v35 v43 v44 : Int) (p6 : List (List Int)) (q8_0 q8_1 q8_2 q8_3 : Int) (p9 : List dC) (p10 : List (List Int)) (p33 p42 : List dC) : Option ((List dC) × (List (List Int)) × Bool) := zH E k uU 12 [(6, co 100006), (8, .adr 200008 0), (9, co 100009), (10, co 100010), (11, ci v11), (25, cw tQ v25), (26, ci v26), (27, ci v27), (33, co 100033), (34, ci v34), (35, ci v35), (42, co 100042), (43, ci v43), (44, ci v44)] [(100006, .row tR p6 false false), (200008, .box [.val tI q8_0, .val tI q8_1, .val tI q8_2, .val tI q8_3]), (100009, .row tC p9 false false), (100010, .row tR p10 true false), (100033, .row tC p33 false false), (100042, .row tC p42 false false)]
noncomputable def Je (k : Nat) (x : Int) : Option Bool := aFn E MG k x
noncomputable def MJ (k : Nat) (x : List Int) : Option Int := aFn E Zm k x
noncomputable def u5 (k : Nat) (v3 : Int) (v6 : List Int) (v7 v8 : Int) : Option Int := zH E k Zm 3 [(3, ci v3), (6, cw tR v6), (7, ci v7), (8, ci v8)] []
noncomputable def eJ (k : Nat) (x : dT × dC) : Option Bool := aFn E Wc k x
noncomputable def u6 (k : Nat) (x : dT) : Option (Int × (List Int) × (List Int) × Int × Bool) := aFn E gn k x
noncomputable def vL (k : Nat) (v5 : List (List Int)) (v23 v24 : Int) (q1_0 : List Int) (q1_1 : List dS) (q1_2 q1_3 q1_4 q2_0 q2_3 : Int) (p22 : List dC) : Option (Int × (List Int) × (List Int) × Int × Bool) := zH E k gn 7 [(1, .adr 200001 0), (2, .adr 200002 0), (5, cw tW v5), (22, co 100022), (23, ci v23), (24, ci v24)] [(200001, .box [.val tR q1_0, .val tQ q1_1, .val tI q1_2, .val tI q1_3, .val tI q1_4]), (200002, .box [.val tI q2_0, .nil, .nil, .val tI q2_3]), (100022, .row tC p22 false false)]
noncomputable def eH (k : Nat) (x : dT) : Option Bool := aFn E X7 k x
noncomputable def X8 (k : Nat) (x : dT × Int) : Option ((List Int) × (List dS) × Int × Int × Int) := aFn E UG k x
noncomputable def VV (k : Nat) (x : dT × Int) : Option ((List Int) × (List dS) × Int × Int × Int × Bool) := aFn E Wu k x
noncomputable def Z7 (k : Nat) (x : dT × Int) : Option Bool := aFn E Wq k x
noncomputable def vU (k : Nat) (x : Int) : Option Int := aFn E RQ k x
noncomputable def vn (k : Nat) (x : List Int) : Option Bool := aFn E bu k x
noncomputable def jN (k : Nat) (v7 : List Int) (v8 v9 : Int) (s3 : List Bool) : Option Bool := zH E k bu 3 [(3, .adr 400003 0), (7, cw tR v7), (8, ci v8), (9, ci v9)] [(400003, .arr .bool s3)]
noncomputable def Nw (k : Nat) (x : Int × Int × Int) : Option Bool := aFn E RN k x
noncomputable def TV (k : Nat) (x : Int × dS) : Option Bool := aFn E RH k x
noncomputable def fQ (k : Nat) (x : Int × Int) : Option Bool := aFn E eW k x
noncomputable def yP (k : Nat) (x : (List Int) × Int) : Option Int := aFn E zR k x
noncomputable def zy (k : Nat) (v0 : List Int) (v1_0_0 v7 v8 : Int) : Option Int := zH E k zR 2 [(0, cw tR v0), (1, .fn 158 [[.val tI v1_0_0]]), (7, ci v7), (8, ci v8)] []
noncomputable def fu (k : Nat) (x : (List Int) × Int) : Option Int := aFn E ZE k x
noncomputable def wX (k : Nat) (x : dT) : Option Bool := aFn E ZC k x
noncomputable def jf (k : Nat) (v3 : Int) (v4 : Bool) (v25 : List dS) (v26 v27 : Int) (q1_0 : List Int) (q1_1 : List dS) (q1_2 q1_3 q1_4 : Int) : Option Bool := zH E k ZC 6 [(1, .adr 200001 0), (3, ci v3), (4, cw .bool v4), (25, cw tQ v25), (26, ci v26), (27, ci v27)] [(200001, .box [.val tR q1_0, .val tQ q1_1, .val tI q1_2, .val tI q1_3, .val tI q1_4])]
noncomputable def zB (k : Nat) (x : List Int) : Option (List Int) := aFn E xR k x
noncomputable def ft (k : Nat) (x : dT) : Option ((List Int) × Int × Bool) := aFn E ZD k x
noncomputable def jW (k : Nat) (x : (List Int) × Int) : Option (List Int) := aFn E slices_Grow_int_fi k x
noncomputable def yj (k : Nat) (x : List (List Int)) : Option (List Int) := aFn E xu k x
noncomputable def xt (k : Nat) (v0 : List (List Int)) (v3 : Int) (v9 : List (List Int)) (v10 v11 : Int) : Option (List Int) := zH E k xu 3 [(0, cw tW v0), (3, ci v3), (9, cw tW v9), (10, ci v10), (11, ci v11)] []
noncomputable def xk (k : Nat) (v25 : List (List Int)) (v26 v27 : Int) (p6 : List Int) : Option (List Int) := zH E k xu 11 [(6, co 100006), (25, cw tW v25), (26, ci v26), (27, ci v27)] [(100006, .row tI p6 true false)]
noncomputable def vz (k : Nat) (x : List Int) : Option (Unit × List Int) := aFn E slices_Reverse_int_fi k x
noncomputable def eT (k : Nat) (x : List Int) : Option (List Int) := aFn E WO k x
noncomputable def GQ (k : Nat) (x : (List Int) × Int) : Option (List Int) := aFn E RB k x
noncomputable def xH (k : Nat) (v5 v6 : List Int) (v8 : Bool) (p7 : List Int) : Option (List Int) := zH E k RB 4 [(5, cw tR v5), (6, cw tR v6), (7, co 100007), (8, cw .bool v8)] [(100007, .row tI p7 true true)]
noncomputable def GM (k : Nat) (x : (List Int) × Int) : Option (List Int) := aFn E V6 k x
noncomputable def jT (k : Nat) (v1 : Int) (v8 : List Int) (v9 v10 : Int) (p5 : List Int) : Option (List Int) := zH E k V6 3 [(1, ci v1), (5, co 100005), (8, cw tR v8), (9, ci v9), (10, ci v10)] [(100005, .row tI p5 true false)]
noncomputable def EB (k : Nat) (x : List Int) : Option (List Int) := aFn E Rz k x
noncomputable def WR (k : Nat) (v0 p3 : List Int) : Option (List Int) := zH E k Rz 2 [(0, cw tR v0), (3, co 100003)] [(100003, .row tI p3 true false)]
noncomputable def GR (k : Nat) (x : (List Int) × Int) : Option (List Int) := aFn E V8 k x
noncomputable def eV (k : Nat) (v7 : Bool) (p5 p6 : List Int) : Option (List Int) := zH E k V8 4 [(5, co 100005), (6, co 100006), (7, cw .bool v7)] [(100005, .row tI p5 true true), (100006, .row tI p6 true false)]
noncomputable def Yg (k : Nat) (x : Int) : Option Int := aFn E WX k x
noncomputable def Ry (k : Nat) (x : (List Int) × Int × Int) : Option (List Int) := aFn E V4 k x
noncomputable def bj (k : Nat) (v5 v7 : Int) (p6 : List Int) : Option (List Int) := zH E k V4 10 [(5, ci v5), (6, co 100006), (7, ci v7)] [(100006, .row tI p6 true false)]
noncomputable def Jw (k : Nat) (x : List Int) : Option (List (List Int)) := aFn E RE k x
noncomputable def WV (k : Nat) (v0 : List Int) (v6 v7 : Int) (p3 : List (List Int)) : Option (List (List Int)) := zH E k RE 3 [(0, cw tR v0), (3, co 100003), (6, ci v6), (7, ci v7)] [(100003, .row tR p3 true true)]
noncomputable def Rx (k : Nat) (x : (List Int) × Int) : Option (List Int) := aFn E fq k x
noncomputable def fp (k : Nat) (v0 : List Int) (v1 v5 v6 v11 v12 : Int) : Option (List Int) := zH E k fq 3 [(0, cw tR v0), (1, ci v1), (5, ci v5), (6, ci v6), (11, ci v11), (12, ci v12)] []
noncomputable def jc (k : Nat) (v0 : List Int) (v1 v5 v6 v24 v25 : Int) (p8 : List Int) : Option (List Int) := zH E k fq 9 [(0, cw tR v0), (1, ci v1), (5, ci v5), (6, ci v6), (8, co 100008), (24, ci v24), (25, ci v25)] [(100008, .row tI p8 true true)]
noncomputable def EU (k : Nat) (x : (List Int) × Int) : Option ((List (List Int)) × Bool) := aFn E TU k x
noncomputable def TT (k : Nat) (v0 : List Int) (v7 : Int) (p6 : List (List Int)) : Option ((List (List Int)) × Bool) := zH E k TU 9 [(0, cw tR v0), (6, co 100006), (7, ci v7)] [(100006, .row tR p6 true true)]
noncomputable def WW (k : Nat) (v0 : List Int) (v48 v49 : Int) (p8 : List (List Int)) : Option ((List (List Int)) × Bool) := zH E k TU 20 [(0, cw tR v0), (8, co 100008), (48, ci v48), (49, ci v49)] [(100008, .row tR p8 true true)]
noncomputable def xQ (k : Nat) (x : (List (List Int)) × Bool) : Option (Unit × List (List Int)) := aFn E slices_SortFunc_int_int_fi k x
noncomputable def xg (k : Nat) (x : (List (List Int)) × Bool) : Option (List (List Int)) := aFn E slices_CompactFunc_int_int_fi k x
noncomputable def bq (k : Nat) (x : List (List Int)) : Option (List (List Int)) := aFn E jr k x
noncomputable def w9 (k : Nat) (v6 : List (List Int)) (v7 v8 : Int) (p3 : List (List Int)) : Option (List (List Int)) := zH E k jr 3 [(3, co 100003), (6, cw tW v6), (7, ci v7), (8, ci v8)] [(100003, .row tR p3 true true)]
noncomputable def XH (k : Nat) (x : (List Int) × Int) : Option ((List (List Int)) × Bool) := aFn E Y9 k x
noncomputable def xO (k : Nat) (x : dC × dS) : Option (List dC) := aFn E gF k x
noncomputable def va (k : Nat) (v68 v69 : Int) (q2_0 : List Int) (q2_1 : Int) (p5 : List dC) (va67 : List (List Int)) (va67_n : Nat) : Option (List dC) := zH E k gF 11 [(2, .adr 200002 0), (5, co 100005), (67, co 440067), (68, ci v68), (69, ci v69)] [(200002, .box [.val tR q2_0, .val tI q2_1]), (100005, .row tC p5 true true), (440067, .tl tR va67 va67_n)]
noncomputable def strconv_Itoa (k : Nat) (x : Int) : Option ByteArray := aFn E strconv_Itoa_fi k x
noncomputable def vi (k : Nat) (x : Int) : Option ByteArray := aFn E Xa k x
noncomputable def XE (k : Nat) (x : List Int) : Option (List ByteArray) := aFn E fP k x
noncomputable def uI (k : Nat) (v6 : List Int) (v7 v8 : Int) (p3 : List ByteArray) : Option (List ByteArray) := zH E k fP 3 [(3, co 100003), (6, cw tR v6), (7, ci v7), (8, ci v8)] [(100003, .row .str p3 true true)]
noncomputable def strings_Join (k : Nat) (x : (List ByteArray) × ByteArray) : Option ByteArray := aFn E strings_Join_fi k x
noncomputable def Jx (k : Nat) (x : (List ByteArray) × ByteArray) : Option ByteArray := aFn E Ll k x
noncomputable def jP (k : Nat) (x : List Int) : Option ByteArray := aFn E b6 k x
noncomputable def bm (k : Nat) (x : dC) : Option ByteArray := aFn E Po k x
noncomputable def TS (k : Nat) (x : dT) : Option ((List (List dC)) × Bool) := aFn E gA k x
noncomputable def gz (k : Nat) (v25 : List dS) (v26 v27 : Int) (wa6 : List (List dC)) : Option ((List (List dC)) × Bool) := zH E k gA 4 [(6, co 450006), (25, cw tQ v25), (26, ci v26), (27, ci v27)] [(450006, .row tD wa6 true false)]
noncomputable def gy (k : Nat) (v25 : List dS) (v26 v27 v37 v38 : Int) (ta6 : List (List dC)) (ta6_i : Nat) (q8_0 q8_1 q8_2 q8_3 : Int) (ua9 : List ByteArray) (wa10 wa36 : List dC) : Option ((List (List dC)) × Bool) := zH E k gA 9 [(6, co 420006), (8, .adr 200008 0), (9, co 430009), (10, co 450010), (25, cw tQ v25), (26, ci v26), (27, ci v27), (36, co 450036), (37, ci v37), (38, ci v38)] [(420006, .hole tC ta6 ta6_i (.own 450036)), (200008, .box [.val tI q8_0, .val tI q8_1, .val tI q8_2, .val tI q8_3]), (430009, .mp ua9), (450010, .row tC wa10 true true), (450036, .row tC wa36 true false)]
noncomputable def jd (k : Nat) (v25 : List dS) (v26 v27 v37 v38 v45 v46 : Int) (ta6 : List (List dC)) (ta6_i : Nat) (q8_0 q8_1 q8_2 q8_3 : Int) (ua9 : List ByteArray) (wa10 wa36 va44 : List dC) (va44_n : Nat) : Option ((List (List dC)) × Bool) := zH E k gA 12 [(6, co 420006), (8, .adr 200008 0), (9, co 430009), (10, co 450010), (25, cw tQ v25), (26, ci v26), (27, ci v27), (36, co 450036), (37, ci v37), (38, ci v38), (44, co 440044), (45, ci v45), (46, ci v46)] [(420006, .hole tC ta6 ta6_i (.own 450036)), (200008, .box [.val tI q8_0, .val tI q8_1, .val tI q8_2, .val tI q8_3]), (430009, .mp ua9), (450010, .row tC wa10 true true), (450036, .row tC wa36 true false), (440044, .tl tC va44 va44_n)]
noncomputable def ui (k : Nat) (x : Int × List Int) : Option Bool := aFn E jB k x
noncomputable def yD (k : Nat) (x : (List Int) × List Int) : Option Int := aFn E zG k x
noncomputable def zu (k : Nat) (v0 v1_0_0 : List Int) (v7 v8 : Int) : Option Int := zH E k zG 2 [(0, cw tR v0), (1, .fn 156 [[.val tR v1_0_0]]), (7, ci v7), (8, ci v8)] []
noncomputable def yp (k : Nat) (x : (List Int) × List Int) : Option Bool := aFn E ye k x
noncomputable def gG (k : Nat) (x : (List Int) × List Int) : Option Bool := aFn E fv k x
noncomputable def Jy (k : Nat) (x : Int) : Option Bool := aFn E Ln k x
noncomputable def Lt (k : Nat) (x : List Int) : Option Int := aFn E ZI k x
noncomputable def jg (k : Nat) (v3 : Int) (v6 : List Int) (v7 v8 : Int) : Option Int := zH E k ZI 3 [(3, ci v3), (6, cw tR v6), (7, ci v7), (8, ci v8)] []
noncomputable def yA (k : Nat) (x : (List Int) × List Int) : Option Bool := aFn E slices_Equal_int_fi k x
noncomputable def zJ (k : Nat) (v0 v1 : List Int) (v12 v13 : Int) : Option Bool := zH E k slices_Equal_int_fi 4 [(0, cw tR v0), (1, cw tR v1), (12, ci v12), (13, ci v13)] []
noncomputable def yN (k : Nat) (x : dT × dC) : Option Bool := aFn E ZJ k x
noncomputable def fU (k : Nat) (x : dC × dT) : Option Bool := aFn E eZ k x
noncomputable def yz (k : Nat) (x : (List dC) × dT) : Option Int := aFn E zD k x
noncomputable def zt (k : Nat) (v0 : List dC) (v1_0_0 : List Int) (v1_0_1 : List dS) (v1_0_2 v1_0_3 v1_0_4 v7 v8 : Int) : Option Int := zH E k zD 2 [(0, cw tD v0), (1, .fn 73 [[.val tR v1_0_0, .val tQ v1_0_1, .val tI v1_0_2, .val tI v1_0_3, .val tI v1_0_4]]), (7, ci v7), (8, ci v8)] []
noncomputable def zF (k : Nat) (x : (List dC) × dT) : Option Bool := aFn E z8 k x
noncomputable def XF (k : Nat) (x : dC × (List (Option (List ByteArray))) × Int) : Option Bool := aFn E Y4 k x
noncomputable def yH (k : Nat) (x : (List dC) × (List (Option (List ByteArray))) × Int) : Option Int := aFn E zL k x
noncomputable def zx (k : Nat) (v0 : List dC) (v1_0_0 : List (Option (List ByteArray))) (v1_1_0 v7 v8 : Int) : Option Int := zH E k zL 2 [(0, cw tD v0), (1, .fn 143 [[.val (.slice .set) v1_0_0], [.val tI v1_1_0]]), (7, ci v7), (8, ci v8)] []
noncomputable def zN (k : Nat) (x : (List dC) × (List (Option (List ByteArray))) × Int) : Option Bool := aFn E yi k x
noncomputable def RD (k : Nat) (x : dT × List (List dC)) : Option (List (Option (List ByteArray))) := aFn E fr k x
noncomputable def je (k : Nat) (v1 : List (List dC)) (q2_0 : List Int) (q2_1 : List dS) (q2_2 q2_3 q2_4 : Int) (r500 : List (Option (List ByteArray))) (q6_0 : Int) : Option (List (Option (List ByteArray))) := zH E k fr 3 [(1, cw (.slice tD) v1), (2, .adr 200002 0), (5, .adr 200005 0), (6, .adr 200006 0)] [(200002, .box [.val tR q2_0, .val tQ q2_1, .val tI q2_2, .val tI q2_3, .val tI q2_4]), (200005, .box [.own 300500]), (300500, .row .set r500 true false), (200006, .box [.val tI q6_0])]
noncomputable def xn (k : Nat) (v1 : List (List dC)) (v27 : List dC) (v28 v29 : Int) (q2_0 : List Int) (q2_1 : List dS) (q2_2 q2_3 q2_4 : Int) (r500 : List (Option (List ByteArray))) (q6_0 : Int) : Option (List (Option (List ByteArray))) := zH E k fr 7 [(1, cw (.slice tD) v1), (2, .adr 200002 0), (5, .adr 200005 0), (6, .adr 200006 0), (27, cw tD v27), (28, ci v28), (29, ci v29)] [(200002, .box [.val tR q2_0, .val tQ q2_1, .val tI q2_2, .val tI q2_3, .val tI q2_4]), (200005, .box [.own 300500]), (300500, .row .set r500 true false), (200006, .box [.val tI q6_0])]
noncomputable def fT (k : Nat) (x : dC × (List (Option (List ByteArray))) × Int) : Option Bool := aFn E eY k x
noncomputable def zM (k : Nat) (x : (List dC) × (List (Option (List ByteArray))) × Int) : Option Int := aFn E zC k x
noncomputable def zq (k : Nat) (v0 : List dC) (v1_0_0 : List (Option (List ByteArray))) (v1_1_0 v7 v8 : Int) : Option Int := zH E k zC 2 [(0, cw tD v0), (1, .fn 77 [[.val (.slice .set) v1_0_0], [.val tI v1_1_0]]), (7, ci v7), (8, ci v8)] []
noncomputable def RF (k : Nat) (x : dC) : Option ((List Int) × Int) := aFn E Y6 k x
noncomputable def wy (k : Nat) (x : dT) : Option (Int × (List Int) × (List Int) × Int × Bool) := aFn E gK k x
noncomputable def x4 (k : Nat) (v45 : List dS) (v46 v47 q2_0 q2_3 : Int) (q6_0 : List Int) (q6_1 : Int) (r700 : List (Option (List ByteArray))) (q8_0 q8_3 : Int) (r801 : List Int) : Option (Int × (List Int) × (List Int) × Int × Bool) := zH E k gK 12 [(2, .adr 200002 0), (6, .adr 200006 0), (7, .adr 200007 0), (8, .adr 200008 0), (45, cw tQ v45), (46, ci v46), (47, ci v47)] [(200002, .box [.val tI q2_0, .nil, .nil, .val tI q2_3]), (200006, .box [.val tR q6_0, .val tI q6_1]), (200007, .box [.own 300700]), (300700, .row .set r700 true false), (200008, .box [.val tI q8_0, .own 300801, .nil, .val tI q8_3]), (300801, .row tI r801 true true)]
noncomputable def RA (k : Nat) (x : dT) : Option Bool := aFn E Pq k x
noncomputable def vf (k : Nat) (x : List dS) : Option (List dS) := aFn E xe k x
noncomputable def bo (k : Nat) (x : dT) : Option ((List Int) × (List dS) × Int × Int × Int) := aFn E Y5 k x
noncomputable def wQ (k : Nat) (x : (List dS) × Int × Int) : Option (List dS) := aFn E slices_Delete_i_Step_fi k x
noncomputable def Yh (k : Nat) (x : dT × Int) : Option ((List Int) × (List dS) × Int × Int × Int × Bool) := aFn E W4 k x
noncomputable def Yf (k : Nat) (x : dT × Int) : Option Bool := aFn E WS k x
noncomputable def Uc (k : Nat) (x : dT × Int) : Option Bool := aFn E W0 k x
noncomputable def XS (k : Nat) (x : (List Int) × List Int) : Option Bool := aFn E Xq k x
noncomputable def cD (k : Nat) (v0 v1 : List Int) (v5 : Int) : Option Bool := zH E k Xq 4 [(0, cw tR v0), (1, cw tR v1), (5, ci v5)] []
noncomputable def PQ (k : Nat) (x : (Int × Int) × Int × Int) : Option Bool := aFn E Sd k x
noncomputable def PP (k : Nat) (x : dS × dS) : Option Bool := aFn E Sa k x
noncomputable def Sb (k : Nat) (x : (List dS) × List dS) : Option Bool := aFn E al k x
noncomputable def gW (k : Nat) (v0 v1 : List dS) (v5 : Int) : Option Bool := zH E k al 4 [(0, cw tQ v0), (1, cw tQ v1), (5, ci v5)] []
noncomputable def vt (k : Nat) (x : dT × dT) : Option Bool := aFn E Uy k x
noncomputable def eD (k : Nat) (x : dT × Int) : Option Bool := aFn E wP k x
noncomputable def T8 (k : Nat) (x : dC × Int) : Option Int := aFn E Ux k x
noncomputable def Xm (k : Nat) (x : (Int × (List Int) × dC) × Int) : Option Int := aFn E YB k x
noncomputable def T5 (k : Nat) (x : dC) : Option ((List Int) × Int) := aFn E Uu k x
noncomputable def jV (k : Nat) (x : Int × (List Int) × dC) : Option (Int × (List Int) × (List Int) × Int) := aFn E Yz k x
noncomputable def Zi (k : Nat) (x : dT) : Option ((List Int) × Int × Bool) := aFn E Zh k x
noncomputable def fL (k : Nat) (x : dT) : Option Int := aFn E uf k x
noncomputable def xF (k : Nat) (v3 : Int) (v10 : List dS) (v11 v12 : Int) : Option Int := zH E k uf 5 [(3, ci v3), (10, cw tQ v10), (11, ci v11), (12, ci v12)] []
noncomputable def VP (k : Nat) (x : dT × List Int) : Option ((List Int) × Int × Bool) := aFn E cW k x
noncomputable def vG (k : Nat) (v1 : List Int) (v8 : Int) (v29 : List dS) (v30 v31 q4_1 : Int) (q6_0 : List Int) (q6_1 : Int) : Option ((List Int) × Int × Bool) := zH E k cW 6 [(1, cw tR v1), (4, .adr 200004 0), (6, .adr 200006 0), (8, ci v8), (29, cw tQ v29), (30, ci v30), (31, ci v31)] [(200004, .box [.nil, .val tI q4_1]), (200006, .box [.val tR q6_0, .val tI q6_1])]
noncomputable def Sr (k : Nat) (x : (Int × (List Int) × dC) × Int × (List Int) × dC) : Option Bool := aFn E UH k x
noncomputable def Z6 (k : Nat) (x : dT × Int × (List Int) × dC) : Option Bool := aFn E Wo k x
noncomputable def fS (k : Nat) (x : dT) : Option Int := aFn E uk k x
noncomputable def xK (k : Nat) (v3 : Int) (v10 : List dS) (v11 v12 : Int) : Option Int := zH E k uk 5 [(3, ci v3), (10, cw tQ v10), (11, ci v11), (12, ci v12)] []
noncomputable def jU (k : Nat) (x : dT × List Int) : Option ((List Int) × Int × Bool) := aFn E br k x
noncomputable def vS (k : Nat) (v1 : List Int) (v28 : List dS) (v29 v30 q4_1 q6_1 : Int) (r600 : List Int) : Option ((List Int) × Int × Bool) := zH E k br 5 [(1, cw tR v1), (4, .adr 200004 0), (6, .adr 200006 0), (28, cw tQ v28), (29, ci v29), (30, ci v30)] [(200004, .box [.nil, .val tI q4_1]), (200006, .box [.own 300600, .val tI q6_1]), (300600, .row tI r600 true false)]
noncomputable def vh (k : Nat) (x : dC × dC) : Option Bool := aFn E Y8 k x
noncomputable def eX (k : Nat) (x : dT × Int × (List Int) × dC) : Option Bool := aFn E WZ k x
noncomputable def Sc (k : Nat) (x : dC × dC) : Option Bool := aFn E Uz k x
noncomputable def Xp (k : Nat) (x : (Int × (List Int) × dC) × Int × (List Int) × dC) : Option Bool := aFn E YE k x
noncomputable def eC (k : Nat) (x : dT × Int × (List Int) × dC) : Option Bool := aFn E wO k x
noncomputable def fH (k : Nat) (x : dT) : Option ((List Int) × (List dS) × Int × Int × Int × Bool) := aFn E ub k x
noncomputable def xC (k : Nat) (v5 q2_2 q2_3 q2_4 q4_2 q4_3 q4_4 : Int) (r400 : List Int) (r401 : List dS) : Option ((List Int) × (List dS) × Int × Int × Int × Bool) := zH E k ub 5 [(2, .adr 200002 0), (4, .adr 200004 0), (5, ci v5)] [(200002, .box [.nil, .nil, .val tI q2_2, .val tI q2_3, .val tI q2_4]), (200004, .box [.own 300400, .own 300401, .val tI q4_2, .val tI q4_3, .val tI q4_4]), (300400, .row tI r400 true false), (300401, .row tS r401 true false)]
noncomputable def uJ (k : Nat) (x : dT) : Option ((List Int) × (List dS) × Int × Int × Int × Bool) := aFn E uh k x
noncomputable def xI (k : Nat) (v5 q2_2 q2_3 q2_4 q4_2 q4_3 q4_4 : Int) (r400 : List Int) (r401 : List dS) : Option ((List Int) × (List dS) × Int × Int × Int × Bool) := zH E k uh 5 [(2, .adr 200002 0), (4, .adr 200004 0), (5, ci v5)] [(200002, .box [.nil, .nil, .val tI q2_2, .val tI q2_3, .val tI q2_4]), (200004, .box [.own 300400, .own 300401, .val tI q4_2, .val tI q4_3, .val tI q4_4]), (300400, .row tI r400 true false), (300401, .row tS r401 false false)]
noncomputable def VC (k : Nat) (x : (List Int) × Int) : Option (Int × List Int) := aFn E cA k x
noncomputable def jF (k : Nat) (v1 v5 : Int) (z : List Int) : Option (Int × List Int) := zH E k cA 2 [(0, co 500000), (1, ci v1), (5, ci v5)] [(500000, .row tI z true false)]
noncomputable def Xn (k : Nat) (x : (List dS) × Int) : Option (Int × List dS) := aFn E fB k x
noncomputable def uw (k : Nat) (v1 v5 : Int) (z : List dS) : Option (Int × List dS) := zH E k fB 2 [(0, co 500000), (1, ci v1), (5, ci v5)] [(500000, .row tS z true false)]
noncomputable def cz (k : Nat) (x : dT × Int) : Option (Int × (List Int) × List dS) := aFn E YC k x
noncomputable def VD (k : Nat) (x : (List Int) × Int) : Option Int := aFn E cC k x
noncomputable def jG (k : Nat) (v0 : List Int) (v1 v5 : Int) : Option Int := zH E k cC 2 [(0, cw tR v0), (1, ci v1), (5, ci v5)] []
noncomputable def Xo (k : Nat) (x : (List dS) × Int) : Option Int := aFn E fC k x
noncomputable def ux (k : Nat) (v0 : List dS) (v1 v5 : Int) : Option Int := zH E k fC 2 [(0, cw tQ v0), (1, ci v1), (5, ci v5)] []
noncomputable def cB (k : Nat) (x : dT × Int) : Option Int := aFn E YD k x
noncomputable def uN (k : Nat) (x : dT) : Option Bool := aFn E xv k x
noncomputable def cZ (k : Nat) (x : dT) : Option ((List dC) × Bool) := aFn E YS k x
noncomputable def Xz (k : Nat) (x : dT) : Option Int := aFn E YR k x
noncomputable def wq (k : Nat) (x : Int) : Option ByteArray := aFn E fK k x
noncomputable def uA (k : Nat) (v0 : Int) (v3 : ByteArray) : Option ByteArray := zH E k fK 6 [(0, ci v0), (3, cw .str v3)] []
noncomputable def Jd (k : Nat) (x : (List ByteArray) × ByteArray) : Option ByteArray := aFn E SF k x
noncomputable def Zk (k : Nat) (v1 v5 : ByteArray) (v8 : List ByteArray) (v9 v10 : Int) : Option ByteArray := zH E k SF 3 [(1, cw .str v1), (5, cw .str v5), (8, cw (.slice .str) v8), (9, ci v9), (10, ci v10)] []
noncomputable def cY (k : Nat) (x : List Int) : Option ByteArray := aFn E jo k x
noncomputable def w8 (k : Nat) (v7 : List Int) (v8 v9 : Int) (p3 : List ByteArray) : Option ByteArray := zH E k jo 3 [(3, co 100003), (7, cw tR v7), (8, ci v8), (9, ci v9)] [(100003, .row .str p3 true false)]
noncomputable def fJ (k : Nat) (x : List Int) : Option ByteArray := aFn E ue k x
noncomputable def xE (k : Nat) (v11 : List Int) (v12 v13 : Int) (p3 : List ByteArray) : Option ByteArray := zH E k ue 5 [(3, co 100003), (11, cw tR v11), (12, ci v12), (13, ci v13)] [(100003, .row .str p3 true false)]
noncomputable def Xx (k : Nat) (x : dC) : Option ByteArray := aFn E YN k x
noncomputable def cV (k : Nat) (x : dT) : Option ByteArray := aFn E bL k x
noncomputable def ul (k : Nat) (x : dT) : Option ((List dC) × Bool) := aFn E Xc k x
noncomputable def ww (k : Nat) (x : dT) : Option Int := aFn E Xb k x
noncomputable def fR (k : Nat) (x : List Int) : Option ByteArray := aFn E uj k x
noncomputable def xJ (k : Nat) (v13 : List Int) (v14 v15 : Int) (p3 : List ByteArray) : Option ByteArray := zH E k uj 7 [(3, co 100003), (13, cw tR v13), (14, ci v14), (15, ci v15)] [(100003, .row .str p3 true true)]
noncomputable def XG (k : Nat) (x : dC) : Option ByteArray := aFn E Y7 k x
noncomputable def bp (k : Nat) (x : dT) : Option ByteArray := aFn E bX k x
noncomputable def ju (k : Nat) (x : dT) : Option Bool := aFn E xP k x
noncomputable def P5 (k : Nat) (x : List Int) : Option ((List Int) × Int × Int) := aFn E Xw k x
noncomputable def cT (k : Nat) (v0 : List Int) (v3 v4 : Int) : Option ((List Int) × Int × Int) := zH E k Xw 3 [(0, cw (.slice (.int .u8)) v0), (3, ci v3), (4, ci v4)] []
noncomputable def j9 (k : Nat) (x : (List Int) × Int × Int) : Option (Int × (List Int) × Int × Int) := aFn E UR k x
noncomputable def zm (k : Nat) (x : ((List Int) × Int × Int) × Int) : Option (Int × (List Int) × Int × Int) := aFn E Wl k x
noncomputable def Ze (k : Nat) (x : ((List Int) × Int × Int) × Int) : Option (Bool × (List Int) × Int × Int) := aFn E UQ k x
noncomputable def ud (k : Nat) (x : Int) : Option (List Int) := aFn E fI k x
noncomputable def uz (k : Nat) (v0 v4 : Int) (p3 : List Int) : Option (List Int) := zH E k fI 5 [(0, ci v0), (3, co 100003), (4, ci v4)] [(100003, .row tI p3 true false)]
noncomputable def VL (k : Nat) (x : (List Int) × Int × Int) : Option (((List Int) × (List dS) × Int × Int × Int) × (List Int) × Int × Int) := aFn E Wb k x
noncomputable def Zc (k : Nat) (x : ((List Int) × Int × Int) × Int) : Option ((List Int) × (List Int) × Int × Int) := aFn E j7 k x
noncomputable def vE (k : Nat) (v1 v6 : Int) (p5 z_0 : List Int) (z_1 z_2 : Int) : Option ((List Int) × (List Int) × Int × Int) := zH E k j7 3 [(0, .adr 500000 0), (1, ci v1), (5, co 100005), (6, ci v6)] [(100005, .row tI p5 true false), (500000, .box [.val (.slice (.int .u8)) z_0, .val tI z_1, .val tI z_2])]
noncomputable def Sz (k : Nat) (x : ((List Int) × Int × Int) × Int) : Option ((List Int) × (List Int) × Int × Int) := aFn E Zd k x
noncomputable def uX (k : Nat) (v16 v17 : Int) (p5 z_0 : List Int) (z_1 z_2 : Int) : Option ((List Int) × (List Int) × Int × Int) := zH E k Zd 4 [(0, .adr 500000 0), (5, co 100005), (16, ci v16), (17, ci v17)] [(100005, .row tI p5 true false), (500000, .box [.val (.slice (.int .u8)) z_0, .val tI z_1, .val tI z_2])]
noncomputable def Wk (k : Nat) (x : ((List Int) × Int × Int) × List Int) : Option (Int × (List Int) × Int × Int) := aFn E UP k x
noncomputable def aW (k : Nat) (x : ((List Int) × Int × Int) × Int) : Option ((Int × Int) × (List Int) × Int × Int) := aFn E UN k x
noncomputable def eI (k : Nat) (x : ((List Int) × Int × Int) × Int) : Option ((Int × Int × Int × Int) × (List Int) × Int × Int) := aFn E UJ k x
noncomputable def Su (k : Nat) (x : (List Int) × Int × Int) : Option (((List Int) × (List dS) × Int × Int × Int) × (List Int) × Int × Int) := aFn E aJ k x
noncomputable def wn (k : Nat) (v4 : Int) (v5 : Bool) (v6 q2_2 q2_3 q2_4 q3_2 q3_3 q3_4 : Int) (r300 : List Int) (r301 : List dS) (z_0 : List Int) (z_1 z_2 : Int) : Option (((List Int) × (List dS) × Int × Int × Int) × (List Int) × Int × Int) := zH E k aJ 7 [(0, .adr 500000 0), (2, .adr 200002 0), (3, .adr 200003 0), (4, ci v4), (5, cw .bool v5), (6, ci v6)] [(200002, .box [.nil, .nil, .val tI q2_2, .val tI q2_3, .val tI q2_4]), (200003, .box [.own 300300, .own 300301, .val tI q3_2, .val tI q3_3, .val tI q3_4]), (300300, .row tI r300 true false), (300301, .row tS r301 true true), (500000, .box [.val (.slice (.int .u8)) z_0, .val tI z_1, .val tI z_2])]
noncomputable def Xy (k : Nat) (x : List Int) : Option ((List Int) × (List dS) × Int × Int × Int) := aFn E YP k x
noncomputable def jO (k : Nat) (x : dT) : Option Int := aFn E jt k x
noncomputable def xZ (k : Nat) (v5 v16 v17 : Int) (q1_0 : List Int) (q1_1 : List dS) (q1_2 q1_3 q1_4 : Int) (p15 : List dC) : Option Int := zH E k jt 6 [(1, .adr 200001 0), (5, ci v5), (15, co 100015), (16, ci v16), (17, ci v17)] [(200001, .box [.val tR q1_0, .val tQ q1_1, .val tI q1_2, .val tI q1_3, .val tI q1_4]), (100015, .row tC p15 false false)]
noncomputable def H8 (k : Nat) (x : List Int) : Option Bool := aFn E ZW k x
noncomputable def vc (k : Nat) (v6 : List dC) (v7 : Bool) (v8 : Int) (v61 : List dC) (v62 v63 q3_2 q3_3 q3_4 : Int) (r300 : List Int) (r301 : List dS) (q4_0 q4_3 : Int) (r401 r402 : List Int) : Option Bool := zH E k ZW 12 [(3, .adr 200003 0), (4, .adr 200004 0), (6, cw tD v6), (7, cw .bool v7), (8, ci v8), (61, cw tD v61), (62, ci v62), (63, ci v63)] [(200003, .box [.own 300300, .own 300301, .val tI q3_2, .val tI q3_3, .val tI q3_4]), (300300, .row tI r300 true false), (300301, .row tS r301 true false), (200004, .box [.val tI q4_0, .own 300401, .own 300402, .val tI q4_3]), (300401, .row tI r401 true true), (300402, .row tI r402 true false)]
noncomputable def gj (k : Nat) (x : (List Int) × List Int) : Option Bool := aFn E vK k x
noncomputable def wj (k : Nat) (v1 v22 : List Int) (v23 v24 : Int) : Option Bool := zH E k vK 4 [(1, cw tR v1), (22, cw tR v22), (23, ci v23), (24, ci v24)] []
noncomputable def fj (k : Nat) (x : dT × dC) : Option Bool := aFn E Zn k x
noncomputable def YH (k : Nat) (x : dT) : Option Bool := aFn E wC k x
noncomputable def xi (k : Nat) (v7 : List dC) (v9 : Int) (v77 : List dC) (v78 v79 : Int) (q1_0 : List Int) (q1_1 : List dS) (q1_2 q1_3 q1_4 q3_0 q3_3 : Int) (r301 r302 : List Int) : Option Bool := zH E k wC 16 [(1, .adr 200001 0), (3, .adr 200003 0), (7, cw tD v7), (9, ci v9), (77, cw tD v77), (78, ci v78), (79, ci v79)] [(200001, .box [.val tR q1_0, .val tQ q1_1, .val tI q1_2, .val tI q1_3, .val tI q1_4]), (200003, .box [.val tI q3_0, .own 300301, .own 300302, .val tI q3_3]), (300301, .row tI r301 true true), (300302, .row tI r302 true false)]
abbrev gw : Gw := ⟨fun w => Go.Lib.TabIs Tryz.prog w "internal/strconv.uint64pow10" .u64 Go.Lib.pow10Tab, false⟩
theorem ty_3 : TyOk Tryz.prog 3 (.one (tI)) := PS (by kernel_rfl) (by kernel_rfl) (by kernel_rfl)
theorem ty_4 : TyOk Tryz.prog 4 (.one (.bool)) := Ga (by kernel_rfl) (by kernel_rfl) (by kernel_rfl)
theorem ty_5 : TyOk Tryz.prog 5 (.one (.int .u8)) := PS (by kernel_rfl) (by kernel_rfl) (by kernel_rfl)
theorem ty_9 : TyOk Tryz.prog 9 (.one (.str)) := FC (by kernel_rfl) (by kernel_rfl) (by kernel_rfl)
theorem DG : TyOk Tryz.prog 22 (.one (.slice (.int .u8))) := x7 (e := 5) (by kernel_rfl) (by kernel_rfl) (by kernel_rfl) (wz (by kernel_rfl) (by kernel_rfl) (by kernel_rfl))
theorem EF : TyOk Tryz.prog 23 (.one (tR)) := x7 (e := 3) (by kernel_rfl) (by kernel_rfl) (by kernel_rfl) (wz (by kernel_rfl) (by kernel_rfl) (by kernel_rfl))
theorem DF : TyOk Tryz.prog 24 (.one (tQ)) := x7 (e := 40) (by kernel_rfl) (by kernel_rfl) (by kernel_rfl) (wz (by kernel_rfl) (by kernel_rfl) (by kernel_rfl))
theorem DE : TyOk Tryz.prog 26 (.struct [(0, 23), (1, 24), (2, 3), (3, 3), (4, 3)] [tR, tQ, tI, tI, tI] false) := yZ (fields := Tryz.prog.fieldsOf 26) (by kernel_rfl) (by kernel_rfl) (by kernel_rfl) (by kernel_rfl) (by kernel_rfl) (by kernel_rfl) (fun e => by cases e)
theorem DD : TyOk Tryz.prog 30 (.one (tD)) := x7 (e := 35) (by kernel_rfl) (by kernel_rfl) (by kernel_rfl) (wz (by kernel_rfl) (by kernel_rfl) (by kernel_rfl))
theorem DC : TyOk Tryz.prog 35 (.struct [(0, 23), (1, 3)] [tR, tI] false) := yZ (fields := Tryz.prog.fieldsOf 35) (by kernel_rfl) (by kernel_rfl) (by kernel_rfl) (by kernel_rfl) (by kernel_rfl) (by kernel_rfl) (fun e => by cases e)
theorem DB : TyOk Tryz.prog 38 (.struct [(0, 3), (1, 3)] [tI, tI] true) := yZ (fields := Tryz.prog.fieldsOf 38) (by kernel_rfl) (by kernel_rfl) (by kernel_rfl) (by kernel_rfl) (by kernel_rfl) (by kernel_rfl) (fun _ => cI (d := 20) (fields := Tryz.prog.fieldsOf 38) (by kernel_rfl) (by kernel_rfl) (by decide) (by kernel_rfl))
theorem DA : TyOk Tryz.prog 40 (.struct [(0, 3), (1, 38), (3, 3)] [tI, tI, tI, tI] true) := yZ (fields := Tryz.prog.fieldsOf 40) (by kernel_rfl) (by kernel_rfl) (by kernel_rfl) (by kernel_rfl) (by kernel_rfl) (by kernel_rfl) (fun _ => cI (d := 20) (fields := Tryz.prog.fieldsOf 40) (by kernel_rfl) (by kernel_rfl) (by decide) (by kernel_rfl))
theorem Dz : TyOk Tryz.prog 42 (.one (tQ)) := x7 (e := 141) (by kernel_rfl) (by kernel_rfl) (by kernel_rfl) (wz (by kernel_rfl) (by kernel_rfl) (by kernel_rfl))
theorem Dy : TyOk Tryz.prog 44 (.struct [(0, 23), (1, 42), (2, 3), (3, 3), (4, 3)] [tR, tQ, tI, tI, tI] false) := yZ (fields := Tryz.prog.fieldsOf 44) (by kernel_rfl) (by kernel_rfl) (by kernel_rfl) (by kernel_rfl) (by kernel_rfl) (by kernel_rfl) (fun e => by cases e)
theorem Dx : TyOk Tryz.prog 47 (.struct [(0, 3), (1, 23), (2, 35)] [tI, tR, tR, tI] false) := yZ (fields := Tryz.prog.fieldsOf 47) (by kernel_rfl) (by kernel_rfl) (by kernel_rfl) (by kernel_rfl) (by kernel_rfl) (by kernel_rfl) (fun e => by cases e)
theorem Dw : TyOk Tryz.prog 58 (.struct [(0, 23), (1, 3)] [tR, tI] false) := yZ (fields := Tryz.prog.fieldsOf 58) (by kernel_rfl) (by kernel_rfl) (by kernel_rfl) (by kernel_rfl) (by kernel_rfl) (by kernel_rfl) (fun e => by cases e)
theorem Dv : TyOk Tryz.prog 60 (.struct [(0, 3), (1, 23), (2, 58)] [tI, tR, tR, tI] false) := yZ (fields := Tryz.prog.fieldsOf 60) (by kernel_rfl) (by kernel_rfl) (by kernel_rfl) (by kernel_rfl) (by kernel_rfl) (by kernel_rfl) (fun e => by cases e)
theorem Du : TyOk Tryz.prog 81 (.one (.slice .str)) := x7 (e := 9) (by kernel_rfl) (by kernel_rfl) (by kernel_rfl) (wz (by kernel_rfl) (by kernel_rfl) (by kernel_rfl))
theorem Dt : TyOk Tryz.prog 88 (.one (.slice tD)) := x7 (e := 30) (by kernel_rfl) (by kernel_rfl) (by kernel_rfl) (wz (by kernel_rfl) (by kernel_rfl) (by kernel_rfl))
theorem Ds : TyOk Tryz.prog 93 (.one (tW)) := x7 (e := 23) (by kernel_rfl) (by kernel_rfl) (by kernel_rfl) (wz (by kernel_rfl) (by kernel_rfl) (by kernel_rfl))
theorem Dh : TyOk Tryz.prog 100 (.one (.slice .set)) := x7 (e := 104) (by kernel_rfl) (by kernel_rfl) (by kernel_rfl) (wz (by kernel_rfl) (by kernel_rfl) (by kernel_rfl))
theorem Dg : TyOk Tryz.prog 104 (.one (.set)) := FD (kt := 9) (et := 4) (by kernel_rfl) (by kernel_rfl) (by kernel_rfl) (by kernel_rfl) (by kernel_rfl)
theorem Df : TyOk Tryz.prog 132 (.struct [(0, 22), (1, 3), (2, 3)] [.slice (.int .u8), tI, tI] false) := yZ (fields := Tryz.prog.fieldsOf 132) (by kernel_rfl) (by kernel_rfl) (by kernel_rfl) (by kernel_rfl) (by kernel_rfl) (by kernel_rfl) (fun e => by cases e)
theorem De : TyOk Tryz.prog 139 (.struct [(0, 3), (1, 3)] [tI, tI] true) := yZ (fields := Tryz.prog.fieldsOf 139) (by kernel_rfl) (by kernel_rfl) (by kernel_rfl) (by kernel_rfl) (by kernel_rfl) (by kernel_rfl) (fun _ => cI (d := 20) (fields := Tryz.prog.fieldsOf 139) (by kernel_rfl) (by kernel_rfl) (by decide) (by kernel_rfl))
theorem Dd : TyOk Tryz.prog 141 (.struct [(0, 3), (1, 139), (3, 3)] [tI, tI, tI, tI] true) := yZ (fields := Tryz.prog.fieldsOf 141) (by kernel_rfl) (by kernel_rfl) (by kernel_rfl) (by kernel_rfl) (by kernel_rfl) (by kernel_rfl) (fun _ => cI (d := 20) (fields := Tryz.prog.fieldsOf 141) (by kernel_rfl) (by kernel_rfl) (by decide) (by kernel_rfl))
theorem Dc : TyOk Tryz.prog 149 (.arr 12 (.bool)) := FE (e := 4) (by kernel_rfl) (wz (by kernel_rfl) (by kernel_rfl) (by kernel_rfl)) (by kernel_rfl) (by kernel_rfl)
theorem J0 : TyOk Tryz.prog 1000022 (.bytes) := J1 (e := 5) (by kernel_rfl) (by kernel_rfl)
theorem JZ : TyOk Tryz.prog 5023023 (.flag) := trivial
theorem JY : TyOk Tryz.prog 5023031 (.flag) := trivial
theorem JX : TyOk Tryz.prog 5023072 (.flag) := trivial
theorem JW : TyOk Tryz.prog 5030021 (.flag) := trivial
theorem JV : TyOk Tryz.prog 5035049 (.flag) := trivial
theorem JU : TyOk Tryz.prog 5035057 (.flag) := trivial
theorem JT : TyOk Tryz.prog 5073036 (.flag) := trivial
theorem JS : TyOk Tryz.prog 5077056 (.flag) := trivial
theorem JR : TyOk Tryz.prog 5143049 (.flag) := trivial
theorem JQ : TyOk Tryz.prog 8104055 (.flag) := trivial
theorem hE : ∀ T ti, E.ty T = some ti → TyOk Tryz.prog T ti := Nk (l := tyL) ⟨ty_3, ty_4, ty_5, ty_9, DG, EF, DF, DE, DD, DC, DB, DA, Dz, Dy, Dx, Dw, Dv, Du, Dt, Ds, Dh, Dg, Df, De, Dd, Dc, J0, JZ, JY, JX, JW, JV, JU, JT, JS, JR, JQ, trivial⟩
theorem X2 : OneF Tryz.prog gw 204 slices_Grow_int_fi := Tryz.growOne
theorem ar : OneF Tryz.prog gw 205 slices_Reverse_int_fi := Tryz.revOne
theorem gS : OneF Tryz.prog gw 208 slices_SortFunc_int_int_fi := Tryz.sortOne
theorem jk : OneF Tryz.prog gw 210 slices_CompactFunc_int_int_fi := Tryz.compactOne
theorem Sl : OneF Tryz.prog gw 151 strconv_Itoa_fi := ES Tryz.func151 (by kernel_rfl) (by kernel_rfl) (fun n w hw h0 h1 => Tryz.strconv_Itoa n h0 h1 w hw)
theorem Sj : OneF Tryz.prog gw 166 strings_Join_fi := ER Tryz.func166 (by kernel_rfl) (by kernel_rfl) (fun a c sep w => Tryz.strings_Join_none a c sep w) (fun bk o c xs sep w hc hb hN hcap hl => Tryz.strings_Join bk o c xs sep w hc hb hN hcap hl) rfl
theorem cK : OneF Tryz.prog gw 63 slices_Delete_i_Step_fi := Tryz.delOne
theorem hF : FnOk Tryz.prog gw E := Nl (l := fnL) ⟨(okOf Tryz.func66 (by kernel_rfl)), (okOf Tryz.func67 (by kernel_rfl)), (okOf Tryz.func18 (by kernel_rfl)), (okOf Tryz.func70 (by kernel_rfl)), (okOf Tryz.func175 (by kernel_rfl)), (okOf Tryz.func142 (by kernel_rfl)), (okOf Tryz.func71 (by kernel_rfl)), (okOf Tryz.func20 (by kernel_rfl)), (okOf Tryz.func88 (by kernel_rfl)), (okOf Tryz.func154 (by kernel_rfl)), (okOf Tryz.func159 (by kernel_rfl)), (okOf Tryz.func116 (by kernel_rfl)), (okOf Tryz.func160 (by kernel_rfl)), (okOf Tryz.func161 (by kernel_rfl)), (okOf Tryz.func117 (by kernel_rfl)), (okOf Tryz.func139 (by kernel_rfl)), (okOf Tryz.func118 (by kernel_rfl)), (okOf Tryz.func47 (by kernel_rfl)), (okOf Tryz.func200 (by kernel_rfl)), (okOf Tryz.func195 (by kernel_rfl)), (okOf Tryz.func196 (by kernel_rfl)), (okOf Tryz.func197 (by kernel_rfl)), (okOf Tryz.func198 (by kernel_rfl)), (okOf Tryz.func199 (by kernel_rfl)), (okOf Tryz.func171 (by kernel_rfl)), (okOf Tryz.func202 (by kernel_rfl)), (okOf Tryz.func203 (by kernel_rfl)), (okOf Tryz.func173 (by kernel_rfl)), (okOf Tryz.func141 (by kernel_rfl)), (okOf Tryz.func220 (by kernel_rfl)), (okOf Tryz.func201 (by kernel_rfl)), (okOf Tryz.func172 (by kernel_rfl)), (okOf Tryz.func137 (by kernel_rfl)), (okOf Tryz.func94 (by kernel_rfl)), (okOf Tryz.func138 (by kernel_rfl)), (okOf Tryz.func68 (by kernel_rfl)), (okOf Tryz.func174 (by kernel_rfl)), (okOf Tryz.func140 (by kernel_rfl)), (okOf Tryz.func69 (by kernel_rfl)), (okOf Tryz.func19 (by kernel_rfl)), (okOf Tryz.func60 (by kernel_rfl)), (okOf Tryz.func97 (by kernel_rfl)), (okOf Tryz.func89 (by kernel_rfl)), (okOf Tryz.func27 (by kernel_rfl)), (okOf Tryz.func109 (by kernel_rfl)), (okOf Tryz.func113 (by kernel_rfl)), (okOf Tryz.func128 (by kernel_rfl)), (okOf Tryz.func114 (by kernel_rfl)), (okOf Tryz.func158 (by kernel_rfl)), (okOf Tryz.func157 (by kernel_rfl)), (okOf Tryz.func115 (by kernel_rfl)), (okOf Tryz.func46 (by kernel_rfl)), (okOf Tryz.func135 (by kernel_rfl)), (okOf Tryz.func111 (by kernel_rfl)), X2, (okOf Tryz.func176 (by kernel_rfl)), ar, (okOf Tryz.func177 (by kernel_rfl)), (okOf Tryz.func179 (by kernel_rfl)), (okOf Tryz.func180 (by kernel_rfl)), (okOf Tryz.func181 (by kernel_rfl)), (okOf Tryz.func182 (by kernel_rfl)), (okOf Tryz.func178 (by kernel_rfl)), (okOf Tryz.func144 (by kernel_rfl)), (okOf Tryz.func206 (by kernel_rfl)), (okOf Tryz.func207 (by kernel_rfl)), (okOf Tryz.func183 (by kernel_rfl)), gS, jk, (okOf Tryz.func184 (by kernel_rfl)), (okOf Tryz.func145 (by kernel_rfl)), (okOf Tryz.func75 (by kernel_rfl)), Sl, (okOf Tryz.func104 (by kernel_rfl)), (okOf Tryz.func152 (by kernel_rfl)), Sj, (okOf Tryz.func125 (by kernel_rfl)), (okOf Tryz.func105 (by kernel_rfl)), (okOf Tryz.func78 (by kernel_rfl)), (okOf Tryz.func64 (by kernel_rfl)), (okOf Tryz.func156 (by kernel_rfl)), (okOf Tryz.func157 (by kernel_rfl)), (okOf Tryz.func155 (by kernel_rfl)), (okOf Tryz.func108 (by kernel_rfl)), (okOf Tryz.func124 (by kernel_rfl)), (okOf Tryz.func110 (by kernel_rfl)), (okOf Tryz.func65 (by kernel_rfl)), (okOf Tryz.func40 (by kernel_rfl)), (okOf Tryz.func73 (by kernel_rfl)), (okOf Tryz.func76 (by kernel_rfl)), (okOf Tryz.func72 (by kernel_rfl)), (okOf Tryz.func143 (by kernel_rfl)), (okOf Tryz.func76 (by kernel_rfl)), (okOf Tryz.func72 (by kernel_rfl)), (okOf Tryz.func74 (by kernel_rfl)), (okOf Tryz.func77 (by kernel_rfl)), (okOf Tryz.func76 (by kernel_rfl)), (okOf Tryz.func79 (by kernel_rfl)), (okOf Tryz.func21 (by kernel_rfl)), (okOf Tryz.func90 (by kernel_rfl)), (okOf Tryz.func136 (by kernel_rfl)), (okOf Tryz.func62 (by kernel_rfl)), cK, (okOf Tryz.func98 (by kernel_rfl)), (okOf Tryz.func91 (by kernel_rfl)), (okOf Tryz.func28 (by kernel_rfl)), (okOf Tryz.func80 (by kernel_rfl)), (okOf Tryz.func185 (by kernel_rfl)), (okOf Tryz.func146 (by kernel_rfl)), (okOf Tryz.func82 (by kernel_rfl)), (okOf Tryz.func23 (by kernel_rfl)), (okOf Tryz.func5 (by kernel_rfl)), (okOf Tryz.func92 (by kernel_rfl)), (okOf Tryz.func29 (by kernel_rfl)), (okOf Tryz.func96 (by kernel_rfl)), (okOf Tryz.func31 (by kernel_rfl)), (okOf Tryz.func147 (by kernel_rfl)), (okOf Tryz.func148 (by kernel_rfl)), (okOf Tryz.func93 (by kernel_rfl)), (okOf Tryz.func95 (by kernel_rfl)), (okOf Tryz.func30 (by kernel_rfl)), (okOf Tryz.func43 (by kernel_rfl)), (okOf Tryz.func42 (by kernel_rfl)), (okOf Tryz.func17 (by kernel_rfl)), (okOf Tryz.func32 (by kernel_rfl)), (okOf Tryz.func81 (by kernel_rfl)), (okOf Tryz.func22 (by kernel_rfl)), (okOf Tryz.func6 (by kernel_rfl)), (okOf Tryz.func33 (by kernel_rfl)), (okOf Tryz.func34 (by kernel_rfl)), (okOf Tryz.func83 (by kernel_rfl)), (okOf Tryz.func84 (by kernel_rfl)), (okOf Tryz.func24 (by kernel_rfl)), (okOf Tryz.func86 (by kernel_rfl)), (okOf Tryz.func99 (by kernel_rfl)), (okOf Tryz.func35 (by kernel_rfl)), (okOf Tryz.func7 (by kernel_rfl)), (okOf Tryz.func48 (by kernel_rfl)), (okOf Tryz.func101 (by kernel_rfl)), (okOf Tryz.func100 (by kernel_rfl)), (okOf Tryz.func149 (by kernel_rfl)), (okOf Tryz.func102 (by kernel_rfl)), (okOf Tryz.func150 (by kernel_rfl)), (okOf Tryz.func103 (by kernel_rfl)), (okOf Tryz.func36 (by kernel_rfl)), (okOf Tryz.func15 (by kernel_rfl)), (okOf Tryz.func39 (by kernel_rfl)), (okOf Tryz.func52 (by kernel_rfl)), (okOf Tryz.func106 (by kernel_rfl)), (okOf Tryz.func37 (by kernel_rfl)), (okOf Tryz.func8 (by kernel_rfl)), (okOf Tryz.func58 (by kernel_rfl)), (okOf Tryz.func163 (by kernel_rfl)), (okOf Tryz.func133 (by kernel_rfl)), (okOf Tryz.func131 (by kernel_rfl)), (okOf Tryz.func134 (by kernel_rfl)), (okOf Tryz.func61 (by kernel_rfl)), (okOf Tryz.func162 (by kernel_rfl)), (okOf Tryz.func120 (by kernel_rfl)), (okOf Tryz.func187 (by kernel_rfl)), (okOf Tryz.func188 (by kernel_rfl)), (okOf Tryz.func153 (by kernel_rfl)), (okOf Tryz.func107 (by kernel_rfl)), (okOf Tryz.func38 (by kernel_rfl)), (okOf Tryz.func41 (by kernel_rfl)), (okOf Tryz.func9 (by kernel_rfl)), (okOf Tryz.func119 (by kernel_rfl)), (okOf Tryz.func49 (by kernel_rfl)), (okOf Tryz.func11 (by kernel_rfl)), trivial⟩
end Pt
