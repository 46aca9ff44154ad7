/-
  The plain machine's telling of functions of the program: codes, functions, tables. Printed by gen11.py.
  Conditions: none; these are definitions and equations that the kernel checks.
-/
import Derived.Test.YtgbbdagfjenmeaaGreatDoorVd
import Derived.Test.YtgbbdagfjenmeaaGreatDoorProg
import Derived.Test.YtgbbdagfjenmeaaGreatDoorShelf
import Derived.Test.YtgbbdagfjenmeaaGreatDoorCmf
import Derived.Test.YtgbbdagfjenmeaaGreatDoorLyt
import Derived.Test.YtgbbdagfjenmeaaGreatDoorSrt
namespace Pt
open Go Go.Vt Go.Proofs
set_option linter.unusedVariables false
set_option maxRecDepth 100000
abbrev tI : Ty := .int .i64
abbrev tR : Ty := .slice tI
abbrev tS : Ty := .pair tI (.pair (.pair tI tI) tI)
abbrev tQ : Ty := .slice tS
abbrev tT : Ty := .pair tR (.pair tQ (.pair tI (.pair tI tI)))
abbrev tC : Ty := .pair tR tI
abbrev tD : Ty := .slice tC
abbrev tW : Ty := .slice tR
abbrev dS : Type := Int × (Int × Int) × Int
abbrev dT : Type := List Int × List dS × Int × Int × Int
abbrev dC : Type := List Int × Int
noncomputable abbrev ci (x : Int) : AV := .cv (.val tI x)
noncomputable abbrev cw (t : Ty) (x : t.den) : AV := .cv (.val t x)
noncomputable abbrev co (c : Nat) : AV := .cv (.own c)
noncomputable def tyL : List (Nat × TI) := [(3, .one (tI)), (4, .one (.bool)), (23, .one (tR)), (24, .one (tQ)), (26, .struct [(0, 23), (1, 24), (2, 3), (3, 3), (4, 3)] [tR, tQ, tI, tI, tI] false), (30, .one (tD)), (35, .struct [(0, 23), (1, 3)] [tR, tI] false), (38, .struct [(0, 3), (1, 3)] [tI, tI] true), (40, .struct [(0, 3), (1, 38), (3, 3)] [tI, tI, tI, tI] true), (42, .one (tQ)), (44, .struct [(0, 23), (1, 42), (2, 3), (3, 3), (4, 3)] [tR, tQ, tI, tI, tI] false), (47, .struct [(0, 3), (1, 23), (2, 35)] [tI, tR, tR, tI] false), (81, .one (.slice .str)), (88, .one (.slice tD)), (93, .one (tW)), (100, .one (.slice .set)), (104, .one (.set)), (139, .struct [(0, 3), (1, 3)] [tI, tI] true), (141, .struct [(0, 3), (1, 139), (3, 3)] [tI, tI, tI, tI] true), (149, .arr 12 (.bool)), (5023023, .flag), (5023031, .flag), (5023072, .flag), (5035049, .flag), (5073036, .flag), (5077056, .flag), (5143049, .flag), (8104055, .flag)]
noncomputable def YW : Fi := fiOf Tryz.f66 [.v tR false, .v tI false] [(false, [⟨tI, none⟩])] h0
noncomputable def ZI : Fi := fiOf Tryz.f67 [.v tQ false, .v tI false] [(false, [⟨tI, none⟩])] h0
noncomputable def ZH : Fi := fiOf Tryz.f18 [.v tT true, .v tI false] [(false, [⟨tI, none⟩])] h0
noncomputable def cX : Fi := fiOf Tryz.f70 [.v tR false] [(false, [⟨tR, some (true, false)⟩])] fun | 3 => some [.keep 0, .cell 3 (.row 100003 (tI) true false), .keep 4] | _ => none
noncomputable def YT : Fi := fiOf Tryz.f175 [.v (.pair tI tI) true] [(true, [⟨tI, none⟩, ⟨tI, none⟩])] h0
noncomputable def YR : Fi := fiOf Tryz.f142 [.v tS true] [(true, [⟨tI, none⟩, ⟨tI, none⟩, ⟨tI, none⟩, ⟨tI, none⟩])] h0
noncomputable def gA : Fi := fiOf Tryz.f71 [.v tQ false] [(false, [⟨tQ, some (true, false)⟩])] fun | 3 => some [.keep 0, .cell 3 (.row 100003 (tS) true false), .keep 4] | _ => none
noncomputable def ZG : Fi := fiOf Tryz.f20 [.v tT true] [(true, [⟨tR, some (true, false)⟩, ⟨tQ, some (true, false)⟩, ⟨tI, none⟩, ⟨tI, none⟩, ⟨tI, none⟩])] h0
noncomputable def Vd : Fi := fiOf Tryz.f88 [.v tI false, .v tI false, .v tI false] [(false, [⟨.bool, none⟩])] h0
noncomputable def Xp : Fi := fiOf Tryz.f154 [.v tI false] [(false, [⟨tI, none⟩])] h0
noncomputable def bm : Fi := fiOf Tryz.f159 [.v tR false, .v tI false] [(false, [⟨.bool, none⟩])] fun | 2 => some [.keep 1, .keep 7, .keep 8, .keep 9] | _ => none
noncomputable def jF : Fi := fiOf Tryz.f116 [.v tR false] [(false, [⟨.bool, none⟩])] fun | 5 => some [.cell 3 (.row 100003 (tI) true false), .keep 11, .keep 12, .keep 13] | _ => none
noncomputable def Xm : Fi := fiOf Tryz.f160 [.v tI false, .v (.pair tI tI) true] [(false, [⟨.bool, none⟩])] h0
noncomputable def cg : Fi := fiOf Tryz.f161 [.v tI false, .v tI false] [(false, [⟨.bool, none⟩])] h0
noncomputable def Xj : Fi := fiOf Tryz.f117 [.v tI false, .v tS true] [(false, [⟨.bool, none⟩])] h0
noncomputable def vL : Fi := fiOf Tryz.f139 [.v tR false, .v tI false] [(false, [⟨tI, none⟩])] fun | 2 => some [.keep 1, .keep 7, .keep 8, .keep 9] | _ => none
noncomputable def bV : Fi := fiOf Tryz.f118 [.v tT true, .v tI false, .v .bool false] [(false, [⟨.bool, none⟩])] h0
noncomputable def fo : Fi := fiOf Tryz.f47 [.v tT true] [(false, [⟨.bool, none⟩])] fun | 6 => some [.box 1 200001 [.keep, .keep, .keep, .keep, .keep], .keep 3, .keep 4, .keep 25, .keep 26, .keep 27] | _ => none
noncomputable def b4 : Fi := fiOf Tryz.f200 [.v tI false] [(false, [⟨tI, none⟩])] h0
noncomputable def fh : Fi := fiOf Tryz.f195 [.v tR false, .v tI false, .v .bool false] [(false, [⟨tR, some (true, false)⟩])] fun | 3 => some [.keep 0, .keep 1, .keep 2, .cell 7 (.row 100007 (tI) true false), .keep 8] | _ => none
noncomputable def fc : Fi := fiOf Tryz.f196 [.v tR false, .v tI false] [(false, [⟨tR, some (true, false)⟩])] fun | 4 => some [.keep 1, .keep 5, .keep 6, .cell 7 (.row 100007 (tI) true false)] | _ => none
noncomputable def jD : Fi := fiOf Tryz.f197 [.v tR false, .v tI false] [(false, [⟨tR, some (true, false)⟩])] fun | 3 => some [.keep 1, .cell 5 (.row 100005 (tI) true false), .keep 9, .keep 10, .keep 11] | _ => none
noncomputable def gZ : Fi := fiOf Tryz.f198 [.v tR false] [(false, [⟨tR, some (true, false)⟩])] fun | 2 => some [.keep 0, .cell 3 (.row 100003 (tI) true false)] | _ => none
noncomputable def fe : Fi := fiOf Tryz.f199 [.v tR false, .v tI false] [(false, [⟨tR, some (true, false)⟩])] fun | 4 => some [.cell 5 (.row 100005 (tI) true false), .cell 6 (.row 100006 (tI) true false), .keep 7] | _ => none
noncomputable def Vb : Fi := fiOf Tryz.f171 [.v tR false, .v (.pair tI tI) true] [(false, [⟨tR, some (true, false)⟩])] h0
noncomputable def gX : Fi := fiOf Tryz.f202 [.v tR false] [(false, [⟨tW, some (true, false)⟩])] fun | 3 => some [.keep 0, .cell 3 (.row 100003 (tR) true false), .keep 7, .keep 8] | _ => none
noncomputable def bW : Fi := fiOf Tryz.f203 [.v tW false, .v tR false, .v tR false, .v tR false] [(false, [⟨tW, some (false, false)⟩])] fun  | 999999 => some [] | _ => none
noncomputable def eu : Fi := fiOf Tryz.f173 [.v tR false, .v tI false] [(false, [⟨tW, some (false, false)⟩])] fun | 7 => some [.keep 0, .cell 5 (.row 100005 (tR) false false), .keep 6] | 15 => some [.keep 0, .cell 5 (.row 100005 (tR) true false), .keep 40, .keep 41, .keep 42] | _ => none
noncomputable def vJ : Fi := fiOf Tryz.f141 [.v tR false, .v tR false] [(false, [⟨.bool, none⟩])] fun | 4 => some [.keep 1, .keep 12, .keep 13, .keep 14] | _ => none
noncomputable def gU : Fi := fiOf Tryz.f220 [.v tR false, .v tR false] [(false, [⟨.bool, none⟩])] fun | 2 => some [.keep 0, .keep 1, .keep 7, .keep 8, .keep 9] | _ => none
noncomputable def jC : Fi := fiOf Tryz.f201 [.v tW false, .v tW false] [(false, [⟨tW, some (true, false)⟩])] fun | 2 => some [.keep 0, .keep 1, .cell 5 (.row 450005 (tR) true false)] | _ => none
noncomputable def gf : Fi := fiOf Tryz.f172 [.v tW false] [(false, [⟨tW, some (true, false)⟩])] h0
noncomputable def gS : Fi := fiOf Tryz.f137 [.v tC true, .v tS true] [(false, [⟨tD, some (false, false)⟩])] fun | 8 => some [.box 2 200002 [.keep, .keep], .cell 5 (.row 100005 (tC) false false), .cell 42 (.row 100042 (tR) false false), .keep 43, .keep 44] | _ => none
noncomputable def cu : Fi := fiOf Tryz.f94 [.v tC true, .v tC true] [(false, [⟨.bool, none⟩])] h0
noncomputable def gL : Fi := fiOf Tryz.f138 [.v tD false, .v tC true] [(false, [⟨tI, none⟩])] fun | 2 => some [.box 3 200003 [.keep, .keep], .keep 7, .keep 8, .keep 9] | _ => none
noncomputable def wU : Fi := fiOf Tryz.f68 [.v tT true] [(false, [⟨tD, some (false, false)⟩]), (false, [⟨tW, some (true, false)⟩]), (false, [⟨.bool, none⟩])] fun | 4 => some [.cell 5 (.row 100005 (tC) false false), .cell 6 (.row 100006 (tR) true false), .keep 25, .keep 26, .keep 27] | 9 => some [.cell 6 (.row 100006 (tR) false false), .box 8 200008 [.keep, .keep, .keep, .keep], .cell 9 (.row 100009 (tC) false false), .cell 10 (.row 100010 (tR) true false), .keep 25, .keep 26, .keep 27, .cell 33 (.row 100033 (tC) false false), .keep 34, .keep 35] | 12 => some [.cell 6 (.row 100006 (tR) false false), .box 8 200008 [.keep, .keep, .keep, .keep], .cell 9 (.row 100009 (tC) false false), .cell 10 (.row 100010 (tR) true false), .keep 11, .keep 25, .keep 26, .keep 27, .cell 33 (.row 100033 (tC) false false), .keep 34, .keep 35, .cell 42 (.row 100042 (tC) false false), .keep 43, .keep 44] | _ => none
noncomputable def Th : Fi := fiOf Tryz.f174 [.v tI false] [(false, [⟨.bool, none⟩])] h0
noncomputable def fr : Fi := fiOf Tryz.f140 [.v tR false] [(false, [⟨tI, none⟩])] fun | 3 => some [.keep 3, .keep 6, .keep 7, .keep 8] | _ => none
noncomputable def bU : Fi := fiOf Tryz.f69 [.v tT true, .v tC true] [(false, [⟨.bool, none⟩])] h0
noncomputable def vO : Fi := fiOf Tryz.f19 [.v tT true] [(true, [⟨tI, none⟩, ⟨tR, none⟩, ⟨tR, none⟩, ⟨tI, none⟩]), (false, [⟨.bool, none⟩])] fun | 7 => some [.box 1 200001 [.keep, .keep, .keep, .keep, .keep], .box 2 200002 [.keep, .keep, .keep, .keep], .cell 5 (.val (tW)), .cell 22 (.row 100022 (tC) false false), .keep 23, .keep 24] | _ => none
noncomputable def Wi : Fi := fiOf Tryz.f109 [.v tI false] [(false, [⟨tI, none⟩])] h0
noncomputable def jO : Fi := fiOf Tryz.f113 [.v tR false] [(false, [⟨.bool, none⟩])] fun | 3 => some [.arr 3 400003, .keep 7, .keep 8, .keep 9] | _ => none
noncomputable def We : Fi := fiOf Tryz.f128 [.v tI false, .v (.pair tI tI) true] [(false, [⟨.bool, none⟩])] h0
noncomputable def X8 : Fi := fiOf Tryz.f114 [.v tI false, .v tS true] [(false, [⟨.bool, none⟩])] h0
noncomputable def je : Fi := fiOf Tryz.f158 [.v tI false, .r tI] [(false, [⟨.bool, none⟩])] h0
noncomputable def zE : Fi := fiOf Tryz.f157 [.v tR false, .fn 158 [tI]] [(false, [⟨tI, none⟩])] fun | 2 => some [.keep 0, .keep 1, .keep 7, .keep 8] | _ => none
noncomputable def fN : Fi := fiOf Tryz.f115 [.v tR false, .v tI false] [(false, [⟨tI, none⟩])] h0
noncomputable def fI : Fi := fiOf Tryz.f46 [.v tT true] [(false, [⟨.bool, none⟩])] fun | 6 => some [.box 1 200001 [.keep, .keep, .keep, .keep, .keep], .keep 3, .keep 4, .keep 25, .keep 26, .keep 27] | _ => none
noncomputable def xe : Fi := fiOf Tryz.f135 [.v tR false] [(false, [⟨tR, some (true, false)⟩])] h0
noncomputable def fL : Fi := fiOf Tryz.f111 [.v tT true] [(true, [⟨tR, some (true, true)⟩, ⟨tI, none⟩]), (false, [⟨.bool, none⟩])] h0
noncomputable abbrev slices_Grow_int_fi : Fi := growFi
noncomputable def yP : Fi := fiOf Tryz.f176 [.v tW false] [(false, [⟨tR, some (true, false)⟩])] fun | 3 => some [.keep 0, .keep 3, .keep 9, .keep 10, .keep 11] | 11 => some [.cell 6 (.row 100006 (tI) true false), .keep 25, .keep 26, .keep 27] | _ => none
noncomputable abbrev slices_Reverse_int_fi : Fi := reverseFi
noncomputable def aw : Fi := fiOf Tryz.f177 [.v tR false] [(false, [⟨tR, some (true, false)⟩])] h0
noncomputable def X3 : Fi := fiOf Tryz.f179 [.v tR false, .v tI false] [(false, [⟨tR, some (true, true)⟩])] fun | 4 => some [.keep 5, .keep 6, .cell 7 (.row 100007 (tI) true true), .keep 8] | _ => none
noncomputable def Zr : Fi := fiOf Tryz.f180 [.v tR false, .v tI false] [(false, [⟨tR, some (true, false)⟩])] fun | 3 => some [.keep 1, .cell 5 (.row 100005 (tI) true false), .keep 8, .keep 9, .keep 10] | _ => none
noncomputable def X2 : Fi := fiOf Tryz.f181 [.v tR false] [(false, [⟨tR, some (true, false)⟩])] fun | 2 => some [.keep 0, .cell 3 (.row 100003 (tI) true false)] | _ => none
noncomputable def Zs : Fi := fiOf Tryz.f182 [.v tR false, .v tI false] [(false, [⟨tR, some (true, true)⟩])] fun | 4 => some [.cell 5 (.row 100005 (tI) true true), .cell 6 (.row 100006 (tI) true false), .keep 7] | _ => none
noncomputable def aD : Fi := fiOf Tryz.f178 [.v tI false] [(false, [⟨tI, none⟩])] h0
noncomputable def Zp : Fi := fiOf Tryz.f144 [.v tR false, .v (.pair tI tI) true] [(false, [⟨tR, some (true, false)⟩])] fun | 10 => some [.keep 5, .cell 6 (.row 100006 (tI) true false), .keep 7] | _ => none
noncomputable def X5 : Fi := fiOf Tryz.f206 [.v tR false] [(false, [⟨tW, some (true, true)⟩])] fun | 3 => some [.keep 0, .cell 3 (.row 100003 (tR) true true), .keep 6, .keep 7] | _ => none
noncomputable def uE : Fi := fiOf Tryz.f207 [.v tR false, .v tI false] [(false, [⟨tR, some (true, true)⟩])] fun | 3 => some [.keep 0, .keep 1, .keep 5, .keep 6, .keep 11, .keep 12] | 9 => some [.keep 0, .keep 1, .keep 5, .keep 6, .cell 8 (.row 100008 (tI) true true), .keep 24, .keep 25] | _ => none
noncomputable def YH : Fi := fiOf Tryz.f183 [.v tR false, .v tI false] [(false, [⟨tW, some (true, false)⟩]), (false, [⟨.bool, none⟩])] fun | 9 => some [.keep 0, .cell 6 (.row 100006 (tR) true true), .keep 7] | 20 => some [.keep 0, .cell 8 (.row 100008 (tR) true true), .keep 48, .keep 49] | _ => none
noncomputable abbrev slices_SortFunc_int_int_fi : Fi := (sortFi 209)
noncomputable abbrev slices_CompactFunc_int_int_fi : Fi := compactFi
noncomputable def vl : Fi := fiOf Tryz.f184 [.v tW false] [(false, [⟨tW, some (true, false)⟩])] fun | 3 => some [.cell 3 (.row 100003 (tR) true true), .keep 6, .keep 7, .keep 8] | _ => none
noncomputable def cL : Fi := fiOf Tryz.f145 [.v tR false, .v tI false] [(false, [⟨tW, some (true, false)⟩]), (false, [⟨.bool, none⟩])] h0
noncomputable def uc : Fi := fiOf Tryz.f75 [.v tC true, .v tS true] [(false, [⟨tD, some (true, false)⟩])] fun | 11 => some [.box 2 200002 [.keep, .keep], .cell 5 (.row 100005 (tC) true true), .cell 67 (.row 440067 (tR) true false), .keep 68, .keep 69] | _ => none
noncomputable abbrev strconv_Itoa_fi : Fi := itoaFi
noncomputable def cM : Fi := fiOf Tryz.f104 [.v tI false] [(false, [⟨.str, none⟩])] h0
noncomputable def uP : Fi := fiOf Tryz.f152 [.v tR false] [(false, [⟨.slice .str, some (true, true)⟩])] fun | 3 => some [.cell 3 (.row 100003 (.str) true true), .keep 6, .keep 7, .keep 8] | _ => none
noncomputable abbrev strings_Join_fi : Fi := joinFi
noncomputable def TU : Fi := fiOf Tryz.f125 [.v (.slice .str) false, .v .str false] [(false, [⟨.str, none⟩])] h0
noncomputable def gq : Fi := fiOf Tryz.f105 [.v tR false] [(false, [⟨.str, none⟩])] h0
noncomputable def Vs : Fi := fiOf Tryz.f78 [.v tC true] [(false, [⟨.str, none⟩])] h0
noncomputable def vW : Fi := fiOf Tryz.f64 [.v tT true] [(false, [⟨.slice tD, some (true, false)⟩]), (false, [⟨.bool, none⟩])] fun | 4 => some [.cell 6 (.row 450006 (tD) true false), .keep 25, .keep 26, .keep 27] | 9 => some [.cell 6 (.row 420006 (tC) true false), .box 8 200008 [.keep, .keep, .keep, .keep], .cell 9 (.row 430009 (.bool) false false), .cell 10 (.row 450010 (tC) true true), .keep 25, .keep 26, .keep 27, .cell 36 (.row 450036 (tC) true false), .keep 37, .keep 38] | 12 => some [.cell 6 (.row 420006 (tC) true false), .box 8 200008 [.keep, .keep, .keep, .keep], .cell 9 (.row 430009 (.bool) false false), .cell 10 (.row 450010 (tC) true true), .keep 25, .keep 26, .keep 27, .cell 36 (.row 450036 (tC) true false), .keep 37, .keep 38, .cell 44 (.row 440044 (tC) true false), .keep 45, .keep 46] | _ => none
noncomputable def vn : Fi := fiOf Tryz.f156 [.v tI false, .r tR] [(false, [⟨.bool, none⟩])] h0
noncomputable def zx : Fi := fiOf Tryz.f157 [.v tR false, .fn 156 [tR]] [(false, [⟨tI, none⟩])] fun | 2 => some [.keep 0, .keep 1, .keep 7, .keep 8] | _ => none
noncomputable def zS : Fi := fiOf Tryz.f155 [.v tR false, .fn 156 [tR]] [(false, [⟨.bool, none⟩])] h0
noncomputable def uH : Fi := fiOf Tryz.f108 [.v tR false, .v tR false] [(false, [⟨.bool, none⟩])] h0
noncomputable def TV : Fi := fiOf Tryz.f124 [.v tI false] [(false, [⟨.bool, none⟩])] h0
noncomputable def fR : Fi := fiOf Tryz.f110 [.v tR false] [(false, [⟨tI, none⟩])] fun | 3 => some [.keep 3, .keep 6, .keep 7, .keep 8] | _ => none
noncomputable def slices_Equal_int_fi : Fi := fiOf Tryz.f65 [.v tR false, .v tR false] [(false, [⟨.bool, none⟩])] fun | 4 => some [.keep 0, .keep 1, .keep 12, .keep 13] | _ => none
noncomputable def fS : Fi := fiOf Tryz.f40 [.v tT true, .v tC true] [(false, [⟨.bool, none⟩])] h0
noncomputable def jg : Fi := fiOf Tryz.f73 [.v tC true, .r tT] [(false, [⟨.bool, none⟩])] h0
noncomputable def zv : Fi := fiOf Tryz.f76 [.v tD false, .fn 73 [tT]] [(false, [⟨tI, none⟩])] fun | 2 => some [.keep 0, .keep 1, .keep 7, .keep 8] | _ => none
noncomputable def zN : Fi := fiOf Tryz.f72 [.v tD false, .fn 73 [tT]] [(false, [⟨.bool, none⟩])] h0
noncomputable def cJ : Fi := fiOf Tryz.f143 [.v tC true, .r (.slice .set), .r tI] [(false, [⟨.bool, none⟩])] h0
noncomputable def zz : Fi := fiOf Tryz.f76 [.v tD false, .fn 143 [.slice .set, tI]] [(false, [⟨tI, none⟩])] fun | 2 => some [.keep 0, .keep 1, .keep 7, .keep 8] | _ => none
noncomputable def zW : Fi := fiOf Tryz.f72 [.v tD false, .fn 143 [.slice .set, tI]] [(false, [⟨.bool, none⟩])] h0
noncomputable def uF : Fi := fiOf Tryz.f74 [.v tT true, .v (.slice tD) false] [(false, [⟨.slice .set, some (true, false)⟩])] fun | 3 => some [.keep 1, .box 2 200002 [.keep, .keep, .keep, .keep, .keep], .box 5 200005 [.row 300500 (.set) true false], .box 6 200006 [.keep]] | 7 => some [.keep 1, .box 2 200002 [.keep, .keep, .keep, .keep, .keep], .box 5 200005 [.row 300500 (.set) true false], .box 6 200006 [.keep], .keep 27, .keep 28, .keep 29] | _ => none
noncomputable def jf : Fi := fiOf Tryz.f77 [.v tC true, .r (.slice .set), .r tI] [(false, [⟨.bool, none⟩])] h0
noncomputable def zu : Fi := fiOf Tryz.f76 [.v tD false, .fn 77 [.slice .set, tI]] [(false, [⟨tI, none⟩])] fun | 2 => some [.keep 0, .keep 1, .keep 7, .keep 8] | _ => none
noncomputable def cK : Fi := fiOf Tryz.f79 [.v tC true] [(true, [⟨tR, some (true, false)⟩, ⟨tI, none⟩])] h0
noncomputable def ug : Fi := fiOf Tryz.f21 [.v tT true] [(true, [⟨tI, none⟩, ⟨tR, some (true, true)⟩, ⟨tR, some (true, false)⟩, ⟨tI, none⟩]), (false, [⟨.bool, none⟩])] fun | 12 => some [.box 2 200002 [.keep, .keep, .keep, .keep], .box 6 200006 [.keep, .keep], .box 7 200007 [.row 300700 (.set) true false], .box 8 200008 [.keep, .row 300801 (tI) true true, .keep, .keep], .keep 45, .keep 46, .keep 47] | _ => none
noncomputable def be : Fi := fiOf Tryz.f80 [.v tR false, .v tR false] [(false, [⟨.bool, none⟩])] fun | 4 => some [.keep 0, .keep 1, .keep 5] | _ => none
noncomputable def ZK : Fi := fiOf Tryz.f81 [.v tC true, .v tC true] [(false, [⟨.bool, none⟩])] h0
noncomputable def ce : Fi := fiOf Tryz.f22 [.v (.pair tI (.pair tR tC)) true, .v (.pair tI (.pair tR tC)) true] [(false, [⟨.bool, none⟩])] h0
noncomputable def Y1 : Fi := fiOf Tryz.f185 [.v (.pair tI tI) true, .v (.pair tI tI) true] [(false, [⟨.bool, none⟩])] h0
noncomputable def YY : Fi := fiOf Tryz.f146 [.v tS true, .v tS true] [(false, [⟨.bool, none⟩])] h0
noncomputable def gC : Fi := fiOf Tryz.f82 [.v tQ false, .v tQ false] [(false, [⟨.bool, none⟩])] fun | 4 => some [.keep 0, .keep 1, .keep 5] | _ => none
noncomputable def ZJ : Fi := fiOf Tryz.f23 [.v tT true, .v tT true] [(false, [⟨.bool, none⟩])] h0
noncomputable def jv : Fi := fiOf Tryz.f83 [.o [.o tI true] false, .v tI false] [(false, [⟨tI, none⟩])] fun | 2 => some [.cell 0 (.row 500000 (tI) true false), .keep 1, .keep 5] | _ => none
noncomputable def uK : Fi := fiOf Tryz.f84 [.o [.o tS true] false, .v tI false] [(false, [⟨tI, none⟩])] fun | 2 => some [.cell 0 (.row 500000 (tS) true false), .keep 1, .keep 5] | _ => none
noncomputable def ca : Fi := fiOf Tryz.f24 [.o [.o tI true, .o tS true, .v tI, .v tI, .v tI] true, .v tI false] [(false, [⟨tI, none⟩])] h0
noncomputable def cb : Fi := fiOf Tryz.f85 [.o [.o tI true, .v tI] true, .v tI false] [(false, [⟨tI, none⟩])] h0
noncomputable def jY : Fi := fiOf Tryz.f25 [.o [.v tI, .o tI true, .o tI true, .v tI] true, .v tI false] [(false, [⟨tI, none⟩])] h0
noncomputable def jw : Fi := fiOf Tryz.f86 [.v tR false, .v tI false] [(false, [⟨tI, none⟩])] fun | 2 => some [.keep 0, .keep 1, .keep 5] | _ => none
noncomputable def cd : Fi := fiOf Tryz.f87 [.v tC true, .v tI false] [(false, [⟨tI, none⟩])] h0
noncomputable def j7 : Fi := fiOf Tryz.f26 [.v (.pair tI (.pair tR tC)) true, .v tI false] [(false, [⟨tI, none⟩])] h0
noncomputable def xm : Fi := fiOf Tryz.f4 [.v tT true] [(false, [⟨.bool, none⟩])] h0
noncomputable def fnL : List (Nat × List Nat × Fi) := [(66, [], YW), (67, [], ZI), (18, [], ZH), (70, [], cX), (175, [], YT), (142, [], YR), (71, [], gA), (20, [], ZG), (88, [], Vd), (154, [], Xp), (159, [], bm), (116, [], jF), (160, [], Xm), (161, [], cg), (117, [], Xj), (139, [], vL), (118, [], bV), (47, [], fo), (200, [], b4), (195, [], fh), (196, [], fc), (197, [], jD), (198, [], gZ), (199, [], fe), (171, [], Vb), (202, [], gX), (203, [], bW), (173, [], eu), (141, [], vJ), (220, [], gU), (201, [], jC), (172, [], gf), (137, [], gS), (94, [], cu), (138, [], gL), (68, [], wU), (174, [], Th), (140, [], fr), (69, [], bU), (19, [], vO), (109, [], Wi), (113, [], jO), (128, [], We), (114, [], X8), (158, [], je), (157, [158], zE), (115, [], fN), (46, [], fI), (135, [], xe), (111, [], fL), (204, [], slices_Grow_int_fi), (176, [], yP), (205, [], slices_Reverse_int_fi), (177, [], aw), (179, [], X3), (180, [], Zr), (181, [], X2), (182, [], Zs), (178, [], aD), (144, [], Zp), (206, [], X5), (207, [], uE), (183, [], YH), (208, [209], slices_SortFunc_int_int_fi), (210, [65], slices_CompactFunc_int_int_fi), (184, [], vl), (145, [], cL), (75, [], uc), (151, [], strconv_Itoa_fi), (104, [], cM), (152, [], uP), (166, [], strings_Join_fi), (125, [], TU), (105, [], gq), (78, [], Vs), (64, [], vW), (156, [], vn), (157, [156], zx), (155, [156], zS), (108, [], uH), (124, [], TV), (110, [], fR), (65, [], slices_Equal_int_fi), (40, [], fS), (73, [], jg), (76, [73], zv), (72, [73], zN), (143, [], cJ), (76, [143], zz), (72, [143], zW), (74, [], uF), (77, [], jf), (76, [77], zu), (79, [], cK), (21, [], ug), (80, [], be), (81, [], ZK), (22, [], ce), (185, [], Y1), (146, [], YY), (82, [], gC), (23, [], ZJ), (83, [], jv), (84, [], uK), (24, [], ca), (85, [], cb), (25, [], jY), (86, [], jw), (87, [], cd), (26, [], j7), (4, [], xm)]
noncomputable def E : Env := ⟨lookT tyL, lookF fnL⟩
noncomputable def VP (k : Nat) (x : (List Int) × Int) : Option Int := aFn E YW k x
noncomputable def YV (k : Nat) (x : (List dS) × Int) : Option Int := aFn E ZI k x
noncomputable def YU (k : Nat) (x : dT × Int) : Option Int := aFn E ZH k x
noncomputable def VO (k : Nat) (x : List Int) : Option (List Int) := aFn E cX k x
noncomputable def jt (k : Nat) (v0 : List Int) (v4 : Int) (p3 : List Int) : Option (List Int) := yb E k cX 3 [(0, cw tR v0), (3, co 100003), (4, ci v4)] [(100003, .row tI p3 true false)]
noncomputable def VN (k : Nat) (x : Int × Int) : Option (Int × Int) := aFn E YT k x
noncomputable def VM (k : Nat) (x : dS) : Option (Int × Int × Int × Int) := aFn E YR k x
noncomputable def YS (k : Nat) (x : List dS) : Option (List dS) := aFn E gA k x
noncomputable def ur (k : Nat) (v0 : List dS) (v4 : Int) (p3 : List dS) : Option (List dS) := yb E k gA 3 [(0, cw tQ v0), (3, co 100003), (4, ci v4)] [(100003, .row tS p3 true false)]
noncomputable def uV (k : Nat) (x : dT) : Option ((List Int) × (List dS) × Int × Int × Int) := aFn E ZG k x
noncomputable def yV (k : Nat) (x : Int × Int × Int) : Option Bool := aFn E Vd k x
noncomputable def eD (k : Nat) (x : Int) : Option Int := aFn E Xp k x
noncomputable def V3 (k : Nat) (x : (List Int) × Int) : Option Bool := aFn E bm k x
noncomputable def jE (k : Nat) (v1 : Int) (v7 : List Int) (v8 v9 : Int) : Option Bool := yb E k bm 2 [(1, ci v1), (7, cw tR v7), (8, ci v8), (9, ci v9)] []
noncomputable def Zl (k : Nat) (x : List Int) : Option Bool := aFn E jF k x
noncomputable def vt (k : Nat) (v11 : List Int) (v12 v13 : Int) (p3 : List Int) : Option Bool := yb E k jF 5 [(3, co 100003), (11, cw tR v11), (12, ci v12), (13, ci v13)] [(100003, .row tI p3 true false)]
noncomputable def V8 (k : Nat) (x : Int × Int × Int) : Option Bool := aFn E Xm k x
noncomputable def bj (k : Nat) (x : Int × Int) : Option Bool := aFn E cg k x
noncomputable def V5 (k : Nat) (x : Int × dS) : Option Bool := aFn E Xj k x
noncomputable def wY (k : Nat) (x : (List Int) × Int) : Option Int := aFn E vL k x
noncomputable def yW (k : Nat) (v1 : Int) (v7 : List Int) (v8 v9 : Int) : Option Int := yb E k vL 2 [(1, ci v1), (7, cw tR v7), (8, ci v8), (9, ci v9)] []
noncomputable def Zk (k : Nat) (x : dT × Int × Bool) : Option Bool := aFn E bV k x
noncomputable def Xi (k : Nat) (x : dT) : Option Bool := aFn E fo k x
noncomputable def wX (k : Nat) (v3 : Int) (v4 : Bool) (v25 : List dS) (v26 v27 : Int) (q1_0 : List Int) (q1_1 : List dS) (q1_2 q1_3 q1_4 : Int) : Option Bool := yb E k fo 6 [(1, .adr 200001 0), (3, ci v3), (4, cw .bool v4), (25, cw tQ v25), (26, ci v26), (27, ci v27)] [(200001, .box [.val tR q1_0, .val tQ q1_1, .val tI q1_2, .val tI q1_3, .val tI q1_4])]
noncomputable def eC (k : Nat) (x : Int) : Option Int := aFn E b4 k x
noncomputable def fl (k : Nat) (x : (List Int) × Int × Bool) : Option (List Int) := aFn E fh k x
noncomputable def wW (k : Nat) (v0 : List Int) (v1 : Int) (v2 : Bool) (v8 : Int) (p7 : List Int) : Option (List Int) := yb E k fh 3 [(0, cw tR v0), (1, ci v1), (2, cw .bool v2), (7, co 100007), (8, ci v8)] [(100007, .row tI p7 true false)]
noncomputable def Xg (k : Nat) (x : (List Int) × Int) : Option (List Int) := aFn E fc k x
noncomputable def yn (k : Nat) (v1 : Int) (v5 v6 p7 : List Int) : Option (List Int) := yb E k fc 4 [(1, ci v1), (5, cw tR v5), (6, cw tR v6), (7, co 100007)] [(100007, .row tI p7 true false)]
noncomputable def Va (k : Nat) (x : (List Int) × Int) : Option (List Int) := aFn E jD k x
noncomputable def xG (k : Nat) (v1 : Int) (v9 : List Int) (v10 v11 : Int) (p5 : List Int) : Option (List Int) := yb E k jD 3 [(1, ci v1), (5, co 100005), (9, cw tR v9), (10, ci v10), (11, ci v11)] [(100005, .row tI p5 true false)]
noncomputable def U9 (k : Nat) (x : List Int) : Option (List Int) := aFn E gZ k x
noncomputable def uy (k : Nat) (v0 p3 : List Int) : Option (List Int) := yb E k gZ 2 [(0, cw tR v0), (3, co 100003)] [(100003, .row tI p3 true false)]
noncomputable def Td (k : Nat) (x : (List Int) × Int) : Option (List Int) := aFn E fe k x
noncomputable def wV (k : Nat) (v7 : Int) (p5 p6 : List Int) : Option (List Int) := yb E k fe 4 [(5, co 100005), (6, co 100006), (7, ci v7)] [(100005, .row tI p5 true false), (100006, .row tI p6 true false)]
noncomputable def V2 (k : Nat) (x : (List Int) × Int × Int) : Option (List Int) := aFn E Vb k x
noncomputable def b3 (k : Nat) (x : List Int) : Option (List (List Int)) := aFn E gX k x
noncomputable def ux (k : Nat) (v0 : List Int) (v7 v8 : Int) (p3 : List (List Int)) : Option (List (List Int)) := yb E k gX 3 [(0, cw tR v0), (3, co 100003), (7, ci v7), (8, ci v8)] [(100003, .row tR p3 true false)]
noncomputable def xF (k : Nat) (x : (List (List Int)) × (List Int) × (List Int) × List Int) : Option (List (List Int)) := aFn E bW k x
noncomputable def SB (k : Nat) (x : (List Int) × Int) : Option (List (List Int)) := aFn E eu k x
noncomputable def ep (k : Nat) (v0 : List Int) (v6 : Int) (p5 : List (List Int)) : Option (List (List Int)) := yb E k eu 7 [(0, cw tR v0), (5, co 100005), (6, ci v6)] [(100005, .row tR p5 false false)]
noncomputable def jB (k : Nat) (v0 v40 : List Int) (v41 v42 : Int) (p5 : List (List Int)) : Option (List (List Int)) := yb E k eu 15 [(0, cw tR v0), (5, co 100005), (40, cw tR v40), (41, ci v41), (42, ci v42)] [(100005, .row tR p5 true false)]
noncomputable def zO (k : Nat) (x : (List Int) × List Int) : Option Bool := aFn E vJ k x
noncomputable def xy (k : Nat) (v1 v12 : List Int) (v13 v14 : Int) : Option Bool := yb E k vJ 4 [(1, cw tR v1), (12, cw tR v12), (13, ci v13), (14, ci v14)] []
noncomputable def b0 (k : Nat) (x : (List Int) × List Int) : Option Bool := aFn E gU k x
noncomputable def uw (k : Nat) (v0 v1 v7 : List Int) (v8 v9 : Int) : Option Bool := yb E k gU 2 [(0, cw tR v0), (1, cw tR v1), (7, cw tR v7), (8, ci v8), (9, ci v9)] []
noncomputable def eB (k : Nat) (x : (List (List Int)) × List (List Int)) : Option (List (List Int)) := aFn E jC k x
noncomputable def zf (k : Nat) (v0 v1 wa5 : List (List Int)) : Option (List (List Int)) := yb E k jC 2 [(0, cw tW v0), (1, cw tW v1), (5, co 450005)] [(450005, .row tR wa5 true false)]
noncomputable def wi (k : Nat) (x : List (List Int)) : Option (List (List Int)) := aFn E gf k x
noncomputable def Xe (k : Nat) (x : dC × dS) : Option (List dC) := aFn E gS k x
noncomputable def uv (k : Nat) (v43 v44 : Int) (q2_0 : List Int) (q2_1 : Int) (p5 : List dC) (p42 : List (List Int)) : Option (List dC) := yb E k gS 8 [(2, .adr 200002 0), (5, co 100005), (42, co 100042), (43, ci v43), (44, ci v44)] [(200002, .box [.val tR q2_0, .val tI q2_1]), (100005, .row tC p5 false false), (100042, .row tR p42 false false)]
noncomputable def bn (k : Nat) (x : dC × dC) : Option Bool := aFn E cu k x
noncomputable def Xc (k : Nat) (x : (List dC) × dC) : Option Int := aFn E gL k x
noncomputable def uu (k : Nat) (v7 : List dC) (v8 v9 : Int) (q3_0 : List Int) (q3_1 : Int) : Option Int := yb E k gL 2 [(3, .adr 200003 0), (7, cw tD v7), (8, ci v8), (9, ci v9)] [(200003, .box [.val tR q3_0, .val tI q3_1])]
noncomputable def Xd (k : Nat) (x : dT) : Option ((List dC) × (List (List Int)) × Bool) := aFn E wU k x
noncomputable def wT (k : Nat) (v25 : List dS) (v26 v27 : Int) (p5 : List dC) (p6 : List (List Int)) : Option ((List dC) × (List (List Int)) × Bool) := yb E k wU 4 [(5, co 100005), (6, co 100006), (25, cw tQ v25), (26, ci v26), (27, ci v27)] [(100005, .row tC p5 false false), (100006, .row tR p6 true false)]
noncomputable def wS (k : Nat) (v25 : List dS) (v26 v27 v34 v35 : Int) (p6 : List (List Int)) (q8_0 q8_1 q8_2 q8_3 : Int) (p9 : List dC) (p10 : List (List Int)) (p33 : List dC) : Option ((List dC) × (List (List Int)) × Bool) := yb E k wU 9 [(6, co 100006), (8, .adr 200008 0), (9, co 100009), (10, co 100010), (25, cw tQ v25), (26, ci v26), (27, ci v27), (33, co 100033), (34, ci v34), (35, ci v35)] [(100006, .row tR p6 false false), (200008, .box [.val tI q8_0, .val tI q8_1, .val tI q8_2, .val tI q8_3]), (100009, .row tC p9 false false), (100010, .row tR p10 true false), (100033, .row tC p33 false false)]
noncomputable def xE (k : Nat) (v11 : Int) (v25 : List dS) (v26 v27 v34 v35 v43 v44 : Int) (p6 : List (List Int)) (q8_0 q8_1 q8_2 q8_3 : Int) (p9 : List dC) (p10 : List (List Int)) (p33 p42 : List dC) : Option ((List dC) × (List (List Int)) × Bool) := yb E k wU 12 [(6, co 100006), (8, .adr 200008 0), (9, co 100009), (10, co 100010), (11, ci v11), (25, cw tQ v25), (26, ci v26), (27, ci v27), (33, co 100033), (34, ci v34), (35, ci v35), (42, co 100042), (43, ci v43), (44, ci v44)] [(100006, .row tR p6 false false), (200008, .box [.val tI q8_0, .val tI q8_1, .val tI q8_2, .val tI q8_3]), (100009, .row tC p9 false false), (100010, .row tR p10 true false), (100033, .row tC p33 false false), (100042, .row tC p42 false false)]
noncomputable def Pu (k : Nat) (x : Int) : Option Bool := aFn E Th k x
noncomputable def Tj (k : Nat) (x : List Int) : Option Int := aFn E fr k x
noncomputable def wZ (k : Nat) (v3 : Int) (v6 : List Int) (v7 v8 : Int) : Option Int := yb E k fr 3 [(3, ci v3), (6, cw tR v6), (7, ci v7), (8, ci v8)] []
noncomputable def Zj (k : Nat) (x : dT × dC) : Option Bool := aFn E bU k x
noncomputable def ft (k : Nat) (x : dT) : Option (Int × (List Int) × (List Int) × Int × Bool) := aFn E vO k x
noncomputable def wj (k : Nat) (v5 : List (List Int)) (v23 v24 : Int) (q1_0 : List Int) (q1_1 : List dS) (q1_2 q1_3 q1_4 q2_0 q2_3 : Int) (p22 : List dC) : Option (Int × (List Int) × (List Int) × Int × Bool) := yb E k vO 7 [(1, .adr 200001 0), (2, .adr 200002 0), (5, cw tW v5), (22, co 100022), (23, ci v23), (24, ci v24)] [(200001, .box [.val tR q1_0, .val tQ q1_1, .val tI q1_2, .val tI q1_3, .val tI q1_4]), (200002, .box [.val tI q2_0, .nil, .nil, .val tI q2_3]), (100022, .row tC p22 false false)]
noncomputable def wM (k : Nat) (x : Int) : Option Int := aFn E Wi k x
noncomputable def wz (k : Nat) (x : List Int) : Option Bool := aFn E jO k x
noncomputable def vw (k : Nat) (v7 : List Int) (v8 v9 : Int) (s3 : List Bool) : Option Bool := yb E k jO 3 [(3, .adr 400003 0), (7, cw tR v7), (8, ci v8), (9, ci v9)] [(400003, .arr .bool s3)]
noncomputable def Un (k : Nat) (x : Int × Int × Int) : Option Bool := aFn E We k x
noncomputable def YI (k : Nat) (x : Int × dS) : Option Bool := aFn E X8 k x
noncomputable def uQ (k : Nat) (x : Int × Int) : Option Bool := aFn E je k x
noncomputable def yq (k : Nat) (x : (List Int) × Int) : Option Int := aFn E zE k x
noncomputable def zq (k : Nat) (v0 : List Int) (v1_0_0 v7 v8 : Int) : Option Int := yb E k zE 2 [(0, cw tR v0), (1, .fn 158 [[.val tI v1_0_0]]), (7, ci v7), (8, ci v8)] []
noncomputable def uG (k : Nat) (x : (List Int) × Int) : Option Int := aFn E fN k x
noncomputable def fK (k : Nat) (x : dT) : Option Bool := aFn E fI k x
noncomputable def vb (k : Nat) (v3 : Int) (v4 : Bool) (v25 : List dS) (v26 v27 : Int) (q1_0 : List Int) (q1_1 : List dS) (q1_2 q1_3 q1_4 : Int) : Option Bool := yb E k fI 6 [(1, .adr 200001 0), (3, ci v3), (4, cw .bool v4), (25, cw tQ v25), (26, ci v26), (27, ci v27)] [(200001, .box [.val tR q1_0, .val tQ q1_1, .val tI q1_2, .val tI q1_3, .val tI q1_4])]
noncomputable def zC (k : Nat) (x : List Int) : Option (List Int) := aFn E xe k x
noncomputable def fM (k : Nat) (x : dT) : Option ((List Int) × Int × Bool) := aFn E fL k x
noncomputable def vF (k : Nat) (x : (List Int) × Int) : Option (List Int) := aFn E slices_Grow_int_fi k x
noncomputable def zX (k : Nat) (x : List (List Int)) : Option (List Int) := aFn E yP k x
noncomputable def yO (k : Nat) (v0 : List (List Int)) (v3 : Int) (v9 : List (List Int)) (v10 v11 : Int) : Option (List Int) := yb E k yP 3 [(0, cw tW v0), (3, ci v3), (9, cw tW v9), (10, ci v10), (11, ci v11)] []
noncomputable def yF (k : Nat) (v25 : List (List Int)) (v26 v27 : Int) (p6 : List Int) : Option (List Int) := yb E k yP 11 [(6, co 100006), (25, cw tW v25), (26, ci v26), (27, ci v27)] [(100006, .row tI p6 true false)]
noncomputable def wc (k : Nat) (x : List Int) : Option (Unit × List Int) := aFn E slices_Reverse_int_fi k x
noncomputable def jb (k : Nat) (x : List Int) : Option (List Int) := aFn E aw k x
noncomputable def PW (k : Nat) (x : (List Int) × Int) : Option (List Int) := aFn E X3 k x
noncomputable def yY (k : Nat) (v5 v6 : List Int) (v8 : Bool) (p7 : List Int) : Option (List Int) := yb E k X3 4 [(5, cw tR v5), (6, cw tR v6), (7, co 100007), (8, cw .bool v8)] [(100007, .row tI p7 true true)]
noncomputable def PQ (k : Nat) (x : (List Int) × Int) : Option (List Int) := aFn E Zr k x
noncomputable def vB (k : Nat) (v1 : Int) (v8 : List Int) (v9 v10 : Int) (p5 : List Int) : Option (List Int) := yb E k Zr 3 [(1, ci v1), (5, co 100005), (8, cw tR v8), (9, ci v9), (10, ci v10)] [(100005, .row tI p5 true false)]
noncomputable def Mr (k : Nat) (x : List Int) : Option (List Int) := aFn E X2 k x
noncomputable def az (k : Nat) (v0 p3 : List Int) : Option (List Int) := yb E k X2 2 [(0, cw tR v0), (3, co 100003)] [(100003, .row tI p3 true false)]
noncomputable def PX (k : Nat) (x : (List Int) × Int) : Option (List Int) := aFn E Zs k x
noncomputable def jd (k : Nat) (v7 : Bool) (p5 p6 : List Int) : Option (List Int) := yb E k Zs 4 [(5, co 100005), (6, co 100006), (7, cw .bool v7)] [(100005, .row tI p5 true true), (100006, .row tI p6 true false)]
noncomputable def eK (k : Nat) (x : Int) : Option Int := aFn E aD k x
noncomputable def X1 (k : Nat) (x : (List Int) × Int × Int) : Option (List Int) := aFn E Zp k x
noncomputable def jK (k : Nat) (v5 v7 : Int) (p6 : List Int) : Option (List Int) := yb E k Zp 10 [(5, ci v5), (6, co 100006), (7, ci v7)] [(100006, .row tI p6 true false)]
noncomputable def RT (k : Nat) (x : List Int) : Option (List (List Int)) := aFn E X5 k x
noncomputable def aB (k : Nat) (v0 : List Int) (v6 v7 : Int) (p3 : List (List Int)) : Option (List (List Int)) := yb E k X5 3 [(0, cw tR v0), (3, co 100003), (6, ci v6), (7, ci v7)] [(100003, .row tR p3 true true)]
noncomputable def X0 (k : Nat) (x : (List Int) × Int) : Option (List Int) := aFn E uE k x
noncomputable def uD (k : Nat) (v0 : List Int) (v1 v5 v6 v11 v12 : Int) : Option (List Int) := yb E k uE 3 [(0, cw tR v0), (1, ci v1), (5, ci v5), (6, ci v6), (11, ci v11), (12, ci v12)] []
noncomputable def w8 (k : Nat) (v0 : List Int) (v1 v5 v6 v24 v25 : Int) (p8 : List Int) : Option (List Int) := yb E k uE 9 [(0, cw tR v0), (1, ci v1), (5, ci v5), (6, ci v6), (8, co 100008), (24, ci v24), (25, ci v25)] [(100008, .row tI p8 true true)]
noncomputable def MN (k : Nat) (x : (List Int) × Int) : Option ((List (List Int)) × Bool) := aFn E YH k x
noncomputable def YG (k : Nat) (v0 : List Int) (v7 : Int) (p6 : List (List Int)) : Option ((List (List Int)) × Bool) := yb E k YH 9 [(0, cw tR v0), (6, co 100006), (7, ci v7)] [(100006, .row tR p6 true true)]
noncomputable def aC (k : Nat) (v0 : List Int) (v48 v49 : Int) (p8 : List (List Int)) : Option ((List (List Int)) × Bool) := yb E k YH 20 [(0, cw tR v0), (8, co 100008), (48, ci v48), (49, ci v49)] [(100008, .row tR p8 true true)]
noncomputable def xd (k : Nat) (x : (List (List Int)) × Bool) : Option (Unit × List (List Int)) := aFn E slices_SortFunc_int_int_fi k x
noncomputable def yC (k : Nat) (x : (List (List Int)) × Bool) : Option (List (List Int)) := aFn E slices_CompactFunc_int_int_fi k x
noncomputable def jN (k : Nat) (x : List (List Int)) : Option (List (List Int)) := aFn E vl k x
noncomputable def xU (k : Nat) (v6 : List (List Int)) (v7 v8 : Int) (p3 : List (List Int)) : Option (List (List Int)) := yb E k vl 3 [(3, co 100003), (6, cw tW v6), (7, ci v7), (8, ci v8)] [(100003, .row tR p3 true true)]
noncomputable def bz (k : Nat) (x : (List Int) × Int) : Option ((List (List Int)) × Bool) := aFn E cL k x
noncomputable def x6 (k : Nat) (x : dC × dS) : Option (List dC) := aFn E uc k x
noncomputable def xV (k : Nat) (v68 v69 : Int) (q2_0 : List Int) (q2_1 : Int) (p5 : List dC) (va67 : List (List Int)) (va67_n : Nat) : Option (List dC) := yb E k uc 11 [(2, .adr 200002 0), (5, co 100005), (67, co 440067), (68, ci v68), (69, ci v69)] [(200002, .box [.val tR q2_0, .val tI q2_1]), (100005, .row tC p5 true true), (440067, .tl tR va67 va67_n)]
noncomputable def strconv_Itoa (k : Nat) (x : Int) : Option ByteArray := aFn E strconv_Itoa_fi k x
noncomputable def jQ (k : Nat) (x : Int) : Option ByteArray := aFn E cM k x
noncomputable def bw (k : Nat) (x : List Int) : Option (List ByteArray) := aFn E uP k x
noncomputable def wL (k : Nat) (v6 : List Int) (v7 v8 : Int) (p3 : List ByteArray) : Option (List ByteArray) := yb E k uP 3 [(3, co 100003), (6, cw tR v6), (7, ci v7), (8, ci v8)] [(100003, .row .str p3 true true)]
noncomputable def strings_Join (k : Nat) (x : (List ByteArray) × ByteArray) : Option ByteArray := aFn E strings_Join_fi k x
noncomputable def P1 (k : Nat) (x : (List ByteArray) × ByteArray) : Option ByteArray := aFn E TU k x
noncomputable def jP (k : Nat) (x : List Int) : Option ByteArray := aFn E gq k x
noncomputable def jL (k : Nat) (x : dC) : Option ByteArray := aFn E Vs k x
noncomputable def Uk (k : Nat) (x : dT) : Option ((List (List dC)) × Bool) := aFn E vW k x
noncomputable def vV (k : Nat) (v25 : List dS) (v26 v27 : Int) (wa6 : List (List dC)) : Option ((List (List dC)) × Bool) := yb E k vW 4 [(6, co 450006), (25, cw tQ v25), (26, ci v26), (27, ci v27)] [(450006, .row tD wa6 true false)]
noncomputable def vU (k : Nat) (v25 : List dS) (v26 v27 v37 v38 : Int) (ta6 : List (List dC)) (ta6_i : Nat) (q8_0 q8_1 q8_2 q8_3 : Int) (ua9 : List ByteArray) (wa10 wa36 : List dC) : Option ((List (List dC)) × Bool) := yb E k vW 9 [(6, co 420006), (8, .adr 200008 0), (9, co 430009), (10, co 450010), (25, cw tQ v25), (26, ci v26), (27, ci v27), (36, co 450036), (37, ci v37), (38, ci v38)] [(420006, .hole tC ta6 ta6_i (.own 450036)), (200008, .box [.val tI q8_0, .val tI q8_1, .val tI q8_2, .val tI q8_3]), (430009, .mp ua9), (450010, .row tC wa10 true true), (450036, .row tC wa36 true false)]
noncomputable def w9 (k : Nat) (v25 : List dS) (v26 v27 v37 v38 v45 v46 : Int) (ta6 : List (List dC)) (ta6_i : Nat) (q8_0 q8_1 q8_2 q8_3 : Int) (ua9 : List ByteArray) (wa10 wa36 va44 : List dC) (va44_n : Nat) : Option ((List (List dC)) × Bool) := yb E k vW 12 [(6, co 420006), (8, .adr 200008 0), (9, co 430009), (10, co 450010), (25, cw tQ v25), (26, ci v26), (27, ci v27), (36, co 450036), (37, ci v37), (38, ci v38), (44, co 440044), (45, ci v45), (46, ci v46)] [(420006, .hole tC ta6 ta6_i (.own 450036)), (200008, .box [.val tI q8_0, .val tI q8_1, .val tI q8_2, .val tI q8_3]), (430009, .mp ua9), (450010, .row tC wa10 true true), (450036, .row tC wa36 true false), (440044, .tl tC va44 va44_n)]
noncomputable def wA (k : Nat) (x : Int × List Int) : Option Bool := aFn E vn k x
noncomputable def yj (k : Nat) (x : (List Int) × List Int) : Option Int := aFn E zx k x
noncomputable def zn (k : Nat) (v0 v1_0_0 : List Int) (v7 v8 : Int) : Option Int := yb E k zx 2 [(0, cw tR v0), (1, .fn 156 [[.val tR v1_0_0]]), (7, ci v7), (8, ci v8)] []
noncomputable def z8 (k : Nat) (x : (List Int) × List Int) : Option Bool := aFn E zS k x
noncomputable def ud (k : Nat) (x : (List Int) × List Int) : Option Bool := aFn E uH k x
noncomputable def P4 (k : Nat) (x : Int) : Option Bool := aFn E TV k x
noncomputable def TX (k : Nat) (x : List Int) : Option Int := aFn E fR k x
noncomputable def vc (k : Nat) (v3 : Int) (v6 : List Int) (v7 v8 : Int) : Option Int := yb E k fR 3 [(3, ci v3), (6, cw tR v6), (7, ci v7), (8, ci v8)] []
noncomputable def yv (k : Nat) (x : (List Int) × List Int) : Option Bool := aFn E slices_Equal_int_fi k x
noncomputable def zy (k : Nat) (v0 v1 : List Int) (v12 v13 : Int) : Option Bool := yb E k slices_Equal_int_fi 4 [(0, cw tR v0), (1, cw tR v1), (12, ci v12), (13, ci v13)] []
noncomputable def uI (k : Nat) (x : dT × dC) : Option Bool := aFn E fS k x
noncomputable def uS (k : Nat) (x : dC × dT) : Option Bool := aFn E jg k x
noncomputable def yh (k : Nat) (x : (List dC) × dT) : Option Int := aFn E zv k x
noncomputable def zm (k : Nat) (v0 : List dC) (v1_0_0 : List Int) (v1_0_1 : List dS) (v1_0_2 v1_0_3 v1_0_4 v7 v8 : Int) : Option Int := yb E k zv 2 [(0, cw tD v0), (1, .fn 73 [[.val tR v1_0_0, .val tQ v1_0_1, .val tI v1_0_2, .val tI v1_0_3, .val tI v1_0_4]]), (7, ci v7), (8, ci v8)] []
noncomputable def zw (k : Nat) (x : (List dC) × dT) : Option Bool := aFn E zN k x
noncomputable def bx (k : Nat) (x : dC × (List (Option (List ByteArray))) × Int) : Option Bool := aFn E cJ k x
noncomputable def ym (k : Nat) (x : (List dC) × (List (Option (List ByteArray))) × Int) : Option Int := aFn E zz k x
noncomputable def zp (k : Nat) (v0 : List dC) (v1_0_0 : List (Option (List ByteArray))) (v1_1_0 v7 v8 : Int) : Option Int := yb E k zz 2 [(0, cw tD v0), (1, .fn 143 [[.val (.slice .set) v1_0_0], [.val tI v1_1_0]]), (7, ci v7), (8, ci v8)] []
noncomputable def zB (k : Nat) (x : (List dC) × (List (Option (List ByteArray))) × Int) : Option Bool := aFn E zW k x
noncomputable def X4 (k : Nat) (x : dT × List (List dC)) : Option (List (Option (List ByteArray))) := aFn E uF k x
noncomputable def va (k : Nat) (v1 : List (List dC)) (q2_0 : List Int) (q2_1 : List dS) (q2_2 q2_3 q2_4 : Int) (r500 : List (Option (List ByteArray))) (q6_0 : Int) : Option (List (Option (List ByteArray))) := yb E k uF 3 [(1, cw (.slice tD) v1), (2, .adr 200002 0), (5, .adr 200005 0), (6, .adr 200006 0)] [(200002, .box [.val tR q2_0, .val tQ q2_1, .val tI q2_2, .val tI q2_3, .val tI q2_4]), (200005, .box [.own 300500]), (300500, .row .set r500 true false), (200006, .box [.val tI q6_0])]
noncomputable def yH (k : Nat) (v1 : List (List dC)) (v27 : List dC) (v28 v29 : Int) (q2_0 : List Int) (q2_1 : List dS) (q2_2 q2_3 q2_4 : Int) (r500 : List (Option (List ByteArray))) (q6_0 : Int) : Option (List (Option (List ByteArray))) := yb E k uF 7 [(1, cw (.slice tD) v1), (2, .adr 200002 0), (5, .adr 200005 0), (6, .adr 200006 0), (27, cw tD v27), (28, ci v28), (29, ci v29)] [(200002, .box [.val tR q2_0, .val tQ q2_1, .val tI q2_2, .val tI q2_3, .val tI q2_4]), (200005, .box [.own 300500]), (300500, .row .set r500 true false), (200006, .box [.val tI q6_0])]
noncomputable def uR (k : Nat) (x : dC × (List (Option (List ByteArray))) × Int) : Option Bool := aFn E jf k x
noncomputable def zA (k : Nat) (x : (List dC) × (List (Option (List ByteArray))) × Int) : Option Int := aFn E zu k x
noncomputable def zl (k : Nat) (v0 : List dC) (v1_0_0 : List (Option (List ByteArray))) (v1_1_0 v7 v8 : Int) : Option Int := yb E k zu 2 [(0, cw tD v0), (1, .fn 77 [[.val (.slice .set) v1_0_0], [.val tI v1_1_0]]), (7, ci v7), (8, ci v8)] []
noncomputable def X6 (k : Nat) (x : dC) : Option ((List Int) × Int) := aFn E cK k x
noncomputable def uJ (k : Nat) (x : dT) : Option (Int × (List Int) × (List Int) × Int × Bool) := aFn E ug k x
noncomputable def xk (k : Nat) (v45 : List dS) (v46 v47 q2_0 q2_3 : Int) (q6_0 : List Int) (q6_1 : Int) (r700 : List (Option (List ByteArray))) (q8_0 q8_3 : Int) (r801 : List Int) : Option (Int × (List Int) × (List Int) × Int × Bool) := yb E k ug 12 [(2, .adr 200002 0), (6, .adr 200006 0), (7, .adr 200007 0), (8, .adr 200008 0), (45, cw tQ v45), (46, ci v46), (47, ci v47)] [(200002, .box [.val tI q2_0, .nil, .nil, .val tI q2_3]), (200006, .box [.val tR q6_0, .val tI q6_1]), (200007, .box [.own 300700]), (300700, .row .set r700 true false), (200008, .box [.val tI q8_0, .own 300801, .nil, .val tI q8_3]), (300801, .row tI r801 true true)]
noncomputable def bI (k : Nat) (x : (List Int) × List Int) : Option Bool := aFn E be k x
noncomputable def jx (k : Nat) (v0 v1 : List Int) (v5 : Int) : Option Bool := yb E k be 4 [(0, cw tR v0), (1, cw tR v1), (5, ci v5)] []
noncomputable def Y0 (k : Nat) (x : dC × dC) : Option Bool := aFn E ZK k x
noncomputable def vD (k : Nat) (x : (Int × (List Int) × dC) × Int × (List Int) × dC) : Option Bool := aFn E ce k x
noncomputable def VU (k : Nat) (x : (Int × Int) × Int × Int) : Option Bool := aFn E Y1 k x
noncomputable def VT (k : Nat) (x : dS × dS) : Option Bool := aFn E YY k x
noncomputable def YZ (k : Nat) (x : (List dS) × List dS) : Option Bool := aFn E gC k x
noncomputable def ut (k : Nat) (v0 v1 : List dS) (v5 : Int) : Option Bool := yb E k gC 4 [(0, cw tQ v0), (1, cw tQ v1), (5, ci v5)] []
noncomputable def YX (k : Nat) (x : dT × dT) : Option Bool := aFn E ZJ k x
noncomputable def uX (k : Nat) (x : (List Int) × Int) : Option (Int × List Int) := aFn E jv k x
noncomputable def vo (k : Nat) (v1 v5 : Int) (z : List Int) : Option (Int × List Int) := yb E k jv 2 [(0, co 500000), (1, ci v1), (5, ci v5)] [(500000, .row tI z true false)]
noncomputable def cZ (k : Nat) (x : (List dS) × Int) : Option (Int × List dS) := aFn E uK k x
noncomputable def wH (k : Nat) (v1 v5 : Int) (z : List dS) : Option (Int × List dS) := yb E k uK 2 [(0, co 500000), (1, ci v1), (5, ci v5)] [(500000, .row tS z true false)]
noncomputable def cY (k : Nat) (x : dT × Int) : Option (Int × (List Int) × List dS) := aFn E ca k x
noncomputable def c9 (k : Nat) (x : dC × Int) : Option (Int × List Int) := aFn E cb k x
noncomputable def ju (k : Nat) (x : (Int × (List Int) × dC) × Int) : Option (Int × (List Int) × List Int) := aFn E jY k x
noncomputable def ef (k : Nat) (x : (List Int) × Int) : Option Int := aFn E jw k x
noncomputable def vq (k : Nat) (v0 : List Int) (v1 v5 : Int) : Option Int := yb E k jw 2 [(0, cw tR v0), (1, ci v1), (5, ci v5)] []
noncomputable def bd (k : Nat) (x : dC × Int) : Option Int := aFn E cd k x
noncomputable def vp (k : Nat) (x : (Int × (List Int) × dC) × Int) : Option Int := aFn E j7 k x
noncomputable def vE (k : Nat) (x : dT) : Option Bool := aFn E xm k x
abbrev gw : Gw := ⟨fun w => Go.Lib.TabIs Tryz.prog w "internal/strconv.uint64pow10" .u64 Go.Lib.pow10Tab, false⟩
theorem ty_3 : TyOk Tryz.prog 3 (.one (tI)) := Rt (by kernel_rfl) (by kernel_rfl) (by kernel_rfl)
theorem ty_4 : TyOk Tryz.prog 4 (.one (.bool)) := Pg (by kernel_rfl) (by kernel_rfl) (by kernel_rfl)
theorem Mw : TyOk Tryz.prog 23 (.one (tR)) := xD (e := 3) (by kernel_rfl) (by kernel_rfl) (by kernel_rfl) (xP (by kernel_rfl) (by kernel_rfl) (by kernel_rfl))
theorem Lz : TyOk Tryz.prog 24 (.one (tQ)) := xD (e := 40) (by kernel_rfl) (by kernel_rfl) (by kernel_rfl) (xP (by kernel_rfl) (by kernel_rfl) (by kernel_rfl))
theorem Ly : TyOk Tryz.prog 26 (.struct [(0, 23), (1, 24), (2, 3), (3, 3), (4, 3)] [tR, tQ, tI, tI, tI] false) := xw (fields := Tryz.prog.fieldsOf 26) (by kernel_rfl) (by kernel_rfl) (by kernel_rfl) (by kernel_rfl) (by kernel_rfl) (by kernel_rfl) (fun e => by cases e)
theorem Lw : TyOk Tryz.prog 30 (.one (tD)) := xD (e := 35) (by kernel_rfl) (by kernel_rfl) (by kernel_rfl) (xP (by kernel_rfl) (by kernel_rfl) (by kernel_rfl))
theorem Lv : TyOk Tryz.prog 35 (.struct [(0, 23), (1, 3)] [tR, tI] false) := xw (fields := Tryz.prog.fieldsOf 35) (by kernel_rfl) (by kernel_rfl) (by kernel_rfl) (by kernel_rfl) (by kernel_rfl) (by kernel_rfl) (fun e => by cases e)
theorem Lu : TyOk Tryz.prog 38 (.struct [(0, 3), (1, 3)] [tI, tI] true) := xw (fields := Tryz.prog.fieldsOf 38) (by kernel_rfl) (by kernel_rfl) (by kernel_rfl) (by kernel_rfl) (by kernel_rfl) (by kernel_rfl) (fun _ => jz (d := 20) (fields := Tryz.prog.fieldsOf 38) (by kernel_rfl) (by kernel_rfl) (by decide) (by kernel_rfl))
theorem Lt : TyOk Tryz.prog 40 (.struct [(0, 3), (1, 38), (3, 3)] [tI, tI, tI, tI] true) := xw (fields := Tryz.prog.fieldsOf 40) (by kernel_rfl) (by kernel_rfl) (by kernel_rfl) (by kernel_rfl) (by kernel_rfl) (by kernel_rfl) (fun _ => jz (d := 20) (fields := Tryz.prog.fieldsOf 40) (by kernel_rfl) (by kernel_rfl) (by decide) (by kernel_rfl))
theorem Lp : TyOk Tryz.prog 42 (.one (tQ)) := xD (e := 141) (by kernel_rfl) (by kernel_rfl) (by kernel_rfl) (xP (by kernel_rfl) (by kernel_rfl) (by kernel_rfl))
theorem Lo : TyOk Tryz.prog 44 (.struct [(0, 23), (1, 42), (2, 3), (3, 3), (4, 3)] [tR, tQ, tI, tI, tI] false) := xw (fields := Tryz.prog.fieldsOf 44) (by kernel_rfl) (by kernel_rfl) (by kernel_rfl) (by kernel_rfl) (by kernel_rfl) (by kernel_rfl) (fun e => by cases e)
theorem Ln : TyOk Tryz.prog 47 (.struct [(0, 3), (1, 23), (2, 35)] [tI, tR, tR, tI] false) := xw (fields := Tryz.prog.fieldsOf 47) (by kernel_rfl) (by kernel_rfl) (by kernel_rfl) (by kernel_rfl) (by kernel_rfl) (by kernel_rfl) (fun e => by cases e)
theorem Lm : TyOk Tryz.prog 81 (.one (.slice .str)) := xD (e := 9) (by kernel_rfl) (by kernel_rfl) (by kernel_rfl) (xP (by kernel_rfl) (by kernel_rfl) (by kernel_rfl))
theorem Ll : TyOk Tryz.prog 88 (.one (.slice tD)) := xD (e := 30) (by kernel_rfl) (by kernel_rfl) (by kernel_rfl) (xP (by kernel_rfl) (by kernel_rfl) (by kernel_rfl))
theorem Lk : TyOk Tryz.prog 93 (.one (tW)) := xD (e := 23) (by kernel_rfl) (by kernel_rfl) (by kernel_rfl) (xP (by kernel_rfl) (by kernel_rfl) (by kernel_rfl))
theorem M9 : TyOk Tryz.prog 100 (.one (.slice .set)) := xD (e := 104) (by kernel_rfl) (by kernel_rfl) (by kernel_rfl) (xP (by kernel_rfl) (by kernel_rfl) (by kernel_rfl))
theorem M8 : TyOk Tryz.prog 104 (.one (.set)) := NH (kt := 9) (et := 4) (by kernel_rfl) (by kernel_rfl) (by kernel_rfl) (by kernel_rfl) (by kernel_rfl)
theorem M7 : TyOk Tryz.prog 139 (.struct [(0, 3), (1, 3)] [tI, tI] true) := xw (fields := Tryz.prog.fieldsOf 139) (by kernel_rfl) (by kernel_rfl) (by kernel_rfl) (by kernel_rfl) (by kernel_rfl) (by kernel_rfl) (fun _ => jz (d := 20) (fields := Tryz.prog.fieldsOf 139) (by kernel_rfl) (by kernel_rfl) (by decide) (by kernel_rfl))
theorem M6 : TyOk Tryz.prog 141 (.struct [(0, 3), (1, 139), (3, 3)] [tI, tI, tI, tI] true) := xw (fields := Tryz.prog.fieldsOf 141) (by kernel_rfl) (by kernel_rfl) (by kernel_rfl) (by kernel_rfl) (by kernel_rfl) (by kernel_rfl) (fun _ => jz (d := 20) (fields := Tryz.prog.fieldsOf 141) (by kernel_rfl) (by kernel_rfl) (by decide) (by kernel_rfl))
theorem M5 : TyOk Tryz.prog 149 (.arr 12 (.bool)) := NI (e := 4) (by kernel_rfl) (xP (by kernel_rfl) (by kernel_rfl) (by kernel_rfl)) (by kernel_rfl) (by kernel_rfl)
theorem Qf : TyOk Tryz.prog 5023023 (.flag) := trivial
theorem Qe : TyOk Tryz.prog 5023031 (.flag) := trivial
theorem Qd : TyOk Tryz.prog 5023072 (.flag) := trivial
theorem Qb : TyOk Tryz.prog 5035049 (.flag) := trivial
theorem Qa : TyOk Tryz.prog 5073036 (.flag) := trivial
theorem R9 : TyOk Tryz.prog 5077056 (.flag) := trivial
theorem R8 : TyOk Tryz.prog 5143049 (.flag) := trivial
theorem R7 : TyOk Tryz.prog 8104055 (.flag) := trivial
theorem hE : ∀ T ti, E.ty T = some ti → TyOk Tryz.prog T ti := Ud (l := tyL) ⟨ty_3, ty_4, Mw, Lz, Ly, Lw, Lv, Lu, Lt, Lp, Lo, Ln, Lm, Ll, Lk, M9, M8, M7, M6, M5, Qf, Qe, Qd, Qb, Qa, R9, R8, R7, trivial⟩
theorem bQ : OneF Tryz.prog gw 204 slices_Grow_int_fi := Tryz.growOne
theorem gG : OneF Tryz.prog gw 205 slices_Reverse_int_fi := Tryz.revOne
theorem uo : OneF Tryz.prog gw 208 slices_SortFunc_int_int_fi := Tryz.sortOne
theorem vg : OneF Tryz.prog gw 210 slices_CompactFunc_int_int_fi := Tryz.compactOne
theorem Y7 : OneF Tryz.prog gw 151 strconv_Itoa_fi := ML Tryz.func151 (by kernel_rfl) (by kernel_rfl) (fun n w hw h0 h1 => Tryz.strconv_Itoa n h0 h1 w hw)
theorem Y5 : OneF Tryz.prog gw 166 strings_Join_fi := MK Tryz.func166 (by kernel_rfl) (by kernel_rfl) (fun a c sep w => Tryz.strings_Join_none a c sep w) (fun bk o c xs sep w hc hb hN hcap hl => Tryz.strings_Join bk o c xs sep w hc hb hN hcap hl) rfl
theorem hF : FnOk Tryz.prog gw E := Ue (l := fnL) ⟨(okOf Tryz.func66 (by kernel_rfl)), (okOf Tryz.func67 (by kernel_rfl)), (okOf Tryz.func18 (by kernel_rfl)), (okOf Tryz.func70 (by kernel_rfl)), (okOf Tryz.func175 (by kernel_rfl)), (okOf Tryz.func142 (by kernel_rfl)), (okOf Tryz.func71 (by kernel_rfl)), (okOf Tryz.func20 (by kernel_rfl)), (okOf Tryz.func88 (by kernel_rfl)), (okOf Tryz.func154 (by kernel_rfl)), (okOf Tryz.func159 (by kernel_rfl)), (okOf Tryz.func116 (by kernel_rfl)), (okOf Tryz.func160 (by kernel_rfl)), (okOf Tryz.func161 (by kernel_rfl)), (okOf Tryz.func117 (by kernel_rfl)), (okOf Tryz.func139 (by kernel_rfl)), (okOf Tryz.func118 (by kernel_rfl)), (okOf Tryz.func47 (by kernel_rfl)), (okOf Tryz.func200 (by kernel_rfl)), (okOf Tryz.func195 (by kernel_rfl)), (okOf Tryz.func196 (by kernel_rfl)), (okOf Tryz.func197 (by kernel_rfl)), (okOf Tryz.func198 (by kernel_rfl)), (okOf Tryz.func199 (by kernel_rfl)), (okOf Tryz.func171 (by kernel_rfl)), (okOf Tryz.func202 (by kernel_rfl)), (okOf Tryz.func203 (by kernel_rfl)), (okOf Tryz.func173 (by kernel_rfl)), (okOf Tryz.func141 (by kernel_rfl)), (okOf Tryz.func220 (by kernel_rfl)), (okOf Tryz.func201 (by kernel_rfl)), (okOf Tryz.func172 (by kernel_rfl)), (okOf Tryz.func137 (by kernel_rfl)), (okOf Tryz.func94 (by kernel_rfl)), (okOf Tryz.func138 (by kernel_rfl)), (okOf Tryz.func68 (by kernel_rfl)), (okOf Tryz.func174 (by kernel_rfl)), (okOf Tryz.func140 (by kernel_rfl)), (okOf Tryz.func69 (by kernel_rfl)), (okOf Tryz.func19 (by kernel_rfl)), (okOf Tryz.func109 (by kernel_rfl)), (okOf Tryz.func113 (by kernel_rfl)), (okOf Tryz.func128 (by kernel_rfl)), (okOf Tryz.func114 (by kernel_rfl)), (okOf Tryz.func158 (by kernel_rfl)), (okOf Tryz.func157 (by kernel_rfl)), (okOf Tryz.func115 (by kernel_rfl)), (okOf Tryz.func46 (by kernel_rfl)), (okOf Tryz.func135 (by kernel_rfl)), (okOf Tryz.func111 (by kernel_rfl)), bQ, (okOf Tryz.func176 (by kernel_rfl)), gG, (okOf Tryz.func177 (by kernel_rfl)), (okOf Tryz.func179 (by kernel_rfl)), (okOf Tryz.func180 (by kernel_rfl)), (okOf Tryz.func181 (by kernel_rfl)), (okOf Tryz.func182 (by kernel_rfl)), (okOf Tryz.func178 (by kernel_rfl)), (okOf Tryz.func144 (by kernel_rfl)), (okOf Tryz.func206 (by kernel_rfl)), (okOf Tryz.func207 (by kernel_rfl)), (okOf Tryz.func183 (by kernel_rfl)), uo, vg, (okOf Tryz.func184 (by kernel_rfl)), (okOf Tryz.func145 (by kernel_rfl)), (okOf Tryz.func75 (by kernel_rfl)), Y7, (okOf Tryz.func104 (by kernel_rfl)), (okOf Tryz.func152 (by kernel_rfl)), Y5, (okOf Tryz.func125 (by kernel_rfl)), (okOf Tryz.func105 (by kernel_rfl)), (okOf Tryz.func78 (by kernel_rfl)), (okOf Tryz.func64 (by kernel_rfl)), (okOf Tryz.func156 (by kernel_rfl)), (okOf Tryz.func157 (by kernel_rfl)), (okOf Tryz.func155 (by kernel_rfl)), (okOf Tryz.func108 (by kernel_rfl)), (okOf Tryz.func124 (by kernel_rfl)), (okOf Tryz.func110 (by kernel_rfl)), (okOf Tryz.func65 (by kernel_rfl)), (okOf Tryz.func40 (by kernel_rfl)), (okOf Tryz.func73 (by kernel_rfl)), (okOf Tryz.func76 (by kernel_rfl)), (okOf Tryz.func72 (by kernel_rfl)), (okOf Tryz.func143 (by kernel_rfl)), (okOf Tryz.func76 (by kernel_rfl)), (okOf Tryz.func72 (by kernel_rfl)), (okOf Tryz.func74 (by kernel_rfl)), (okOf Tryz.func77 (by kernel_rfl)), (okOf Tryz.func76 (by kernel_rfl)), (okOf Tryz.func79 (by kernel_rfl)), (okOf Tryz.func21 (by kernel_rfl)), (okOf Tryz.func80 (by kernel_rfl)), (okOf Tryz.func81 (by kernel_rfl)), (okOf Tryz.func22 (by kernel_rfl)), (okOf Tryz.func185 (by kernel_rfl)), (okOf Tryz.func146 (by kernel_rfl)), (okOf Tryz.func82 (by kernel_rfl)), (okOf Tryz.func23 (by kernel_rfl)), (okOf Tryz.func83 (by kernel_rfl)), (okOf Tryz.func84 (by kernel_rfl)), (okOf Tryz.func24 (by kernel_rfl)), (okOf Tryz.func85 (by kernel_rfl)), (okOf Tryz.func25 (by kernel_rfl)), (okOf Tryz.func86 (by kernel_rfl)), (okOf Tryz.func87 (by kernel_rfl)), (okOf Tryz.func26 (by kernel_rfl)), (okOf Tryz.func4 (by kernel_rfl)), trivial⟩
end Pt
