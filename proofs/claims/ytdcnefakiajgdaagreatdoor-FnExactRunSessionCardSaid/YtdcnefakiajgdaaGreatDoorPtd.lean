/-
  The plain machine's telling of functions of the program: codes, functions, tables. Printed by gen11.py.
  Conditions: none; these are definitions and equations that the kernel checks.
-/
import Derived.Test.YtdcnefakiajgdaaGreatDoorVd
import Derived.Test.YtdcnefakiajgdaaGreatDoorProg
import Derived.Test.YtdcnefakiajgdaaGreatDoorShelf
import Derived.Test.YtdcnefakiajgdaaGreatDoorCmf
import Derived.Test.YtdcnefakiajgdaaGreatDoorDel
import Derived.Test.YtdcnefakiajgdaaGreatDoorSrt
set_option linter.unusedVariables false
namespace Pt
open Go Go.Vt Go.Proofs Go.Proofs.Tryz
noncomputable section
set_option maxRecDepth 100000
abbrev tI:Ty:= .int .i64
abbrev tR:Ty:= .slice tI
abbrev tS:Ty:= .pair tI (.pair (.pair tI tI) tI)
abbrev tQ:Ty:= .slice tS
abbrev tT:Ty:= .pair tR (.pair tQ (.pair tI (.pair tI tI)))
abbrev tC:Ty:= .pair tR tI
abbrev tD:Ty:= .slice tC
abbrev tW:Ty:= .slice tR
abbrev tN:Ty:= .pair tT tC
abbrev dS:Type:=Int×(Int×Int)×Int
abbrev dT:Type:=List Int×List dS×Int×Int×Int
abbrev dC:Type:=List Int×Int
abbrev dN:Type:=dT×dC
noncomputable abbrev ci (x:Int):AV:= .cv (.val tI x)
noncomputable abbrev cw (t:Ty)(x:t.den):AV:= .cv (.val t x)
abbrev hK:= @Hint.keep
abbrev hC (a b:Nat)(t:Ty):Hint:= .cell a (.row b t true false)
noncomputable abbrev co (c:Nat):AV:= .cv (.own c)
noncomputable def tyL:List (Nat×TI):=[(3, .one (tI)),(4, .one (.bool)),(5, .one (.int .u8)),(9, .one (.str)),(25, .one (tR)),(34, .one (tQ)),(36, .struct [(0,25),(1,34),(2,3),(3,3),(4,3)] [tR,tQ,tI,tI,tI] false),(37, .struct [(0,25),(1,3)] [tR,tI] false),(39, .struct [(0,36),(5,37)] [tR,tQ,tI,tI,tI,tR,tI] false),(46, .one (.slice .str)),(77, .struct [(0,3),(1,3)] [tI,tI] true),(79, .struct [(0,3),(1,77),(3,3)] [tI,tI,tI,tI] true),(107, .struct [(0,3),(1,25),(2,37)] [tI,tR,tR,tI] false),(130, .one (.err)),(135, .one (tD)),(136, .one (tW)),(140, .one (.slice (.int .u8))),(169, .arr 12 (.bool)),(176, .one (.slice .bool)),(189, .imap),(190, .one (.slice tD)),(195, .one (.slice .set)),(198, .one (.set)),(1000140, .bytes),(5025023, .flag),(5025025, .flag),(5025031, .flag),(5025072, .flag),(5037049, .flag),(5037057, .flag),(5135021, .flag),(5229036, .flag),(5233056, .flag),(5260049, .flag),(8198055, .flag),(9000022, .flag),(9000023, .flag),(9000024, .flag),(9000025, .flag),(9000050, .flag)]
noncomputable def eT:Fi:=fiOf f21 [.v .str false, .v .str false] [(false,[⟨.slice .str,some (true,false)⟩])] fun|4=>some [hK 0,hK 1,hC 5 100005 .str,hK 6,hK 7]|7=>some [hK 0,hK 1,hC 5 100005 .str,hK 6,hK 7,hK 8]|_=>none
noncomputable def WU:Fi:=fiOf f14 [.v .str false] [(false,[⟨.slice .str,none⟩])] h0
noncomputable def Gi:Fi:=fiOf f79 [.v tI false, .v tI false, .v tI false] [(false,[⟨.bool,none⟩])] h0
noncomputable def Zd:Fi:=fiOf f38 [.v tI false] [(false,[⟨tR,some (true,true)⟩])] fun|5=>some [hK 0,hC 3 100003 tI,hK 4]|_=>none
noncomputable def W0:Fi:=fiOf f15 [] [(true,[⟨tR,some (true,true)⟩,⟨tQ,some (true,true)⟩,⟨tI,none⟩,⟨tI,none⟩,⟨tI,none⟩,⟨tR,some (true,true)⟩,⟨tI,none⟩])] h0
noncomputable def SU:Fi:=fiOf f44 [.v tT true] [(true,[⟨tR,some (true,false)⟩,⟨tQ,some (true,false)⟩,⟨tI,none⟩,⟨tI,none⟩,⟨tI,none⟩])] h0
noncomputable def No:Fi:=fiOf f20 [.v tN true] [(true,[⟨tR,some (true,false)⟩,⟨tQ,some (true,false)⟩,⟨tI,none⟩,⟨tI,none⟩,⟨tI,none⟩,⟨tR,some (true,false)⟩,⟨tI,none⟩])] h0
noncomputable def Kf:Fi:=fiOf f138 [.v tI false] [(false,[⟨tI,none⟩])] h0
noncomputable def TW:Fi:=fiOf f145 [.v tR false, .v tI false] [(false,[⟨.bool,none⟩])] fun|2=>some [hK 1,hK 7,hK 8,hK 9]|_=>none
noncomputable def YE:Fi:=fiOf f97 [.v tR false] [(false,[⟨.bool,none⟩])] fun|5=>some [hC 3 100003 tI,hK 11,hK 12,hK 13]|_=>none
noncomputable def L5:Fi:=fiOf f98 [.v tI false, .v (.pair tI tI) true] [(false,[⟨.bool,none⟩])] h0
noncomputable def US:Fi:=fiOf f202 [.v tI false, .v tI false] [(false,[⟨.bool,none⟩])] h0
noncomputable def LQ:Fi:=fiOf f136 [.v tI false, .v tS true] [(false,[⟨.bool,none⟩])] h0
noncomputable def cX:Fi:=fiOf f198 [.v tR false, .v tI false] [(false,[⟨tI,none⟩])] fun|2=>some [hK 1,hK 7,hK 8,hK 9]|_=>none
noncomputable def Rd:Fi:=fiOf f137 [.v tT true, .v tI false, .v .bool false] [(false,[⟨.bool,none⟩])] h0
noncomputable def WR:Fi:=fiOf f88 [.v tT true] [(false,[⟨.bool,none⟩])] fun|6=>some [.box 1 200001 [.keep, .keep, .keep, .keep, .keep],hK 3,hK 4,hK 25,hK 26,hK 27]|_=>none
noncomputable def Ro:Fi:=fiOf f151 [.v tI false] [(false,[⟨tI,none⟩])] h0
noncomputable def WN:Fi:=fiOf f146 [.v tR false, .v tI false, .v .bool false] [(false,[⟨tR,some (true,false)⟩])] fun|3=>some [hK 0,hK 1,hK 2,hC 7 100007 tI,hK 8]|_=>none
noncomputable def WI:Fi:=fiOf f147 [.v tR false, .v tI false] [(false,[⟨tR,some (true,false)⟩])] fun|4=>some [hK 1,hK 5,hK 6,hC 7 100007 tI]|_=>none
noncomputable def Ys:Fi:=fiOf f148 [.v tR false, .v tI false] [(false,[⟨tR,some (true,false)⟩])] fun|3=>some [hK 1,hC 5 100005 tI,hK 9,hK 10,hK 11]|_=>none
noncomputable def WF:Fi:=fiOf f149 [.v tR false] [(false,[⟨tR,some (true,false)⟩])] fun|2=>some [hK 0,hC 3 100003 tI]|_=>none
noncomputable def WK:Fi:=fiOf f150 [.v tR false, .v tI false] [(false,[⟨tR,some (true,false)⟩])] fun|4=>some [hC 5 100005 tI,hC 6 100006 tI,hK 7]|_=>none
noncomputable def Gh:Fi:=fiOf f99 [.v tR false, .v (.pair tI tI) true] [(false,[⟨tR,some (true,false)⟩])] h0
noncomputable def WD:Fi:=fiOf f240 [.v tR false] [(false,[⟨tW,some (true,false)⟩])] fun|3=>some [hK 0,hC 3 100003 tR,hK 7,hK 8]|_=>none
noncomputable def Re:Fi:=fiOf f241 [.v tW false, .v tR false, .v tR false, .v tR false] [(false,[⟨tW,some (false,false)⟩])] fun  |999999=>some []|_=>none
noncomputable def Ug:Fi:=fiOf f204 [.v tR false, .v tI false] [(false,[⟨tW,some (false,false)⟩])] fun|7=>some [hK 0, .cell 5 (.row 100005 (tR) false false),hK 6]|15=>some [hK 0,hC 5 100005 tR,hK 40,hK 41,hK 42]|_=>none
noncomputable def cU:Fi:=fiOf f200 [.v tR false, .v tR false] [(false,[⟨.bool,none⟩])] fun|4=>some [hK 1,hK 12,hK 13,hK 14]|_=>none
noncomputable def WA:Fi:=fiOf f261 [.v tR false, .v tR false] [(false,[⟨.bool,none⟩])] fun|2=>some [hK 0,hK 1,hK 7,hK 8,hK 9]|_=>none
noncomputable def Yr:Fi:=fiOf f239 [.v tW false, .v tW false] [(false,[⟨tW,some (true,false)⟩])] fun|2=>some [hK 0,hK 1,hC 5 450005 tR]|_=>none
noncomputable def Xw:Fi:=fiOf f203 [.v tW false] [(false,[⟨tW,some (true,false)⟩])] h0
noncomputable def Wy:Fi:=fiOf f141 [.v tC true, .v tS true] [(false,[⟨tD,some (false,false)⟩])] fun|8=>some [.box 2 200002 [.keep, .keep], .cell 5 (.row 100005 (tC) false false), .cell 42 (.row 100042 (tR) false false),hK 43,hK 44]|_=>none
noncomputable def UY:Fi:=fiOf f238 [.v tC true, .v tC true] [(false,[⟨.bool,none⟩])] h0
noncomputable def Wr:Fi:=fiOf f197 [.v tD false, .v tC true] [(false,[⟨tI,none⟩])] fun|2=>some [.box 3 200003 [.keep, .keep],hK 7,hK 8,hK 9]|_=>none
noncomputable def fa:Fi:=fiOf f130 [.v tT true] [(false,[⟨tD,some (false,false)⟩]),(false,[⟨tW,some (true,false)⟩]),(false,[⟨.bool,none⟩])] fun|4=>some [.cell 5 (.row 100005 (tC) false false),hC 6 100006 tR,hK 25,hK 26,hK 27]|9=>some [.cell 6 (.row 100006 (tR) false false), .box 8 200008 [.keep, .keep, .keep, .keep], .cell 9 (.row 100009 (tC) false false),hC 10 100010 tR,hK 25,hK 26,hK 27, .cell 33 (.row 100033 (tC) false false),hK 34,hK 35]|12=>some [.cell 6 (.row 100006 (tR) false false), .box 8 200008 [.keep, .keep, .keep, .keep], .cell 9 (.row 100009 (tC) false false),hC 10 100010 tR,hK 11,hK 25,hK 26,hK 27, .cell 33 (.row 100033 (tC) false false),hK 34,hK 35, .cell 42 (.row 100042 (tC) false false),hK 43,hK 44]|_=>none
noncomputable def Dw:Fi:=fiOf f139 [.v tI false] [(false,[⟨.bool,none⟩])] h0
noncomputable def Vb:Fi:=fiOf f199 [.v tR false] [(false,[⟨tI,none⟩])] fun|3=>some [hK 3,hK 6,hK 7,hK 8]|_=>none
noncomputable def Rc:Fi:=fiOf f131 [.v tT true, .v tC true] [(false,[⟨.bool,none⟩])] h0
noncomputable def bm:Fi:=fiOf f83 [.v tT true] [(true,[⟨tI,none⟩,⟨tR,none⟩,⟨tR,none⟩,⟨tI,none⟩]),(false,[⟨.bool,none⟩])] fun|7=>some [.box 1 200001 [.keep, .keep, .keep, .keep, .keep], .box 2 200002 [.keep, .keep, .keep, .keep], .cell 5 (.val (tW)), .cell 22 (.row 100022 (tC) false false),hK 23,hK 24]|_=>none
noncomputable def U7:Fi:=fiOf f132 [.v tT true] [(false,[⟨tD,some (false,false)⟩]),(false,[⟨.bool,none⟩])] h0
noncomputable def U6:Fi:=fiOf f85 [.v tT true] [(false,[⟨tI,none⟩])] h0
noncomputable def Zf:Fi:=fiOf f84 [.v tI false] [(false,[⟨.str,none⟩])] fun|6=>some [hK 0,hK 3]|_=>none
noncomputable def L6:Fi:=fiOf f47 [.v (.slice .str) false, .v .str false] [(false,[⟨.str,none⟩])] fun|3=>some [hK 1,hK 5,hK 8,hK 9,hK 10]|_=>none
noncomputable def fQ:Fi:=fiOf f86 [.v tR false] [(false,[⟨.str,none⟩])] fun|3=>some [hC 3 100003 .str,hK 7,hK 8,hK 9]|_=>none
noncomputable def j9:Fi:=fiOf f89 [.v tR false] [(false,[⟨.str,none⟩])] fun|5=>some [hC 3 100003 .str,hK 11,hK 12,hK 13]|_=>none
noncomputable def UX:Fi:=fiOf f57 [.v tC true] [(false,[⟨.str,none⟩])] h0
noncomputable def Xv:Fi:=fiOf f45 [.v tT true] [(false,[⟨.str,none⟩])] h0
noncomputable def S8:Fi:=fiOf f133 [.v tT true] [(false,[⟨.bool,none⟩])] h0
noncomputable def Np:Fi:=fiOf f135 [.v tT true, .v tI false] [(true,[⟨tR,some (true,false)⟩,⟨tQ,some (true,false)⟩,⟨tI,none⟩,⟨tI,none⟩,⟨tI,none⟩])] h0
noncomputable def Rx:Fi:=fiOf f201 [.v tT true, .v tI false] [(true,[⟨tR,some (true,false)⟩,⟨tQ,some (true,false)⟩,⟨tI,none⟩,⟨tI,none⟩,⟨tI,none⟩]),(false,[⟨.bool,none⟩])] h0
noncomputable def Rv:Fi:=fiOf f134 [.v tT true, .v tI false] [(false,[⟨.bool,none⟩])] h0
noncomputable def j7:Fi:=fiOf f87 [.v tT true] [(true,[⟨tR,some (true,false)⟩,⟨tQ,some (true,false)⟩,⟨tI,none⟩,⟨tI,none⟩,⟨tI,none⟩]),(false,[⟨.bool,none⟩])] fun|5=>some [.box 2 200002 [.keep, .keep, .keep, .keep, .keep], .box 4 200004 [.row 300400 (tI) true false, .row 300401 (tS) true false, .keep, .keep, .keep],hK 5]|_=>none
noncomputable def Vc:Fi:=fiOf f94 [.v tI false] [(false,[⟨.str,none⟩])] h0
noncomputable def Rk:Fi:=fiOf f143 [] [(false,[⟨.slice .str,some (true,false)⟩])] h0
noncomputable def Rt:Fi:=fiOf f144 [.v tI false] [(false,[⟨.str,none⟩])] h0
noncomputable def W7:Fi:=fiOf f96 [.v (.pair tI tI) true] [(false,[⟨.str,none⟩])] h0
noncomputable def W6:Fi:=fiOf f90 [.v tS true] [(false,[⟨.str,none⟩])] h0
noncomputable def XH:Fi:=fiOf f91 [.v tT true] [(false,[⟨.str,none⟩])] h0
noncomputable def cR:Fi:=fiOf f48 [.v tT true] [(false,[⟨.slice .str,some (true,false)⟩])] fun|5=>some [.box 1 200001 [.keep, .keep, .keep, .keep, .keep],hC 3 100003 .str,hK 15,hK 16,hK 17]|_=>none
noncomputable def SV:Fi:=fiOf f46 [.v tN true] [(true,[⟨tR,none⟩,⟨tQ,none⟩,⟨tI,none⟩,⟨tI,none⟩,⟨tI,none⟩,⟨tR,none⟩,⟨tI,none⟩]),(false,[⟨.str,none⟩])] h0
noncomputable def WS:Fi:=fiOf f52 [.v tT true] [(true,[⟨tR,some (true,true)⟩,⟨tI,none⟩]),(false,[⟨.bool,none⟩])] h0
noncomputable def gb:Fi:=fiOf f140 [.v tT true] [(false,[⟨tI,none⟩])] fun|5=>some [hK 3,hK 10,hK 11,hK 12]|_=>none
noncomputable def Yz:Fi:=fiOf f92 [.v tT true, .v tR false] [(true,[⟨tR,none⟩,⟨tI,none⟩]),(false,[⟨.bool,none⟩])] fun|6=>some [hK 1, .box 4 200004 [.keep, .keep], .box 6 200006 [.val (tR), .keep],hK 8,hK 29,hK 30,hK 31]|_=>none
noncomputable def Nm:Fi:=fiOf f49 [.v tN true, .v tR false] [(true,[⟨tR,none⟩,⟨tQ,none⟩,⟨tI,none⟩,⟨tI,none⟩,⟨tI,none⟩,⟨tR,none⟩,⟨tI,none⟩]),(false,[⟨.str,none⟩])] h0
noncomputable def LD:Fi:=fiOf f54 [.v tN true, .v tT true] [(true,[⟨tR,none⟩,⟨tQ,none⟩,⟨tI,none⟩,⟨tI,none⟩,⟨tI,none⟩,⟨tR,none⟩,⟨tI,none⟩]),(false,[⟨.str,none⟩])] h0
noncomputable def vK:Fi:=fiOf f50 [.v tN true, .v .str false, .v tR false] [(true,[⟨tR,none⟩,⟨tQ,none⟩,⟨tI,none⟩,⟨tI,none⟩,⟨tI,none⟩,⟨tR,none⟩,⟨tI,none⟩]),(false,[⟨.str,none⟩])] fun|7=>some [hK 1,hK 2, .box 3 200003 [.keep, .keep, .keep, .keep, .keep, .keep, .keep], .box 6 200006 [.keep, .keep, .keep, .keep, .keep, .keep, .keep], .box 8 200008 [.row 300800 (tI) true false, .row 300801 (tS) true false, .keep, .keep, .keep]]|9=>some [hK 1,hK 2, .box 3 200003 [.keep, .keep, .keep, .keep, .keep, .keep, .keep], .box 6 200006 [.keep, .keep, .keep, .keep, .keep, .keep, .keep], .box 8 200008 [.row 300800 (tI) true false, .row 300801 (tS) true false, .keep, .keep, .keep]]|12=>some [hK 1,hK 2, .box 3 200003 [.keep, .keep, .keep, .keep, .keep, .keep, .keep], .box 6 200006 [.keep, .keep, .keep, .keep, .keep, .keep, .keep], .box 8 200008 [.row 300800 (tI) true false, .row 300801 (tS) true false, .keep, .keep, .keep]]|15=>some [hK 1,hK 2, .box 3 200003 [.keep, .keep, .keep, .keep, .keep, .keep, .keep], .box 6 200006 [.keep, .keep, .keep, .keep, .keep, .keep, .keep], .box 8 200008 [.row 300800 (tI) true false, .row 300801 (tS) true false, .keep, .keep, .keep]]|_=>none
noncomputable def Nk:Fi:=fiOf f22 [.v tN true, .v .str false] [(true,[⟨tR,none⟩,⟨tQ,none⟩,⟨tI,none⟩,⟨tI,none⟩,⟨tI,none⟩,⟨tR,none⟩,⟨tI,none⟩]),(false,[⟨.str,none⟩])] h0
noncomputable def YI:Fi:=fiOf f142 [.v .str false] [(false,[⟨.bool,none⟩])] fun|2=>some [hK 0,hK 3]|_=>none
noncomputable def YD:Fi:=fiOf f93 [.v .str false] [(false,[⟨tI,none⟩]),(false,[⟨.bool,none⟩])] fun|9=>some [hK 0,hK 4,hK 5,hK 6,hK 7]|_=>none
noncomputable def fP:Fi:=fiOf f51 [.v .str false] [(false,[⟨tR,some (true,false)⟩]),(false,[⟨.bool,none⟩])] fun|5=>some [hK 0,hC 4 100004 tI,hC 14 100014 .str,hK 15,hK 16]|_=>none
noncomputable def UQ:Fi:=fiOf f23 [.v tN true, .v .str false] [(true,[⟨tR,none⟩,⟨tQ,none⟩,⟨tI,none⟩,⟨tI,none⟩,⟨tI,none⟩,⟨tR,none⟩,⟨tI,none⟩]),(false,[⟨.str,none⟩])] h0
noncomputable def Ze:Fi:=fiOf f95 [.v .str false] [(false,[⟨tI,none⟩])] fun|2=>some [hK 0,hC 5 100005 .str,hK 6,hK 7]|_=>none
noncomputable def U1:Fi:=fiOf f55 [.v .str false] [(true,[⟨tI,none⟩,⟨tI,none⟩]),(false,[⟨.bool,none⟩])] h0
noncomputable def Zc:Fi:=fiOf f53 [.v .str false] [(true,[⟨tI,none⟩,⟨tI,none⟩,⟨tI,none⟩,⟨tI,none⟩]),(false,[⟨.bool,none⟩])] fun|2=>some [hK 0, .box 2 200002 [.keep, .keep, .keep, .keep],hK 4]|_=>none
noncomputable def Nl:Fi:=fiOf f24 [.v tN true, .v .str false] [(true,[⟨tR,none⟩,⟨tQ,none⟩,⟨tI,none⟩,⟨tI,none⟩,⟨tI,none⟩,⟨tR,none⟩,⟨tI,none⟩]),(false,[⟨.str,none⟩])] h0
noncomputable def Nw:Fi:=fiOf f56 [.v tR false, .v (.pair tI tI) true] [(false,[⟨tR,some (true,false)⟩]),(false,[⟨.bool,none⟩])] h0
noncomputable def Gd:Fi:=fiOf f25 [.v tN true, .v .str false] [(true,[⟨tR,none⟩,⟨tQ,none⟩,⟨tI,none⟩,⟨tI,none⟩,⟨tI,none⟩,⟨tR,none⟩,⟨tI,none⟩]),(false,[⟨.str,none⟩])] h0
noncomputable def cM:Fi:=fiOf f58 [.v (.slice .str) false] [(false,[⟨tR,some (true,false)⟩]),(false,[⟨.bool,none⟩])] fun|3=>some [hC 4 100004 tI,hK 10,hK 11,hK 12]|_=>none
noncomputable def cY:Fi:=fiOf f100 [.v tI false, .v (.pair tI tI) true] [(false,[⟨tR,some (true,false)⟩]),(false,[⟨.bool,none⟩])] fun|5=>some [hC 6 100006 tI,hC 17 100017 tI,hK 18,hK 19]|_=>none
noncomputable def TY:Fi:=fiOf f152 [.v tR false] [(false,[⟨.bool,none⟩])] fun|4=>some [hK 0,hK 8,hK 9,hK 10]|_=>none
noncomputable def eY:Fi:=fiOf f153 [.v tR false] [(false,[⟨tW,some (true,false)⟩])] fun|6=>some [hK 0,hC 3 100003 tR,hC 4 100004 .bool,hK 16,hK 17]|11=>some [hK 0,hC 3 100003 tR,hC 4 100004 .bool,hC 6 100006 tI,hK 7,hK 16,hK 17]|_=>none
noncomputable def jr:Fi:=fiOf f101 [.v tR false] [(false,[⟨.str,none⟩])] fun|5=>some [hK 3, .cell 13 (.row 100013 (tR) false false),hK 14,hK 15]|9=>some [hK 3,hC 6 100006 .str, .cell 13 (.row 100013 (tR) false false),hK 14,hK 15,hK 20,hK 21,hK 22]|_=>none
noncomputable def UR:Fi:=fiOf f59 [.v tN true, .v .str false, .v tI false] [(false,[⟨.str,none⟩])] h0
noncomputable def Gf:Fi:=fiOf f154 [.v tI false] [(false,[⟨.bool,none⟩])] h0
noncomputable def Ns:Fi:=fiOf f205 [.v tI false, .v tI false] [(false,[⟨tR,some (true,false)⟩])] h0
noncomputable def Nt:Fi:=fiOf f155 [.v tI false, .v tI false, .v tI false] [(false,[⟨tI,none⟩])] h0
noncomputable def vR:Fi:=fiOf f102 [.v tI false, .v tI false, .v tI false] [(false,[⟨tR,some (true,false)⟩]),(false,[⟨.bool,none⟩])] fun|6=>some [hK 0,hK 2, .cell 8 (.row 100008 (tR) false false),hC 9 100009 tI,hK 10]|11=>some [hK 0,hK 2, .cell 8 (.row 100008 (tR) false false),hC 9 100009 tI,hK 10,hK 11]|_=>none
noncomputable def fO:Fi:=fiOf f103 [.v tR false] [(false,[⟨.str,none⟩])] fun|3=>some [hK 3,hK 6,hK 7,hK 8]|_=>none
noncomputable def Nn:Fi:=fiOf f60 [.v tN true, .v tI false, .v tI false] [(false,[⟨.str,none⟩])] h0
noncomputable def Q1:Fi:=fiOf f242 [.v tI false, .v tR false] [(false,[⟨.bool,none⟩])] fun|4=>some [hK 0,hK 1,hK 10,hK 11,hK 12]|_=>none
noncomputable def aY:Fi:=fiOf f273 [.v tI false, .v tI false] [(false,[⟨tI,none⟩])] fun|3=>some [hK 0,hK 1,hK 5,hK 6]|_=>none
noncomputable def Wp:Fi:=fiOf f262 [.v tI false, .v tI false, .v tR false] [(false,[⟨tI,none⟩])] fun|4=>some [hK 0,hK 1,hK 2,hK 7,hK 8,hK 12,hK 13,hK 14]|_=>none
noncomputable def Yv:Fi:=fiOf f243 [.v tI false, .v tR false] [(false,[⟨tI,none⟩])] fun|5=>some [hK 0,hK 1,hK 5,hK 6]|_=>none
noncomputable def YF:Fi:=fiOf f206 [.v tI false, .v tR false] [(false,[⟨tR,some (true,true)⟩])] fun|5=>some [hK 0,hK 1,hC 5 100005 tI,hK 6]|_=>none
noncomputable def Yo:Fi:=fiOf f156 [.v tI false, .v tR false] [(false,[⟨tI,none⟩])] fun|5=>some [hK 0,hK 1,hK 6,hK 7, .cell 13 (.row 100013 (tI) true true),hK 14,hK 15]|_=>none
noncomputable def W4:Fi:=fiOf f104 [.v tI false] [(false,[⟨tI,none⟩])] h0
noncomputable def SY:Fi:=fiOf f61 [.v tI false] [(false,[⟨.str,none⟩])] h0
noncomputable def yV:Fi:=fiOf f26 [.v tN true, .v (.slice .str) false] [(true,[⟨tR,none⟩,⟨tQ,none⟩,⟨tI,none⟩,⟨tI,none⟩,⟨tI,none⟩,⟨tR,none⟩,⟨tI,none⟩]),(false,[⟨.str,none⟩])] fun|5=>some [hK 1, .box 2 200002 [.keep, .keep, .keep, .keep, .keep, .keep, .keep], .box 4 200004 [.keep, .keep, .keep, .keep, .keep, .keep, .keep],hC 6 100006 tI,hK 7,hC 8 100008 tI,hK 9]|7=>some [hK 1, .box 2 200002 [.keep, .keep, .keep, .keep, .keep, .keep, .keep], .box 4 200004 [.keep, .keep, .keep, .keep, .keep, .keep, .keep],hC 8 100008 tI,hK 9]|9=>some [hK 1, .box 2 200002 [.keep, .keep, .keep, .keep, .keep, .keep, .keep], .box 4 200004 [.keep, .keep, .keep, .keep, .keep, .keep, .keep],hC 8 100008 tI,hK 9]|11=>some [hK 1, .box 2 200002 [.keep, .keep, .keep, .keep, .keep, .keep, .keep], .box 4 200004 [.keep, .keep, .keep, .keep, .keep, .keep, .keep],hC 8 100008 tI,hK 9]|_=>none
noncomputable def yg:Fi:=fiOf f8 [.v tN true, .v .str false] [(true,[⟨tR,none⟩,⟨tQ,none⟩,⟨tI,none⟩,⟨tI,none⟩,⟨tI,none⟩,⟨tR,none⟩,⟨tI,none⟩]),(false,[⟨.str,none⟩])] h0
noncomputable def cV:Fi:=fiOf f5 [.v .str false] [(false,[⟨.str,none⟩]),(false,[⟨tI,none⟩])] fun|7=>some [hK 4, .box 5 200005 [.val (tR), .val (tQ), .keep, .keep, .keep, .val (tR), .keep],hK 6,hK 17,hK 18,hK 19]|_=>none
noncomputable abbrev strings_IndexByte_fi:Fi:=indexByteFi
noncomputable def Y0:Fi:=fiOf f39 [.v .str false, .v .str false] [(false,[⟨.slice .str,some (true,true)⟩])] fun|4=>some [hK 0,hK 1, .cell 5 (.row 100005 (.str) true true),hK 6,hK 7]|_=>none
noncomputable def Vx:Fi:=fiOf f16 [.v .str false] [(false,[⟨.slice .str,none⟩])] h0
noncomputable def K5:Fi:=fiOf f81 [.v tI false] [(false,[⟨tR,some (true,true)⟩])] fun|3=>some [hK 0, .cell 3 (.row 100003 (tI) true true),hK 4]|_=>none
noncomputable def Tw:Fi:=fiOf f40 [.v tI false] [(false,[⟨tR,some (true,true)⟩])] h0
noncomputable def JC:Fi:=fiOf f194 [.v tI false] [(false,[⟨tI,none⟩])] h0
noncomputable def Y9:Fi:=fiOf f127 [.v tR false] [(false,[⟨.bool,none⟩])] fun|3=>some [.arr 3 400003,hK 7,hK 8,hK 9]|_=>none
noncomputable def Js:Fi:=fiOf f161 [.v tI false, .v (.pair tI tI) true] [(false,[⟨.bool,none⟩])] h0
noncomputable def Je:Fi:=fiOf f128 [.v tI false, .v tS true] [(false,[⟨.bool,none⟩])] h0
noncomputable def ZY:Fi:=fiOf f196 [.v tI false, .r tI] [(false,[⟨.bool,none⟩])] h0
noncomputable def yh:Fi:=fiOf f195 [.v tR false, .fn 196 [tI]] [(false,[⟨tI,none⟩])] fun|2=>some [hK 0,hK 1,hK 7,hK 8]|_=>none
noncomputable def VA:Fi:=fiOf f129 [.v tR false, .v tI false] [(false,[⟨tI,none⟩])] h0
noncomputable def Vv:Fi:=fiOf f82 [.v tT true] [(false,[⟨.bool,none⟩])] fun|6=>some [.box 1 200001 [.keep, .keep, .keep, .keep, .keep],hK 3,hK 4,hK 25,hK 26,hK 27]|_=>none
noncomputable def wL:Fi:=fiOf f64 [.v tR false] [(false,[⟨tR,some (true,false)⟩])] h0
noncomputable def Vw:Fi:=fiOf f41 [.v tT true] [(true,[⟨tR,some (true,true)⟩,⟨tI,none⟩]),(false,[⟨.bool,none⟩])] h0
noncomputable def VE:Fi:=fiOf f17 [] [(true,[⟨tR,some (true,true)⟩,⟨tQ,some (true,true)⟩,⟨tI,none⟩,⟨tI,none⟩,⟨tI,none⟩,⟨tR,some (true,true)⟩,⟨tI,none⟩])] h0
noncomputable def xK:Fi:=fiOf f65 [.v tQ false] [(false,[⟨tQ,some (true,false)⟩])] h0
noncomputable def Tm:Fi:=fiOf f29 [.v tT true] [(true,[⟨tR,some (true,false)⟩,⟨tQ,some (true,false)⟩,⟨tI,none⟩,⟨tI,none⟩,⟨tI,none⟩])] h0
noncomputable def Tn:Fi:=fiOf f30 [.v tC true] [(true,[⟨tR,some (true,false)⟩,⟨tI,none⟩])] h0
noncomputable abbrev strings_Join_fi:Fi:=joinFi
noncomputable def Cl:Fi:=fiOf f67 [.v (.slice .str) false, .v .str false] [(false,[⟨.str,none⟩])] h0
noncomputable abbrev strconv_Atoi_fi:Fi:=atoiFi
noncomputable abbrev strconv_Itoa_fi:Fi:=itoaFi
noncomputable def TA:Fi:=fiOf f117 [.v tI false] [(false,[⟨.str,none⟩])] h0
noncomputable def Qa:Fi:=fiOf f70 [.v .str false] [(false,[⟨tI,none⟩]),(false,[⟨.bool,none⟩])] h0
noncomputable def fY:Fi:=fiOf f106 [.v .str false] [(false,[⟨tR,some (true,true)⟩]),(false,[⟨.bool,none⟩])] fun|5=>some [.cell 4 (.row 100004 (tI) true true), .cell 13 (.row 100013 (.str) true true),hK 14,hK 15]|_=>none
noncomputable def Z5:Fi:=fiOf f107 [.p tT tC, .v tT true] [(false,[⟨.str,none⟩])] h0
noncomputable def Th:Fi:=fiOf f169 [] [(false,[⟨.slice .str,some (true,false)⟩])] h0
noncomputable def ve:Fi:=fiOf f168 [.v (.slice .str) false, .v .str false] [(false,[⟨tI,none⟩])] fun|2=>some [hK 0,hK 1,hK 7,hK 8]|_=>none
noncomputable def Tx:Fi:=fiOf f114 [.v .str false] [(false,[⟨tI,none⟩])] h0
noncomputable def Qd:Fi:=fiOf f207 [.v tI false] [(false,[⟨.str,none⟩])] h0
noncomputable def VJ:Fi:=fiOf f160 [.v (.pair tI tI) true] [(false,[⟨.str,none⟩])] h0
noncomputable def Tu:Fi:=fiOf f109 [.v .str false] [(true,[⟨tI,none⟩,⟨tI,none⟩]),(false,[⟨.bool,none⟩])] h0
noncomputable def VQ:Fi:=fiOf f158 [.v tI false] [(false,[⟨.str,none⟩])] h0
noncomputable def VH:Fi:=fiOf f159 [.v tS true] [(false,[⟨.str,none⟩])] h0
noncomputable def gN:Fi:=fiOf f108 [.v .str false] [(true,[⟨tI,none⟩,⟨tI,none⟩,⟨tI,none⟩,⟨tI,none⟩]),(false,[⟨.bool,none⟩])] fun|5=>some [hK 0, .box 2 200002 [.keep, .keep, .keep, .keep],hK 6]|10=>some [hK 0, .box 2 200002 [.keep, .keep, .keep, .keep],hK 7]|_=>none
noncomputable abbrev slices_Grow_int_fi:Fi:=growFi
noncomputable def wg:Fi:=fiOf f208 [.v tW false] [(false,[⟨tR,some (true,false)⟩])] fun|3=>some [hK 0,hK 3,hK 9,hK 10,hK 11]|11=>some [hC 6 100006 tI,hK 25,hK 26,hK 27]|_=>none
noncomputable abbrev slices_Reverse_int_fi:Fi:=reverseFi
noncomputable def RW:Fi:=fiOf f209 [.v tR false] [(false,[⟨tR,some (true,false)⟩])] h0
noncomputable def K8:Fi:=fiOf f182 [.v tR false, .v tI false] [(false,[⟨tR,some (true,true)⟩])] fun|4=>some [hK 5,hK 6, .cell 7 (.row 100007 (tI) true true),hK 8]|_=>none
noncomputable def PA:Fi:=fiOf f211 [.v tR false, .v tI false] [(false,[⟨tR,some (true,false)⟩])] fun|3=>some [hK 1,hC 5 100005 tI,hK 8,hK 9,hK 10]|_=>none
noncomputable def K7:Fi:=fiOf f212 [.v tR false] [(false,[⟨tR,some (true,false)⟩])] fun|2=>some [hK 0,hC 3 100003 tI]|_=>none
noncomputable def PF:Fi:=fiOf f213 [.v tR false, .v tI false] [(false,[⟨tR,some (true,true)⟩])] fun|4=>some [.cell 5 (.row 100005 (tI) true true),hC 6 100006 tI,hK 7]|_=>none
noncomputable def R5:Fi:=fiOf f210 [.v tI false] [(false,[⟨tI,none⟩])] h0
noncomputable def Pz:Fi:=fiOf f162 [.v tR false, .v (.pair tI tI) true] [(false,[⟨tR,some (true,false)⟩])] fun|10=>some [hK 5,hC 6 100006 tI,hK 7]|_=>none
noncomputable def NV:Fi:=fiOf f110 [.v tR false, .v (.pair tI tI) true] [(false,[⟨tR,some (true,false)⟩]),(false,[⟨.bool,none⟩])] h0
noncomputable def Co:Fi:=fiOf f237 [.v tI false] [(false,[⟨.bool,none⟩])] h0
noncomputable def gk:Fi:=fiOf f190 [.v tR false] [(false,[⟨.str,none⟩])] fun|7=>some [.cell 3 (.row 100003 (.str) true true),hK 13,hK 14,hK 15]|_=>none
noncomputable def Tp:Fi:=fiOf f163 [.v tC true] [(false,[⟨.str,none⟩])] h0
noncomputable def Z6:Fi:=fiOf f111 [.p tT tC, .v tC true, .v .bool false] [(false,[⟨.str,none⟩])] h0
noncomputable def Z4:Fi:=fiOf f66 [.p tT tC, .v .str false, .v .str false] [(false,[⟨.str,none⟩])] h0
noncomputable def zg:Fi:=fiOf f68 [.p tT tC, .v (.slice .str) false] [(false,[⟨.str,none⟩])] fun|3=>some [.box 0 500000 [.keep, .keep, .keep, .keep, .keep, .keep, .keep],hK 1, .cell 5 (.row 100005 (tI) true true),hK 11,hK 12,hK 13]|17=>some [.box 0 500000 [.keep, .keep, .keep, .keep, .keep, .keep, .keep],hK 1, .cell 5 (.row 100005 (tI) true true), .box 10 200010 [.row 301000 (tI) true false, .row 301001 (tS) true false, .keep, .keep, .keep]]|19=>some [.box 0 500000 [.keep, .keep, .keep, .keep, .keep, .keep, .keep],hK 1, .cell 5 (.row 100005 (tI) true true), .box 10 200010 [.row 301000 (tI) true false, .row 301001 (tS) true false, .keep, .keep, .keep]]|21=>some [.box 0 500000 [.keep, .keep, .keep, .keep, .keep, .keep, .keep],hK 1, .box 10 200010 [.row 301000 (tI) true false, .row 301001 (tS) true false, .keep, .keep, .keep]]|_=>none
noncomputable def eI:Fi:=fiOf f249 [.v tI false, .r tR] [(false,[⟨.bool,none⟩])] h0
noncomputable def zZ:Fi:=fiOf f195 [.v tR false, .fn 249 [tR]] [(false,[⟨tI,none⟩])] fun|2=>some [hK 0,hK 1,hK 7,hK 8]|_=>none
noncomputable def yD:Fi:=fiOf f248 [.v tR false, .fn 249 [tR]] [(false,[⟨.bool,none⟩])] h0
noncomputable def aN:Fi:=fiOf f216 [.v tR false, .v tR false] [(false,[⟨.bool,none⟩])] h0
noncomputable def fX:Fi:=fiOf f167 [.v tR false, .v tR false] [(false,[⟨tR,some (true,true)⟩]),(false,[⟨.bool,none⟩])] fun|5=>some [hK 0, .cell 6 (.row 100006 (tI) true true),hK 13,hK 14,hK 15]|_=>none
noncomputable def VC:Fi:=fiOf f113 [.v tI false, .v (.pair tI tI) true] [(false,[⟨tR,some (true,true)⟩]),(false,[⟨.bool,none⟩])] h0
noncomputable def uE:Fi:=fiOf f181 [.v tR false, .v tI false] [(false,[⟨tI,none⟩])] fun|2=>some [hK 0,hK 1,hK 7,hK 8]|_=>none
noncomputable def jS:Fi:=fiOf f217 [.v tR false, .v tI false] [(false,[⟨.bool,none⟩])] h0
noncomputable def Sr:Fi:=fiOf f170 [.v tR false] [(false,[⟨.bool,none⟩])] fun|2=>some [hK 0,hK 5,hK 6,hK 7]|_=>none
noncomputable def cq:Fi:=fiOf f171 [.v tR false] [(false,[⟨tW,some (true,true)⟩])] fun|6=>some [hK 0, .cell 3 (.row 100003 (tR) true true),hC 4 100004 .bool,hK 15,hK 16]|10=>some [hK 0, .cell 3 (.row 100003 (tR) true true),hC 4 100004 .bool, .cell 6 (.row 100006 (tI) true true),hK 7,hK 15,hK 16]|_=>none
noncomputable def Zl:Fi:=fiOf f172 [.v tR false] [(false,[⟨.slice .str,some (true,true)⟩])] fun|3=>some [.cell 3 (.row 100003 (.str) true true),hK 6,hK 7,hK 8]|_=>none
noncomputable def bO:Fi:=fiOf f115 [.v tR false] [(false,[⟨.str,none⟩])] fun|7=>some [hK 3, .cell 13 (.row 100013 (tR) false true),hK 14,hK 15]|_=>none
noncomputable def bQ:Fi:=fiOf f69 [.p tT tC, .v (.slice .str) false] [(false,[⟨.str,none⟩])] h0
noncomputable def Ja:Fi:=fiOf f269 [.v tR false] [(false,[⟨tW,some (true,true)⟩])] fun|3=>some [hK 0, .cell 3 (.row 100003 (tR) true true),hK 6,hK 7]|_=>none
noncomputable def aF:Fi:=fiOf f257 [.v tR false, .v tI false] [(false,[⟨tR,some (true,true)⟩])] fun|3=>some [hK 0,hK 1,hK 5,hK 6,hK 11,hK 12]|9=>some [hK 0,hK 1,hK 5,hK 6, .cell 8 (.row 100008 (tI) true true),hK 24,hK 25]|_=>none
noncomputable def M3:Fi:=fiOf f254 [.v tR false, .v tI false] [(false,[⟨tW,some (true,false)⟩]),(false,[⟨.bool,none⟩])] fun|9=>some [hK 0, .cell 6 (.row 100006 (tR) true true),hK 7]|20=>some [hK 0, .cell 8 (.row 100008 (tR) true true),hK 48,hK 49]|_=>none
noncomputable abbrev slices_SortFunc_int_int_fi:Fi:=(sortFi 271)
noncomputable abbrev slices_CompactFunc_int_int_fi:Fi:=compactFi
noncomputable def fU:Fi:=fiOf f255 [.v tW false] [(false,[⟨tW,some (true,false)⟩])] fun|3=>some [.cell 3 (.row 100003 (tR) true true),hK 6,hK 7,hK 8]|_=>none
noncomputable def Tr:Fi:=fiOf f224 [.v tR false, .v tI false] [(false,[⟨tW,some (true,false)⟩]),(false,[⟨.bool,none⟩])] h0
noncomputable def bN:Fi:=fiOf f177 [.v tC true, .v tS true] [(false,[⟨tD,some (true,false)⟩])] fun|11=>some [.box 2 200002 [.keep, .keep], .cell 5 (.row 100005 (tC) true true),hC 67 440067 tR,hK 68,hK 69]|_=>none
noncomputable def XV:Fi:=fiOf f186 [.v tR false] [(false,[⟨.str,none⟩])] h0
noncomputable def GG:Fi:=fiOf f234 [.v tC true] [(false,[⟨.str,none⟩])] h0
noncomputable def bA:Fi:=fiOf f227 [.v tT true] [(false,[⟨.slice tD,some (true,false)⟩]),(false,[⟨.bool,none⟩])] fun|4=>some [hC 6 450006 tD,hK 25,hK 26,hK 27]|9=>some [hC 6 420006 tC, .box 8 200008 [.keep, .keep, .keep, .keep], .cell 9 (.row 430009 (.bool) false false), .cell 10 (.row 450010 (tC) true true),hK 25,hK 26,hK 27,hC 36 450036 tC,hK 37,hK 38]|12=>some [hC 6 420006 tC, .box 8 200008 [.keep, .keep, .keep, .keep], .cell 9 (.row 430009 (.bool) false false), .cell 10 (.row 450010 (tC) true true),hK 25,hK 26,hK 27,hC 36 450036 tC,hK 37,hK 38,hC 44 440044 tC,hK 45,hK 46]|_=>none
noncomputable def VN:Fi:=fiOf f259 [.v tR false] [(false,[⟨tI,none⟩])] fun|3=>some [hK 3,hK 6,hK 7,hK 8]|_=>none
noncomputable def slices_Equal_int_fi:Fi:=fiOf f258 [.v tR false, .v tR false] [(false,[⟨.bool,none⟩])] fun|4=>some [hK 0,hK 1,hK 12,hK 13]|_=>none
noncomputable def VO:Fi:=fiOf f230 [.v tT true, .v tC true] [(false,[⟨.bool,none⟩])] h0
noncomputable def Z8:Fi:=fiOf f229 [.v tC true, .r tT] [(false,[⟨.bool,none⟩])] h0
noncomputable def zU:Fi:=fiOf f232 [.v tD false, .fn 229 [tT]] [(false,[⟨tI,none⟩])] fun|2=>some [hK 0,hK 1,hK 7,hK 8]|_=>none
noncomputable def yw:Fi:=fiOf f228 [.v tD false, .fn 229 [tT]] [(false,[⟨.bool,none⟩])] h0
noncomputable def Tl:Fi:=fiOf f260 [.v tC true, .r (.slice .set), .r tI] [(false,[⟨.bool,none⟩])] h0
noncomputable def ya:Fi:=fiOf f232 [.v tD false, .fn 260 [.slice .set,tI]] [(false,[⟨tI,none⟩])] fun|2=>some [hK 0,hK 1,hK 7,hK 8]|_=>none
noncomputable def yJ:Fi:=fiOf f228 [.v tD false, .fn 260 [.slice .set,tI]] [(false,[⟨.bool,none⟩])] h0
noncomputable def aG:Fi:=fiOf f231 [.v tT true, .v (.slice tD) false] [(false,[⟨.slice .set,some (true,false)⟩])] fun|3=>some [hK 1, .box 2 200002 [.keep, .keep, .keep, .keep, .keep], .box 5 200005 [.row 300500 (.set) true false], .box 6 200006 [.keep]]|7=>some [hK 1, .box 2 200002 [.keep, .keep, .keep, .keep, .keep], .box 5 200005 [.row 300500 (.set) true false], .box 6 200006 [.keep],hK 27,hK 28,hK 29]|_=>none
noncomputable def Z7:Fi:=fiOf f233 [.v tC true, .r (.slice .set), .r tI] [(false,[⟨.bool,none⟩])] h0
noncomputable def zT:Fi:=fiOf f232 [.v tD false, .fn 233 [.slice .set,tI]] [(false,[⟨tI,none⟩])] fun|2=>some [hK 0,hK 1,hK 7,hK 8]|_=>none
noncomputable def bT:Fi:=fiOf f184 [.v tT true] [(true,[⟨tI,none⟩,⟨tR,some (true,true)⟩,⟨tR,some (true,false)⟩,⟨tI,none⟩]),(false,[⟨.bool,none⟩])] fun|12=>some [.box 2 200002 [.keep, .keep, .keep, .keep], .box 6 200006 [.keep, .keep], .box 7 200007 [.row 300700 (.set) true false], .box 8 200008 [.keep, .row 300801 (tI) true true, .keep, .keep],hK 45,hK 46,hK 47]|_=>none
noncomputable def TC:Fi:=fiOf f235 [.v tT true] [(false,[⟨tD,some (true,false)⟩]),(false,[⟨.bool,none⟩])] h0
noncomputable def TB:Fi:=fiOf f185 [.v tT true] [(false,[⟨tI,none⟩])] h0
noncomputable def XO:Fi:=fiOf f122 [.v tT true] [(false,[⟨.str,none⟩])] h0
noncomputable def GI:Fi:=fiOf f187 [.v tT true] [(false,[⟨.bool,none⟩])] h0
noncomputable abbrev slices_Delete_i_Step_fi:Fi:=(deleteFi (.pair (.int .i64) (.pair (.pair (.int .i64) (.int .i64)) (.int .i64))))
noncomputable def Qg:Fi:=fiOf f189 [.v tT true, .v tI false] [(true,[⟨tR,some (true,false)⟩,⟨tQ,some (false,false)⟩,⟨tI,none⟩,⟨tI,none⟩,⟨tI,none⟩]),(false,[⟨.bool,none⟩])] h0
noncomputable def R1:Fi:=fiOf f188 [.v tT true, .v tI false] [(false,[⟨.bool,none⟩])] h0
noncomputable def gh:Fi:=fiOf f123 [.v tT true] [(true,[⟨tR,some (true,false)⟩,⟨tQ,some (false,false)⟩,⟨tI,none⟩,⟨tI,none⟩,⟨tI,none⟩]),(false,[⟨.bool,none⟩])] fun|5=>some [.box 2 200002 [.keep, .keep, .keep, .keep, .keep], .box 4 200004 [.row 300400 (tI) true false, .row 300401 (tS) false false, .keep, .keep, .keep],hK 5]|_=>none
noncomputable def XX:Fi:=fiOf f191 [.v tT true] [(false,[⟨.str,none⟩])] h0
noncomputable def bB:Fi:=fiOf f124 [.v tT true] [(false,[⟨.slice .str,some (true,false)⟩])] fun|5=>some [.box 1 200001 [.keep, .keep, .keep, .keep, .keep],hC 3 100003 .str,hK 15,hK 16,hK 17]|_=>none
noncomputable def Z3:Fi:=fiOf f72 [.p tT tC, .v .str false] [(false,[⟨.str,none⟩])] h0
noncomputable def gl:Fi:=fiOf f176 [.v tT true] [(false,[⟨tI,none⟩])] fun|5=>some [hK 3,hK 10,hK 11,hK 12]|_=>none
noncomputable def Y5:Fi:=fiOf f118 [.v tT true, .v tR false] [(true,[⟨tR,some (true,false)⟩,⟨tI,none⟩]),(false,[⟨.bool,none⟩])] fun|5=>some [hK 1, .box 4 200004 [.keep, .keep], .box 6 200006 [.row 300600 (tI) true false, .keep],hK 28,hK 29,hK 30]|_=>none
noncomputable def R0:Fi:=fiOf f178 [.v tI false] [(false,[⟨.bool,none⟩])] h0
noncomputable def bF:Fi:=fiOf f180 [.v tI false, .v tI false, .r tI] [(false,[⟨tI,none⟩])] h0
noncomputable def yi:Fi:=fiOf f179 [.v tI false, .v tI false, .v tI false, .fn 180 [tI]] [(false,[⟨tR,some (true,false)⟩]),(false,[⟨.bool,none⟩])] fun|3=>some [hK 1,hK 2,hK 3, .cell 10 (.row 430010 (.bool) false false),hC 11 100011 tI]|8=>some [hK 1,hK 2,hK 3, .cell 10 (.row 430010 (.bool) false false),hC 11 100011 tI,hK 12]|_=>none
noncomputable def ZX:Fi:=fiOf f119 [.v tI false, .v tI false, .v tI false] [(false,[⟨tR,some (true,false)⟩]),(false,[⟨.bool,none⟩])] h0
noncomputable def fV:Fi:=fiOf f120 [.v tR false] [(false,[⟨.str,none⟩])] fun|3=>some [hK 3,hK 6,hK 7,hK 8]|_=>none
noncomputable def YX:Fi:=fiOf f256 [.v tI false, .v tR false] [(false,[⟨.bool,none⟩])] fun|4=>some [hK 0,hK 1,hK 13,hK 14,hK 15]|_=>none
noncomputable def Xa:Fi:=fiOf f225 [.v tI false, .v tR false] [(false,[⟨tR,some (true,true)⟩])] fun|5=>some [hK 0,hK 1, .cell 5 (.row 100005 (tI) true true),hC 6 100006 tI,hK 7]|_=>none
noncomputable def jY:Fi:=fiOf f226 [.v tR false] [(false,[⟨tI,none⟩])] fun|5=>some [hK 0,hK 3,hK 4]|_=>none
noncomputable def Px:Fi:=fiOf f183 [.v tI false, .v tR false] [(false,[⟨tI,none⟩])] fun|6=>some [hK 0,hK 1,hK 6, .cell 16 (.row 100016 (tI) true true),hK 17,hK 18]|_=>none
noncomputable def VG:Fi:=fiOf f121 [.v tI false] [(false,[⟨tI,none⟩])] h0
noncomputable def eM:Fi:=fiOf f71 [.p tT tC, .v .str false, .v tR false] [(false,[⟨.str,none⟩])] h0
noncomputable def uc:Fi:=fiOf f31 [.p tT tC, .v .str false] [(false,[⟨.str,none⟩])] fun|17=>some [.box 0 500000 [.keep, .keep, .keep, .keep, .keep, .keep, .keep],hK 5, .cell 7 (.row 100007 (tI) true true),hK 44,hK 45,hK 46]|_=>none
noncomputable def NU:Fi:=fiOf f10 [.v tN true, .v .str false] [(true,[⟨tR,none⟩,⟨tQ,none⟩,⟨tI,none⟩,⟨tI,none⟩,⟨tI,none⟩,⟨tR,none⟩,⟨tI,none⟩]),(false,[⟨.str,none⟩])] h0
noncomputable def bG:Fi:=fiOf f6 [.v .str false] [(false,[⟨.str,none⟩]),(false,[⟨tI,none⟩])] fun|7=>some [hK 4, .box 5 200005 [.val (tR), .val (tQ), .keep, .keep, .keep, .val (tR), .keep],hK 6,hK 16,hK 17,hK 18]|_=>none
noncomputable def vd:Fi:=fiOf f3 [.v .str false] [(false,[⟨.bool,none⟩])] h0
noncomputable def fnL:List (Nat×List Nat×Fi):=[(21,[],eT),(14,[],WU),(79,[],Gi),(38,[],Zd),(15,[],W0),(44,[],SU),(20,[],No),(138,[],Kf),(145,[],TW),(97,[],YE),(98,[],L5),(202,[],US),(136,[],LQ),(198,[],cX),(137,[],Rd),(88,[],WR),(151,[],Ro),(146,[],WN),(147,[],WI),(148,[],Ys),(149,[],WF),(150,[],WK),(99,[],Gh),(240,[],WD),(241,[],Re),(204,[],Ug),(200,[],cU),(261,[],WA),(239,[],Yr),(203,[],Xw),(141,[],Wy),(238,[],UY),(197,[],Wr),(130,[],fa),(139,[],Dw),(199,[],Vb),(131,[],Rc),(83,[],bm),(132,[],U7),(85,[],U6),(84,[],Zf),(47,[],L6),(86,[],fQ),(89,[],j9),(57,[],UX),(45,[],Xv),(133,[],S8),(135,[],Np),(201,[],Rx),(134,[],Rv),(87,[],j7),(94,[],Vc),(143,[],Rk),(144,[],Rt),(96,[],W7),(90,[],W6),(91,[],XH),(48,[],cR),(46,[],SV),(52,[],WS),(140,[],gb),(92,[],Yz),(49,[],Nm),(54,[],LD),(50,[],vK),(22,[],Nk),(142,[],YI),(93,[],YD),(51,[],fP),(23,[],UQ),(95,[],Ze),(55,[],U1),(53,[],Zc),(24,[],Nl),(56,[],Nw),(25,[],Gd),(58,[],cM),(100,[],cY),(152,[],TY),(153,[],eY),(101,[],jr),(59,[],UR),(154,[],Gf),(205,[],Ns),(155,[],Nt),(102,[],vR),(103,[],fO),(60,[],Nn),(242,[],Q1),(273,[],aY),(262,[],Wp),(243,[],Yv),(206,[],YF),(156,[],Yo),(104,[],W4),(61,[],SY),(26,[],yV),(8,[],yg),(5,[],cV),(80,[],strings_IndexByte_fi),(39,[],Y0),(16,[],Vx),(81,[],K5),(40,[],Tw),(194,[],JC),(127,[],Y9),(161,[],Js),(128,[],Je),(196,[],ZY),(195,[196],yh),(129,[],VA),(82,[],Vv),(64,[],wL),(41,[],Vw),(17,[],VE),(65,[],xK),(29,[],Tm),(30,[],Tn),(112,[],strings_Join_fi),(67,[],Cl),(116,[],strconv_Atoi_fi),(175,[],strconv_Itoa_fi),(117,[],TA),(70,[],Qa),(106,[],fY),(107,[],Z5),(169,[],Th),(168,[],ve),(114,[],Tx),(207,[],Qd),(160,[],VJ),(109,[],Tu),(158,[],VQ),(159,[],VH),(108,[],gN),(244,[],slices_Grow_int_fi),(208,[],wg),(245,[],slices_Reverse_int_fi),(209,[],RW),(182,[],K8),(211,[],PA),(212,[],K7),(213,[],PF),(210,[],R5),(162,[],Pz),(110,[],NV),(237,[],Co),(190,[],gk),(163,[],Tp),(111,[],Z6),(66,[],Z4),(68,[],zg),(249,[],eI),(195,[249],zZ),(248,[249],yD),(216,[],aN),(167,[],fX),(113,[],VC),(181,[],uE),(217,[],jS),(170,[],Sr),(171,[],cq),(172,[],Zl),(115,[],bO),(69,[],bQ),(269,[],Ja),(257,[],aF),(254,[],M3),(270,[271],slices_SortFunc_int_int_fi),(272,[258],slices_CompactFunc_int_int_fi),(255,[],fU),(224,[],Tr),(177,[],bN),(186,[],XV),(234,[],GG),(227,[],bA),(259,[],VN),(258,[],slices_Equal_int_fi),(230,[],VO),(229,[],Z8),(232,[229],zU),(228,[229],yw),(260,[],Tl),(232,[260],ya),(228,[260],yJ),(231,[],aG),(233,[],Z7),(232,[233],zT),(184,[],bT),(235,[],TC),(185,[],TB),(122,[],XO),(187,[],GI),(236,[],slices_Delete_i_Step_fi),(189,[],Qg),(188,[],R1),(123,[],gh),(191,[],XX),(124,[],bB),(72,[],Z3),(176,[],gl),(118,[],Y5),(178,[],R0),(180,[],bF),(179,[180],yi),(119,[],ZX),(120,[],fV),(256,[],YX),(225,[],Xa),(226,[],jY),(183,[],Px),(121,[],VG),(71,[],eM),(31,[],uc),(10,[],NU),(6,[],bG),(3,[],vd)]
noncomputable def E:Env:=⟨lookT tyL,lookF fnL⟩
def vP (k:Nat)(x:ByteArray×ByteArray):Option (List ByteArray):=aFn E eT k x
def vO (k:Nat)(a b:ByteArray)(c d:Int)(e:List ByteArray):Option (List ByteArray):=zv E k eT 4 [(0,cw .str a),(1,cw .str b),(5,co 100005),(6,ci c),(7,ci d)] [(100005, .row .str e true false)]
def Yy (k:Nat)(a b:ByteArray)(c d e:Int)(f:List ByteArray):Option (List ByteArray):=zv E k eT 7 [(0,cw .str a),(1,cw .str b),(5,co 100005),(6,ci c),(7,ci d),(8,ci e)] [(100005, .row .str f true false)]
def WV (k:Nat)(x:ByteArray):Option (List ByteArray):=aFn E WU k x
def yd (k:Nat)(x:Int×Int×Int):Option Bool:=aFn E Gi k x
def uI (k:Nat)(x:Int):Option (List Int):=aFn E Zd k x
def gF (k:Nat)(a b:Int)(c:List Int):Option (List Int):=zv E k Zd 5 [(0,ci a),(3,co 100003),(4,ci b)] [(100003, .row tI c true false)]
def W2 (k:Nat)(x:Unit):Option ((List Int)×(List dS)×Int×Int×Int×(List Int)×Int):=aFn E W0 k x
def Zy (k:Nat)(x:dT):Option ((List Int)×(List dS)×Int×Int×Int):=aFn E SU k x
def LG (k:Nat)(x:dN):Option ((List Int)×(List dS)×Int×Int×Int×(List Int)×Int):=aFn E No k x
def aC (k:Nat)(x:Int):Option Int:=aFn E Kf k x
def Yu (k:Nat)(x:(List Int)×Int):Option Bool:=aFn E TW k x
def Yt (k:Nat)(a:Int)(b:List Int)(c d:Int):Option Bool:=zv E k TW 2 [(1,ci a),(7,cw tR b),(8,ci c),(9,ci d)] []
def cA (k:Nat)(x:List Int):Option Bool:=aFn E YE k x
def eV (k:Nat)(a:List Int)(b c:Int)(d:List Int):Option Bool:=zv E k YE 5 [(3,co 100003),(11,cw tR a),(12,ci b),(13,ci c)] [(100003, .row tI d true false)]
def Uk (k:Nat)(x:Int×Int×Int):Option Bool:=aFn E L5 k x
def TV (k:Nat)(x:Int×Int):Option Bool:=aFn E US k x
def Yx (k:Nat)(x:Int×dS):Option Bool:=aFn E LQ k x
def uQ (k:Nat)(x:(List Int)×Int):Option Int:=aFn E cX k x
def wo (k:Nat)(a:Int)(b:List Int)(c d:Int):Option Int:=zv E k cX 2 [(1,ci a),(7,cw tR b),(8,ci c),(9,ci d)] []
def Q3 (k:Nat)(x:dT×Int×Bool):Option Bool:=aFn E Rd k x
def ug (k:Nat)(x:dT):Option Bool:=aFn E WR k x
def fd (k:Nat)(a:Int)(b:Bool)(c:List dS)(d e:Int)(f:List Int)(g:List dS)(h i j:Int):Option Bool:=zv E k WR 6 [(1, .adr 200001 0),(3,ci a),(4,cw .bool b),(25,cw tQ c),(26,ci d),(27,ci e)] [(200001, .box [.val tR f, .val tQ g, .val tI h, .val tI i, .val tI j])]
def Uj (k:Nat)(x:Int):Option Int:=aFn E Ro k x
def WP (k:Nat)(x:(List Int)×Int×Bool):Option (List Int):=aFn E WN k x
def fc (k:Nat)(a:List Int)(b:Int)(c:Bool)(d:Int)(e:List Int):Option (List Int):=zv E k WN 3 [(0,cw tR a),(1,ci b),(2,cw .bool c),(7,co 100007),(8,ci d)] [(100007, .row tI e true false)]
def Rm (k:Nat)(x:(List Int)×Int):Option (List Int):=aFn E WI k x
def xi (k:Nat)(a:Int)(b c d:List Int):Option (List Int):=zv E k WI 4 [(1,ci a),(5,cw tR b),(6,cw tR c),(7,co 100007)] [(100007, .row tI d true false)]
def Gg (k:Nat)(x:(List Int)×Int):Option (List Int):=aFn E Ys k x
def vN (k:Nat)(a:Int)(b:List Int)(c d:Int)(e:List Int):Option (List Int):=zv E k Ys 3 [(1,ci a),(5,co 100005),(9,cw tR b),(10,ci c),(11,ci d)] [(100005, .row tI e true false)]
def Dn (k:Nat)(x:List Int):Option (List Int):=aFn E WF k x
def aj (k:Nat)(a b:List Int):Option (List Int):=zv E k WF 2 [(0,cw tR a),(3,co 100003)] [(100003, .row tI b true false)]
def Dq (k:Nat)(x:(List Int)×Int):Option (List Int):=aFn E WK k x
def fb (k:Nat)(a:Int)(b c:List Int):Option (List Int):=zv E k WK 4 [(5,co 100005),(6,co 100006),(7,ci a)] [(100005, .row tI b true false),(100006, .row tI c true false)]
def Q5 (k:Nat)(x:(List Int)×Int×Int):Option (List Int):=aFn E Gh k x
def Rj (k:Nat)(x:List Int):Option (List (List Int)):=aFn E WD k x
def ah (k:Nat)(a:List Int)(b c:Int)(d:List (List Int)):Option (List (List Int)):=zv E k WD 3 [(0,cw tR a),(3,co 100003),(7,ci b),(8,ci c)] [(100003, .row tR d true false)]
def vM (k:Nat)(x:(List (List Int))×(List Int)×(List Int)×List Int):Option (List (List Int)):=aFn E Re k x
def Bo (k:Nat)(x:(List Int)×Int):Option (List (List Int)):=aFn E Ug k x
def Uf (k:Nat)(a:List Int)(b:Int)(c:List (List Int)):Option (List (List Int)):=zv E k Ug 7 [(0,cw tR a),(5,co 100005),(6,ci b)] [(100005, .row tR c false false)]
def Yq (k:Nat)(a b:List Int)(c d:Int)(e:List (List Int)):Option (List (List Int)):=zv E k Ug 15 [(0,cw tR a),(5,co 100005),(40,cw tR b),(41,ci c),(42,ci d)] [(100005, .row tR e true false)]
def yx (k:Nat)(x:(List Int)×List Int):Option Bool:=aFn E cU k x
def vr (k:Nat)(a b:List Int)(c d:Int):Option Bool:=zv E k cU 4 [(1,cw tR a),(12,cw tR b),(13,ci c),(14,ci d)] []
def Ri (k:Nat)(x:(List Int)×List Int):Option Bool:=aFn E WA k x
def af (k:Nat)(a b c:List Int)(d e:Int):Option Bool:=zv E k WA 2 [(0,cw tR a),(1,cw tR b),(7,cw tR c),(8,ci d),(9,ci e)] []
def Uh (k:Nat)(x:(List (List Int))×List (List Int)):Option (List (List Int)):=aFn E Yr k x
def zl (k:Nat)(a b c:List (List Int)):Option (List (List Int)):=zv E k Yr 2 [(0,cw tW a),(1,cw tW b),(5,co 450005)] [(450005, .row tR c true false)]
def ji (k:Nat)(x:List (List Int)):Option (List (List Int)):=aFn E Xw k x
def Rb (k:Nat)(x:dC×dS):Option (List dC):=aFn E Wy k x
def ae (k:Nat)(a b:Int)(c:List Int)(d:Int)(e:List dC)(f:List (List Int)):Option (List dC):=zv E k Wy 8 [(2, .adr 200002 0),(5,co 100005),(42,co 100042),(43,ci a),(44,ci b)] [(200002, .box [.val tR c, .val tI d]),(100005, .row tC e false false),(100042, .row tR f false false)]
def TX (k:Nat)(x:dC×dC):Option Bool:=aFn E UY k x
def LJ (k:Nat)(x:(List dC)×dC):Option Int:=aFn E Wr k x
def ab (k:Nat)(a:List dC)(b c:Int)(d:List Int)(e:Int):Option Int:=zv E k Wr 2 [(3, .adr 200003 0),(7,cw tD a),(8,ci b),(9,ci c)] [(200003, .box [.val tR d, .val tI e])]
def Ra (k:Nat)(x:dT):Option ((List dC)×(List (List Int))×Bool):=aFn E fa k x
def gZ (k:Nat)(a:List dS)(b c:Int)(d:List dC)(e:List (List Int)):Option ((List dC)×(List (List Int))×Bool):=zv E k fa 4 [(5,co 100005),(6,co 100006),(25,cw tQ a),(26,ci b),(27,ci c)] [(100005, .row tC d false false),(100006, .row tR e true false)]
def gY (k:Nat)(a:List dS)(b c d e:Int)(f:List (List Int))(g h i j:Int)(l:List dC)(m:List (List Int))(n:List dC):Option ((List dC)×(List (List Int))×Bool):=zv E k fa 9 [(6,co 100006),(8, .adr 200008 0),(9,co 100009),(10,co 100010),(25,cw tQ a),(26,ci b),(27,ci c),(33,co 100033),(34,ci d),(35,ci e)] [(100006, .row tR f false false),(200008, .box [.val tI g, .val tI h, .val tI i, .val tI j]),(100009, .row tC l false false),(100010, .row tR m true false),(100033, .row tC n false false)]
def vL (k:Nat)(a:Int)(b:List dS)(c d e f g h:Int)(i:List (List Int))(j l m n:Int)(o:List dC)(p:List (List Int))(q r:List dC):Option ((List dC)×(List (List Int))×Bool):=zv E k fa 12 [(6,co 100006),(8, .adr 200008 0),(9,co 100009),(10,co 100010),(11,ci a),(25,cw tQ b),(26,ci c),(27,ci d),(33,co 100033),(34,ci e),(35,ci f),(42,co 100042),(43,ci g),(44,ci h)] [(100006, .row tR i false false),(200008, .box [.val tI j, .val tI l, .val tI m, .val tI n]),(100009, .row tC o false false),(100010, .row tR p true false),(100033, .row tC q false false),(100042, .row tC r false false)]
def AC (k:Nat)(x:Int):Option Bool:=aFn E Dw k x
def Dz (k:Nat)(x:List Int):Option Int:=aFn E Vb k x
def fh (k:Nat)(a:Int)(b:List Int)(c d:Int):Option Int:=zv E k Vb 3 [(3,ci a),(6,cw tR b),(7,ci c),(8,ci d)] []
def Q2 (k:Nat)(x:dT×dC):Option Bool:=aFn E Rc k x
def aB (k:Nat)(x:dT):Option (Int×(List Int)×(List Int)×Int×Bool):=aFn E bm k x
def jt (k:Nat)(a:List (List Int))(b c:Int)(d:List Int)(e:List dS)(f g h i j:Int)(l:List dC):Option (Int×(List Int)×(List Int)×Int×Bool):=zv E k bm 7 [(1, .adr 200001 0),(2, .adr 200002 0),(5,cw tW a),(22,co 100022),(23,ci b),(24,ci c)] [(200001, .box [.val tR d, .val tQ e, .val tI f, .val tI g, .val tI h]),(200002, .box [.val tI i, .nil, .nil, .val tI j]),(100022, .row tC l false false)]
def Sb (k:Nat)(x:dT):Option ((List dC)×Bool):=aFn E U7 k x
def Sa (k:Nat)(x:dT):Option Int:=aFn E U6 k x
def zM (k:Nat)(x:Int):Option ByteArray:=aFn E Zf k x
def gH (k:Nat)(a:Int)(b:ByteArray):Option ByteArray:=zv E k Zf 6 [(0,ci a),(3,cw .str b)] []
def Ru (k:Nat)(x:(List ByteArray)×ByteArray):Option ByteArray:=aFn E L6 k x
def ZH (k:Nat)(a b:ByteArray)(c:List ByteArray)(d e:Int):Option ByteArray:=zv E k L6 3 [(1,cw .str a),(5,cw .str b),(8,cw (.slice .str) c),(9,ci d),(10,ci e)] []
def YJ (k:Nat)(x:List Int):Option ByteArray:=aFn E fQ k x
def uv (k:Nat)(a:List Int)(b c:Int)(d:List ByteArray):Option ByteArray:=zv E k fQ 3 [(3,co 100003),(7,cw tR a),(8,ci b),(9,ci c)] [(100003, .row .str d true false)]
def uh (k:Nat)(x:List Int):Option ByteArray:=aFn E j9 k x
def wq (k:Nat)(a:List Int)(b c:Int)(d:List ByteArray):Option ByteArray:=zv E k j9 5 [(3,co 100003),(11,cw tR a),(12,ci b),(13,ci c)] [(100003, .row .str d true false)]
def cT (k:Nat)(x:dC):Option ByteArray:=aFn E UX k x
def Yw (k:Nat)(x:dT):Option ByteArray:=aFn E Xv k x
def ZA (k:Nat)(x:dT):Option Bool:=aFn E S8 k x
def S9 (k:Nat)(x:dT×Int):Option ((List Int)×(List dS)×Int×Int×Int):=aFn E Np k x
def Pi (k:Nat)(x:dT×Int):Option ((List Int)×(List dS)×Int×Int×Int×Bool):=aFn E Rx k x
def Pe (k:Nat)(x:dT×Int):Option Bool:=aFn E Rv k x
def Za (k:Nat)(x:dT):Option ((List Int)×(List dS)×Int×Int×Int×Bool):=aFn E j7 k x
def wn (k:Nat)(a b c d e f g:Int)(h:List Int)(i:List dS):Option ((List Int)×(List dS)×Int×Int×Int×Bool):=zv E k j7 5 [(2, .adr 200002 0),(4, .adr 200004 0),(5,ci a)] [(200002, .box [.nil, .nil, .val tI b, .val tI c, .val tI d]),(200004, .box [.own 300400, .own 300401, .val tI e, .val tI f, .val tI g]),(300400, .row tI h true false),(300401, .row tS i true false)]
def xT (k:Nat)(x:Int):Option ByteArray:=aFn E Vc k x
def Q4 (k:Nat)(x:Unit):Option (List ByteArray):=aFn E Rk k x
def Pd (k:Nat)(x:Int):Option ByteArray:=aFn E Rt k x
def wD (k:Nat)(x:Int×Int):Option ByteArray:=aFn E W7 k x
def fg (k:Nat)(x:dS):Option ByteArray:=aFn E W6 k x
def YK (k:Nat)(x:dT):Option ByteArray:=aFn E XH k x
def fe (k:Nat)(x:dT):Option (List ByteArray):=aFn E cR k x
def jh (k:Nat)(a:List dS)(b c:Int)(d:List Int)(e:List dS)(f g h:Int)(i:List ByteArray):Option (List ByteArray):=zv E k cR 5 [(1, .adr 200001 0),(3,co 100003),(15,cw tQ a),(16,ci b),(17,ci c)] [(200001, .box [.val tR d, .val tQ e, .val tI f, .val tI g, .val tI h]),(100003, .row .str i true false)]
def QX (k:Nat)(x:dN):Option ((List Int)×(List dS)×Int×Int×Int×(List Int)×Int×ByteArray):=aFn E SV k x
def am (k:Nat)(x:dT):Option ((List Int)×Int×Bool):=aFn E WS k x
def Zg (k:Nat)(x:dT):Option Int:=aFn E gb k x
def wt (k:Nat)(a:Int)(b:List dS)(c d:Int):Option Int:=zv E k gb 5 [(3,ci a),(10,cw tQ b),(11,ci c),(12,ci d)] []
def Pa (k:Nat)(x:dT×List Int):Option ((List Int)×Int×Bool):=aFn E Yz k x
def jj (k:Nat)(a:List Int)(b:Int)(c:List dS)(d e f:Int)(g:List Int)(h:Int):Option ((List Int)×Int×Bool):=zv E k Yz 6 [(1,cw tR a),(4, .adr 200004 0),(6, .adr 200006 0),(8,ci b),(29,cw tQ c),(30,ci d),(31,ci e)] [(200004, .box [.nil, .val tI f]),(200006, .box [.val tR g, .val tI h])]
def SX (k:Nat)(x:dN×List Int):Option ((List Int)×(List dS)×Int×Int×Int×(List Int)×Int×ByteArray):=aFn E Nm k x
def eO (k:Nat)(x:dN×dT):Option ((List Int)×(List dS)×Int×Int×Int×(List Int)×Int×ByteArray):=aFn E LD k x
def cz (k:Nat)(x:dN×ByteArray×List Int):Option ((List Int)×(List dS)×Int×Int×Int×(List Int)×Int×ByteArray):=aFn E vK k x
def eQ (k:Nat)(a:ByteArray)(b c:List Int)(d:List dS)(e f g:Int)(h:List Int)(i j l m n o p q:Int)(r:List Int)(s:List dS):Option ((List Int)×(List dS)×Int×Int×Int×(List Int)×Int×ByteArray):=zv E k vK 7 [(1,cw .str a),(2,cw tR b),(3, .adr 200003 0),(6, .adr 200006 0),(8, .adr 200008 0)] [(200003, .box [.val tR c, .val tQ d, .val tI e, .val tI f, .val tI g, .val tR h, .val tI i]),(200006, .box [.nil, .nil, .val tI j, .val tI l, .val tI m, .nil, .val tI n]),(200008, .box [.own 300800, .own 300801, .val tI o, .val tI p, .val tI q]),(300800, .row tI r true false),(300801, .row tS s true false)]
def eP (k:Nat)(a:ByteArray)(b c:List Int)(d:List dS)(e f g:Int)(h:List Int)(i j l m n o p q:Int)(r:List Int)(s:List dS):Option ((List Int)×(List dS)×Int×Int×Int×(List Int)×Int×ByteArray):=zv E k vK 9 [(1,cw .str a),(2,cw tR b),(3, .adr 200003 0),(6, .adr 200006 0),(8, .adr 200008 0)] [(200003, .box [.val tR c, .val tQ d, .val tI e, .val tI f, .val tI g, .val tR h, .val tI i]),(200006, .box [.nil, .nil, .val tI j, .val tI l, .val tI m, .nil, .val tI n]),(200008, .box [.own 300800, .own 300801, .val tI o, .val tI p, .val tI q]),(300800, .row tI r true false),(300801, .row tS s true false)]
def gC (k:Nat)(a:ByteArray)(b c:List Int)(d:List dS)(e f g:Int)(h:List Int)(i j l m n o p q:Int)(r:List Int)(s:List dS):Option ((List Int)×(List dS)×Int×Int×Int×(List Int)×Int×ByteArray):=zv E k vK 12 [(1,cw .str a),(2,cw tR b),(3, .adr 200003 0),(6, .adr 200006 0),(8, .adr 200008 0)] [(200003, .box [.val tR c, .val tQ d, .val tI e, .val tI f, .val tI g, .val tR h, .val tI i]),(200006, .box [.nil, .nil, .val tI j, .val tI l, .val tI m, .nil, .val tI n]),(200008, .box [.own 300800, .own 300801, .val tI o, .val tI p, .val tI q]),(300800, .row tI r true false),(300801, .row tS s true false)]
def gB (k:Nat)(a:ByteArray)(b c:List Int)(d:List dS)(e f g:Int)(h:List Int)(i j l m n o p q:Int)(r:List Int)(s:List dS):Option ((List Int)×(List dS)×Int×Int×Int×(List Int)×Int×ByteArray):=zv E k vK 15 [(1,cw .str a),(2,cw tR b),(3, .adr 200003 0),(6, .adr 200006 0),(8, .adr 200008 0)] [(200003, .box [.val tR c, .val tQ d, .val tI e, .val tI f, .val tI g, .val tR h, .val tI i]),(200006, .box [.nil, .nil, .val tI j, .val tI l, .val tI m, .nil, .val tI n]),(200008, .box [.own 300800, .own 300801, .val tI o, .val tI p, .val tI q]),(300800, .row tI r true false),(300801, .row tS s true false)]
def Wn (k:Nat)(x:dN×ByteArray):Option ((List Int)×(List dS)×Int×Int×Int×(List Int)×Int×ByteArray):=aFn E Nk k x
def cB (k:Nat)(x:ByteArray):Option Bool:=aFn E YI k x
def eX (k:Nat)(a:ByteArray)(b:Int):Option Bool:=zv E k YI 2 [(0,cw .str a),(3,ci b)] []
def w8 (k:Nat)(x:ByteArray):Option (Int×Bool):=aFn E YD k x
def wN (k:Nat)(a:ByteArray)(b:Bool)(c:ByteArray)(d e:Int):Option (Int×Bool):=zv E k YD 9 [(0,cw .str a),(4,cw .bool b),(5,cw .str c),(6,ci d),(7,ci e)] []
def YB (k:Nat)(x:ByteArray):Option ((List Int)×Bool):=aFn E fP k x
def yF (k:Nat)(a:ByteArray)(b c:Int)(d:List Int)(e:List ByteArray):Option ((List Int)×Bool):=zv E k fP 5 [(0,cw .str a),(4,co 100004),(14,co 100014),(15,ci b),(16,ci c)] [(100004, .row tI d true false),(100014, .row .str e true false)]
def TS (k:Nat)(x:dN×ByteArray):Option ((List Int)×(List dS)×Int×Int×Int×(List Int)×Int×ByteArray):=aFn E UQ k x
def YH (k:Nat)(x:ByteArray):Option Int:=aFn E Ze k x
def gG (k:Nat)(a:ByteArray)(b c:Int)(d:List ByteArray):Option Int:=zv E k Ze 2 [(0,cw .str a),(5,co 100005),(6,ci b),(7,ci c)] [(100005, .row .str d true false)]
def YC (k:Nat)(x:ByteArray):Option (Int×Int×Bool):=aFn E U1 k x
def TZ (k:Nat)(x:ByteArray):Option (Int×Int×Int×Int×Bool):=aFn E Zc k x
def gE (k:Nat)(a:ByteArray)(b c d e f:Int):Option (Int×Int×Int×Int×Bool):=zv E k Zc 2 [(0,cw .str a),(2, .adr 200002 0),(4,ci b)] [(200002, .box [.val tI c, .val tI d, .val tI e, .val tI f])]
def LC (k:Nat)(x:dN×ByteArray):Option ((List Int)×(List dS)×Int×Int×Int×(List Int)×Int×ByteArray):=aFn E Nl k x
def L0 (k:Nat)(x:(List Int)×Int×Int):Option ((List Int)×Bool):=aFn E Nw k x
def Bl (k:Nat)(x:dN×ByteArray):Option ((List Int)×(List dS)×Int×Int×Int×(List Int)×Int×ByteArray):=aFn E Gd k x
def aa (k:Nat)(x:List ByteArray):Option ((List Int)×Bool):=aFn E cM k x
def je (k:Nat)(a:List ByteArray)(b c:Int)(d:List Int):Option ((List Int)×Bool):=zv E k cM 3 [(4,co 100004),(10,cw (.slice .str) a),(11,ci b),(12,ci c)] [(100004, .row tI d true false)]
def WY (k:Nat)(x:Int×Int×Int):Option ((List Int)×Bool):=aFn E cY k x
def jm (k:Nat)(a b:Int)(c d:List Int):Option ((List Int)×Bool):=zv E k cY 5 [(6,co 100006),(17,co 100017),(18,ci a),(19,ci b)] [(100006, .row tI c true false),(100017, .row tI d true false)]
def MR (k:Nat)(x:List Int):Option Bool:=aFn E TY k x
def YA (k:Nat)(a b:List Int)(c d:Int):Option Bool:=zv E k TY 4 [(0,cw tR a),(8,cw tR b),(9,ci c),(10,ci d)] []
def Pj (k:Nat)(x:List Int):Option (List (List Int)):=aFn E eY k x
def vS (k:Nat)(a:List Int)(b c:Int)(d:List (List Int))(e:List Bool):Option (List (List Int)):=zv E k eY 6 [(0,cw tR a),(3,co 100003),(4,co 100004),(16,ci b),(17,ci c)] [(100003, .row tR d true false),(100004, .row .bool e true false)]
def gI (k:Nat)(a:List Int)(b c d:Int)(e:List (List Int))(f:List Bool)(g:List Int):Option (List (List Int)):=zv E k eY 11 [(0,cw tR a),(3,co 100003),(4,co 100004),(6,co 100006),(7,ci b),(16,ci c),(17,ci d)] [(100003, .row tR e true false),(100004, .row .bool f true false),(100006, .row tI g true false)]
def W9 (k:Nat)(x:List Int):Option ByteArray:=aFn E jr k x
def vu (k:Nat)(a:ByteArray)(b c:Int)(d:List (List Int)):Option ByteArray:=zv E k jr 5 [(3,cw .str a),(13,co 100013),(14,ci b),(15,ci c)] [(100013, .row tR d false false)]
def jq (k:Nat)(a:ByteArray)(b c:Int)(d:List Int)(e f:Int)(g:List ByteArray)(h:List (List Int)):Option ByteArray:=zv E k jr 9 [(3,cw .str a),(6,co 100006),(13,co 100013),(14,ci b),(15,ci c),(20,cw tR d),(21,ci e),(22,ci f)] [(100006, .row .str g true false),(100013, .row tR h false false)]
def TT (k:Nat)(x:dN×ByteArray×Int):Option ByteArray:=aFn E UR k x
def Bn (k:Nat)(x:Int):Option Bool:=aFn E Gf k x
def Dh (k:Nat)(x:Int×Int):Option (List Int):=aFn E Ns k x
def LK (k:Nat)(x:Int×Int×Int):Option Int:=aFn E Nt k x
def aZ (k:Nat)(x:Int×Int×Int):Option ((List Int)×Bool):=aFn E vR k x
def vQ (k:Nat)(a b c:Int)(d:List (List Int))(e:List Int):Option ((List Int)×Bool):=zv E k vR 6 [(0,ci a),(2,ci b),(8,co 100008),(9,co 100009),(10,ci c)] [(100008, .row tR d false false),(100009, .row tI e true false)]
def xq (k:Nat)(a b c d:Int)(e:List (List Int))(f:List Int):Option ((List Int)×Bool):=zv E k vR 11 [(0,ci a),(2,ci b),(8,co 100008),(9,co 100009),(10,ci c),(11,ci d)] [(100008, .row tR e false false),(100009, .row tI f true false)]
def Rr (k:Nat)(x:List Int):Option ByteArray:=aFn E fO k x
def wX (k:Nat)(a:ByteArray)(b:List Int)(c d:Int):Option ByteArray:=zv E k fO 3 [(3,cw .str a),(6,cw tR b),(7,ci c),(8,ci d)] []
def LF (k:Nat)(x:dN×Int×Int):Option ByteArray:=aFn E Nn k x
def Ff (k:Nat)(x:Int×List Int):Option Bool:=aFn E Q1 k x
def Ue (k:Nat)(a:Int)(b c:List Int)(d e:Int):Option Bool:=zv E k Q1 4 [(0,ci a),(1,cw tR b),(10,cw tR c),(11,ci d),(12,ci e)] []
def TU (k:Nat)(x:Int×Int):Option Int:=aFn E aY k x
def gD (k:Nat)(a b c d:Int):Option Int:=zv E k aY 3 [(0,ci a),(1,ci b),(5,ci c),(6,ci d)] []
def LI (k:Nat)(x:Int×Int×List Int):Option Int:=aFn E Wp k x
def uP (k:Nat)(a b:Int)(c:List Int)(d e:Int)(f:List Int)(g h:Int):Option Int:=zv E k Wp 4 [(0,ci a),(1,ci b),(2,cw tR c),(7,ci d),(8,ci e),(12,cw tR f),(13,ci g),(14,ci h)] []
def Q6 (k:Nat)(x:Int×List Int):Option Int:=aFn E Yv k x
def eS (k:Nat)(a:Int)(b:List Int)(c d:Int):Option Int:=zv E k Yv 5 [(0,ci a),(1,cw tR b),(5,ci c),(6,ci d)] []
def Pb (k:Nat)(x:Int×List Int):Option (List Int):=aFn E YF k x
def jo (k:Nat)(a:Int)(b:List Int)(c:Int)(d:List Int):Option (List Int):=zv E k YF 5 [(0,ci a),(1,cw tR b),(5,co 100005),(6,ci c)] [(100005, .row tI d true false)]
def Ud (k:Nat)(x:Int×List Int):Option Int:=aFn E Yo k x
def jf (k:Nat)(a:Int)(b:List Int)(c d e f:Int)(g:List Int):Option Int:=zv E k Yo 5 [(0,ci a),(1,cw tR b),(6,ci c),(7,ci d),(13,co 100013),(14,ci e),(15,ci f)] [(100013, .row tI g true true)]
def Nx (k:Nat)(x:Int):Option Int:=aFn E W4 k x
def QY (k:Nat)(x:Int):Option ByteArray:=aFn E SY k x
def Fd (k:Nat)(x:dN×List ByteArray):Option ((List Int)×(List dS)×Int×Int×Int×(List Int)×Int×ByteArray):=aFn E yV k x
def jZ (k:Nat)(a:List ByteArray)(b c:Bool)(d:List Int)(e:List dS)(f g h:Int)(i:List Int)(j l m n o:Int)(p q:List Int):Option ((List Int)×(List dS)×Int×Int×Int×(List Int)×Int×ByteArray):=zv E k yV 5 [(1,cw (.slice .str) a),(2, .adr 200002 0),(4, .adr 200004 0),(6,co 100006),(7,cw .bool b),(8,co 100008),(9,cw .bool c)] [(200002, .box [.val tR d, .val tQ e, .val tI f, .val tI g, .val tI h, .val tR i, .val tI j]),(200004, .box [.nil, .nil, .val tI l, .val tI m, .val tI n, .nil, .val tI o]),(100006, .row tI p true false),(100008, .row tI q true false)]
def cN (k:Nat)(a:List ByteArray)(b:Bool)(c:List Int)(d:List dS)(e f g:Int)(h:List Int)(i j l m n:Int)(o:List Int):Option ((List Int)×(List dS)×Int×Int×Int×(List Int)×Int×ByteArray):=zv E k yV 7 [(1,cw (.slice .str) a),(2, .adr 200002 0),(4, .adr 200004 0),(8,co 100008),(9,cw .bool b)] [(200002, .box [.val tR c, .val tQ d, .val tI e, .val tI f, .val tI g, .val tR h, .val tI i]),(200004, .box [.nil, .nil, .val tI j, .val tI l, .val tI m, .nil, .val tI n]),(100008, .row tI o true false)]
def Yn (k:Nat)(a:List ByteArray)(b:Bool)(c:List Int)(d:List dS)(e f g:Int)(h:List Int)(i j l m n:Int)(o:List Int):Option ((List Int)×(List dS)×Int×Int×Int×(List Int)×Int×ByteArray):=zv E k yV 9 [(1,cw (.slice .str) a),(2, .adr 200002 0),(4, .adr 200004 0),(8,co 100008),(9,cw .bool b)] [(200002, .box [.val tR c, .val tQ d, .val tI e, .val tI f, .val tI g, .val tR h, .val tI i]),(200004, .box [.nil, .nil, .val tI j, .val tI l, .val tI m, .nil, .val tI n]),(100008, .row tI o true false)]
def gX (k:Nat)(a:List ByteArray)(b:Bool)(c:List Int)(d:List dS)(e f g:Int)(h:List Int)(i j l m n:Int)(o:List Int):Option ((List Int)×(List dS)×Int×Int×Int×(List Int)×Int×ByteArray):=zv E k yV 11 [(1,cw (.slice .str) a),(2, .adr 200002 0),(4, .adr 200004 0),(8,co 100008),(9,cw .bool b)] [(200002, .box [.val tR c, .val tQ d, .val tI e, .val tI f, .val tI g, .val tR h, .val tI i]),(200004, .box [.nil, .nil, .val tI j, .val tI l, .val tI m, .nil, .val tI n]),(100008, .row tI o true false)]
def LW (k:Nat)(x:dN×ByteArray):Option ((List Int)×(List dS)×Int×Int×Int×(List Int)×Int×ByteArray):=aFn E yg k x
def WX (k:Nat)(x:ByteArray):Option (ByteArray×Int):=aFn E cV k x
def vt (k:Nat)(a:List ByteArray)(b:ByteArray)(c:List ByteArray)(d e:Int)(f:List Int)(g:List dS)(h i j:Int)(l:List Int)(m:Int):Option (ByteArray×Int):=zv E k cV 7 [(4,cw (.slice .str) a),(5, .adr 200005 0),(6,cw .str b),(17,cw (.slice .str) c),(18,ci d),(19,ci e)] [(200005, .box [.val tR f, .val tQ g, .val tI h, .val tI i, .val tI j, .val tR l, .val tI m])]
def strings_IndexByte (k:Nat)(x:ByteArray×Int):Option Int:=aFn E strings_IndexByte_fi k x
def gf (k:Nat)(x:ByteArray×ByteArray):Option (List ByteArray):=aFn E Y0 k x
def vW (k:Nat)(a b:ByteArray)(c d:Int)(e:List ByteArray):Option (List ByteArray):=zv E k Y0 4 [(0,cw .str a),(1,cw .str b),(5,co 100005),(6,ci c),(7,ci d)] [(100005, .row .str e true true)]
def Vy (k:Nat)(x:ByteArray):Option (List ByteArray):=aFn E Vx k x
def K6 (k:Nat)(x:Int):Option (List Int):=aFn E K5 k x
def RT (k:Nat)(a b:Int)(c:List Int):Option (List Int):=zv E k K5 3 [(0,ci a),(3,co 100003),(4,ci b)] [(100003, .row tI c true true)]
def Su (k:Nat)(x:Int):Option (List Int):=aFn E Tw k x
def uA (k:Nat)(x:Int):Option Int:=aFn E JC k x
def w9 (k:Nat)(x:List Int):Option Bool:=aFn E Y9 k x
def cg (k:Nat)(a:List Int)(b c:Int)(d:List Bool):Option Bool:=zv E k Y9 3 [(3, .adr 400003 0),(7,cw tR a),(8,ci b),(9,ci c)] [(400003, .arr .bool d)]
def Uu (k:Nat)(x:Int×Int×Int):Option Bool:=aFn E Js k x
def R7 (k:Nat)(x:Int×dS):Option Bool:=aFn E Je k x
def Zo (k:Nat)(x:Int×Int):Option Bool:=aFn E ZY k x
def xo (k:Nat)(x:(List Int)×Int):Option Int:=aFn E yh k x
def zL (k:Nat)(a:List Int)(b c d:Int):Option Int:=zv E k yh 2 [(0,cw tR a),(1, .fn 196 [[.val tI b]]),(7,ci c),(8,ci d)] []
def fB (k:Nat)(x:(List Int)×Int):Option Int:=aFn E VA k x
def vC (k:Nat)(x:dT):Option Bool:=aFn E Vv k x
def fy (k:Nat)(a:Int)(b:Bool)(c:List dS)(d e:Int)(f:List Int)(g:List dS)(h i j:Int):Option Bool:=zv E k Vv 6 [(1, .adr 200001 0),(3,ci a),(4,cw .bool b),(25,cw tQ c),(26,ci d),(27,ci e)] [(200001, .box [.val tR f, .val tQ g, .val tI h, .val tI i, .val tI j])]
def zF (k:Nat)(x:List Int):Option (List Int):=aFn E wL k x
def uU (k:Nat)(x:dT):Option ((List Int)×Int×Bool):=aFn E Vw k x
def VF (k:Nat)(x:Unit):Option ((List Int)×(List dS)×Int×Int×Int×(List Int)×Int):=aFn E VE k x
def uG (k:Nat)(x:List dS):Option (List dS):=aFn E xK k x
def uK (k:Nat)(x:dT):Option ((List Int)×(List dS)×Int×Int×Int):=aFn E Tm k x
def Sn (k:Nat)(x:dC):Option ((List Int)×Int):=aFn E Tn k x
def strings_Join (k:Nat)(x:(List ByteArray)×ByteArray):Option ByteArray:=aFn E strings_Join_fi k x
def aM (k:Nat)(x:(List ByteArray)×ByteArray):Option ByteArray:=aFn E Cl k x
def Nh (k:Nat)(x:ByteArray):Option (Int×Bool):=aFn E strconv_Atoi_fi k x
def strconv_Itoa (k:Nat)(x:Int):Option ByteArray:=aFn E strconv_Itoa_fi k x
def zW (k:Nat)(x:Int):Option ByteArray:=aFn E TA k x
def vX (k:Nat)(x:ByteArray):Option (Int×Bool):=aFn E Qa k x
def Y7 (k:Nat)(x:ByteArray):Option ((List Int)×Bool):=aFn E fY k x
def yG (k:Nat)(a b:Int)(c:List Int)(d:List ByteArray):Option ((List Int)×Bool):=zv E k fY 5 [(4,co 100004),(13,co 100013),(14,ci a),(15,ci b)] [(100004, .row tI c true true),(100013, .row .str d true true)]
def zy (k:Nat)(x:dN×dT):Option (ByteArray×dN):=aFn E Z5 k x
def Sl (k:Nat)(x:Unit):Option (List ByteArray):=aFn E Th k x
def cK (k:Nat)(x:(List ByteArray)×ByteArray):Option Int:=aFn E ve k x
def xJ (k:Nat)(a:List ByteArray)(b:ByteArray)(c d:Int):Option Int:=zv E k ve 2 [(0,cw (.slice .str) a),(1,cw .str b),(7,ci c),(8,ci d)] []
def Xc (k:Nat)(x:ByteArray):Option Int:=aFn E Tx k x
def PM (k:Nat)(x:Int):Option ByteArray:=aFn E Qd k x
def uW (k:Nat)(x:Int×Int):Option ByteArray:=aFn E VJ k x
def Y8 (k:Nat)(x:ByteArray):Option (Int×Int×Bool):=aFn E Tu k x
def uY (k:Nat)(x:Int):Option ByteArray:=aFn E VQ k x
def aP (k:Nat)(x:dS):Option ByteArray:=aFn E VH k x
def Ss (k:Nat)(x:ByteArray):Option (Int×Int×Int×Int×Bool):=aFn E gN k x
def gM (k:Nat)(a:ByteArray)(b c d e f:Int):Option (Int×Int×Int×Int×Bool):=zv E k gN 5 [(0,cw .str a),(2, .adr 200002 0),(6,ci b)] [(200002, .box [.val tI c, .val tI d, .val tI e, .val tI f])]
def jG (k:Nat)(a:ByteArray)(b c d e f:Int):Option (Int×Int×Int×Int×Bool):=zv E k gN 10 [(0,cw .str a),(2, .adr 200002 0),(7,ci b)] [(200002, .box [.val tI c, .val tI d, .val tI e, .val tI f])]
def cL (k:Nat)(x:(List Int)×Int):Option (List Int):=aFn E slices_Grow_int_fi k x
def yK (k:Nat)(x:List (List Int)):Option (List Int):=aFn E wg k x
def we (k:Nat)(a:List (List Int))(b:Int)(c:List (List Int))(d e:Int):Option (List Int):=zv E k wg 3 [(0,cw tW a),(3,ci b),(9,cw tW c),(10,ci d),(11,ci e)] []
def xR (k:Nat)(a:List (List Int))(b c:Int)(d:List Int):Option (List Int):=zv E k wg 11 [(6,co 100006),(25,cw tW a),(26,ci b),(27,ci c)] [(100006, .row tI d true false)]
def ja (k:Nat)(x:List Int):Option (Unit×List Int):=aFn E slices_Reverse_int_fi k x
def ZT (k:Nat)(x:List Int):Option (List Int):=aFn E RW k x
def A2 (k:Nat)(x:(List Int)×Int):Option (List Int):=aFn E K8 k x
def ww (k:Nat)(a b:List Int)(c:Bool)(d:List Int):Option (List Int):=zv E k K8 4 [(5,cw tR a),(6,cw tR b),(7,co 100007),(8,cw .bool c)] [(100007, .row tI d true true)]
def zcP (k:Nat)(x:(List Int)×Int):Option (List Int):=aFn E PA k x
def cE (k:Nat)(a:Int)(b:List Int)(c d:Int)(e:List Int):Option (List Int):=zv E k PA 3 [(1,ci a),(5,co 100005),(8,cw tR b),(9,ci c),(10,ci d)] [(100005, .row tI e true false)]
def ze6 (k:Nat)(x:List Int):Option (List Int):=aFn E K7 k x
def RZ (k:Nat)(a b:List Int):Option (List Int):=zv E k K7 2 [(0,cw tR a),(3,co 100003)] [(100003, .row tI b true false)]
def zcS (k:Nat)(x:(List Int)×Int):Option (List Int):=aFn E PF k x
def ZW (k:Nat)(a:Bool)(b c:List Int):Option (List Int):=zv E k PF 4 [(5,co 100005),(6,co 100006),(7,cw .bool a)] [(100005, .row tI b true true),(100006, .row tI c true false)]
def Ut (k:Nat)(x:Int):Option Int:=aFn E R5 k x
def Sk (k:Nat)(x:(List Int)×Int×Int):Option (List Int):=aFn E Pz k x
def YV (k:Nat)(a b:Int)(c:List Int):Option (List Int):=zv E k Pz 10 [(5,ci a),(6,co 100006),(7,ci b)] [(100006, .row tI c true false)]
def Jm (k:Nat)(x:(List Int)×Int×Int):Option ((List Int)×Bool):=aFn E NV k x
def A4 (k:Nat)(x:Int):Option Bool:=aFn E Co k x
def gO (k:Nat)(x:List Int):Option ByteArray:=aFn E gk k x
def wy (k:Nat)(a:List Int)(b c:Int)(d:List ByteArray):Option ByteArray:=zv E k gk 7 [(3,co 100003),(13,cw tR a),(14,ci b),(15,ci c)] [(100003, .row .str d true true)]
def Y4 (k:Nat)(x:dC):Option ByteArray:=aFn E Tp k x
def gP (k:Nat)(x:dN×dC×Bool):Option (ByteArray×dN):=aFn E Z6 k x
def va (k:Nat)(x:dN×ByteArray×ByteArray):Option (ByteArray×dN):=aFn E Z4 k x
def bR (k:Nat)(x:dN×List ByteArray):Option (ByteArray×dN):=aFn E zg k x
def xu (k:Nat)(a b:List ByteArray)(c d:Int)(e f:List Int)(g:List dS)(h i j:Int)(l:List Int)(m:Int):Option (ByteArray×dN):=zv E k zg 3 [(0, .adr 500000 0),(1,cw (.slice .str) a),(5,co 100005),(11,cw (.slice .str) b),(12,ci c),(13,ci d)] [(100005, .row tI e true true),(500000, .box [.val tR f, .val tQ g, .val tI h, .val tI i, .val tI j, .val tR l, .val tI m])]
def wT (k:Nat)(a:List ByteArray)(b:List Int)(c d e:Int)(f:List Int)(g:List dS)(h:List Int)(i:List dS)(j l m:Int)(n:List Int)(o:Int):Option (ByteArray×dN):=zv E k zg 17 [(0, .adr 500000 0),(1,cw (.slice .str) a),(5,co 100005),(10, .adr 200010 0)] [(100005, .row tI b true true),(200010, .box [.own 301000, .own 301001, .val tI c, .val tI d, .val tI e]),(301000, .row tI f true false),(301001, .row tS g true false),(500000, .box [.val tR h, .val tQ i, .val tI j, .val tI l, .val tI m, .val tR n, .val tI o])]
def wS (k:Nat)(a:List ByteArray)(b:List Int)(c d e:Int)(f:List Int)(g:List dS)(h:List Int)(i:List dS)(j l m:Int)(n:List Int)(o:Int):Option (ByteArray×dN):=zv E k zg 19 [(0, .adr 500000 0),(1,cw (.slice .str) a),(5,co 100005),(10, .adr 200010 0)] [(100005, .row tI b true true),(200010, .box [.own 301000, .own 301001, .val tI c, .val tI d, .val tI e]),(301000, .row tI f true false),(301001, .row tS g true false),(500000, .box [.val tR h, .val tQ i, .val tI j, .val tI l, .val tI m, .val tR n, .val tI o])]
def wR (k:Nat)(a:List ByteArray)(b c d:Int)(e:List Int)(f:List dS)(g:List Int)(h:List dS)(i j l:Int)(m:List Int)(n:Int):Option (ByteArray×dN):=zv E k zg 21 [(0, .adr 500000 0),(1,cw (.slice .str) a),(10, .adr 200010 0)] [(200010, .box [.own 301000, .own 301001, .val tI b, .val tI c, .val tI d]),(301000, .row tI e true false),(301001, .row tS f true false),(500000, .box [.val tR g, .val tQ h, .val tI i, .val tI j, .val tI l, .val tR m, .val tI n])]
def gj (k:Nat)(x:Int×List Int):Option Bool:=aFn E eI k x
def xc (k:Nat)(x:(List Int)×List Int):Option Int:=aFn E zZ k x
def zH (k:Nat)(a b:List Int)(c d:Int):Option Int:=zv E k zZ 2 [(0,cw tR a),(1, .fn 249 [[.val tR b]]),(7,ci c),(8,ci d)] []
def yS (k:Nat)(x:(List Int)×List Int):Option Bool:=aFn E yD k x
def jJ (k:Nat)(x:(List Int)×List Int):Option Bool:=aFn E aN k x
def R9 (k:Nat)(x:(List Int)×List Int):Option ((List Int)×Bool):=aFn E fX k x
def uy (k:Nat)(a b:List Int)(c d:Int)(e:List Int):Option ((List Int)×Bool):=zv E k fX 5 [(0,cw tR a),(6,co 100006),(13,cw tR b),(14,ci c),(15,ci d)] [(100006, .row tI e true true)]
def VD (k:Nat)(x:Int×Int×Int):Option ((List Int)×Bool):=aFn E VC k x
def uq (k:Nat)(x:(List Int)×Int):Option Int:=aFn E uE k x
def wJ (k:Nat)(a:List Int)(b c d:Int):Option Int:=zv E k uE 2 [(0,cw tR a),(1,ci b),(7,ci c),(8,ci d)] []
def wK (k:Nat)(x:(List Int)×Int):Option Bool:=aFn E jS k x
def M4 (k:Nat)(x:List Int):Option Bool:=aFn E Sr k x
def Y6 (k:Nat)(a b:List Int)(c d:Int):Option Bool:=zv E k Sr 2 [(0,cw tR a),(5,cw tR b),(6,ci c),(7,ci d)] []
def PO (k:Nat)(x:List Int):Option (List (List Int)):=aFn E cq k x
def wQ (k:Nat)(a:List Int)(b c:Int)(d:List (List Int))(e:List Bool):Option (List (List Int)):=zv E k cq 6 [(0,cw tR a),(3,co 100003),(4,co 100004),(15,ci b),(16,ci c)] [(100003, .row tR d true true),(100004, .row .bool e true false)]
def uk (k:Nat)(a:List Int)(b c d:Int)(e:List (List Int))(f:List Bool)(g:List Int):Option (List (List Int)):=zv E k cq 10 [(0,cw tR a),(3,co 100003),(4,co 100004),(6,co 100006),(7,ci b),(15,ci c),(16,ci d)] [(100003, .row tR e true true),(100004, .row .bool f true false),(100006, .row tI g true true)]
def YU (k:Nat)(x:List Int):Option (List ByteArray):=aFn E Zl k x
def gL (k:Nat)(a:List Int)(b c:Int)(d:List ByteArray):Option (List ByteArray):=zv E k Zl 3 [(3,co 100003),(6,cw tR a),(7,ci b),(8,ci c)] [(100003, .row .str d true true)]
def VL (k:Nat)(x:List Int):Option ByteArray:=aFn E bO k x
def jK (k:Nat)(a:ByteArray)(b c:Int)(d:List (List Int)):Option ByteArray:=zv E k bO 7 [(3,cw .str a),(13,co 100013),(14,ci b),(15,ci c)] [(100013, .row tR d false true)]
def fZ (k:Nat)(x:dN×List ByteArray):Option (ByteArray×dN):=aFn E bQ k x
def A3 (k:Nat)(x:List Int):Option (List (List Int)):=aFn E Ja k x
def R3 (k:Nat)(a:List Int)(b c:Int)(d:List (List Int)):Option (List (List Int)):=zv E k Ja 3 [(0,cw tR a),(3,co 100003),(6,ci b),(7,ci c)] [(100003, .row tR d true true)]
def Vp (k:Nat)(x:(List Int)×Int):Option (List Int):=aFn E aF k x
def fu (k:Nat)(a:List Int)(b c d e f:Int):Option (List Int):=zv E k aF 3 [(0,cw tR a),(1,ci b),(5,ci c),(6,ci d),(11,ci e),(12,ci f)] []
def uT (k:Nat)(a:List Int)(b c d e f:Int)(g:List Int):Option (List Int):=zv E k aF 9 [(0,cw tR a),(1,ci b),(5,ci c),(6,ci d),(8,co 100008),(24,ci e),(25,ci f)] [(100008, .row tI g true true)]
def zfz (k:Nat)(x:(List Int)×Int):Option ((List (List Int))×Bool):=aFn E M3 k x
def M0 (k:Nat)(a:List Int)(b:Int)(c:List (List Int)):Option ((List (List Int))×Bool):=zv E k M3 9 [(0,cw tR a),(6,co 100006),(7,ci b)] [(100006, .row tR c true true)]
def R4 (k:Nat)(a:List Int)(b c:Int)(d:List (List Int)):Option ((List (List Int))×Bool):=zv E k M3 20 [(0,cw tR a),(8,co 100008),(48,ci b),(49,ci c)] [(100008, .row tR d true true)]
def wI (k:Nat)(x:(List (List Int))×Bool):Option (Unit×List (List Int)):=aFn E slices_SortFunc_int_int_fi k x
def xM (k:Nat)(x:(List (List Int))×Bool):Option (List (List Int)):=aFn E slices_CompactFunc_int_int_fi k x
def Y2 (k:Nat)(x:List (List Int)):Option (List (List Int)):=aFn E fU k x
def ux (k:Nat)(a:List (List Int))(b c:Int)(d:List (List Int)):Option (List (List Int)):=zv E k fU 3 [(3,co 100003),(6,cw tW a),(7,ci b),(8,ci c)] [(100003, .row tR d true true)]
def Sq (k:Nat)(x:(List Int)×Int):Option ((List (List Int))×Bool):=aFn E Tr k x
def wG (k:Nat)(x:dC×dS):Option (List dC):=aFn E bN k x
def uz (k:Nat)(a b:Int)(c:List Int)(d:Int)(e:List dC)(f:List (List Int))(g:Nat):Option (List dC):=zv E k bN 11 [(2, .adr 200002 0),(5,co 100005),(67,co 440067),(68,ci a),(69,ci b)] [(200002, .box [.val tR c, .val tI d]),(100005, .row tC e true true),(440067, .tl tR f g)]
def cj (k:Nat)(x:List Int):Option ByteArray:=aFn E XV k x
def YW (k:Nat)(x:dC):Option ByteArray:=aFn E GG k x
def MZ (k:Nat)(x:dT):Option ((List (List dC))×Bool):=aFn E bA k x
def bz (k:Nat)(a:List dS)(b c:Int)(d:List (List dC)):Option ((List (List dC))×Bool):=zv E k bA 4 [(6,co 450006),(25,cw tQ a),(26,ci b),(27,ci c)] [(450006, .row tD d true false)]
def bx (k:Nat)(a:List dS)(b c d e:Int)(f:List (List dC))(g:Nat)(h i j l:Int)(m:List ByteArray)(n o:List dC):Option ((List (List dC))×Bool):=zv E k bA 9 [(6,co 420006),(8, .adr 200008 0),(9,co 430009),(10,co 450010),(25,cw tQ a),(26,ci b),(27,ci c),(36,co 450036),(37,ci d),(38,ci e)] [(420006, .hole tC f g (.own 450036)),(200008, .box [.val tI h, .val tI i, .val tI j, .val tI l]),(430009, .mp m),(450010, .row tC n true true),(450036, .row tC o true false)]
def fv (k:Nat)(a:List dS)(b c d e f g:Int)(h:List (List dC))(i:Nat)(j l m n:Int)(o:List ByteArray)(p q r:List dC)(s:Nat):Option ((List (List dC))×Bool):=zv E k bA 12 [(6,co 420006),(8, .adr 200008 0),(9,co 430009),(10,co 450010),(25,cw tQ a),(26,ci b),(27,ci c),(36,co 450036),(37,ci d),(38,ci e),(44,co 440044),(45,ci f),(46,ci g)] [(420006, .hole tC h i (.own 450036)),(200008, .box [.val tI j, .val tI l, .val tI m, .val tI n]),(430009, .mp o),(450010, .row tC p true true),(450036, .row tC q true false),(440044, .tl tC r s)]
def Cr (k:Nat)(x:List Int):Option Int:=aFn E VN k x
def fC (k:Nat)(a:Int)(b:List Int)(c d:Int):Option Int:=zv E k VN 3 [(3,ci a),(6,cw tR b),(7,ci c),(8,ci d)] []
def y9 (k:Nat)(x:(List Int)×List Int):Option Bool:=aFn E slices_Equal_int_fi k x
def z7 (k:Nat)(a b:List Int)(c d:Int):Option Bool:=zv E k slices_Equal_int_fi 4 [(0,cw tR a),(1,cw tR b),(12,ci c),(13,ci d)] []
def aR (k:Nat)(x:dT×dC):Option Bool:=aFn E VO k x
def Zs (k:Nat)(x:dC×dT):Option Bool:=aFn E Z8 k x
def y8 (k:Nat)(x:(List dC)×dT):Option Int:=aFn E zU k x
def zC (k:Nat)(a:List dC)(b:List Int)(c:List dS)(d e f g h:Int):Option Int:=zv E k zU 2 [(0,cw tD a),(1, .fn 229 [[.val tR b, .val tQ c, .val tI d, .val tI e, .val tI f]]),(7,ci g),(8,ci h)] []
def zV (k:Nat)(x:(List dC)×dT):Option Bool:=aFn E yw k x
def Sm (k:Nat)(x:dC×(List (Option (List ByteArray)))×Int):Option Bool:=aFn E Tl k x
def xh (k:Nat)(x:(List dC)×(List (Option (List ByteArray)))×Int):Option Int:=aFn E ya k x
def zK (k:Nat)(v0:List dC)(v1_0_0:List (Option (List ByteArray)))(v1_1_0 v7 v8:Int):Option Int:=zv E k ya 2 [(0,cw tD v0),(1, .fn 260 [[.val (.slice .set) v1_0_0],[.val tI v1_1_0]]),(7,ci v7),(8,ci v8)] []
def yc (k:Nat)(x:(List dC)×(List (Option (List ByteArray)))×Int):Option Bool:=aFn E yJ k x
def K9 (k:Nat)(x:dT×List (List dC)):Option (List (Option (List ByteArray))):=aFn E aG k x
def fw (k:Nat)(v1:List (List dC))(q2_0:List Int)(q2_1:List dS)(q2_2 q2_3 q2_4:Int)(r500:List (Option (List ByteArray)))(q6_0:Int):Option (List (Option (List ByteArray))):=zv E k aG 3 [(1,cw (.slice tD) v1),(2, .adr 200002 0),(5, .adr 200005 0),(6, .adr 200006 0)] [(200002, .box [.val tR q2_0, .val tQ q2_1, .val tI q2_2, .val tI q2_3, .val tI q2_4]),(200005, .box [.own 300500]),(300500, .row .set r500 true false),(200006, .box [.val tI q6_0])]
def xW (k:Nat)(v1:List (List dC))(v27:List dC)(v28 v29:Int)(q2_0:List Int)(q2_1:List dS)(q2_2 q2_3 q2_4:Int)(r500:List (Option (List ByteArray)))(q6_0:Int):Option (List (Option (List ByteArray))):=zv E k aG 7 [(1,cw (.slice tD) v1),(2, .adr 200002 0),(5, .adr 200005 0),(6, .adr 200006 0),(27,cw tD v27),(28,ci v28),(29,ci v29)] [(200002, .box [.val tR q2_0, .val tQ q2_1, .val tI q2_2, .val tI q2_3, .val tI q2_4]),(200005, .box [.own 300500]),(300500, .row .set r500 true false),(200006, .box [.val tI q6_0])]
def Zr (k:Nat)(x:dC×(List (Option (List ByteArray)))×Int):Option Bool:=aFn E Z7 k x
def yb (k:Nat)(x:(List dC)×(List (Option (List ByteArray)))×Int):Option Int:=aFn E zT k x
def zB (k:Nat)(v0:List dC)(v1_0_0:List (Option (List ByteArray)))(v1_1_0 v7 v8:Int):Option Int:=zv E k zT 2 [(0,cw tD v0),(1, .fn 233 [[.val (.slice .set) v1_0_0],[.val tI v1_1_0]]),(7,ci v7),(8,ci v8)] []
def aS (k:Nat)(x:dT):Option (Int×(List Int)×(List Int)×Int×Bool):=aFn E bT k x
def w5 (k:Nat)(v45:List dS)(v46 v47 q2_0 q2_3:Int)(q6_0:List Int)(q6_1:Int)(r700:List (Option (List ByteArray)))(q8_0 q8_3:Int)(r801:List Int):Option (Int×(List Int)×(List Int)×Int×Bool):=zv E k bT 12 [(2, .adr 200002 0),(6, .adr 200006 0),(7, .adr 200007 0),(8, .adr 200008 0),(45,cw tQ v45),(46,ci v46),(47,ci v47)] [(200002, .box [.val tI q2_0, .nil, .nil, .val tI q2_3]),(200006, .box [.val tR q6_0, .val tI q6_1]),(200007, .box [.own 300700]),(300700, .row .set r700 true false),(200008, .box [.val tI q8_0, .own 300801, .nil, .val tI q8_3]),(300801, .row tI r801 true true)]
def Sx (k:Nat)(x:dT):Option ((List dC)×Bool):=aFn E TC k x
def Sv (k:Nat)(x:dT):Option Int:=aFn E TB k x
def YZ (k:Nat)(x:dT):Option ByteArray:=aFn E XO k x
def F4 (k:Nat)(x:dT):Option Bool:=aFn E GI k x
def vZ (k:Nat)(x:(List dS)×Int×Int):Option (List dS):=aFn E slices_Delete_i_Step_fi k x
def Uv (k:Nat)(x:dT×Int):Option ((List Int)×(List dS)×Int×Int×Int×Bool):=aFn E Qg k x
def PE (k:Nat)(x:dT×Int):Option Bool:=aFn E R1 k x
def Zn (k:Nat)(x:dT):Option ((List Int)×(List dS)×Int×Int×Int×Bool):=aFn E gh k x
def wx (k:Nat)(a b c d e f g:Int)(h:List Int)(i:List dS):Option ((List Int)×(List dS)×Int×Int×Int×Bool):=zv E k gh 5 [(2, .adr 200002 0),(4, .adr 200004 0),(5,ci a)] [(200002, .box [.nil, .nil, .val tI b, .val tI c, .val tI d]),(200004, .box [.own 300400, .own 300401, .val tI e, .val tI f, .val tI g]),(300400, .row tI h true false),(300401, .row tS i false false)]
def Xd (k:Nat)(x:dT):Option ByteArray:=aFn E XX k x
def fA (k:Nat)(x:dT):Option (List ByteArray):=aFn E bB k x
def jE (k:Nat)(a:List dS)(b c:Int)(d:List Int)(e:List dS)(f g h:Int)(i:List ByteArray):Option (List ByteArray):=zv E k bB 5 [(1, .adr 200001 0),(3,co 100003),(15,cw tQ a),(16,ci b),(17,ci c)] [(200001, .box [.val tR d, .val tQ e, .val tI f, .val tI g, .val tI h]),(100003, .row .str i true false)]
def Zq (k:Nat)(x:dN×ByteArray):Option (ByteArray×dN):=aFn E Z3 k x
def Zp (k:Nat)(x:dT):Option Int:=aFn E gl k x
def wz (k:Nat)(a:Int)(b:List dS)(c d:Int):Option Int:=zv E k gl 5 [(3,ci a),(10,cw tQ b),(11,ci c),(12,ci d)] []
def PJ (k:Nat)(x:dT×List Int):Option ((List Int)×Int×Bool):=aFn E Y5 k x
def jF (k:Nat)(a:List Int)(b:List dS)(c d e f:Int)(g:List Int):Option ((List Int)×Int×Bool):=zv E k Y5 5 [(1,cw tR a),(4, .adr 200004 0),(6, .adr 200006 0),(28,cw tQ b),(29,ci c),(30,ci d)] [(200004, .box [.nil, .val tI e]),(200006, .box [.own 300600, .val tI f]),(300600, .row tI g true false)]
def PD (k:Nat)(x:Int):Option Bool:=aFn E R0 k x
def fW (k:Nat)(x:Int×Int×Int):Option Int:=aFn E bF k x
def wF (k:Nat)(x:Int×Int×Int×Int):Option ((List Int)×Bool):=aFn E yi k x
def zO (k:Nat)(a b c:Int)(d:List (Int×List Int))(e:List Int):Option ((List Int)×Bool):=zv E k yi 3 [(1,ci a),(2,ci b),(3, .fn 180 [[.val tI c]]),(10,co 430010),(11,co 100011)] [(430010, .im d),(100011, .row tI e true false)]
def zD (k:Nat)(a b c d:Int)(e:List (Int×List Int))(f:List Int):Option ((List Int)×Bool):=zv E k yi 8 [(1,ci a),(2,ci b),(3, .fn 180 [[.val tI c]]),(10,co 430010),(11,co 100011),(12,ci d)] [(430010, .im e),(100011, .row tI f true false)]
def Zm (k:Nat)(x:Int×Int×Int):Option ((List Int)×Bool):=aFn E ZX k x
def Y3 (k:Nat)(x:List Int):Option ByteArray:=aFn E fV k x
def wZ (k:Nat)(a:ByteArray)(b:List Int)(c d:Int):Option ByteArray:=zv E k fV 3 [(3,cw .str a),(6,cw tR b),(7,ci c),(8,ci d)] []
def PB (k:Nat)(x:Int×List Int):Option Bool:=aFn E YX k x
def cf (k:Nat)(a:Int)(b c:List Int)(d e:Int):Option Bool:=zv E k YX 4 [(0,ci a),(1,cw tR b),(13,cw tR c),(14,ci d),(15,ci e)] []
def PL (k:Nat)(x:Int×List Int):Option (List Int):=aFn E Xa k x
def jH (k:Nat)(a:Int)(b:List Int)(c:Int)(d e:List Int):Option (List Int):=zv E k Xa 5 [(0,ci a),(1,cw tR b),(5,co 100005),(6,co 100006),(7,ci c)] [(100005, .row tI d true true),(100006, .row tI e true false)]
def gy (k:Nat)(x:List Int):Option Int:=aFn E jY k x
def vJ (k:Nat)(a:List Int)(b c:Int):Option Int:=zv E k jY 5 [(0,cw tR a),(3,ci b),(4,ci c)] []
def FU (k:Nat)(x:Int×List Int):Option Int:=aFn E Px k x
def ZS (k:Nat)(a:Int)(b:List Int)(c d e:Int)(f:List Int):Option Int:=zv E k Px 6 [(0,ci a),(1,cw tR b),(6,ci c),(16,co 100016),(17,ci d),(18,ci e)] [(100016, .row tI f true true)]
def uV (k:Nat)(x:Int):Option Int:=aFn E VG k x
def gm (k:Nat)(x:dN×ByteArray×List Int):Option (ByteArray×dN):=aFn E eM k x
def gn (k:Nat)(x:dN×ByteArray):Option (ByteArray×dN):=aFn E uc k x
def yo (k:Nat)(a b:List ByteArray)(c d:Int)(e f:List Int)(g:List dS)(h i j:Int)(l:List Int)(m:Int):Option (ByteArray×dN):=zv E k uc 17 [(0, .adr 500000 0),(5,cw (.slice .str) a),(7,co 100007),(44,cw (.slice .str) b),(45,ci c),(46,ci d)] [(100007, .row tI e true true),(500000, .box [.val tR f, .val tQ g, .val tI h, .val tI i, .val tI j, .val tR l, .val tI m])]
def Ji (k:Nat)(x:dN×ByteArray):Option ((List Int)×(List dS)×Int×Int×Int×(List Int)×Int×ByteArray):=aFn E NU k x
def Vz (k:Nat)(x:ByteArray):Option (ByteArray×Int):=aFn E bG k x
def vD (k:Nat)(a:List ByteArray)(b:ByteArray)(c:List ByteArray)(d e:Int)(f:List Int)(g:List dS)(h i j:Int)(l:List Int)(m:Int):Option (ByteArray×Int):=zv E k bG 7 [(4,cw (.slice .str) a),(5, .adr 200005 0),(6,cw .str b),(16,cw (.slice .str) c),(17,ci d),(18,ci e)] [(200005, .box [.val tR f, .val tQ g, .val tI h, .val tI i, .val tI j, .val tR l, .val tI m])]
def cH (k:Nat)(x:ByteArray):Option Bool:=aFn E vd k x
abbrev gw:Gw:=⟨fun w=>Go.Lib.TabIs Tryz.prog w "internal/strconv.uint64pow10" .u64 Go.Lib.pow10Tab/\(∃tp p,w.var? Tryz.prog "strconv.ErrSyntax" =some #[.iface tp p])/\∃tp p,w.var? Tryz.prog "strconv.ErrRange" =some #[.iface tp p],false⟩
theorem ty_3:TyOk Tryz.prog 3 (.one (tI)):=G4 (by kernel_rfl) (by kernel_rfl) (by kernel_rfl)
theorem ty_4:TyOk Tryz.prog 4 (.one (.bool)):=zb1 (by kernel_rfl) (by kernel_rfl) (by kernel_rfl)
theorem ty_5:TyOk Tryz.prog 5 (.one (.int .u8)):=G4 (by kernel_rfl) (by kernel_rfl) (by kernel_rfl)
theorem ty_9:TyOk Tryz.prog 9 (.one (.str)):=zdP (by kernel_rfl) (by kernel_rfl) (by kernel_rfl)
theorem zff:TyOk Tryz.prog 25 (.one (tR)):=w7 (e:=3) (by kernel_rfl) (by kernel_rfl) (by kernel_rfl) (vF (by kernel_rfl) (by kernel_rfl) (by kernel_rfl))
theorem zgr:TyOk Tryz.prog 34 (.one (tQ)):=w7 (e:=79) (by kernel_rfl) (by kernel_rfl) (by kernel_rfl) (vF (by kernel_rfl) (by kernel_rfl) (by kernel_rfl))
theorem zgq:TyOk Tryz.prog 36 (.struct [(0,25),(1,34),(2,3),(3,3),(4,3)] [tR,tQ,tI,tI,tI] false):=jW (fields:=Tryz.prog.fieldsOf 36) (by kernel_rfl) (by kernel_rfl) (by kernel_rfl) (by kernel_rfl) (by kernel_rfl) (by kernel_rfl) (fun e=>by cases e)
theorem zgp:TyOk Tryz.prog 37 (.struct [(0,25),(1,3)] [tR,tI] false):=jW (fields:=Tryz.prog.fieldsOf 37) (by kernel_rfl) (by kernel_rfl) (by kernel_rfl) (by kernel_rfl) (by kernel_rfl) (by kernel_rfl) (fun e=>by cases e)
theorem zgo:TyOk Tryz.prog 39 (.struct [(0,36),(5,37)] [tR,tQ,tI,tI,tI,tR,tI] false):=jW (fields:=Tryz.prog.fieldsOf 39) (by kernel_rfl) (by kernel_rfl) (by kernel_rfl) (by kernel_rfl) (by kernel_rfl) (by kernel_rfl) (fun e=>by cases e)
theorem zgn:TyOk Tryz.prog 46 (.one (.slice .str)):=w7 (e:=9) (by kernel_rfl) (by kernel_rfl) (by kernel_rfl) (vF (by kernel_rfl) (by kernel_rfl) (by kernel_rfl))
theorem zgm:TyOk Tryz.prog 77 (.struct [(0,3),(1,3)] [tI,tI] true):=jW (fields:=Tryz.prog.fieldsOf 77) (by kernel_rfl) (by kernel_rfl) (by kernel_rfl) (by kernel_rfl) (by kernel_rfl) (by kernel_rfl) (fun _=>Lk (d:=20) (fields:=Tryz.prog.fieldsOf 77) (by kernel_rfl) (by kernel_rfl) (by decide) (by kernel_rfl))
theorem zgl:TyOk Tryz.prog 79 (.struct [(0,3),(1,77),(3,3)] [tI,tI,tI,tI] true):=jW (fields:=Tryz.prog.fieldsOf 79) (by kernel_rfl) (by kernel_rfl) (by kernel_rfl) (by kernel_rfl) (by kernel_rfl) (by kernel_rfl) (fun _=>Lk (d:=20) (fields:=Tryz.prog.fieldsOf 79) (by kernel_rfl) (by kernel_rfl) (by decide) (by kernel_rfl))
theorem zf4:TyOk Tryz.prog 107 (.struct [(0,3),(1,25),(2,37)] [tI,tR,tR,tI] false):=jW (fields:=Tryz.prog.fieldsOf 107) (by kernel_rfl) (by kernel_rfl) (by kernel_rfl) (by kernel_rfl) (by kernel_rfl) (by kernel_rfl) (fun e=>by cases e)
theorem zf3:TyOk Tryz.prog 130 (.one (.err)):=zb0 (by kernel_rfl) (by kernel_rfl) (by kernel_rfl)
theorem zf2:TyOk Tryz.prog 135 (.one (tD)):=w7 (e:=37) (by kernel_rfl) (by kernel_rfl) (by kernel_rfl) (vF (by kernel_rfl) (by kernel_rfl) (by kernel_rfl))
theorem zf1:TyOk Tryz.prog 136 (.one (tW)):=w7 (e:=25) (by kernel_rfl) (by kernel_rfl) (by kernel_rfl) (vF (by kernel_rfl) (by kernel_rfl) (by kernel_rfl))
theorem zf0:TyOk Tryz.prog 140 (.one (.slice (.int .u8))):=w7 (e:=5) (by kernel_rfl) (by kernel_rfl) (by kernel_rfl) (vF (by kernel_rfl) (by kernel_rfl) (by kernel_rfl))
theorem zfZ:TyOk Tryz.prog 169 (.arr 12 (.bool)):=zdS (e:=4) (by kernel_rfl) (vF (by kernel_rfl) (by kernel_rfl) (by kernel_rfl)) (by kernel_rfl) (by kernel_rfl)
theorem zfY:TyOk Tryz.prog 176 (.one (.slice .bool)):=w7 (e:=4) (by kernel_rfl) (by kernel_rfl) (by kernel_rfl) (vF (by kernel_rfl) (by kernel_rfl) (by kernel_rfl))
theorem zfX:TyOk Tryz.prog 189 (.imap):=zbZ (kt:=3) (et:=25) (by kernel_rfl) (by kernel_rfl) (by kernel_rfl)
theorem zfW:TyOk Tryz.prog 190 (.one (.slice tD)):=w7 (e:=135) (by kernel_rfl) (by kernel_rfl) (by kernel_rfl) (vF (by kernel_rfl) (by kernel_rfl) (by kernel_rfl))
theorem zfV:TyOk Tryz.prog 195 (.one (.slice .set)):=w7 (e:=198) (by kernel_rfl) (by kernel_rfl) (by kernel_rfl) (vF (by kernel_rfl) (by kernel_rfl) (by kernel_rfl))
theorem zfU:TyOk Tryz.prog 198 (.one (.set)):=zdQ (kt:=9) (et:=4) (by kernel_rfl) (by kernel_rfl) (by kernel_rfl) (by kernel_rfl) (by kernel_rfl)
theorem zaK:TyOk Tryz.prog 1000140 (.bytes):=zaL (e:=5) (by kernel_rfl) (by kernel_rfl)
theorem zaJ:TyOk Tryz.prog 5025023 (.flag):=trivial
theorem zaI:TyOk Tryz.prog 5025025 (.flag):=trivial
theorem zaH:TyOk Tryz.prog 5025031 (.flag):=trivial
theorem zaG:TyOk Tryz.prog 5025072 (.flag):=trivial
theorem zaF:TyOk Tryz.prog 5037049 (.flag):=trivial
theorem zaE:TyOk Tryz.prog 5037057 (.flag):=trivial
theorem zaD:TyOk Tryz.prog 5135021 (.flag):=trivial
theorem zaC:TyOk Tryz.prog 5229036 (.flag):=trivial
theorem zaB:TyOk Tryz.prog 5233056 (.flag):=trivial
theorem zaA:TyOk Tryz.prog 5260049 (.flag):=trivial
theorem zaz:TyOk Tryz.prog 8198055 (.flag):=trivial
theorem zay:TyOk Tryz.prog 9000022 (.flag):=trivial
theorem zax:TyOk Tryz.prog 9000023 (.flag):=trivial
theorem zaw:TyOk Tryz.prog 9000024 (.flag):=trivial
theorem zav:TyOk Tryz.prog 9000025 (.flag):=trivial
theorem zau:TyOk Tryz.prog 9000050 (.flag):=trivial
theorem hE:∀T ti,E.ty T=some ti->TyOk Tryz.prog T ti:=FO (l:=tyL) ⟨ty_3,ty_4,ty_5,ty_9,zff,zgr,zgq,zgp,zgo,zgn,zgm,zgl,zf4,zf3,zf2,zf1,zf0,zfZ,zfY,zfX,zfW,zfV,zfU,zaK,zaJ,zaI,zaH,zaG,zaF,zaE,zaD,zaC,zaB,zaA,zaz,zay,zax,zaw,zav,zau,trivial⟩
theorem UG:OneF Tryz.prog gw 80 strings_IndexByte_fi:=D5 func80 (by kernel_rfl) (by kernel_rfl) (fun s c w=>Go.Proofs.Any.strings_IndexByte Tryz.lays137 s c w)
theorem Ll:OneF Tryz.prog gw 112 strings_Join_fi:=zfv func112 (by kernel_rfl) (by kernel_rfl) (fun a c sep w=>Tryz.strings_Join_none a c sep w) (fun bk o c xs sep w hc hb hN hcap hl=>Tryz.strings_Join bk o c xs sep w hc hb hN hcap hl) rfl
theorem strconv_Atoi_ok:OneF Tryz.prog gw 116 strconv_Atoi_fi:=zfO func116 (by kernel_rfl) (by kernel_rfl) rfl (Af Tryz.laysC172 (fun w hw=>hw.2))
theorem Lm:OneF Tryz.prog gw 175 strconv_Itoa_fi:=zfw func175 (by kernel_rfl) (by kernel_rfl) (fun n w hw h0 h1=>Tryz.strconv_Itoa n h0 h1 w hw.1)
theorem SN:OneF Tryz.prog gw 244 slices_Grow_int_fi:=Tryz.growOne
theorem Wi:OneF Tryz.prog gw 245 slices_Reverse_int_fi:=Tryz.revOne
theorem b6:OneF Tryz.prog gw 270 slices_SortFunc_int_int_fi:=Tryz.sortOne
theorem fJ:OneF Tryz.prog gw 272 slices_CompactFunc_int_int_fi:=Tryz.compactOne
theorem Yj:OneF Tryz.prog gw 236 slices_Delete_i_Step_fi:=Tryz.delOne
theorem hF:FnOk Tryz.prog gw E:=FP (l:=fnL) ⟨okOf func21,okOf func14,okOf func79,okOf func38,okOf func15,okOf func44,okOf func20,okOf func138,okOf func145,okOf func97,okOf func98,okOf func202,okOf func136,okOf func198,okOf func137,okOf func88,okOf func151,okOf func146,okOf func147,okOf func148,okOf func149,okOf func150,okOf func99,okOf func240,okOf func241,okOf func204,okOf func200,okOf func261,okOf func239,okOf func203,okOf func141,okOf func238,okOf func197,okOf func130,okOf func139,okOf func199,okOf func131,okOf func83,okOf func132,okOf func85,okOf func84,okOf func47,okOf func86,okOf func89,okOf func57,okOf func45,okOf func133,okOf func135,okOf func201,okOf func134,okOf func87,okOf func94,okOf func143,okOf func144,okOf func96,okOf func90,okOf func91,okOf func48,okOf func46,okOf func52,okOf func140,okOf func92,okOf func49,okOf func54,okOf func50,okOf func22,okOf func142,okOf func93,okOf func51,okOf func23,okOf func95,okOf func55,okOf func53,okOf func24,okOf func56,okOf func25,okOf func58,okOf func100,okOf func152,okOf func153,okOf func101,okOf func59,okOf func154,okOf func205,okOf func155,okOf func102,okOf func103,okOf func60,okOf func242,okOf func273,okOf func262,okOf func243,okOf func206,okOf func156,okOf func104,okOf func61,okOf func26,okOf func8,okOf func5,UG,okOf func39,okOf func16,okOf func81,okOf func40,okOf func194,okOf func127,okOf func161,okOf func128,okOf func196,okOf func195,okOf func129,okOf func82,okOf func64,okOf func41,okOf func17,okOf func65,okOf func29,okOf func30,Ll,okOf func67,strconv_Atoi_ok,Lm,okOf func117,okOf func70,okOf func106,okOf func107,okOf func169,okOf func168,okOf func114,okOf func207,okOf func160,okOf func109,okOf func158,okOf func159,okOf func108,SN,okOf func208,Wi,okOf func209,okOf func182,okOf func211,okOf func212,okOf func213,okOf func210,okOf func162,okOf func110,okOf func237,okOf func190,okOf func163,okOf func111,okOf func66,okOf func68,okOf func249,okOf func195,okOf func248,okOf func216,okOf func167,okOf func113,okOf func181,okOf func217,okOf func170,okOf func171,okOf func172,okOf func115,okOf func69,okOf func269,okOf func257,okOf func254,b6,fJ,okOf func255,okOf func224,okOf func177,okOf func186,okOf func234,okOf func227,okOf func259,okOf func258,okOf func230,okOf func229,okOf func232,okOf func228,okOf func260,okOf func232,okOf func228,okOf func231,okOf func233,okOf func232,okOf func184,okOf func235,okOf func185,okOf func122,okOf func187,Yj,okOf func189,okOf func188,okOf func123,okOf func191,okOf func124,okOf func72,okOf func176,okOf func118,okOf func178,okOf func180,okOf func179,okOf func119,okOf func120,okOf func256,okOf func225,okOf func226,okOf func183,okOf func121,okOf func71,okOf func31,okOf func10,okOf func6,okOf func3,trivial⟩
abbrev T0:ByteArray:=⟨#[]⟩
abbrev T1:ByteArray:=⟨#[117,110,107,110,111,119,110,32,99,111,109,109,97,110,100]⟩
abbrev T2:ByteArray:=⟨#[110,111,110,101]⟩
abbrev T3:ByteArray:=⟨#[102,97,105,108,115,32,102,111,114,32]⟩
abbrev T4:ByteArray:=⟨#[32]⟩
abbrev T5:ByteArray:=⟨#[110,111,116,101,32]⟩
abbrev T6:ByteArray:=⟨#[104,111,108,100,115,32,102,111,114,32]⟩
abbrev T7:ByteArray:=⟨#[99,97,114,100,32]⟩
abbrev T8:ByteArray:=⟨#[32,110,111,116,101,100,32]⟩
abbrev T9:ByteArray:=⟨#[97,110,121,112,97,105,114]⟩
abbrev T10:ByteArray:=⟨#[114,105,102,102,108,101]⟩
abbrev T11:ByteArray:=⟨#[97,110,121,99,117,116]⟩
abbrev T12:ByteArray:=⟨#[99,108,97,105,109,32]⟩
abbrev T13:ByteArray:=⟨#[102,105,120,101,100]⟩
abbrev T14:ByteArray:=⟨#[110,111,116,101,100,32,97,116,32]⟩
abbrev T15:ByteArray:=⟨#[112,105,99,107]⟩
abbrev T16:ByteArray:=⟨#[32,97,116,32]⟩
abbrev T17:ByteArray:=⟨#[102,97,114,111]⟩
abbrev T18:ByteArray:=⟨#[115,116,97,114,116,32]⟩
abbrev T19:ByteArray:=⟨#[32,58,32]⟩
abbrev T20:ByteArray:=⟨#[101,109,112,116,121]⟩
abbrev T21:ByteArray:=⟨#[111,114,100,101,114]⟩
abbrev T22:ByteArray:=⟨#[40]⟩
abbrev T23:ByteArray:=⟨#[103,117,101,115,115]⟩
abbrev T24:ByteArray:=⟨#[32,101,110,100,115]⟩
abbrev T25:ByteArray:=⟨#[10]⟩
abbrev T26:ByteArray:=⟨#[112,108,97,121]⟩
abbrev T27:ByteArray:=⟨#[112,97,99,107,101,116]⟩
abbrev T28:ByteArray:=⟨#[45]⟩
abbrev T29:ByteArray:=⟨#[94]⟩
abbrev T30:ByteArray:=⟨#[117,112,32]⟩
abbrev T31:ByteArray:=⟨#[99,108,97,105,109]⟩
abbrev T32:ByteArray:=⟨#[115,116,101,112]⟩
abbrev T33:ByteArray:=⟨#[116,111,111,32,109,97,110,121]⟩
abbrev T34:ByteArray:=⟨#[111,107]⟩
abbrev T35:ByteArray:=⟨#[41]⟩
abbrev T36:ByteArray:=⟨#[110,111,116,104,105,110,103]⟩
abbrev T37:ByteArray:=⟨#[99,121,99,108,101,115]⟩
abbrev T38:ByteArray:=⟨#[109,111,110,103,101]⟩
abbrev T39:ByteArray:=⟨#[117,110,100,101,114]⟩
abbrev T40:ByteArray:=⟨#[59]⟩
abbrev T41:ByteArray:=⟨#[110,111,116,101,100]⟩
abbrev T42:ByteArray:=⟨#[115,104,111,114,116]⟩
abbrev T43:ByteArray:=⟨#[79]⟩
abbrev T44:ByteArray:=⟨#[73]⟩
abbrev T45:ByteArray:=⟨#[99,104,101,99,107]⟩
abbrev T46:ByteArray:=⟨#[102,108,105,112]⟩
abbrev T47:ByteArray:=⟨#[109,105,108,107]⟩
abbrev T48:ByteArray:=⟨#[116,117,114,110]⟩
abbrev T49:ByteArray:=⟨#[115,104,111,119]⟩
abbrev T50:ByteArray:=⟨#[100,101,97,108]⟩
abbrev T51:ByteArray:=⟨#[100,117,99,107]⟩
abbrev T52:ByteArray:=⟨#[99,97,114,100]⟩
abbrev T53:ByteArray:=⟨#[47]⟩
abbrev T54:ByteArray:=⟨#[99,117,116]⟩
end
end Pt
