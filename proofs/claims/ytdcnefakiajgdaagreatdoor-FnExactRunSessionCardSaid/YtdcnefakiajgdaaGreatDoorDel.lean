/-
  slices.Delete[Step] of the seat's program, as a function to which a row is given.
  Conditions: none.
-/
import Derived.Test.YtdcnefakiajgdaaGreatDoorLyt
import Derived.Test.YtdcnefakiajgdaaGreatDoorProg
import Derived.Test.YtdcnefakiajgdaaGreatDoorVd
namespace Go.Proofs
open Go.Shelf Go.Vt
def Tryz.stepTy:Ty:= .pair (.int .i64) (.pair (.pair (.int .i64) (.int .i64)) (.int .i64))
def Tryz.stepZ:Value:= .agg #[.int .i64 0, .int .i64 0, .int .i64 0, .int .i64 0]
theorem Tryz.stepZ_cells (n:Nat):(Builtin.zeroCells Tryz.stepZ.cells n).toList=List.replicate (n*4) (Value.int .i64 0):=by
 apply List.ext_getElem
 ·simp[Builtin.zeroCells,Tryz.stepZ,Value.cells]
 ·intro i h1 h2
  rw[List.getElem_replicate]
  have h4:i % 4<4:=Nat.mod_lt _ (by omega)
  simp only[Builtin.zeroCells,Tryz.stepZ,Value.cells,Array.getElem_toList]
  have:i % 4=0\/i % 4=1\/i % 4=2\/i % 4=3:=by omega
  rcases this with h|h|h|h<;>simp[h]
set_option maxRecDepth 100000 in
theorem Tryz.delOne {gw:Gw}:OneF Tryz.prog gw 236 (deleteFi Tryz.stepTy):=
 zc9 (ρ:=Tryz.laysDel_ren) (t:=Tryz.stepTy) rfl (by decide) Tryz.laysDel Tryz.isAgg79 Tryz.sizeOf79 Tryz.stepZ Tryz.zeroValue79 _ rfl rfl
  (fun n=>by rw[Tryz.stepZ_cells,List.length_replicate];rfl)
  (fun n v hv=>by rw[Tryz.stepZ_cells]at hv;rw[List.eq_of_mem_replicate hv];rfl) (fn:=Tryz.f236) Tryz.func236 (by kernel_rfl) (by kernel_rfl)
#print axioms Tryz.delOne
end Go.Proofs
