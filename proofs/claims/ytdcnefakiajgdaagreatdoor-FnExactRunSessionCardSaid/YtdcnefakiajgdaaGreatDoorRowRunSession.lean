/-
  The law FnExactRunSession holds of every input: the row of the statement, from what the law's function comes to.
  Conditions: those of the given statement alone.
-/
import Derived.Test.YtdcnefakiajgdaaGreatDoorRwcRunSession
import Derived.Test.YtdcnefakiajgdaaGreatDoorRweRunSession
set_option linter.unusedVariables false
namespace Go.Proofs.YtdcnefakiajgdaaGreatDoor.fnExactRunSession
open Go.ChangeShapes Go.WideShapes Go.ChangeAt Go.RowKit Go.Vt
theorem proved:Rows.FnExactRunSessionCardSaid:=
 Claim7.holds_tied_plain_at .later [] [.data, .data, .data, .sentinel, .sentinel] true (true, "9ea426056d0bdf3df83e8647159d1fffb54cdab78958285beb273b88b77de873") true
  over (fun _ h=>by cases h) w1 (fun _ h=>by cases h) fnExactRunSession_row_tie rfl ⟨rfl,rfl⟩ w2 rfl
  (fun f fn hf hfn=>by
    obtain rfl:f=3:=Option.some.inj ((show Tryz.prog.funcNamed "loop.example/g00846/laws.FnExactRunSession" =some 3 by kernel_rfl).symm.trans hf)|>.symm
    obtain rfl:fn=Tryz.f3:=(Option.some.inj (Tryz.func3.symm.trans hfn)).symm
    exact⟨w3,fun j t ht=>by
     rw[Tryz.params3]at ht
     have hm:t∈(#[9]:Array TypeId).toList:=by
      have:=List.mem_of_getElem? (by simpa using ht)
      exact this
     simp only[zgO,List.not_mem_nil,or_false]at hm
     rcases hm with rfl
     ·exact(show Tryz.prog.wantsStandIn 9=false by kernel_rfl)⟩)
  w4
#print axioms proved
end Go.Proofs.YtdcnefakiajgdaaGreatDoor.fnExactRunSession
