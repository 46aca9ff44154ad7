/-
  The law FnConfirms holds of every input: the row of the statement, from what the law's function comes to.
  Conditions: those of the given statement alone.
-/
import Derived.Test.YtcpfklamgkilnaaGreatDoorRwcConfirms
import Derived.Test.YtcpfklamgkilnaaGreatDoorRweConfirms
namespace Go.Proofs.YtcpfklamgkilnaaGreatDoor.fnConfirms
open Go.ChangeShapes Go.WideShapes Go.ChangeAt Go.RowKit Go.Vt
set_option linter.unusedVariables false
theorem proved : Rows.FnConfirmsCardSaid :=
 Claim7.holds_tied_plain_at .later [] [.data, .data, .data, .sentinel, .sentinel] true (true, "8cf5e5381a4ddd64792d58b45cc63fba25a5d57bf50f5767ca4c5fe67ef0939d") true
  over (fun _ h => by cases h) w1 (fun _ h => by cases h) fnConfirms_row_tie rfl ⟨rfl, rfl⟩ w2 rfl
  (fun f fn hf hfn => by
    obtain rfl : f = 3 := Option.some.inj ((show Tryz.prog.funcNamed "loop.example/g00846/laws.FnConfirms" = some 3 by kernel_rfl).symm.trans hf) |>.symm
    obtain rfl : fn = Tryz.f3 := (Option.some.inj (Tryz.func3.symm.trans hfn)).symm
    exact ⟨w3, fun j t ht => by
     rw [Tryz.params3] at ht
     have hm : t ∈ (#[22] : Array TypeId).toList := by
      have := List.mem_of_getElem? (by simpa using ht)
      exact this
     simp only [List.mem_cons, List.not_mem_nil, or_false] at hm
     rcases hm with rfl
     ·exact (show Tryz.prog.wantsStandIn 22 = false by kernel_rfl)⟩)
  w4
#print axioms proved
end Go.Proofs.YtcpfklamgkilnaaGreatDoor.fnConfirms
