/-
  The law FnExactCheckTrick holds of every input: the row of the statement, from what the law's function comes to.
  Conditions: those of the given statement alone.
-/
import Derived.Test.YtgbbdagfjenmeaaGreatDoorRwcCheckTrick
import Derived.Test.YtgbbdagfjenmeaaGreatDoorRweCheckTrick
namespace Go.Proofs.YtgbbdagfjenmeaaGreatDoor.fnExactCheckTrick
open Go.ChangeShapes Go.WideShapes Go.ChangeAt Go.RowKit Go.Vt
set_option linter.unusedVariables false
theorem proved : Rows.FnExactCheckTrickCardSaid :=
 Claim7.holds_tied_plain_at .later [] [.data, .data, .data] true (true, "b15144b68d637da1591f3e0c3b537deb3124debe3119e619eb2c24b2842307ec") true
  over (fun _ h => by cases h) w1 (fun _ h => by cases h) fnExactCheckTrick_row_tie rfl ⟨rfl, rfl⟩ w2 rfl
  (fun f fn hf hfn => by
    obtain rfl : f = 4 := Option.some.inj ((show Tryz.prog.funcNamed "loop.example/g00846/laws.FnExactCheckTrick" = some 4 by kernel_rfl).symm.trans hf) |>.symm
    obtain rfl : fn = Tryz.f4 := (Option.some.inj (Tryz.func4.symm.trans hfn)).symm
    exact ⟨w3, fun j t ht => by
     rw [Tryz.params4] at ht
     have hm : t ∈ (#[44] : Array TypeId).toList := by
      have := List.mem_of_getElem? (by simpa using ht)
      exact this
     simp only [List.mem_cons, List.not_mem_nil, or_false] at hm
     rcases hm with rfl
     all_goals first | exact (show Tryz.prog.wantsStandIn 44 = false by kernel_rfl)⟩)
  w4
#print axioms proved
end Go.Proofs.YtgbbdagfjenmeaaGreatDoor.fnExactCheckTrick
