/-
  The law FnTexts holds of every input: the row of the statement, from what the law's function comes to.
  Conditions: those of the given statement alone.
-/
import Derived.Test.YtgbbdagfjenmeaaGreatDoorRwcTexts
import Derived.Test.YtgbbdagfjenmeaaGreatDoorRweTexts
namespace Go.Proofs.YtgbbdagfjenmeaaGreatDoor.fnTexts
open Go.ChangeShapes Go.WideShapes Go.ChangeAt Go.RowKit Go.Vt
set_option linter.unusedVariables false
theorem proved : Rows.FnTextsCardSaid :=
 Claim7.holds_tied_plain_at .later [] [.data, .data, .data, .sentinel, .sentinel] true (true, "b15144b68d637da1591f3e0c3b537deb3124debe3119e619eb2c24b2842307ec") true
  over (fun _ h => by cases h) w1 (fun _ h => by cases h) fnTexts_row_tie rfl ⟨rfl, rfl⟩ w2 rfl
  (fun f fn hf hfn => by
    obtain rfl : f = 12 := Option.some.inj ((show Tryz.prog.funcNamed "loop.example/g00846/laws.FnTexts" = some 12 by kernel_rfl).symm.trans hf) |>.symm
    obtain rfl : fn = Tryz.f12 := (Option.some.inj (Tryz.func12.symm.trans hfn)).symm
    exact ⟨w3, fun j t ht => by
     rw [Tryz.params12] at ht
     have hm : t ∈ (#[22] : Array TypeId).toList := by
      have := List.mem_of_getElem? (by simpa using ht)
      exact this
     simp only [List.mem_cons, List.not_mem_nil, or_false] at hm
     rcases hm with rfl
     ·exact (show Tryz.prog.wantsStandIn 22 = false by kernel_rfl)⟩)
  w4
#print axioms proved
end Go.Proofs.YtgbbdagfjenmeaaGreatDoor.fnTexts
