/-
  The law FnTop holds of every input: the row of the statement, from what the law's function comes to.
  Conditions: those of the given statement alone.
-/
import Derived.Test.YtgbbdagfjenmeaaGreatDoorRwcTop
import Derived.Test.YtgbbdagfjenmeaaGreatDoorRweTop
namespace Go.Proofs.YtgbbdagfjenmeaaGreatDoor.fnTop
open Go.ChangeShapes Go.WideShapes Go.ChangeAt Go.RowKit Go.Vt
set_option linter.unusedVariables false
theorem proved : Rows.FnTopCardSaid :=
 Claim7.holds_tied_plain_at .later [] [.data, .data, .data] true (true, "b15144b68d637da1591f3e0c3b537deb3124debe3119e619eb2c24b2842307ec") true
  over (fun _ h => by cases h) w1 (fun _ h => by cases h) fnTop_row_tie rfl ⟨rfl, rfl⟩ w2 rfl
  (fun f fn hf hfn => by
    obtain rfl : f = 9 := Option.some.inj ((show Tryz.prog.funcNamed "loop.example/g00846/laws.FnTop" = some 9 by kernel_rfl).symm.trans hf) |>.symm
    obtain rfl : fn = Tryz.f9 := (Option.some.inj (Tryz.func9.symm.trans hfn)).symm
    exact ⟨w3, fun j t ht => by
     rw [Tryz.params9] at ht
     have hm : t ∈ (#[22] : Array TypeId).toList := by
      have := List.mem_of_getElem? (by simpa using ht)
      exact this
     simp only [List.mem_cons, List.not_mem_nil, or_false] at hm
     rcases hm with rfl
     ·exact (show Tryz.prog.wantsStandIn 22 = false by kernel_rfl)⟩)
  w4
#print axioms proved
end Go.Proofs.YtgbbdagfjenmeaaGreatDoor.fnTop
