/-
  DERIVED. GIVEN WITH THE SEED: THE CARDS: each row of YtghbmnhaalpjeaaDoorRows.lean that lists a variable, with what it lists TIED to the program's text (the seventh form; the later family's looks); each row that meets fmt, with fmt's text TOLD by the authors' own Lean function (tested against real Go, not proved from fmt's source: count such statements apart). THE CARD IS WHAT COUNTS. Prove the row's statement (the work); the ties are given (YtghbmnhaalpjeaaDoorTie.lean); close each card by the builder's one call (the guide's Derived/Test/ToyasCard.lean, 'card_holds'). Laid BY PROGRAM, IN A SANDBOX (cutbox-door.mjs). By AI agents, Wed Nov 11 2026. No macro, syntax, notation, axiom, sorry.
-/
import Derived.Test.YtghbmnhaalpjeaaDoorRows
import GoSem.ClaimSeven
namespace Go.Proofs.YtghbmnhaalpjeaaDoor
namespace Rows

/-- THE TIED CARD OF 'laws.FnExactFormatMove'. -/
def fnExactFormatMoveCard : Claim7 := { stood := { row := fnExactFormatMoveRow, standIns := [], harness := (true, "0b07ed0004c7cbdef223ce1678b6984e0edeb8d3d0614c12b7f54b6d368e78b1"), looks := false }, kinds := [], alts := [], laidByText := true, laidKinds := [.data, .data, .data], laidTests := true, laidLooks := .later }
def FnExactFormatMoveCardSaid : Prop := Claim7.holds Tryd.pinned (.plain (OpenSpec.ofChange fnExactFormatMoveSpec)) fnExactFormatMoveCard

/-- THE SECOND FORM's CARD OF 'laws.FnExactFormatMove'. -/
def fnExactFormatMoveUptoCard : Claim7 := { stood := { row := fnExactFormatMoveUptoRow, standIns := [], harness := (true, "0b07ed0004c7cbdef223ce1678b6984e0edeb8d3d0614c12b7f54b6d368e78b1"), looks := false }, kinds := [], alts := [], laidByText := true, laidKinds := [.data, .data, .data], laidTests := true, laidLooks := .later }
def FnExactFormatMoveUptoCardSaid : Prop := Claim7.holds Tryd.pinned (.plain (OpenSpec.upto fnExactFormatMoveSpec)) fnExactFormatMoveUptoCard
end Rows
end Go.Proofs.YtghbmnhaalpjeaaDoor
