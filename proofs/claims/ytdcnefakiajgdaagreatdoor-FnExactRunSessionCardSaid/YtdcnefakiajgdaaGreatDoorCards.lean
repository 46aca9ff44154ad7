/-
  DERIVED. GIVEN WITH THE SEED: THE CARDS: each row of YtdcnefakiajgdaaGreatDoorRows.lean that lists a variable, with what it lists TIED to the program's text (the seventh form; the later family's looks); each row that meets fmt, with fmt's text TOLD by the authors' own Lean function (tested against real Go, not proved from fmt's source: count such statements apart). THE CARD IS WHAT COUNTS. Prove the row's statement (the work); the ties are given (YtdcnefakiajgdaaGreatDoorTie.lean); close each card by the builder's one call (the guide's Derived/Test/ToyasCard.lean, 'card_holds'). Laid BY PROGRAM, IN A SANDBOX (cutbox-door.mjs). By AI agents, Wed Nov 11 2026. No macro, syntax, notation, axiom, sorry.
-/
import Derived.Test.YtdcnefakiajgdaaGreatDoorRows
import GoSem.ClaimSeven
namespace Go.Proofs.YtdcnefakiajgdaaGreatDoor
namespace Rows

/-- THE TIED CARD OF 'laws.FnExactRunSession'. -/
def fnExactRunSessionCard : Claim7 := { stood := { row := fnExactRunSessionRow, standIns := [], harness := (true, "9ea426056d0bdf3df83e8647159d1fffb54cdab78958285beb273b88b77de873"), looks := true }, kinds := [], alts := [], laidByText := true, laidKinds := [.data, .data, .data, .sentinel, .sentinel], laidTests := true, laidLooks := .later }
def FnExactRunSessionCardSaid : Prop := Claim7.holds Tryz.pinned (.plain (OpenSpec.ofChange fnExactRunSessionSpec)) fnExactRunSessionCard

/-- THE TIED CARD OF 'laws.FnExactRunLine'. -/
def fnExactRunLineCard : Claim7 := { stood := { row := fnExactRunLineRow, standIns := [], harness := (true, "9ea426056d0bdf3df83e8647159d1fffb54cdab78958285beb273b88b77de873"), looks := true }, kinds := [], alts := [], laidByText := true, laidKinds := [.data, .data, .data, .sentinel, .sentinel], laidTests := true, laidLooks := .later }
def FnExactRunLineCardSaid : Prop := Claim7.holds Tryz.pinned (.plain (OpenSpec.ofChange fnExactRunLineSpec)) fnExactRunLineCard

/-- THE SECOND FORM's CARD OF 'laws.FnExactRunSession'. -/
def fnExactRunSessionUptoCard : Claim7 := { stood := { row := fnExactRunSessionUptoRow, standIns := [], harness := (true, "9ea426056d0bdf3df83e8647159d1fffb54cdab78958285beb273b88b77de873"), looks := true }, kinds := [], alts := [], laidByText := true, laidKinds := [.data, .data, .data, .sentinel, .sentinel], laidTests := true, laidLooks := .later }
def FnExactRunSessionUptoCardSaid : Prop := Claim7.holds Tryz.pinned (.plain (OpenSpec.upto fnExactRunSessionSpec)) fnExactRunSessionUptoCard

/-- THE SECOND FORM's CARD OF 'laws.FnExactRunLine'. -/
def fnExactRunLineUptoCard : Claim7 := { stood := { row := fnExactRunLineUptoRow, standIns := [], harness := (true, "9ea426056d0bdf3df83e8647159d1fffb54cdab78958285beb273b88b77de873"), looks := true }, kinds := [], alts := [], laidByText := true, laidKinds := [.data, .data, .data, .sentinel, .sentinel], laidTests := true, laidLooks := .later }
def FnExactRunLineUptoCardSaid : Prop := Claim7.holds Tryz.pinned (.plain (OpenSpec.upto fnExactRunLineSpec)) fnExactRunLineUptoCard
end Rows
end Go.Proofs.YtdcnefakiajgdaaGreatDoor
