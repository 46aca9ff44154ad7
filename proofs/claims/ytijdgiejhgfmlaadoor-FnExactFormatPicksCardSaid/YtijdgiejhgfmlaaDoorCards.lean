/-
  DERIVED. GIVEN WITH THE SEED: THE CARDS: each row of YtijdgiejhgfmlaaDoorRows.lean that lists a variable, with what it lists TIED to the program's text (the seventh form; the later family's looks); each row that meets fmt, with fmt's text TOLD by the authors' own Lean function (tested against real Go, not proved from fmt's source: count such statements apart). THE CARD IS WHAT COUNTS. Prove the row's statement (the work); the ties are given (YtijdgiejhgfmlaaDoorTie.lean); close each card by the builder's one call (the guide's Derived/Test/ToyasCard.lean, 'card_holds'). Laid BY PROGRAM, IN A SANDBOX (cutbox-door.mjs). By AI agents, Wed Nov 11 2026. No macro, syntax, notation, axiom, sorry.
-/
import Derived.Test.YtijdgiejhgfmlaaDoorRows
import GoSem.ClaimSeven
namespace Go.Proofs.YtijdgiejhgfmlaaDoor
namespace Rows

/-- THE TIED CARD OF 'laws.FnExactFormatPicks'. -/
def fnExactFormatPicksCard : Claim7 := { stood := { row := fnExactFormatPicksRow, standIns := [], harness := (true, "ddc6ca9a6226733e3e6c33f19dd2426733fa69fd877a21271ae80c1def30d1a0"), looks := false }, kinds := [], alts := [], laidByText := true, laidKinds := [.data, .data, .data], laidTests := true, laidLooks := .later }
def FnExactFormatPicksCardSaid : Prop := Claim7.holds Tryd.pinned (.plain (OpenSpec.ofChange fnExactFormatPicksSpec)) fnExactFormatPicksCard

/-- THE TIED CARD OF 'laws.FnExactFormatStep'. -/
def fnExactFormatStepCard : Claim7 := { stood := { row := fnExactFormatStepRow, standIns := [], harness := (true, "ddc6ca9a6226733e3e6c33f19dd2426733fa69fd877a21271ae80c1def30d1a0"), looks := false }, kinds := [], alts := [], laidByText := true, laidKinds := [.data, .data, .data], laidTests := true, laidLooks := .later }
def FnExactFormatStepCardSaid : Prop := Claim7.holds Tryd.pinned (.plain (OpenSpec.ofChange fnExactFormatStepSpec)) fnExactFormatStepCard

/-- THE SECOND FORM's CARD OF 'laws.FnExactFormatPicks'. -/
def fnExactFormatPicksUptoCard : Claim7 := { stood := { row := fnExactFormatPicksUptoRow, standIns := [], harness := (true, "ddc6ca9a6226733e3e6c33f19dd2426733fa69fd877a21271ae80c1def30d1a0"), looks := false }, kinds := [], alts := [], laidByText := true, laidKinds := [.data, .data, .data], laidTests := true, laidLooks := .later }
def FnExactFormatPicksUptoCardSaid : Prop := Claim7.holds Tryd.pinned (.plain (OpenSpec.upto fnExactFormatPicksSpec)) fnExactFormatPicksUptoCard

/-- THE SECOND FORM's CARD OF 'laws.FnExactFormatStep'. -/
def fnExactFormatStepUptoCard : Claim7 := { stood := { row := fnExactFormatStepUptoRow, standIns := [], harness := (true, "ddc6ca9a6226733e3e6c33f19dd2426733fa69fd877a21271ae80c1def30d1a0"), looks := false }, kinds := [], alts := [], laidByText := true, laidKinds := [.data, .data, .data], laidTests := true, laidLooks := .later }
def FnExactFormatStepUptoCardSaid : Prop := Claim7.holds Tryd.pinned (.plain (OpenSpec.upto fnExactFormatStepSpec)) fnExactFormatStepUptoCard
end Rows
end Go.Proofs.YtijdgiejhgfmlaaDoor
