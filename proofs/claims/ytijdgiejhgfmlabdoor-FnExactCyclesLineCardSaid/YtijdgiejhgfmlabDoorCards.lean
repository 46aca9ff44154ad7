/-
  DERIVED. GIVEN WITH THE SEED: THE CARDS: each row of YtijdgiejhgfmlabDoorRows.lean that lists a variable, with what it lists TIED to the program's text (the seventh form; the later family's looks); each row that meets fmt, with fmt's text TOLD by the authors' own Lean function (tested against real Go, not proved from fmt's source: count such statements apart). THE CARD IS WHAT COUNTS. Prove the row's statement (the work); the ties are given (YtijdgiejhgfmlabDoorTie.lean); close each card by the builder's one call (the guide's Derived/Test/ToyasCard.lean, 'card_holds'). Laid BY PROGRAM, IN A SANDBOX (cutbox-door.mjs). By AI agents, Wed Nov 11 2026. No macro, syntax, notation, axiom, sorry.
-/
import Derived.Test.YtijdgiejhgfmlabDoorRows
import GoSem.ClaimSeven
namespace Go.Proofs.YtijdgiejhgfmlabDoor
namespace Rows

/-- THE TIED CARD OF 'laws.FnExactFormatClaim'. -/
def fnExactFormatClaimCard : Claim7 := { stood := { row := fnExactFormatClaimRow, standIns := [], harness := (true, "997e08136c3eab2bff45b429be5b1edf736b969cff677e2fa523ab18eb2fa0be"), looks := true }, kinds := [], alts := [], laidByText := true, laidKinds := [.data, .data, .data], laidTests := true, laidLooks := .later }
def FnExactFormatClaimCardSaid : Prop := Claim7.holds Tryd.pinned (.plain (OpenSpec.ofChange fnExactFormatClaimSpec)) fnExactFormatClaimCard

/-- THE TIED CARD OF 'laws.FnExactFormatPacket'. -/
def fnExactFormatPacketCard : Claim7 := { stood := { row := fnExactFormatPacketRow, standIns := [], harness := (true, "997e08136c3eab2bff45b429be5b1edf736b969cff677e2fa523ab18eb2fa0be"), looks := true }, kinds := [], alts := [], laidByText := true, laidKinds := [.data, .data, .data], laidTests := true, laidLooks := .later }
def FnExactFormatPacketCardSaid : Prop := Claim7.holds Tryd.pinned (.plain (OpenSpec.ofChange fnExactFormatPacketSpec)) fnExactFormatPacketCard

/-- THE TIED CARD OF 'laws.FnExactCyclesLine'. -/
def fnExactCyclesLineCard : Claim7 := { stood := { row := fnExactCyclesLineRow, standIns := [], harness := (true, "997e08136c3eab2bff45b429be5b1edf736b969cff677e2fa523ab18eb2fa0be"), looks := true }, kinds := [], alts := [], laidByText := true, laidKinds := [.data, .data, .data], laidTests := true, laidLooks := .later }
def FnExactCyclesLineCardSaid : Prop := Claim7.holds Tryd.pinned (.plain (OpenSpec.ofChange fnExactCyclesLineSpec)) fnExactCyclesLineCard

/-- THE TIED CARD OF 'laws.FnExactSceneLine'. -/
def fnExactSceneLineCard : Claim7 := { stood := { row := fnExactSceneLineRow, standIns := [], harness := (true, "997e08136c3eab2bff45b429be5b1edf736b969cff677e2fa523ab18eb2fa0be"), looks := true }, kinds := [], alts := [], laidByText := true, laidKinds := [.data, .data, .data], laidTests := true, laidLooks := .later }
def FnExactSceneLineCardSaid : Prop := Claim7.holds Tryd.pinned (.plain (OpenSpec.ofChange fnExactSceneLineSpec)) fnExactSceneLineCard

/-- THE TIED CARD OF 'laws.FnReports'. -/
def fnReportsCard : Claim7 := { stood := { row := fnReportsRow, standIns := [], harness := (true, "997e08136c3eab2bff45b429be5b1edf736b969cff677e2fa523ab18eb2fa0be"), looks := true }, kinds := [], alts := [], laidByText := true, laidKinds := [.data, .data, .data], laidTests := true, laidLooks := .later }
def FnReportsCardSaid : Prop := Claim7.holds Tryd.pinned (.plain (OpenSpec.ofChange fnReportsSpec)) fnReportsCard

/-- THE TIED CARD OF 'laws.FnExactKnowLine'. -/
def fnExactKnowLineCard : Claim7 := { stood := { row := fnExactKnowLineRow, standIns := [], harness := (true, "997e08136c3eab2bff45b429be5b1edf736b969cff677e2fa523ab18eb2fa0be"), looks := true }, kinds := [], alts := [], laidByText := true, laidKinds := [.data, .data, .data], laidTests := true, laidLooks := .later }
def FnExactKnowLineCardSaid : Prop := Claim7.holds Tryd.pinned (.plain (OpenSpec.ofChange fnExactKnowLineSpec)) fnExactKnowLineCard

/-- THE TIED CARD OF 'laws.FnExactFindCode'. -/
def fnExactFindCodeCard : Claim7 := { stood := { row := fnExactFindCodeRow, standIns := [], harness := (true, "997e08136c3eab2bff45b429be5b1edf736b969cff677e2fa523ab18eb2fa0be"), looks := true }, kinds := [], alts := [], laidByText := true, laidKinds := [.data, .data, .data], laidTests := true, laidLooks := .later }
def FnExactFindCodeCardSaid : Prop := Claim7.holds Tryd.pinned (.plain (OpenSpec.ofChange fnExactFindCodeSpec)) fnExactFindCodeCard

/-- THE TIED CARD OF 'laws.FnExactParseMove'. -/
def fnExactParseMoveCard : Claim7 := { stood := { row := fnExactParseMoveRow, standIns := [], harness := (true, "997e08136c3eab2bff45b429be5b1edf736b969cff677e2fa523ab18eb2fa0be"), looks := true }, kinds := [], alts := [], laidByText := true, laidKinds := [.data, .data, .data, .sentinel, .sentinel], laidTests := true, laidLooks := .later }
def FnExactParseMoveCardSaid : Prop := Claim7.holds Tryd.pinned (.plain (OpenSpec.ofChange fnExactParseMoveSpec)) fnExactParseMoveCard

/-- THE SECOND FORM's CARD OF 'laws.FnExactFormatClaim'. -/
def fnExactFormatClaimUptoCard : Claim7 := { stood := { row := fnExactFormatClaimUptoRow, standIns := [], harness := (true, "997e08136c3eab2bff45b429be5b1edf736b969cff677e2fa523ab18eb2fa0be"), looks := true }, kinds := [], alts := [], laidByText := true, laidKinds := [.data, .data, .data], laidTests := true, laidLooks := .later }
def FnExactFormatClaimUptoCardSaid : Prop := Claim7.holds Tryd.pinned (.plain (OpenSpec.upto fnExactFormatClaimSpec)) fnExactFormatClaimUptoCard

/-- THE SECOND FORM's CARD OF 'laws.FnExactFormatPacket'. -/
def fnExactFormatPacketUptoCard : Claim7 := { stood := { row := fnExactFormatPacketUptoRow, standIns := [], harness := (true, "997e08136c3eab2bff45b429be5b1edf736b969cff677e2fa523ab18eb2fa0be"), looks := true }, kinds := [], alts := [], laidByText := true, laidKinds := [.data, .data, .data], laidTests := true, laidLooks := .later }
def FnExactFormatPacketUptoCardSaid : Prop := Claim7.holds Tryd.pinned (.plain (OpenSpec.upto fnExactFormatPacketSpec)) fnExactFormatPacketUptoCard

/-- THE SECOND FORM's CARD OF 'laws.FnExactCyclesLine'. -/
def fnExactCyclesLineUptoCard : Claim7 := { stood := { row := fnExactCyclesLineUptoRow, standIns := [], harness := (true, "997e08136c3eab2bff45b429be5b1edf736b969cff677e2fa523ab18eb2fa0be"), looks := true }, kinds := [], alts := [], laidByText := true, laidKinds := [.data, .data, .data], laidTests := true, laidLooks := .later }
def FnExactCyclesLineUptoCardSaid : Prop := Claim7.holds Tryd.pinned (.plain (OpenSpec.upto fnExactCyclesLineSpec)) fnExactCyclesLineUptoCard

/-- THE SECOND FORM's CARD OF 'laws.FnExactSceneLine'. -/
def fnExactSceneLineUptoCard : Claim7 := { stood := { row := fnExactSceneLineUptoRow, standIns := [], harness := (true, "997e08136c3eab2bff45b429be5b1edf736b969cff677e2fa523ab18eb2fa0be"), looks := true }, kinds := [], alts := [], laidByText := true, laidKinds := [.data, .data, .data], laidTests := true, laidLooks := .later }
def FnExactSceneLineUptoCardSaid : Prop := Claim7.holds Tryd.pinned (.plain (OpenSpec.upto fnExactSceneLineSpec)) fnExactSceneLineUptoCard

/-- THE SECOND FORM's CARD OF 'laws.FnReports'. -/
def fnReportsUptoCard : Claim7 := { stood := { row := fnReportsUptoRow, standIns := [], harness := (true, "997e08136c3eab2bff45b429be5b1edf736b969cff677e2fa523ab18eb2fa0be"), looks := true }, kinds := [], alts := [], laidByText := true, laidKinds := [.data, .data, .data], laidTests := true, laidLooks := .later }
def FnReportsUptoCardSaid : Prop := Claim7.holds Tryd.pinned (.plain (OpenSpec.upto fnReportsSpec)) fnReportsUptoCard

/-- THE SECOND FORM's CARD OF 'laws.FnExactKnowLine'. -/
def fnExactKnowLineUptoCard : Claim7 := { stood := { row := fnExactKnowLineUptoRow, standIns := [], harness := (true, "997e08136c3eab2bff45b429be5b1edf736b969cff677e2fa523ab18eb2fa0be"), looks := true }, kinds := [], alts := [], laidByText := true, laidKinds := [.data, .data, .data], laidTests := true, laidLooks := .later }
def FnExactKnowLineUptoCardSaid : Prop := Claim7.holds Tryd.pinned (.plain (OpenSpec.upto fnExactKnowLineSpec)) fnExactKnowLineUptoCard

/-- THE SECOND FORM's CARD OF 'laws.FnExactFindCode'. -/
def fnExactFindCodeUptoCard : Claim7 := { stood := { row := fnExactFindCodeUptoRow, standIns := [], harness := (true, "997e08136c3eab2bff45b429be5b1edf736b969cff677e2fa523ab18eb2fa0be"), looks := true }, kinds := [], alts := [], laidByText := true, laidKinds := [.data, .data, .data], laidTests := true, laidLooks := .later }
def FnExactFindCodeUptoCardSaid : Prop := Claim7.holds Tryd.pinned (.plain (OpenSpec.upto fnExactFindCodeSpec)) fnExactFindCodeUptoCard

/-- THE SECOND FORM's CARD OF 'laws.FnExactParseMove'. -/
def fnExactParseMoveUptoCard : Claim7 := { stood := { row := fnExactParseMoveUptoRow, standIns := [], harness := (true, "997e08136c3eab2bff45b429be5b1edf736b969cff677e2fa523ab18eb2fa0be"), looks := true }, kinds := [], alts := [], laidByText := true, laidKinds := [.data, .data, .data, .sentinel, .sentinel], laidTests := true, laidLooks := .later }
def FnExactParseMoveUptoCardSaid : Prop := Claim7.holds Tryd.pinned (.plain (OpenSpec.upto fnExactParseMoveSpec)) fnExactParseMoveUptoCard
end Rows
end Go.Proofs.YtijdgiejhgfmlabDoor
