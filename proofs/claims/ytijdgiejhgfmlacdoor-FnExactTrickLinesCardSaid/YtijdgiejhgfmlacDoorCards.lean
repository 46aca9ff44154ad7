/-
  DERIVED. GIVEN WITH THE SEED: THE CARDS: each row of YtijdgiejhgfmlacDoorRows.lean that lists a variable, with what it lists TIED to the program's text (the seventh form; the later family's looks); each row that meets fmt, with fmt's text TOLD by the authors' own Lean function (tested against real Go, not proved from fmt's source: count such statements apart). THE CARD IS WHAT COUNTS. Prove the row's statement (the work); the ties are given (YtijdgiejhgfmlacDoorTie.lean); close each card by the builder's one call (the guide's Derived/Test/ToyasCard.lean, 'card_holds'). Laid BY PROGRAM, IN A SANDBOX (cutbox-door.mjs). By AI agents, Wed Nov 11 2026. No macro, syntax, notation, axiom, sorry.
-/
import Derived.Test.YtijdgiejhgfmlacDoorRows
import GoSem.ClaimSeven
namespace Go.Proofs.YtijdgiejhgfmlacDoor
namespace Rows

/-- THE TIED CARD OF 'laws.FnKnows'. -/
def fnKnowsCard : Claim7 := { stood := { row := fnKnowsRow, standIns := [], harness := (true, "ca55a19b387c6f3bf3447a7f4eac817eef7cddbd0250551421bea9ae257b3b57"), looks := true }, kinds := [], alts := [], laidByText := true, laidKinds := [.data, .data, .data], laidTests := true, laidLooks := .later }
def FnKnowsCardSaid : Prop := Claim7.holds Tryd.pinned (.plain (OpenSpec.ofChange fnKnowsSpec)) fnKnowsCard

/-- THE TIED CARD OF 'laws.FnExactParsePacket'. -/
def fnExactParsePacketCard : Claim7 := { stood := { row := fnExactParsePacketRow, standIns := [], harness := (true, "ca55a19b387c6f3bf3447a7f4eac817eef7cddbd0250551421bea9ae257b3b57"), looks := true }, kinds := [], alts := [], laidByText := true, laidKinds := [.data, .data, .data, .sentinel, .sentinel], laidTests := true, laidLooks := .later }
def FnExactParsePacketCardSaid : Prop := Claim7.holds Tryd.pinned (.plain (OpenSpec.ofChange fnExactParsePacketSpec)) fnExactParsePacketCard

/-- THE TIED CARD OF 'laws.FnExactParseStep'. -/
def fnExactParseStepCard : Claim7 := { stood := { row := fnExactParseStepRow, standIns := [], harness := (true, "ca55a19b387c6f3bf3447a7f4eac817eef7cddbd0250551421bea9ae257b3b57"), looks := true }, kinds := [], alts := [], laidByText := true, laidKinds := [.data, .data, .data, .sentinel, .sentinel], laidTests := true, laidLooks := .later }
def FnExactParseStepCardSaid : Prop := Claim7.holds Tryd.pinned (.plain (OpenSpec.ofChange fnExactParseStepSpec)) fnExactParseStepCard

/-- THE TIED CARD OF 'laws.FnExactTrickLines'. -/
def fnExactTrickLinesCard : Claim7 := { stood := { row := fnExactTrickLinesRow, standIns := [], harness := (true, "ca55a19b387c6f3bf3447a7f4eac817eef7cddbd0250551421bea9ae257b3b57"), looks := true }, kinds := [], alts := [], laidByText := true, laidKinds := [.data, .data, .data], laidTests := true, laidLooks := .later }
def FnExactTrickLinesCardSaid : Prop := Claim7.holds Tryd.pinned (.plain (OpenSpec.ofChange fnExactTrickLinesSpec)) fnExactTrickLinesCard

/-- THE TIED CARD OF 'laws.FnCodes'. -/
def fnCodesCard : Claim7 := { stood := { row := fnCodesRow, standIns := [], harness := (true, "ca55a19b387c6f3bf3447a7f4eac817eef7cddbd0250551421bea9ae257b3b57"), looks := true }, kinds := [], alts := [], laidByText := true, laidKinds := [.data, .data, .data], laidTests := true, laidLooks := .later }
def FnCodesCardSaid : Prop := Claim7.holds Tryd.pinned (.plain (OpenSpec.ofChange fnCodesSpec)) fnCodesCard

/-- THE SECOND FORM's CARD OF 'laws.FnKnows'. -/
def fnKnowsUptoCard : Claim7 := { stood := { row := fnKnowsUptoRow, standIns := [], harness := (true, "ca55a19b387c6f3bf3447a7f4eac817eef7cddbd0250551421bea9ae257b3b57"), looks := true }, kinds := [], alts := [], laidByText := true, laidKinds := [.data, .data, .data], laidTests := true, laidLooks := .later }
def FnKnowsUptoCardSaid : Prop := Claim7.holds Tryd.pinned (.plain (OpenSpec.upto fnKnowsSpec)) fnKnowsUptoCard

/-- THE SECOND FORM's CARD OF 'laws.FnExactParsePacket'. -/
def fnExactParsePacketUptoCard : Claim7 := { stood := { row := fnExactParsePacketUptoRow, standIns := [], harness := (true, "ca55a19b387c6f3bf3447a7f4eac817eef7cddbd0250551421bea9ae257b3b57"), looks := true }, kinds := [], alts := [], laidByText := true, laidKinds := [.data, .data, .data, .sentinel, .sentinel], laidTests := true, laidLooks := .later }
def FnExactParsePacketUptoCardSaid : Prop := Claim7.holds Tryd.pinned (.plain (OpenSpec.upto fnExactParsePacketSpec)) fnExactParsePacketUptoCard

/-- THE SECOND FORM's CARD OF 'laws.FnExactParseStep'. -/
def fnExactParseStepUptoCard : Claim7 := { stood := { row := fnExactParseStepUptoRow, standIns := [], harness := (true, "ca55a19b387c6f3bf3447a7f4eac817eef7cddbd0250551421bea9ae257b3b57"), looks := true }, kinds := [], alts := [], laidByText := true, laidKinds := [.data, .data, .data, .sentinel, .sentinel], laidTests := true, laidLooks := .later }
def FnExactParseStepUptoCardSaid : Prop := Claim7.holds Tryd.pinned (.plain (OpenSpec.upto fnExactParseStepSpec)) fnExactParseStepUptoCard

/-- THE SECOND FORM's CARD OF 'laws.FnExactTrickLines'. -/
def fnExactTrickLinesUptoCard : Claim7 := { stood := { row := fnExactTrickLinesUptoRow, standIns := [], harness := (true, "ca55a19b387c6f3bf3447a7f4eac817eef7cddbd0250551421bea9ae257b3b57"), looks := true }, kinds := [], alts := [], laidByText := true, laidKinds := [.data, .data, .data], laidTests := true, laidLooks := .later }
def FnExactTrickLinesUptoCardSaid : Prop := Claim7.holds Tryd.pinned (.plain (OpenSpec.upto fnExactTrickLinesSpec)) fnExactTrickLinesUptoCard

/-- THE SECOND FORM's CARD OF 'laws.FnCodes'. -/
def fnCodesUptoCard : Claim7 := { stood := { row := fnCodesUptoRow, standIns := [], harness := (true, "ca55a19b387c6f3bf3447a7f4eac817eef7cddbd0250551421bea9ae257b3b57"), looks := true }, kinds := [], alts := [], laidByText := true, laidKinds := [.data, .data, .data], laidTests := true, laidLooks := .later }
def FnCodesUptoCardSaid : Prop := Claim7.holds Tryd.pinned (.plain (OpenSpec.upto fnCodesSpec)) fnCodesUptoCard
end Rows
end Go.Proofs.YtijdgiejhgfmlacDoor
