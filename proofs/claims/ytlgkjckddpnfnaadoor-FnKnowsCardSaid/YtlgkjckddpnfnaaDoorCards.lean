/-
  DERIVED. GIVEN WITH THE SEED: THE CARDS: each row of YtlgkjckddpnfnaaDoorRows.lean that lists a variable, with what it lists TIED to the program's text (the seventh form; the later family's looks); each row that meets fmt, with fmt's text TOLD by the authors' own Lean function (tested against real Go, not proved from fmt's source: count such statements apart). THE CARD IS WHAT COUNTS. Prove the row's statement (the work); the ties are given (YtlgkjckddpnfnaaDoorTie.lean); close each card by the builder's one call (the guide's Derived/Test/ToyasCard.lean, 'card_holds'). Laid BY PROGRAM, IN A SANDBOX (cutbox-door.mjs). By AI agents, Wed Nov 11 2026. No macro, syntax, notation, axiom, sorry.
-/
import Derived.Test.YtlgkjckddpnfnaaDoorRows
import GoSem.ClaimSeven
namespace Go.Proofs.YtlgkjckddpnfnaaDoor
namespace Rows

/-- THE TIED CARD OF 'laws.FnKnows'. -/
def fnKnowsCard : Claim7 := { stood := { row := fnKnowsRow, standIns := [], harness := (true, "41abfbfbde16ff75d398a36863c866d95081b452709bb8ebc78b49ff3ed56a7d"), looks := true }, kinds := [], alts := [], laidByText := true, laidKinds := [.data, .data, .data], laidTests := true, laidLooks := .later }
def FnKnowsCardSaid : Prop := Claim7.holds Tryd.pinned (.plain (OpenSpec.ofChange fnKnowsSpec)) fnKnowsCard

/-- THE TIED CARD OF 'laws.FnExactParseMove'. -/
def fnExactParseMoveCard : Claim7 := { stood := { row := fnExactParseMoveRow, standIns := [], harness := (true, "41abfbfbde16ff75d398a36863c866d95081b452709bb8ebc78b49ff3ed56a7d"), looks := true }, kinds := [], alts := [], laidByText := true, laidKinds := [.data, .data, .data, .sentinel, .sentinel], laidTests := true, laidLooks := .later }
def FnExactParseMoveCardSaid : Prop := Claim7.holds Tryd.pinned (.plain (OpenSpec.ofChange fnExactParseMoveSpec)) fnExactParseMoveCard

/-- THE TIED CARD OF 'laws.FnExactParsePacket'. -/
def fnExactParsePacketCard : Claim7 := { stood := { row := fnExactParsePacketRow, standIns := [], harness := (true, "41abfbfbde16ff75d398a36863c866d95081b452709bb8ebc78b49ff3ed56a7d"), looks := true }, kinds := [], alts := [], laidByText := true, laidKinds := [.data, .data, .data, .sentinel, .sentinel], laidTests := true, laidLooks := .later }
def FnExactParsePacketCardSaid : Prop := Claim7.holds Tryd.pinned (.plain (OpenSpec.ofChange fnExactParsePacketSpec)) fnExactParsePacketCard

/-- THE TIED CARD OF 'laws.FnExactParseStep'. -/
def fnExactParseStepCard : Claim7 := { stood := { row := fnExactParseStepRow, standIns := [], harness := (true, "41abfbfbde16ff75d398a36863c866d95081b452709bb8ebc78b49ff3ed56a7d"), looks := true }, kinds := [], alts := [], laidByText := true, laidKinds := [.data, .data, .data, .sentinel, .sentinel], laidTests := true, laidLooks := .later }
def FnExactParseStepCardSaid : Prop := Claim7.holds Tryd.pinned (.plain (OpenSpec.ofChange fnExactParseStepSpec)) fnExactParseStepCard

/-- THE SECOND FORM's CARD OF 'laws.FnKnows'. -/
def fnKnowsUptoCard : Claim7 := { stood := { row := fnKnowsUptoRow, standIns := [], harness := (true, "41abfbfbde16ff75d398a36863c866d95081b452709bb8ebc78b49ff3ed56a7d"), looks := true }, kinds := [], alts := [], laidByText := true, laidKinds := [.data, .data, .data], laidTests := true, laidLooks := .later }
def FnKnowsUptoCardSaid : Prop := Claim7.holds Tryd.pinned (.plain (OpenSpec.upto fnKnowsSpec)) fnKnowsUptoCard

/-- THE SECOND FORM's CARD OF 'laws.FnExactParseMove'. -/
def fnExactParseMoveUptoCard : Claim7 := { stood := { row := fnExactParseMoveUptoRow, standIns := [], harness := (true, "41abfbfbde16ff75d398a36863c866d95081b452709bb8ebc78b49ff3ed56a7d"), looks := true }, kinds := [], alts := [], laidByText := true, laidKinds := [.data, .data, .data, .sentinel, .sentinel], laidTests := true, laidLooks := .later }
def FnExactParseMoveUptoCardSaid : Prop := Claim7.holds Tryd.pinned (.plain (OpenSpec.upto fnExactParseMoveSpec)) fnExactParseMoveUptoCard

/-- THE SECOND FORM's CARD OF 'laws.FnExactParsePacket'. -/
def fnExactParsePacketUptoCard : Claim7 := { stood := { row := fnExactParsePacketUptoRow, standIns := [], harness := (true, "41abfbfbde16ff75d398a36863c866d95081b452709bb8ebc78b49ff3ed56a7d"), looks := true }, kinds := [], alts := [], laidByText := true, laidKinds := [.data, .data, .data, .sentinel, .sentinel], laidTests := true, laidLooks := .later }
def FnExactParsePacketUptoCardSaid : Prop := Claim7.holds Tryd.pinned (.plain (OpenSpec.upto fnExactParsePacketSpec)) fnExactParsePacketUptoCard

/-- THE SECOND FORM's CARD OF 'laws.FnExactParseStep'. -/
def fnExactParseStepUptoCard : Claim7 := { stood := { row := fnExactParseStepUptoRow, standIns := [], harness := (true, "41abfbfbde16ff75d398a36863c866d95081b452709bb8ebc78b49ff3ed56a7d"), looks := true }, kinds := [], alts := [], laidByText := true, laidKinds := [.data, .data, .data, .sentinel, .sentinel], laidTests := true, laidLooks := .later }
def FnExactParseStepUptoCardSaid : Prop := Claim7.holds Tryd.pinned (.plain (OpenSpec.upto fnExactParseStepSpec)) fnExactParseStepUptoCard
end Rows
end Go.Proofs.YtlgkjckddpnfnaaDoor
