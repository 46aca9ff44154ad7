/-
  DERIVED. GIVEN WITH THE SEED: THE CARDS: each row of YtcchipplglbfmaaGreatDoorRows.lean that lists a variable, with what it lists TIED to the program's text (the seventh form; the later family's looks); each row that meets fmt, with fmt's text TOLD by the authors' own Lean function (tested against real Go, not proved from fmt's source: count such statements apart). THE CARD IS WHAT COUNTS. Prove the row's statement (the work); the ties are given (YtcchipplglbfmaaGreatDoorTie.lean); close each card by the builder's one call (the guide's Derived/Test/ToyasCard.lean, 'card_holds'). Laid BY PROGRAM, IN A SANDBOX (cutbox-door.mjs). By AI agents, Wed Nov 11 2026. No macro, syntax, notation, axiom, sorry.
-/
import Derived.Test.YtcchipplglbfmaaGreatDoorRows
import GoSem.ClaimSeven
namespace Go.Proofs.YtcchipplglbfmaaGreatDoor
namespace Rows

/-- THE TIED CARD OF 'laws.FnExactCountEnds'. -/
def fnExactCountEndsCard : Claim7 := { stood := { row := fnExactCountEndsRow, standIns := [], harness := (true, "1a956deb69a352e61a9a78f960accce36d06b7c76724afdf5e2415a63ef96857"), looks := false }, kinds := [], alts := [], laidByText := true, laidKinds := [.data, .data, .data], laidTests := true, laidLooks := .later }
def FnExactCountEndsCardSaid : Prop := Claim7.holds Tryz.pinned (.plain (OpenSpec.ofChange fnExactCountEndsSpec)) fnExactCountEndsCard

/-- THE TIED CARD OF 'laws.FnExactAllScenes'. -/
def fnExactAllScenesCard : Claim7 := { stood := { row := fnExactAllScenesRow, standIns := [], harness := (true, "1a956deb69a352e61a9a78f960accce36d06b7c76724afdf5e2415a63ef96857"), looks := false }, kinds := [], alts := [], laidByText := true, laidKinds := [.data, .data, .data], laidTests := true, laidLooks := .later }
def FnExactAllScenesCardSaid : Prop := Claim7.holds Tryz.pinned (.plain (OpenSpec.ofChange fnExactAllScenesSpec)) fnExactAllScenesCard

/-- THE TIED CARD OF 'laws.FnExactHoldingEnds'. -/
def fnExactHoldingEndsCard : Claim7 := { stood := { row := fnExactHoldingEndsRow, standIns := [], harness := (true, "1a956deb69a352e61a9a78f960accce36d06b7c76724afdf5e2415a63ef96857"), looks := false }, kinds := [], alts := [], laidByText := true, laidKinds := [.data, .data, .data], laidTests := true, laidLooks := .later }
def FnExactHoldingEndsCardSaid : Prop := Claim7.holds Tryz.pinned (.plain (OpenSpec.ofChange fnExactHoldingEndsSpec)) fnExactHoldingEndsCard

/-- THE TIED CARD OF 'laws.FnExactCheckTrick'. -/
def fnExactCheckTrickCard : Claim7 := { stood := { row := fnExactCheckTrickRow, standIns := [], harness := (true, "1a956deb69a352e61a9a78f960accce36d06b7c76724afdf5e2415a63ef96857"), looks := false }, kinds := [], alts := [], laidByText := true, laidKinds := [.data, .data, .data], laidTests := true, laidLooks := .later }
def FnExactCheckTrickCardSaid : Prop := Claim7.holds Tryz.pinned (.plain (OpenSpec.ofChange fnExactCheckTrickSpec)) fnExactCheckTrickCard

/-- THE TIED CARD OF 'laws.FnExactIsNeeded'. -/
def fnExactIsNeededCard : Claim7 := { stood := { row := fnExactIsNeededRow, standIns := [], harness := (true, "1a956deb69a352e61a9a78f960accce36d06b7c76724afdf5e2415a63ef96857"), looks := false }, kinds := [], alts := [], laidByText := true, laidKinds := [.data, .data, .data], laidTests := true, laidLooks := .later }
def FnExactIsNeededCardSaid : Prop := Claim7.holds Tryz.pinned (.plain (OpenSpec.ofChange fnExactIsNeededSpec)) fnExactIsNeededCard

/-- THE TIED CARD OF 'laws.FnExactIsProved'. -/
def fnExactIsProvedCard : Claim7 := { stood := { row := fnExactIsProvedRow, standIns := [], harness := (true, "1a956deb69a352e61a9a78f960accce36d06b7c76724afdf5e2415a63ef96857"), looks := false }, kinds := [], alts := [], laidByText := true, laidKinds := [.data, .data, .data], laidTests := true, laidLooks := .later }
def FnExactIsProvedCardSaid : Prop := Claim7.holds Tryz.pinned (.plain (OpenSpec.ofChange fnExactIsProvedSpec)) fnExactIsProvedCard

/-- THE TIED CARD OF 'laws.FnExactShortenTrick'. -/
def fnExactShortenTrickCard : Claim7 := { stood := { row := fnExactShortenTrickRow, standIns := [], harness := (true, "1a956deb69a352e61a9a78f960accce36d06b7c76724afdf5e2415a63ef96857"), looks := false }, kinds := [], alts := [], laidByText := true, laidKinds := [.data, .data, .data], laidTests := true, laidLooks := .later }
def FnExactShortenTrickCardSaid : Prop := Claim7.holds Tryz.pinned (.plain (OpenSpec.ofChange fnExactShortenTrickSpec)) fnExactShortenTrickCard

/-- THE TIED CARD OF 'laws.FnExactVerdictLine'. -/
def fnExactVerdictLineCard : Claim7 := { stood := { row := fnExactVerdictLineRow, standIns := [], harness := (true, "1a956deb69a352e61a9a78f960accce36d06b7c76724afdf5e2415a63ef96857"), looks := false }, kinds := [], alts := [], laidByText := true, laidKinds := [.data, .data, .data], laidTests := true, laidLooks := .later }
def FnExactVerdictLineCardSaid : Prop := Claim7.holds Tryz.pinned (.plain (OpenSpec.ofChange fnExactVerdictLineSpec)) fnExactVerdictLineCard

/-- THE SECOND FORM's CARD OF 'laws.FnExactCountEnds'. -/
def fnExactCountEndsUptoCard : Claim7 := { stood := { row := fnExactCountEndsUptoRow, standIns := [], harness := (true, "1a956deb69a352e61a9a78f960accce36d06b7c76724afdf5e2415a63ef96857"), looks := false }, kinds := [], alts := [], laidByText := true, laidKinds := [.data, .data, .data], laidTests := true, laidLooks := .later }
def FnExactCountEndsUptoCardSaid : Prop := Claim7.holds Tryz.pinned (.plain (OpenSpec.upto fnExactCountEndsSpec)) fnExactCountEndsUptoCard

/-- THE SECOND FORM's CARD OF 'laws.FnExactAllScenes'. -/
def fnExactAllScenesUptoCard : Claim7 := { stood := { row := fnExactAllScenesUptoRow, standIns := [], harness := (true, "1a956deb69a352e61a9a78f960accce36d06b7c76724afdf5e2415a63ef96857"), looks := false }, kinds := [], alts := [], laidByText := true, laidKinds := [.data, .data, .data], laidTests := true, laidLooks := .later }
def FnExactAllScenesUptoCardSaid : Prop := Claim7.holds Tryz.pinned (.plain (OpenSpec.upto fnExactAllScenesSpec)) fnExactAllScenesUptoCard

/-- THE SECOND FORM's CARD OF 'laws.FnExactHoldingEnds'. -/
def fnExactHoldingEndsUptoCard : Claim7 := { stood := { row := fnExactHoldingEndsUptoRow, standIns := [], harness := (true, "1a956deb69a352e61a9a78f960accce36d06b7c76724afdf5e2415a63ef96857"), looks := false }, kinds := [], alts := [], laidByText := true, laidKinds := [.data, .data, .data], laidTests := true, laidLooks := .later }
def FnExactHoldingEndsUptoCardSaid : Prop := Claim7.holds Tryz.pinned (.plain (OpenSpec.upto fnExactHoldingEndsSpec)) fnExactHoldingEndsUptoCard

/-- THE SECOND FORM's CARD OF 'laws.FnExactCheckTrick'. -/
def fnExactCheckTrickUptoCard : Claim7 := { stood := { row := fnExactCheckTrickUptoRow, standIns := [], harness := (true, "1a956deb69a352e61a9a78f960accce36d06b7c76724afdf5e2415a63ef96857"), looks := false }, kinds := [], alts := [], laidByText := true, laidKinds := [.data, .data, .data], laidTests := true, laidLooks := .later }
def FnExactCheckTrickUptoCardSaid : Prop := Claim7.holds Tryz.pinned (.plain (OpenSpec.upto fnExactCheckTrickSpec)) fnExactCheckTrickUptoCard

/-- THE SECOND FORM's CARD OF 'laws.FnExactIsNeeded'. -/
def fnExactIsNeededUptoCard : Claim7 := { stood := { row := fnExactIsNeededUptoRow, standIns := [], harness := (true, "1a956deb69a352e61a9a78f960accce36d06b7c76724afdf5e2415a63ef96857"), looks := false }, kinds := [], alts := [], laidByText := true, laidKinds := [.data, .data, .data], laidTests := true, laidLooks := .later }
def FnExactIsNeededUptoCardSaid : Prop := Claim7.holds Tryz.pinned (.plain (OpenSpec.upto fnExactIsNeededSpec)) fnExactIsNeededUptoCard

/-- THE SECOND FORM's CARD OF 'laws.FnExactIsProved'. -/
def fnExactIsProvedUptoCard : Claim7 := { stood := { row := fnExactIsProvedUptoRow, standIns := [], harness := (true, "1a956deb69a352e61a9a78f960accce36d06b7c76724afdf5e2415a63ef96857"), looks := false }, kinds := [], alts := [], laidByText := true, laidKinds := [.data, .data, .data], laidTests := true, laidLooks := .later }
def FnExactIsProvedUptoCardSaid : Prop := Claim7.holds Tryz.pinned (.plain (OpenSpec.upto fnExactIsProvedSpec)) fnExactIsProvedUptoCard

/-- THE SECOND FORM's CARD OF 'laws.FnExactShortenTrick'. -/
def fnExactShortenTrickUptoCard : Claim7 := { stood := { row := fnExactShortenTrickUptoRow, standIns := [], harness := (true, "1a956deb69a352e61a9a78f960accce36d06b7c76724afdf5e2415a63ef96857"), looks := false }, kinds := [], alts := [], laidByText := true, laidKinds := [.data, .data, .data], laidTests := true, laidLooks := .later }
def FnExactShortenTrickUptoCardSaid : Prop := Claim7.holds Tryz.pinned (.plain (OpenSpec.upto fnExactShortenTrickSpec)) fnExactShortenTrickUptoCard

/-- THE SECOND FORM's CARD OF 'laws.FnExactVerdictLine'. -/
def fnExactVerdictLineUptoCard : Claim7 := { stood := { row := fnExactVerdictLineUptoRow, standIns := [], harness := (true, "1a956deb69a352e61a9a78f960accce36d06b7c76724afdf5e2415a63ef96857"), looks := false }, kinds := [], alts := [], laidByText := true, laidKinds := [.data, .data, .data], laidTests := true, laidLooks := .later }
def FnExactVerdictLineUptoCardSaid : Prop := Claim7.holds Tryz.pinned (.plain (OpenSpec.upto fnExactVerdictLineSpec)) fnExactVerdictLineUptoCard
end Rows
end Go.Proofs.YtcchipplglbfmaaGreatDoor
