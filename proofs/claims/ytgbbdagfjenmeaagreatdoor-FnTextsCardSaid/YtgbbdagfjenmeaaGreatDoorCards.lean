/-
  DERIVED. GIVEN WITH THE SEED: THE CARDS: each row of YtgbbdagfjenmeaaGreatDoorRows.lean that lists a variable, with what it lists TIED to the program's text (the seventh form; the later family's looks); each row that meets fmt, with fmt's text TOLD by the authors' own Lean function (tested against real Go, not proved from fmt's source: count such statements apart). THE CARD IS WHAT COUNTS. Prove the row's statement (the work); the ties are given (YtgbbdagfjenmeaaGreatDoorTie.lean); close each card by the builder's one call (the guide's Derived/Test/ToyasCard.lean, 'card_holds'). Laid BY PROGRAM, IN A SANDBOX (cutbox-door.mjs). By AI agents, Wed Nov 11 2026. No macro, syntax, notation, axiom, sorry.
-/
import Derived.Test.YtgbbdagfjenmeaaGreatDoorRows
import GoSem.ClaimSeven
namespace Go.Proofs.YtgbbdagfjenmeaaGreatDoor
namespace Rows

/-- THE TIED CARD OF 'laws.FnJoins'. -/
def fnJoinsCard : Claim7 := { stood := { row := fnJoinsRow, standIns := [], harness := (true, "b15144b68d637da1591f3e0c3b537deb3124debe3119e619eb2c24b2842307ec"), looks := true }, kinds := [], alts := [], laidByText := true, laidKinds := [.data, .data, .data], laidTests := true, laidLooks := .later }
def FnJoinsCardSaid : Prop := Claim7.holds Tryz.pinned (.plain (OpenSpec.ofChange fnJoinsSpec)) fnJoinsCard

/-- THE TIED CARD OF 'laws.FnExactCheckTrick'. -/
def fnExactCheckTrickCard : Claim7 := { stood := { row := fnExactCheckTrickRow, standIns := [], harness := (true, "b15144b68d637da1591f3e0c3b537deb3124debe3119e619eb2c24b2842307ec"), looks := true }, kinds := [], alts := [], laidByText := true, laidKinds := [.data, .data, .data], laidTests := true, laidLooks := .later }
def FnExactCheckTrickCardSaid : Prop := Claim7.holds Tryz.pinned (.plain (OpenSpec.ofChange fnExactCheckTrickSpec)) fnExactCheckTrickCard

/-- THE TIED CARD OF 'laws.FnExactIsNeeded'. -/
def fnExactIsNeededCard : Claim7 := { stood := { row := fnExactIsNeededRow, standIns := [], harness := (true, "b15144b68d637da1591f3e0c3b537deb3124debe3119e619eb2c24b2842307ec"), looks := true }, kinds := [], alts := [], laidByText := true, laidKinds := [.data, .data, .data], laidTests := true, laidLooks := .later }
def FnExactIsNeededCardSaid : Prop := Claim7.holds Tryz.pinned (.plain (OpenSpec.ofChange fnExactIsNeededSpec)) fnExactIsNeededCard

/-- THE TIED CARD OF 'laws.FnExactIsProved'. -/
def fnExactIsProvedCard : Claim7 := { stood := { row := fnExactIsProvedRow, standIns := [], harness := (true, "b15144b68d637da1591f3e0c3b537deb3124debe3119e619eb2c24b2842307ec"), looks := true }, kinds := [], alts := [], laidByText := true, laidKinds := [.data, .data, .data], laidTests := true, laidLooks := .later }
def FnExactIsProvedCardSaid : Prop := Claim7.holds Tryz.pinned (.plain (OpenSpec.ofChange fnExactIsProvedSpec)) fnExactIsProvedCard

/-- THE TIED CARD OF 'laws.FnExactShortenTrick'. -/
def fnExactShortenTrickCard : Claim7 := { stood := { row := fnExactShortenTrickRow, standIns := [], harness := (true, "b15144b68d637da1591f3e0c3b537deb3124debe3119e619eb2c24b2842307ec"), looks := true }, kinds := [], alts := [], laidByText := true, laidKinds := [.data, .data, .data], laidTests := true, laidLooks := .later }
def FnExactShortenTrickCardSaid : Prop := Claim7.holds Tryz.pinned (.plain (OpenSpec.ofChange fnExactShortenTrickSpec)) fnExactShortenTrickCard

/-- THE TIED CARD OF 'laws.FnExactVerdictLine'. -/
def fnExactVerdictLineCard : Claim7 := { stood := { row := fnExactVerdictLineRow, standIns := [], harness := (true, "b15144b68d637da1591f3e0c3b537deb3124debe3119e619eb2c24b2842307ec"), looks := true }, kinds := [], alts := [], laidByText := true, laidKinds := [.data, .data, .data], laidTests := true, laidLooks := .later }
def FnExactVerdictLineCardSaid : Prop := Claim7.holds Tryz.pinned (.plain (OpenSpec.ofChange fnExactVerdictLineSpec)) fnExactVerdictLineCard

/-- THE TIED CARD OF 'laws.FnTop'. -/
def fnTopCard : Claim7 := { stood := { row := fnTopRow, standIns := [], harness := (true, "b15144b68d637da1591f3e0c3b537deb3124debe3119e619eb2c24b2842307ec"), looks := true }, kinds := [], alts := [], laidByText := true, laidKinds := [.data, .data, .data], laidTests := true, laidLooks := .later }
def FnTopCardSaid : Prop := Claim7.holds Tryz.pinned (.plain (OpenSpec.ofChange fnTopSpec)) fnTopCard

/-- THE TIED CARD OF 'laws.FnShort'. -/
def fnShortCard : Claim7 := { stood := { row := fnShortRow, standIns := [], harness := (true, "b15144b68d637da1591f3e0c3b537deb3124debe3119e619eb2c24b2842307ec"), looks := true }, kinds := [], alts := [], laidByText := true, laidKinds := [.data, .data, .data], laidTests := true, laidLooks := .later }
def FnShortCardSaid : Prop := Claim7.holds Tryz.pinned (.plain (OpenSpec.ofChange fnShortSpec)) fnShortCard

/-- THE TIED CARD OF 'laws.FnEveryTrick'. -/
def fnEveryTrickCard : Claim7 := { stood := { row := fnEveryTrickRow, standIns := [], harness := (true, "b15144b68d637da1591f3e0c3b537deb3124debe3119e619eb2c24b2842307ec"), looks := true }, kinds := [], alts := [], laidByText := true, laidKinds := [.data, .data, .data], laidTests := true, laidLooks := .later }
def FnEveryTrickCardSaid : Prop := Claim7.holds Tryz.pinned (.plain (OpenSpec.ofChange fnEveryTrickSpec)) fnEveryTrickCard

/-- THE TIED CARD OF 'laws.FnTexts'. -/
def fnTextsCard : Claim7 := { stood := { row := fnTextsRow, standIns := [], harness := (true, "b15144b68d637da1591f3e0c3b537deb3124debe3119e619eb2c24b2842307ec"), looks := true }, kinds := [], alts := [], laidByText := true, laidKinds := [.data, .data, .data, .sentinel, .sentinel], laidTests := true, laidLooks := .later }
def FnTextsCardSaid : Prop := Claim7.holds Tryz.pinned (.plain (OpenSpec.ofChange fnTextsSpec)) fnTextsCard

/-- THE SECOND FORM's CARD OF 'laws.FnJoins'. -/
def fnJoinsUptoCard : Claim7 := { stood := { row := fnJoinsUptoRow, standIns := [], harness := (true, "b15144b68d637da1591f3e0c3b537deb3124debe3119e619eb2c24b2842307ec"), looks := true }, kinds := [], alts := [], laidByText := true, laidKinds := [.data, .data, .data], laidTests := true, laidLooks := .later }
def FnJoinsUptoCardSaid : Prop := Claim7.holds Tryz.pinned (.plain (OpenSpec.upto fnJoinsSpec)) fnJoinsUptoCard

/-- THE SECOND FORM's CARD OF 'laws.FnExactCheckTrick'. -/
def fnExactCheckTrickUptoCard : Claim7 := { stood := { row := fnExactCheckTrickUptoRow, standIns := [], harness := (true, "b15144b68d637da1591f3e0c3b537deb3124debe3119e619eb2c24b2842307ec"), looks := true }, kinds := [], alts := [], laidByText := true, laidKinds := [.data, .data, .data], laidTests := true, laidLooks := .later }
def FnExactCheckTrickUptoCardSaid : Prop := Claim7.holds Tryz.pinned (.plain (OpenSpec.upto fnExactCheckTrickSpec)) fnExactCheckTrickUptoCard

/-- THE SECOND FORM's CARD OF 'laws.FnExactIsNeeded'. -/
def fnExactIsNeededUptoCard : Claim7 := { stood := { row := fnExactIsNeededUptoRow, standIns := [], harness := (true, "b15144b68d637da1591f3e0c3b537deb3124debe3119e619eb2c24b2842307ec"), looks := true }, kinds := [], alts := [], laidByText := true, laidKinds := [.data, .data, .data], laidTests := true, laidLooks := .later }
def FnExactIsNeededUptoCardSaid : Prop := Claim7.holds Tryz.pinned (.plain (OpenSpec.upto fnExactIsNeededSpec)) fnExactIsNeededUptoCard

/-- THE SECOND FORM's CARD OF 'laws.FnExactIsProved'. -/
def fnExactIsProvedUptoCard : Claim7 := { stood := { row := fnExactIsProvedUptoRow, standIns := [], harness := (true, "b15144b68d637da1591f3e0c3b537deb3124debe3119e619eb2c24b2842307ec"), looks := true }, kinds := [], alts := [], laidByText := true, laidKinds := [.data, .data, .data], laidTests := true, laidLooks := .later }
def FnExactIsProvedUptoCardSaid : Prop := Claim7.holds Tryz.pinned (.plain (OpenSpec.upto fnExactIsProvedSpec)) fnExactIsProvedUptoCard

/-- THE SECOND FORM's CARD OF 'laws.FnExactShortenTrick'. -/
def fnExactShortenTrickUptoCard : Claim7 := { stood := { row := fnExactShortenTrickUptoRow, standIns := [], harness := (true, "b15144b68d637da1591f3e0c3b537deb3124debe3119e619eb2c24b2842307ec"), looks := true }, kinds := [], alts := [], laidByText := true, laidKinds := [.data, .data, .data], laidTests := true, laidLooks := .later }
def FnExactShortenTrickUptoCardSaid : Prop := Claim7.holds Tryz.pinned (.plain (OpenSpec.upto fnExactShortenTrickSpec)) fnExactShortenTrickUptoCard

/-- THE SECOND FORM's CARD OF 'laws.FnExactVerdictLine'. -/
def fnExactVerdictLineUptoCard : Claim7 := { stood := { row := fnExactVerdictLineUptoRow, standIns := [], harness := (true, "b15144b68d637da1591f3e0c3b537deb3124debe3119e619eb2c24b2842307ec"), looks := true }, kinds := [], alts := [], laidByText := true, laidKinds := [.data, .data, .data], laidTests := true, laidLooks := .later }
def FnExactVerdictLineUptoCardSaid : Prop := Claim7.holds Tryz.pinned (.plain (OpenSpec.upto fnExactVerdictLineSpec)) fnExactVerdictLineUptoCard

/-- THE SECOND FORM's CARD OF 'laws.FnTop'. -/
def fnTopUptoCard : Claim7 := { stood := { row := fnTopUptoRow, standIns := [], harness := (true, "b15144b68d637da1591f3e0c3b537deb3124debe3119e619eb2c24b2842307ec"), looks := true }, kinds := [], alts := [], laidByText := true, laidKinds := [.data, .data, .data], laidTests := true, laidLooks := .later }
def FnTopUptoCardSaid : Prop := Claim7.holds Tryz.pinned (.plain (OpenSpec.upto fnTopSpec)) fnTopUptoCard

/-- THE SECOND FORM's CARD OF 'laws.FnShort'. -/
def fnShortUptoCard : Claim7 := { stood := { row := fnShortUptoRow, standIns := [], harness := (true, "b15144b68d637da1591f3e0c3b537deb3124debe3119e619eb2c24b2842307ec"), looks := true }, kinds := [], alts := [], laidByText := true, laidKinds := [.data, .data, .data], laidTests := true, laidLooks := .later }
def FnShortUptoCardSaid : Prop := Claim7.holds Tryz.pinned (.plain (OpenSpec.upto fnShortSpec)) fnShortUptoCard

/-- THE SECOND FORM's CARD OF 'laws.FnEveryTrick'. -/
def fnEveryTrickUptoCard : Claim7 := { stood := { row := fnEveryTrickUptoRow, standIns := [], harness := (true, "b15144b68d637da1591f3e0c3b537deb3124debe3119e619eb2c24b2842307ec"), looks := true }, kinds := [], alts := [], laidByText := true, laidKinds := [.data, .data, .data], laidTests := true, laidLooks := .later }
def FnEveryTrickUptoCardSaid : Prop := Claim7.holds Tryz.pinned (.plain (OpenSpec.upto fnEveryTrickSpec)) fnEveryTrickUptoCard

/-- THE SECOND FORM's CARD OF 'laws.FnTexts'. -/
def fnTextsUptoCard : Claim7 := { stood := { row := fnTextsUptoRow, standIns := [], harness := (true, "b15144b68d637da1591f3e0c3b537deb3124debe3119e619eb2c24b2842307ec"), looks := true }, kinds := [], alts := [], laidByText := true, laidKinds := [.data, .data, .data, .sentinel, .sentinel], laidTests := true, laidLooks := .later }
def FnTextsUptoCardSaid : Prop := Claim7.holds Tryz.pinned (.plain (OpenSpec.upto fnTextsSpec)) fnTextsUptoCard
end Rows
end Go.Proofs.YtgbbdagfjenmeaaGreatDoor
