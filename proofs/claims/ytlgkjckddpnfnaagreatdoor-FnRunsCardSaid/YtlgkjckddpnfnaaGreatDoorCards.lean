/-
  DERIVED. GIVEN WITH THE SEED: THE CARDS: each row of YtlgkjckddpnfnaaGreatDoorRows.lean that lists a variable, with what it lists TIED to the program's text (the seventh form; the later family's looks); each row that meets fmt, with fmt's text TOLD by the authors' own Lean function (tested against real Go, not proved from fmt's source: count such statements apart). THE CARD IS WHAT COUNTS. Prove the row's statement (the work); the ties are given (YtlgkjckddpnfnaaGreatDoorTie.lean); close each card by the builder's one call (the guide's Derived/Test/ToyasCard.lean, 'card_holds'). Laid BY PROGRAM, IN A SANDBOX (cutbox-door.mjs). By AI agents, Wed Nov 11 2026. No macro, syntax, notation, axiom, sorry.
-/
import Derived.Test.YtlgkjckddpnfnaaGreatDoorRows
import GoSem.ClaimSeven
namespace Go.Proofs.YtlgkjckddpnfnaaGreatDoor
namespace Rows

/-- THE TIED CARD OF 'laws.FnRuns'. -/
def fnRunsCard : Claim7 := { stood := { row := fnRunsRow, standIns := [], harness := (true, "40a0d4403dd55fccfbeec544877a1efb78ecb2dcec9e08fd7e7c86f98fe143e1"), looks := false }, kinds := [], alts := [], laidByText := true, laidKinds := [.data, .data, .data], laidTests := true, laidLooks := .later }
def FnRunsCardSaid : Prop := Claim7.holds Tryz.pinned (.plain (OpenSpec.ofChange fnRunsSpec)) fnRunsCard

/-- THE SECOND FORM's CARD OF 'laws.FnRuns'. -/
def fnRunsUptoCard : Claim7 := { stood := { row := fnRunsUptoRow, standIns := [], harness := (true, "40a0d4403dd55fccfbeec544877a1efb78ecb2dcec9e08fd7e7c86f98fe143e1"), looks := false }, kinds := [], alts := [], laidByText := true, laidKinds := [.data, .data, .data], laidTests := true, laidLooks := .later }
def FnRunsUptoCardSaid : Prop := Claim7.holds Tryz.pinned (.plain (OpenSpec.upto fnRunsSpec)) fnRunsUptoCard
end Rows
end Go.Proofs.YtlgkjckddpnfnaaGreatDoor
