/-
  No cell of these rows narrows 'for every input' (looked for: loops, veiled, ifaces, maps, wideKeys, modest, calm, conditions, laid).
  DERIVED. THE GIVEN ROWS OF THIS SEAT. 11 by the template 'for every input the law returns true; each argument reads behind the call as it read before'; 0 by the template 'total and deterministic' (their statements: YtghbmnhaalpjeaaTotals.lean).
  GIVEN WITH THE SEED: the statements are not yours to turn. If you find one false, say at which input.
  Laid BY PROGRAM, IN A SANDBOX (cutbox-rows.mjs): the forced cells as the released guide's own fill.sh prints them over the translation 7f81fa8d652f6bd9… (all of the seat's roots in one cut). By AI agents, Wed Nov 11 2026. No macro, syntax, notation, axiom, sorry.
-/
import Derived.Test.YtghbmnhaalpjeaaChecked
import GoSem.Claim
import GoSem.ClaimJoined
import GoSem.ClaimMapViews
import Derived.JoinedTies
import Derived.KernelRfl
namespace Go.Proofs.Ytghbmnhaalpjeaa
/- THE CELL 'sum', in the pinned program and in every row, IS THE sha256 OF THE DUMP (.gsa) THAT YtghbmnhaalpjeaaProg.lean LOADS. Nothing in Lean hashes anything: it is a label: what it is worth is what the hold of that sum in a sandbox is worth. -/
noncomputable def Try.pinned : Pinned := { name := "ytghbmnhaalpjeaa", sum := "7f81fa8d652f6bd9f4c1cdc164a5022a903dbc5f72ca28295b1eb80469aaf586", checked := Try.checked }
namespace Rows
def none {H : Type} : Left H := { results := [], args := [] }

/-- 'laws.FnExactShuffleLine': WHATEVER THE INPUT: true; the input reads as it did. -/
def fnExactShuffleLineSpec : ChangeSpec := { name := "fnExactShuffleLine", fn := fun _ => fun
  | [d] => { results := [.lit (.bool true)], args := [d] }
  | _ => none }
def fnExactShuffleLineRow : OpenClaim := { program := "ytghbmnhaalpjeaa", sum := "7f81fa8d652f6bd9f4c1cdc164a5022a903dbc5f72ca28295b1eb80469aaf586", func := "loop.example/g00846/laws.FnExactShuffleLine", spec := "fnExactShuffleLine", apart := false }
def FnExactShuffleLineSaid : Prop := fnExactShuffleLineRow.holds Try.pinned (OpenSpec.ofChange fnExactShuffleLineSpec)

/-- ITS FALSE NEIGHBOUR: 'it returns false'. Refute it at one input. -/
def fnExactShuffleLineWrong : ChangeSpec := { name := "fnExactShuffleLine", fn := fun _ => fun
  | [d] => { results := [.lit (.bool false)], args := [d] }
  | _ => none }
def FnExactShuffleLineWrongFalsely : Prop := fnExactShuffleLineRow.holds Try.pinned (OpenSpec.ofChange fnExactShuffleLineWrong)

/-- 'laws.FnExactSameScene': WHATEVER THE INPUT: true; the input reads as it did. -/
def fnExactSameSceneSpec : ChangeSpec := { name := "fnExactSameScene", fn := fun _ => fun
  | [d1, d2] => { results := [.lit (.bool true)], args := [d1, d2] }
  | _ => none }
def fnExactSameSceneRow : OpenClaim := { program := "ytghbmnhaalpjeaa", sum := "7f81fa8d652f6bd9f4c1cdc164a5022a903dbc5f72ca28295b1eb80469aaf586", func := "loop.example/g00846/laws.FnExactSameScene", spec := "fnExactSameScene", apart := false }
def FnExactSameSceneSaid : Prop := fnExactSameSceneRow.holds Try.pinned (OpenSpec.ofChange fnExactSameSceneSpec)

/-- ITS FALSE NEIGHBOUR: 'it returns false'. Refute it at one input. -/
def fnExactSameSceneWrong : ChangeSpec := { name := "fnExactSameScene", fn := fun _ => fun
  | [d1, d2] => { results := [.lit (.bool false)], args := [d1, d2] }
  | _ => none }
def FnExactSameSceneWrongFalsely : Prop := fnExactSameSceneRow.holds Try.pinned (OpenSpec.ofChange fnExactSameSceneWrong)

/-- 'laws.FnExactStepOk': WHATEVER THE INPUT: true; the input reads as it did. -/
def fnExactStepOkSpec : ChangeSpec := { name := "fnExactStepOk", fn := fun _ => fun
  | [d1, d2] => { results := [.lit (.bool true)], args := [d1, d2] }
  | _ => none }
def fnExactStepOkRow : OpenClaim := { program := "ytghbmnhaalpjeaa", sum := "7f81fa8d652f6bd9f4c1cdc164a5022a903dbc5f72ca28295b1eb80469aaf586", func := "loop.example/g00846/laws.FnExactStepOk", spec := "fnExactStepOk", apart := false }
def FnExactStepOkSaid : Prop := fnExactStepOkRow.holds Try.pinned (OpenSpec.ofChange fnExactStepOkSpec)

/-- ITS FALSE NEIGHBOUR: 'it returns false'. Refute it at one input. -/
def fnExactStepOkWrong : ChangeSpec := { name := "fnExactStepOk", fn := fun _ => fun
  | [d1, d2] => { results := [.lit (.bool false)], args := [d1, d2] }
  | _ => none }
def FnExactStepOkWrongFalsely : Prop := fnExactStepOkRow.holds Try.pinned (OpenSpec.ofChange fnExactStepOkWrong)

/-- 'laws.FnExactWaysWith': WHATEVER THE INPUT: true; the input reads as it did. -/
def fnExactWaysWithSpec : ChangeSpec := { name := "fnExactWaysWith", fn := fun _ => fun
  | [d1, d2] => { results := [.lit (.bool true)], args := [d1, d2] }
  | _ => none }
def fnExactWaysWithRow : OpenClaim := { program := "ytghbmnhaalpjeaa", sum := "7f81fa8d652f6bd9f4c1cdc164a5022a903dbc5f72ca28295b1eb80469aaf586", func := "loop.example/g00846/laws.FnExactWaysWith", spec := "fnExactWaysWith", apart := false }
def FnExactWaysWithSaid : Prop := fnExactWaysWithRow.holds Try.pinned (OpenSpec.ofChange fnExactWaysWithSpec)

/-- ITS FALSE NEIGHBOUR: 'it returns false'. Refute it at one input. -/
def fnExactWaysWithWrong : ChangeSpec := { name := "fnExactWaysWith", fn := fun _ => fun
  | [d1, d2] => { results := [.lit (.bool false)], args := [d1, d2] }
  | _ => none }
def FnExactWaysWithWrongFalsely : Prop := fnExactWaysWithRow.holds Try.pinned (OpenSpec.ofChange fnExactWaysWithWrong)

/-- 'laws.FnExactSameTrick': WHATEVER THE INPUT: true; the input reads as it did. -/
def fnExactSameTrickSpec : ChangeSpec := { name := "fnExactSameTrick", fn := fun _ => fun
  | [d1, d2] => { results := [.lit (.bool true)], args := [d1, d2] }
  | _ => none }
def fnExactSameTrickRow : OpenClaim := { program := "ytghbmnhaalpjeaa", sum := "7f81fa8d652f6bd9f4c1cdc164a5022a903dbc5f72ca28295b1eb80469aaf586", func := "loop.example/g00846/laws.FnExactSameTrick", spec := "fnExactSameTrick", apart := false }
def FnExactSameTrickSaid : Prop := fnExactSameTrickRow.holds Try.pinned (OpenSpec.ofChange fnExactSameTrickSpec)

/-- ITS FALSE NEIGHBOUR: 'it returns false'. Refute it at one input. -/
def fnExactSameTrickWrong : ChangeSpec := { name := "fnExactSameTrick", fn := fun _ => fun
  | [d1, d2] => { results := [.lit (.bool false)], args := [d1, d2] }
  | _ => none }
def FnExactSameTrickWrongFalsely : Prop := fnExactSameTrickRow.holds Try.pinned (OpenSpec.ofChange fnExactSameTrickWrong)

/-- 'laws.FnExactNextWays': WHATEVER THE INPUT: true; the input reads as it did. -/
def fnExactNextWaysSpec : ChangeSpec := { name := "fnExactNextWays", fn := fun _ => fun
  | [d1, d2] => { results := [.lit (.bool true)], args := [d1, d2] }
  | _ => none }
def fnExactNextWaysRow : OpenClaim := { program := "ytghbmnhaalpjeaa", sum := "7f81fa8d652f6bd9f4c1cdc164a5022a903dbc5f72ca28295b1eb80469aaf586", func := "loop.example/g00846/laws.FnExactNextWays", spec := "fnExactNextWays", apart := false }
def FnExactNextWaysSaid : Prop := fnExactNextWaysRow.holds Try.pinned (OpenSpec.ofChange fnExactNextWaysSpec)

/-- ITS FALSE NEIGHBOUR: 'it returns false'. Refute it at one input. -/
def fnExactNextWaysWrong : ChangeSpec := { name := "fnExactNextWays", fn := fun _ => fun
  | [d1, d2] => { results := [.lit (.bool false)], args := [d1, d2] }
  | _ => none }
def FnExactNextWaysWrongFalsely : Prop := fnExactNextWaysRow.holds Try.pinned (OpenSpec.ofChange fnExactNextWaysWrong)

/-- 'laws.FnExactBestGuess': WHATEVER THE INPUT: true; the input reads as it did. -/
def fnExactBestGuessSpec : ChangeSpec := { name := "fnExactBestGuess", fn := fun _ => fun
  | [d1, d2] => { results := [.lit (.bool true)], args := [d1, d2] }
  | _ => none }
def fnExactBestGuessRow : OpenClaim := { program := "ytghbmnhaalpjeaa", sum := "7f81fa8d652f6bd9f4c1cdc164a5022a903dbc5f72ca28295b1eb80469aaf586", func := "loop.example/g00846/laws.FnExactBestGuess", spec := "fnExactBestGuess", apart := false }
def FnExactBestGuessSaid : Prop := fnExactBestGuessRow.holds Try.pinned (OpenSpec.ofChange fnExactBestGuessSpec)

/-- ITS FALSE NEIGHBOUR: 'it returns false'. Refute it at one input. -/
def fnExactBestGuessWrong : ChangeSpec := { name := "fnExactBestGuess", fn := fun _ => fun
  | [d1, d2] => { results := [.lit (.bool false)], args := [d1, d2] }
  | _ => none }
def FnExactBestGuessWrongFalsely : Prop := fnExactBestGuessRow.holds Try.pinned (OpenSpec.ofChange fnExactBestGuessWrong)

/-- 'laws.FnExactGuessTotal': WHATEVER THE INPUT: true; the input reads as it did. -/
def fnExactGuessTotalSpec : ChangeSpec := { name := "fnExactGuessTotal", fn := fun _ => fun
  | [d] => { results := [.lit (.bool true)], args := [d] }
  | _ => none }
def fnExactGuessTotalRow : OpenClaim := { program := "ytghbmnhaalpjeaa", sum := "7f81fa8d652f6bd9f4c1cdc164a5022a903dbc5f72ca28295b1eb80469aaf586", func := "loop.example/g00846/laws.FnExactGuessTotal", spec := "fnExactGuessTotal", recurses := true, apart := false }
def FnExactGuessTotalSaid : Prop := fnExactGuessTotalRow.holds Try.pinned (OpenSpec.ofChange fnExactGuessTotalSpec)

/-- ITS FALSE NEIGHBOUR: 'it returns false'. Refute it at one input. -/
def fnExactGuessTotalWrong : ChangeSpec := { name := "fnExactGuessTotal", fn := fun _ => fun
  | [d] => { results := [.lit (.bool false)], args := [d] }
  | _ => none }
def FnExactGuessTotalWrongFalsely : Prop := fnExactGuessTotalRow.holds Try.pinned (OpenSpec.ofChange fnExactGuessTotalWrong)

/-- 'laws.FnExactKnownAt': WHATEVER THE INPUT: true; the input reads as it did. -/
def fnExactKnownAtSpec : ChangeSpec := { name := "fnExactKnownAt", fn := fun _ => fun
  | [d1, d2] => { results := [.lit (.bool true)], args := [d1, d2] }
  | _ => none }
def fnExactKnownAtRow : OpenClaim := { program := "ytghbmnhaalpjeaa", sum := "7f81fa8d652f6bd9f4c1cdc164a5022a903dbc5f72ca28295b1eb80469aaf586", func := "loop.example/g00846/laws.FnExactKnownAt", spec := "fnExactKnownAt", unfollowed := true, recurses := true, apart := false }
def FnExactKnownAtSaid : Prop := fnExactKnownAtRow.holds Try.pinned (OpenSpec.ofChange fnExactKnownAtSpec)

/-- ITS FALSE NEIGHBOUR: 'it returns false'. Refute it at one input. -/
def fnExactKnownAtWrong : ChangeSpec := { name := "fnExactKnownAt", fn := fun _ => fun
  | [d1, d2] => { results := [.lit (.bool false)], args := [d1, d2] }
  | _ => none }
def FnExactKnownAtWrongFalsely : Prop := fnExactKnownAtRow.holds Try.pinned (OpenSpec.ofChange fnExactKnownAtWrong)

/-- 'laws.FnExactBestLook': WHATEVER THE INPUT: true; the input reads as it did. -/
def fnExactBestLookSpec : ChangeSpec := { name := "fnExactBestLook", fn := fun _ => fun
  | [d] => { results := [.lit (.bool true)], args := [d] }
  | _ => none }
def fnExactBestLookRow : OpenClaim := { program := "ytghbmnhaalpjeaa", sum := "7f81fa8d652f6bd9f4c1cdc164a5022a903dbc5f72ca28295b1eb80469aaf586", func := "loop.example/g00846/laws.FnExactBestLook", spec := "fnExactBestLook", unfollowed := true, recurses := true, apart := false }
def FnExactBestLookSaid : Prop := fnExactBestLookRow.holds Try.pinned (OpenSpec.ofChange fnExactBestLookSpec)

/-- ITS FALSE NEIGHBOUR: 'it returns false'. Refute it at one input. -/
def fnExactBestLookWrong : ChangeSpec := { name := "fnExactBestLook", fn := fun _ => fun
  | [d] => { results := [.lit (.bool false)], args := [d] }
  | _ => none }
def FnExactBestLookWrongFalsely : Prop := fnExactBestLookRow.holds Try.pinned (OpenSpec.ofChange fnExactBestLookWrong)

/-- 'laws.FnExactCountKnown': WHATEVER THE INPUT: true; the input reads as it did. -/
def fnExactCountKnownSpec : ChangeSpec := { name := "fnExactCountKnown", fn := fun _ => fun
  | [d] => { results := [.lit (.bool true)], args := [d] }
  | _ => none }
def fnExactCountKnownRow : OpenClaim := { program := "ytghbmnhaalpjeaa", sum := "7f81fa8d652f6bd9f4c1cdc164a5022a903dbc5f72ca28295b1eb80469aaf586", func := "loop.example/g00846/laws.FnExactCountKnown", spec := "fnExactCountKnown", unfollowed := true, recurses := true, apart := false }
def FnExactCountKnownSaid : Prop := fnExactCountKnownRow.holds Try.pinned (OpenSpec.ofChange fnExactCountKnownSpec)

/-- ITS FALSE NEIGHBOUR: 'it returns false'. Refute it at one input. -/
def fnExactCountKnownWrong : ChangeSpec := { name := "fnExactCountKnown", fn := fun _ => fun
  | [d] => { results := [.lit (.bool false)], args := [d] }
  | _ => none }
def FnExactCountKnownWrongFalsely : Prop := fnExactCountKnownRow.holds Try.pinned (OpenSpec.ofChange fnExactCountKnownWrong)

/- THE SECOND FORM. 'bulk': how many values and letters a reading holds, each counted each time it is reached (what is shared counts as often as it is met; a slice's spare places count too). A statement '..UptoSaid' is the law's where the arguments, and the package variables that the reading takes, are together of bulk at most 1048576: NARROWER than '..Said'. Prove '..Said' where nothing that the law and all that it calls make is longer than what came in: it says more and counts as full. Else prove '..UptoSaid'. A law counts once. -/
mutual
def uptoBulk {H : Type} : DataW H → Nat
  | .lit (.string bytes) => bytes.length + 1
  | .lit _ => 1
  | .nil => 1
  | .ptr d => uptoBulk d + 1
  | .slice elems spare => uptoBulkAll elems + uptoBulkAll spare + 1
  | .agg parts => uptoBulkAll parts + 1
  | .iface _ d => uptoBulk d + 1
  | .map entries => uptoBulkEntries entries + 1
  | .held _ => 1
def uptoBulkAll {H : Type} : List (DataW H) → Nat
  | [] => 0
  | d :: r => uptoBulk d + uptoBulkAll r
def uptoBulkEntries {H : Type} : List (Lit × DataW H) → Nat
  | [] => 0
  | x :: r => uptoBulkEntry x + uptoBulkEntries r
def uptoBulkEntry {H : Type} : Lit × DataW H → Nat
  | (.string bytes, d) => bytes.length + uptoBulk d + 1
  | (_, d) => uptoBulk d + 1
 end
def uptoSmall : (H : Type) → List (DataW H) → Bool := fun _ ds => decide (uptoBulkAll ds ≤ 1048576)
def OpenSpec.upto (s : _root_.Go.ChangeSpec) : _root_.Go.OpenSpec := { _root_.Go.OpenSpec.ofChange s with cond := some uptoSmall }

/-- 'laws.FnExactShuffleLine', WHERE WHAT IT READS IS OF BULK AT MOST 1048576: true; the input reads as it did. -/
def fnExactShuffleLineUptoRow : OpenClaim := { program := "ytghbmnhaalpjeaa", sum := "7f81fa8d652f6bd9f4c1cdc164a5022a903dbc5f72ca28295b1eb80469aaf586", func := "loop.example/g00846/laws.FnExactShuffleLine", spec := "fnExactShuffleLine", apart := false, narrowed := true }
def FnExactShuffleLineUptoSaid : Prop := fnExactShuffleLineUptoRow.holds Try.pinned (OpenSpec.upto fnExactShuffleLineSpec)

/-- 'laws.FnExactSameScene', WHERE WHAT IT READS IS OF BULK AT MOST 1048576: true; the input reads as it did. -/
def fnExactSameSceneUptoRow : OpenClaim := { program := "ytghbmnhaalpjeaa", sum := "7f81fa8d652f6bd9f4c1cdc164a5022a903dbc5f72ca28295b1eb80469aaf586", func := "loop.example/g00846/laws.FnExactSameScene", spec := "fnExactSameScene", apart := false, narrowed := true }
def FnExactSameSceneUptoSaid : Prop := fnExactSameSceneUptoRow.holds Try.pinned (OpenSpec.upto fnExactSameSceneSpec)

/-- 'laws.FnExactStepOk', WHERE WHAT IT READS IS OF BULK AT MOST 1048576: true; the input reads as it did. -/
def fnExactStepOkUptoRow : OpenClaim := { program := "ytghbmnhaalpjeaa", sum := "7f81fa8d652f6bd9f4c1cdc164a5022a903dbc5f72ca28295b1eb80469aaf586", func := "loop.example/g00846/laws.FnExactStepOk", spec := "fnExactStepOk", apart := false, narrowed := true }
def FnExactStepOkUptoSaid : Prop := fnExactStepOkUptoRow.holds Try.pinned (OpenSpec.upto fnExactStepOkSpec)

/-- 'laws.FnExactWaysWith', WHERE WHAT IT READS IS OF BULK AT MOST 1048576: true; the input reads as it did. -/
def fnExactWaysWithUptoRow : OpenClaim := { program := "ytghbmnhaalpjeaa", sum := "7f81fa8d652f6bd9f4c1cdc164a5022a903dbc5f72ca28295b1eb80469aaf586", func := "loop.example/g00846/laws.FnExactWaysWith", spec := "fnExactWaysWith", apart := false, narrowed := true }
def FnExactWaysWithUptoSaid : Prop := fnExactWaysWithUptoRow.holds Try.pinned (OpenSpec.upto fnExactWaysWithSpec)

/-- 'laws.FnExactSameTrick', WHERE WHAT IT READS IS OF BULK AT MOST 1048576: true; the input reads as it did. -/
def fnExactSameTrickUptoRow : OpenClaim := { program := "ytghbmnhaalpjeaa", sum := "7f81fa8d652f6bd9f4c1cdc164a5022a903dbc5f72ca28295b1eb80469aaf586", func := "loop.example/g00846/laws.FnExactSameTrick", spec := "fnExactSameTrick", apart := false, narrowed := true }
def FnExactSameTrickUptoSaid : Prop := fnExactSameTrickUptoRow.holds Try.pinned (OpenSpec.upto fnExactSameTrickSpec)

/-- 'laws.FnExactNextWays', WHERE WHAT IT READS IS OF BULK AT MOST 1048576: true; the input reads as it did. -/
def fnExactNextWaysUptoRow : OpenClaim := { program := "ytghbmnhaalpjeaa", sum := "7f81fa8d652f6bd9f4c1cdc164a5022a903dbc5f72ca28295b1eb80469aaf586", func := "loop.example/g00846/laws.FnExactNextWays", spec := "fnExactNextWays", apart := false, narrowed := true }
def FnExactNextWaysUptoSaid : Prop := fnExactNextWaysUptoRow.holds Try.pinned (OpenSpec.upto fnExactNextWaysSpec)

/-- 'laws.FnExactBestGuess', WHERE WHAT IT READS IS OF BULK AT MOST 1048576: true; the input reads as it did. -/
def fnExactBestGuessUptoRow : OpenClaim := { program := "ytghbmnhaalpjeaa", sum := "7f81fa8d652f6bd9f4c1cdc164a5022a903dbc5f72ca28295b1eb80469aaf586", func := "loop.example/g00846/laws.FnExactBestGuess", spec := "fnExactBestGuess", apart := false, narrowed := true }
def FnExactBestGuessUptoSaid : Prop := fnExactBestGuessUptoRow.holds Try.pinned (OpenSpec.upto fnExactBestGuessSpec)

/-- 'laws.FnExactGuessTotal', WHERE WHAT IT READS IS OF BULK AT MOST 1048576: true; the input reads as it did. -/
def fnExactGuessTotalUptoRow : OpenClaim := { program := "ytghbmnhaalpjeaa", sum := "7f81fa8d652f6bd9f4c1cdc164a5022a903dbc5f72ca28295b1eb80469aaf586", func := "loop.example/g00846/laws.FnExactGuessTotal", spec := "fnExactGuessTotal", recurses := true, apart := false, narrowed := true }
def FnExactGuessTotalUptoSaid : Prop := fnExactGuessTotalUptoRow.holds Try.pinned (OpenSpec.upto fnExactGuessTotalSpec)

/-- 'laws.FnExactKnownAt', WHERE WHAT IT READS IS OF BULK AT MOST 1048576: true; the input reads as it did. -/
def fnExactKnownAtUptoRow : OpenClaim := { program := "ytghbmnhaalpjeaa", sum := "7f81fa8d652f6bd9f4c1cdc164a5022a903dbc5f72ca28295b1eb80469aaf586", func := "loop.example/g00846/laws.FnExactKnownAt", spec := "fnExactKnownAt", unfollowed := true, recurses := true, apart := false, narrowed := true }
def FnExactKnownAtUptoSaid : Prop := fnExactKnownAtUptoRow.holds Try.pinned (OpenSpec.upto fnExactKnownAtSpec)

/-- 'laws.FnExactBestLook', WHERE WHAT IT READS IS OF BULK AT MOST 1048576: true; the input reads as it did. -/
def fnExactBestLookUptoRow : OpenClaim := { program := "ytghbmnhaalpjeaa", sum := "7f81fa8d652f6bd9f4c1cdc164a5022a903dbc5f72ca28295b1eb80469aaf586", func := "loop.example/g00846/laws.FnExactBestLook", spec := "fnExactBestLook", unfollowed := true, recurses := true, apart := false, narrowed := true }
def FnExactBestLookUptoSaid : Prop := fnExactBestLookUptoRow.holds Try.pinned (OpenSpec.upto fnExactBestLookSpec)

/-- 'laws.FnExactCountKnown', WHERE WHAT IT READS IS OF BULK AT MOST 1048576: true; the input reads as it did. -/
def fnExactCountKnownUptoRow : OpenClaim := { program := "ytghbmnhaalpjeaa", sum := "7f81fa8d652f6bd9f4c1cdc164a5022a903dbc5f72ca28295b1eb80469aaf586", func := "loop.example/g00846/laws.FnExactCountKnown", spec := "fnExactCountKnown", unfollowed := true, recurses := true, apart := false, narrowed := true }
def FnExactCountKnownUptoSaid : Prop := fnExactCountKnownUptoRow.holds Try.pinned (OpenSpec.upto fnExactCountKnownSpec)

end Rows
end Go.Proofs.Ytghbmnhaalpjeaa
