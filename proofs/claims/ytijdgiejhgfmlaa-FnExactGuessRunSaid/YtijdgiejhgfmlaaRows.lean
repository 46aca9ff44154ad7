/-
  No cell of these rows narrows 'for every input' (looked for: loops, veiled, ifaces, maps, wideKeys, modest, calm, conditions, laid).
  DERIVED. THE GIVEN ROWS OF THIS SEAT. 7 by the template 'for every input the law returns true; each argument reads behind the call as it read before'; 0 by the template 'total and deterministic' (their statements: YtijdgiejhgfmlaaTotals.lean).
  GIVEN WITH THE SEED: the statements are not yours to turn. If you find one false, say at which input.
  Laid BY PROGRAM, IN A SANDBOX (cutbox-rows.mjs): the forced cells as the released guide's own fill.sh prints them over the translation ef1299a1e6ccf93c… (all of the seat's roots in one cut). By AI agents, Wed Nov 11 2026. No macro, syntax, notation, axiom, sorry.
-/
import Derived.Test.YtijdgiejhgfmlaaChecked
import GoSem.Claim
import GoSem.ClaimJoined
import GoSem.ClaimMapViews
import Derived.JoinedTies
import Derived.KernelRfl
namespace Go.Proofs.Ytijdgiejhgfmlaa
/- THE CELL 'sum', in the pinned program and in every row, IS THE sha256 OF THE DUMP (.gsa) THAT YtijdgiejhgfmlaaProg.lean LOADS. Nothing in Lean hashes anything: it is a label: what it is worth is what the hold of that sum in a sandbox is worth. -/
noncomputable def Try.pinned : Pinned := { name := "ytijdgiejhgfmlaa", sum := "ef1299a1e6ccf93c556295976ba5e0a4705bb1e060e01222574882e4fcdae767", checked := Try.checked }
namespace Rows
def none {H : Type} : Left H := { results := [], args := [] }

/-- 'laws.FnExactGuessRun': WHATEVER THE INPUT: true; the input reads as it did. -/
def fnExactGuessRunSpec : ChangeSpec := { name := "fnExactGuessRun", fn := fun _ => fun
  | [d] => { results := [.lit (.bool true)], args := [d] }
  | _ => none }
def fnExactGuessRunRow : OpenClaim := { program := "ytijdgiejhgfmlaa", sum := "ef1299a1e6ccf93c556295976ba5e0a4705bb1e060e01222574882e4fcdae767", func := "loop.example/g00846/laws.FnExactGuessRun", spec := "fnExactGuessRun", apart := false }
def FnExactGuessRunSaid : Prop := fnExactGuessRunRow.holds Try.pinned (OpenSpec.ofChange fnExactGuessRunSpec)

/-- ITS FALSE NEIGHBOUR: 'it returns false'. Refute it at one input. -/
def fnExactGuessRunWrong : ChangeSpec := { name := "fnExactGuessRun", fn := fun _ => fun
  | [d] => { results := [.lit (.bool false)], args := [d] }
  | _ => none }
def FnExactGuessRunWrongFalsely : Prop := fnExactGuessRunRow.holds Try.pinned (OpenSpec.ofChange fnExactGuessRunWrong)

/-- 'laws.FnExactSeeCard': WHATEVER THE INPUT: true; the input reads as it did. -/
def fnExactSeeCardSpec : ChangeSpec := { name := "fnExactSeeCard", fn := fun _ => fun
  | [d1, d2, d3] => { results := [.lit (.bool true)], args := [d1, d2, d3] }
  | _ => none }
def fnExactSeeCardRow : OpenClaim := { program := "ytijdgiejhgfmlaa", sum := "ef1299a1e6ccf93c556295976ba5e0a4705bb1e060e01222574882e4fcdae767", func := "loop.example/g00846/laws.FnExactSeeCard", spec := "fnExactSeeCard", unfollowed := true, recurses := true, apart := false }
def FnExactSeeCardSaid : Prop := fnExactSeeCardRow.holds Try.pinned (OpenSpec.ofChange fnExactSeeCardSpec)

/-- ITS FALSE NEIGHBOUR: 'it returns false'. Refute it at one input. -/
def fnExactSeeCardWrong : ChangeSpec := { name := "fnExactSeeCard", fn := fun _ => fun
  | [d1, d2, d3] => { results := [.lit (.bool false)], args := [d1, d2, d3] }
  | _ => none }
def FnExactSeeCardWrongFalsely : Prop := fnExactSeeCardRow.holds Try.pinned (OpenSpec.ofChange fnExactSeeCardWrong)

/-- 'laws.FnExactNewConsole': WHATEVER THE INPUT: true; the input reads as it did. -/
def fnExactNewConsoleSpec : ChangeSpec := { name := "fnExactNewConsole", fn := fun _ => fun
  | [] => { results := [.lit (.bool true)], args := [] }
  | _ => none }
def fnExactNewConsoleRow : OpenClaim := { program := "ytijdgiejhgfmlaa", sum := "ef1299a1e6ccf93c556295976ba5e0a4705bb1e060e01222574882e4fcdae767", func := "loop.example/g00846/laws.FnExactNewConsole", spec := "fnExactNewConsole", unfollowed := true, recurses := true, apart := false }
def FnExactNewConsoleSaid : Prop := fnExactNewConsoleRow.holds Try.pinned (OpenSpec.ofChange fnExactNewConsoleSpec)

/-- ITS FALSE NEIGHBOUR: 'it returns false'. Refute it at one input. -/
def fnExactNewConsoleWrong : ChangeSpec := { name := "fnExactNewConsole", fn := fun _ => fun
  | [] => { results := [.lit (.bool false)], args := [] }
  | _ => none }
def FnExactNewConsoleWrongFalsely : Prop := fnExactNewConsoleRow.holds Try.pinned (OpenSpec.ofChange fnExactNewConsoleWrong)

/-- 'laws.FnExactTrickOk': WHATEVER THE INPUT: true; the input reads as it did. -/
def fnExactTrickOkSpec : ChangeSpec := { name := "fnExactTrickOk", fn := fun _ => fun
  | [d] => { results := [.lit (.bool true)], args := [d] }
  | _ => none }
def fnExactTrickOkRow : OpenClaim := { program := "ytijdgiejhgfmlaa", sum := "ef1299a1e6ccf93c556295976ba5e0a4705bb1e060e01222574882e4fcdae767", func := "loop.example/g00846/laws.FnExactTrickOk", spec := "fnExactTrickOk", unfollowed := true, recurses := true, apart := false }
def FnExactTrickOkSaid : Prop := fnExactTrickOkRow.holds Try.pinned (OpenSpec.ofChange fnExactTrickOkSpec)

/-- ITS FALSE NEIGHBOUR: 'it returns false'. Refute it at one input. -/
def fnExactTrickOkWrong : ChangeSpec := { name := "fnExactTrickOk", fn := fun _ => fun
  | [d] => { results := [.lit (.bool false)], args := [d] }
  | _ => none }
def FnExactTrickOkWrongFalsely : Prop := fnExactTrickOkRow.holds Try.pinned (OpenSpec.ofChange fnExactTrickOkWrong)

/-- 'laws.FnExactSeeSides': WHATEVER THE INPUT: true; the input reads as it did. -/
def fnExactSeeSidesSpec : ChangeSpec := { name := "fnExactSeeSides", fn := fun _ => fun
  | [d1, d2] => { results := [.lit (.bool true)], args := [d1, d2] }
  | _ => none }
def fnExactSeeSidesRow : OpenClaim := { program := "ytijdgiejhgfmlaa", sum := "ef1299a1e6ccf93c556295976ba5e0a4705bb1e060e01222574882e4fcdae767", func := "loop.example/g00846/laws.FnExactSeeSides", spec := "fnExactSeeSides", unfollowed := true, recurses := true, apart := false }
def FnExactSeeSidesSaid : Prop := fnExactSeeSidesRow.holds Try.pinned (OpenSpec.ofChange fnExactSeeSidesSpec)

/-- ITS FALSE NEIGHBOUR: 'it returns false'. Refute it at one input. -/
def fnExactSeeSidesWrong : ChangeSpec := { name := "fnExactSeeSides", fn := fun _ => fun
  | [d1, d2] => { results := [.lit (.bool false)], args := [d1, d2] }
  | _ => none }
def FnExactSeeSidesWrongFalsely : Prop := fnExactSeeSidesRow.holds Try.pinned (OpenSpec.ofChange fnExactSeeSidesWrong)

/-- 'laws.FnExactCountChoices': WHATEVER THE INPUT: true; the input reads as it did. -/
def fnExactCountChoicesSpec : ChangeSpec := { name := "fnExactCountChoices", fn := fun _ => fun
  | [d] => { results := [.lit (.bool true)], args := [d] }
  | _ => none }
def fnExactCountChoicesRow : OpenClaim := { program := "ytijdgiejhgfmlaa", sum := "ef1299a1e6ccf93c556295976ba5e0a4705bb1e060e01222574882e4fcdae767", func := "loop.example/g00846/laws.FnExactCountChoices", spec := "fnExactCountChoices", unfollowed := true, recurses := true, apart := false }
def FnExactCountChoicesSaid : Prop := fnExactCountChoicesRow.holds Try.pinned (OpenSpec.ofChange fnExactCountChoicesSpec)

/-- ITS FALSE NEIGHBOUR: 'it returns false'. Refute it at one input. -/
def fnExactCountChoicesWrong : ChangeSpec := { name := "fnExactCountChoices", fn := fun _ => fun
  | [d] => { results := [.lit (.bool false)], args := [d] }
  | _ => none }
def FnExactCountChoicesWrongFalsely : Prop := fnExactCountChoicesRow.holds Try.pinned (OpenSpec.ofChange fnExactCountChoicesWrong)

/-- 'laws.FnExactCountMoves': WHATEVER THE INPUT: true; the input reads as it did. -/
def fnExactCountMovesSpec : ChangeSpec := { name := "fnExactCountMoves", fn := fun _ => fun
  | [d] => { results := [.lit (.bool true)], args := [d] }
  | _ => none }
def fnExactCountMovesRow : OpenClaim := { program := "ytijdgiejhgfmlaa", sum := "ef1299a1e6ccf93c556295976ba5e0a4705bb1e060e01222574882e4fcdae767", func := "loop.example/g00846/laws.FnExactCountMoves", spec := "fnExactCountMoves", unfollowed := true, recurses := true, apart := false }
def FnExactCountMovesSaid : Prop := fnExactCountMovesRow.holds Try.pinned (OpenSpec.ofChange fnExactCountMovesSpec)

/-- ITS FALSE NEIGHBOUR: 'it returns false'. Refute it at one input. -/
def fnExactCountMovesWrong : ChangeSpec := { name := "fnExactCountMoves", fn := fun _ => fun
  | [d] => { results := [.lit (.bool false)], args := [d] }
  | _ => none }
def FnExactCountMovesWrongFalsely : Prop := fnExactCountMovesRow.holds Try.pinned (OpenSpec.ofChange fnExactCountMovesWrong)

/- THE SECOND FORM. 'bulk': how many values and letters a reading holds, each counted each time it is reached (what is shared counts as often as it is met; a slice's spare places count too). A statement '..UptoSaid' is the law's where the arguments, and the package variables that the reading takes, are together of bulk at most 1048576: NARROWER than '..Said'. Prove '..Said' where nothing that the law and all that it calls make is longer than what came in: it says more and counts as full. Else prove '..UptoSaid'. A law counts once. -/
mutual
def uptoBulk {H : Type} : DataW H → Nat
  | .lit (.string bytes) => bytes.length + 1
  | .lit _ => 1
  | .nil => 1
  | .ptr d => uptoBulk d + 1
  | .slice elems spare => uptoBulkAll elems + uptoBulkAll spare + 1
  | .agg parts => uptoBulkAll parts + 1
  | .iface _ d => uptoBulk d + 1
  | .map entries => uptoBulkEntries entries + 1
  | .held _ => 1
def uptoBulkAll {H : Type} : List (DataW H) → Nat
  | [] => 0
  | d :: r => uptoBulk d + uptoBulkAll r
def uptoBulkEntries {H : Type} : List (Lit × DataW H) → Nat
  | [] => 0
  | x :: r => uptoBulkEntry x + uptoBulkEntries r
def uptoBulkEntry {H : Type} : Lit × DataW H → Nat
  | (.string bytes, d) => bytes.length + uptoBulk d + 1
  | (_, d) => uptoBulk d + 1
 end
def uptoSmall : (H : Type) → List (DataW H) → Bool := fun _ ds => decide (uptoBulkAll ds ≤ 1048576)
def OpenSpec.upto (s : _root_.Go.ChangeSpec) : _root_.Go.OpenSpec := { _root_.Go.OpenSpec.ofChange s with cond := some uptoSmall }

/-- 'laws.FnExactGuessRun', WHERE WHAT IT READS IS OF BULK AT MOST 1048576: true; the input reads as it did. -/
def fnExactGuessRunUptoRow : OpenClaim := { program := "ytijdgiejhgfmlaa", sum := "ef1299a1e6ccf93c556295976ba5e0a4705bb1e060e01222574882e4fcdae767", func := "loop.example/g00846/laws.FnExactGuessRun", spec := "fnExactGuessRun", apart := false, narrowed := true }
def FnExactGuessRunUptoSaid : Prop := fnExactGuessRunUptoRow.holds Try.pinned (OpenSpec.upto fnExactGuessRunSpec)

/-- 'laws.FnExactSeeCard', WHERE WHAT IT READS IS OF BULK AT MOST 1048576: true; the input reads as it did. -/
def fnExactSeeCardUptoRow : OpenClaim := { program := "ytijdgiejhgfmlaa", sum := "ef1299a1e6ccf93c556295976ba5e0a4705bb1e060e01222574882e4fcdae767", func := "loop.example/g00846/laws.FnExactSeeCard", spec := "fnExactSeeCard", unfollowed := true, recurses := true, apart := false, narrowed := true }
def FnExactSeeCardUptoSaid : Prop := fnExactSeeCardUptoRow.holds Try.pinned (OpenSpec.upto fnExactSeeCardSpec)

/-- 'laws.FnExactNewConsole', WHERE WHAT IT READS IS OF BULK AT MOST 1048576: true; the input reads as it did. -/
def fnExactNewConsoleUptoRow : OpenClaim := { program := "ytijdgiejhgfmlaa", sum := "ef1299a1e6ccf93c556295976ba5e0a4705bb1e060e01222574882e4fcdae767", func := "loop.example/g00846/laws.FnExactNewConsole", spec := "fnExactNewConsole", unfollowed := true, recurses := true, apart := false, narrowed := true }
def FnExactNewConsoleUptoSaid : Prop := fnExactNewConsoleUptoRow.holds Try.pinned (OpenSpec.upto fnExactNewConsoleSpec)

/-- 'laws.FnExactTrickOk', WHERE WHAT IT READS IS OF BULK AT MOST 1048576: true; the input reads as it did. -/
def fnExactTrickOkUptoRow : OpenClaim := { program := "ytijdgiejhgfmlaa", sum := "ef1299a1e6ccf93c556295976ba5e0a4705bb1e060e01222574882e4fcdae767", func := "loop.example/g00846/laws.FnExactTrickOk", spec := "fnExactTrickOk", unfollowed := true, recurses := true, apart := false, narrowed := true }
def FnExactTrickOkUptoSaid : Prop := fnExactTrickOkUptoRow.holds Try.pinned (OpenSpec.upto fnExactTrickOkSpec)

/-- 'laws.FnExactSeeSides', WHERE WHAT IT READS IS OF BULK AT MOST 1048576: true; the input reads as it did. -/
def fnExactSeeSidesUptoRow : OpenClaim := { program := "ytijdgiejhgfmlaa", sum := "ef1299a1e6ccf93c556295976ba5e0a4705bb1e060e01222574882e4fcdae767", func := "loop.example/g00846/laws.FnExactSeeSides", spec := "fnExactSeeSides", unfollowed := true, recurses := true, apart := false, narrowed := true }
def FnExactSeeSidesUptoSaid : Prop := fnExactSeeSidesUptoRow.holds Try.pinned (OpenSpec.upto fnExactSeeSidesSpec)

/-- 'laws.FnExactCountChoices', WHERE WHAT IT READS IS OF BULK AT MOST 1048576: true; the input reads as it did. -/
def fnExactCountChoicesUptoRow : OpenClaim := { program := "ytijdgiejhgfmlaa", sum := "ef1299a1e6ccf93c556295976ba5e0a4705bb1e060e01222574882e4fcdae767", func := "loop.example/g00846/laws.FnExactCountChoices", spec := "fnExactCountChoices", unfollowed := true, recurses := true, apart := false, narrowed := true }
def FnExactCountChoicesUptoSaid : Prop := fnExactCountChoicesUptoRow.holds Try.pinned (OpenSpec.upto fnExactCountChoicesSpec)

/-- 'laws.FnExactCountMoves', WHERE WHAT IT READS IS OF BULK AT MOST 1048576: true; the input reads as it did. -/
def fnExactCountMovesUptoRow : OpenClaim := { program := "ytijdgiejhgfmlaa", sum := "ef1299a1e6ccf93c556295976ba5e0a4705bb1e060e01222574882e4fcdae767", func := "loop.example/g00846/laws.FnExactCountMoves", spec := "fnExactCountMoves", unfollowed := true, recurses := true, apart := false, narrowed := true }
def FnExactCountMovesUptoSaid : Prop := fnExactCountMovesUptoRow.holds Try.pinned (OpenSpec.upto fnExactCountMovesSpec)

end Rows
end Go.Proofs.Ytijdgiejhgfmlaa
