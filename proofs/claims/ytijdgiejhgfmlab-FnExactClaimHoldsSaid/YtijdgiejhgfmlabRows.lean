/-
  No cell of these rows narrows 'for every input' (looked for: loops, veiled, ifaces, maps, wideKeys, modest, calm, conditions, laid).
  DERIVED. THE GIVEN ROWS OF THIS SEAT. 4 by the template 'for every input the law returns true; each argument reads behind the call as it read before'; 0 by the template 'total and deterministic' (their statements: YtijdgiejhgfmlabTotals.lean).
  GIVEN WITH THE SEED: the statements are not yours to turn. If you find one false, say at which input.
  Laid BY PROGRAM, IN A SANDBOX (cutbox-rows.mjs): the forced cells as the released guide's own fill.sh prints them over the translation db24b4df252b402e… (all of the seat's roots in one cut). By AI agents, Wed Nov 11 2026. No macro, syntax, notation, axiom, sorry.
-/
import Derived.Test.YtijdgiejhgfmlabChecked
import GoSem.Claim
import GoSem.ClaimJoined
import GoSem.ClaimMapViews
import Derived.JoinedTies
import Derived.KernelRfl
namespace Go.Proofs.Ytijdgiejhgfmlab
/- THE CELL 'sum', in the pinned program and in every row, IS THE sha256 OF THE DUMP (.gsa) THAT YtijdgiejhgfmlabProg.lean LOADS. Nothing in Lean hashes anything: it is a label: what it is worth is what the hold of that sum in a sandbox is worth. -/
noncomputable def Try.pinned : Pinned := { name := "ytijdgiejhgfmlab", sum := "db24b4df252b402ee6c624c517ac34f1888c7beecad3c21f76f2b4b1bee18ee6", checked := Try.checked }
namespace Rows
def none {H : Type} : Left H := { results := [], args := [] }

/-- 'laws.FnExactStartScene': WHATEVER THE INPUT: true; the input reads as it did. -/
def fnExactStartSceneSpec : ChangeSpec := { name := "fnExactStartScene", fn := fun _ => fun
  | [d] => { results := [.lit (.bool true)], args := [d] }
  | _ => none }
def fnExactStartSceneRow : OpenClaim := { program := "ytijdgiejhgfmlab", sum := "db24b4df252b402ee6c624c517ac34f1888c7beecad3c21f76f2b4b1bee18ee6", func := "loop.example/g00846/laws.FnExactStartScene", spec := "fnExactStartScene", unfollowed := true, recurses := true, apart := false }
def FnExactStartSceneSaid : Prop := fnExactStartSceneRow.holds Try.pinned (OpenSpec.ofChange fnExactStartSceneSpec)

/-- ITS FALSE NEIGHBOUR: 'it returns false'. Refute it at one input. -/
def fnExactStartSceneWrong : ChangeSpec := { name := "fnExactStartScene", fn := fun _ => fun
  | [d] => { results := [.lit (.bool false)], args := [d] }
  | _ => none }
def FnExactStartSceneWrongFalsely : Prop := fnExactStartSceneRow.holds Try.pinned (OpenSpec.ofChange fnExactStartSceneWrong)

/-- 'laws.FnExactClaimHolds': WHATEVER THE INPUT: true; the input reads as it did. -/
def fnExactClaimHoldsSpec : ChangeSpec := { name := "fnExactClaimHolds", fn := fun _ => fun
  | [d1, d2] => { results := [.lit (.bool true)], args := [d1, d2] }
  | _ => none }
def fnExactClaimHoldsRow : OpenClaim := { program := "ytijdgiejhgfmlab", sum := "db24b4df252b402ee6c624c517ac34f1888c7beecad3c21f76f2b4b1bee18ee6", func := "loop.example/g00846/laws.FnExactClaimHolds", spec := "fnExactClaimHolds", unfollowed := true, recurses := true, apart := false }
def FnExactClaimHoldsSaid : Prop := fnExactClaimHoldsRow.holds Try.pinned (OpenSpec.ofChange fnExactClaimHoldsSpec)

/-- ITS FALSE NEIGHBOUR: 'it returns false'. Refute it at one input. -/
def fnExactClaimHoldsWrong : ChangeSpec := { name := "fnExactClaimHolds", fn := fun _ => fun
  | [d1, d2] => { results := [.lit (.bool false)], args := [d1, d2] }
  | _ => none }
def FnExactClaimHoldsWrongFalsely : Prop := fnExactClaimHoldsRow.holds Try.pinned (OpenSpec.ofChange fnExactClaimHoldsWrong)

/-- 'laws.FnExactDropStep': WHATEVER THE INPUT: true; the input reads as it did. -/
def fnExactDropStepSpec : ChangeSpec := { name := "fnExactDropStep", fn := fun _ => fun
  | [d1, d2] => { results := [.lit (.bool true)], args := [d1, d2] }
  | _ => none }
def fnExactDropStepRow : OpenClaim := { program := "ytijdgiejhgfmlab", sum := "db24b4df252b402ee6c624c517ac34f1888c7beecad3c21f76f2b4b1bee18ee6", func := "loop.example/g00846/laws.FnExactDropStep", spec := "fnExactDropStep", unfollowed := true, recurses := true, apart := false }
def FnExactDropStepSaid : Prop := fnExactDropStepRow.holds Try.pinned (OpenSpec.ofChange fnExactDropStepSpec)

/-- ITS FALSE NEIGHBOUR: 'it returns false'. Refute it at one input. -/
def fnExactDropStepWrong : ChangeSpec := { name := "fnExactDropStep", fn := fun _ => fun
  | [d1, d2] => { results := [.lit (.bool false)], args := [d1, d2] }
  | _ => none }
def FnExactDropStepWrongFalsely : Prop := fnExactDropStepRow.holds Try.pinned (OpenSpec.ofChange fnExactDropStepWrong)

/-- 'laws.FnExactJoinMoves': WHATEVER THE INPUT: true; the input reads as it did. -/
def fnExactJoinMovesSpec : ChangeSpec := { name := "fnExactJoinMoves", fn := fun _ => fun
  | [d] => { results := [.lit (.bool true)], args := [d] }
  | _ => none }
def fnExactJoinMovesRow : OpenClaim := { program := "ytijdgiejhgfmlab", sum := "db24b4df252b402ee6c624c517ac34f1888c7beecad3c21f76f2b4b1bee18ee6", func := "loop.example/g00846/laws.FnExactJoinMoves", spec := "fnExactJoinMoves", unfollowed := true, recurses := true, apart := false }
def FnExactJoinMovesSaid : Prop := fnExactJoinMovesRow.holds Try.pinned (OpenSpec.ofChange fnExactJoinMovesSpec)

/-- ITS FALSE NEIGHBOUR: 'it returns false'. Refute it at one input. -/
def fnExactJoinMovesWrong : ChangeSpec := { name := "fnExactJoinMoves", fn := fun _ => fun
  | [d] => { results := [.lit (.bool false)], args := [d] }
  | _ => none }
def FnExactJoinMovesWrongFalsely : Prop := fnExactJoinMovesRow.holds Try.pinned (OpenSpec.ofChange fnExactJoinMovesWrong)

/- THE SECOND FORM. 'bulk': how many values and letters a reading holds, each counted each time it is reached (what is shared counts as often as it is met; a slice's spare places count too). A statement '..UptoSaid' is the law's where the arguments, and the package variables that the reading takes, are together of bulk at most 1048576: NARROWER than '..Said'. Prove '..Said' where nothing that the law and all that it calls make is longer than what came in: it says more and counts as full. Else prove '..UptoSaid'. A law counts once. -/
mutual
def uptoBulk {H : Type} : DataW H → Nat
  | .lit (.string bytes) => bytes.length + 1
  | .lit _ => 1
  | .nil => 1
  | .ptr d => uptoBulk d + 1
  | .slice elems spare => uptoBulkAll elems + uptoBulkAll spare + 1
  | .agg parts => uptoBulkAll parts + 1
  | .iface _ d => uptoBulk d + 1
  | .map entries => uptoBulkEntries entries + 1
  | .held _ => 1
def uptoBulkAll {H : Type} : List (DataW H) → Nat
  | [] => 0
  | d :: r => uptoBulk d + uptoBulkAll r
def uptoBulkEntries {H : Type} : List (Lit × DataW H) → Nat
  | [] => 0
  | x :: r => uptoBulkEntry x + uptoBulkEntries r
def uptoBulkEntry {H : Type} : Lit × DataW H → Nat
  | (.string bytes, d) => bytes.length + uptoBulk d + 1
  | (_, d) => uptoBulk d + 1
 end
def uptoSmall : (H : Type) → List (DataW H) → Bool := fun _ ds => decide (uptoBulkAll ds ≤ 1048576)
def OpenSpec.upto (s : _root_.Go.ChangeSpec) : _root_.Go.OpenSpec := { _root_.Go.OpenSpec.ofChange s with cond := some uptoSmall }

/-- 'laws.FnExactStartScene', WHERE WHAT IT READS IS OF BULK AT MOST 1048576: true; the input reads as it did. -/
def fnExactStartSceneUptoRow : OpenClaim := { program := "ytijdgiejhgfmlab", sum := "db24b4df252b402ee6c624c517ac34f1888c7beecad3c21f76f2b4b1bee18ee6", func := "loop.example/g00846/laws.FnExactStartScene", spec := "fnExactStartScene", unfollowed := true, recurses := true, apart := false, narrowed := true }
def FnExactStartSceneUptoSaid : Prop := fnExactStartSceneUptoRow.holds Try.pinned (OpenSpec.upto fnExactStartSceneSpec)

/-- 'laws.FnExactClaimHolds', WHERE WHAT IT READS IS OF BULK AT MOST 1048576: true; the input reads as it did. -/
def fnExactClaimHoldsUptoRow : OpenClaim := { program := "ytijdgiejhgfmlab", sum := "db24b4df252b402ee6c624c517ac34f1888c7beecad3c21f76f2b4b1bee18ee6", func := "loop.example/g00846/laws.FnExactClaimHolds", spec := "fnExactClaimHolds", unfollowed := true, recurses := true, apart := false, narrowed := true }
def FnExactClaimHoldsUptoSaid : Prop := fnExactClaimHoldsUptoRow.holds Try.pinned (OpenSpec.upto fnExactClaimHoldsSpec)

/-- 'laws.FnExactDropStep', WHERE WHAT IT READS IS OF BULK AT MOST 1048576: true; the input reads as it did. -/
def fnExactDropStepUptoRow : OpenClaim := { program := "ytijdgiejhgfmlab", sum := "db24b4df252b402ee6c624c517ac34f1888c7beecad3c21f76f2b4b1bee18ee6", func := "loop.example/g00846/laws.FnExactDropStep", spec := "fnExactDropStep", unfollowed := true, recurses := true, apart := false, narrowed := true }
def FnExactDropStepUptoSaid : Prop := fnExactDropStepUptoRow.holds Try.pinned (OpenSpec.upto fnExactDropStepSpec)

/-- 'laws.FnExactJoinMoves', WHERE WHAT IT READS IS OF BULK AT MOST 1048576: true; the input reads as it did. -/
def fnExactJoinMovesUptoRow : OpenClaim := { program := "ytijdgiejhgfmlab", sum := "db24b4df252b402ee6c624c517ac34f1888c7beecad3c21f76f2b4b1bee18ee6", func := "loop.example/g00846/laws.FnExactJoinMoves", spec := "fnExactJoinMoves", unfollowed := true, recurses := true, apart := false, narrowed := true }
def FnExactJoinMovesUptoSaid : Prop := fnExactJoinMovesUptoRow.holds Try.pinned (OpenSpec.upto fnExactJoinMovesSpec)

end Rows
end Go.Proofs.Ytijdgiejhgfmlab
