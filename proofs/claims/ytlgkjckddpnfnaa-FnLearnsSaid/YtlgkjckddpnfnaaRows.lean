/-
  No cell of these rows narrows 'for every input' (looked for: loops, veiled, ifaces, maps, wideKeys, modest, calm, conditions, laid).
  DERIVED. THE GIVEN ROWS OF THIS SEAT. 7 by the template 'for every input the law returns true; each argument reads behind the call as it read before'; 0 by the template 'total and deterministic' (their statements: YtlgkjckddpnfnaaTotals.lean).
  GIVEN WITH THE SEED: the statements are not yours to turn. If you find one false, say at which input.
  Laid BY PROGRAM, IN A SANDBOX (cutbox-rows.mjs): the forced cells as the released guide's own fill.sh prints them over the translation 25bbff8097228ee6… (all of the seat's roots in one cut). By AI agents, Wed Nov 11 2026. No macro, syntax, notation, axiom, sorry.
-/
import Derived.Test.YtlgkjckddpnfnaaChecked
import GoSem.Claim
import GoSem.ClaimJoined
import GoSem.ClaimMapViews
import Derived.JoinedTies
import Derived.KernelRfl
namespace Go.Proofs.Ytlgkjckddpnfnaa
/- THE CELL 'sum', in the pinned program and in every row, IS THE sha256 OF THE DUMP (.gsa) THAT YtlgkjckddpnfnaaProg.lean LOADS. Nothing in Lean hashes anything: it is a label: what it is worth is what the hold of that sum in a sandbox is worth. -/
noncomputable def Try.pinned : Pinned := { name := "ytlgkjckddpnfnaa", sum := "25bbff8097228ee6e86bb5052aa8087aff377dda29a952b1e0a04ab211f1ba05", checked := Try.checked }
namespace Rows
def none {H : Type} : Left H := { results := [], args := [] }

/-- 'laws.FnExactDropStep': WHATEVER THE INPUT: true; the input reads as it did. -/
def fnExactDropStepSpec : ChangeSpec := { name := "fnExactDropStep", fn := fun _ => fun
  | [d1, d2] => { results := [.lit (.bool true)], args := [d1, d2] }
  | _ => none }
def fnExactDropStepRow : OpenClaim := { program := "ytlgkjckddpnfnaa", sum := "25bbff8097228ee6e86bb5052aa8087aff377dda29a952b1e0a04ab211f1ba05", func := "loop.example/g00846/laws.FnExactDropStep", spec := "fnExactDropStep", unfollowed := true, recurses := true, apart := false }
def FnExactDropStepSaid : Prop := fnExactDropStepRow.holds Try.pinned (OpenSpec.ofChange fnExactDropStepSpec)

/-- ITS FALSE NEIGHBOUR: 'it returns false'. Refute it at one input. -/
def fnExactDropStepWrong : ChangeSpec := { name := "fnExactDropStep", fn := fun _ => fun
  | [d1, d2] => { results := [.lit (.bool false)], args := [d1, d2] }
  | _ => none }
def FnExactDropStepWrongFalsely : Prop := fnExactDropStepRow.holds Try.pinned (OpenSpec.ofChange fnExactDropStepWrong)

/-- 'laws.FnExactJoinMoves': WHATEVER THE INPUT: true; the input reads as it did. -/
def fnExactJoinMovesSpec : ChangeSpec := { name := "fnExactJoinMoves", fn := fun _ => fun
  | [d] => { results := [.lit (.bool true)], args := [d] }
  | _ => none }
def fnExactJoinMovesRow : OpenClaim := { program := "ytlgkjckddpnfnaa", sum := "25bbff8097228ee6e86bb5052aa8087aff377dda29a952b1e0a04ab211f1ba05", func := "loop.example/g00846/laws.FnExactJoinMoves", spec := "fnExactJoinMoves", unfollowed := true, recurses := true, apart := false }
def FnExactJoinMovesSaid : Prop := fnExactJoinMovesRow.holds Try.pinned (OpenSpec.ofChange fnExactJoinMovesSpec)

/-- ITS FALSE NEIGHBOUR: 'it returns false'. Refute it at one input. -/
def fnExactJoinMovesWrong : ChangeSpec := { name := "fnExactJoinMoves", fn := fun _ => fun
  | [d] => { results := [.lit (.bool false)], args := [d] }
  | _ => none }
def FnExactJoinMovesWrongFalsely : Prop := fnExactJoinMovesRow.holds Try.pinned (OpenSpec.ofChange fnExactJoinMovesWrong)

/-- 'laws.FnExactAfterMove': WHATEVER THE INPUT: true; the input reads as it did. -/
def fnExactAfterMoveSpec : ChangeSpec := { name := "fnExactAfterMove", fn := fun _ => fun
  | [d1, d2] => { results := [.lit (.bool true)], args := [d1, d2] }
  | _ => none }
def fnExactAfterMoveRow : OpenClaim := { program := "ytlgkjckddpnfnaa", sum := "25bbff8097228ee6e86bb5052aa8087aff377dda29a952b1e0a04ab211f1ba05", func := "loop.example/g00846/laws.FnExactAfterMove", spec := "fnExactAfterMove", unfollowed := true, recurses := true, apart := false }
def FnExactAfterMoveSaid : Prop := fnExactAfterMoveRow.holds Try.pinned (OpenSpec.ofChange fnExactAfterMoveSpec)

/-- ITS FALSE NEIGHBOUR: 'it returns false'. Refute it at one input. -/
def fnExactAfterMoveWrong : ChangeSpec := { name := "fnExactAfterMove", fn := fun _ => fun
  | [d1, d2] => { results := [.lit (.bool false)], args := [d1, d2] }
  | _ => none }
def FnExactAfterMoveWrongFalsely : Prop := fnExactAfterMoveRow.holds Try.pinned (OpenSpec.ofChange fnExactAfterMoveWrong)

/-- 'laws.FnExactAfterChoice': WHATEVER THE INPUT: true; the input reads as it did. -/
def fnExactAfterChoiceSpec : ChangeSpec := { name := "fnExactAfterChoice", fn := fun _ => fun
  | [d1, d2] => { results := [.lit (.bool true)], args := [d1, d2] }
  | _ => none }
def fnExactAfterChoiceRow : OpenClaim := { program := "ytlgkjckddpnfnaa", sum := "25bbff8097228ee6e86bb5052aa8087aff377dda29a952b1e0a04ab211f1ba05", func := "loop.example/g00846/laws.FnExactAfterChoice", spec := "fnExactAfterChoice", unfollowed := true, recurses := true, apart := false }
def FnExactAfterChoiceSaid : Prop := fnExactAfterChoiceRow.holds Try.pinned (OpenSpec.ofChange fnExactAfterChoiceSpec)

/-- ITS FALSE NEIGHBOUR: 'it returns false'. Refute it at one input. -/
def fnExactAfterChoiceWrong : ChangeSpec := { name := "fnExactAfterChoice", fn := fun _ => fun
  | [d1, d2] => { results := [.lit (.bool false)], args := [d1, d2] }
  | _ => none }
def FnExactAfterChoiceWrongFalsely : Prop := fnExactAfterChoiceRow.holds Try.pinned (OpenSpec.ofChange fnExactAfterChoiceWrong)

/-- 'laws.FnExactNextScenes': WHATEVER THE INPUT: true; the input reads as it did. -/
def fnExactNextScenesSpec : ChangeSpec := { name := "fnExactNextScenes", fn := fun _ => fun
  | [d1, d2] => { results := [.lit (.bool true)], args := [d1, d2] }
  | _ => none }
def fnExactNextScenesRow : OpenClaim := { program := "ytlgkjckddpnfnaa", sum := "25bbff8097228ee6e86bb5052aa8087aff377dda29a952b1e0a04ab211f1ba05", func := "loop.example/g00846/laws.FnExactNextScenes", spec := "fnExactNextScenes", unfollowed := true, recurses := true, apart := false }
def FnExactNextScenesSaid : Prop := fnExactNextScenesRow.holds Try.pinned (OpenSpec.ofChange fnExactNextScenesSpec)

/-- ITS FALSE NEIGHBOUR: 'it returns false'. Refute it at one input. -/
def fnExactNextScenesWrong : ChangeSpec := { name := "fnExactNextScenes", fn := fun _ => fun
  | [d1, d2] => { results := [.lit (.bool false)], args := [d1, d2] }
  | _ => none }
def FnExactNextScenesWrongFalsely : Prop := fnExactNextScenesRow.holds Try.pinned (OpenSpec.ofChange fnExactNextScenesWrong)

/-- 'laws.FnExactRunTrick': WHATEVER THE INPUT: true; the input reads as it did. -/
def fnExactRunTrickSpec : ChangeSpec := { name := "fnExactRunTrick", fn := fun _ => fun
  | [d1, d2] => { results := [.lit (.bool true)], args := [d1, d2] }
  | _ => none }
def fnExactRunTrickRow : OpenClaim := { program := "ytlgkjckddpnfnaa", sum := "25bbff8097228ee6e86bb5052aa8087aff377dda29a952b1e0a04ab211f1ba05", func := "loop.example/g00846/laws.FnExactRunTrick", spec := "fnExactRunTrick", unfollowed := true, recurses := true, apart := false }
def FnExactRunTrickSaid : Prop := fnExactRunTrickRow.holds Try.pinned (OpenSpec.ofChange fnExactRunTrickSpec)

/-- ITS FALSE NEIGHBOUR: 'it returns false'. Refute it at one input. -/
def fnExactRunTrickWrong : ChangeSpec := { name := "fnExactRunTrick", fn := fun _ => fun
  | [d1, d2] => { results := [.lit (.bool false)], args := [d1, d2] }
  | _ => none }
def FnExactRunTrickWrongFalsely : Prop := fnExactRunTrickRow.holds Try.pinned (OpenSpec.ofChange fnExactRunTrickWrong)

/-- 'laws.FnLearns': WHATEVER THE INPUT: true; the input reads as it did. -/
def fnLearnsSpec : ChangeSpec := { name := "fnLearns", fn := fun _ => fun
  | [d] => { results := [.lit (.bool true)], args := [d] }
  | _ => none }
def fnLearnsRow : OpenClaim := { program := "ytlgkjckddpnfnaa", sum := "25bbff8097228ee6e86bb5052aa8087aff377dda29a952b1e0a04ab211f1ba05", func := "loop.example/g00846/laws.FnLearns", spec := "fnLearns", unfollowed := true, recurses := true, apart := false }
def FnLearnsSaid : Prop := fnLearnsRow.holds Try.pinned (OpenSpec.ofChange fnLearnsSpec)

/-- ITS FALSE NEIGHBOUR: 'it returns false'. Refute it at one input. -/
def fnLearnsWrong : ChangeSpec := { name := "fnLearns", fn := fun _ => fun
  | [d] => { results := [.lit (.bool false)], args := [d] }
  | _ => none }
def FnLearnsWrongFalsely : Prop := fnLearnsRow.holds Try.pinned (OpenSpec.ofChange fnLearnsWrong)

/- THE SECOND FORM. 'bulk': how many values and letters a reading holds, each counted each time it is reached (what is shared counts as often as it is met; a slice's spare places count too). A statement '..UptoSaid' is the law's where the arguments, and the package variables that the reading takes, are together of bulk at most 1048576: NARROWER than '..Said'. Prove '..Said' where nothing that the law and all that it calls make is longer than what came in: it says more and counts as full. Else prove '..UptoSaid'. A law counts once. -/
mutual
def uptoBulk {H : Type} : DataW H → Nat
  | .lit (.string bytes) => bytes.length + 1
  | .lit _ => 1
  | .nil => 1
  | .ptr d => uptoBulk d + 1
  | .slice elems spare => uptoBulkAll elems + uptoBulkAll spare + 1
  | .agg parts => uptoBulkAll parts + 1
  | .iface _ d => uptoBulk d + 1
  | .map entries => uptoBulkEntries entries + 1
  | .held _ => 1
def uptoBulkAll {H : Type} : List (DataW H) → Nat
  | [] => 0
  | d :: r => uptoBulk d + uptoBulkAll r
def uptoBulkEntries {H : Type} : List (Lit × DataW H) → Nat
  | [] => 0
  | x :: r => uptoBulkEntry x + uptoBulkEntries r
def uptoBulkEntry {H : Type} : Lit × DataW H → Nat
  | (.string bytes, d) => bytes.length + uptoBulk d + 1
  | (_, d) => uptoBulk d + 1
 end
def uptoSmall : (H : Type) → List (DataW H) → Bool := fun _ ds => decide (uptoBulkAll ds ≤ 1048576)
def OpenSpec.upto (s : _root_.Go.ChangeSpec) : _root_.Go.OpenSpec := { _root_.Go.OpenSpec.ofChange s with cond := some uptoSmall }

/-- 'laws.FnExactDropStep', WHERE WHAT IT READS IS OF BULK AT MOST 1048576: true; the input reads as it did. -/
def fnExactDropStepUptoRow : OpenClaim := { program := "ytlgkjckddpnfnaa", sum := "25bbff8097228ee6e86bb5052aa8087aff377dda29a952b1e0a04ab211f1ba05", func := "loop.example/g00846/laws.FnExactDropStep", spec := "fnExactDropStep", unfollowed := true, recurses := true, apart := false, narrowed := true }
def FnExactDropStepUptoSaid : Prop := fnExactDropStepUptoRow.holds Try.pinned (OpenSpec.upto fnExactDropStepSpec)

/-- 'laws.FnExactJoinMoves', WHERE WHAT IT READS IS OF BULK AT MOST 1048576: true; the input reads as it did. -/
def fnExactJoinMovesUptoRow : OpenClaim := { program := "ytlgkjckddpnfnaa", sum := "25bbff8097228ee6e86bb5052aa8087aff377dda29a952b1e0a04ab211f1ba05", func := "loop.example/g00846/laws.FnExactJoinMoves", spec := "fnExactJoinMoves", unfollowed := true, recurses := true, apart := false, narrowed := true }
def FnExactJoinMovesUptoSaid : Prop := fnExactJoinMovesUptoRow.holds Try.pinned (OpenSpec.upto fnExactJoinMovesSpec)

/-- 'laws.FnExactAfterMove', WHERE WHAT IT READS IS OF BULK AT MOST 1048576: true; the input reads as it did. -/
def fnExactAfterMoveUptoRow : OpenClaim := { program := "ytlgkjckddpnfnaa", sum := "25bbff8097228ee6e86bb5052aa8087aff377dda29a952b1e0a04ab211f1ba05", func := "loop.example/g00846/laws.FnExactAfterMove", spec := "fnExactAfterMove", unfollowed := true, recurses := true, apart := false, narrowed := true }
def FnExactAfterMoveUptoSaid : Prop := fnExactAfterMoveUptoRow.holds Try.pinned (OpenSpec.upto fnExactAfterMoveSpec)

/-- 'laws.FnExactAfterChoice', WHERE WHAT IT READS IS OF BULK AT MOST 1048576: true; the input reads as it did. -/
def fnExactAfterChoiceUptoRow : OpenClaim := { program := "ytlgkjckddpnfnaa", sum := "25bbff8097228ee6e86bb5052aa8087aff377dda29a952b1e0a04ab211f1ba05", func := "loop.example/g00846/laws.FnExactAfterChoice", spec := "fnExactAfterChoice", unfollowed := true, recurses := true, apart := false, narrowed := true }
def FnExactAfterChoiceUptoSaid : Prop := fnExactAfterChoiceUptoRow.holds Try.pinned (OpenSpec.upto fnExactAfterChoiceSpec)

/-- 'laws.FnExactNextScenes', WHERE WHAT IT READS IS OF BULK AT MOST 1048576: true; the input reads as it did. -/
def fnExactNextScenesUptoRow : OpenClaim := { program := "ytlgkjckddpnfnaa", sum := "25bbff8097228ee6e86bb5052aa8087aff377dda29a952b1e0a04ab211f1ba05", func := "loop.example/g00846/laws.FnExactNextScenes", spec := "fnExactNextScenes", unfollowed := true, recurses := true, apart := false, narrowed := true }
def FnExactNextScenesUptoSaid : Prop := fnExactNextScenesUptoRow.holds Try.pinned (OpenSpec.upto fnExactNextScenesSpec)

/-- 'laws.FnExactRunTrick', WHERE WHAT IT READS IS OF BULK AT MOST 1048576: true; the input reads as it did. -/
def fnExactRunTrickUptoRow : OpenClaim := { program := "ytlgkjckddpnfnaa", sum := "25bbff8097228ee6e86bb5052aa8087aff377dda29a952b1e0a04ab211f1ba05", func := "loop.example/g00846/laws.FnExactRunTrick", spec := "fnExactRunTrick", unfollowed := true, recurses := true, apart := false, narrowed := true }
def FnExactRunTrickUptoSaid : Prop := fnExactRunTrickUptoRow.holds Try.pinned (OpenSpec.upto fnExactRunTrickSpec)

/-- 'laws.FnLearns', WHERE WHAT IT READS IS OF BULK AT MOST 1048576: true; the input reads as it did. -/
def fnLearnsUptoRow : OpenClaim := { program := "ytlgkjckddpnfnaa", sum := "25bbff8097228ee6e86bb5052aa8087aff377dda29a952b1e0a04ab211f1ba05", func := "loop.example/g00846/laws.FnLearns", spec := "fnLearns", unfollowed := true, recurses := true, apart := false, narrowed := true }
def FnLearnsUptoSaid : Prop := fnLearnsUptoRow.holds Try.pinned (OpenSpec.upto fnLearnsSpec)

end Rows
end Go.Proofs.Ytlgkjckddpnfnaa
