/-
  NARROWER THAN 'FOR EVERY INPUT', by the rows' own cells (each row's printed sentence says how): FnExactCountEnds: laid · FnExactAllScenes: laid · FnExactHoldingEnds: laid · FnExactCheckTrick: laid · FnExactIsNeeded: laid · FnExactIsProved: laid · FnExactShortenTrick: laid · FnExactVerdictLine: laid.
  DERIVED. THE GIVEN ROWS OF THIS SEAT. 8 by the template 'for every input the law returns true; each argument reads behind the call as it read before'; 0 by the template 'total and deterministic' (their statements: YtcchipplglbfmaaGreatDoorTotals.lean).
  GIVEN WITH THE SEED: the statements are not yours to turn. If you find one false, say at which input.
  Laid BY PROGRAM, IN A SANDBOX (cutbox-rows.mjs): the forced cells as the released guide's own fill.sh prints them over the translation d61499a6b960e4a6… (all of the seat's roots in one cut). By AI agents, Wed Nov 11 2026. No macro, syntax, notation, axiom, sorry.
-/
import Derived.Test.YtcchipplglbfmaaGreatDoorChecked
import GoSem.Claim
import GoSem.ClaimJoined
import GoSem.ClaimMapViews
import Derived.JoinedTies
import Derived.KernelRfl
namespace Go.Proofs.YtcchipplglbfmaaGreatDoor
/- THE CELL 'sum', in the pinned program and in every row, IS THE sha256 OF THE DUMP (.gsa) THAT YtcchipplglbfmaaGreatDoorProg.lean LOADS. Nothing in Lean hashes anything: it is a label: what it is worth is what the hold of that sum in a sandbox is worth. -/
noncomputable def Tryz.pinned : Pinned := { name := "ytcchipplglbfmaagreatdoor", sum := "d61499a6b960e4a6835d239261bbf4458bafbf430a7b4d6e1363d90f29969e8e", checked := Tryz.checked }
namespace Rows
def none {H : Type} : Left H := { results := [], args := [] }

/- WHAT THE LISTED PACKAGE-LEVEL VARIABLES READ AS WHEN THE CALL BEGINS. Each datum BY PROGRAM (the guide's laid-datum.mjs) off the statement by which the dump's own 'gosem.cut.vars' lays the variable. In a bare row this is a premise. The card (YtcchipplglbfmaaGreatDoorCards.lean) ties it to the program's text. -/
def laid_math_bits_deBruijn32tab {H : Type} : DataW H := .agg [.lit (.int .u8 0), .lit (.int .u8 1), .lit (.int .u8 28), .lit (.int .u8 2), .lit (.int .u8 29), .lit (.int .u8 14), .lit (.int .u8 24), .lit (.int .u8 3), .lit (.int .u8 30), .lit (.int .u8 22), .lit (.int .u8 20), .lit (.int .u8 15), .lit (.int .u8 25), .lit (.int .u8 17), .lit (.int .u8 4), .lit (.int .u8 8), .lit (.int .u8 31), .lit (.int .u8 27), .lit (.int .u8 13), .lit (.int .u8 23), .lit (.int .u8 21), .lit (.int .u8 19), .lit (.int .u8 16), .lit (.int .u8 7), .lit (.int .u8 26), .lit (.int .u8 12), .lit (.int .u8 18), .lit (.int .u8 6), .lit (.int .u8 11), .lit (.int .u8 5), .lit (.int .u8 10), .lit (.int .u8 9)]
def laid_math_bits_deBruijn64tab {H : Type} : DataW H := .agg [.lit (.int .u8 0), .lit (.int .u8 1), .lit (.int .u8 56), .lit (.int .u8 2), .lit (.int .u8 57), .lit (.int .u8 49), .lit (.int .u8 28), .lit (.int .u8 3), .lit (.int .u8 61), .lit (.int .u8 58), .lit (.int .u8 42), .lit (.int .u8 50), .lit (.int .u8 38), .lit (.int .u8 29), .lit (.int .u8 17), .lit (.int .u8 4), .lit (.int .u8 62), .lit (.int .u8 47), .lit (.int .u8 59), .lit (.int .u8 36), .lit (.int .u8 45), .lit (.int .u8 43), .lit (.int .u8 51), .lit (.int .u8 22), .lit (.int .u8 53), .lit (.int .u8 39), .lit (.int .u8 33), .lit (.int .u8 30), .lit (.int .u8 24), .lit (.int .u8 18), .lit (.int .u8 12), .lit (.int .u8 5), .lit (.int .u8 63), .lit (.int .u8 55), .lit (.int .u8 48), .lit (.int .u8 27), .lit (.int .u8 60), .lit (.int .u8 41), .lit (.int .u8 37), .lit (.int .u8 16), .lit (.int .u8 46), .lit (.int .u8 35), .lit (.int .u8 44), .lit (.int .u8 21), .lit (.int .u8 52), .lit (.int .u8 32), .lit (.int .u8 23), .lit (.int .u8 11), .lit (.int .u8 54), .lit (.int .u8 26), .lit (.int .u8 40), .lit (.int .u8 15), .lit (.int .u8 34), .lit (.int .u8 20), .lit (.int .u8 31), .lit (.int .u8 10), .lit (.int .u8 25), .lit (.int .u8 14), .lit (.int .u8 19), .lit (.int .u8 9), .lit (.int .u8 13), .lit (.int .u8 8), .lit (.int .u8 7), .lit (.int .u8 6)]
def laid_internal_strconv_uint64pow10 {H : Type} : DataW H := .agg [.lit (.int .u64 1), .lit (.int .u64 10), .lit (.int .u64 100), .lit (.int .u64 1000), .lit (.int .u64 10000), .lit (.int .u64 100000), .lit (.int .u64 1000000), .lit (.int .u64 10000000), .lit (.int .u64 100000000), .lit (.int .u64 1000000000), .lit (.int .u64 10000000000), .lit (.int .u64 100000000000), .lit (.int .u64 1000000000000), .lit (.int .u64 10000000000000), .lit (.int .u64 100000000000000), .lit (.int .u64 1000000000000000), .lit (.int .u64 10000000000000000), .lit (.int .u64 100000000000000000), .lit (.int .u64 1000000000000000000), .lit (.int .u64 10000000000000000000)]

/-- 'laws.FnExactCountEnds': WHATEVER THE INPUT: true; the input reads as it did. -/
def fnExactCountEndsSpec : ChangeSpec := { name := "fnExactCountEnds", fn := fun _ => fun
  | [d] => { results := [.lit (.bool true)], args := [d] }
  | _ => none }
def fnExactCountEndsRow : OpenClaim := { program := "ytcchipplglbfmaagreatdoor", sum := "d61499a6b960e4a6835d239261bbf4458bafbf430a7b4d6e1363d90f29969e8e", func := "loop.example/g00846/laws.FnExactCountEnds", spec := "fnExactCountEnds", inPlace := ["internal/abi.NoEscape", "internal/bytealg.MakeNoZero"], unfollowed := true, recurses := true, named := ["internal/strconv.uint64pow10", "math/bits.deBruijn32tab", "math/bits.deBruijn64tab"], apart := false, laid := [("math/bits.deBruijn32tab", laid_math_bits_deBruijn32tab), ("math/bits.deBruijn64tab", laid_math_bits_deBruijn64tab), ("internal/strconv.uint64pow10", laid_internal_strconv_uint64pow10)] }
def FnExactCountEndsSaid : Prop := fnExactCountEndsRow.holds Tryz.pinned (OpenSpec.ofChange fnExactCountEndsSpec)

/-- ITS FALSE NEIGHBOUR: 'it returns false'. Refute it at one input. -/
def fnExactCountEndsWrong : ChangeSpec := { name := "fnExactCountEnds", fn := fun _ => fun
  | [d] => { results := [.lit (.bool false)], args := [d] }
  | _ => none }
def FnExactCountEndsWrongFalsely : Prop := fnExactCountEndsRow.holds Tryz.pinned (OpenSpec.ofChange fnExactCountEndsWrong)

/-- 'laws.FnExactAllScenes': WHATEVER THE INPUT: true; the input reads as it did. -/
def fnExactAllScenesSpec : ChangeSpec := { name := "fnExactAllScenes", fn := fun _ => fun
  | [d] => { results := [.lit (.bool true)], args := [d] }
  | _ => none }
def fnExactAllScenesRow : OpenClaim := { program := "ytcchipplglbfmaagreatdoor", sum := "d61499a6b960e4a6835d239261bbf4458bafbf430a7b4d6e1363d90f29969e8e", func := "loop.example/g00846/laws.FnExactAllScenes", spec := "fnExactAllScenes", inPlace := ["internal/abi.NoEscape", "internal/bytealg.MakeNoZero"], unfollowed := true, recurses := true, named := ["internal/strconv.uint64pow10", "math/bits.deBruijn32tab", "math/bits.deBruijn64tab"], apart := false, laid := [("math/bits.deBruijn32tab", laid_math_bits_deBruijn32tab), ("math/bits.deBruijn64tab", laid_math_bits_deBruijn64tab), ("internal/strconv.uint64pow10", laid_internal_strconv_uint64pow10)] }
def FnExactAllScenesSaid : Prop := fnExactAllScenesRow.holds Tryz.pinned (OpenSpec.ofChange fnExactAllScenesSpec)

/-- ITS FALSE NEIGHBOUR: 'it returns false'. Refute it at one input. -/
def fnExactAllScenesWrong : ChangeSpec := { name := "fnExactAllScenes", fn := fun _ => fun
  | [d] => { results := [.lit (.bool false)], args := [d] }
  | _ => none }
def FnExactAllScenesWrongFalsely : Prop := fnExactAllScenesRow.holds Tryz.pinned (OpenSpec.ofChange fnExactAllScenesWrong)

/-- 'laws.FnExactHoldingEnds': WHATEVER THE INPUT: true; the input reads as it did. -/
def fnExactHoldingEndsSpec : ChangeSpec := { name := "fnExactHoldingEnds", fn := fun _ => fun
  | [d] => { results := [.lit (.bool true)], args := [d] }
  | _ => none }
def fnExactHoldingEndsRow : OpenClaim := { program := "ytcchipplglbfmaagreatdoor", sum := "d61499a6b960e4a6835d239261bbf4458bafbf430a7b4d6e1363d90f29969e8e", func := "loop.example/g00846/laws.FnExactHoldingEnds", spec := "fnExactHoldingEnds", inPlace := ["internal/abi.NoEscape", "internal/bytealg.MakeNoZero"], unfollowed := true, recurses := true, named := ["internal/strconv.uint64pow10", "math/bits.deBruijn32tab", "math/bits.deBruijn64tab"], apart := false, laid := [("math/bits.deBruijn32tab", laid_math_bits_deBruijn32tab), ("math/bits.deBruijn64tab", laid_math_bits_deBruijn64tab), ("internal/strconv.uint64pow10", laid_internal_strconv_uint64pow10)] }
def FnExactHoldingEndsSaid : Prop := fnExactHoldingEndsRow.holds Tryz.pinned (OpenSpec.ofChange fnExactHoldingEndsSpec)

/-- ITS FALSE NEIGHBOUR: 'it returns false'. Refute it at one input. -/
def fnExactHoldingEndsWrong : ChangeSpec := { name := "fnExactHoldingEnds", fn := fun _ => fun
  | [d] => { results := [.lit (.bool false)], args := [d] }
  | _ => none }
def FnExactHoldingEndsWrongFalsely : Prop := fnExactHoldingEndsRow.holds Tryz.pinned (OpenSpec.ofChange fnExactHoldingEndsWrong)

/-- 'laws.FnExactCheckTrick': WHATEVER THE INPUT: true; the input reads as it did. -/
def fnExactCheckTrickSpec : ChangeSpec := { name := "fnExactCheckTrick", fn := fun _ => fun
  | [d] => { results := [.lit (.bool true)], args := [d] }
  | _ => none }
def fnExactCheckTrickRow : OpenClaim := { program := "ytcchipplglbfmaagreatdoor", sum := "d61499a6b960e4a6835d239261bbf4458bafbf430a7b4d6e1363d90f29969e8e", func := "loop.example/g00846/laws.FnExactCheckTrick", spec := "fnExactCheckTrick", inPlace := ["internal/abi.NoEscape", "internal/bytealg.MakeNoZero"], unfollowed := true, recurses := true, named := ["internal/strconv.uint64pow10", "math/bits.deBruijn32tab", "math/bits.deBruijn64tab"], apart := false, laid := [("math/bits.deBruijn32tab", laid_math_bits_deBruijn32tab), ("math/bits.deBruijn64tab", laid_math_bits_deBruijn64tab), ("internal/strconv.uint64pow10", laid_internal_strconv_uint64pow10)] }
def FnExactCheckTrickSaid : Prop := fnExactCheckTrickRow.holds Tryz.pinned (OpenSpec.ofChange fnExactCheckTrickSpec)

/-- ITS FALSE NEIGHBOUR: 'it returns false'. Refute it at one input. -/
def fnExactCheckTrickWrong : ChangeSpec := { name := "fnExactCheckTrick", fn := fun _ => fun
  | [d] => { results := [.lit (.bool false)], args := [d] }
  | _ => none }
def FnExactCheckTrickWrongFalsely : Prop := fnExactCheckTrickRow.holds Tryz.pinned (OpenSpec.ofChange fnExactCheckTrickWrong)

/-- 'laws.FnExactIsNeeded': WHATEVER THE INPUT: true; the input reads as it did. -/
def fnExactIsNeededSpec : ChangeSpec := { name := "fnExactIsNeeded", fn := fun _ => fun
  | [d1, d2] => { results := [.lit (.bool true)], args := [d1, d2] }
  | _ => none }
def fnExactIsNeededRow : OpenClaim := { program := "ytcchipplglbfmaagreatdoor", sum := "d61499a6b960e4a6835d239261bbf4458bafbf430a7b4d6e1363d90f29969e8e", func := "loop.example/g00846/laws.FnExactIsNeeded", spec := "fnExactIsNeeded", inPlace := ["internal/abi.NoEscape", "internal/bytealg.MakeNoZero"], unfollowed := true, recurses := true, named := ["internal/strconv.uint64pow10", "math/bits.deBruijn32tab", "math/bits.deBruijn64tab"], apart := false, laid := [("math/bits.deBruijn32tab", laid_math_bits_deBruijn32tab), ("math/bits.deBruijn64tab", laid_math_bits_deBruijn64tab), ("internal/strconv.uint64pow10", laid_internal_strconv_uint64pow10)] }
def FnExactIsNeededSaid : Prop := fnExactIsNeededRow.holds Tryz.pinned (OpenSpec.ofChange fnExactIsNeededSpec)

/-- ITS FALSE NEIGHBOUR: 'it returns false'. Refute it at one input. -/
def fnExactIsNeededWrong : ChangeSpec := { name := "fnExactIsNeeded", fn := fun _ => fun
  | [d1, d2] => { results := [.lit (.bool false)], args := [d1, d2] }
  | _ => none }
def FnExactIsNeededWrongFalsely : Prop := fnExactIsNeededRow.holds Tryz.pinned (OpenSpec.ofChange fnExactIsNeededWrong)

/-- 'laws.FnExactIsProved': WHATEVER THE INPUT: true; the input reads as it did. -/
def fnExactIsProvedSpec : ChangeSpec := { name := "fnExactIsProved", fn := fun _ => fun
  | [d1, d2] => { results := [.lit (.bool true)], args := [d1, d2] }
  | _ => none }
def fnExactIsProvedRow : OpenClaim := { program := "ytcchipplglbfmaagreatdoor", sum := "d61499a6b960e4a6835d239261bbf4458bafbf430a7b4d6e1363d90f29969e8e", func := "loop.example/g00846/laws.FnExactIsProved", spec := "fnExactIsProved", inPlace := ["internal/abi.NoEscape", "internal/bytealg.MakeNoZero"], unfollowed := true, recurses := true, named := ["internal/strconv.uint64pow10", "math/bits.deBruijn32tab", "math/bits.deBruijn64tab"], apart := false, laid := [("math/bits.deBruijn32tab", laid_math_bits_deBruijn32tab), ("math/bits.deBruijn64tab", laid_math_bits_deBruijn64tab), ("internal/strconv.uint64pow10", laid_internal_strconv_uint64pow10)] }
def FnExactIsProvedSaid : Prop := fnExactIsProvedRow.holds Tryz.pinned (OpenSpec.ofChange fnExactIsProvedSpec)

/-- ITS FALSE NEIGHBOUR: 'it returns false'. Refute it at one input. -/
def fnExactIsProvedWrong : ChangeSpec := { name := "fnExactIsProved", fn := fun _ => fun
  | [d1, d2] => { results := [.lit (.bool false)], args := [d1, d2] }
  | _ => none }
def FnExactIsProvedWrongFalsely : Prop := fnExactIsProvedRow.holds Tryz.pinned (OpenSpec.ofChange fnExactIsProvedWrong)

/-- 'laws.FnExactShortenTrick': WHATEVER THE INPUT: true; the input reads as it did. -/
def fnExactShortenTrickSpec : ChangeSpec := { name := "fnExactShortenTrick", fn := fun _ => fun
  | [d] => { results := [.lit (.bool true)], args := [d] }
  | _ => none }
def fnExactShortenTrickRow : OpenClaim := { program := "ytcchipplglbfmaagreatdoor", sum := "d61499a6b960e4a6835d239261bbf4458bafbf430a7b4d6e1363d90f29969e8e", func := "loop.example/g00846/laws.FnExactShortenTrick", spec := "fnExactShortenTrick", inPlace := ["internal/abi.NoEscape", "internal/bytealg.MakeNoZero"], unfollowed := true, recurses := true, named := ["internal/strconv.uint64pow10", "math/bits.deBruijn32tab", "math/bits.deBruijn64tab"], apart := false, laid := [("math/bits.deBruijn32tab", laid_math_bits_deBruijn32tab), ("math/bits.deBruijn64tab", laid_math_bits_deBruijn64tab), ("internal/strconv.uint64pow10", laid_internal_strconv_uint64pow10)] }
def FnExactShortenTrickSaid : Prop := fnExactShortenTrickRow.holds Tryz.pinned (OpenSpec.ofChange fnExactShortenTrickSpec)

/-- ITS FALSE NEIGHBOUR: 'it returns false'. Refute it at one input. -/
def fnExactShortenTrickWrong : ChangeSpec := { name := "fnExactShortenTrick", fn := fun _ => fun
  | [d] => { results := [.lit (.bool false)], args := [d] }
  | _ => none }
def FnExactShortenTrickWrongFalsely : Prop := fnExactShortenTrickRow.holds Tryz.pinned (OpenSpec.ofChange fnExactShortenTrickWrong)

/-- 'laws.FnExactVerdictLine': WHATEVER THE INPUT: true; the input reads as it did. -/
def fnExactVerdictLineSpec : ChangeSpec := { name := "fnExactVerdictLine", fn := fun _ => fun
  | [d] => { results := [.lit (.bool true)], args := [d] }
  | _ => none }
def fnExactVerdictLineRow : OpenClaim := { program := "ytcchipplglbfmaagreatdoor", sum := "d61499a6b960e4a6835d239261bbf4458bafbf430a7b4d6e1363d90f29969e8e", func := "loop.example/g00846/laws.FnExactVerdictLine", spec := "fnExactVerdictLine", inPlace := ["internal/abi.NoEscape", "internal/bytealg.MakeNoZero"], unfollowed := true, recurses := true, named := ["internal/strconv.uint64pow10", "math/bits.deBruijn32tab", "math/bits.deBruijn64tab"], apart := false, laid := [("math/bits.deBruijn32tab", laid_math_bits_deBruijn32tab), ("math/bits.deBruijn64tab", laid_math_bits_deBruijn64tab), ("internal/strconv.uint64pow10", laid_internal_strconv_uint64pow10)] }
def FnExactVerdictLineSaid : Prop := fnExactVerdictLineRow.holds Tryz.pinned (OpenSpec.ofChange fnExactVerdictLineSpec)

/-- ITS FALSE NEIGHBOUR: 'it returns false'. Refute it at one input. -/
def fnExactVerdictLineWrong : ChangeSpec := { name := "fnExactVerdictLine", fn := fun _ => fun
  | [d] => { results := [.lit (.bool false)], args := [d] }
  | _ => none }
def FnExactVerdictLineWrongFalsely : Prop := fnExactVerdictLineRow.holds Tryz.pinned (OpenSpec.ofChange fnExactVerdictLineWrong)

/- THE SECOND FORM. 'bulk': how many values and letters a reading holds, each counted each time it is reached (what is shared counts as often as it is met; a slice's spare places count too). A statement '..UptoSaid' is the law's where the arguments, and the package variables that the reading takes, are together of bulk at most 1048576: NARROWER than '..Said'. Prove '..Said' where nothing that the law and all that it calls make is longer than what came in: it says more and counts as full. Else prove '..UptoSaid'. A law counts once. -/
mutual
def uptoBulk {H : Type} : DataW H → Nat
  | .lit (.string bytes) => bytes.length + 1
  | .lit _ => 1
  | .nil => 1
  | .ptr d => uptoBulk d + 1
  | .slice elems spare => uptoBulkAll elems + uptoBulkAll spare + 1
  | .agg parts => uptoBulkAll parts + 1
  | .iface _ d => uptoBulk d + 1
  | .map entries => uptoBulkEntries entries + 1
  | .held _ => 1
def uptoBulkAll {H : Type} : List (DataW H) → Nat
  | [] => 0
  | d :: r => uptoBulk d + uptoBulkAll r
def uptoBulkEntries {H : Type} : List (Lit × DataW H) → Nat
  | [] => 0
  | x :: r => uptoBulkEntry x + uptoBulkEntries r
def uptoBulkEntry {H : Type} : Lit × DataW H → Nat
  | (.string bytes, d) => bytes.length + uptoBulk d + 1
  | (_, d) => uptoBulk d + 1
 end
def uptoSmall : (H : Type) → List (DataW H) → Bool := fun _ ds => decide (uptoBulkAll ds ≤ 1048576)
def OpenSpec.upto (s : _root_.Go.ChangeSpec) : _root_.Go.OpenSpec := { _root_.Go.OpenSpec.ofChange s with cond := some uptoSmall }

/-- 'laws.FnExactCountEnds', WHERE WHAT IT READS IS OF BULK AT MOST 1048576: true; the input reads as it did. -/
def fnExactCountEndsUptoRow : OpenClaim := { program := "ytcchipplglbfmaagreatdoor", sum := "d61499a6b960e4a6835d239261bbf4458bafbf430a7b4d6e1363d90f29969e8e", func := "loop.example/g00846/laws.FnExactCountEnds", spec := "fnExactCountEnds", inPlace := ["internal/abi.NoEscape", "internal/bytealg.MakeNoZero"], unfollowed := true, recurses := true, named := ["internal/strconv.uint64pow10", "math/bits.deBruijn32tab", "math/bits.deBruijn64tab"], apart := false, laid := [("math/bits.deBruijn32tab", laid_math_bits_deBruijn32tab), ("math/bits.deBruijn64tab", laid_math_bits_deBruijn64tab), ("internal/strconv.uint64pow10", laid_internal_strconv_uint64pow10)], narrowed := true }
def FnExactCountEndsUptoSaid : Prop := fnExactCountEndsUptoRow.holds Tryz.pinned (OpenSpec.upto fnExactCountEndsSpec)

/-- 'laws.FnExactAllScenes', WHERE WHAT IT READS IS OF BULK AT MOST 1048576: true; the input reads as it did. -/
def fnExactAllScenesUptoRow : OpenClaim := { program := "ytcchipplglbfmaagreatdoor", sum := "d61499a6b960e4a6835d239261bbf4458bafbf430a7b4d6e1363d90f29969e8e", func := "loop.example/g00846/laws.FnExactAllScenes", spec := "fnExactAllScenes", inPlace := ["internal/abi.NoEscape", "internal/bytealg.MakeNoZero"], unfollowed := true, recurses := true, named := ["internal/strconv.uint64pow10", "math/bits.deBruijn32tab", "math/bits.deBruijn64tab"], apart := false, laid := [("math/bits.deBruijn32tab", laid_math_bits_deBruijn32tab), ("math/bits.deBruijn64tab", laid_math_bits_deBruijn64tab), ("internal/strconv.uint64pow10", laid_internal_strconv_uint64pow10)], narrowed := true }
def FnExactAllScenesUptoSaid : Prop := fnExactAllScenesUptoRow.holds Tryz.pinned (OpenSpec.upto fnExactAllScenesSpec)

/-- 'laws.FnExactHoldingEnds', WHERE WHAT IT READS IS OF BULK AT MOST 1048576: true; the input reads as it did. -/
def fnExactHoldingEndsUptoRow : OpenClaim := { program := "ytcchipplglbfmaagreatdoor", sum := "d61499a6b960e4a6835d239261bbf4458bafbf430a7b4d6e1363d90f29969e8e", func := "loop.example/g00846/laws.FnExactHoldingEnds", spec := "fnExactHoldingEnds", inPlace := ["internal/abi.NoEscape", "internal/bytealg.MakeNoZero"], unfollowed := true, recurses := true, named := ["internal/strconv.uint64pow10", "math/bits.deBruijn32tab", "math/bits.deBruijn64tab"], apart := false, laid := [("math/bits.deBruijn32tab", laid_math_bits_deBruijn32tab), ("math/bits.deBruijn64tab", laid_math_bits_deBruijn64tab), ("internal/strconv.uint64pow10", laid_internal_strconv_uint64pow10)], narrowed := true }
def FnExactHoldingEndsUptoSaid : Prop := fnExactHoldingEndsUptoRow.holds Tryz.pinned (OpenSpec.upto fnExactHoldingEndsSpec)

/-- 'laws.FnExactCheckTrick', WHERE WHAT IT READS IS OF BULK AT MOST 1048576: true; the input reads as it did. -/
def fnExactCheckTrickUptoRow : OpenClaim := { program := "ytcchipplglbfmaagreatdoor", sum := "d61499a6b960e4a6835d239261bbf4458bafbf430a7b4d6e1363d90f29969e8e", func := "loop.example/g00846/laws.FnExactCheckTrick", spec := "fnExactCheckTrick", inPlace := ["internal/abi.NoEscape", "internal/bytealg.MakeNoZero"], unfollowed := true, recurses := true, named := ["internal/strconv.uint64pow10", "math/bits.deBruijn32tab", "math/bits.deBruijn64tab"], apart := false, laid := [("math/bits.deBruijn32tab", laid_math_bits_deBruijn32tab), ("math/bits.deBruijn64tab", laid_math_bits_deBruijn64tab), ("internal/strconv.uint64pow10", laid_internal_strconv_uint64pow10)], narrowed := true }
def FnExactCheckTrickUptoSaid : Prop := fnExactCheckTrickUptoRow.holds Tryz.pinned (OpenSpec.upto fnExactCheckTrickSpec)

/-- 'laws.FnExactIsNeeded', WHERE WHAT IT READS IS OF BULK AT MOST 1048576: true; the input reads as it did. -/
def fnExactIsNeededUptoRow : OpenClaim := { program := "ytcchipplglbfmaagreatdoor", sum := "d61499a6b960e4a6835d239261bbf4458bafbf430a7b4d6e1363d90f29969e8e", func := "loop.example/g00846/laws.FnExactIsNeeded", spec := "fnExactIsNeeded", inPlace := ["internal/abi.NoEscape", "internal/bytealg.MakeNoZero"], unfollowed := true, recurses := true, named := ["internal/strconv.uint64pow10", "math/bits.deBruijn32tab", "math/bits.deBruijn64tab"], apart := false, laid := [("math/bits.deBruijn32tab", laid_math_bits_deBruijn32tab), ("math/bits.deBruijn64tab", laid_math_bits_deBruijn64tab), ("internal/strconv.uint64pow10", laid_internal_strconv_uint64pow10)], narrowed := true }
def FnExactIsNeededUptoSaid : Prop := fnExactIsNeededUptoRow.holds Tryz.pinned (OpenSpec.upto fnExactIsNeededSpec)

/-- 'laws.FnExactIsProved', WHERE WHAT IT READS IS OF BULK AT MOST 1048576: true; the input reads as it did. -/
def fnExactIsProvedUptoRow : OpenClaim := { program := "ytcchipplglbfmaagreatdoor", sum := "d61499a6b960e4a6835d239261bbf4458bafbf430a7b4d6e1363d90f29969e8e", func := "loop.example/g00846/laws.FnExactIsProved", spec := "fnExactIsProved", inPlace := ["internal/abi.NoEscape", "internal/bytealg.MakeNoZero"], unfollowed := true, recurses := true, named := ["internal/strconv.uint64pow10", "math/bits.deBruijn32tab", "math/bits.deBruijn64tab"], apart := false, laid := [("math/bits.deBruijn32tab", laid_math_bits_deBruijn32tab), ("math/bits.deBruijn64tab", laid_math_bits_deBruijn64tab), ("internal/strconv.uint64pow10", laid_internal_strconv_uint64pow10)], narrowed := true }
def FnExactIsProvedUptoSaid : Prop := fnExactIsProvedUptoRow.holds Tryz.pinned (OpenSpec.upto fnExactIsProvedSpec)

/-- 'laws.FnExactShortenTrick', WHERE WHAT IT READS IS OF BULK AT MOST 1048576: true; the input reads as it did. -/
def fnExactShortenTrickUptoRow : OpenClaim := { program := "ytcchipplglbfmaagreatdoor", sum := "d61499a6b960e4a6835d239261bbf4458bafbf430a7b4d6e1363d90f29969e8e", func := "loop.example/g00846/laws.FnExactShortenTrick", spec := "fnExactShortenTrick", inPlace := ["internal/abi.NoEscape", "internal/bytealg.MakeNoZero"], unfollowed := true, recurses := true, named := ["internal/strconv.uint64pow10", "math/bits.deBruijn32tab", "math/bits.deBruijn64tab"], apart := false, laid := [("math/bits.deBruijn32tab", laid_math_bits_deBruijn32tab), ("math/bits.deBruijn64tab", laid_math_bits_deBruijn64tab), ("internal/strconv.uint64pow10", laid_internal_strconv_uint64pow10)], narrowed := true }
def FnExactShortenTrickUptoSaid : Prop := fnExactShortenTrickUptoRow.holds Tryz.pinned (OpenSpec.upto fnExactShortenTrickSpec)

/-- 'laws.FnExactVerdictLine', WHERE WHAT IT READS IS OF BULK AT MOST 1048576: true; the input reads as it did. -/
def fnExactVerdictLineUptoRow : OpenClaim := { program := "ytcchipplglbfmaagreatdoor", sum := "d61499a6b960e4a6835d239261bbf4458bafbf430a7b4d6e1363d90f29969e8e", func := "loop.example/g00846/laws.FnExactVerdictLine", spec := "fnExactVerdictLine", inPlace := ["internal/abi.NoEscape", "internal/bytealg.MakeNoZero"], unfollowed := true, recurses := true, named := ["internal/strconv.uint64pow10", "math/bits.deBruijn32tab", "math/bits.deBruijn64tab"], apart := false, laid := [("math/bits.deBruijn32tab", laid_math_bits_deBruijn32tab), ("math/bits.deBruijn64tab", laid_math_bits_deBruijn64tab), ("internal/strconv.uint64pow10", laid_internal_strconv_uint64pow10)], narrowed := true }
def FnExactVerdictLineUptoSaid : Prop := fnExactVerdictLineUptoRow.holds Tryz.pinned (OpenSpec.upto fnExactVerdictLineSpec)

end Rows
end Go.Proofs.YtcchipplglbfmaaGreatDoor
