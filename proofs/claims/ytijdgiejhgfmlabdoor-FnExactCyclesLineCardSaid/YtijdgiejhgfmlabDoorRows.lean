/-
  NARROWER THAN 'FOR EVERY INPUT', by the rows' own cells (each row's printed sentence says how): FnExactFormatClaim: laid · FnExactFormatPacket: laid · FnExactCyclesLine: laid · FnExactSceneLine: laid · FnReports: laid · FnExactKnowLine: laid · FnExactFindCode: laid · FnExactParseMove: laid.
  DERIVED. THE GIVEN ROWS OF THIS SEAT. 8 by the template 'for every input the law returns true; each argument reads behind the call as it read before'; 0 by the template 'total and deterministic' (their statements: YtijdgiejhgfmlabDoorTotals.lean).
  GIVEN WITH THE SEED: the statements are not yours to turn. If you find one false, say at which input.
  Laid BY PROGRAM, IN A SANDBOX (cutbox-rows.mjs): the forced cells as the released guide's own fill.sh prints them over the translation 6ae022ef4703fd00… (all of the seat's roots in one cut). By AI agents, Wed Nov 11 2026. No macro, syntax, notation, axiom, sorry.
-/
import Derived.Test.YtijdgiejhgfmlabDoorChecked
import GoSem.Claim
import GoSem.ClaimJoined
import GoSem.ClaimMapViews
import Derived.JoinedTies
import Derived.KernelRfl
namespace Go.Proofs.YtijdgiejhgfmlabDoor
/- THE CELL 'sum', in the pinned program and in every row, IS THE sha256 OF THE DUMP (.gsa) THAT YtijdgiejhgfmlabDoorProg.lean LOADS. Nothing in Lean hashes anything: it is a label: what it is worth is what the hold of that sum in a sandbox is worth. -/
noncomputable def Tryd.pinned : Pinned := { name := "ytijdgiejhgfmlabdoor", sum := "6ae022ef4703fd00a16d6b702ea82eb8ac747a0bced76126a7879b57b077bb71", checked := Tryd.checked }
namespace Rows
def none {H : Type} : Left H := { results := [], args := [] }

/- WHAT THE LISTED PACKAGE-LEVEL VARIABLES READ AS WHEN THE CALL BEGINS. Each datum BY PROGRAM (the guide's laid-datum.mjs) off the statement by which the dump's own 'gosem.cut.vars' lays the variable. In a bare row this is a premise. The card (YtijdgiejhgfmlabDoorCards.lean) ties it to the program's text. -/
def laid_math_bits_deBruijn32tab {H : Type} : DataW H := .agg [.lit (.int .u8 0), .lit (.int .u8 1), .lit (.int .u8 28), .lit (.int .u8 2), .lit (.int .u8 29), .lit (.int .u8 14), .lit (.int .u8 24), .lit (.int .u8 3), .lit (.int .u8 30), .lit (.int .u8 22), .lit (.int .u8 20), .lit (.int .u8 15), .lit (.int .u8 25), .lit (.int .u8 17), .lit (.int .u8 4), .lit (.int .u8 8), .lit (.int .u8 31), .lit (.int .u8 27), .lit (.int .u8 13), .lit (.int .u8 23), .lit (.int .u8 21), .lit (.int .u8 19), .lit (.int .u8 16), .lit (.int .u8 7), .lit (.int .u8 26), .lit (.int .u8 12), .lit (.int .u8 18), .lit (.int .u8 6), .lit (.int .u8 11), .lit (.int .u8 5), .lit (.int .u8 10), .lit (.int .u8 9)]
def laid_math_bits_deBruijn64tab {H : Type} : DataW H := .agg [.lit (.int .u8 0), .lit (.int .u8 1), .lit (.int .u8 56), .lit (.int .u8 2), .lit (.int .u8 57), .lit (.int .u8 49), .lit (.int .u8 28), .lit (.int .u8 3), .lit (.int .u8 61), .lit (.int .u8 58), .lit (.int .u8 42), .lit (.int .u8 50), .lit (.int .u8 38), .lit (.int .u8 29), .lit (.int .u8 17), .lit (.int .u8 4), .lit (.int .u8 62), .lit (.int .u8 47), .lit (.int .u8 59), .lit (.int .u8 36), .lit (.int .u8 45), .lit (.int .u8 43), .lit (.int .u8 51), .lit (.int .u8 22), .lit (.int .u8 53), .lit (.int .u8 39), .lit (.int .u8 33), .lit (.int .u8 30), .lit (.int .u8 24), .lit (.int .u8 18), .lit (.int .u8 12), .lit (.int .u8 5), .lit (.int .u8 63), .lit (.int .u8 55), .lit (.int .u8 48), .lit (.int .u8 27), .lit (.int .u8 60), .lit (.int .u8 41), .lit (.int .u8 37), .lit (.int .u8 16), .lit (.int .u8 46), .lit (.int .u8 35), .lit (.int .u8 44), .lit (.int .u8 21), .lit (.int .u8 52), .lit (.int .u8 32), .lit (.int .u8 23), .lit (.int .u8 11), .lit (.int .u8 54), .lit (.int .u8 26), .lit (.int .u8 40), .lit (.int .u8 15), .lit (.int .u8 34), .lit (.int .u8 20), .lit (.int .u8 31), .lit (.int .u8 10), .lit (.int .u8 25), .lit (.int .u8 14), .lit (.int .u8 19), .lit (.int .u8 9), .lit (.int .u8 13), .lit (.int .u8 8), .lit (.int .u8 7), .lit (.int .u8 6)]
def laid_internal_strconv_uint64pow10 {H : Type} : DataW H := .agg [.lit (.int .u64 1), .lit (.int .u64 10), .lit (.int .u64 100), .lit (.int .u64 1000), .lit (.int .u64 10000), .lit (.int .u64 100000), .lit (.int .u64 1000000), .lit (.int .u64 10000000), .lit (.int .u64 100000000), .lit (.int .u64 1000000000), .lit (.int .u64 10000000000), .lit (.int .u64 100000000000), .lit (.int .u64 1000000000000), .lit (.int .u64 10000000000000), .lit (.int .u64 100000000000000), .lit (.int .u64 1000000000000000), .lit (.int .u64 10000000000000000), .lit (.int .u64 100000000000000000), .lit (.int .u64 1000000000000000000), .lit (.int .u64 10000000000000000000)]
def laid_strconv_ErrRange {H : Type} : DataW H := .iface "*errors.errorString" (.ptr (.agg [.lit (.string [118, 97, 108, 117, 101, 32, 111, 117, 116, 32, 111, 102, 32, 114, 97, 110, 103, 101])]))
def laid_strconv_ErrSyntax {H : Type} : DataW H := .iface "*errors.errorString" (.ptr (.agg [.lit (.string [105, 110, 118, 97, 108, 105, 100, 32, 115, 121, 110, 116, 97, 120])]))

/-- 'laws.FnExactFormatClaim': WHATEVER THE INPUT: true; the input reads as it did. -/
def fnExactFormatClaimSpec : ChangeSpec := { name := "fnExactFormatClaim", fn := fun _ => fun
  | [d] => { results := [.lit (.bool true)], args := [d] }
  | _ => none }
def fnExactFormatClaimRow : OpenClaim := { program := "ytijdgiejhgfmlabdoor", sum := "6ae022ef4703fd00a16d6b702ea82eb8ac747a0bced76126a7879b57b077bb71", func := "loop.example/g00846/laws.FnExactFormatClaim", spec := "fnExactFormatClaim", recurses := true, named := ["internal/strconv.uint64pow10", "math/bits.deBruijn32tab", "math/bits.deBruijn64tab"], apart := false, laid := [("math/bits.deBruijn32tab", laid_math_bits_deBruijn32tab), ("math/bits.deBruijn64tab", laid_math_bits_deBruijn64tab), ("internal/strconv.uint64pow10", laid_internal_strconv_uint64pow10)] }
def FnExactFormatClaimSaid : Prop := fnExactFormatClaimRow.holds Tryd.pinned (OpenSpec.ofChange fnExactFormatClaimSpec)

/-- ITS FALSE NEIGHBOUR: 'it returns false'. Refute it at one input. -/
def fnExactFormatClaimWrong : ChangeSpec := { name := "fnExactFormatClaim", fn := fun _ => fun
  | [d] => { results := [.lit (.bool false)], args := [d] }
  | _ => none }
def FnExactFormatClaimWrongFalsely : Prop := fnExactFormatClaimRow.holds Tryd.pinned (OpenSpec.ofChange fnExactFormatClaimWrong)

/-- 'laws.FnExactFormatPacket': WHATEVER THE INPUT: true; the input reads as it did. -/
def fnExactFormatPacketSpec : ChangeSpec := { name := "fnExactFormatPacket", fn := fun _ => fun
  | [d] => { results := [.lit (.bool true)], args := [d] }
  | _ => none }
def fnExactFormatPacketRow : OpenClaim := { program := "ytijdgiejhgfmlabdoor", sum := "6ae022ef4703fd00a16d6b702ea82eb8ac747a0bced76126a7879b57b077bb71", func := "loop.example/g00846/laws.FnExactFormatPacket", spec := "fnExactFormatPacket", inPlace := ["internal/abi.NoEscape", "internal/bytealg.MakeNoZero"], recurses := true, named := ["internal/strconv.uint64pow10", "math/bits.deBruijn32tab", "math/bits.deBruijn64tab"], apart := false, laid := [("math/bits.deBruijn32tab", laid_math_bits_deBruijn32tab), ("math/bits.deBruijn64tab", laid_math_bits_deBruijn64tab), ("internal/strconv.uint64pow10", laid_internal_strconv_uint64pow10)] }
def FnExactFormatPacketSaid : Prop := fnExactFormatPacketRow.holds Tryd.pinned (OpenSpec.ofChange fnExactFormatPacketSpec)

/-- ITS FALSE NEIGHBOUR: 'it returns false'. Refute it at one input. -/
def fnExactFormatPacketWrong : ChangeSpec := { name := "fnExactFormatPacket", fn := fun _ => fun
  | [d] => { results := [.lit (.bool false)], args := [d] }
  | _ => none }
def FnExactFormatPacketWrongFalsely : Prop := fnExactFormatPacketRow.holds Tryd.pinned (OpenSpec.ofChange fnExactFormatPacketWrong)

/-- 'laws.FnExactCyclesLine': WHATEVER THE INPUT: true; the input reads as it did. -/
def fnExactCyclesLineSpec : ChangeSpec := { name := "fnExactCyclesLine", fn := fun _ => fun
  | [d] => { results := [.lit (.bool true)], args := [d] }
  | _ => none }
def fnExactCyclesLineRow : OpenClaim := { program := "ytijdgiejhgfmlabdoor", sum := "6ae022ef4703fd00a16d6b702ea82eb8ac747a0bced76126a7879b57b077bb71", func := "loop.example/g00846/laws.FnExactCyclesLine", spec := "fnExactCyclesLine", inPlace := ["internal/abi.NoEscape", "internal/bytealg.MakeNoZero"], recurses := true, named := ["internal/strconv.uint64pow10", "math/bits.deBruijn32tab", "math/bits.deBruijn64tab"], apart := false, laid := [("math/bits.deBruijn32tab", laid_math_bits_deBruijn32tab), ("math/bits.deBruijn64tab", laid_math_bits_deBruijn64tab), ("internal/strconv.uint64pow10", laid_internal_strconv_uint64pow10)] }
def FnExactCyclesLineSaid : Prop := fnExactCyclesLineRow.holds Tryd.pinned (OpenSpec.ofChange fnExactCyclesLineSpec)

/-- ITS FALSE NEIGHBOUR: 'it returns false'. Refute it at one input. -/
def fnExactCyclesLineWrong : ChangeSpec := { name := "fnExactCyclesLine", fn := fun _ => fun
  | [d] => { results := [.lit (.bool false)], args := [d] }
  | _ => none }
def FnExactCyclesLineWrongFalsely : Prop := fnExactCyclesLineRow.holds Tryd.pinned (OpenSpec.ofChange fnExactCyclesLineWrong)

/-- 'laws.FnExactSceneLine': WHATEVER THE INPUT: true; the input reads as it did. -/
def fnExactSceneLineSpec : ChangeSpec := { name := "fnExactSceneLine", fn := fun _ => fun
  | [d] => { results := [.lit (.bool true)], args := [d] }
  | _ => none }
def fnExactSceneLineRow : OpenClaim := { program := "ytijdgiejhgfmlabdoor", sum := "6ae022ef4703fd00a16d6b702ea82eb8ac747a0bced76126a7879b57b077bb71", func := "loop.example/g00846/laws.FnExactSceneLine", spec := "fnExactSceneLine", inPlace := ["internal/abi.NoEscape", "internal/bytealg.MakeNoZero"], recurses := true, named := ["internal/strconv.uint64pow10", "math/bits.deBruijn32tab", "math/bits.deBruijn64tab"], apart := false, laid := [("math/bits.deBruijn32tab", laid_math_bits_deBruijn32tab), ("math/bits.deBruijn64tab", laid_math_bits_deBruijn64tab), ("internal/strconv.uint64pow10", laid_internal_strconv_uint64pow10)] }
def FnExactSceneLineSaid : Prop := fnExactSceneLineRow.holds Tryd.pinned (OpenSpec.ofChange fnExactSceneLineSpec)

/-- ITS FALSE NEIGHBOUR: 'it returns false'. Refute it at one input. -/
def fnExactSceneLineWrong : ChangeSpec := { name := "fnExactSceneLine", fn := fun _ => fun
  | [d] => { results := [.lit (.bool false)], args := [d] }
  | _ => none }
def FnExactSceneLineWrongFalsely : Prop := fnExactSceneLineRow.holds Tryd.pinned (OpenSpec.ofChange fnExactSceneLineWrong)

/-- 'laws.FnReports': WHATEVER THE INPUT: true; the input reads as it did. -/
def fnReportsSpec : ChangeSpec := { name := "fnReports", fn := fun _ => fun
  | [d] => { results := [.lit (.bool true)], args := [d] }
  | _ => none }
def fnReportsRow : OpenClaim := { program := "ytijdgiejhgfmlabdoor", sum := "6ae022ef4703fd00a16d6b702ea82eb8ac747a0bced76126a7879b57b077bb71", func := "loop.example/g00846/laws.FnReports", spec := "fnReports", inPlace := ["internal/abi.NoEscape", "internal/bytealg.MakeNoZero"], named := ["internal/strconv.uint64pow10", "math/bits.deBruijn32tab", "math/bits.deBruijn64tab"], apart := false, laid := [("math/bits.deBruijn32tab", laid_math_bits_deBruijn32tab), ("math/bits.deBruijn64tab", laid_math_bits_deBruijn64tab), ("internal/strconv.uint64pow10", laid_internal_strconv_uint64pow10)] }
def FnReportsSaid : Prop := fnReportsRow.holds Tryd.pinned (OpenSpec.ofChange fnReportsSpec)

/-- ITS FALSE NEIGHBOUR: 'it returns false'. Refute it at one input. -/
def fnReportsWrong : ChangeSpec := { name := "fnReports", fn := fun _ => fun
  | [d] => { results := [.lit (.bool false)], args := [d] }
  | _ => none }
def FnReportsWrongFalsely : Prop := fnReportsRow.holds Tryd.pinned (OpenSpec.ofChange fnReportsWrong)

/-- 'laws.FnExactKnowLine': WHATEVER THE INPUT: true; the input reads as it did. -/
def fnExactKnowLineSpec : ChangeSpec := { name := "fnExactKnowLine", fn := fun _ => fun
  | [d] => { results := [.lit (.bool true)], args := [d] }
  | _ => none }
def fnExactKnowLineRow : OpenClaim := { program := "ytijdgiejhgfmlabdoor", sum := "6ae022ef4703fd00a16d6b702ea82eb8ac747a0bced76126a7879b57b077bb71", func := "loop.example/g00846/laws.FnExactKnowLine", spec := "fnExactKnowLine", unfollowed := true, recurses := true, named := ["internal/strconv.uint64pow10", "math/bits.deBruijn32tab", "math/bits.deBruijn64tab"], apart := false, laid := [("math/bits.deBruijn32tab", laid_math_bits_deBruijn32tab), ("math/bits.deBruijn64tab", laid_math_bits_deBruijn64tab), ("internal/strconv.uint64pow10", laid_internal_strconv_uint64pow10)] }
def FnExactKnowLineSaid : Prop := fnExactKnowLineRow.holds Tryd.pinned (OpenSpec.ofChange fnExactKnowLineSpec)

/-- ITS FALSE NEIGHBOUR: 'it returns false'. Refute it at one input. -/
def fnExactKnowLineWrong : ChangeSpec := { name := "fnExactKnowLine", fn := fun _ => fun
  | [d] => { results := [.lit (.bool false)], args := [d] }
  | _ => none }
def FnExactKnowLineWrongFalsely : Prop := fnExactKnowLineRow.holds Tryd.pinned (OpenSpec.ofChange fnExactKnowLineWrong)

/-- 'laws.FnExactFindCode': WHATEVER THE INPUT: true; the input reads as it did. -/
def fnExactFindCodeSpec : ChangeSpec := { name := "fnExactFindCode", fn := fun _ => fun
  | [d1, d2] => { results := [.lit (.bool true)], args := [d1, d2] }
  | _ => none }
def fnExactFindCodeRow : OpenClaim := { program := "ytijdgiejhgfmlabdoor", sum := "6ae022ef4703fd00a16d6b702ea82eb8ac747a0bced76126a7879b57b077bb71", func := "loop.example/g00846/laws.FnExactFindCode", spec := "fnExactFindCode", inPlace := ["internal/abi.NoEscape", "internal/bytealg.MakeNoZero"], recurses := true, named := ["internal/strconv.uint64pow10", "math/bits.deBruijn32tab", "math/bits.deBruijn64tab"], apart := false, laid := [("math/bits.deBruijn32tab", laid_math_bits_deBruijn32tab), ("math/bits.deBruijn64tab", laid_math_bits_deBruijn64tab), ("internal/strconv.uint64pow10", laid_internal_strconv_uint64pow10)] }
def FnExactFindCodeSaid : Prop := fnExactFindCodeRow.holds Tryd.pinned (OpenSpec.ofChange fnExactFindCodeSpec)

/-- ITS FALSE NEIGHBOUR: 'it returns false'. Refute it at one input. -/
def fnExactFindCodeWrong : ChangeSpec := { name := "fnExactFindCode", fn := fun _ => fun
  | [d1, d2] => { results := [.lit (.bool false)], args := [d1, d2] }
  | _ => none }
def FnExactFindCodeWrongFalsely : Prop := fnExactFindCodeRow.holds Tryd.pinned (OpenSpec.ofChange fnExactFindCodeWrong)

/-- 'laws.FnExactParseMove': WHATEVER THE INPUT: true; the input reads as it did. -/
def fnExactParseMoveSpec : ChangeSpec := { name := "fnExactParseMove", fn := fun _ => fun
  | [d] => { results := [.lit (.bool true)], args := [d] }
  | _ => none }
def fnExactParseMoveRow : OpenClaim := { program := "ytijdgiejhgfmlabdoor", sum := "6ae022ef4703fd00a16d6b702ea82eb8ac747a0bced76126a7879b57b077bb71", func := "loop.example/g00846/laws.FnExactParseMove", spec := "fnExactParseMove", inPlace := ["internal/bytealg.IndexByteString"], recurses := true, named := ["strconv.ErrSyntax", "strconv.ErrRange", "internal/strconv.uint64pow10", "math/bits.deBruijn32tab", "math/bits.deBruijn64tab"], apart := false, laid := [("math/bits.deBruijn32tab", laid_math_bits_deBruijn32tab), ("math/bits.deBruijn64tab", laid_math_bits_deBruijn64tab), ("internal/strconv.uint64pow10", laid_internal_strconv_uint64pow10), ("strconv.ErrRange", laid_strconv_ErrRange), ("strconv.ErrSyntax", laid_strconv_ErrSyntax)] }
def FnExactParseMoveSaid : Prop := fnExactParseMoveRow.holds Tryd.pinned (OpenSpec.ofChange fnExactParseMoveSpec)

/-- ITS FALSE NEIGHBOUR: 'it returns false'. Refute it at one input. -/
def fnExactParseMoveWrong : ChangeSpec := { name := "fnExactParseMove", fn := fun _ => fun
  | [d] => { results := [.lit (.bool false)], args := [d] }
  | _ => none }
def FnExactParseMoveWrongFalsely : Prop := fnExactParseMoveRow.holds Tryd.pinned (OpenSpec.ofChange fnExactParseMoveWrong)

/- THE SECOND FORM. 'bulk': how many values and letters a reading holds, each counted each time it is reached (what is shared counts as often as it is met; a slice's spare places count too). A statement '..UptoSaid' is the law's where the arguments, and the package variables that the reading takes, are together of bulk at most 1048576: NARROWER than '..Said'. Prove '..Said' where nothing that the law and all that it calls make is longer than what came in: it says more and counts as full. Else prove '..UptoSaid'. A law counts once. -/
mutual
def uptoBulk {H : Type} : DataW H → Nat
  | .lit (.string bytes) => bytes.length + 1
  | .lit _ => 1
  | .nil => 1
  | .ptr d => uptoBulk d + 1
  | .slice elems spare => uptoBulkAll elems + uptoBulkAll spare + 1
  | .agg parts => uptoBulkAll parts + 1
  | .iface _ d => uptoBulk d + 1
  | .map entries => uptoBulkEntries entries + 1
  | .held _ => 1
def uptoBulkAll {H : Type} : List (DataW H) → Nat
  | [] => 0
  | d :: r => uptoBulk d + uptoBulkAll r
def uptoBulkEntries {H : Type} : List (Lit × DataW H) → Nat
  | [] => 0
  | x :: r => uptoBulkEntry x + uptoBulkEntries r
def uptoBulkEntry {H : Type} : Lit × DataW H → Nat
  | (.string bytes, d) => bytes.length + uptoBulk d + 1
  | (_, d) => uptoBulk d + 1
 end
def uptoSmall : (H : Type) → List (DataW H) → Bool := fun _ ds => decide (uptoBulkAll ds ≤ 1048576)
def OpenSpec.upto (s : _root_.Go.ChangeSpec) : _root_.Go.OpenSpec := { _root_.Go.OpenSpec.ofChange s with cond := some uptoSmall }

/-- 'laws.FnExactFormatClaim', WHERE WHAT IT READS IS OF BULK AT MOST 1048576: true; the input reads as it did. -/
def fnExactFormatClaimUptoRow : OpenClaim := { program := "ytijdgiejhgfmlabdoor", sum := "6ae022ef4703fd00a16d6b702ea82eb8ac747a0bced76126a7879b57b077bb71", func := "loop.example/g00846/laws.FnExactFormatClaim", spec := "fnExactFormatClaim", recurses := true, named := ["internal/strconv.uint64pow10", "math/bits.deBruijn32tab", "math/bits.deBruijn64tab"], apart := false, laid := [("math/bits.deBruijn32tab", laid_math_bits_deBruijn32tab), ("math/bits.deBruijn64tab", laid_math_bits_deBruijn64tab), ("internal/strconv.uint64pow10", laid_internal_strconv_uint64pow10)], narrowed := true }
def FnExactFormatClaimUptoSaid : Prop := fnExactFormatClaimUptoRow.holds Tryd.pinned (OpenSpec.upto fnExactFormatClaimSpec)

/-- 'laws.FnExactFormatPacket', WHERE WHAT IT READS IS OF BULK AT MOST 1048576: true; the input reads as it did. -/
def fnExactFormatPacketUptoRow : OpenClaim := { program := "ytijdgiejhgfmlabdoor", sum := "6ae022ef4703fd00a16d6b702ea82eb8ac747a0bced76126a7879b57b077bb71", func := "loop.example/g00846/laws.FnExactFormatPacket", spec := "fnExactFormatPacket", inPlace := ["internal/abi.NoEscape", "internal/bytealg.MakeNoZero"], recurses := true, named := ["internal/strconv.uint64pow10", "math/bits.deBruijn32tab", "math/bits.deBruijn64tab"], apart := false, laid := [("math/bits.deBruijn32tab", laid_math_bits_deBruijn32tab), ("math/bits.deBruijn64tab", laid_math_bits_deBruijn64tab), ("internal/strconv.uint64pow10", laid_internal_strconv_uint64pow10)], narrowed := true }
def FnExactFormatPacketUptoSaid : Prop := fnExactFormatPacketUptoRow.holds Tryd.pinned (OpenSpec.upto fnExactFormatPacketSpec)

/-- 'laws.FnExactCyclesLine', WHERE WHAT IT READS IS OF BULK AT MOST 1048576: true; the input reads as it did. -/
def fnExactCyclesLineUptoRow : OpenClaim := { program := "ytijdgiejhgfmlabdoor", sum := "6ae022ef4703fd00a16d6b702ea82eb8ac747a0bced76126a7879b57b077bb71", func := "loop.example/g00846/laws.FnExactCyclesLine", spec := "fnExactCyclesLine", inPlace := ["internal/abi.NoEscape", "internal/bytealg.MakeNoZero"], recurses := true, named := ["internal/strconv.uint64pow10", "math/bits.deBruijn32tab", "math/bits.deBruijn64tab"], apart := false, laid := [("math/bits.deBruijn32tab", laid_math_bits_deBruijn32tab), ("math/bits.deBruijn64tab", laid_math_bits_deBruijn64tab), ("internal/strconv.uint64pow10", laid_internal_strconv_uint64pow10)], narrowed := true }
def FnExactCyclesLineUptoSaid : Prop := fnExactCyclesLineUptoRow.holds Tryd.pinned (OpenSpec.upto fnExactCyclesLineSpec)

/-- 'laws.FnExactSceneLine', WHERE WHAT IT READS IS OF BULK AT MOST 1048576: true; the input reads as it did. -/
def fnExactSceneLineUptoRow : OpenClaim := { program := "ytijdgiejhgfmlabdoor", sum := "6ae022ef4703fd00a16d6b702ea82eb8ac747a0bced76126a7879b57b077bb71", func := "loop.example/g00846/laws.FnExactSceneLine", spec := "fnExactSceneLine", inPlace := ["internal/abi.NoEscape", "internal/bytealg.MakeNoZero"], recurses := true, named := ["internal/strconv.uint64pow10", "math/bits.deBruijn32tab", "math/bits.deBruijn64tab"], apart := false, laid := [("math/bits.deBruijn32tab", laid_math_bits_deBruijn32tab), ("math/bits.deBruijn64tab", laid_math_bits_deBruijn64tab), ("internal/strconv.uint64pow10", laid_internal_strconv_uint64pow10)], narrowed := true }
def FnExactSceneLineUptoSaid : Prop := fnExactSceneLineUptoRow.holds Tryd.pinned (OpenSpec.upto fnExactSceneLineSpec)

/-- 'laws.FnReports', WHERE WHAT IT READS IS OF BULK AT MOST 1048576: true; the input reads as it did. -/
def fnReportsUptoRow : OpenClaim := { program := "ytijdgiejhgfmlabdoor", sum := "6ae022ef4703fd00a16d6b702ea82eb8ac747a0bced76126a7879b57b077bb71", func := "loop.example/g00846/laws.FnReports", spec := "fnReports", inPlace := ["internal/abi.NoEscape", "internal/bytealg.MakeNoZero"], named := ["internal/strconv.uint64pow10", "math/bits.deBruijn32tab", "math/bits.deBruijn64tab"], apart := false, laid := [("math/bits.deBruijn32tab", laid_math_bits_deBruijn32tab), ("math/bits.deBruijn64tab", laid_math_bits_deBruijn64tab), ("internal/strconv.uint64pow10", laid_internal_strconv_uint64pow10)], narrowed := true }
def FnReportsUptoSaid : Prop := fnReportsUptoRow.holds Tryd.pinned (OpenSpec.upto fnReportsSpec)

/-- 'laws.FnExactKnowLine', WHERE WHAT IT READS IS OF BULK AT MOST 1048576: true; the input reads as it did. -/
def fnExactKnowLineUptoRow : OpenClaim := { program := "ytijdgiejhgfmlabdoor", sum := "6ae022ef4703fd00a16d6b702ea82eb8ac747a0bced76126a7879b57b077bb71", func := "loop.example/g00846/laws.FnExactKnowLine", spec := "fnExactKnowLine", unfollowed := true, recurses := true, named := ["internal/strconv.uint64pow10", "math/bits.deBruijn32tab", "math/bits.deBruijn64tab"], apart := false, laid := [("math/bits.deBruijn32tab", laid_math_bits_deBruijn32tab), ("math/bits.deBruijn64tab", laid_math_bits_deBruijn64tab), ("internal/strconv.uint64pow10", laid_internal_strconv_uint64pow10)], narrowed := true }
def FnExactKnowLineUptoSaid : Prop := fnExactKnowLineUptoRow.holds Tryd.pinned (OpenSpec.upto fnExactKnowLineSpec)

/-- 'laws.FnExactFindCode', WHERE WHAT IT READS IS OF BULK AT MOST 1048576: true; the input reads as it did. -/
def fnExactFindCodeUptoRow : OpenClaim := { program := "ytijdgiejhgfmlabdoor", sum := "6ae022ef4703fd00a16d6b702ea82eb8ac747a0bced76126a7879b57b077bb71", func := "loop.example/g00846/laws.FnExactFindCode", spec := "fnExactFindCode", inPlace := ["internal/abi.NoEscape", "internal/bytealg.MakeNoZero"], recurses := true, named := ["internal/strconv.uint64pow10", "math/bits.deBruijn32tab", "math/bits.deBruijn64tab"], apart := false, laid := [("math/bits.deBruijn32tab", laid_math_bits_deBruijn32tab), ("math/bits.deBruijn64tab", laid_math_bits_deBruijn64tab), ("internal/strconv.uint64pow10", laid_internal_strconv_uint64pow10)], narrowed := true }
def FnExactFindCodeUptoSaid : Prop := fnExactFindCodeUptoRow.holds Tryd.pinned (OpenSpec.upto fnExactFindCodeSpec)

/-- 'laws.FnExactParseMove', WHERE WHAT IT READS IS OF BULK AT MOST 1048576: true; the input reads as it did. -/
def fnExactParseMoveUptoRow : OpenClaim := { program := "ytijdgiejhgfmlabdoor", sum := "6ae022ef4703fd00a16d6b702ea82eb8ac747a0bced76126a7879b57b077bb71", func := "loop.example/g00846/laws.FnExactParseMove", spec := "fnExactParseMove", inPlace := ["internal/bytealg.IndexByteString"], recurses := true, named := ["strconv.ErrSyntax", "strconv.ErrRange", "internal/strconv.uint64pow10", "math/bits.deBruijn32tab", "math/bits.deBruijn64tab"], apart := false, laid := [("math/bits.deBruijn32tab", laid_math_bits_deBruijn32tab), ("math/bits.deBruijn64tab", laid_math_bits_deBruijn64tab), ("internal/strconv.uint64pow10", laid_internal_strconv_uint64pow10), ("strconv.ErrRange", laid_strconv_ErrRange), ("strconv.ErrSyntax", laid_strconv_ErrSyntax)], narrowed := true }
def FnExactParseMoveUptoSaid : Prop := fnExactParseMoveUptoRow.holds Tryd.pinned (OpenSpec.upto fnExactParseMoveSpec)

end Rows
end Go.Proofs.YtijdgiejhgfmlabDoor
