/-
  NARROWER THAN 'FOR EVERY INPUT', by the rows' own cells (each row's printed sentence says how): TreecmpTriples: laid · TreecmpSupports: laid · TreecmpConsensus: laid · TreecmpVotes: laid · TreecmpPairs: laid · TreecmpMetric: laid · TreecmpBuilds: laid · TreecmpSets: laid · TreecmpBack: laid · TreecmpMade: laid · TreecmpKnown: laid.
  DERIVED. THE GIVEN ROWS OF THIS SEAT. 11 by the template 'for every input the law returns true; each argument reads behind the call as it read before'; 0 by the template 'total and deterministic' (their statements: YtfgkjofdgohacaaGreatDoorTotals.lean).
  GIVEN WITH THE SEED: the statements are not yours to turn. If you find one false, say at which input.
  Laid BY PROGRAM, IN A SANDBOX (cutbox-rows.mjs): the forced cells as the released guide's own fill.sh prints them over the translation ab919ff2aa9ad28e… (all of the seat's roots in one cut). By AI agents, Wed Nov 11 2026. No macro, syntax, notation, axiom, sorry.
-/
import Derived.Test.YtfgkjofdgohacaaGreatDoorChecked
import GoSem.Claim
import GoSem.ClaimJoined
import GoSem.ClaimMapViews
import Derived.JoinedTies
import Derived.KernelRfl
namespace Go.Proofs.YtfgkjofdgohacaaGreatDoor
/- THE CELL 'sum', in the pinned program and in every row, IS THE sha256 OF THE DUMP (.gsa) THAT YtfgkjofdgohacaaGreatDoorProg.lean LOADS. Nothing in Lean hashes anything: it is a label: what it is worth is what the hold of that sum in a sandbox is worth. -/
noncomputable def Tryz.pinned : Pinned := { name := "ytfgkjofdgohacaagreatdoor", sum := "ab919ff2aa9ad28e34b270eb032ece7694eed599c6f67a2998ca25fe732fb6c7", checked := Tryz.checked }
namespace Rows
def none {H : Type} : Left H := { results := [], args := [] }

/- WHAT THE LISTED PACKAGE-LEVEL VARIABLES READ AS WHEN THE CALL BEGINS. Each datum BY PROGRAM (the guide's laid-datum.mjs) off the statement by which the dump's own 'gosem.cut.vars' lays the variable. In a bare row this is a premise. The card (YtfgkjofdgohacaaGreatDoorCards.lean) ties it to the program's text. -/
def laid_math_bits_deBruijn32tab {H : Type} : DataW H := .agg [.lit (.int .u8 0), .lit (.int .u8 1), .lit (.int .u8 28), .lit (.int .u8 2), .lit (.int .u8 29), .lit (.int .u8 14), .lit (.int .u8 24), .lit (.int .u8 3), .lit (.int .u8 30), .lit (.int .u8 22), .lit (.int .u8 20), .lit (.int .u8 15), .lit (.int .u8 25), .lit (.int .u8 17), .lit (.int .u8 4), .lit (.int .u8 8), .lit (.int .u8 31), .lit (.int .u8 27), .lit (.int .u8 13), .lit (.int .u8 23), .lit (.int .u8 21), .lit (.int .u8 19), .lit (.int .u8 16), .lit (.int .u8 7), .lit (.int .u8 26), .lit (.int .u8 12), .lit (.int .u8 18), .lit (.int .u8 6), .lit (.int .u8 11), .lit (.int .u8 5), .lit (.int .u8 10), .lit (.int .u8 9)]
def laid_math_bits_deBruijn64tab {H : Type} : DataW H := .agg [.lit (.int .u8 0), .lit (.int .u8 1), .lit (.int .u8 56), .lit (.int .u8 2), .lit (.int .u8 57), .lit (.int .u8 49), .lit (.int .u8 28), .lit (.int .u8 3), .lit (.int .u8 61), .lit (.int .u8 58), .lit (.int .u8 42), .lit (.int .u8 50), .lit (.int .u8 38), .lit (.int .u8 29), .lit (.int .u8 17), .lit (.int .u8 4), .lit (.int .u8 62), .lit (.int .u8 47), .lit (.int .u8 59), .lit (.int .u8 36), .lit (.int .u8 45), .lit (.int .u8 43), .lit (.int .u8 51), .lit (.int .u8 22), .lit (.int .u8 53), .lit (.int .u8 39), .lit (.int .u8 33), .lit (.int .u8 30), .lit (.int .u8 24), .lit (.int .u8 18), .lit (.int .u8 12), .lit (.int .u8 5), .lit (.int .u8 63), .lit (.int .u8 55), .lit (.int .u8 48), .lit (.int .u8 27), .lit (.int .u8 60), .lit (.int .u8 41), .lit (.int .u8 37), .lit (.int .u8 16), .lit (.int .u8 46), .lit (.int .u8 35), .lit (.int .u8 44), .lit (.int .u8 21), .lit (.int .u8 52), .lit (.int .u8 32), .lit (.int .u8 23), .lit (.int .u8 11), .lit (.int .u8 54), .lit (.int .u8 26), .lit (.int .u8 40), .lit (.int .u8 15), .lit (.int .u8 34), .lit (.int .u8 20), .lit (.int .u8 31), .lit (.int .u8 10), .lit (.int .u8 25), .lit (.int .u8 14), .lit (.int .u8 19), .lit (.int .u8 9), .lit (.int .u8 13), .lit (.int .u8 8), .lit (.int .u8 7), .lit (.int .u8 6)]
def laid_internal_strconv_uint64pow10 {H : Type} : DataW H := .agg [.lit (.int .u64 1), .lit (.int .u64 10), .lit (.int .u64 100), .lit (.int .u64 1000), .lit (.int .u64 10000), .lit (.int .u64 100000), .lit (.int .u64 1000000), .lit (.int .u64 10000000), .lit (.int .u64 100000000), .lit (.int .u64 1000000000), .lit (.int .u64 10000000000), .lit (.int .u64 100000000000), .lit (.int .u64 1000000000000), .lit (.int .u64 10000000000000), .lit (.int .u64 100000000000000), .lit (.int .u64 1000000000000000), .lit (.int .u64 10000000000000000), .lit (.int .u64 100000000000000000), .lit (.int .u64 1000000000000000000), .lit (.int .u64 10000000000000000000)]

/-- 'ablautlaw34.TreecmpTriples': WHATEVER THE INPUT: true; the input reads as it did. -/
def treecmpTriplesSpec : ChangeSpec := { name := "treecmpTriples", fn := fun _ => fun
  | [d1, d2] => { results := [.lit (.bool true)], args := [d1, d2] }
  | _ => none }
def treecmpTriplesRow : OpenClaim := { program := "ytfgkjofdgohacaagreatdoor", sum := "ab919ff2aa9ad28e34b270eb032ece7694eed599c6f67a2998ca25fe732fb6c7", func := "ablaut/ablautlaw34.TreecmpTriples", spec := "treecmpTriples", unfollowed := true, recurses := true, named := ["math/bits.deBruijn64tab", "internal/strconv.uint64pow10", "math/bits.deBruijn32tab"], apart := false, laid := [("math/bits.deBruijn32tab", laid_math_bits_deBruijn32tab), ("math/bits.deBruijn64tab", laid_math_bits_deBruijn64tab), ("internal/strconv.uint64pow10", laid_internal_strconv_uint64pow10)] }
def TreecmpTriplesSaid : Prop := treecmpTriplesRow.holds Tryz.pinned (OpenSpec.ofChange treecmpTriplesSpec)

/-- ITS FALSE NEIGHBOUR: 'it returns false'. Refute it at one input. -/
def treecmpTriplesWrong : ChangeSpec := { name := "treecmpTriples", fn := fun _ => fun
  | [d1, d2] => { results := [.lit (.bool false)], args := [d1, d2] }
  | _ => none }
def TreecmpTriplesWrongFalsely : Prop := treecmpTriplesRow.holds Tryz.pinned (OpenSpec.ofChange treecmpTriplesWrong)

/-- 'ablautlaw34.TreecmpSupports': WHATEVER THE INPUT: true; the input reads as it did. -/
def treecmpSupportsSpec : ChangeSpec := { name := "treecmpSupports", fn := fun _ => fun
  | [d1, d2] => { results := [.lit (.bool true)], args := [d1, d2] }
  | _ => none }
def treecmpSupportsRow : OpenClaim := { program := "ytfgkjofdgohacaagreatdoor", sum := "ab919ff2aa9ad28e34b270eb032ece7694eed599c6f67a2998ca25fe732fb6c7", func := "ablaut/ablautlaw34.TreecmpSupports", spec := "treecmpSupports", unfollowed := true, recurses := true, named := ["math/bits.deBruijn64tab", "internal/strconv.uint64pow10", "math/bits.deBruijn32tab"], apart := false, laid := [("math/bits.deBruijn32tab", laid_math_bits_deBruijn32tab), ("math/bits.deBruijn64tab", laid_math_bits_deBruijn64tab), ("internal/strconv.uint64pow10", laid_internal_strconv_uint64pow10)] }
def TreecmpSupportsSaid : Prop := treecmpSupportsRow.holds Tryz.pinned (OpenSpec.ofChange treecmpSupportsSpec)

/-- ITS FALSE NEIGHBOUR: 'it returns false'. Refute it at one input. -/
def treecmpSupportsWrong : ChangeSpec := { name := "treecmpSupports", fn := fun _ => fun
  | [d1, d2] => { results := [.lit (.bool false)], args := [d1, d2] }
  | _ => none }
def TreecmpSupportsWrongFalsely : Prop := treecmpSupportsRow.holds Tryz.pinned (OpenSpec.ofChange treecmpSupportsWrong)

/-- 'ablautlaw34.TreecmpConsensus': WHATEVER THE INPUT: true; the input reads as it did. -/
def treecmpConsensusSpec : ChangeSpec := { name := "treecmpConsensus", fn := fun _ => fun
  | [d] => { results := [.lit (.bool true)], args := [d] }
  | _ => none }
def treecmpConsensusRow : OpenClaim := { program := "ytfgkjofdgohacaagreatdoor", sum := "ab919ff2aa9ad28e34b270eb032ece7694eed599c6f67a2998ca25fe732fb6c7", func := "ablaut/ablautlaw34.TreecmpConsensus", spec := "treecmpConsensus", unfollowed := true, recurses := true, named := ["math/bits.deBruijn64tab", "internal/strconv.uint64pow10", "math/bits.deBruijn32tab"], apart := false, laid := [("math/bits.deBruijn32tab", laid_math_bits_deBruijn32tab), ("math/bits.deBruijn64tab", laid_math_bits_deBruijn64tab), ("internal/strconv.uint64pow10", laid_internal_strconv_uint64pow10)] }
def TreecmpConsensusSaid : Prop := treecmpConsensusRow.holds Tryz.pinned (OpenSpec.ofChange treecmpConsensusSpec)

/-- ITS FALSE NEIGHBOUR: 'it returns false'. Refute it at one input. -/
def treecmpConsensusWrong : ChangeSpec := { name := "treecmpConsensus", fn := fun _ => fun
  | [d] => { results := [.lit (.bool false)], args := [d] }
  | _ => none }
def TreecmpConsensusWrongFalsely : Prop := treecmpConsensusRow.holds Tryz.pinned (OpenSpec.ofChange treecmpConsensusWrong)

/-- 'ablautlaw34.TreecmpVotes': WHATEVER THE INPUT: true; the input reads as it did. -/
def treecmpVotesSpec : ChangeSpec := { name := "treecmpVotes", fn := fun _ => fun
  | [d] => { results := [.lit (.bool true)], args := [d] }
  | _ => none }
def treecmpVotesRow : OpenClaim := { program := "ytfgkjofdgohacaagreatdoor", sum := "ab919ff2aa9ad28e34b270eb032ece7694eed599c6f67a2998ca25fe732fb6c7", func := "ablaut/ablautlaw34.TreecmpVotes", spec := "treecmpVotes", unfollowed := true, recurses := true, named := ["math/bits.deBruijn64tab", "internal/strconv.uint64pow10", "math/bits.deBruijn32tab"], apart := false, laid := [("math/bits.deBruijn32tab", laid_math_bits_deBruijn32tab), ("math/bits.deBruijn64tab", laid_math_bits_deBruijn64tab), ("internal/strconv.uint64pow10", laid_internal_strconv_uint64pow10)] }
def TreecmpVotesSaid : Prop := treecmpVotesRow.holds Tryz.pinned (OpenSpec.ofChange treecmpVotesSpec)

/-- ITS FALSE NEIGHBOUR: 'it returns false'. Refute it at one input. -/
def treecmpVotesWrong : ChangeSpec := { name := "treecmpVotes", fn := fun _ => fun
  | [d] => { results := [.lit (.bool false)], args := [d] }
  | _ => none }
def TreecmpVotesWrongFalsely : Prop := treecmpVotesRow.holds Tryz.pinned (OpenSpec.ofChange treecmpVotesWrong)

/-- 'ablautlaw34.TreecmpPairs': WHATEVER THE INPUT: true; the input reads as it did. -/
def treecmpPairsSpec : ChangeSpec := { name := "treecmpPairs", fn := fun _ => fun
  | [d1, d2] => { results := [.lit (.bool true)], args := [d1, d2] }
  | _ => none }
def treecmpPairsRow : OpenClaim := { program := "ytfgkjofdgohacaagreatdoor", sum := "ab919ff2aa9ad28e34b270eb032ece7694eed599c6f67a2998ca25fe732fb6c7", func := "ablaut/ablautlaw34.TreecmpPairs", spec := "treecmpPairs", unfollowed := true, recurses := true, named := ["math/bits.deBruijn64tab", "internal/strconv.uint64pow10", "math/bits.deBruijn32tab"], apart := false, laid := [("math/bits.deBruijn32tab", laid_math_bits_deBruijn32tab), ("math/bits.deBruijn64tab", laid_math_bits_deBruijn64tab), ("internal/strconv.uint64pow10", laid_internal_strconv_uint64pow10)] }
def TreecmpPairsSaid : Prop := treecmpPairsRow.holds Tryz.pinned (OpenSpec.ofChange treecmpPairsSpec)

/-- ITS FALSE NEIGHBOUR: 'it returns false'. Refute it at one input. -/
def treecmpPairsWrong : ChangeSpec := { name := "treecmpPairs", fn := fun _ => fun
  | [d1, d2] => { results := [.lit (.bool false)], args := [d1, d2] }
  | _ => none }
def TreecmpPairsWrongFalsely : Prop := treecmpPairsRow.holds Tryz.pinned (OpenSpec.ofChange treecmpPairsWrong)

/-- 'ablautlaw34.TreecmpMetric': WHATEVER THE INPUT: true; the input reads as it did. -/
def treecmpMetricSpec : ChangeSpec := { name := "treecmpMetric", fn := fun _ => fun
  | [d1, d2, d3] => { results := [.lit (.bool true)], args := [d1, d2, d3] }
  | _ => none }
def treecmpMetricRow : OpenClaim := { program := "ytfgkjofdgohacaagreatdoor", sum := "ab919ff2aa9ad28e34b270eb032ece7694eed599c6f67a2998ca25fe732fb6c7", func := "ablaut/ablautlaw34.TreecmpMetric", spec := "treecmpMetric", unfollowed := true, recurses := true, named := ["math/bits.deBruijn64tab", "internal/strconv.uint64pow10", "math/bits.deBruijn32tab"], apart := false, laid := [("math/bits.deBruijn32tab", laid_math_bits_deBruijn32tab), ("math/bits.deBruijn64tab", laid_math_bits_deBruijn64tab), ("internal/strconv.uint64pow10", laid_internal_strconv_uint64pow10)] }
def TreecmpMetricSaid : Prop := treecmpMetricRow.holds Tryz.pinned (OpenSpec.ofChange treecmpMetricSpec)

/-- ITS FALSE NEIGHBOUR: 'it returns false'. Refute it at one input. -/
def treecmpMetricWrong : ChangeSpec := { name := "treecmpMetric", fn := fun _ => fun
  | [d1, d2, d3] => { results := [.lit (.bool false)], args := [d1, d2, d3] }
  | _ => none }
def TreecmpMetricWrongFalsely : Prop := treecmpMetricRow.holds Tryz.pinned (OpenSpec.ofChange treecmpMetricWrong)

/-- 'ablautlaw34.TreecmpBuilds': WHATEVER THE INPUT: true; the input reads as it did. -/
def treecmpBuildsSpec : ChangeSpec := { name := "treecmpBuilds", fn := fun _ => fun
  | [d1, d2] => { results := [.lit (.bool true)], args := [d1, d2] }
  | _ => none }
def treecmpBuildsRow : OpenClaim := { program := "ytfgkjofdgohacaagreatdoor", sum := "ab919ff2aa9ad28e34b270eb032ece7694eed599c6f67a2998ca25fe732fb6c7", func := "ablaut/ablautlaw34.TreecmpBuilds", spec := "treecmpBuilds", unfollowed := true, recurses := true, named := ["math/bits.deBruijn64tab", "internal/strconv.uint64pow10", "math/bits.deBruijn32tab"], apart := false, laid := [("math/bits.deBruijn32tab", laid_math_bits_deBruijn32tab), ("math/bits.deBruijn64tab", laid_math_bits_deBruijn64tab), ("internal/strconv.uint64pow10", laid_internal_strconv_uint64pow10)] }
def TreecmpBuildsSaid : Prop := treecmpBuildsRow.holds Tryz.pinned (OpenSpec.ofChange treecmpBuildsSpec)

/-- ITS FALSE NEIGHBOUR: 'it returns false'. Refute it at one input. -/
def treecmpBuildsWrong : ChangeSpec := { name := "treecmpBuilds", fn := fun _ => fun
  | [d1, d2] => { results := [.lit (.bool false)], args := [d1, d2] }
  | _ => none }
def TreecmpBuildsWrongFalsely : Prop := treecmpBuildsRow.holds Tryz.pinned (OpenSpec.ofChange treecmpBuildsWrong)

/-- 'ablautlaw34.TreecmpSets': WHATEVER THE INPUT: true; the input reads as it did. -/
def treecmpSetsSpec : ChangeSpec := { name := "treecmpSets", fn := fun _ => fun
  | [d] => { results := [.lit (.bool true)], args := [d] }
  | _ => none }
def treecmpSetsRow : OpenClaim := { program := "ytfgkjofdgohacaagreatdoor", sum := "ab919ff2aa9ad28e34b270eb032ece7694eed599c6f67a2998ca25fe732fb6c7", func := "ablaut/ablautlaw34.TreecmpSets", spec := "treecmpSets", unfollowed := true, recurses := true, named := ["math/bits.deBruijn64tab", "internal/strconv.uint64pow10", "math/bits.deBruijn32tab"], apart := false, laid := [("math/bits.deBruijn32tab", laid_math_bits_deBruijn32tab), ("math/bits.deBruijn64tab", laid_math_bits_deBruijn64tab), ("internal/strconv.uint64pow10", laid_internal_strconv_uint64pow10)] }
def TreecmpSetsSaid : Prop := treecmpSetsRow.holds Tryz.pinned (OpenSpec.ofChange treecmpSetsSpec)

/-- ITS FALSE NEIGHBOUR: 'it returns false'. Refute it at one input. -/
def treecmpSetsWrong : ChangeSpec := { name := "treecmpSets", fn := fun _ => fun
  | [d] => { results := [.lit (.bool false)], args := [d] }
  | _ => none }
def TreecmpSetsWrongFalsely : Prop := treecmpSetsRow.holds Tryz.pinned (OpenSpec.ofChange treecmpSetsWrong)

/-- 'ablautlaw34.TreecmpBack': WHATEVER THE INPUT: true; the input reads as it did. -/
def treecmpBackSpec : ChangeSpec := { name := "treecmpBack", fn := fun _ => fun
  | [d] => { results := [.lit (.bool true)], args := [d] }
  | _ => none }
def treecmpBackRow : OpenClaim := { program := "ytfgkjofdgohacaagreatdoor", sum := "ab919ff2aa9ad28e34b270eb032ece7694eed599c6f67a2998ca25fe732fb6c7", func := "ablaut/ablautlaw34.TreecmpBack", spec := "treecmpBack", unfollowed := true, recurses := true, named := ["math/bits.deBruijn64tab", "internal/strconv.uint64pow10", "math/bits.deBruijn32tab"], apart := false, laid := [("math/bits.deBruijn32tab", laid_math_bits_deBruijn32tab), ("math/bits.deBruijn64tab", laid_math_bits_deBruijn64tab), ("internal/strconv.uint64pow10", laid_internal_strconv_uint64pow10)] }
def TreecmpBackSaid : Prop := treecmpBackRow.holds Tryz.pinned (OpenSpec.ofChange treecmpBackSpec)

/-- ITS FALSE NEIGHBOUR: 'it returns false'. Refute it at one input. -/
def treecmpBackWrong : ChangeSpec := { name := "treecmpBack", fn := fun _ => fun
  | [d] => { results := [.lit (.bool false)], args := [d] }
  | _ => none }
def TreecmpBackWrongFalsely : Prop := treecmpBackRow.holds Tryz.pinned (OpenSpec.ofChange treecmpBackWrong)

/-- 'ablautlaw34.TreecmpMade': WHATEVER THE INPUT: true; the input reads as it did. -/
def treecmpMadeSpec : ChangeSpec := { name := "treecmpMade", fn := fun _ => fun
  | [d1, d2] => { results := [.lit (.bool true)], args := [d1, d2] }
  | _ => none }
def treecmpMadeRow : OpenClaim := { program := "ytfgkjofdgohacaagreatdoor", sum := "ab919ff2aa9ad28e34b270eb032ece7694eed599c6f67a2998ca25fe732fb6c7", func := "ablaut/ablautlaw34.TreecmpMade", spec := "treecmpMade", unfollowed := true, recurses := true, named := ["math/bits.deBruijn64tab", "internal/strconv.uint64pow10", "math/bits.deBruijn32tab"], apart := false, laid := [("math/bits.deBruijn32tab", laid_math_bits_deBruijn32tab), ("math/bits.deBruijn64tab", laid_math_bits_deBruijn64tab), ("internal/strconv.uint64pow10", laid_internal_strconv_uint64pow10)] }
def TreecmpMadeSaid : Prop := treecmpMadeRow.holds Tryz.pinned (OpenSpec.ofChange treecmpMadeSpec)

/-- ITS FALSE NEIGHBOUR: 'it returns false'. Refute it at one input. -/
def treecmpMadeWrong : ChangeSpec := { name := "treecmpMade", fn := fun _ => fun
  | [d1, d2] => { results := [.lit (.bool false)], args := [d1, d2] }
  | _ => none }
def TreecmpMadeWrongFalsely : Prop := treecmpMadeRow.holds Tryz.pinned (OpenSpec.ofChange treecmpMadeWrong)

/-- 'ablautlaw34.TreecmpKnown': WHATEVER THE INPUT: true; the input reads as it did. -/
def treecmpKnownSpec : ChangeSpec := { name := "treecmpKnown", fn := fun _ => fun
  | [] => { results := [.lit (.bool true)], args := [] }
  | _ => none }
def treecmpKnownRow : OpenClaim := { program := "ytfgkjofdgohacaagreatdoor", sum := "ab919ff2aa9ad28e34b270eb032ece7694eed599c6f67a2998ca25fe732fb6c7", func := "ablaut/ablautlaw34.TreecmpKnown", spec := "treecmpKnown", inPlace := ["internal/abi.NoEscape"], unfollowed := true, recurses := true, named := ["math/bits.deBruijn64tab", "internal/strconv.uint64pow10", "math/bits.deBruijn32tab"], apart := false, laid := [("math/bits.deBruijn32tab", laid_math_bits_deBruijn32tab), ("math/bits.deBruijn64tab", laid_math_bits_deBruijn64tab), ("internal/strconv.uint64pow10", laid_internal_strconv_uint64pow10)] }
def TreecmpKnownSaid : Prop := treecmpKnownRow.holds Tryz.pinned (OpenSpec.ofChange treecmpKnownSpec)

/-- ITS FALSE NEIGHBOUR: 'it returns false'. Refute it at one input. -/
def treecmpKnownWrong : ChangeSpec := { name := "treecmpKnown", fn := fun _ => fun
  | [] => { results := [.lit (.bool false)], args := [] }
  | _ => none }
def TreecmpKnownWrongFalsely : Prop := treecmpKnownRow.holds Tryz.pinned (OpenSpec.ofChange treecmpKnownWrong)

/- THE SECOND FORM. 'bulk': how many values and letters a reading holds, each counted each time it is reached (what is shared counts as often as it is met; a slice's spare places count too). A statement '..UptoSaid' is the law's where the arguments, and the package variables that the reading takes, are together of bulk at most 1048576: NARROWER than '..Said'. Prove '..Said' where nothing that the law and all that it calls make is longer than what came in: it says more and counts as full. Else prove '..UptoSaid'. A law counts once. -/
mutual
def uptoBulk {H : Type} : DataW H → Nat
  | .lit (.string bytes) => bytes.length + 1
  | .lit _ => 1
  | .nil => 1
  | .ptr d => uptoBulk d + 1
  | .slice elems spare => uptoBulkAll elems + uptoBulkAll spare + 1
  | .agg parts => uptoBulkAll parts + 1
  | .iface _ d => uptoBulk d + 1
  | .map entries => uptoBulkEntries entries + 1
  | .held _ => 1
def uptoBulkAll {H : Type} : List (DataW H) → Nat
  | [] => 0
  | d :: r => uptoBulk d + uptoBulkAll r
def uptoBulkEntries {H : Type} : List (Lit × DataW H) → Nat
  | [] => 0
  | x :: r => uptoBulkEntry x + uptoBulkEntries r
def uptoBulkEntry {H : Type} : Lit × DataW H → Nat
  | (.string bytes, d) => bytes.length + uptoBulk d + 1
  | (_, d) => uptoBulk d + 1
 end
def uptoSmall : (H : Type) → List (DataW H) → Bool := fun _ ds => decide (uptoBulkAll ds ≤ 1048576)
def OpenSpec.upto (s : _root_.Go.ChangeSpec) : _root_.Go.OpenSpec := { _root_.Go.OpenSpec.ofChange s with cond := some uptoSmall }

/-- 'ablautlaw34.TreecmpTriples', WHERE WHAT IT READS IS OF BULK AT MOST 1048576: true; the input reads as it did. -/
def treecmpTriplesUptoRow : OpenClaim := { program := "ytfgkjofdgohacaagreatdoor", sum := "ab919ff2aa9ad28e34b270eb032ece7694eed599c6f67a2998ca25fe732fb6c7", func := "ablaut/ablautlaw34.TreecmpTriples", spec := "treecmpTriples", unfollowed := true, recurses := true, named := ["math/bits.deBruijn64tab", "internal/strconv.uint64pow10", "math/bits.deBruijn32tab"], apart := false, laid := [("math/bits.deBruijn32tab", laid_math_bits_deBruijn32tab), ("math/bits.deBruijn64tab", laid_math_bits_deBruijn64tab), ("internal/strconv.uint64pow10", laid_internal_strconv_uint64pow10)], narrowed := true }
def TreecmpTriplesUptoSaid : Prop := treecmpTriplesUptoRow.holds Tryz.pinned (OpenSpec.upto treecmpTriplesSpec)

/-- 'ablautlaw34.TreecmpSupports', WHERE WHAT IT READS IS OF BULK AT MOST 1048576: true; the input reads as it did. -/
def treecmpSupportsUptoRow : OpenClaim := { program := "ytfgkjofdgohacaagreatdoor", sum := "ab919ff2aa9ad28e34b270eb032ece7694eed599c6f67a2998ca25fe732fb6c7", func := "ablaut/ablautlaw34.TreecmpSupports", spec := "treecmpSupports", unfollowed := true, recurses := true, named := ["math/bits.deBruijn64tab", "internal/strconv.uint64pow10", "math/bits.deBruijn32tab"], apart := false, laid := [("math/bits.deBruijn32tab", laid_math_bits_deBruijn32tab), ("math/bits.deBruijn64tab", laid_math_bits_deBruijn64tab), ("internal/strconv.uint64pow10", laid_internal_strconv_uint64pow10)], narrowed := true }
def TreecmpSupportsUptoSaid : Prop := treecmpSupportsUptoRow.holds Tryz.pinned (OpenSpec.upto treecmpSupportsSpec)

/-- 'ablautlaw34.TreecmpConsensus', WHERE WHAT IT READS IS OF BULK AT MOST 1048576: true; the input reads as it did. -/
def treecmpConsensusUptoRow : OpenClaim := { program := "ytfgkjofdgohacaagreatdoor", sum := "ab919ff2aa9ad28e34b270eb032ece7694eed599c6f67a2998ca25fe732fb6c7", func := "ablaut/ablautlaw34.TreecmpConsensus", spec := "treecmpConsensus", unfollowed := true, recurses := true, named := ["math/bits.deBruijn64tab", "internal/strconv.uint64pow10", "math/bits.deBruijn32tab"], apart := false, laid := [("math/bits.deBruijn32tab", laid_math_bits_deBruijn32tab), ("math/bits.deBruijn64tab", laid_math_bits_deBruijn64tab), ("internal/strconv.uint64pow10", laid_internal_strconv_uint64pow10)], narrowed := true }
def TreecmpConsensusUptoSaid : Prop := treecmpConsensusUptoRow.holds Tryz.pinned (OpenSpec.upto treecmpConsensusSpec)

/-- 'ablautlaw34.TreecmpVotes', WHERE WHAT IT READS IS OF BULK AT MOST 1048576: true; the input reads as it did. -/
def treecmpVotesUptoRow : OpenClaim := { program := "ytfgkjofdgohacaagreatdoor", sum := "ab919ff2aa9ad28e34b270eb032ece7694eed599c6f67a2998ca25fe732fb6c7", func := "ablaut/ablautlaw34.TreecmpVotes", spec := "treecmpVotes", unfollowed := true, recurses := true, named := ["math/bits.deBruijn64tab", "internal/strconv.uint64pow10", "math/bits.deBruijn32tab"], apart := false, laid := [("math/bits.deBruijn32tab", laid_math_bits_deBruijn32tab), ("math/bits.deBruijn64tab", laid_math_bits_deBruijn64tab), ("internal/strconv.uint64pow10", laid_internal_strconv_uint64pow10)], narrowed := true }
def TreecmpVotesUptoSaid : Prop := treecmpVotesUptoRow.holds Tryz.pinned (OpenSpec.upto treecmpVotesSpec)

/-- 'ablautlaw34.TreecmpPairs', WHERE WHAT IT READS IS OF BULK AT MOST 1048576: true; the input reads as it did. -/
def treecmpPairsUptoRow : OpenClaim := { program := "ytfgkjofdgohacaagreatdoor", sum := "ab919ff2aa9ad28e34b270eb032ece7694eed599c6f67a2998ca25fe732fb6c7", func := "ablaut/ablautlaw34.TreecmpPairs", spec := "treecmpPairs", unfollowed := true, recurses := true, named := ["math/bits.deBruijn64tab", "internal/strconv.uint64pow10", "math/bits.deBruijn32tab"], apart := false, laid := [("math/bits.deBruijn32tab", laid_math_bits_deBruijn32tab), ("math/bits.deBruijn64tab", laid_math_bits_deBruijn64tab), ("internal/strconv.uint64pow10", laid_internal_strconv_uint64pow10)], narrowed := true }
def TreecmpPairsUptoSaid : Prop := treecmpPairsUptoRow.holds Tryz.pinned (OpenSpec.upto treecmpPairsSpec)

/-- 'ablautlaw34.TreecmpMetric', WHERE WHAT IT READS IS OF BULK AT MOST 1048576: true; the input reads as it did. -/
def treecmpMetricUptoRow : OpenClaim := { program := "ytfgkjofdgohacaagreatdoor", sum := "ab919ff2aa9ad28e34b270eb032ece7694eed599c6f67a2998ca25fe732fb6c7", func := "ablaut/ablautlaw34.TreecmpMetric", spec := "treecmpMetric", unfollowed := true, recurses := true, named := ["math/bits.deBruijn64tab", "internal/strconv.uint64pow10", "math/bits.deBruijn32tab"], apart := false, laid := [("math/bits.deBruijn32tab", laid_math_bits_deBruijn32tab), ("math/bits.deBruijn64tab", laid_math_bits_deBruijn64tab), ("internal/strconv.uint64pow10", laid_internal_strconv_uint64pow10)], narrowed := true }
def TreecmpMetricUptoSaid : Prop := treecmpMetricUptoRow.holds Tryz.pinned (OpenSpec.upto treecmpMetricSpec)

/-- 'ablautlaw34.TreecmpBuilds', WHERE WHAT IT READS IS OF BULK AT MOST 1048576: true; the input reads as it did. -/
def treecmpBuildsUptoRow : OpenClaim := { program := "ytfgkjofdgohacaagreatdoor", sum := "ab919ff2aa9ad28e34b270eb032ece7694eed599c6f67a2998ca25fe732fb6c7", func := "ablaut/ablautlaw34.TreecmpBuilds", spec := "treecmpBuilds", unfollowed := true, recurses := true, named := ["math/bits.deBruijn64tab", "internal/strconv.uint64pow10", "math/bits.deBruijn32tab"], apart := false, laid := [("math/bits.deBruijn32tab", laid_math_bits_deBruijn32tab), ("math/bits.deBruijn64tab", laid_math_bits_deBruijn64tab), ("internal/strconv.uint64pow10", laid_internal_strconv_uint64pow10)], narrowed := true }
def TreecmpBuildsUptoSaid : Prop := treecmpBuildsUptoRow.holds Tryz.pinned (OpenSpec.upto treecmpBuildsSpec)

/-- 'ablautlaw34.TreecmpSets', WHERE WHAT IT READS IS OF BULK AT MOST 1048576: true; the input reads as it did. -/
def treecmpSetsUptoRow : OpenClaim := { program := "ytfgkjofdgohacaagreatdoor", sum := "ab919ff2aa9ad28e34b270eb032ece7694eed599c6f67a2998ca25fe732fb6c7", func := "ablaut/ablautlaw34.TreecmpSets", spec := "treecmpSets", unfollowed := true, recurses := true, named := ["math/bits.deBruijn64tab", "internal/strconv.uint64pow10", "math/bits.deBruijn32tab"], apart := false, laid := [("math/bits.deBruijn32tab", laid_math_bits_deBruijn32tab), ("math/bits.deBruijn64tab", laid_math_bits_deBruijn64tab), ("internal/strconv.uint64pow10", laid_internal_strconv_uint64pow10)], narrowed := true }
def TreecmpSetsUptoSaid : Prop := treecmpSetsUptoRow.holds Tryz.pinned (OpenSpec.upto treecmpSetsSpec)

/-- 'ablautlaw34.TreecmpBack', WHERE WHAT IT READS IS OF BULK AT MOST 1048576: true; the input reads as it did. -/
def treecmpBackUptoRow : OpenClaim := { program := "ytfgkjofdgohacaagreatdoor", sum := "ab919ff2aa9ad28e34b270eb032ece7694eed599c6f67a2998ca25fe732fb6c7", func := "ablaut/ablautlaw34.TreecmpBack", spec := "treecmpBack", unfollowed := true, recurses := true, named := ["math/bits.deBruijn64tab", "internal/strconv.uint64pow10", "math/bits.deBruijn32tab"], apart := false, laid := [("math/bits.deBruijn32tab", laid_math_bits_deBruijn32tab), ("math/bits.deBruijn64tab", laid_math_bits_deBruijn64tab), ("internal/strconv.uint64pow10", laid_internal_strconv_uint64pow10)], narrowed := true }
def TreecmpBackUptoSaid : Prop := treecmpBackUptoRow.holds Tryz.pinned (OpenSpec.upto treecmpBackSpec)

/-- 'ablautlaw34.TreecmpMade', WHERE WHAT IT READS IS OF BULK AT MOST 1048576: true; the input reads as it did. -/
def treecmpMadeUptoRow : OpenClaim := { program := "ytfgkjofdgohacaagreatdoor", sum := "ab919ff2aa9ad28e34b270eb032ece7694eed599c6f67a2998ca25fe732fb6c7", func := "ablaut/ablautlaw34.TreecmpMade", spec := "treecmpMade", unfollowed := true, recurses := true, named := ["math/bits.deBruijn64tab", "internal/strconv.uint64pow10", "math/bits.deBruijn32tab"], apart := false, laid := [("math/bits.deBruijn32tab", laid_math_bits_deBruijn32tab), ("math/bits.deBruijn64tab", laid_math_bits_deBruijn64tab), ("internal/strconv.uint64pow10", laid_internal_strconv_uint64pow10)], narrowed := true }
def TreecmpMadeUptoSaid : Prop := treecmpMadeUptoRow.holds Tryz.pinned (OpenSpec.upto treecmpMadeSpec)

/-- 'ablautlaw34.TreecmpKnown', WHERE WHAT IT READS IS OF BULK AT MOST 1048576: true; the input reads as it did. -/
def treecmpKnownUptoRow : OpenClaim := { program := "ytfgkjofdgohacaagreatdoor", sum := "ab919ff2aa9ad28e34b270eb032ece7694eed599c6f67a2998ca25fe732fb6c7", func := "ablaut/ablautlaw34.TreecmpKnown", spec := "treecmpKnown", inPlace := ["internal/abi.NoEscape"], unfollowed := true, recurses := true, named := ["math/bits.deBruijn64tab", "internal/strconv.uint64pow10", "math/bits.deBruijn32tab"], apart := false, laid := [("math/bits.deBruijn32tab", laid_math_bits_deBruijn32tab), ("math/bits.deBruijn64tab", laid_math_bits_deBruijn64tab), ("internal/strconv.uint64pow10", laid_internal_strconv_uint64pow10)], narrowed := true }
def TreecmpKnownUptoSaid : Prop := treecmpKnownUptoRow.holds Tryz.pinned (OpenSpec.upto treecmpKnownSpec)

end Rows
end Go.Proofs.YtfgkjofdgohacaaGreatDoor
