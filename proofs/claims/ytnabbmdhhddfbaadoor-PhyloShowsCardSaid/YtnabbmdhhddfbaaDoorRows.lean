/-
  NARROWER THAN 'FOR EVERY INPUT', by the rows' own cells (each row's printed sentence says how): PhyloBuilds: laid · PhyloLargest: laid · PhyloMost: laid · PhyloLosses: laid · PhyloGroups: laid · PhyloOn: laid · PhyloPerfect: laid · PhyloShows: laid · PhyloOnce: laid · PhyloClades: laid.
  DERIVED. THE GIVEN ROWS OF THIS SEAT. 10 by the template 'for every input the law returns true; each argument reads behind the call as it read before'; 0 by the template 'total and deterministic' (their statements: YtnabbmdhhddfbaaDoorTotals.lean).
  GIVEN WITH THE SEED: the statements are not yours to turn. If you find one false, say at which input.
  Laid BY PROGRAM, IN A SANDBOX (cutbox-rows.mjs): the forced cells as the released guide's own fill.sh prints them over the translation 60a6dc2d9ea16aea… (all of the seat's roots in one cut). By AI agents, Wed Nov 11 2026. No macro, syntax, notation, axiom, sorry.
-/
import Derived.Test.YtnabbmdhhddfbaaDoorChecked
import GoSem.Claim
import GoSem.ClaimJoined
import GoSem.ClaimMapViews
import Derived.JoinedTies
import Derived.KernelRfl
namespace Go.Proofs.YtnabbmdhhddfbaaDoor
/- THE CELL 'sum', in the pinned program and in every row, IS THE sha256 OF THE DUMP (.gsa) THAT YtnabbmdhhddfbaaDoorProg.lean LOADS. Nothing in Lean hashes anything: it is a label: what it is worth is what the hold of that sum in a sandbox is worth. -/
noncomputable def Tryd.pinned : Pinned := { name := "ytnabbmdhhddfbaadoor", sum := "60a6dc2d9ea16aea1572ffc6b91a9d84a2f16e9f5c0723cc82103a9aa8b815d2", checked := Tryd.checked }
namespace Rows
def none {H : Type} : Left H := { results := [], args := [] }

/- WHAT THE LISTED PACKAGE-LEVEL VARIABLES READ AS WHEN THE CALL BEGINS. Each datum BY PROGRAM (the guide's laid-datum.mjs) off the statement by which the dump's own 'gosem.cut.vars' lays the variable. In a bare row this is a premise. The card (YtnabbmdhhddfbaaDoorCards.lean) ties it to the program's text. -/
def laid_math_bits_deBruijn32tab {H : Type} : DataW H := .agg [.lit (.int .u8 0), .lit (.int .u8 1), .lit (.int .u8 28), .lit (.int .u8 2), .lit (.int .u8 29), .lit (.int .u8 14), .lit (.int .u8 24), .lit (.int .u8 3), .lit (.int .u8 30), .lit (.int .u8 22), .lit (.int .u8 20), .lit (.int .u8 15), .lit (.int .u8 25), .lit (.int .u8 17), .lit (.int .u8 4), .lit (.int .u8 8), .lit (.int .u8 31), .lit (.int .u8 27), .lit (.int .u8 13), .lit (.int .u8 23), .lit (.int .u8 21), .lit (.int .u8 19), .lit (.int .u8 16), .lit (.int .u8 7), .lit (.int .u8 26), .lit (.int .u8 12), .lit (.int .u8 18), .lit (.int .u8 6), .lit (.int .u8 11), .lit (.int .u8 5), .lit (.int .u8 10), .lit (.int .u8 9)]
def laid_math_bits_deBruijn64tab {H : Type} : DataW H := .agg [.lit (.int .u8 0), .lit (.int .u8 1), .lit (.int .u8 56), .lit (.int .u8 2), .lit (.int .u8 57), .lit (.int .u8 49), .lit (.int .u8 28), .lit (.int .u8 3), .lit (.int .u8 61), .lit (.int .u8 58), .lit (.int .u8 42), .lit (.int .u8 50), .lit (.int .u8 38), .lit (.int .u8 29), .lit (.int .u8 17), .lit (.int .u8 4), .lit (.int .u8 62), .lit (.int .u8 47), .lit (.int .u8 59), .lit (.int .u8 36), .lit (.int .u8 45), .lit (.int .u8 43), .lit (.int .u8 51), .lit (.int .u8 22), .lit (.int .u8 53), .lit (.int .u8 39), .lit (.int .u8 33), .lit (.int .u8 30), .lit (.int .u8 24), .lit (.int .u8 18), .lit (.int .u8 12), .lit (.int .u8 5), .lit (.int .u8 63), .lit (.int .u8 55), .lit (.int .u8 48), .lit (.int .u8 27), .lit (.int .u8 60), .lit (.int .u8 41), .lit (.int .u8 37), .lit (.int .u8 16), .lit (.int .u8 46), .lit (.int .u8 35), .lit (.int .u8 44), .lit (.int .u8 21), .lit (.int .u8 52), .lit (.int .u8 32), .lit (.int .u8 23), .lit (.int .u8 11), .lit (.int .u8 54), .lit (.int .u8 26), .lit (.int .u8 40), .lit (.int .u8 15), .lit (.int .u8 34), .lit (.int .u8 20), .lit (.int .u8 31), .lit (.int .u8 10), .lit (.int .u8 25), .lit (.int .u8 14), .lit (.int .u8 19), .lit (.int .u8 9), .lit (.int .u8 13), .lit (.int .u8 8), .lit (.int .u8 7), .lit (.int .u8 6)]
def laid_internal_strconv_uint64pow10 {H : Type} : DataW H := .agg [.lit (.int .u64 1), .lit (.int .u64 10), .lit (.int .u64 100), .lit (.int .u64 1000), .lit (.int .u64 10000), .lit (.int .u64 100000), .lit (.int .u64 1000000), .lit (.int .u64 10000000), .lit (.int .u64 100000000), .lit (.int .u64 1000000000), .lit (.int .u64 10000000000), .lit (.int .u64 100000000000), .lit (.int .u64 1000000000000), .lit (.int .u64 10000000000000), .lit (.int .u64 100000000000000), .lit (.int .u64 1000000000000000), .lit (.int .u64 10000000000000000), .lit (.int .u64 100000000000000000), .lit (.int .u64 1000000000000000000), .lit (.int .u64 10000000000000000000)]

/-- 'ablautlaw32.PhyloBuilds': WHATEVER THE INPUT: true; the input reads as it did. -/
def phyloBuildsSpec : ChangeSpec := { name := "phyloBuilds", fn := fun _ => fun
  | [d] => { results := [.lit (.bool true)], args := [d] }
  | _ => none }
def phyloBuildsRow : OpenClaim := { program := "ytnabbmdhhddfbaadoor", sum := "60a6dc2d9ea16aea1572ffc6b91a9d84a2f16e9f5c0723cc82103a9aa8b815d2", func := "ablaut/ablautlaw32.PhyloBuilds", spec := "phyloBuilds", unfollowed := true, recurses := true, named := ["internal/strconv.uint64pow10", "math/bits.deBruijn32tab", "math/bits.deBruijn64tab"], apart := false, laid := [("math/bits.deBruijn32tab", laid_math_bits_deBruijn32tab), ("math/bits.deBruijn64tab", laid_math_bits_deBruijn64tab), ("internal/strconv.uint64pow10", laid_internal_strconv_uint64pow10)] }
def PhyloBuildsSaid : Prop := phyloBuildsRow.holds Tryd.pinned (OpenSpec.ofChange phyloBuildsSpec)

/-- ITS FALSE NEIGHBOUR: 'it returns false'. Refute it at one input. -/
def phyloBuildsWrong : ChangeSpec := { name := "phyloBuilds", fn := fun _ => fun
  | [d] => { results := [.lit (.bool false)], args := [d] }
  | _ => none }
def PhyloBuildsWrongFalsely : Prop := phyloBuildsRow.holds Tryd.pinned (OpenSpec.ofChange phyloBuildsWrong)

/-- 'ablautlaw32.PhyloLargest': WHATEVER THE INPUT: true; the input reads as it did. -/
def phyloLargestSpec : ChangeSpec := { name := "phyloLargest", fn := fun _ => fun
  | [d] => { results := [.lit (.bool true)], args := [d] }
  | _ => none }
def phyloLargestRow : OpenClaim := { program := "ytnabbmdhhddfbaadoor", sum := "60a6dc2d9ea16aea1572ffc6b91a9d84a2f16e9f5c0723cc82103a9aa8b815d2", func := "ablaut/ablautlaw32.PhyloLargest", spec := "phyloLargest", unfollowed := true, recurses := true, named := ["internal/strconv.uint64pow10", "math/bits.deBruijn32tab", "math/bits.deBruijn64tab"], apart := false, laid := [("math/bits.deBruijn32tab", laid_math_bits_deBruijn32tab), ("math/bits.deBruijn64tab", laid_math_bits_deBruijn64tab), ("internal/strconv.uint64pow10", laid_internal_strconv_uint64pow10)] }
def PhyloLargestSaid : Prop := phyloLargestRow.holds Tryd.pinned (OpenSpec.ofChange phyloLargestSpec)

/-- ITS FALSE NEIGHBOUR: 'it returns false'. Refute it at one input. -/
def phyloLargestWrong : ChangeSpec := { name := "phyloLargest", fn := fun _ => fun
  | [d] => { results := [.lit (.bool false)], args := [d] }
  | _ => none }
def PhyloLargestWrongFalsely : Prop := phyloLargestRow.holds Tryd.pinned (OpenSpec.ofChange phyloLargestWrong)

/-- 'ablautlaw32.PhyloMost': WHATEVER THE INPUT: true; the input reads as it did. -/
def phyloMostSpec : ChangeSpec := { name := "phyloMost", fn := fun _ => fun
  | [d] => { results := [.lit (.bool true)], args := [d] }
  | _ => none }
def phyloMostRow : OpenClaim := { program := "ytnabbmdhhddfbaadoor", sum := "60a6dc2d9ea16aea1572ffc6b91a9d84a2f16e9f5c0723cc82103a9aa8b815d2", func := "ablaut/ablautlaw32.PhyloMost", spec := "phyloMost", unfollowed := true, recurses := true, named := ["internal/strconv.uint64pow10", "math/bits.deBruijn32tab", "math/bits.deBruijn64tab"], apart := false, laid := [("math/bits.deBruijn32tab", laid_math_bits_deBruijn32tab), ("math/bits.deBruijn64tab", laid_math_bits_deBruijn64tab), ("internal/strconv.uint64pow10", laid_internal_strconv_uint64pow10)] }
def PhyloMostSaid : Prop := phyloMostRow.holds Tryd.pinned (OpenSpec.ofChange phyloMostSpec)

/-- ITS FALSE NEIGHBOUR: 'it returns false'. Refute it at one input. -/
def phyloMostWrong : ChangeSpec := { name := "phyloMost", fn := fun _ => fun
  | [d] => { results := [.lit (.bool false)], args := [d] }
  | _ => none }
def PhyloMostWrongFalsely : Prop := phyloMostRow.holds Tryd.pinned (OpenSpec.ofChange phyloMostWrong)

/-- 'ablautlaw32.PhyloLosses': WHATEVER THE INPUT: true; the input reads as it did. -/
def phyloLossesSpec : ChangeSpec := { name := "phyloLosses", fn := fun _ => fun
  | [d1, d2] => { results := [.lit (.bool true)], args := [d1, d2] }
  | _ => none }
def phyloLossesRow : OpenClaim := { program := "ytnabbmdhhddfbaadoor", sum := "60a6dc2d9ea16aea1572ffc6b91a9d84a2f16e9f5c0723cc82103a9aa8b815d2", func := "ablaut/ablautlaw32.PhyloLosses", spec := "phyloLosses", unfollowed := true, recurses := true, named := ["internal/strconv.uint64pow10", "math/bits.deBruijn32tab", "math/bits.deBruijn64tab"], apart := false, laid := [("math/bits.deBruijn32tab", laid_math_bits_deBruijn32tab), ("math/bits.deBruijn64tab", laid_math_bits_deBruijn64tab), ("internal/strconv.uint64pow10", laid_internal_strconv_uint64pow10)] }
def PhyloLossesSaid : Prop := phyloLossesRow.holds Tryd.pinned (OpenSpec.ofChange phyloLossesSpec)

/-- ITS FALSE NEIGHBOUR: 'it returns false'. Refute it at one input. -/
def phyloLossesWrong : ChangeSpec := { name := "phyloLosses", fn := fun _ => fun
  | [d1, d2] => { results := [.lit (.bool false)], args := [d1, d2] }
  | _ => none }
def PhyloLossesWrongFalsely : Prop := phyloLossesRow.holds Tryd.pinned (OpenSpec.ofChange phyloLossesWrong)

/-- 'ablautlaw32.PhyloGroups': WHATEVER THE INPUT: true; the input reads as it did. -/
def phyloGroupsSpec : ChangeSpec := { name := "phyloGroups", fn := fun _ => fun
  | [d] => { results := [.lit (.bool true)], args := [d] }
  | _ => none }
def phyloGroupsRow : OpenClaim := { program := "ytnabbmdhhddfbaadoor", sum := "60a6dc2d9ea16aea1572ffc6b91a9d84a2f16e9f5c0723cc82103a9aa8b815d2", func := "ablaut/ablautlaw32.PhyloGroups", spec := "phyloGroups", unfollowed := true, recurses := true, named := ["internal/strconv.uint64pow10", "math/bits.deBruijn32tab", "math/bits.deBruijn64tab"], apart := false, laid := [("math/bits.deBruijn32tab", laid_math_bits_deBruijn32tab), ("math/bits.deBruijn64tab", laid_math_bits_deBruijn64tab), ("internal/strconv.uint64pow10", laid_internal_strconv_uint64pow10)] }
def PhyloGroupsSaid : Prop := phyloGroupsRow.holds Tryd.pinned (OpenSpec.ofChange phyloGroupsSpec)

/-- ITS FALSE NEIGHBOUR: 'it returns false'. Refute it at one input. -/
def phyloGroupsWrong : ChangeSpec := { name := "phyloGroups", fn := fun _ => fun
  | [d] => { results := [.lit (.bool false)], args := [d] }
  | _ => none }
def PhyloGroupsWrongFalsely : Prop := phyloGroupsRow.holds Tryd.pinned (OpenSpec.ofChange phyloGroupsWrong)

/-- 'ablautlaw32.PhyloOn': WHATEVER THE INPUT: true; the input reads as it did. -/
def phyloOnSpec : ChangeSpec := { name := "phyloOn", fn := fun _ => fun
  | [d1, d2] => { results := [.lit (.bool true)], args := [d1, d2] }
  | _ => none }
def phyloOnRow : OpenClaim := { program := "ytnabbmdhhddfbaadoor", sum := "60a6dc2d9ea16aea1572ffc6b91a9d84a2f16e9f5c0723cc82103a9aa8b815d2", func := "ablaut/ablautlaw32.PhyloOn", spec := "phyloOn", unfollowed := true, recurses := true, named := ["internal/strconv.uint64pow10", "math/bits.deBruijn32tab", "math/bits.deBruijn64tab"], apart := false, laid := [("math/bits.deBruijn32tab", laid_math_bits_deBruijn32tab), ("math/bits.deBruijn64tab", laid_math_bits_deBruijn64tab), ("internal/strconv.uint64pow10", laid_internal_strconv_uint64pow10)] }
def PhyloOnSaid : Prop := phyloOnRow.holds Tryd.pinned (OpenSpec.ofChange phyloOnSpec)

/-- ITS FALSE NEIGHBOUR: 'it returns false'. Refute it at one input. -/
def phyloOnWrong : ChangeSpec := { name := "phyloOn", fn := fun _ => fun
  | [d1, d2] => { results := [.lit (.bool false)], args := [d1, d2] }
  | _ => none }
def PhyloOnWrongFalsely : Prop := phyloOnRow.holds Tryd.pinned (OpenSpec.ofChange phyloOnWrong)

/-- 'ablautlaw32.PhyloPerfect': WHATEVER THE INPUT: true; the input reads as it did. -/
def phyloPerfectSpec : ChangeSpec := { name := "phyloPerfect", fn := fun _ => fun
  | [d] => { results := [.lit (.bool true)], args := [d] }
  | _ => none }
def phyloPerfectRow : OpenClaim := { program := "ytnabbmdhhddfbaadoor", sum := "60a6dc2d9ea16aea1572ffc6b91a9d84a2f16e9f5c0723cc82103a9aa8b815d2", func := "ablaut/ablautlaw32.PhyloPerfect", spec := "phyloPerfect", unfollowed := true, recurses := true, named := ["internal/strconv.uint64pow10", "math/bits.deBruijn32tab", "math/bits.deBruijn64tab"], apart := false, laid := [("math/bits.deBruijn32tab", laid_math_bits_deBruijn32tab), ("math/bits.deBruijn64tab", laid_math_bits_deBruijn64tab), ("internal/strconv.uint64pow10", laid_internal_strconv_uint64pow10)] }
def PhyloPerfectSaid : Prop := phyloPerfectRow.holds Tryd.pinned (OpenSpec.ofChange phyloPerfectSpec)

/-- ITS FALSE NEIGHBOUR: 'it returns false'. Refute it at one input. -/
def phyloPerfectWrong : ChangeSpec := { name := "phyloPerfect", fn := fun _ => fun
  | [d] => { results := [.lit (.bool false)], args := [d] }
  | _ => none }
def PhyloPerfectWrongFalsely : Prop := phyloPerfectRow.holds Tryd.pinned (OpenSpec.ofChange phyloPerfectWrong)

/-- 'ablautlaw32.PhyloShows': WHATEVER THE INPUT: true; the input reads as it did. -/
def phyloShowsSpec : ChangeSpec := { name := "phyloShows", fn := fun _ => fun
  | [d] => { results := [.lit (.bool true)], args := [d] }
  | _ => none }
def phyloShowsRow : OpenClaim := { program := "ytnabbmdhhddfbaadoor", sum := "60a6dc2d9ea16aea1572ffc6b91a9d84a2f16e9f5c0723cc82103a9aa8b815d2", func := "ablaut/ablautlaw32.PhyloShows", spec := "phyloShows", unfollowed := true, recurses := true, named := ["internal/strconv.uint64pow10", "math/bits.deBruijn32tab", "math/bits.deBruijn64tab"], apart := false, laid := [("math/bits.deBruijn32tab", laid_math_bits_deBruijn32tab), ("math/bits.deBruijn64tab", laid_math_bits_deBruijn64tab), ("internal/strconv.uint64pow10", laid_internal_strconv_uint64pow10)] }
def PhyloShowsSaid : Prop := phyloShowsRow.holds Tryd.pinned (OpenSpec.ofChange phyloShowsSpec)

/-- ITS FALSE NEIGHBOUR: 'it returns false'. Refute it at one input. -/
def phyloShowsWrong : ChangeSpec := { name := "phyloShows", fn := fun _ => fun
  | [d] => { results := [.lit (.bool false)], args := [d] }
  | _ => none }
def PhyloShowsWrongFalsely : Prop := phyloShowsRow.holds Tryd.pinned (OpenSpec.ofChange phyloShowsWrong)

/-- 'ablautlaw32.PhyloOnce': WHATEVER THE INPUT: true; the input reads as it did. -/
def phyloOnceSpec : ChangeSpec := { name := "phyloOnce", fn := fun _ => fun
  | [d1, d2] => { results := [.lit (.bool true)], args := [d1, d2] }
  | _ => none }
def phyloOnceRow : OpenClaim := { program := "ytnabbmdhhddfbaadoor", sum := "60a6dc2d9ea16aea1572ffc6b91a9d84a2f16e9f5c0723cc82103a9aa8b815d2", func := "ablaut/ablautlaw32.PhyloOnce", spec := "phyloOnce", unfollowed := true, recurses := true, named := ["internal/strconv.uint64pow10", "math/bits.deBruijn32tab", "math/bits.deBruijn64tab"], apart := false, laid := [("math/bits.deBruijn32tab", laid_math_bits_deBruijn32tab), ("math/bits.deBruijn64tab", laid_math_bits_deBruijn64tab), ("internal/strconv.uint64pow10", laid_internal_strconv_uint64pow10)] }
def PhyloOnceSaid : Prop := phyloOnceRow.holds Tryd.pinned (OpenSpec.ofChange phyloOnceSpec)

/-- ITS FALSE NEIGHBOUR: 'it returns false'. Refute it at one input. -/
def phyloOnceWrong : ChangeSpec := { name := "phyloOnce", fn := fun _ => fun
  | [d1, d2] => { results := [.lit (.bool false)], args := [d1, d2] }
  | _ => none }
def PhyloOnceWrongFalsely : Prop := phyloOnceRow.holds Tryd.pinned (OpenSpec.ofChange phyloOnceWrong)

/-- 'ablautlaw32.PhyloClades': WHATEVER THE INPUT: true; the input reads as it did. -/
def phyloCladesSpec : ChangeSpec := { name := "phyloClades", fn := fun _ => fun
  | [d] => { results := [.lit (.bool true)], args := [d] }
  | _ => none }
def phyloCladesRow : OpenClaim := { program := "ytnabbmdhhddfbaadoor", sum := "60a6dc2d9ea16aea1572ffc6b91a9d84a2f16e9f5c0723cc82103a9aa8b815d2", func := "ablaut/ablautlaw32.PhyloClades", spec := "phyloClades", unfollowed := true, recurses := true, named := ["internal/strconv.uint64pow10", "math/bits.deBruijn32tab", "math/bits.deBruijn64tab"], apart := false, laid := [("math/bits.deBruijn32tab", laid_math_bits_deBruijn32tab), ("math/bits.deBruijn64tab", laid_math_bits_deBruijn64tab), ("internal/strconv.uint64pow10", laid_internal_strconv_uint64pow10)] }
def PhyloCladesSaid : Prop := phyloCladesRow.holds Tryd.pinned (OpenSpec.ofChange phyloCladesSpec)

/-- ITS FALSE NEIGHBOUR: 'it returns false'. Refute it at one input. -/
def phyloCladesWrong : ChangeSpec := { name := "phyloClades", fn := fun _ => fun
  | [d] => { results := [.lit (.bool false)], args := [d] }
  | _ => none }
def PhyloCladesWrongFalsely : Prop := phyloCladesRow.holds Tryd.pinned (OpenSpec.ofChange phyloCladesWrong)

/- THE SECOND FORM. 'bulk': how many values and letters a reading holds, each counted each time it is reached (what is shared counts as often as it is met; a slice's spare places count too). A statement '..UptoSaid' is the law's where the arguments, and the package variables that the reading takes, are together of bulk at most 1048576: NARROWER than '..Said'. Prove '..Said' where nothing that the law and all that it calls make is longer than what came in: it says more and counts as full. Else prove '..UptoSaid'. A law counts once. -/
mutual
def uptoBulk {H : Type} : DataW H → Nat
  | .lit (.string bytes) => bytes.length + 1
  | .lit _ => 1
  | .nil => 1
  | .ptr d => uptoBulk d + 1
  | .slice elems spare => uptoBulkAll elems + uptoBulkAll spare + 1
  | .agg parts => uptoBulkAll parts + 1
  | .iface _ d => uptoBulk d + 1
  | .map entries => uptoBulkEntries entries + 1
  | .held _ => 1
def uptoBulkAll {H : Type} : List (DataW H) → Nat
  | [] => 0
  | d :: r => uptoBulk d + uptoBulkAll r
def uptoBulkEntries {H : Type} : List (Lit × DataW H) → Nat
  | [] => 0
  | x :: r => uptoBulkEntry x + uptoBulkEntries r
def uptoBulkEntry {H : Type} : Lit × DataW H → Nat
  | (.string bytes, d) => bytes.length + uptoBulk d + 1
  | (_, d) => uptoBulk d + 1
 end
def uptoSmall : (H : Type) → List (DataW H) → Bool := fun _ ds => decide (uptoBulkAll ds ≤ 1048576)
def OpenSpec.upto (s : _root_.Go.ChangeSpec) : _root_.Go.OpenSpec := { _root_.Go.OpenSpec.ofChange s with cond := some uptoSmall }

/-- 'ablautlaw32.PhyloBuilds', WHERE WHAT IT READS IS OF BULK AT MOST 1048576: true; the input reads as it did. -/
def phyloBuildsUptoRow : OpenClaim := { program := "ytnabbmdhhddfbaadoor", sum := "60a6dc2d9ea16aea1572ffc6b91a9d84a2f16e9f5c0723cc82103a9aa8b815d2", func := "ablaut/ablautlaw32.PhyloBuilds", spec := "phyloBuilds", unfollowed := true, recurses := true, named := ["internal/strconv.uint64pow10", "math/bits.deBruijn32tab", "math/bits.deBruijn64tab"], apart := false, laid := [("math/bits.deBruijn32tab", laid_math_bits_deBruijn32tab), ("math/bits.deBruijn64tab", laid_math_bits_deBruijn64tab), ("internal/strconv.uint64pow10", laid_internal_strconv_uint64pow10)], narrowed := true }
def PhyloBuildsUptoSaid : Prop := phyloBuildsUptoRow.holds Tryd.pinned (OpenSpec.upto phyloBuildsSpec)

/-- 'ablautlaw32.PhyloLargest', WHERE WHAT IT READS IS OF BULK AT MOST 1048576: true; the input reads as it did. -/
def phyloLargestUptoRow : OpenClaim := { program := "ytnabbmdhhddfbaadoor", sum := "60a6dc2d9ea16aea1572ffc6b91a9d84a2f16e9f5c0723cc82103a9aa8b815d2", func := "ablaut/ablautlaw32.PhyloLargest", spec := "phyloLargest", unfollowed := true, recurses := true, named := ["internal/strconv.uint64pow10", "math/bits.deBruijn32tab", "math/bits.deBruijn64tab"], apart := false, laid := [("math/bits.deBruijn32tab", laid_math_bits_deBruijn32tab), ("math/bits.deBruijn64tab", laid_math_bits_deBruijn64tab), ("internal/strconv.uint64pow10", laid_internal_strconv_uint64pow10)], narrowed := true }
def PhyloLargestUptoSaid : Prop := phyloLargestUptoRow.holds Tryd.pinned (OpenSpec.upto phyloLargestSpec)

/-- 'ablautlaw32.PhyloMost', WHERE WHAT IT READS IS OF BULK AT MOST 1048576: true; the input reads as it did. -/
def phyloMostUptoRow : OpenClaim := { program := "ytnabbmdhhddfbaadoor", sum := "60a6dc2d9ea16aea1572ffc6b91a9d84a2f16e9f5c0723cc82103a9aa8b815d2", func := "ablaut/ablautlaw32.PhyloMost", spec := "phyloMost", unfollowed := true, recurses := true, named := ["internal/strconv.uint64pow10", "math/bits.deBruijn32tab", "math/bits.deBruijn64tab"], apart := false, laid := [("math/bits.deBruijn32tab", laid_math_bits_deBruijn32tab), ("math/bits.deBruijn64tab", laid_math_bits_deBruijn64tab), ("internal/strconv.uint64pow10", laid_internal_strconv_uint64pow10)], narrowed := true }
def PhyloMostUptoSaid : Prop := phyloMostUptoRow.holds Tryd.pinned (OpenSpec.upto phyloMostSpec)

/-- 'ablautlaw32.PhyloLosses', WHERE WHAT IT READS IS OF BULK AT MOST 1048576: true; the input reads as it did. -/
def phyloLossesUptoRow : OpenClaim := { program := "ytnabbmdhhddfbaadoor", sum := "60a6dc2d9ea16aea1572ffc6b91a9d84a2f16e9f5c0723cc82103a9aa8b815d2", func := "ablaut/ablautlaw32.PhyloLosses", spec := "phyloLosses", unfollowed := true, recurses := true, named := ["internal/strconv.uint64pow10", "math/bits.deBruijn32tab", "math/bits.deBruijn64tab"], apart := false, laid := [("math/bits.deBruijn32tab", laid_math_bits_deBruijn32tab), ("math/bits.deBruijn64tab", laid_math_bits_deBruijn64tab), ("internal/strconv.uint64pow10", laid_internal_strconv_uint64pow10)], narrowed := true }
def PhyloLossesUptoSaid : Prop := phyloLossesUptoRow.holds Tryd.pinned (OpenSpec.upto phyloLossesSpec)

/-- 'ablautlaw32.PhyloGroups', WHERE WHAT IT READS IS OF BULK AT MOST 1048576: true; the input reads as it did. -/
def phyloGroupsUptoRow : OpenClaim := { program := "ytnabbmdhhddfbaadoor", sum := "60a6dc2d9ea16aea1572ffc6b91a9d84a2f16e9f5c0723cc82103a9aa8b815d2", func := "ablaut/ablautlaw32.PhyloGroups", spec := "phyloGroups", unfollowed := true, recurses := true, named := ["internal/strconv.uint64pow10", "math/bits.deBruijn32tab", "math/bits.deBruijn64tab"], apart := false, laid := [("math/bits.deBruijn32tab", laid_math_bits_deBruijn32tab), ("math/bits.deBruijn64tab", laid_math_bits_deBruijn64tab), ("internal/strconv.uint64pow10", laid_internal_strconv_uint64pow10)], narrowed := true }
def PhyloGroupsUptoSaid : Prop := phyloGroupsUptoRow.holds Tryd.pinned (OpenSpec.upto phyloGroupsSpec)

/-- 'ablautlaw32.PhyloOn', WHERE WHAT IT READS IS OF BULK AT MOST 1048576: true; the input reads as it did. -/
def phyloOnUptoRow : OpenClaim := { program := "ytnabbmdhhddfbaadoor", sum := "60a6dc2d9ea16aea1572ffc6b91a9d84a2f16e9f5c0723cc82103a9aa8b815d2", func := "ablaut/ablautlaw32.PhyloOn", spec := "phyloOn", unfollowed := true, recurses := true, named := ["internal/strconv.uint64pow10", "math/bits.deBruijn32tab", "math/bits.deBruijn64tab"], apart := false, laid := [("math/bits.deBruijn32tab", laid_math_bits_deBruijn32tab), ("math/bits.deBruijn64tab", laid_math_bits_deBruijn64tab), ("internal/strconv.uint64pow10", laid_internal_strconv_uint64pow10)], narrowed := true }
def PhyloOnUptoSaid : Prop := phyloOnUptoRow.holds Tryd.pinned (OpenSpec.upto phyloOnSpec)

/-- 'ablautlaw32.PhyloPerfect', WHERE WHAT IT READS IS OF BULK AT MOST 1048576: true; the input reads as it did. -/
def phyloPerfectUptoRow : OpenClaim := { program := "ytnabbmdhhddfbaadoor", sum := "60a6dc2d9ea16aea1572ffc6b91a9d84a2f16e9f5c0723cc82103a9aa8b815d2", func := "ablaut/ablautlaw32.PhyloPerfect", spec := "phyloPerfect", unfollowed := true, recurses := true, named := ["internal/strconv.uint64pow10", "math/bits.deBruijn32tab", "math/bits.deBruijn64tab"], apart := false, laid := [("math/bits.deBruijn32tab", laid_math_bits_deBruijn32tab), ("math/bits.deBruijn64tab", laid_math_bits_deBruijn64tab), ("internal/strconv.uint64pow10", laid_internal_strconv_uint64pow10)], narrowed := true }
def PhyloPerfectUptoSaid : Prop := phyloPerfectUptoRow.holds Tryd.pinned (OpenSpec.upto phyloPerfectSpec)

/-- 'ablautlaw32.PhyloShows', WHERE WHAT IT READS IS OF BULK AT MOST 1048576: true; the input reads as it did. -/
def phyloShowsUptoRow : OpenClaim := { program := "ytnabbmdhhddfbaadoor", sum := "60a6dc2d9ea16aea1572ffc6b91a9d84a2f16e9f5c0723cc82103a9aa8b815d2", func := "ablaut/ablautlaw32.PhyloShows", spec := "phyloShows", unfollowed := true, recurses := true, named := ["internal/strconv.uint64pow10", "math/bits.deBruijn32tab", "math/bits.deBruijn64tab"], apart := false, laid := [("math/bits.deBruijn32tab", laid_math_bits_deBruijn32tab), ("math/bits.deBruijn64tab", laid_math_bits_deBruijn64tab), ("internal/strconv.uint64pow10", laid_internal_strconv_uint64pow10)], narrowed := true }
def PhyloShowsUptoSaid : Prop := phyloShowsUptoRow.holds Tryd.pinned (OpenSpec.upto phyloShowsSpec)

/-- 'ablautlaw32.PhyloOnce', WHERE WHAT IT READS IS OF BULK AT MOST 1048576: true; the input reads as it did. -/
def phyloOnceUptoRow : OpenClaim := { program := "ytnabbmdhhddfbaadoor", sum := "60a6dc2d9ea16aea1572ffc6b91a9d84a2f16e9f5c0723cc82103a9aa8b815d2", func := "ablaut/ablautlaw32.PhyloOnce", spec := "phyloOnce", unfollowed := true, recurses := true, named := ["internal/strconv.uint64pow10", "math/bits.deBruijn32tab", "math/bits.deBruijn64tab"], apart := false, laid := [("math/bits.deBruijn32tab", laid_math_bits_deBruijn32tab), ("math/bits.deBruijn64tab", laid_math_bits_deBruijn64tab), ("internal/strconv.uint64pow10", laid_internal_strconv_uint64pow10)], narrowed := true }
def PhyloOnceUptoSaid : Prop := phyloOnceUptoRow.holds Tryd.pinned (OpenSpec.upto phyloOnceSpec)

/-- 'ablautlaw32.PhyloClades', WHERE WHAT IT READS IS OF BULK AT MOST 1048576: true; the input reads as it did. -/
def phyloCladesUptoRow : OpenClaim := { program := "ytnabbmdhhddfbaadoor", sum := "60a6dc2d9ea16aea1572ffc6b91a9d84a2f16e9f5c0723cc82103a9aa8b815d2", func := "ablaut/ablautlaw32.PhyloClades", spec := "phyloClades", unfollowed := true, recurses := true, named := ["internal/strconv.uint64pow10", "math/bits.deBruijn32tab", "math/bits.deBruijn64tab"], apart := false, laid := [("math/bits.deBruijn32tab", laid_math_bits_deBruijn32tab), ("math/bits.deBruijn64tab", laid_math_bits_deBruijn64tab), ("internal/strconv.uint64pow10", laid_internal_strconv_uint64pow10)], narrowed := true }
def PhyloCladesUptoSaid : Prop := phyloCladesUptoRow.holds Tryd.pinned (OpenSpec.upto phyloCladesSpec)

end Rows
end Go.Proofs.YtnabbmdhhddfbaaDoor
