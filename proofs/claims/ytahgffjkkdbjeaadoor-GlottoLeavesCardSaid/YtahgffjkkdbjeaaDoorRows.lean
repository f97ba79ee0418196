/-
  NARROWER THAN 'FOR EVERY INPUT', by the rows' own cells (each row's printed sentence says how): GlottoAsks: laid · GlottoScale: laid · GlottoRanks: laid · GlottoOwn: laid · GlottoMerges: laid · GlottoLeaves: laid · GlottoShares: laid · GlottoTrees: laid · GlottoRises: laid · GlottoClock: laid · GlottoGreat: laid.
  DERIVED. THE GIVEN ROWS OF THIS SEAT. 11 by the template 'for every input the law returns true; each argument reads behind the call as it read before'; 0 by the template 'total and deterministic' (their statements: YtahgffjkkdbjeaaDoorTotals.lean).
  GIVEN WITH THE SEED: the statements are not yours to turn. If you find one false, say at which input.
  Laid BY PROGRAM, IN A SANDBOX (cutbox-rows.mjs): the forced cells as the released guide's own fill.sh prints them over the translation 98377d0d51a74991… (all of the seat's roots in one cut). By AI agents, Wed Nov 11 2026. No macro, syntax, notation, axiom, sorry.
-/
import Derived.Test.YtahgffjkkdbjeaaDoorChecked
import GoSem.Claim
import GoSem.ClaimJoined
import GoSem.ClaimMapViews
import Derived.JoinedTies
import Derived.KernelRfl
namespace Go.Proofs.YtahgffjkkdbjeaaDoor
/- THE CELL 'sum', in the pinned program and in every row, IS THE sha256 OF THE DUMP (.gsa) THAT YtahgffjkkdbjeaaDoorProg.lean LOADS. Nothing in Lean hashes anything: it is a label: what it is worth is what the hold of that sum in a sandbox is worth. -/
noncomputable def Tryd.pinned : Pinned := { name := "ytahgffjkkdbjeaadoor", sum := "98377d0d51a7499186932c88262c1f115277adb2433ab0269d7cc8060a12d89b", checked := Tryd.checked }
namespace Rows
def none {H : Type} : Left H := { results := [], args := [] }

/- WHAT THE LISTED PACKAGE-LEVEL VARIABLES READ AS WHEN THE CALL BEGINS. Each datum BY PROGRAM (the guide's laid-datum.mjs) off the statement by which the dump's own 'gosem.cut.vars' lays the variable. In a bare row this is a premise. The card (YtahgffjkkdbjeaaDoorCards.lean) ties it to the program's text. -/
def laid_math_bits_deBruijn32tab {H : Type} : DataW H := .agg [.lit (.int .u8 0), .lit (.int .u8 1), .lit (.int .u8 28), .lit (.int .u8 2), .lit (.int .u8 29), .lit (.int .u8 14), .lit (.int .u8 24), .lit (.int .u8 3), .lit (.int .u8 30), .lit (.int .u8 22), .lit (.int .u8 20), .lit (.int .u8 15), .lit (.int .u8 25), .lit (.int .u8 17), .lit (.int .u8 4), .lit (.int .u8 8), .lit (.int .u8 31), .lit (.int .u8 27), .lit (.int .u8 13), .lit (.int .u8 23), .lit (.int .u8 21), .lit (.int .u8 19), .lit (.int .u8 16), .lit (.int .u8 7), .lit (.int .u8 26), .lit (.int .u8 12), .lit (.int .u8 18), .lit (.int .u8 6), .lit (.int .u8 11), .lit (.int .u8 5), .lit (.int .u8 10), .lit (.int .u8 9)]
def laid_math_bits_deBruijn64tab {H : Type} : DataW H := .agg [.lit (.int .u8 0), .lit (.int .u8 1), .lit (.int .u8 56), .lit (.int .u8 2), .lit (.int .u8 57), .lit (.int .u8 49), .lit (.int .u8 28), .lit (.int .u8 3), .lit (.int .u8 61), .lit (.int .u8 58), .lit (.int .u8 42), .lit (.int .u8 50), .lit (.int .u8 38), .lit (.int .u8 29), .lit (.int .u8 17), .lit (.int .u8 4), .lit (.int .u8 62), .lit (.int .u8 47), .lit (.int .u8 59), .lit (.int .u8 36), .lit (.int .u8 45), .lit (.int .u8 43), .lit (.int .u8 51), .lit (.int .u8 22), .lit (.int .u8 53), .lit (.int .u8 39), .lit (.int .u8 33), .lit (.int .u8 30), .lit (.int .u8 24), .lit (.int .u8 18), .lit (.int .u8 12), .lit (.int .u8 5), .lit (.int .u8 63), .lit (.int .u8 55), .lit (.int .u8 48), .lit (.int .u8 27), .lit (.int .u8 60), .lit (.int .u8 41), .lit (.int .u8 37), .lit (.int .u8 16), .lit (.int .u8 46), .lit (.int .u8 35), .lit (.int .u8 44), .lit (.int .u8 21), .lit (.int .u8 52), .lit (.int .u8 32), .lit (.int .u8 23), .lit (.int .u8 11), .lit (.int .u8 54), .lit (.int .u8 26), .lit (.int .u8 40), .lit (.int .u8 15), .lit (.int .u8 34), .lit (.int .u8 20), .lit (.int .u8 31), .lit (.int .u8 10), .lit (.int .u8 25), .lit (.int .u8 14), .lit (.int .u8 19), .lit (.int .u8 9), .lit (.int .u8 13), .lit (.int .u8 8), .lit (.int .u8 7), .lit (.int .u8 6)]
def laid_internal_strconv_uint64pow10 {H : Type} : DataW H := .agg [.lit (.int .u64 1), .lit (.int .u64 10), .lit (.int .u64 100), .lit (.int .u64 1000), .lit (.int .u64 10000), .lit (.int .u64 100000), .lit (.int .u64 1000000), .lit (.int .u64 10000000), .lit (.int .u64 100000000), .lit (.int .u64 1000000000), .lit (.int .u64 10000000000), .lit (.int .u64 100000000000), .lit (.int .u64 1000000000000), .lit (.int .u64 10000000000000), .lit (.int .u64 100000000000000), .lit (.int .u64 1000000000000000), .lit (.int .u64 10000000000000000), .lit (.int .u64 100000000000000000), .lit (.int .u64 1000000000000000000), .lit (.int .u64 10000000000000000000)]

/-- 'ablautlaw35.GlottoAsks': WHATEVER THE INPUT: true; the input reads as it did. -/
def glottoAsksSpec : ChangeSpec := { name := "glottoAsks", fn := fun _ => fun
  | [d1, d2, d3] => { results := [.lit (.bool true)], args := [d1, d2, d3] }
  | _ => none }
def glottoAsksRow : OpenClaim := { program := "ytahgffjkkdbjeaadoor", sum := "98377d0d51a7499186932c88262c1f115277adb2433ab0269d7cc8060a12d89b", func := "ablaut/ablautlaw35.GlottoAsks", spec := "glottoAsks", unfollowed := true, recurses := true, named := ["internal/strconv.uint64pow10", "math/bits.deBruijn32tab", "math/bits.deBruijn64tab"], apart := false, laid := [("math/bits.deBruijn32tab", laid_math_bits_deBruijn32tab), ("math/bits.deBruijn64tab", laid_math_bits_deBruijn64tab), ("internal/strconv.uint64pow10", laid_internal_strconv_uint64pow10)] }
def GlottoAsksSaid : Prop := glottoAsksRow.holds Tryd.pinned (OpenSpec.ofChange glottoAsksSpec)

/-- ITS FALSE NEIGHBOUR: 'it returns false'. Refute it at one input. -/
def glottoAsksWrong : ChangeSpec := { name := "glottoAsks", fn := fun _ => fun
  | [d1, d2, d3] => { results := [.lit (.bool false)], args := [d1, d2, d3] }
  | _ => none }
def GlottoAsksWrongFalsely : Prop := glottoAsksRow.holds Tryd.pinned (OpenSpec.ofChange glottoAsksWrong)

/-- 'ablautlaw35.GlottoScale': WHATEVER THE INPUT: true; the input reads as it did. -/
def glottoScaleSpec : ChangeSpec := { name := "glottoScale", fn := fun _ => fun
  | [d1, d2, d3, d4, d5] => { results := [.lit (.bool true)], args := [d1, d2, d3, d4, d5] }
  | _ => none }
def glottoScaleRow : OpenClaim := { program := "ytahgffjkkdbjeaadoor", sum := "98377d0d51a7499186932c88262c1f115277adb2433ab0269d7cc8060a12d89b", func := "ablaut/ablautlaw35.GlottoScale", spec := "glottoScale", unfollowed := true, recurses := true, named := ["internal/strconv.uint64pow10", "math/bits.deBruijn32tab", "math/bits.deBruijn64tab"], apart := false, laid := [("math/bits.deBruijn32tab", laid_math_bits_deBruijn32tab), ("math/bits.deBruijn64tab", laid_math_bits_deBruijn64tab), ("internal/strconv.uint64pow10", laid_internal_strconv_uint64pow10)] }
def GlottoScaleSaid : Prop := glottoScaleRow.holds Tryd.pinned (OpenSpec.ofChange glottoScaleSpec)

/-- ITS FALSE NEIGHBOUR: 'it returns false'. Refute it at one input. -/
def glottoScaleWrong : ChangeSpec := { name := "glottoScale", fn := fun _ => fun
  | [d1, d2, d3, d4, d5] => { results := [.lit (.bool false)], args := [d1, d2, d3, d4, d5] }
  | _ => none }
def GlottoScaleWrongFalsely : Prop := glottoScaleRow.holds Tryd.pinned (OpenSpec.ofChange glottoScaleWrong)

/-- 'ablautlaw35.GlottoRanks': WHATEVER THE INPUT: true; the input reads as it did. -/
def glottoRanksSpec : ChangeSpec := { name := "glottoRanks", fn := fun _ => fun
  | [d1, d2, d3, d4] => { results := [.lit (.bool true)], args := [d1, d2, d3, d4] }
  | _ => none }
def glottoRanksRow : OpenClaim := { program := "ytahgffjkkdbjeaadoor", sum := "98377d0d51a7499186932c88262c1f115277adb2433ab0269d7cc8060a12d89b", func := "ablaut/ablautlaw35.GlottoRanks", spec := "glottoRanks", unfollowed := true, recurses := true, named := ["internal/strconv.uint64pow10", "math/bits.deBruijn32tab", "math/bits.deBruijn64tab"], apart := false, laid := [("math/bits.deBruijn32tab", laid_math_bits_deBruijn32tab), ("math/bits.deBruijn64tab", laid_math_bits_deBruijn64tab), ("internal/strconv.uint64pow10", laid_internal_strconv_uint64pow10)] }
def GlottoRanksSaid : Prop := glottoRanksRow.holds Tryd.pinned (OpenSpec.ofChange glottoRanksSpec)

/-- ITS FALSE NEIGHBOUR: 'it returns false'. Refute it at one input. -/
def glottoRanksWrong : ChangeSpec := { name := "glottoRanks", fn := fun _ => fun
  | [d1, d2, d3, d4] => { results := [.lit (.bool false)], args := [d1, d2, d3, d4] }
  | _ => none }
def GlottoRanksWrongFalsely : Prop := glottoRanksRow.holds Tryd.pinned (OpenSpec.ofChange glottoRanksWrong)

/-- 'ablautlaw35.GlottoOwn': WHATEVER THE INPUT: true; the input reads as it did. -/
def glottoOwnSpec : ChangeSpec := { name := "glottoOwn", fn := fun _ => fun
  | [d1, d2, d3] => { results := [.lit (.bool true)], args := [d1, d2, d3] }
  | _ => none }
def glottoOwnRow : OpenClaim := { program := "ytahgffjkkdbjeaadoor", sum := "98377d0d51a7499186932c88262c1f115277adb2433ab0269d7cc8060a12d89b", func := "ablaut/ablautlaw35.GlottoOwn", spec := "glottoOwn", unfollowed := true, recurses := true, named := ["internal/strconv.uint64pow10", "math/bits.deBruijn32tab", "math/bits.deBruijn64tab"], apart := false, laid := [("math/bits.deBruijn32tab", laid_math_bits_deBruijn32tab), ("math/bits.deBruijn64tab", laid_math_bits_deBruijn64tab), ("internal/strconv.uint64pow10", laid_internal_strconv_uint64pow10)] }
def GlottoOwnSaid : Prop := glottoOwnRow.holds Tryd.pinned (OpenSpec.ofChange glottoOwnSpec)

/-- ITS FALSE NEIGHBOUR: 'it returns false'. Refute it at one input. -/
def glottoOwnWrong : ChangeSpec := { name := "glottoOwn", fn := fun _ => fun
  | [d1, d2, d3] => { results := [.lit (.bool false)], args := [d1, d2, d3] }
  | _ => none }
def GlottoOwnWrongFalsely : Prop := glottoOwnRow.holds Tryd.pinned (OpenSpec.ofChange glottoOwnWrong)

/-- 'ablautlaw35.GlottoMerges': WHATEVER THE INPUT: true; the input reads as it did. -/
def glottoMergesSpec : ChangeSpec := { name := "glottoMerges", fn := fun _ => fun
  | [d1, d2] => { results := [.lit (.bool true)], args := [d1, d2] }
  | _ => none }
def glottoMergesRow : OpenClaim := { program := "ytahgffjkkdbjeaadoor", sum := "98377d0d51a7499186932c88262c1f115277adb2433ab0269d7cc8060a12d89b", func := "ablaut/ablautlaw35.GlottoMerges", spec := "glottoMerges", unfollowed := true, recurses := true, named := ["internal/strconv.uint64pow10", "math/bits.deBruijn32tab", "math/bits.deBruijn64tab"], apart := false, laid := [("math/bits.deBruijn32tab", laid_math_bits_deBruijn32tab), ("math/bits.deBruijn64tab", laid_math_bits_deBruijn64tab), ("internal/strconv.uint64pow10", laid_internal_strconv_uint64pow10)] }
def GlottoMergesSaid : Prop := glottoMergesRow.holds Tryd.pinned (OpenSpec.ofChange glottoMergesSpec)

/-- ITS FALSE NEIGHBOUR: 'it returns false'. Refute it at one input. -/
def glottoMergesWrong : ChangeSpec := { name := "glottoMerges", fn := fun _ => fun
  | [d1, d2] => { results := [.lit (.bool false)], args := [d1, d2] }
  | _ => none }
def GlottoMergesWrongFalsely : Prop := glottoMergesRow.holds Tryd.pinned (OpenSpec.ofChange glottoMergesWrong)

/-- 'ablautlaw35.GlottoLeaves': WHATEVER THE INPUT: true; the input reads as it did. -/
def glottoLeavesSpec : ChangeSpec := { name := "glottoLeaves", fn := fun _ => fun
  | [d1, d2, d3] => { results := [.lit (.bool true)], args := [d1, d2, d3] }
  | _ => none }
def glottoLeavesRow : OpenClaim := { program := "ytahgffjkkdbjeaadoor", sum := "98377d0d51a7499186932c88262c1f115277adb2433ab0269d7cc8060a12d89b", func := "ablaut/ablautlaw35.GlottoLeaves", spec := "glottoLeaves", unfollowed := true, recurses := true, named := ["internal/strconv.uint64pow10", "math/bits.deBruijn32tab", "math/bits.deBruijn64tab"], apart := false, laid := [("math/bits.deBruijn32tab", laid_math_bits_deBruijn32tab), ("math/bits.deBruijn64tab", laid_math_bits_deBruijn64tab), ("internal/strconv.uint64pow10", laid_internal_strconv_uint64pow10)] }
def GlottoLeavesSaid : Prop := glottoLeavesRow.holds Tryd.pinned (OpenSpec.ofChange glottoLeavesSpec)

/-- ITS FALSE NEIGHBOUR: 'it returns false'. Refute it at one input. -/
def glottoLeavesWrong : ChangeSpec := { name := "glottoLeaves", fn := fun _ => fun
  | [d1, d2, d3] => { results := [.lit (.bool false)], args := [d1, d2, d3] }
  | _ => none }
def GlottoLeavesWrongFalsely : Prop := glottoLeavesRow.holds Tryd.pinned (OpenSpec.ofChange glottoLeavesWrong)

/-- 'ablautlaw35.GlottoShares': WHATEVER THE INPUT: true; the input reads as it did. -/
def glottoSharesSpec : ChangeSpec := { name := "glottoShares", fn := fun _ => fun
  | [d] => { results := [.lit (.bool true)], args := [d] }
  | _ => none }
def glottoSharesRow : OpenClaim := { program := "ytahgffjkkdbjeaadoor", sum := "98377d0d51a7499186932c88262c1f115277adb2433ab0269d7cc8060a12d89b", func := "ablaut/ablautlaw35.GlottoShares", spec := "glottoShares", unfollowed := true, recurses := true, named := ["internal/strconv.uint64pow10", "math/bits.deBruijn32tab", "math/bits.deBruijn64tab"], apart := false, laid := [("math/bits.deBruijn32tab", laid_math_bits_deBruijn32tab), ("math/bits.deBruijn64tab", laid_math_bits_deBruijn64tab), ("internal/strconv.uint64pow10", laid_internal_strconv_uint64pow10)] }
def GlottoSharesSaid : Prop := glottoSharesRow.holds Tryd.pinned (OpenSpec.ofChange glottoSharesSpec)

/-- ITS FALSE NEIGHBOUR: 'it returns false'. Refute it at one input. -/
def glottoSharesWrong : ChangeSpec := { name := "glottoShares", fn := fun _ => fun
  | [d] => { results := [.lit (.bool false)], args := [d] }
  | _ => none }
def GlottoSharesWrongFalsely : Prop := glottoSharesRow.holds Tryd.pinned (OpenSpec.ofChange glottoSharesWrong)

/-- 'ablautlaw35.GlottoTrees': WHATEVER THE INPUT: true; the input reads as it did. -/
def glottoTreesSpec : ChangeSpec := { name := "glottoTrees", fn := fun _ => fun
  | [d1, d2, d3] => { results := [.lit (.bool true)], args := [d1, d2, d3] }
  | _ => none }
def glottoTreesRow : OpenClaim := { program := "ytahgffjkkdbjeaadoor", sum := "98377d0d51a7499186932c88262c1f115277adb2433ab0269d7cc8060a12d89b", func := "ablaut/ablautlaw35.GlottoTrees", spec := "glottoTrees", unfollowed := true, recurses := true, named := ["internal/strconv.uint64pow10", "math/bits.deBruijn32tab", "math/bits.deBruijn64tab"], apart := false, laid := [("math/bits.deBruijn32tab", laid_math_bits_deBruijn32tab), ("math/bits.deBruijn64tab", laid_math_bits_deBruijn64tab), ("internal/strconv.uint64pow10", laid_internal_strconv_uint64pow10)] }
def GlottoTreesSaid : Prop := glottoTreesRow.holds Tryd.pinned (OpenSpec.ofChange glottoTreesSpec)

/-- ITS FALSE NEIGHBOUR: 'it returns false'. Refute it at one input. -/
def glottoTreesWrong : ChangeSpec := { name := "glottoTrees", fn := fun _ => fun
  | [d1, d2, d3] => { results := [.lit (.bool false)], args := [d1, d2, d3] }
  | _ => none }
def GlottoTreesWrongFalsely : Prop := glottoTreesRow.holds Tryd.pinned (OpenSpec.ofChange glottoTreesWrong)

/-- 'ablautlaw35.GlottoRises': WHATEVER THE INPUT: true; the input reads as it did. -/
def glottoRisesSpec : ChangeSpec := { name := "glottoRises", fn := fun _ => fun
  | [d1, d2, d3] => { results := [.lit (.bool true)], args := [d1, d2, d3] }
  | _ => none }
def glottoRisesRow : OpenClaim := { program := "ytahgffjkkdbjeaadoor", sum := "98377d0d51a7499186932c88262c1f115277adb2433ab0269d7cc8060a12d89b", func := "ablaut/ablautlaw35.GlottoRises", spec := "glottoRises", unfollowed := true, recurses := true, named := ["internal/strconv.uint64pow10", "math/bits.deBruijn32tab", "math/bits.deBruijn64tab"], apart := false, laid := [("math/bits.deBruijn32tab", laid_math_bits_deBruijn32tab), ("math/bits.deBruijn64tab", laid_math_bits_deBruijn64tab), ("internal/strconv.uint64pow10", laid_internal_strconv_uint64pow10)] }
def GlottoRisesSaid : Prop := glottoRisesRow.holds Tryd.pinned (OpenSpec.ofChange glottoRisesSpec)

/-- ITS FALSE NEIGHBOUR: 'it returns false'. Refute it at one input. -/
def glottoRisesWrong : ChangeSpec := { name := "glottoRises", fn := fun _ => fun
  | [d1, d2, d3] => { results := [.lit (.bool false)], args := [d1, d2, d3] }
  | _ => none }
def GlottoRisesWrongFalsely : Prop := glottoRisesRow.holds Tryd.pinned (OpenSpec.ofChange glottoRisesWrong)

/-- 'ablautlaw35.GlottoClock': WHATEVER THE INPUT: true; the input reads as it did. -/
def glottoClockSpec : ChangeSpec := { name := "glottoClock", fn := fun _ => fun
  | [d1, d2, d3, d4, d5] => { results := [.lit (.bool true)], args := [d1, d2, d3, d4, d5] }
  | _ => none }
def glottoClockRow : OpenClaim := { program := "ytahgffjkkdbjeaadoor", sum := "98377d0d51a7499186932c88262c1f115277adb2433ab0269d7cc8060a12d89b", func := "ablaut/ablautlaw35.GlottoClock", spec := "glottoClock", unfollowed := true, recurses := true, named := ["internal/strconv.uint64pow10", "math/bits.deBruijn32tab", "math/bits.deBruijn64tab"], apart := false, laid := [("math/bits.deBruijn32tab", laid_math_bits_deBruijn32tab), ("math/bits.deBruijn64tab", laid_math_bits_deBruijn64tab), ("internal/strconv.uint64pow10", laid_internal_strconv_uint64pow10)] }
def GlottoClockSaid : Prop := glottoClockRow.holds Tryd.pinned (OpenSpec.ofChange glottoClockSpec)

/-- ITS FALSE NEIGHBOUR: 'it returns false'. Refute it at one input. -/
def glottoClockWrong : ChangeSpec := { name := "glottoClock", fn := fun _ => fun
  | [d1, d2, d3, d4, d5] => { results := [.lit (.bool false)], args := [d1, d2, d3, d4, d5] }
  | _ => none }
def GlottoClockWrongFalsely : Prop := glottoClockRow.holds Tryd.pinned (OpenSpec.ofChange glottoClockWrong)

/-- 'ablautlaw35.GlottoGreat': WHATEVER THE INPUT: true; the input reads as it did. -/
def glottoGreatSpec : ChangeSpec := { name := "glottoGreat", fn := fun _ => fun
  | [d1, d2] => { results := [.lit (.bool true)], args := [d1, d2] }
  | _ => none }
def glottoGreatRow : OpenClaim := { program := "ytahgffjkkdbjeaadoor", sum := "98377d0d51a7499186932c88262c1f115277adb2433ab0269d7cc8060a12d89b", func := "ablaut/ablautlaw35.GlottoGreat", spec := "glottoGreat", unfollowed := true, recurses := true, named := ["internal/strconv.uint64pow10", "math/bits.deBruijn32tab", "math/bits.deBruijn64tab"], apart := false, laid := [("math/bits.deBruijn32tab", laid_math_bits_deBruijn32tab), ("math/bits.deBruijn64tab", laid_math_bits_deBruijn64tab), ("internal/strconv.uint64pow10", laid_internal_strconv_uint64pow10)] }
def GlottoGreatSaid : Prop := glottoGreatRow.holds Tryd.pinned (OpenSpec.ofChange glottoGreatSpec)

/-- ITS FALSE NEIGHBOUR: 'it returns false'. Refute it at one input. -/
def glottoGreatWrong : ChangeSpec := { name := "glottoGreat", fn := fun _ => fun
  | [d1, d2] => { results := [.lit (.bool false)], args := [d1, d2] }
  | _ => none }
def GlottoGreatWrongFalsely : Prop := glottoGreatRow.holds Tryd.pinned (OpenSpec.ofChange glottoGreatWrong)

/- THE SECOND FORM. 'bulk': how many values and letters a reading holds, each counted each time it is reached (what is shared counts as often as it is met; a slice's spare places count too). A statement '..UptoSaid' is the law's where the arguments, and the package variables that the reading takes, are together of bulk at most 1048576: NARROWER than '..Said'. Prove '..Said' where nothing that the law and all that it calls make is longer than what came in: it says more and counts as full. Else prove '..UptoSaid'. A law counts once. -/
mutual
def uptoBulk {H : Type} : DataW H → Nat
  | .lit (.string bytes) => bytes.length + 1
  | .lit _ => 1
  | .nil => 1
  | .ptr d => uptoBulk d + 1
  | .slice elems spare => uptoBulkAll elems + uptoBulkAll spare + 1
  | .agg parts => uptoBulkAll parts + 1
  | .iface _ d => uptoBulk d + 1
  | .map entries => uptoBulkEntries entries + 1
  | .held _ => 1
def uptoBulkAll {H : Type} : List (DataW H) → Nat
  | [] => 0
  | d :: r => uptoBulk d + uptoBulkAll r
def uptoBulkEntries {H : Type} : List (Lit × DataW H) → Nat
  | [] => 0
  | x :: r => uptoBulkEntry x + uptoBulkEntries r
def uptoBulkEntry {H : Type} : Lit × DataW H → Nat
  | (.string bytes, d) => bytes.length + uptoBulk d + 1
  | (_, d) => uptoBulk d + 1
 end
def uptoSmall : (H : Type) → List (DataW H) → Bool := fun _ ds => decide (uptoBulkAll ds ≤ 1048576)
def OpenSpec.upto (s : _root_.Go.ChangeSpec) : _root_.Go.OpenSpec := { _root_.Go.OpenSpec.ofChange s with cond := some uptoSmall }

/-- 'ablautlaw35.GlottoAsks', WHERE WHAT IT READS IS OF BULK AT MOST 1048576: true; the input reads as it did. -/
def glottoAsksUptoRow : OpenClaim := { program := "ytahgffjkkdbjeaadoor", sum := "98377d0d51a7499186932c88262c1f115277adb2433ab0269d7cc8060a12d89b", func := "ablaut/ablautlaw35.GlottoAsks", spec := "glottoAsks", unfollowed := true, recurses := true, named := ["internal/strconv.uint64pow10", "math/bits.deBruijn32tab", "math/bits.deBruijn64tab"], apart := false, laid := [("math/bits.deBruijn32tab", laid_math_bits_deBruijn32tab), ("math/bits.deBruijn64tab", laid_math_bits_deBruijn64tab), ("internal/strconv.uint64pow10", laid_internal_strconv_uint64pow10)], narrowed := true }
def GlottoAsksUptoSaid : Prop := glottoAsksUptoRow.holds Tryd.pinned (OpenSpec.upto glottoAsksSpec)

/-- 'ablautlaw35.GlottoScale', WHERE WHAT IT READS IS OF BULK AT MOST 1048576: true; the input reads as it did. -/
def glottoScaleUptoRow : OpenClaim := { program := "ytahgffjkkdbjeaadoor", sum := "98377d0d51a7499186932c88262c1f115277adb2433ab0269d7cc8060a12d89b", func := "ablaut/ablautlaw35.GlottoScale", spec := "glottoScale", unfollowed := true, recurses := true, named := ["internal/strconv.uint64pow10", "math/bits.deBruijn32tab", "math/bits.deBruijn64tab"], apart := false, laid := [("math/bits.deBruijn32tab", laid_math_bits_deBruijn32tab), ("math/bits.deBruijn64tab", laid_math_bits_deBruijn64tab), ("internal/strconv.uint64pow10", laid_internal_strconv_uint64pow10)], narrowed := true }
def GlottoScaleUptoSaid : Prop := glottoScaleUptoRow.holds Tryd.pinned (OpenSpec.upto glottoScaleSpec)

/-- 'ablautlaw35.GlottoRanks', WHERE WHAT IT READS IS OF BULK AT MOST 1048576: true; the input reads as it did. -/
def glottoRanksUptoRow : OpenClaim := { program := "ytahgffjkkdbjeaadoor", sum := "98377d0d51a7499186932c88262c1f115277adb2433ab0269d7cc8060a12d89b", func := "ablaut/ablautlaw35.GlottoRanks", spec := "glottoRanks", unfollowed := true, recurses := true, named := ["internal/strconv.uint64pow10", "math/bits.deBruijn32tab", "math/bits.deBruijn64tab"], apart := false, laid := [("math/bits.deBruijn32tab", laid_math_bits_deBruijn32tab), ("math/bits.deBruijn64tab", laid_math_bits_deBruijn64tab), ("internal/strconv.uint64pow10", laid_internal_strconv_uint64pow10)], narrowed := true }
def GlottoRanksUptoSaid : Prop := glottoRanksUptoRow.holds Tryd.pinned (OpenSpec.upto glottoRanksSpec)

/-- 'ablautlaw35.GlottoOwn', WHERE WHAT IT READS IS OF BULK AT MOST 1048576: true; the input reads as it did. -/
def glottoOwnUptoRow : OpenClaim := { program := "ytahgffjkkdbjeaadoor", sum := "98377d0d51a7499186932c88262c1f115277adb2433ab0269d7cc8060a12d89b", func := "ablaut/ablautlaw35.GlottoOwn", spec := "glottoOwn", unfollowed := true, recurses := true, named := ["internal/strconv.uint64pow10", "math/bits.deBruijn32tab", "math/bits.deBruijn64tab"], apart := false, laid := [("math/bits.deBruijn32tab", laid_math_bits_deBruijn32tab), ("math/bits.deBruijn64tab", laid_math_bits_deBruijn64tab), ("internal/strconv.uint64pow10", laid_internal_strconv_uint64pow10)], narrowed := true }
def GlottoOwnUptoSaid : Prop := glottoOwnUptoRow.holds Tryd.pinned (OpenSpec.upto glottoOwnSpec)

/-- 'ablautlaw35.GlottoMerges', WHERE WHAT IT READS IS OF BULK AT MOST 1048576: true; the input reads as it did. -/
def glottoMergesUptoRow : OpenClaim := { program := "ytahgffjkkdbjeaadoor", sum := "98377d0d51a7499186932c88262c1f115277adb2433ab0269d7cc8060a12d89b", func := "ablaut/ablautlaw35.GlottoMerges", spec := "glottoMerges", unfollowed := true, recurses := true, named := ["internal/strconv.uint64pow10", "math/bits.deBruijn32tab", "math/bits.deBruijn64tab"], apart := false, laid := [("math/bits.deBruijn32tab", laid_math_bits_deBruijn32tab), ("math/bits.deBruijn64tab", laid_math_bits_deBruijn64tab), ("internal/strconv.uint64pow10", laid_internal_strconv_uint64pow10)], narrowed := true }
def GlottoMergesUptoSaid : Prop := glottoMergesUptoRow.holds Tryd.pinned (OpenSpec.upto glottoMergesSpec)

/-- 'ablautlaw35.GlottoLeaves', WHERE WHAT IT READS IS OF BULK AT MOST 1048576: true; the input reads as it did. -/
def glottoLeavesUptoRow : OpenClaim := { program := "ytahgffjkkdbjeaadoor", sum := "98377d0d51a7499186932c88262c1f115277adb2433ab0269d7cc8060a12d89b", func := "ablaut/ablautlaw35.GlottoLeaves", spec := "glottoLeaves", unfollowed := true, recurses := true, named := ["internal/strconv.uint64pow10", "math/bits.deBruijn32tab", "math/bits.deBruijn64tab"], apart := false, laid := [("math/bits.deBruijn32tab", laid_math_bits_deBruijn32tab), ("math/bits.deBruijn64tab", laid_math_bits_deBruijn64tab), ("internal/strconv.uint64pow10", laid_internal_strconv_uint64pow10)], narrowed := true }
def GlottoLeavesUptoSaid : Prop := glottoLeavesUptoRow.holds Tryd.pinned (OpenSpec.upto glottoLeavesSpec)

/-- 'ablautlaw35.GlottoShares', WHERE WHAT IT READS IS OF BULK AT MOST 1048576: true; the input reads as it did. -/
def glottoSharesUptoRow : OpenClaim := { program := "ytahgffjkkdbjeaadoor", sum := "98377d0d51a7499186932c88262c1f115277adb2433ab0269d7cc8060a12d89b", func := "ablaut/ablautlaw35.GlottoShares", spec := "glottoShares", unfollowed := true, recurses := true, named := ["internal/strconv.uint64pow10", "math/bits.deBruijn32tab", "math/bits.deBruijn64tab"], apart := false, laid := [("math/bits.deBruijn32tab", laid_math_bits_deBruijn32tab), ("math/bits.deBruijn64tab", laid_math_bits_deBruijn64tab), ("internal/strconv.uint64pow10", laid_internal_strconv_uint64pow10)], narrowed := true }
def GlottoSharesUptoSaid : Prop := glottoSharesUptoRow.holds Tryd.pinned (OpenSpec.upto glottoSharesSpec)

/-- 'ablautlaw35.GlottoTrees', WHERE WHAT IT READS IS OF BULK AT MOST 1048576: true; the input reads as it did. -/
def glottoTreesUptoRow : OpenClaim := { program := "ytahgffjkkdbjeaadoor", sum := "98377d0d51a7499186932c88262c1f115277adb2433ab0269d7cc8060a12d89b", func := "ablaut/ablautlaw35.GlottoTrees", spec := "glottoTrees", unfollowed := true, recurses := true, named := ["internal/strconv.uint64pow10", "math/bits.deBruijn32tab", "math/bits.deBruijn64tab"], apart := false, laid := [("math/bits.deBruijn32tab", laid_math_bits_deBruijn32tab), ("math/bits.deBruijn64tab", laid_math_bits_deBruijn64tab), ("internal/strconv.uint64pow10", laid_internal_strconv_uint64pow10)], narrowed := true }
def GlottoTreesUptoSaid : Prop := glottoTreesUptoRow.holds Tryd.pinned (OpenSpec.upto glottoTreesSpec)

/-- 'ablautlaw35.GlottoRises', WHERE WHAT IT READS IS OF BULK AT MOST 1048576: true; the input reads as it did. -/
def glottoRisesUptoRow : OpenClaim := { program := "ytahgffjkkdbjeaadoor", sum := "98377d0d51a7499186932c88262c1f115277adb2433ab0269d7cc8060a12d89b", func := "ablaut/ablautlaw35.GlottoRises", spec := "glottoRises", unfollowed := true, recurses := true, named := ["internal/strconv.uint64pow10", "math/bits.deBruijn32tab", "math/bits.deBruijn64tab"], apart := false, laid := [("math/bits.deBruijn32tab", laid_math_bits_deBruijn32tab), ("math/bits.deBruijn64tab", laid_math_bits_deBruijn64tab), ("internal/strconv.uint64pow10", laid_internal_strconv_uint64pow10)], narrowed := true }
def GlottoRisesUptoSaid : Prop := glottoRisesUptoRow.holds Tryd.pinned (OpenSpec.upto glottoRisesSpec)

/-- 'ablautlaw35.GlottoClock', WHERE WHAT IT READS IS OF BULK AT MOST 1048576: true; the input reads as it did. -/
def glottoClockUptoRow : OpenClaim := { program := "ytahgffjkkdbjeaadoor", sum := "98377d0d51a7499186932c88262c1f115277adb2433ab0269d7cc8060a12d89b", func := "ablaut/ablautlaw35.GlottoClock", spec := "glottoClock", unfollowed := true, recurses := true, named := ["internal/strconv.uint64pow10", "math/bits.deBruijn32tab", "math/bits.deBruijn64tab"], apart := false, laid := [("math/bits.deBruijn32tab", laid_math_bits_deBruijn32tab), ("math/bits.deBruijn64tab", laid_math_bits_deBruijn64tab), ("internal/strconv.uint64pow10", laid_internal_strconv_uint64pow10)], narrowed := true }
def GlottoClockUptoSaid : Prop := glottoClockUptoRow.holds Tryd.pinned (OpenSpec.upto glottoClockSpec)

/-- 'ablautlaw35.GlottoGreat', WHERE WHAT IT READS IS OF BULK AT MOST 1048576: true; the input reads as it did. -/
def glottoGreatUptoRow : OpenClaim := { program := "ytahgffjkkdbjeaadoor", sum := "98377d0d51a7499186932c88262c1f115277adb2433ab0269d7cc8060a12d89b", func := "ablaut/ablautlaw35.GlottoGreat", spec := "glottoGreat", unfollowed := true, recurses := true, named := ["internal/strconv.uint64pow10", "math/bits.deBruijn32tab", "math/bits.deBruijn64tab"], apart := false, laid := [("math/bits.deBruijn32tab", laid_math_bits_deBruijn32tab), ("math/bits.deBruijn64tab", laid_math_bits_deBruijn64tab), ("internal/strconv.uint64pow10", laid_internal_strconv_uint64pow10)], narrowed := true }
def GlottoGreatUptoSaid : Prop := glottoGreatUptoRow.holds Tryd.pinned (OpenSpec.upto glottoGreatSpec)

end Rows
end Go.Proofs.YtahgffjkkdbjeaaDoor
