/-
  NARROWER THAN 'FOR EVERY INPUT', by the rows' own cells (each row's printed sentence says how): EtymSources: laid · EtymWays: laid · EtymInherits: laid · EtymFull: laid · EtymKnown: laid · EtymLoops: laid · EtymNil: laid.
  DERIVED. THE GIVEN ROWS OF THIS SEAT. 7 by the template 'for every input the law returns true; each argument reads behind the call as it read before'; 0 by the template 'total and deterministic' (their statements: YtmfomjaomhohkaaDoorTotals.lean).
  GIVEN WITH THE SEED: the statements are not yours to turn. If you find one false, say at which input.
  Laid BY PROGRAM, IN A SANDBOX (cutbox-rows.mjs): the forced cells as the released guide's own fill.sh prints them over the translation 6f98eceeb92b8af4… (all of the seat's roots in one cut). By AI agents, Wed Nov 11 2026. No macro, syntax, notation, axiom, sorry.
-/
import Derived.Test.YtmfomjaomhohkaaDoorChecked
import GoSem.Claim
import GoSem.ClaimJoined
import GoSem.ClaimMapViews
import Derived.JoinedTies
import Derived.KernelRfl
namespace Go.Proofs.YtmfomjaomhohkaaDoor
/- THE CELL 'sum', in the pinned program and in every row, IS THE sha256 OF THE DUMP (.gsa) THAT YtmfomjaomhohkaaDoorProg.lean LOADS. Nothing in Lean hashes anything: it is a label: what it is worth is what the hold of that sum in a sandbox is worth. -/
noncomputable def Tryd.pinned : Pinned := { name := "ytmfomjaomhohkaadoor", sum := "6f98eceeb92b8af419538dd8eeaca0b42f29ccad9547280ed44328c9e4cc2066", checked := Tryd.checked }
namespace Rows
def none {H : Type} : Left H := { results := [], args := [] }

/- WHAT THE LISTED PACKAGE-LEVEL VARIABLES READ AS WHEN THE CALL BEGINS. Each datum BY PROGRAM (the guide's laid-datum.mjs) off the statement by which the dump's own 'gosem.cut.vars' lays the variable. In a bare row this is a premise. The card (YtmfomjaomhohkaaDoorCards.lean) ties it to the program's text. -/
def laid_math_bits_deBruijn32tab {H : Type} : DataW H := .agg [.lit (.int .u8 0), .lit (.int .u8 1), .lit (.int .u8 28), .lit (.int .u8 2), .lit (.int .u8 29), .lit (.int .u8 14), .lit (.int .u8 24), .lit (.int .u8 3), .lit (.int .u8 30), .lit (.int .u8 22), .lit (.int .u8 20), .lit (.int .u8 15), .lit (.int .u8 25), .lit (.int .u8 17), .lit (.int .u8 4), .lit (.int .u8 8), .lit (.int .u8 31), .lit (.int .u8 27), .lit (.int .u8 13), .lit (.int .u8 23), .lit (.int .u8 21), .lit (.int .u8 19), .lit (.int .u8 16), .lit (.int .u8 7), .lit (.int .u8 26), .lit (.int .u8 12), .lit (.int .u8 18), .lit (.int .u8 6), .lit (.int .u8 11), .lit (.int .u8 5), .lit (.int .u8 10), .lit (.int .u8 9)]
def laid_math_bits_deBruijn64tab {H : Type} : DataW H := .agg [.lit (.int .u8 0), .lit (.int .u8 1), .lit (.int .u8 56), .lit (.int .u8 2), .lit (.int .u8 57), .lit (.int .u8 49), .lit (.int .u8 28), .lit (.int .u8 3), .lit (.int .u8 61), .lit (.int .u8 58), .lit (.int .u8 42), .lit (.int .u8 50), .lit (.int .u8 38), .lit (.int .u8 29), .lit (.int .u8 17), .lit (.int .u8 4), .lit (.int .u8 62), .lit (.int .u8 47), .lit (.int .u8 59), .lit (.int .u8 36), .lit (.int .u8 45), .lit (.int .u8 43), .lit (.int .u8 51), .lit (.int .u8 22), .lit (.int .u8 53), .lit (.int .u8 39), .lit (.int .u8 33), .lit (.int .u8 30), .lit (.int .u8 24), .lit (.int .u8 18), .lit (.int .u8 12), .lit (.int .u8 5), .lit (.int .u8 63), .lit (.int .u8 55), .lit (.int .u8 48), .lit (.int .u8 27), .lit (.int .u8 60), .lit (.int .u8 41), .lit (.int .u8 37), .lit (.int .u8 16), .lit (.int .u8 46), .lit (.int .u8 35), .lit (.int .u8 44), .lit (.int .u8 21), .lit (.int .u8 52), .lit (.int .u8 32), .lit (.int .u8 23), .lit (.int .u8 11), .lit (.int .u8 54), .lit (.int .u8 26), .lit (.int .u8 40), .lit (.int .u8 15), .lit (.int .u8 34), .lit (.int .u8 20), .lit (.int .u8 31), .lit (.int .u8 10), .lit (.int .u8 25), .lit (.int .u8 14), .lit (.int .u8 19), .lit (.int .u8 9), .lit (.int .u8 13), .lit (.int .u8 8), .lit (.int .u8 7), .lit (.int .u8 6)]
def laid_internal_strconv_uint64pow10 {H : Type} : DataW H := .agg [.lit (.int .u64 1), .lit (.int .u64 10), .lit (.int .u64 100), .lit (.int .u64 1000), .lit (.int .u64 10000), .lit (.int .u64 100000), .lit (.int .u64 1000000), .lit (.int .u64 10000000), .lit (.int .u64 100000000), .lit (.int .u64 1000000000), .lit (.int .u64 10000000000), .lit (.int .u64 100000000000), .lit (.int .u64 1000000000000), .lit (.int .u64 10000000000000), .lit (.int .u64 100000000000000), .lit (.int .u64 1000000000000000), .lit (.int .u64 10000000000000000), .lit (.int .u64 100000000000000000), .lit (.int .u64 1000000000000000000), .lit (.int .u64 10000000000000000000)]

/-- 'ablautlaw41.EtymSources': WHATEVER THE INPUT: true; the input reads as it did. -/
def etymSourcesSpec : ChangeSpec := { name := "etymSources", fn := fun _ => fun
  | [d1, d2] => { results := [.lit (.bool true)], args := [d1, d2] }
  | _ => none }
def etymSourcesRow : OpenClaim := { program := "ytmfomjaomhohkaadoor", sum := "6f98eceeb92b8af419538dd8eeaca0b42f29ccad9547280ed44328c9e4cc2066", func := "ablaut/ablautlaw41.EtymSources", spec := "etymSources", inPlace := ["internal/abi.NoEscape"], unfollowed := true, recurses := true, named := ["internal/strconv.uint64pow10", "math/bits.deBruijn32tab", "math/bits.deBruijn64tab"], apart := false, laid := [("math/bits.deBruijn32tab", laid_math_bits_deBruijn32tab), ("math/bits.deBruijn64tab", laid_math_bits_deBruijn64tab), ("internal/strconv.uint64pow10", laid_internal_strconv_uint64pow10)] }
def EtymSourcesSaid : Prop := etymSourcesRow.holds Tryd.pinned (OpenSpec.ofChange etymSourcesSpec)

/-- ITS FALSE NEIGHBOUR: 'it returns false'. Refute it at one input. -/
def etymSourcesWrong : ChangeSpec := { name := "etymSources", fn := fun _ => fun
  | [d1, d2] => { results := [.lit (.bool false)], args := [d1, d2] }
  | _ => none }
def EtymSourcesWrongFalsely : Prop := etymSourcesRow.holds Tryd.pinned (OpenSpec.ofChange etymSourcesWrong)

/-- 'ablautlaw41.EtymWays': WHATEVER THE INPUT: true; the input reads as it did. -/
def etymWaysSpec : ChangeSpec := { name := "etymWays", fn := fun _ => fun
  | [d1, d2, d3, d4] => { results := [.lit (.bool true)], args := [d1, d2, d3, d4] }
  | _ => none }
def etymWaysRow : OpenClaim := { program := "ytmfomjaomhohkaadoor", sum := "6f98eceeb92b8af419538dd8eeaca0b42f29ccad9547280ed44328c9e4cc2066", func := "ablaut/ablautlaw41.EtymWays", spec := "etymWays", inPlace := ["internal/abi.NoEscape"], unfollowed := true, recurses := true, named := ["internal/strconv.uint64pow10", "math/bits.deBruijn32tab", "math/bits.deBruijn64tab"], apart := false, laid := [("math/bits.deBruijn32tab", laid_math_bits_deBruijn32tab), ("math/bits.deBruijn64tab", laid_math_bits_deBruijn64tab), ("internal/strconv.uint64pow10", laid_internal_strconv_uint64pow10)] }
def EtymWaysSaid : Prop := etymWaysRow.holds Tryd.pinned (OpenSpec.ofChange etymWaysSpec)

/-- ITS FALSE NEIGHBOUR: 'it returns false'. Refute it at one input. -/
def etymWaysWrong : ChangeSpec := { name := "etymWays", fn := fun _ => fun
  | [d1, d2, d3, d4] => { results := [.lit (.bool false)], args := [d1, d2, d3, d4] }
  | _ => none }
def EtymWaysWrongFalsely : Prop := etymWaysRow.holds Tryd.pinned (OpenSpec.ofChange etymWaysWrong)

/-- 'ablautlaw41.EtymInherits': WHATEVER THE INPUT: true; the input reads as it did. -/
def etymInheritsSpec : ChangeSpec := { name := "etymInherits", fn := fun _ => fun
  | [d1, d2] => { results := [.lit (.bool true)], args := [d1, d2] }
  | _ => none }
def etymInheritsRow : OpenClaim := { program := "ytmfomjaomhohkaadoor", sum := "6f98eceeb92b8af419538dd8eeaca0b42f29ccad9547280ed44328c9e4cc2066", func := "ablaut/ablautlaw41.EtymInherits", spec := "etymInherits", inPlace := ["internal/abi.NoEscape"], unfollowed := true, recurses := true, named := ["internal/strconv.uint64pow10", "math/bits.deBruijn32tab", "math/bits.deBruijn64tab"], apart := false, laid := [("math/bits.deBruijn32tab", laid_math_bits_deBruijn32tab), ("math/bits.deBruijn64tab", laid_math_bits_deBruijn64tab), ("internal/strconv.uint64pow10", laid_internal_strconv_uint64pow10)] }
def EtymInheritsSaid : Prop := etymInheritsRow.holds Tryd.pinned (OpenSpec.ofChange etymInheritsSpec)

/-- ITS FALSE NEIGHBOUR: 'it returns false'. Refute it at one input. -/
def etymInheritsWrong : ChangeSpec := { name := "etymInherits", fn := fun _ => fun
  | [d1, d2] => { results := [.lit (.bool false)], args := [d1, d2] }
  | _ => none }
def EtymInheritsWrongFalsely : Prop := etymInheritsRow.holds Tryd.pinned (OpenSpec.ofChange etymInheritsWrong)

/-- 'ablautlaw41.EtymFull': WHATEVER THE INPUT: true; the input reads as it did. -/
def etymFullSpec : ChangeSpec := { name := "etymFull", fn := fun _ => fun
  | [] => { results := [.lit (.bool true)], args := [] }
  | _ => none }
def etymFullRow : OpenClaim := { program := "ytmfomjaomhohkaadoor", sum := "6f98eceeb92b8af419538dd8eeaca0b42f29ccad9547280ed44328c9e4cc2066", func := "ablaut/ablautlaw41.EtymFull", spec := "etymFull", inPlace := ["internal/abi.NoEscape"], unfollowed := true, recurses := true, named := ["internal/strconv.uint64pow10", "math/bits.deBruijn32tab", "math/bits.deBruijn64tab"], apart := false, laid := [("math/bits.deBruijn32tab", laid_math_bits_deBruijn32tab), ("math/bits.deBruijn64tab", laid_math_bits_deBruijn64tab), ("internal/strconv.uint64pow10", laid_internal_strconv_uint64pow10)] }
def EtymFullSaid : Prop := etymFullRow.holds Tryd.pinned (OpenSpec.ofChange etymFullSpec)

/-- ITS FALSE NEIGHBOUR: 'it returns false'. Refute it at one input. -/
def etymFullWrong : ChangeSpec := { name := "etymFull", fn := fun _ => fun
  | [] => { results := [.lit (.bool false)], args := [] }
  | _ => none }
def EtymFullWrongFalsely : Prop := etymFullRow.holds Tryd.pinned (OpenSpec.ofChange etymFullWrong)

/-- 'ablautlaw41.EtymKnown': WHATEVER THE INPUT: true; the input reads as it did. -/
def etymKnownSpec : ChangeSpec := { name := "etymKnown", fn := fun _ => fun
  | [] => { results := [.lit (.bool true)], args := [] }
  | _ => none }
def etymKnownRow : OpenClaim := { program := "ytmfomjaomhohkaadoor", sum := "6f98eceeb92b8af419538dd8eeaca0b42f29ccad9547280ed44328c9e4cc2066", func := "ablaut/ablautlaw41.EtymKnown", spec := "etymKnown", inPlace := ["internal/abi.NoEscape"], unfollowed := true, recurses := true, named := ["internal/strconv.uint64pow10", "math/bits.deBruijn32tab", "math/bits.deBruijn64tab"], apart := false, laid := [("math/bits.deBruijn32tab", laid_math_bits_deBruijn32tab), ("math/bits.deBruijn64tab", laid_math_bits_deBruijn64tab), ("internal/strconv.uint64pow10", laid_internal_strconv_uint64pow10)] }
def EtymKnownSaid : Prop := etymKnownRow.holds Tryd.pinned (OpenSpec.ofChange etymKnownSpec)

/-- ITS FALSE NEIGHBOUR: 'it returns false'. Refute it at one input. -/
def etymKnownWrong : ChangeSpec := { name := "etymKnown", fn := fun _ => fun
  | [] => { results := [.lit (.bool false)], args := [] }
  | _ => none }
def EtymKnownWrongFalsely : Prop := etymKnownRow.holds Tryd.pinned (OpenSpec.ofChange etymKnownWrong)

/-- 'ablautlaw41.EtymLoops': WHATEVER THE INPUT: true; the input reads as it did. -/
def etymLoopsSpec : ChangeSpec := { name := "etymLoops", fn := fun _ => fun
  | [d1, d2, d3, d4, d5] => { results := [.lit (.bool true)], args := [d1, d2, d3, d4, d5] }
  | _ => none }
def etymLoopsRow : OpenClaim := { program := "ytmfomjaomhohkaadoor", sum := "6f98eceeb92b8af419538dd8eeaca0b42f29ccad9547280ed44328c9e4cc2066", func := "ablaut/ablautlaw41.EtymLoops", spec := "etymLoops", inPlace := ["internal/abi.NoEscape"], unfollowed := true, recurses := true, named := ["internal/strconv.uint64pow10", "math/bits.deBruijn32tab", "math/bits.deBruijn64tab"], apart := false, laid := [("math/bits.deBruijn32tab", laid_math_bits_deBruijn32tab), ("math/bits.deBruijn64tab", laid_math_bits_deBruijn64tab), ("internal/strconv.uint64pow10", laid_internal_strconv_uint64pow10)] }
def EtymLoopsSaid : Prop := etymLoopsRow.holds Tryd.pinned (OpenSpec.ofChange etymLoopsSpec)

/-- ITS FALSE NEIGHBOUR: 'it returns false'. Refute it at one input. -/
def etymLoopsWrong : ChangeSpec := { name := "etymLoops", fn := fun _ => fun
  | [d1, d2, d3, d4, d5] => { results := [.lit (.bool false)], args := [d1, d2, d3, d4, d5] }
  | _ => none }
def EtymLoopsWrongFalsely : Prop := etymLoopsRow.holds Tryd.pinned (OpenSpec.ofChange etymLoopsWrong)

/-- 'ablautlaw41.EtymNil': WHATEVER THE INPUT: true; the input reads as it did. -/
def etymNilSpec : ChangeSpec := { name := "etymNil", fn := fun _ => fun
  | [d1, d2, d3] => { results := [.lit (.bool true)], args := [d1, d2, d3] }
  | _ => none }
def etymNilRow : OpenClaim := { program := "ytmfomjaomhohkaadoor", sum := "6f98eceeb92b8af419538dd8eeaca0b42f29ccad9547280ed44328c9e4cc2066", func := "ablaut/ablautlaw41.EtymNil", spec := "etymNil", inPlace := ["internal/abi.NoEscape"], unfollowed := true, recurses := true, named := ["internal/strconv.uint64pow10", "math/bits.deBruijn32tab", "math/bits.deBruijn64tab"], apart := false, laid := [("math/bits.deBruijn32tab", laid_math_bits_deBruijn32tab), ("math/bits.deBruijn64tab", laid_math_bits_deBruijn64tab), ("internal/strconv.uint64pow10", laid_internal_strconv_uint64pow10)] }
def EtymNilSaid : Prop := etymNilRow.holds Tryd.pinned (OpenSpec.ofChange etymNilSpec)

/-- ITS FALSE NEIGHBOUR: 'it returns false'. Refute it at one input. -/
def etymNilWrong : ChangeSpec := { name := "etymNil", fn := fun _ => fun
  | [d1, d2, d3] => { results := [.lit (.bool false)], args := [d1, d2, d3] }
  | _ => none }
def EtymNilWrongFalsely : Prop := etymNilRow.holds Tryd.pinned (OpenSpec.ofChange etymNilWrong)

/- THE SECOND FORM. 'bulk': how many values and letters a reading holds, each counted each time it is reached (what is shared counts as often as it is met; a slice's spare places count too). A statement '..UptoSaid' is the law's where the arguments, and the package variables that the reading takes, are together of bulk at most 1048576: NARROWER than '..Said'. Prove '..Said' where nothing that the law and all that it calls make is longer than what came in: it says more and counts as full. Else prove '..UptoSaid'. A law counts once. -/
mutual
def uptoBulk {H : Type} : DataW H → Nat
  | .lit (.string bytes) => bytes.length + 1
  | .lit _ => 1
  | .nil => 1
  | .ptr d => uptoBulk d + 1
  | .slice elems spare => uptoBulkAll elems + uptoBulkAll spare + 1
  | .agg parts => uptoBulkAll parts + 1
  | .iface _ d => uptoBulk d + 1
  | .map entries => uptoBulkEntries entries + 1
  | .held _ => 1
def uptoBulkAll {H : Type} : List (DataW H) → Nat
  | [] => 0
  | d :: r => uptoBulk d + uptoBulkAll r
def uptoBulkEntries {H : Type} : List (Lit × DataW H) → Nat
  | [] => 0
  | x :: r => uptoBulkEntry x + uptoBulkEntries r
def uptoBulkEntry {H : Type} : Lit × DataW H → Nat
  | (.string bytes, d) => bytes.length + uptoBulk d + 1
  | (_, d) => uptoBulk d + 1
 end
def uptoSmall : (H : Type) → List (DataW H) → Bool := fun _ ds => decide (uptoBulkAll ds ≤ 1048576)
def OpenSpec.upto (s : _root_.Go.ChangeSpec) : _root_.Go.OpenSpec := { _root_.Go.OpenSpec.ofChange s with cond := some uptoSmall }

/-- 'ablautlaw41.EtymSources', WHERE WHAT IT READS IS OF BULK AT MOST 1048576: true; the input reads as it did. -/
def etymSourcesUptoRow : OpenClaim := { program := "ytmfomjaomhohkaadoor", sum := "6f98eceeb92b8af419538dd8eeaca0b42f29ccad9547280ed44328c9e4cc2066", func := "ablaut/ablautlaw41.EtymSources", spec := "etymSources", inPlace := ["internal/abi.NoEscape"], unfollowed := true, recurses := true, named := ["internal/strconv.uint64pow10", "math/bits.deBruijn32tab", "math/bits.deBruijn64tab"], apart := false, laid := [("math/bits.deBruijn32tab", laid_math_bits_deBruijn32tab), ("math/bits.deBruijn64tab", laid_math_bits_deBruijn64tab), ("internal/strconv.uint64pow10", laid_internal_strconv_uint64pow10)], narrowed := true }
def EtymSourcesUptoSaid : Prop := etymSourcesUptoRow.holds Tryd.pinned (OpenSpec.upto etymSourcesSpec)

/-- 'ablautlaw41.EtymWays', WHERE WHAT IT READS IS OF BULK AT MOST 1048576: true; the input reads as it did. -/
def etymWaysUptoRow : OpenClaim := { program := "ytmfomjaomhohkaadoor", sum := "6f98eceeb92b8af419538dd8eeaca0b42f29ccad9547280ed44328c9e4cc2066", func := "ablaut/ablautlaw41.EtymWays", spec := "etymWays", inPlace := ["internal/abi.NoEscape"], unfollowed := true, recurses := true, named := ["internal/strconv.uint64pow10", "math/bits.deBruijn32tab", "math/bits.deBruijn64tab"], apart := false, laid := [("math/bits.deBruijn32tab", laid_math_bits_deBruijn32tab), ("math/bits.deBruijn64tab", laid_math_bits_deBruijn64tab), ("internal/strconv.uint64pow10", laid_internal_strconv_uint64pow10)], narrowed := true }
def EtymWaysUptoSaid : Prop := etymWaysUptoRow.holds Tryd.pinned (OpenSpec.upto etymWaysSpec)

/-- 'ablautlaw41.EtymInherits', WHERE WHAT IT READS IS OF BULK AT MOST 1048576: true; the input reads as it did. -/
def etymInheritsUptoRow : OpenClaim := { program := "ytmfomjaomhohkaadoor", sum := "6f98eceeb92b8af419538dd8eeaca0b42f29ccad9547280ed44328c9e4cc2066", func := "ablaut/ablautlaw41.EtymInherits", spec := "etymInherits", inPlace := ["internal/abi.NoEscape"], unfollowed := true, recurses := true, named := ["internal/strconv.uint64pow10", "math/bits.deBruijn32tab", "math/bits.deBruijn64tab"], apart := false, laid := [("math/bits.deBruijn32tab", laid_math_bits_deBruijn32tab), ("math/bits.deBruijn64tab", laid_math_bits_deBruijn64tab), ("internal/strconv.uint64pow10", laid_internal_strconv_uint64pow10)], narrowed := true }
def EtymInheritsUptoSaid : Prop := etymInheritsUptoRow.holds Tryd.pinned (OpenSpec.upto etymInheritsSpec)

/-- 'ablautlaw41.EtymFull', WHERE WHAT IT READS IS OF BULK AT MOST 1048576: true; the input reads as it did. -/
def etymFullUptoRow : OpenClaim := { program := "ytmfomjaomhohkaadoor", sum := "6f98eceeb92b8af419538dd8eeaca0b42f29ccad9547280ed44328c9e4cc2066", func := "ablaut/ablautlaw41.EtymFull", spec := "etymFull", inPlace := ["internal/abi.NoEscape"], unfollowed := true, recurses := true, named := ["internal/strconv.uint64pow10", "math/bits.deBruijn32tab", "math/bits.deBruijn64tab"], apart := false, laid := [("math/bits.deBruijn32tab", laid_math_bits_deBruijn32tab), ("math/bits.deBruijn64tab", laid_math_bits_deBruijn64tab), ("internal/strconv.uint64pow10", laid_internal_strconv_uint64pow10)], narrowed := true }
def EtymFullUptoSaid : Prop := etymFullUptoRow.holds Tryd.pinned (OpenSpec.upto etymFullSpec)

/-- 'ablautlaw41.EtymKnown', WHERE WHAT IT READS IS OF BULK AT MOST 1048576: true; the input reads as it did. -/
def etymKnownUptoRow : OpenClaim := { program := "ytmfomjaomhohkaadoor", sum := "6f98eceeb92b8af419538dd8eeaca0b42f29ccad9547280ed44328c9e4cc2066", func := "ablaut/ablautlaw41.EtymKnown", spec := "etymKnown", inPlace := ["internal/abi.NoEscape"], unfollowed := true, recurses := true, named := ["internal/strconv.uint64pow10", "math/bits.deBruijn32tab", "math/bits.deBruijn64tab"], apart := false, laid := [("math/bits.deBruijn32tab", laid_math_bits_deBruijn32tab), ("math/bits.deBruijn64tab", laid_math_bits_deBruijn64tab), ("internal/strconv.uint64pow10", laid_internal_strconv_uint64pow10)], narrowed := true }
def EtymKnownUptoSaid : Prop := etymKnownUptoRow.holds Tryd.pinned (OpenSpec.upto etymKnownSpec)

/-- 'ablautlaw41.EtymLoops', WHERE WHAT IT READS IS OF BULK AT MOST 1048576: true; the input reads as it did. -/
def etymLoopsUptoRow : OpenClaim := { program := "ytmfomjaomhohkaadoor", sum := "6f98eceeb92b8af419538dd8eeaca0b42f29ccad9547280ed44328c9e4cc2066", func := "ablaut/ablautlaw41.EtymLoops", spec := "etymLoops", inPlace := ["internal/abi.NoEscape"], unfollowed := true, recurses := true, named := ["internal/strconv.uint64pow10", "math/bits.deBruijn32tab", "math/bits.deBruijn64tab"], apart := false, laid := [("math/bits.deBruijn32tab", laid_math_bits_deBruijn32tab), ("math/bits.deBruijn64tab", laid_math_bits_deBruijn64tab), ("internal/strconv.uint64pow10", laid_internal_strconv_uint64pow10)], narrowed := true }
def EtymLoopsUptoSaid : Prop := etymLoopsUptoRow.holds Tryd.pinned (OpenSpec.upto etymLoopsSpec)

/-- 'ablautlaw41.EtymNil', WHERE WHAT IT READS IS OF BULK AT MOST 1048576: true; the input reads as it did. -/
def etymNilUptoRow : OpenClaim := { program := "ytmfomjaomhohkaadoor", sum := "6f98eceeb92b8af419538dd8eeaca0b42f29ccad9547280ed44328c9e4cc2066", func := "ablaut/ablautlaw41.EtymNil", spec := "etymNil", inPlace := ["internal/abi.NoEscape"], unfollowed := true, recurses := true, named := ["internal/strconv.uint64pow10", "math/bits.deBruijn32tab", "math/bits.deBruijn64tab"], apart := false, laid := [("math/bits.deBruijn32tab", laid_math_bits_deBruijn32tab), ("math/bits.deBruijn64tab", laid_math_bits_deBruijn64tab), ("internal/strconv.uint64pow10", laid_internal_strconv_uint64pow10)], narrowed := true }
def EtymNilUptoSaid : Prop := etymNilUptoRow.holds Tryd.pinned (OpenSpec.upto etymNilSpec)

end Rows
end Go.Proofs.YtmfomjaomhohkaaDoor
