/- Closed facts: the blocks of distances and of clusters, as they are made. -/
import Derived.Test.YtahgffjkkdbjeaaDoorL1
import Derived.Test.YtahgffjkkdbjeaaDoorRows
namespace Go.Proofs.YtahgffjkkdbjeaaDoor
/-- The cells of distances: n, the common denominator, the table. -/
def dg (n c : Nat) (f : Nat → Nat) (i : Nat) : Value := if i = 0 then .int .i64 n else if i = 1 then .int .i64 c else .int .i64 (f (i - 2))
/-- The cells of clusters: their sizes, what is known of two of them. -/
def cg (s : Nat → Nat) (f : Nat → Nat) (i : Nat) : Value := if i < 24 then .int .i64 (s i) else .int .i64 (f (i - 24))
theorem zc89 (n : Nat) : (Tryd.zeroCells89.setIfInBounds 0 (.int .i64 n)).setIfInBounds 1 (.int .i64 1) = ofF 578 (dg n 1 fun _ => 0) := by kernel_rfl
theorem zc100 : Tryd.zeroCells100 = ofF 600 (cg (fun _ => 0) fun _ => 0) := by kernel_rfl
theorem info40 : (Tryd.prog.info? 40).map (fun i => (i.zero, i.size, i.bytes)) = some (some (.agg #[.int .i64 0, .int .i64 0]), 2, 16) := by kernel_rfl
theorem info3 : (Tryd.prog.info? 3).map (fun i => (i.zero, i.size, i.bytes)) = some (some (.int .i64 0), 1, 8) := by kernel_rfl
end Go.Proofs.YtahgffjkkdbjeaaDoor
