/- The body of the statement GlottoGreat: its own parts. -/
import Derived.Test.YtahgffjkkdbjeaaDoorRP
import Derived.Test.YtahgffjkkdbjeaaDoorJB
import Derived.Test.YtahgffjkkdbjeaaDoorZC
import Derived.Test.YtahgffjkkdbjeaaDoorXB
import Derived.Test.YtahgffjkkdbjeaaDoorPI
namespace Go.Proofs.YtahgffjkkdbjeaaDoor
open Go.RowKit
theorem rd_of_blkG {w : World} {B : Nat} {cs : Array Value} {t : TypeId} {l : List Value} (h : Blk w B cs t) (e : cs.toList = l) : Rd w (some ⟨B, 0, none⟩) l := fun _ => ⟨B, 0, rfl, h.lt, fun i hi => by
  rw [Nat.zero_add, h.cell, ← Array.getElem?_toList, e, List.getD_eq_getElem?_getD, List.getElem?_eq_getElem hi]; rfl⟩
def twoL (p q : Int) : List Fr := [(0, 1), (p, q), (p, q), (0, 1)]
set_option maxHeartbeats 1000000 in
theorem two_any (p q : Int) (w : World) :
    Calls Tryd.prog 45 #[.agg #[.int .i64 p, .int .i64 q]] w fun e w' => ∃ g, e = .returned (.slice (some ⟨g, 0, none⟩) 4 4) ∧ Rd w' (some ⟨g, 0, none⟩) (fl encFr (twoL p q)) ∧ Below w.heap.size w w' := by
  go_enter Tryd.func45, Tryd.ntmps45
  go_wp2_with fail
  go_ret
  exact ⟨_, rfl, rd_of_blkG (Blk.new2 w _ _ 40) rfl, bl_alloc (bl_alloc (Below.refl _ _) _) _⟩
end Go.Proofs.YtahgffjkkdbjeaaDoor
