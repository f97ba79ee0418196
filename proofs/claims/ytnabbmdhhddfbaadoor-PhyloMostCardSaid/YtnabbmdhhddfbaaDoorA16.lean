/- Facts for the document's Groups. -/
import Derived.Test.YtnabbmdhhddfbaaDoorA15
namespace Go.Proofs.YtnabbmdhhddfbaaDoor
open Go.RowKit Go.Shelf
set_option maxHeartbeats 1000000 in
theorem rall_any (L : Nat) (a : Option Addr) (n c : Nat) (w : World) (hL : L ≤ 32) :
    Calls Tryd.prog 38 #[.agg #[.int .i64 L, .slice a n c]] w fun e w' => e = .returned (.int .u64 ((2 ^ L - 1 : Nat) : Int)) ∧ Below w.heap.size w w' := by
  have hw := Lib.hid (wrap_all hL)
  go_enter Tryd.func38, Tryd.ntmps38
  go_wp2_with fail
  go_ret
  exact ⟨ret_i hw.out, bl_alloc (Below.refl _ _) _⟩
end Go.Proofs.YtnabbmdhhddfbaaDoor
