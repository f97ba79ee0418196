import Derived.Test.YtahgffjkkdbjeaaDoorW8
import Derived.Test.YtahgffjkkdbjeaaDoorW5
namespace Go.Proofs.YtahgffjkkdbjeaaDoor
open Go.RowKit
set_option maxHeartbeats 1000000 in
theorem nan_any (x : Int) (w : World) : Calls Tryd.prog 89 #[.int .i64 x] w fun e w' => e = .returned (.bool false) ∧ w' = w := by
  have hx : (x != x) = false := by simp
  go_enter Tryd.func89, Tryd.ntmps89
  go_wp2_with fail
  go_ret
  exact ⟨rfl, rfl⟩
set_option maxHeartbeats 1000000 in
theorem cmp_any (x y : Nat) (w : World) : Calls Tryd.prog 52 #[.int .i64 x, .int .i64 y] w fun e w' => e = .returned (.int .i64 (cmp3 x y)) ∧ w' = w := by
  go_enter Tryd.func52, Tryd.ntmps52
  go_wp2_with fail
  refine (nan_any _ _).mono ?_
  rintro e w1 ⟨rfl, rfl⟩
  go_wp2_with fail
  refine (nan_any _ _).mono ?_
  rintro e w1 ⟨rfl, rfl⟩
  rcases Nat.lt_trichotomy x y with h | h | h
  · have e : cmp3 x y = -1 := by unfold cmp3; rw [if_pos h]
    go_wp2_with fail
    go_ret
    exact ⟨by rw [e]; rfl, rfl⟩
  · subst h
    have e : cmp3 x x = 0 := by unfold cmp3; rw [if_neg (by omega), if_neg (by omega)]
    have : ¬ ((x : Int) < x) := by omega
    go_wp2_with fail
    go_ret
    exact ⟨by rw [e]; rfl, rfl⟩
  · have e : cmp3 x y = 1 := by unfold cmp3; rw [if_neg (by omega), if_pos h]
    have : ¬ ((x : Int) < y) := by omega
    go_wp2_with fail
    go_ret
    exact ⟨by rw [e]; rfl, rfl⟩
set_option maxHeartbeats 2000000 in
theorem rankCmp_any (x y z m cm Bo b1 b2 : Nat) (f : Nat → Nat) (w : World) (hx : x < 24) (hy : y < 24) (hz : z < 24) (hblk : Blk w Bo (ofF 578 (dg m cm f)) 89)
    (h1 : w.cell? ⟨b1, 0, none⟩ = some (.pointer (some ⟨Bo, 0, none⟩))) (h2 : w.cell? ⟨b2, 0, none⟩ = some (.int .i64 x)) :
    Calls Tryd.prog 51 #[.int .i64 y, .int .i64 z, .pointer (some ⟨b1, 0, none⟩), .pointer (some ⟨b2, 0, none⟩)] w fun e w' => e = .returned (.int .i64 (cmp3 (f (x * 24 + y)) (f (x * 24 + z)))) ∧ ∃ n, w' = w.drewN n := by
  have e1 := hblk.getF (2 + x * 24 + y) (by omega)
  have e2 := hblk.getF (2 + x * 24 + z) (by omega)
  have d1 : dg m cm f (2 + x * 24 + y) = .int .i64 (f (x * 24 + y)) := by rw [dg, if_neg (by omega), if_neg (by omega), show 2 + x * 24 + y - 2 = x * 24 + y by omega]
  have d2 : dg m cm f (2 + x * 24 + z) = .int .i64 (f (x * 24 + z)) := by rw [dg, if_neg (by omega), if_neg (by omega), show 2 + x * 24 + z - 2 = x * 24 + z by omega]
  rw [d1] at e1
  rw [d2] at e2
  clear d1 d2
  generalize f (x * 24 + y) = p at e1 ⊢
  generalize f (x * 24 + z) = q at e2 ⊢
  go_enter Tryd.func51, Tryd.ntmps51
  go_wp2_with fail
  go_quiet (exact Calls.quiet_of ((cmp_any p q _).mono fun _ _ h => ⟨h.1, 0, h.2⟩))
  go_wp2_with fail
  go_ret
  exact ⟨rfl, _, rfl⟩
end Go.Proofs.YtahgffjkkdbjeaaDoor
