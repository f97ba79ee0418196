/- The example of all statements holds. -/
import Derived.Test.YtahgffjkkdbjeaaDoorPE
import Derived.Test.YtahgffjkkdbjeaaDoorWT
import Derived.Test.YtahgffjkkdbjeaaDoorWI
import Derived.Test.YtahgffjkkdbjeaaDoorWJ
import Derived.Test.YtahgffjkkdbjeaaDoorW0
namespace Go.Proofs.YtahgffjkkdbjeaaDoor
open Go.RowKit
theorem Rd.of_blk {W : World} {B : Nat} {t : TypeId} {cs : List Value} (h : Blk W B cs.toArray t) : Rd W (some ⟨B, 0, none⟩) cs := by
  intro _
  refine ⟨B, 0, rfl, h.lt, fun i hi => ?_⟩
  rw [Nat.zero_add]
  refine (h.cell i).trans ?_
  simp only [List.getElem?_toArray]
  rw [List.getElem?_eq_getElem hi, List.getD_eq_getElem?_getD, List.getElem?_eq_getElem hi]
  rfl
theorem fit_three : FitFr threeL := by
  have : ∀ i, i < 9 → fN threeL i ≤ 100 ∧ fD threeL i ≤ 100 := by decide
  intro i hi
  have := this i hi
  omega
theorem w_merges (a : Option Addr) (w : World) (h : Rd w a (fl encFr threeL)) : Calls Tryd.prog 23 #[.int .i64 3, .slice a 9 9] w fun e w' => ∃ b cap, e = .returned (.tuple #[.slice b 2 cap, .int .i64 0]) ∧ Rd w' b (fl encMg threeM) ∧ Below w.heap.size w w' := by
  refine (merges_any a 3 9 9 threeL w (by omega) (by omega) rfl (by omega) h fit_three).mono ?_
  rintro e w' ⟨hb, ⟨k, hk, _⟩ | ⟨m, c, v, g, hm, _, _, hc, rfl, hown, hg, _⟩⟩
  · rw [three_scaled] at hk; cases hk
  · obtain rfl : m = 3 := by omega
    rw [three_scaled] at hc
    obtain rfl : c = 1 := by injection hc with hc; exact hc.symm
    rw [three_run g hg] at hown
    obtain ⟨b, cap, rfl, _⟩ := owns_slice hown
    exact ⟨b, cap, rfl, rd_of_owns hown, hb⟩
theorem w_tree (na la : Option Addr) (c1 c2 : Nat) (w : World) (h1 : Rd w na (fl encS threeN)) (h2 : Rd w la (fl encMg threeM)) : Calls Tryd.prog 31 #[.int .i64 3, .slice na 3 c1, .slice la 2 c2] w fun e w' => ∃ b cap, e = .returned (.tuple #[.slice b 5 cap, .int .i64 0]) ∧ Rd w' b (fl encNd threeT) ∧ Below w.heap.size w w' := by
  refine (tree_any 3 3 c1 2 c2 na la threeN threeM w rfl rfl h1 h2 (by omega) (by omega) ?_).mono ?_
  · have : ∀ i, i < 3 → (sA threeN i).size ≤ 1 := by decide
    intro i hi
    have := this i hi
    omega
  · rintro e w' ⟨v, rfl, hown, hb⟩
    rw [three_treeE]
    rw [three_tree] at hown
    obtain ⟨b, cap, rfl, _⟩ := owns_slice hown
    exact ⟨b, cap, rfl, rd_of_owns hown, hb⟩
theorem w_near (a : Option Addr) (w : World) (h : Rd w a (fl encFr threeL)) : Calls Tryd.prog 17 #[.int .i64 3, .slice a 9 9, .int .i64 2] w fun e w' => e = .returned (.tuple #[.int .i64 0, .int .i64 0]) ∧ Below w.heap.size w w' := by
  refine (near_any a 3 2 9 9 threeL w (by omega) (by omega) (by omega) (by omega) rfl (by omega) h fit_three).mono ?_
  rintro e w' ⟨hb, ⟨k, hk, _⟩ | ⟨m, c, y, f, hm, hy, _, hc, rfl, hr⟩⟩
  · rw [three_rank] at hk; cases hk
  · obtain rfl : m = 3 := by omega
    obtain rfl : y = 2 := by omega
    rw [three_rank] at hc
    obtain rfl : c = 1 := by injection hc with hc; exact hc.symm
    rw [three_near f hr]
    exact ⟨rfl, hb⟩
theorem w_shares (a : Option Addr) (rs : List Rw) (w : World) (h : Rows w a rs threeR) : Calls Tryd.prog 26 #[.slice a 3 3] w fun e w' => ∃ b cap, e = .returned (.tuple #[.slice (some ⟨b, 0, none⟩) 9 cap, .int .i64 0]) ∧ w'.cell? ⟨b, 4, none⟩ = some (.int .i64 2) ∧ w'.cell? ⟨b, 5, none⟩ = some (.int .i64 3) ∧ Below w.heap.size w w' := by
  refine (shares_any a 3 3 rs threeR w rfl (by omega) h).mono ?_
  rintro e w' ⟨hb, ⟨k, hk, _⟩ | ⟨n, v, hn, _, rfl, _, hown⟩⟩
  · rw [three_sharesE] at hk; cases hk
  · rw [three_sharesE] at hn
    obtain rfl : n = 3 := by injection hn with hn; exact hn.symm
    obtain ⟨b, cap, rfl, hb2⟩ := owns_slice hown
    obtain ⟨g, _, _, rfl⟩ := hb2.resolve_left (by omega)
    obtain ⟨b, o, e, _, hc⟩ := rdFr (rd_of_owns hown) (by rw [three_shares.1]; omega)
    simp only [Option.some.injEq, Addr.mk.injEq, and_true] at e
    obtain ⟨rfl, rfl⟩ := e
    obtain ⟨c1, c2⟩ := hc 2 (by rw [three_shares.1]; omega)
    rw [three_shares.2.1] at c1
    rw [three_shares.2.2] at c2
    exact ⟨g, cap, rfl, by simpa using c1, by simpa using c2, hb⟩
theorem three_rows (w : World) : Rows ((((w.alloc (.cells #[.int .i64 0, .int .i64 0, .int .i64 1] 3)).alloc (.cells #[.int .i64 0, .int .i64 (-1), .int .i64 0] 3)).alloc (.cells #[.int .i64 2, .int .i64 2, .int .i64 2] 3)).alloc (.cells #[.slice (some ⟨w.heap.size, 0, none⟩) 3 3, .slice (some ⟨w.heap.size + 1, 0, none⟩) 3 3, .slice (some ⟨w.heap.size + 1 + 1, 0, none⟩) 3 3] 29)) (some ⟨w.heap.size + 1 + 1 + 1, 0, none⟩) [(some ⟨w.heap.size, 0, none⟩, 3, 3), (some ⟨w.heap.size + 1, 0, none⟩, 3, 3), (some ⟨w.heap.size + 1 + 1, 0, none⟩, 3, 3)] threeR := by
  refine ⟨?_, rfl, fun i hi => ?_⟩
  · have := Blk.new2 ((w.alloc (.cells #[.int .i64 0, .int .i64 0, .int .i64 1] 3)).alloc (.cells #[.int .i64 0, .int .i64 (-1), .int .i64 0] 3)) (.cells #[.int .i64 2, .int .i64 2, .int .i64 2] 3) #[.slice (some ⟨w.heap.size, 0, none⟩) 3 3, .slice (some ⟨w.heap.size + 1, 0, none⟩) 3 3, .slice (some ⟨w.heap.size + 1 + 1, 0, none⟩) 3 3] 29
    exact Rd.of_blk (cs := [.slice (some ⟨w.heap.size, 0, none⟩) 3 3, .slice (some ⟨w.heap.size + 1, 0, none⟩) 3 3, .slice (some ⟨w.heap.size + 1 + 1, 0, none⟩) 3 3]) (t := 29) (by simpa using this)
  · have : i = 0 ∨ i = 1 ∨ i = 2 := by have : i < 3 := hi; omega
    rcases this with rfl | rfl | rfl
    · exact ⟨Rd.of_blk (cs := [.int .i64 0, .int .i64 0, .int .i64 1]) (t := 3) ((((Blk.new w _ _).alloc _).alloc _).alloc _), rfl, by simp [rN]⟩
    · exact ⟨Rd.of_blk (cs := [.int .i64 0, .int .i64 (-1), .int .i64 0]) (t := 3) (((Blk.new2 w _ _ _).alloc _).alloc _), rfl, by simp [rN]⟩
    · have := (Blk.new2 (w.alloc (.cells #[.int .i64 0, .int .i64 0, .int .i64 1] 3)) (.cells #[.int .i64 0, .int .i64 (-1), .int .i64 0] 3) #[.int .i64 2, .int .i64 2, .int .i64 2] 3).alloc (.cells #[.slice (some ⟨w.heap.size, 0, none⟩) 3 3, .slice (some ⟨w.heap.size + 1, 0, none⟩) 3 3, .slice (some ⟨w.heap.size + 1 + 1, 0, none⟩) 3 3] 29)
      exact ⟨Rd.of_blk (cs := [.int .i64 2, .int .i64 2, .int .i64 2]) (t := 3) (by simpa [rA] using this), rfl, by simp [rN]⟩
theorem rd_threeM {W : World} {B : Nat} (h : Blk W B #[.int .i64 0, .int .i64 1, .int .i64 2, .int .i64 1, .int .i64 2, .int .i64 0, .int .i64 2, .int .i64 7, .int .i64 1, .int .i64 3] 42) : Rd W (some ⟨B, 0, none⟩) (fl encMg threeM) := Rd.of_blk (t := 42) h
theorem rd_threeT {W : World} {B : Nat} (h : Blk W B #[.int .i64 (-1), .string ⟨#[109, 49]⟩, .int .i64 0, .string ⟨#[109, 48]⟩, .int .i64 1, .string ⟨#[120]⟩, .int .i64 1, .string ⟨#[121]⟩, .int .i64 0, .string ⟨#[122]⟩] 66) : Rd W (some ⟨B, 0, none⟩) (fl encNd threeT) := Rd.of_blk (t := 66) h
theorem w_eqM (a1 a2 : Option Addr) (c1 c2 : Nat) (w : World) (hA : Rd w a1 (fl encMg threeM)) (hB : Rd w a2 (fl encMg threeM)) : Calls Tryd.prog 30 #[.slice a1 2 c1, .slice a2 2 c2] w fun e w' => e = .returned (.bool true) ∧ ∃ n, w' = w.drewN n :=
  (eqMg_any a1 a2 2 2 c1 c2 threeM threeM w rfl rfl (by omega) (by omega) hA hB).mono fun e w' ⟨he, hn⟩ => ⟨by rw [he, decide_eq_true rfl], hn⟩
theorem w_eqT (a1 a2 : Option Addr) (c1 c2 : Nat) (w : World) (hA : Rd w a1 (fl encNd threeT)) (hB : Rd w a2 (fl encNd threeT)) : Calls Tryd.prog 42 #[.slice a1 5 c1, .slice a2 5 c2] w fun e w' => e = .returned (.bool true) ∧ ∃ n, w' = w.drewN n :=
  (eqNd_any a1 a2 5 5 c1 c2 threeT threeT w rfl rfl (by omega) (by omega) hA hB).mono fun e w' ⟨he, hn⟩ => ⟨by rw [he, decide_eq_true rfl], hn⟩
set_option maxRecDepth 100000 in
set_option maxHeartbeats 4000000 in
theorem works_any (w : World) : Calls Tryd.prog 14 #[] w fun e w' => e = .returned (.bool true) ∧ Below w.heap.size w w' := by
  go_enter Tryd.func14, Tryd.ntmps14
  go_wp2_with fail
  refine (three_any _).mono ?_
  rintro e w1 ⟨B, rfl, hd1, hb1⟩
  have HD1 := Lib.hid hd1
  clear hd1
  go_wp2_with fail
  refine (w_merges _ _ HD1.out).mono ?_
  rintro e w2 ⟨mb, mc, rfl, hm2, hb2⟩
  have HD2 := Lib.hid (HD1.out.bl hb2)
  have HM2 := Lib.hid hm2
  have HB2 := Lib.hid (bl_trans hb1 hb2)
  clear HD1 hm2 hb1 hb2
  go_wp2_with fail
  refine (w_tree _ _ _ _ _ (Rd.of_blk (Blk.new w2 (fl encS threeN).toArray 9)) (HM2.out.bl (bl_alloc (Below.refl _ _) _))).mono ?_
  rintro e w3 ⟨nb, nc, rfl, hn3, hb3⟩
  have hc3 := bl_trans (bl_alloc (Below.refl w2.heap.size w2) _) hb3
  have HD3 := Lib.hid (HD2.out.bl hc3)
  have HM3 := Lib.hid (HM2.out.bl hc3)
  have HN3 := Lib.hid hn3
  have HB3 := Lib.hid (bl_trans HB2.out hc3)
  clear HD2 HM2 HB2 hn3 hb3 hc3
  go_wp2_with fail
  refine (w_near _ _ HD3.out).mono ?_
  rintro e w4 ⟨rfl, hb4⟩
  have HD4 := Lib.hid (HD3.out.bl hb4)
  have HM4 := Lib.hid (HM3.out.bl hb4)
  have HN4 := Lib.hid (HN3.out.bl hb4)
  have HB4 := Lib.hid (bl_trans HB3.out hb4)
  clear HD3 HM3 HN3 HB3 hb4
  go_wp2_with fail
  refine (ultra_any _ 3 9 9 threeL _ (by omega) (by omega) rfl (by omega) HD4.out fit_three).mono ?_
  rintro e w5 ⟨rfl, hb5⟩
  rw [three_ultra]
  have HM5 := Lib.hid (HM4.out.bl hb5)
  have HN5 := Lib.hid (HN4.out.bl hb5)
  have HB5 := Lib.hid (bl_trans HB4.out hb5)
  clear HD4 HM4 HN4 HB4 hb5
  go_wp2_with fail
  refine (w_shares _ _ _ (three_rows w5)).mono ?_
  rintro e w6 ⟨sb, sc, rfl, hs1, hs2, hb6⟩
  have hc6 := bl_trans (bl_alloc (bl_alloc (bl_alloc (bl_alloc (Below.refl w5.heap.size w5) _) _) _) _) hb6
  have HM6 := Lib.hid (HM5.out.bl hc6)
  have HN6 := Lib.hid (HN5.out.bl hc6)
  have HB6 := Lib.hid (bl_trans HB5.out hc6)
  clear HM5 HN5 HB5 hb6 hc6
  have k1 := keep_cell (keep_cell hs1 (.cells #[.int .i64 0, .int .i64 1, .int .i64 2, .int .i64 1, .int .i64 2, .int .i64 0, .int .i64 2, .int .i64 7, .int .i64 1, .int .i64 3] 42)) (.cells #[.int .i64 (-1), .string ⟨#[109, 49]⟩, .int .i64 0, .string ⟨#[109, 48]⟩, .int .i64 1, .string ⟨#[120]⟩, .int .i64 1, .string ⟨#[121]⟩, .int .i64 0, .string ⟨#[122]⟩] 66)
  have k2 := keep_cell (keep_cell hs2 (.cells #[.int .i64 0, .int .i64 1, .int .i64 2, .int .i64 1, .int .i64 2, .int .i64 0, .int .i64 2, .int .i64 7, .int .i64 1, .int .i64 3] 42)) (.cells #[.int .i64 (-1), .string ⟨#[109, 49]⟩, .int .i64 0, .string ⟨#[109, 48]⟩, .int .i64 1, .string ⟨#[120]⟩, .int .i64 1, .string ⟨#[121]⟩, .int .i64 0, .string ⟨#[122]⟩] 66)
  have HK := Lib.hid (And.intro k1 k2)
  clear k1 k2 hs1 hs2
  go_wp2_with fail
  have hwm := Blk.new w6 #[.int .i64 0, .int .i64 1, .int .i64 2, .int .i64 1, .int .i64 2, .int .i64 0, .int .i64 2, .int .i64 7, .int .i64 1, .int .i64 3] 42
  have hwn := Blk.new2 w6 (.cells #[.int .i64 0, .int .i64 1, .int .i64 2, .int .i64 1, .int .i64 2, .int .i64 0, .int .i64 2, .int .i64 7, .int .i64 1, .int .i64 3] 42) #[.int .i64 (-1), .string ⟨#[109, 49]⟩, .int .i64 0, .string ⟨#[109, 48]⟩, .int .i64 1, .string ⟨#[120]⟩, .int .i64 1, .string ⟨#[121]⟩, .int .i64 0, .string ⟨#[122]⟩] 66
  have hbb := bl_alloc (bl_alloc (Below.refl w6.heap.size w6) (.cells #[.int .i64 0, .int .i64 1, .int .i64 2, .int .i64 1, .int .i64 2, .int .i64 0, .int .i64 2, .int .i64 7, .int .i64 1, .int .i64 3] 42)) (.cells #[.int .i64 (-1), .string ⟨#[109, 49]⟩, .int .i64 0, .string ⟨#[109, 48]⟩, .int .i64 1, .string ⟨#[120]⟩, .int .i64 1, .string ⟨#[121]⟩, .int .i64 0, .string ⟨#[122]⟩] 66)
  have HE := Lib.hid (w_eqM _ _ mc 2 ((w6.alloc (.cells #[.int .i64 0, .int .i64 1, .int .i64 2, .int .i64 1, .int .i64 2, .int .i64 0, .int .i64 2, .int .i64 7, .int .i64 1, .int .i64 3] 42)).alloc (.cells #[.int .i64 (-1), .string ⟨#[109, 49]⟩, .int .i64 0, .string ⟨#[109, 48]⟩, .int .i64 1, .string ⟨#[120]⟩, .int .i64 1, .string ⟨#[121]⟩, .int .i64 0, .string ⟨#[122]⟩] 66)) (HM6.out.bl hbb) (rd_threeM (hwm.alloc _)))
  have HF := Lib.hid (fun n => w_eqT _ _ nc 5 (((w6.alloc (.cells #[.int .i64 0, .int .i64 1, .int .i64 2, .int .i64 1, .int .i64 2, .int .i64 0, .int .i64 2, .int .i64 7, .int .i64 1, .int .i64 3] 42)).alloc (.cells #[.int .i64 (-1), .string ⟨#[109, 49]⟩, .int .i64 0, .string ⟨#[109, 48]⟩, .int .i64 1, .string ⟨#[120]⟩, .int .i64 1, .string ⟨#[121]⟩, .int .i64 0, .string ⟨#[122]⟩] 66)).drewN n) (HN6.out.bl (bl_drewN hbb n)) ((rd_threeT hwn).drewN n))
  have HBB := Lib.hid (bl_trans HB6.out hbb)
  clear hwm hwn hbb
  have hql : ∀ w, (binOp .eql 40 (.agg #[.int .i64 2, .int .i64 3]) (.agg #[.int .i64 2, .int .i64 3])).run Tryd.prog w = .ok (.bool true) w := fun _ => by kernel_rfl
  have hg := guardFr
  have k1 := HK.out.1
  have k2 := HK.out.2
  refine HE.out.mono ?_
  rintro e w7 ⟨rfl, n7, rfl⟩
  go_wp2_with fail
  refine (HF.out n7).mono ?_
  rintro e w8 ⟨rfl, n8, rfl⟩
  go_wp2_with fail
  go_ret
  exact ⟨rfl, bl_drewN HBB.out _⟩
end Go.Proofs.YtahgffjkkdbjeaaDoor
