/- The example of all statements: works answers true. -/
import Derived.Test.YtnabbmdhhddfbaaDoorD1
namespace Go.Proofs.YtnabbmdhhddfbaaDoor
open Go.RowKit Go.Shelf
theorem eqI_step (l1 l2 : List Int) (k : Nat) (h : l1.take k = l2.take k) (h1 : k < l1.length) (h2 : k < l2.length) (e0 : iA l1 k = iA l2 k) : l1.take (k + 1) = l2.take (k + 1) := by
  have he : l1[k] = l2[k] := by
    simpa only [iA, List.getD_eq_getElem?_getD, List.getElem?_eq_getElem h1, List.getElem?_eq_getElem h2, Option.getD_some] using e0
  rw [List.take_succ_eq_append_getElem h1, List.take_succ_eq_append_getElem h2, h, he]
theorem neI_iA (l1 l2 : List Int) (k : Nat) (h : iA l1 k ≠ iA l2 k) : l1 ≠ l2 := fun e => h (by rw [e])
set_option maxHeartbeats 1000000 in
theorem ints_any (a1 a2 : Option Addr) (n1 n2 c1 c2 : Nat) (l1 l2 : List Int) (w : World) (hn1 : l1.length = n1) (hn2 : l2.length = n2) (hm1 : n1 ≤ 1152921504606846976) (hm2 : n2 ≤ 1152921504606846976) (hA : Rd w a1 (fl encI l1)) (hB : Rd w a2 (fl encI l2)) :
    Calls Tryd.prog 23 #[.slice a1 n1 c1, .slice a2 n2 c2] w fun e w' => e = .returned (.bool (decide (l1 = l2))) ∧ ∃ n, w' = w.drewN n := by
  have HN1 := Lib.hid hn1; clear hn1
  have HN2 := Lib.hid hn2; clear hn2
  by_cases hl : n1 = n2
  · subst hl
    go_enter Tryd.func23, Tryd.ntmps23
    go_wp2_with fail
    go_loopw [5] (fun x wr => ∃ k : Nat, k ≤ n1 ∧ x = .int .i64 k ∧ Hid (l1.take k = l2.take k) ∧ ∃ n, wr = w.drewN n) (fun x _ => n1 - (intOf x).toNat)
    case atStart => exact ⟨0, by omega, rfl, rfl, 0, rfl⟩
    case round =>
      obtain ⟨k, hk, rfl, Ht, n, rfl⟩ := hrel
      by_cases hlt : k < n1
      · obtain ⟨b1, o1, rfl, _, hc1⟩ := rdI hA (by rw [HN1.out]; omega)
        obtain ⟨b2, o2, rfl, _, hc2⟩ := rdI hB (by rw [HN2.out]; omega)
        have G1 := hc1 k (by rw [HN1.out]; omega)
        have G2 := hc2 k (by rw [HN2.out]; omega)
        clear hc1 hc2 hA hB
        by_cases e0 : iA l1 k = iA l2 k
        · have ht2 := Lib.hid (eqI_step l1 l2 k Ht.out (by rw [HN1.out]; omega) (by rw [HN2.out]; omega) e0)
          have hb : (iA l1 k != iA l2 k) = false := by rw [e0]; simp
          have hb2 : (iA l1 k == iA l2 k) = true := by rw [e0]; simp
          clear e0
          go_wp2_with fail
          go_quiet (fail)
          go_wp2_with fail
          go_roundw
          case rel => exact ⟨k + 1, by omega, by go_num, ht2, n + nq, by simp⟩
          case measure => simp [intOf]; omega
        · have he := Lib.hid (neI_iA l1 l2 k e0)
          have hb : (iA l1 k != iA l2 k) = true := by simpa using e0
          have hb2 : (iA l1 k == iA l2 k) = false := by simpa using e0
          clear e0
          go_wp2_with fail
          go_quiet (fail)
          go_wp2_with fail
          go_ret
          exact ⟨ret_b (decide_eq_false he.out).symm, n + nq, by simp⟩
      · go_wp2_with fail
        go_ret
        have he : l1 = l2 := by have := Ht.out; rwa [List.take_of_length_le (by rw [HN1.out]; omega), List.take_of_length_le (by rw [HN2.out]; omega)] at this
        exact ⟨ret_b (decide_eq_true he).symm, n, rfl⟩
  · have t1 : ((n1 : Int) != (n2 : Int)) = true := by simp; omega
    have HLN := Lib.hid hl
    clear hl
    go_enter Tryd.func23, Tryd.ntmps23
    go_wp2_with fail
    go_ret
    exact ⟨ret_b (decide_eq_false (fun e => HLN.out (by rw [← HN1.out, ← HN2.out, e]))).symm, 0, rfl⟩
theorem Rd.of_blk {w : World} {B : Nat} {cs : List Value} {t : TypeId} (h : Blk w B cs.toArray t) : Rd w (some ⟨B, 0, none⟩) cs := by
  intro h0
  refine ⟨B, 0, rfl, h.lt, fun i hi => ?_⟩
  rw [Nat.zero_add, h.cell i]
  simp [hi]
set_option maxHeartbeats 1000000 in
theorem four_any (w : World) : Calls Tryd.prog 34 #[] w fun e w' => ∃ B, e = .returned (.agg #[.int .i64 4, .slice (some ⟨B, 0, none⟩) 4 4]) ∧ Rd w' (some ⟨B, 0, none⟩) (fl encV [3, 7, 8, 6]) ∧ w.heap.size ≤ B ∧ Below w.heap.size w w' := by
  go_enter Tryd.func34, Tryd.ntmps34
  go_wp2_with fail
  have hb := Blk.new2 w (.cells #[.int .i64 4, .slice (some ⟨w.heap.size + 1, 0, none⟩) 4 4] 24) (fl encV [3, 7, 8, 6]).toArray 44
  have hbl : Below w.heap.size w ((w.alloc (.cells #[.int .i64 4, .slice (some ⟨w.heap.size + 1, 0, none⟩) 4 4] 24)).alloc (.cells (fl encV [3, 7, 8, 6]).toArray 44)) := bl_alloc (bl_alloc (Below.refl _ _) _) _
  exact bodyPost_ret (v := .agg #[.int .i64 4, .slice (some ⟨w.heap.size + 1, 0, none⟩) 4 4]) (by simp [results, Tryd.results34, go_sem]) rfl ⟨w.heap.size + 1, rfl, Rd.of_blk hb, by omega, hbl⟩
theorem neqNd (x0 y0 : Int) (x1 y1 : ByteArray) (w : World) : (binOp .neq 60 (.agg #[.int .i64 x0, .string x1]) (.agg #[.int .i64 y0, .string y1])).run Tryd.prog w = .ok (.bool (!(decide (x0 = y0) && decide (x1 = y1)))) w := by
  have u3 := Tryd.underlying3
  have a3 := Tryd.isAgg3
  have z3 := Tryd.sizeOf3
  have u9 := Tryd.underlying9
  have a9 := Tryd.isAgg9
  have z9 := Tryd.sizeOf9
  have hS : Tryd.prog.underlying 60 = some (.struct (Tryd.prog.fieldsOf 60)) := by kernel_rfl
  have hp : Tryd.prog.stoodInHeld 60 = false := by kernel_rfl
  rw [run_neq_struct, show (10000 : Nat) = 9999 + 1 from rfl, run_equalIn_agg w 9999 60 _ _ hS hp]
  simp only [Program.fieldsOf, Tryd.underlying60]
  go_simp
  by_cases h0 : x0 = y0 <;> by_cases h1 : x1 = y1 <;> simp [ba_inj, h0, h1]
theorem guardNd : Tryd.prog.eqGuardType Tryd.prog.depth 60 = false := by kernel_rfl
theorem own_cap {w : World} {base e k n c : Nat} {a : Option Addr} {xs : List Value} (h : w.ownsRow base e k (.slice a n c) n xs) : n ≤ c ∧ c ≤ maxLen := by
  rcases h.2 with ⟨hv, hn⟩ | ⟨g, cap', cur, hv, hg, hh, hn, hm, _⟩
  · cases hv; exact ⟨Nat.le_refl _, by unfold maxLen; omega⟩
  · cases hv; exact ⟨hn, hm⟩
theorem w_build (B : Nat) (w : World) (hR : Rd w (some ⟨B, 0, none⟩) (fl encV [3, 7, 8])) :
    Calls Tryd.prog 15 #[.agg #[.int .i64 4, .slice (some ⟨B, 0, none⟩) 3 4]] w fun e w' => ∃ T c, e = .returned (.tuple #[.slice (some ⟨T, 0, none⟩) 7 c, .bool true, .int .i64 0]) ∧ Rd w' (some ⟨T, 0, none⟩) (fl encNd exT) ∧ 7 ≤ c ∧ c ≤ 9223372036854775807 ∧ Below w.heap.size w w' := by
  refine (build_any 4 (some ⟨B, 0, none⟩) 3 4 [3, 7, 8] w rfl (by omega) (by omega) (by omega) hR fit_three).mono ?_
  rintro e w' ⟨v, he, ho, hb⟩
  obtain ⟨e1, e2, e3⟩ := build_three
  rw [e1, e2] at he
  rw [e3] at ho
  obtain ⟨g, c, rfl, _, _⟩ := ho.form (by decide)
  exact ⟨g, c, he, rd_of_owns ho, (own_cap ho).1, by have := (own_cap ho).2; unfold maxLen at this; omega, hb⟩
theorem w_conf (B : Nat) (w : World) (hR : Rd w (some ⟨B, 0, none⟩) (fl encV [3, 7, 8, 6])) :
    Calls Tryd.prog 18 #[.agg #[.int .i64 4, .slice (some ⟨B, 0, none⟩) 4 4]] w fun e w' => e = .returned (.tuple #[.int .i64 0, .int .i64 3, .bool true, .int .i64 0]) ∧ Below w.heap.size w w' := by
  refine (conf_any 4 (some ⟨B, 0, none⟩) 4 4 [3, 7, 8, 6] w rfl (by omega) (by omega) (by omega) hR fit_four).mono ?_
  rintro e w' ⟨he, hb⟩
  rw [cfV_yes chk_four conf_four] at he
  exact ⟨he, hb⟩
theorem w_big (B : Nat) (w : World) (hR : Rd w (some ⟨B, 0, none⟩) (fl encV [3, 7, 8, 6])) :
    Calls Tryd.prog 21 #[.agg #[.int .i64 4, .slice (some ⟨B, 0, none⟩) 4 4]] w fun e w' => ∃ T c, e = .returned (.tuple #[.slice (some ⟨T, 0, none⟩) 3 c, .int .i64 0]) ∧ Rd w' (some ⟨T, 0, none⟩) (fl encI [0, 1, 2]) ∧ Below w.heap.size w w' := by
  refine (largest_any 4 (some ⟨B, 0, none⟩) 4 4 [3, 7, 8, 6] w rfl (by omega) hR fit_four).mono ?_
  rintro e w' ⟨v, he, ho, hb⟩
  obtain ⟨e1, e2⟩ := big_four
  rw [e2] at he
  rw [e1] at ho
  obtain ⟨g, c, rfl, _, _⟩ := ho.form (by decide)
  exact ⟨g, c, he, rd_of_owns ho, hb⟩
theorem w_loss (B T c : Nat) (w : World) (hR : Rd w (some ⟨B, 0, none⟩) (fl encV [3, 7, 8, 6])) (hT : Rd w (some ⟨T, 0, none⟩) (fl encNd exT)) (h7 : 7 ≤ c) (hc : c ≤ 9223372036854775807) :
    Calls Tryd.prog 24 #[.agg #[.int .i64 4, .slice (some ⟨B, 0, none⟩) 4 4], .slice (some ⟨T, 0, none⟩) 7 c] w fun e w' => ∃ T c, e = .returned (.tuple #[.slice (some ⟨T, 0, none⟩) 4 c, .int .i64 0]) ∧ Rd w' (some ⟨T, 0, none⟩) (fl encI [0, 0, 0, 1]) ∧ Below w.heap.size w w' := by
  refine (losses_any 4 (some ⟨B, 0, none⟩) 4 4 [3, 7, 8, 6] (some ⟨T, 0, none⟩) 7 c exT w rfl (by omega) hR fit_four rfl (by omega) h7 hc hT fitsE).mono ?_
  rintro e w' ⟨v, he, ho, hb⟩
  rw [check_four] at he
  rw [loss_four] at ho
  obtain ⟨g, c, rfl, _, _⟩ := ho.form (by decide)
  exact ⟨g, c, he, rd_of_owns ho, hb⟩
end Go.Proofs.YtnabbmdhhddfbaaDoor
