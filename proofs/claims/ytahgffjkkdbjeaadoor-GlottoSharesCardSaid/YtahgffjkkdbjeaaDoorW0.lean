/- slices.Equal at numbers, fractions, merges and nodes: it returns whether both lists are equal; nothing is written. -/
import Derived.Test.YtahgffjkkdbjeaaDoorL1
import Derived.Test.YtahgffjkkdbjeaaDoorRows
import Derived.Deep.QuietTactic
import Derived.BigQuiet
namespace Go.Proofs.YtahgffjkkdbjeaaDoor
open Go.RowKit

theorem neqFr (x0 y0 : Int) (x1 y1 : Int) (w : World) : (binOp .neq 40 (.agg #[.int .i64 x0, .int .i64 x1]) (.agg #[.int .i64 y0, .int .i64 y1])).run Tryd.prog w = .ok (.bool (!(decide (x0 = y0) && decide (x1 = y1)))) w := by
  have u2 := Tryd.underlying2
  have a2 := Tryd.isAgg2
  have z2 := Tryd.sizeOf2
  have hS : Tryd.prog.underlying 40 = some (.struct (Tryd.prog.fieldsOf 40)) := by kernel_rfl
  have hp : Tryd.prog.stoodInHeld 40 = false := by kernel_rfl
  rw [run_neq_struct, show (10000 : Nat) = 9999 + 1 from rfl, run_equalIn_agg w 9999 40 _ _ hS hp]
  simp only [Program.fieldsOf, Tryd.underlying40]
  go_simp
  by_cases h0 : x0 = y0 <;> by_cases h1 : x1 = y1 <;> simp [ba_inj, h0, h1]
theorem guardFr : Tryd.prog.eqGuardType Tryd.prog.depth 40 = false := by kernel_rfl

theorem neqMg (x0 y0 : Int) (x1 y1 : Int) (x2 y2 : Int) (x3 y3 : Int) (x4 y4 : Int) (w : World) : (binOp .neq 42 (.agg #[.int .i64 x0, .int .i64 x1, .int .i64 x2, .int .i64 x3, .int .i64 x4]) (.agg #[.int .i64 y0, .int .i64 y1, .int .i64 y2, .int .i64 y3, .int .i64 y4])).run Tryd.prog w = .ok (.bool (!(decide (x0 = y0) && decide (x1 = y1) && decide (x2 = y2) && decide (x3 = y3) && decide (x4 = y4)))) w := by
  have u2 := Tryd.underlying2
  have a2 := Tryd.isAgg2
  have z2 := Tryd.sizeOf2
  have u3 := Tryd.underlying3
  have a3 := Tryd.isAgg3
  have z3 := Tryd.sizeOf3
  have u40 := Tryd.underlying40
  have a40 := Tryd.isAgg40
  have z40 := Tryd.sizeOf40
  have hS : Tryd.prog.underlying 42 = some (.struct (Tryd.prog.fieldsOf 42)) := by kernel_rfl
  have hp : Tryd.prog.stoodInHeld 42 = false := by kernel_rfl
  rw [run_neq_struct, show (10000 : Nat) = 9999 + 1 from rfl, run_equalIn_agg w 9999 42 _ _ hS hp]
  simp only [Program.fieldsOf, Tryd.underlying42]
  go_simp
  by_cases h0 : x0 = y0 <;> by_cases h1 : x1 = y1 <;> by_cases h2 : x2 = y2 <;> by_cases h3 : x3 = y3 <;> by_cases h4 : x4 = y4 <;> simp [ba_inj, h0, h1, h2, h3, h4]
theorem guardMg : Tryd.prog.eqGuardType Tryd.prog.depth 42 = false := by kernel_rfl

theorem neqNd (x0 y0 : Int) (x1 y1 : ByteArray) (w : World) : (binOp .neq 66 (.agg #[.int .i64 x0, .string x1]) (.agg #[.int .i64 y0, .string y1])).run Tryd.prog w = .ok (.bool (!(decide (x0 = y0) && decide (x1 = y1)))) w := by
  have u3 := Tryd.underlying3
  have a3 := Tryd.isAgg3
  have z3 := Tryd.sizeOf3
  have u9 := Tryd.underlying9
  have a9 := Tryd.isAgg9
  have z9 := Tryd.sizeOf9
  have hS : Tryd.prog.underlying 66 = some (.struct (Tryd.prog.fieldsOf 66)) := by kernel_rfl
  have hp : Tryd.prog.stoodInHeld 66 = false := by kernel_rfl
  rw [run_neq_struct, show (10000 : Nat) = 9999 + 1 from rfl, run_equalIn_agg w 9999 66 _ _ hS hp]
  simp only [Program.fieldsOf, Tryd.underlying66]
  go_simp
  by_cases h0 : x0 = y0 <;> by_cases h1 : x1 = y1 <;> simp [ba_inj, h0, h1]
theorem guardNd : Tryd.prog.eqGuardType Tryd.prog.depth 66 = false := by kernel_rfl

set_option maxHeartbeats 400000 in
theorem eqI_any (a1 a2 : Option Addr) (n1 n2 c1 c2 : Nat) (l1 l2 : List Int) (w : World) (hn1 : l1.length = n1) (hn2 : l2.length = n2) (hm1 : n1 ≤ 1152921504606846976) (hm2 : n2 ≤ 1152921504606846976) (hA : Rd w a1 (fl encI l1)) (hB : Rd w a2 (fl encI l2)) :
    Calls Tryd.prog 21 #[.slice a1 n1 c1, .slice a2 n2 c2] w fun e w' => e = .returned (.bool (decide (l1 = l2))) ∧ ∃ n, w' = w.drewN n := by
  have HN1 := Lib.hid hn1; clear hn1
  have HN2 := Lib.hid hn2; clear hn2
  by_cases hl : n1 = n2
  · subst hl
    go_enter Tryd.func21, Tryd.ntmps21
    go_wp2
    go_loopw [13, 5] (fun x _ wr => ∃ k : Nat, k ≤ n1 ∧ x = .int .i64 k ∧ l1.take k = l2.take k ∧ ∃ n, wr = w.drewN n) (fun x _ _ => n1 - (intOf x).toNat)
    case atStart => exact ⟨0, by omega, rfl, rfl, 0, rfl⟩
    case round =>
      obtain ⟨k, hk, rfl, ht, n, rfl⟩ := hrel
      have Ht := Lib.hid ht; clear ht
      by_cases hlt : k < n1
      · obtain ⟨b1, o1, rfl, _, hc1⟩ := rdI hA (by rw [HN1.out]; omega)
        obtain ⟨b2, o2, rfl, _, hc2⟩ := rdI hB (by rw [HN2.out]; omega)
        have G1 := hc1 k (by rw [HN1.out]; omega)
        have G2 := hc2 k (by rw [HN2.out]; omega)
        clear hc1 hc2 hA hB
        by_cases e0 : iA l1 k = iA l2 k
        · have ht2 := Lib.hid (eqI_step l1 l2 k Ht.out (by rw [HN1.out]; omega) (by rw [HN2.out]; omega) e0)
          have hb : (iA l1 k != iA l2 k) = false := by rw [e0]; simp
          clear e0
          go_wp2
          go_quiet (fail)
          go_wp2
          go_roundw
          case rel => exact ⟨k + 1, by omega, by go_num, ht2.out, n + nq, by simp⟩
          case measure => simp [intOf]; omega
        · have he := Lib.hid (neI_iA l1 l2 k e0)
          have hb : (iA l1 k != iA l2 k) = true := by simpa using e0
          clear e0
          go_wp2
          go_quiet (fail)
          go_wp2
          go_ret
          exact ⟨ret_b (decide_eq_false he.out).symm, n + nq, by simp⟩
      · go_wp2
        go_ret
        have he : l1 = l2 := by have := Ht.out; rwa [List.take_of_length_le (by rw [HN1.out]; omega), List.take_of_length_le (by rw [HN2.out]; omega)] at this
        exact ⟨ret_b (decide_eq_true he).symm, n, rfl⟩
  · go_enter Tryd.func21, Tryd.ntmps21
    go_wp2
    go_ret
    exact ⟨ret_b (decide_eq_false (fun e => hl (by rw [← HN1.out, ← HN2.out, e]))).symm, 0, rfl⟩

set_option maxHeartbeats 400000 in
theorem eqFr_any (a1 a2 : Option Addr) (n1 n2 c1 c2 : Nat) (l1 l2 : List Fr) (w : World) (hn1 : l1.length = n1) (hn2 : l2.length = n2) (hm1 : n1 ≤ 1152921504606846976) (hm2 : n2 ≤ 1152921504606846976) (hA : Rd w a1 (fl encFr l1)) (hB : Rd w a2 (fl encFr l2)) :
    Calls Tryd.prog 27 #[.slice a1 n1 c1, .slice a2 n2 c2] w fun e w' => e = .returned (.bool (decide (l1 = l2))) ∧ ∃ n, w' = w.drewN n := by
  have HN1 := Lib.hid hn1; clear hn1
  have HN2 := Lib.hid hn2; clear hn2
  by_cases hl : n1 = n2
  · subst hl
    go_enter Tryd.func27, Tryd.ntmps27
    go_wp2
    go_loopw [13, 5] (fun x _ wr => ∃ k : Nat, k ≤ n1 ∧ x = .int .i64 k ∧ l1.take k = l2.take k ∧ ∃ n, wr = w.drewN n) (fun x _ _ => n1 - (intOf x).toNat)
    case atStart => exact ⟨0, by omega, rfl, rfl, 0, rfl⟩
    case round =>
      obtain ⟨k, hk, rfl, ht, n, rfl⟩ := hrel
      have Ht := Lib.hid ht; clear ht
      by_cases hlt : k < n1
      · obtain ⟨b1, o1, rfl, _, hc1⟩ := rdFr hA (by rw [HN1.out]; omega)
        obtain ⟨b2, o2, rfl, _, hc2⟩ := rdFr hB (by rw [HN2.out]; omega)
        have G1 := hc1 k (by rw [HN1.out]; omega)
        have G2 := hc2 k (by rw [HN2.out]; omega)
        clear hc1 hc2 hA hB
        obtain ⟨g10, g11⟩ := G1
        obtain ⟨g20, g21⟩ := G2
        have hg := guardFr
        have hq := neqFr (fN l1 k) (fN l2 k) (fD l1 k) (fD l2 k)
        by_cases e0 : fN l1 k = fN l2 k
        · by_cases e1 : fD l1 k = fD l2 k
          · have ht2 := Lib.hid (eqFr_step l1 l2 k Ht.out (by rw [HN1.out]; omega) (by rw [HN2.out]; omega) e0 e1)
            rw [decide_eq_true e0] at hq
            rw [decide_eq_true e1] at hq
            clear e0 e1
            simp only [Bool.and_true, Bool.true_and, Bool.not_true, Bool.and_self] at hq
            go_wp2
            go_quiet (fail)
            go_wp2
            go_roundw
            case rel => exact ⟨k + 1, by omega, by go_num, ht2.out, n + nq, by simp⟩
            case measure => simp [intOf]; omega
          · have he := Lib.hid (neFr_fD l1 l2 k e1)
            rw [decide_eq_false e1] at hq
            clear e0 e1
            simp only [Bool.and_false, Bool.false_and, Bool.not_false] at hq
            go_wp2
            go_quiet (fail)
            go_wp2
            go_ret
            exact ⟨ret_b (decide_eq_false he.out).symm, n + nq, by simp⟩
        · have he := Lib.hid (neFr_fN l1 l2 k e0)
          rw [decide_eq_false e0] at hq
          clear e0
          simp only [Bool.and_false, Bool.false_and, Bool.not_false] at hq
          go_wp2
          go_quiet (fail)
          go_wp2
          go_ret
          exact ⟨ret_b (decide_eq_false he.out).symm, n + nq, by simp⟩
      · go_wp2
        go_ret
        have he : l1 = l2 := by have := Ht.out; rwa [List.take_of_length_le (by rw [HN1.out]; omega), List.take_of_length_le (by rw [HN2.out]; omega)] at this
        exact ⟨ret_b (decide_eq_true he).symm, n, rfl⟩
  · go_enter Tryd.func27, Tryd.ntmps27
    go_wp2
    go_ret
    exact ⟨ret_b (decide_eq_false (fun e => hl (by rw [← HN1.out, ← HN2.out, e]))).symm, 0, rfl⟩

set_option maxHeartbeats 400000 in
theorem eqMg_any (a1 a2 : Option Addr) (n1 n2 c1 c2 : Nat) (l1 l2 : List Mg) (w : World) (hn1 : l1.length = n1) (hn2 : l2.length = n2) (hm1 : n1 ≤ 1152921504606846976) (hm2 : n2 ≤ 1152921504606846976) (hA : Rd w a1 (fl encMg l1)) (hB : Rd w a2 (fl encMg l2)) :
    Calls Tryd.prog 30 #[.slice a1 n1 c1, .slice a2 n2 c2] w fun e w' => e = .returned (.bool (decide (l1 = l2))) ∧ ∃ n, w' = w.drewN n := by
  have HN1 := Lib.hid hn1; clear hn1
  have HN2 := Lib.hid hn2; clear hn2
  by_cases hl : n1 = n2
  · subst hl
    go_enter Tryd.func30, Tryd.ntmps30
    go_wp2
    go_loopw [13, 5] (fun x _ wr => ∃ k : Nat, k ≤ n1 ∧ x = .int .i64 k ∧ l1.take k = l2.take k ∧ ∃ n, wr = w.drewN n) (fun x _ _ => n1 - (intOf x).toNat)
    case atStart => exact ⟨0, by omega, rfl, rfl, 0, rfl⟩
    case round =>
      obtain ⟨k, hk, rfl, ht, n, rfl⟩ := hrel
      have Ht := Lib.hid ht; clear ht
      by_cases hlt : k < n1
      · obtain ⟨b1, o1, rfl, _, hc1⟩ := rdMg hA (by rw [HN1.out]; omega)
        obtain ⟨b2, o2, rfl, _, hc2⟩ := rdMg hB (by rw [HN2.out]; omega)
        have G1 := hc1 k (by rw [HN1.out]; omega)
        have G2 := hc2 k (by rw [HN2.out]; omega)
        clear hc1 hc2 hA hB
        obtain ⟨g10, g11, g12, g13, g14⟩ := G1
        obtain ⟨g20, g21, g22, g23, g24⟩ := G2
        have hg := guardMg
        have hq := neqMg (mA l1 k) (mA l2 k) (mB l1 k) (mB l2 k) (mN l1 k) (mN l2 k) (mD l1 k) (mD l2 k) (mS l1 k) (mS l2 k)
        by_cases e0 : mA l1 k = mA l2 k
        · by_cases e1 : mB l1 k = mB l2 k
          · by_cases e2 : mN l1 k = mN l2 k
            · by_cases e3 : mD l1 k = mD l2 k
              · by_cases e4 : mS l1 k = mS l2 k
                · have ht2 := Lib.hid (eqMg_step l1 l2 k Ht.out (by rw [HN1.out]; omega) (by rw [HN2.out]; omega) e0 e1 e2 e3 e4)
                  rw [decide_eq_true e0] at hq
                  rw [decide_eq_true e1] at hq
                  rw [decide_eq_true e2] at hq
                  rw [decide_eq_true e3] at hq
                  rw [decide_eq_true e4] at hq
                  clear e0 e1 e2 e3 e4
                  simp only [Bool.and_true, Bool.true_and, Bool.not_true, Bool.and_self] at hq
                  go_wp2
                  go_quiet (fail)
                  go_wp2
                  go_roundw
                  case rel => exact ⟨k + 1, by omega, by go_num, ht2.out, n + nq, by simp⟩
                  case measure => simp [intOf]; omega
                · have he := Lib.hid (neMg_mS l1 l2 k e4)
                  rw [decide_eq_false e4] at hq
                  clear e0 e1 e2 e3 e4
                  simp only [Bool.and_false, Bool.false_and, Bool.not_false] at hq
                  go_wp2
                  go_quiet (fail)
                  go_wp2
                  go_ret
                  exact ⟨ret_b (decide_eq_false he.out).symm, n + nq, by simp⟩
              · have he := Lib.hid (neMg_mD l1 l2 k e3)
                rw [decide_eq_false e3] at hq
                clear e0 e1 e2 e3
                simp only [Bool.and_false, Bool.false_and, Bool.not_false] at hq
                go_wp2
                go_quiet (fail)
                go_wp2
                go_ret
                exact ⟨ret_b (decide_eq_false he.out).symm, n + nq, by simp⟩
            · have he := Lib.hid (neMg_mN l1 l2 k e2)
              rw [decide_eq_false e2] at hq
              clear e0 e1 e2
              simp only [Bool.and_false, Bool.false_and, Bool.not_false] at hq
              go_wp2
              go_quiet (fail)
              go_wp2
              go_ret
              exact ⟨ret_b (decide_eq_false he.out).symm, n + nq, by simp⟩
          · have he := Lib.hid (neMg_mB l1 l2 k e1)
            rw [decide_eq_false e1] at hq
            clear e0 e1
            simp only [Bool.and_false, Bool.false_and, Bool.not_false] at hq
            go_wp2
            go_quiet (fail)
            go_wp2
            go_ret
            exact ⟨ret_b (decide_eq_false he.out).symm, n + nq, by simp⟩
        · have he := Lib.hid (neMg_mA l1 l2 k e0)
          rw [decide_eq_false e0] at hq
          clear e0
          simp only [Bool.and_false, Bool.false_and, Bool.not_false] at hq
          go_wp2
          go_quiet (fail)
          go_wp2
          go_ret
          exact ⟨ret_b (decide_eq_false he.out).symm, n + nq, by simp⟩
      · go_wp2
        go_ret
        have he : l1 = l2 := by have := Ht.out; rwa [List.take_of_length_le (by rw [HN1.out]; omega), List.take_of_length_le (by rw [HN2.out]; omega)] at this
        exact ⟨ret_b (decide_eq_true he).symm, n, rfl⟩
  · go_enter Tryd.func30, Tryd.ntmps30
    go_wp2
    go_ret
    exact ⟨ret_b (decide_eq_false (fun e => hl (by rw [← HN1.out, ← HN2.out, e]))).symm, 0, rfl⟩

set_option maxHeartbeats 400000 in
theorem eqNd_any (a1 a2 : Option Addr) (n1 n2 c1 c2 : Nat) (l1 l2 : List Nd) (w : World) (hn1 : l1.length = n1) (hn2 : l2.length = n2) (hm1 : n1 ≤ 1152921504606846976) (hm2 : n2 ≤ 1152921504606846976) (hA : Rd w a1 (fl encNd l1)) (hB : Rd w a2 (fl encNd l2)) :
    Calls Tryd.prog 42 #[.slice a1 n1 c1, .slice a2 n2 c2] w fun e w' => e = .returned (.bool (decide (l1 = l2))) ∧ ∃ n, w' = w.drewN n := by
  have HN1 := Lib.hid hn1; clear hn1
  have HN2 := Lib.hid hn2; clear hn2
  by_cases hl : n1 = n2
  · subst hl
    go_enter Tryd.func42, Tryd.ntmps42
    go_wp2
    go_loopw [13, 5] (fun x _ wr => ∃ k : Nat, k ≤ n1 ∧ x = .int .i64 k ∧ l1.take k = l2.take k ∧ ∃ n, wr = w.drewN n) (fun x _ _ => n1 - (intOf x).toNat)
    case atStart => exact ⟨0, by omega, rfl, rfl, 0, rfl⟩
    case round =>
      obtain ⟨k, hk, rfl, ht, n, rfl⟩ := hrel
      have Ht := Lib.hid ht; clear ht
      by_cases hlt : k < n1
      · obtain ⟨b1, o1, rfl, _, hc1⟩ := rdNd hA (by rw [HN1.out]; omega)
        obtain ⟨b2, o2, rfl, _, hc2⟩ := rdNd hB (by rw [HN2.out]; omega)
        have G1 := hc1 k (by rw [HN1.out]; omega)
        have G2 := hc2 k (by rw [HN2.out]; omega)
        clear hc1 hc2 hA hB
        obtain ⟨g10, g11⟩ := G1
        obtain ⟨g20, g21⟩ := G2
        have hg := guardNd
        have hq := neqNd (nP l1 k) (nP l2 k) (nS l1 k) (nS l2 k)
        by_cases e0 : nP l1 k = nP l2 k
        · by_cases e1 : nS l1 k = nS l2 k
          · have ht2 := Lib.hid (eqNd_step l1 l2 k Ht.out (by rw [HN1.out]; omega) (by rw [HN2.out]; omega) e0 e1)
            rw [decide_eq_true e0] at hq
            rw [decide_eq_true e1] at hq
            clear e0 e1
            simp only [Bool.and_true, Bool.true_and, Bool.not_true, Bool.and_self] at hq
            go_wp2
            go_quiet (fail)
            go_wp2
            go_roundw
            case rel => exact ⟨k + 1, by omega, by go_num, ht2.out, n + nq, by simp⟩
            case measure => simp [intOf]; omega
          · have he := Lib.hid (neNd_nS l1 l2 k e1)
            rw [decide_eq_false e1] at hq
            clear e0 e1
            simp only [Bool.and_false, Bool.false_and, Bool.not_false] at hq
            go_wp2
            go_quiet (fail)
            go_wp2
            go_ret
            exact ⟨ret_b (decide_eq_false he.out).symm, n + nq, by simp⟩
        · have he := Lib.hid (neNd_nP l1 l2 k e0)
          rw [decide_eq_false e0] at hq
          clear e0
          simp only [Bool.and_false, Bool.false_and, Bool.not_false] at hq
          go_wp2
          go_quiet (fail)
          go_wp2
          go_ret
          exact ⟨ret_b (decide_eq_false he.out).symm, n + nq, by simp⟩
      · go_wp2
        go_ret
        have he : l1 = l2 := by have := Ht.out; rwa [List.take_of_length_le (by rw [HN1.out]; omega), List.take_of_length_le (by rw [HN2.out]; omega)] at this
        exact ⟨ret_b (decide_eq_true he).symm, n, rfl⟩
  · go_enter Tryd.func42, Tryd.ntmps42
    go_wp2
    go_ret
    exact ⟨ret_b (decide_eq_false (fun e => hl (by rw [← HN1.out, ← HN2.out, e]))).symm, 0, rfl⟩

end Go.Proofs.YtahgffjkkdbjeaaDoor
