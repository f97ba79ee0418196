/- slices.Equal at numbers, fractions, merges and nodes: it returns whether both lists are equal; nothing is written. glotto.scaled: the distances of n languages multiplied by their common denominator, or the first error. glotto.scaled at every n and every list: the errors of n and d first. -/
import Derived.Test.YtahgffjkkdbjeaaDoorZ1
import Derived.Test.YtahgffjkkdbjeaaDoorRows
import Derived.Deep.QuietTactic
import Derived.BigQuiet
import Derived.Deep.DeepCutAuto
import Derived.Deep.CutBlock
namespace Go.Proofs.YtahgffjkkdbjeaaDoor
open Go.RowKit

theorem neqFr (x0 y0 : Int) (x1 y1 : Int) (w : World) : (binOp .neq 40 (.agg #[.int .i64 x0, .int .i64 x1]) (.agg #[.int .i64 y0, .int .i64 y1])).run Tryd.prog w = .ok (.bool (!(decide (x0 = y0) && decide (x1 = y1)))) w := by
  have u2 := Tryd.underlying2
  have a2 := Tryd.isAgg2
  have z2 := Tryd.sizeOf2
  have hS : Tryd.prog.underlying 40 = some (.struct (Tryd.prog.fieldsOf 40)) := by kernel_rfl
  have hp : Tryd.prog.stoodInHeld 40 = false := by kernel_rfl
  rw [run_neq_struct, show (10000 : Nat) = 9999 + 1 from rfl, run_equalIn_agg w 9999 40 _ _ hS hp]
  simp only [Program.fieldsOf, Tryd.underlying40]
  go_simp
  by_cases h0 : x0 = y0 <;> by_cases h1 : x1 = y1 <;> simp [ba_inj, h0, h1]
theorem guardFr : Tryd.prog.eqGuardType Tryd.prog.depth 40 = false := by kernel_rfl

theorem neqMg (x0 y0 : Int) (x1 y1 : Int) (x2 y2 : Int) (x3 y3 : Int) (x4 y4 : Int) (w : World) : (binOp .neq 42 (.agg #[.int .i64 x0, .int .i64 x1, .int .i64 x2, .int .i64 x3, .int .i64 x4]) (.agg #[.int .i64 y0, .int .i64 y1, .int .i64 y2, .int .i64 y3, .int .i64 y4])).run Tryd.prog w = .ok (.bool (!(decide (x0 = y0) && decide (x1 = y1) && decide (x2 = y2) && decide (x3 = y3) && decide (x4 = y4)))) w := by
  have u2 := Tryd.underlying2
  have a2 := Tryd.isAgg2
  have z2 := Tryd.sizeOf2
  have u3 := Tryd.underlying3
  have a3 := Tryd.isAgg3
  have z3 := Tryd.sizeOf3
  have u40 := Tryd.underlying40
  have a40 := Tryd.isAgg40
  have z40 := Tryd.sizeOf40
  have hS : Tryd.prog.underlying 42 = some (.struct (Tryd.prog.fieldsOf 42)) := by kernel_rfl
  have hp : Tryd.prog.stoodInHeld 42 = false := by kernel_rfl
  rw [run_neq_struct, show (10000 : Nat) = 9999 + 1 from rfl, run_equalIn_agg w 9999 42 _ _ hS hp]
  simp only [Program.fieldsOf, Tryd.underlying42]
  go_simp
  by_cases h0 : x0 = y0 <;> by_cases h1 : x1 = y1 <;> by_cases h2 : x2 = y2 <;> by_cases h3 : x3 = y3 <;> by_cases h4 : x4 = y4 <;> simp [ba_inj, h0, h1, h2, h3, h4]
theorem guardMg : Tryd.prog.eqGuardType Tryd.prog.depth 42 = false := by kernel_rfl

theorem neqNd (x0 y0 : Int) (x1 y1 : ByteArray) (w : World) : (binOp .neq 66 (.agg #[.int .i64 x0, .string x1]) (.agg #[.int .i64 y0, .string y1])).run Tryd.prog w = .ok (.bool (!(decide (x0 = y0) && decide (x1 = y1)))) w := by
  have u3 := Tryd.underlying3
  have a3 := Tryd.isAgg3
  have z3 := Tryd.sizeOf3
  have u9 := Tryd.underlying9
  have a9 := Tryd.isAgg9
  have z9 := Tryd.sizeOf9
  have hS : Tryd.prog.underlying 66 = some (.struct (Tryd.prog.fieldsOf 66)) := by kernel_rfl
  have hp : Tryd.prog.stoodInHeld 66 = false := by kernel_rfl
  rw [run_neq_struct, show (10000 : Nat) = 9999 + 1 from rfl, run_equalIn_agg w 9999 66 _ _ hS hp]
  simp only [Program.fieldsOf, Tryd.underlying66]
  go_simp
  by_cases h0 : x0 = y0 <;> by_cases h1 : x1 = y1 <;> simp [ba_inj, h0, h1]
theorem guardNd : Tryd.prog.eqGuardType Tryd.prog.depth 66 = false := by kernel_rfl

set_option maxHeartbeats 400000 in
theorem eqI_any (a1 a2 : Option Addr) (n1 n2 c1 c2 : Nat) (l1 l2 : List Int) (w : World) (hn1 : l1.length = n1) (hn2 : l2.length = n2) (hm1 : n1 ≤ 1152921504606846976) (hm2 : n2 ≤ 1152921504606846976) (hA : Rd w a1 (fl encI l1)) (hB : Rd w a2 (fl encI l2)) :
    Calls Tryd.prog 21 #[.slice a1 n1 c1, .slice a2 n2 c2] w fun e w' => e = .returned (.bool (decide (l1 = l2))) ∧ ∃ n, w' = w.drewN n := by
  have HN1 := Lib.hid hn1; clear hn1
  have HN2 := Lib.hid hn2; clear hn2
  by_cases hl : n1 = n2
  · subst hl
    go_enter Tryd.func21, Tryd.ntmps21
    go_wp2
    go_loopw [13, 5] (fun x _ wr => ∃ k : Nat, k ≤ n1 ∧ x = .int .i64 k ∧ l1.take k = l2.take k ∧ ∃ n, wr = w.drewN n) (fun x _ _ => n1 - (intOf x).toNat)
    case atStart => exact ⟨0, by omega, rfl, rfl, 0, rfl⟩
    case round =>
      obtain ⟨k, hk, rfl, ht, n, rfl⟩ := hrel
      have Ht := Lib.hid ht; clear ht
      by_cases hlt : k < n1
      · obtain ⟨b1, o1, rfl, _, hc1⟩ := rdI hA (by rw [HN1.out]; omega)
        obtain ⟨b2, o2, rfl, _, hc2⟩ := rdI hB (by rw [HN2.out]; omega)
        have G1 := hc1 k (by rw [HN1.out]; omega)
        have G2 := hc2 k (by rw [HN2.out]; omega)
        clear hc1 hc2 hA hB
        by_cases e0 : iA l1 k = iA l2 k
        · have ht2 := Lib.hid (eqI_step l1 l2 k Ht.out (by rw [HN1.out]; omega) (by rw [HN2.out]; omega) e0)
          have hb : (iA l1 k != iA l2 k) = false := by rw [e0]; simp
          clear e0
          go_wp2
          go_quiet (fail)
          go_wp2
          go_roundw
          case rel => exact ⟨k + 1, by omega, by go_num, ht2.out, n + nq, by simp⟩
          case measure => simp [intOf]; omega
        · have he := Lib.hid (neI_iA l1 l2 k e0)
          have hb : (iA l1 k != iA l2 k) = true := by simpa using e0
          clear e0
          go_wp2
          go_quiet (fail)
          go_wp2
          go_ret
          exact ⟨ret_b (decide_eq_false he.out).symm, n + nq, by simp⟩
      · go_wp2
        go_ret
        have he : l1 = l2 := by have := Ht.out; rwa [List.take_of_length_le (by rw [HN1.out]; omega), List.take_of_length_le (by rw [HN2.out]; omega)] at this
        exact ⟨ret_b (decide_eq_true he).symm, n, rfl⟩
  · go_enter Tryd.func21, Tryd.ntmps21
    go_wp2
    go_ret
    exact ⟨ret_b (decide_eq_false (fun e => hl (by rw [← HN1.out, ← HN2.out, e]))).symm, 0, rfl⟩

set_option maxHeartbeats 400000 in
theorem eqFr_any (a1 a2 : Option Addr) (n1 n2 c1 c2 : Nat) (l1 l2 : List Fr) (w : World) (hn1 : l1.length = n1) (hn2 : l2.length = n2) (hm1 : n1 ≤ 1152921504606846976) (hm2 : n2 ≤ 1152921504606846976) (hA : Rd w a1 (fl encFr l1)) (hB : Rd w a2 (fl encFr l2)) :
    Calls Tryd.prog 27 #[.slice a1 n1 c1, .slice a2 n2 c2] w fun e w' => e = .returned (.bool (decide (l1 = l2))) ∧ ∃ n, w' = w.drewN n := by
  have HN1 := Lib.hid hn1; clear hn1
  have HN2 := Lib.hid hn2; clear hn2
  by_cases hl : n1 = n2
  · subst hl
    go_enter Tryd.func27, Tryd.ntmps27
    go_wp2
    go_loopw [13, 5] (fun x _ wr => ∃ k : Nat, k ≤ n1 ∧ x = .int .i64 k ∧ l1.take k = l2.take k ∧ ∃ n, wr = w.drewN n) (fun x _ _ => n1 - (intOf x).toNat)
    case atStart => exact ⟨0, by omega, rfl, rfl, 0, rfl⟩
    case round =>
      obtain ⟨k, hk, rfl, ht, n, rfl⟩ := hrel
      have Ht := Lib.hid ht; clear ht
      by_cases hlt : k < n1
      · obtain ⟨b1, o1, rfl, _, hc1⟩ := rdFr hA (by rw [HN1.out]; omega)
        obtain ⟨b2, o2, rfl, _, hc2⟩ := rdFr hB (by rw [HN2.out]; omega)
        have G1 := hc1 k (by rw [HN1.out]; omega)
        have G2 := hc2 k (by rw [HN2.out]; omega)
        clear hc1 hc2 hA hB
        obtain ⟨g10, g11⟩ := G1
        obtain ⟨g20, g21⟩ := G2
        have hg := guardFr
        have hq := neqFr (fN l1 k) (fN l2 k) (fD l1 k) (fD l2 k)
        by_cases e0 : fN l1 k = fN l2 k
        · by_cases e1 : fD l1 k = fD l2 k
          · have ht2 := Lib.hid (eqFr_step l1 l2 k Ht.out (by rw [HN1.out]; omega) (by rw [HN2.out]; omega) e0 e1)
            rw [decide_eq_true e0] at hq
            rw [decide_eq_true e1] at hq
            clear e0 e1
            simp only [Bool.and_true, Bool.true_and, Bool.not_true, Bool.and_self] at hq
            go_wp2
            go_quiet (fail)
            go_wp2
            go_roundw
            case rel => exact ⟨k + 1, by omega, by go_num, ht2.out, n + nq, by simp⟩
            case measure => simp [intOf]; omega
          · have he := Lib.hid (neFr_fD l1 l2 k e1)
            rw [decide_eq_false e1] at hq
            clear e0 e1
            simp only [Bool.and_false, Bool.false_and, Bool.not_false] at hq
            go_wp2
            go_quiet (fail)
            go_wp2
            go_ret
            exact ⟨ret_b (decide_eq_false he.out).symm, n + nq, by simp⟩
        · have he := Lib.hid (neFr_fN l1 l2 k e0)
          rw [decide_eq_false e0] at hq
          clear e0
          simp only [Bool.and_false, Bool.false_and, Bool.not_false] at hq
          go_wp2
          go_quiet (fail)
          go_wp2
          go_ret
          exact ⟨ret_b (decide_eq_false he.out).symm, n + nq, by simp⟩
      · go_wp2
        go_ret
        have he : l1 = l2 := by have := Ht.out; rwa [List.take_of_length_le (by rw [HN1.out]; omega), List.take_of_length_le (by rw [HN2.out]; omega)] at this
        exact ⟨ret_b (decide_eq_true he).symm, n, rfl⟩
  · go_enter Tryd.func27, Tryd.ntmps27
    go_wp2
    go_ret
    exact ⟨ret_b (decide_eq_false (fun e => hl (by rw [← HN1.out, ← HN2.out, e]))).symm, 0, rfl⟩

set_option maxHeartbeats 400000 in
theorem eqMg_any (a1 a2 : Option Addr) (n1 n2 c1 c2 : Nat) (l1 l2 : List Mg) (w : World) (hn1 : l1.length = n1) (hn2 : l2.length = n2) (hm1 : n1 ≤ 1152921504606846976) (hm2 : n2 ≤ 1152921504606846976) (hA : Rd w a1 (fl encMg l1)) (hB : Rd w a2 (fl encMg l2)) :
    Calls Tryd.prog 30 #[.slice a1 n1 c1, .slice a2 n2 c2] w fun e w' => e = .returned (.bool (decide (l1 = l2))) ∧ ∃ n, w' = w.drewN n := by
  have HN1 := Lib.hid hn1; clear hn1
  have HN2 := Lib.hid hn2; clear hn2
  by_cases hl : n1 = n2
  · subst hl
    go_enter Tryd.func30, Tryd.ntmps30
    go_wp2
    go_loopw [13, 5] (fun x _ wr => ∃ k : Nat, k ≤ n1 ∧ x = .int .i64 k ∧ l1.take k = l2.take k ∧ ∃ n, wr = w.drewN n) (fun x _ _ => n1 - (intOf x).toNat)
    case atStart => exact ⟨0, by omega, rfl, rfl, 0, rfl⟩
    case round =>
      obtain ⟨k, hk, rfl, ht, n, rfl⟩ := hrel
      have Ht := Lib.hid ht; clear ht
      by_cases hlt : k < n1
      · obtain ⟨b1, o1, rfl, _, hc1⟩ := rdMg hA (by rw [HN1.out]; omega)
        obtain ⟨b2, o2, rfl, _, hc2⟩ := rdMg hB (by rw [HN2.out]; omega)
        have G1 := hc1 k (by rw [HN1.out]; omega)
        have G2 := hc2 k (by rw [HN2.out]; omega)
        clear hc1 hc2 hA hB
        obtain ⟨g10, g11, g12, g13, g14⟩ := G1
        obtain ⟨g20, g21, g22, g23, g24⟩ := G2
        have hg := guardMg
        have hq := neqMg (mA l1 k) (mA l2 k) (mB l1 k) (mB l2 k) (mN l1 k) (mN l2 k) (mD l1 k) (mD l2 k) (mS l1 k) (mS l2 k)
        by_cases e0 : mA l1 k = mA l2 k
        · by_cases e1 : mB l1 k = mB l2 k
          · by_cases e2 : mN l1 k = mN l2 k
            · by_cases e3 : mD l1 k = mD l2 k
              · by_cases e4 : mS l1 k = mS l2 k
                · have ht2 := Lib.hid (eqMg_step l1 l2 k Ht.out (by rw [HN1.out]; omega) (by rw [HN2.out]; omega) e0 e1 e2 e3 e4)
                  rw [decide_eq_true e0] at hq
                  rw [decide_eq_true e1] at hq
                  rw [decide_eq_true e2] at hq
                  rw [decide_eq_true e3] at hq
                  rw [decide_eq_true e4] at hq
                  clear e0 e1 e2 e3 e4
                  simp only [Bool.and_true, Bool.true_and, Bool.not_true, Bool.and_self] at hq
                  go_wp2
                  go_quiet (fail)
                  go_wp2
                  go_roundw
                  case rel => exact ⟨k + 1, by omega, by go_num, ht2.out, n + nq, by simp⟩
                  case measure => simp [intOf]; omega
                · have he := Lib.hid (neMg_mS l1 l2 k e4)
                  rw [decide_eq_false e4] at hq
                  clear e0 e1 e2 e3 e4
                  simp only [Bool.and_false, Bool.false_and, Bool.not_false] at hq
                  go_wp2
                  go_quiet (fail)
                  go_wp2
                  go_ret
                  exact ⟨ret_b (decide_eq_false he.out).symm, n + nq, by simp⟩
              · have he := Lib.hid (neMg_mD l1 l2 k e3)
                rw [decide_eq_false e3] at hq
                clear e0 e1 e2 e3
                simp only [Bool.and_false, Bool.false_and, Bool.not_false] at hq
                go_wp2
                go_quiet (fail)
                go_wp2
                go_ret
                exact ⟨ret_b (decide_eq_false he.out).symm, n + nq, by simp⟩
            · have he := Lib.hid (neMg_mN l1 l2 k e2)
              rw [decide_eq_false e2] at hq
              clear e0 e1 e2
              simp only [Bool.and_false, Bool.false_and, Bool.not_false] at hq
              go_wp2
              go_quiet (fail)
              go_wp2
              go_ret
              exact ⟨ret_b (decide_eq_false he.out).symm, n + nq, by simp⟩
          · have he := Lib.hid (neMg_mB l1 l2 k e1)
            rw [decide_eq_false e1] at hq
            clear e0 e1
            simp only [Bool.and_false, Bool.false_and, Bool.not_false] at hq
            go_wp2
            go_quiet (fail)
            go_wp2
            go_ret
            exact ⟨ret_b (decide_eq_false he.out).symm, n + nq, by simp⟩
        · have he := Lib.hid (neMg_mA l1 l2 k e0)
          rw [decide_eq_false e0] at hq
          clear e0
          simp only [Bool.and_false, Bool.false_and, Bool.not_false] at hq
          go_wp2
          go_quiet (fail)
          go_wp2
          go_ret
          exact ⟨ret_b (decide_eq_false he.out).symm, n + nq, by simp⟩
      · go_wp2
        go_ret
        have he : l1 = l2 := by have := Ht.out; rwa [List.take_of_length_le (by rw [HN1.out]; omega), List.take_of_length_le (by rw [HN2.out]; omega)] at this
        exact ⟨ret_b (decide_eq_true he).symm, n, rfl⟩
  · go_enter Tryd.func30, Tryd.ntmps30
    go_wp2
    go_ret
    exact ⟨ret_b (decide_eq_false (fun e => hl (by rw [← HN1.out, ← HN2.out, e]))).symm, 0, rfl⟩

set_option maxHeartbeats 400000 in
theorem eqNd_any (a1 a2 : Option Addr) (n1 n2 c1 c2 : Nat) (l1 l2 : List Nd) (w : World) (hn1 : l1.length = n1) (hn2 : l2.length = n2) (hm1 : n1 ≤ 1152921504606846976) (hm2 : n2 ≤ 1152921504606846976) (hA : Rd w a1 (fl encNd l1)) (hB : Rd w a2 (fl encNd l2)) :
    Calls Tryd.prog 42 #[.slice a1 n1 c1, .slice a2 n2 c2] w fun e w' => e = .returned (.bool (decide (l1 = l2))) ∧ ∃ n, w' = w.drewN n := by
  have HN1 := Lib.hid hn1; clear hn1
  have HN2 := Lib.hid hn2; clear hn2
  by_cases hl : n1 = n2
  · subst hl
    go_enter Tryd.func42, Tryd.ntmps42
    go_wp2
    go_loopw [13, 5] (fun x _ wr => ∃ k : Nat, k ≤ n1 ∧ x = .int .i64 k ∧ l1.take k = l2.take k ∧ ∃ n, wr = w.drewN n) (fun x _ _ => n1 - (intOf x).toNat)
    case atStart => exact ⟨0, by omega, rfl, rfl, 0, rfl⟩
    case round =>
      obtain ⟨k, hk, rfl, ht, n, rfl⟩ := hrel
      have Ht := Lib.hid ht; clear ht
      by_cases hlt : k < n1
      · obtain ⟨b1, o1, rfl, _, hc1⟩ := rdNd hA (by rw [HN1.out]; omega)
        obtain ⟨b2, o2, rfl, _, hc2⟩ := rdNd hB (by rw [HN2.out]; omega)
        have G1 := hc1 k (by rw [HN1.out]; omega)
        have G2 := hc2 k (by rw [HN2.out]; omega)
        clear hc1 hc2 hA hB
        obtain ⟨g10, g11⟩ := G1
        obtain ⟨g20, g21⟩ := G2
        have hg := guardNd
        have hq := neqNd (nP l1 k) (nP l2 k) (nS l1 k) (nS l2 k)
        by_cases e0 : nP l1 k = nP l2 k
        · by_cases e1 : nS l1 k = nS l2 k
          · have ht2 := Lib.hid (eqNd_step l1 l2 k Ht.out (by rw [HN1.out]; omega) (by rw [HN2.out]; omega) e0 e1)
            rw [decide_eq_true e0] at hq
            rw [decide_eq_true e1] at hq
            clear e0 e1
            simp only [Bool.and_true, Bool.true_and, Bool.not_true, Bool.and_self] at hq
            go_wp2
            go_quiet (fail)
            go_wp2
            go_roundw
            case rel => exact ⟨k + 1, by omega, by go_num, ht2.out, n + nq, by simp⟩
            case measure => simp [intOf]; omega
          · have he := Lib.hid (neNd_nS l1 l2 k e1)
            rw [decide_eq_false e1] at hq
            clear e0 e1
            simp only [Bool.and_false, Bool.false_and, Bool.not_false] at hq
            go_wp2
            go_quiet (fail)
            go_wp2
            go_ret
            exact ⟨ret_b (decide_eq_false he.out).symm, n + nq, by simp⟩
        · have he := Lib.hid (neNd_nP l1 l2 k e0)
          rw [decide_eq_false e0] at hq
          clear e0
          simp only [Bool.and_false, Bool.false_and, Bool.not_false] at hq
          go_wp2
          go_quiet (fail)
          go_wp2
          go_ret
          exact ⟨ret_b (decide_eq_false he.out).symm, n + nq, by simp⟩
      · go_wp2
        go_ret
        have he : l1 = l2 := by have := Ht.out; rwa [List.take_of_length_le (by rw [HN1.out]; omega), List.take_of_length_le (by rw [HN2.out]; omega)] at this
        exact ⟨ret_b (decide_eq_true he).symm, n, rfl⟩
  · go_enter Tryd.func42, Tryd.ntmps42
    go_wp2
    go_ret
    exact ⟨ret_b (decide_eq_false (fun e => hl (by rw [← HN1.out, ← HN2.out, e]))).symm, 0, rfl⟩

end Go.Proofs.YtahgffjkkdbjeaaDoor
namespace Go.Proofs.YtahgffjkkdbjeaaDoor
open Go.RowKit

def ScPost (w : World) (n : Nat) (d : List Fr) (e : Ending) (w' : World) : Prop :=
  Below w.heap.size w w' ∧ ((∃ k, scaledS n d = .error k ∧ e = .returned (.tuple #[.pointer none, .int .i64 k])) ∨
    ∃ c B g, scaledS n d = .ok c ∧ e = .returned (.tuple #[.pointer (some ⟨B, 0, none⟩), .int .i64 0]) ∧ w.heap.size ≤ B ∧ Blk w' B (ofF 578 (dg n c g)) 89 ∧ (∀ i j, i < n → j < n → g (i * 24 + j) = scK d c (i * n + j)) ∧ ∀ t, g t ≤ 1073741824)
theorem sc_sym {n : Nat} {d : List Fr} (hn1 : 1 ≤ n) (hn2 : n ≤ 24) (hd : d.length = n * n) (hb : d.any badFr = false) {a b : Nat} (ha : a < n) (hb2 : b < a + 1) (h : ¬ SymP d n a b) : scaledS n d = .error 2 := by
  rw [scaledS, if_neg (by omega), if_neg (by rw [hb, hd]; simp), if_pos]
  intro hs
  exact h (hs a (by simpa using ha) b hb2)
theorem fl_low_cells {w : World} {base g n cap : Nat} {d : List Fr} (h : w.ownsRow base 40 2 (.slice (some ⟨g, 0, none⟩) n cap) n (fl encFr (d.map lowF))) (hd : d.length = n) (k : Nat) (hk : k < n) :
    w.cell? ⟨g, k * 2, none⟩ = some (.int .i64 (qN d k)) ∧ w.cell? ⟨g, k * 2 + 1, none⟩ = some (.int .i64 (qD d k)) := by
  have hl : k < (d.map lowF).length := by simp; omega
  obtain ⟨b, o, e, _, hc⟩ := rdFr (rd_of_owns h) (by omega)
  simp only [Option.some.injEq, Addr.mk.injEq, and_true] at e
  obtain ⟨rfl, rfl⟩ := e
  have := hc k hl
  rw [fN_low d k (by omega), fD_low d k (by omega)] at this
  simpa using this

theorem sc_err {w w' : World} {n : Nat} {d : List Fr} {k : Int} (hb : Below w.heap.size w w') (h : scaledS n d = .error k) : ScPost w n d (.returned (.tuple #[.pointer none, .int .i64 k])) w' := ⟨hb, .inl ⟨k, h, rfl⟩⟩
theorem sym_next {d : List Fr} {n k j : Nat} (h : Hid (∀ b, b < j → SymP d n k b)) (h2 : SymP d n k j) : Hid (∀ b, b < j + 1 → SymP d n k b) := fun b hb => by
  by_cases e : b = j
  · rw [e]; exact h2
  · exact h.out b (by omega)
theorem sym_row {d : List Fr} {n k j : Nat} (h : Hid (∀ a, a < k → ∀ b, b < a + 1 → SymP d n a b)) (h2 : Hid (∀ b, b < j → SymP d n k b)) (hj : k + 1 ≤ j) : Hid (∀ a, a < k + 1 → ∀ b, b < a + 1 → SymP d n a b) := fun a ha b hb => by
  by_cases e : a = k
  · rw [e]; exact h2.out b (by omega)
  · exact h.out a (by omega) b hb
theorem sc_over {n : Nat} {d : List Fr} (hn1 : 1 ≤ n) (hn2 : n ≤ 24) (hd : d.length = n * n) (hb : d.any badFr = false) (hs : SymOk d n) {k : Nat} (hk : k ≤ d.length) (h : cmA d k = none) : scaledS n d = .error 7 := by
  rw [scaledS, if_neg (by omega), if_neg (by rw [hb, hd]; simp), if_neg (by simpa using hs), cmA_none h hk]
theorem div_g {a b g : Nat} {w : World} (hg : Nat.gcd a b = g) (ha : a ≤ 9223372036854775807) (hb : b ≤ 9223372036854775807) :
    Calls Tryd.prog 86 #[.int .i64 a, .int .i64 b] w fun e w' => e = .returned (.int .i64 g) ∧ ∃ n, w' = w.drewN n := by rw [← hg]; exact div_any a b w ha hb
theorem dg_set1 (n c c' : Nat) (f : Nat → Nat) : (ofF 578 fun j => if j = 1 then .int .i64 c' else dg n c f j) = ofF 578 (dg n c' f) := by
  refine ofF_congr fun i _ => ?_
  simp only [dg]
  by_cases h : i = 1
  · subst h; simp
  · simp [h]
theorem sc_over2 {n : Nat} {d : List Fr} (hn1 : 1 ≤ n) (hn2 : n ≤ 24) (hd : d.length = n * n) (hb : d.any badFr = false) (hs : SymOk d n) {k c : Nat} (hk : k < d.length) (h : cmA d d.length = some c) (ho : overK d c k = true) : scaledS n d = .error 7 := by
  rw [scaledS, if_neg (by omega), if_neg (by rw [hb, hd]; simp), if_neg (by simpa using hs), h]
  exact if_pos ⟨k, hk, ho⟩
theorem sc_fine {n : Nat} {d : List Fr} (hn1 : 1 ≤ n) (hn2 : n ≤ 24) (hd : d.length = n * n) (hb : d.any badFr = false) (hs : SymOk d n) {c : Nat} (h : cmA d d.length = some c) (ho : ∀ k, k < d.length → overK d c k = false) : scaledS n d = .ok c := by
  rw [scaledS, if_neg (by omega), if_neg (by rw [hb, hd]; simp), if_neg (by simpa using hs), h]
  exact if_neg (fun ⟨k, hk, hk2⟩ => by rw [ho k hk] at hk2; cases hk2)
theorem idx_lt {n N i j : Nat} (hN : n * n = N) (hi : i < n) (hj : j < n) : i * n + j < N := by
  have : (i + 1) * n ≤ n * n := Nat.mul_le_mul_right _ hi
  rw [Nat.succ_mul] at this
  omega
theorem div_mod_two {n N k : Nat} (hN : n * n = N) (hn : 1 ≤ n) (hk : k < N) : ∃ i j : Nat, k / n = i ∧ k % n = j ∧ i < n ∧ j < n ∧ i * n + j = k :=
  ⟨_, _, rfl, rfl, (Nat.div_lt_iff_lt_mul hn).2 (by omega), Nat.mod_lt _ hn, by rw [Nat.mul_comm]; exact Nat.div_add_mod k n⟩
theorem dg_set2 (n c : Nat) (f : Nat → Nat) (a b v : Nat) : (ofF 578 fun j => if j = 2 + a * 24 + b then .int .i64 v else dg n c f j) = ofF 578 (dg n c fun t => if t = a * 24 + b then v else f t) := by
  refine ofF_congr fun i _ => ?_
  simp only [dg]
  by_cases h0 : i = 0
  · subst h0; rw [if_neg (by omega)]; rfl
  · by_cases h1 : i = 1
    · subst h1; rw [if_neg (by omega)]; rfl
    · by_cases h : i = 2 + a * 24 + b
      · simp only [if_pos h, if_neg h0, if_neg h1, if_pos (show i - 2 = a * 24 + b by omega)]
      · simp only [if_neg h, if_neg h0, if_neg h1, if_neg (show ¬ i - 2 = a * 24 + b by omega)]
theorem div_mod_uniq {n i j i' j' : Nat} (hj : j < n) (hj' : j' < n) (h : i * n + j = i' * n + j') : i = i' ∧ j = j' := by
  have h1 : (i * n + j) / n = i := by rw [Nat.mul_comm, Nat.mul_add_div (by omega), Nat.div_eq_of_lt hj, Nat.add_zero]
  have h2 : (i' * n + j') / n = i' := by rw [Nat.mul_comm, Nat.mul_add_div (by omega), Nat.div_eq_of_lt hj', Nat.add_zero]
  have h3 : i = i' := by rw [← h1, h, h2]
  subst h3
  exact ⟨rfl, by omega⟩
theorem idx_two {n N a b : Nat} (hN : n * n = N) (ha : a < n) (hb : b < n) (h : N ≤ 576) : ∃ m1 m2 k1 k2 : Nat, a * n = m1 ∧ b * n = m2 ∧ m1 + b = k1 ∧ m2 + a = k2 ∧ k1 < N ∧ k2 < N := by
  refine ⟨_, _, _, _, rfl, rfl, rfl, rfl, ?_, ?_⟩
  · have : (a + 1) * n ≤ n * n := Nat.mul_le_mul_right _ ha
    rw [Nat.succ_mul] at this
    omega
  · have : (b + 1) * n ≤ n * n := Nat.mul_le_mul_right _ hb
    rw [Nat.succ_mul] at this
    omega

set_option maxRecDepth 100000 in
set_option maxHeartbeats 6000000 in
theorem scaled_in (a : Option Addr) (n c : Nat) (d : List Fr) (w : World) (hn1 : 1 ≤ n) (hn2 : n ≤ 24) (hd : d.length = n * n) (hA : Rd w a (fl encFr d)) (hbad : d.any badFr = false) (hok : FitFr d) :
    Calls Tryd.prog 48 #[.int .i64 n, .slice a (n * n) c] w (ScPost w n d) := by
  have hnn : n * n ≤ 576 := by have := Nat.mul_le_mul hn2 hn2; omega
  have HS := fun a b ha hb h => sc_sym (a := a) (b := b) hn1 hn2 hd hbad ha hb h
  have HD := Lib.hid hd
  have HB := Lib.hid hbad
  clear hd hbad
  generalize hN : n * n = N at *
  have HN := Lib.hid hN
  have hw1 : IntKind.i64.wrap ((n : Int) * (n : Int)) = (N : Int) := wrap_nat _ _ (by rw [← hN]; simp) (by omega)
  clear hN
  have HS' := Lib.hid HS
  clear HS
  obtain ⟨i0, hi, hz0, hz1, hz2⟩ := info_parts info40
  go_enter Tryd.func48, Tryd.ntmps48
  go_upto_region 5 with (go_at_call 84; refine (anyBad_any a N c d _ HD.out (by omega) hA).mono ?_; rintro e w1 ⟨rfl, hb1⟩; rw [HB.out])
  have hmk := run_make (P := Tryd.prog) w1 22 40 i0 _ Tryd.underlying22 hi hz0 .i64 .i64 (N : Int) (N : Int) (by omega) (by omega) (by rw [hz2]; omega) (by omega)
  rw [hz1] at hmk
  simp only [Int.toNat_natCast] at hmk
  go_upto_block 0 with fail
  have hown0 : (w1.alloc (.cells (madeCells (Value.agg #[.int .i64 0, .int .i64 0]).cells (N * 2)) 40)).ownsRow w.heap.size 40 2 (.slice (some ⟨w1.heap.size, 0, none⟩) N N) N (fl encFr (done lowF (0, 0) d 0)) := by
    have := owns_made (w := w1) (base := w.heap.size) (e := 40) (k := 2) (n := N) (cs := madeCells (encFr (0, 0)).toArray (N * 2)) hb1.size (size_madeCells _ _) (by unfold maxLen; omega)
    rw [made_cells encFr 2 encFr_len (by omega)] at this
    rw [done_zero, HD.out]
    exact this
  simp only [Value.cells] at hown0
  obtain ⟨Bl, hBl⟩ : ∃ Bl, Bl = w1.heap.size := ⟨_, rfl⟩
  have hbB : w.heap.size ≤ Bl := by rw [hBl]; exact hb1.size
  rw [← hBl] at hown0 ⊢
  have H1 := Lib.hid hBl
  clear hBl hmk
  go_cut [39] (fun _ wx => wx.ownsRow w.heap.size 40 2 (.slice (some ⟨Bl, 0, none⟩) N N) N (fl encFr (d.map lowF)) ∧ Below w.heap.size w wx)
  case first =>
    go_wp2_with fail
    go_loopw [39, 7, 8] (fun x _ _ wr => ∃ k : Nat, k ≤ N ∧ x = .int .i64 k ∧ wr.ownsRow w.heap.size 40 2 (.slice (some ⟨Bl, 0, none⟩) N N) N (fl encFr (done lowF (0, 0) d k)) ∧ Below w.heap.size w wr) (fun x _ _ _ => N - (intOf x).toNat)
    case atStart => exact ⟨0, by omega, rfl, hown0, bl_alloc hb1 _⟩
    case round =>
      obtain ⟨k, hk, rfl, hown, hbl⟩ := hrel
      clear hown0
      by_cases hlt : k < N
      · obtain ⟨b, o, rfl, hb, hc⟩ := rdFr (hA.bl hbl) (by rw [HD.out]; omega)
        obtain ⟨g0, g1⟩ := hc k (by rw [HD.out]; omega)
        obtain ⟨p, q, hp, hq, hp2, hq1, hq2, hp3, hq3⟩ := fr_nats HB.out hok k (by rw [HD.out]; omega)
        rw [hp] at g0
        rw [hq] at g1
        have HP := Lib.hid hp3
        have HQ := Lib.hid hq3
        clear hc hp hq hp3 hq3
        go_wp2_with fail
        refine (low_any p q _ hp2 hq2 hq1).mono ?_
        rintro e w2 ⟨rfl, hb2⟩
        have hbl2 := bl_trans (bl_alloc hbl _) hb2
        have hown2 := owns_below hown (bl_trans (bl_alloc (Below.refl _ _) _) hb2)
        have f0 := hown2.frozenAt (k * 2)
        have f1 := hown2.frozenAt (k * 2 + 1)
        obtain ⟨v0, c0⟩ := owns_cell hown2 (k * 2) (by omega)
        obtain ⟨v1, c1⟩ := owns_cell hown2 (k * 2 + 1) (by omega)
        go_wp2_with fail
        have hkd : k < d.length := by rw [HD.out]; omega
        have hs := owns_setFr hown2 k (qN d k) (qD d k)
        have e1 : ((qN d k : Int), (qD d k : Int)) = lowF d[k] := by simp [lowF, qN, qD, hkd]
        rw [e1, done_set _ _ _ _ hkd, HP.out, HQ.out] at hs
        go_roundw
        case rel => exact ⟨k + 1, by omega, by go_num, hs, bl_set (bl_set hbl2 _ _ _ _ hbB) _ _ _ _ hbB⟩
        case measure => simp [intOf]; omega
      · go_wp2_with fail
        go_meet
        have : k = N := by omega
        subst this
        rw [done_all _ _ _ _ (by rw [HD.out]; omega)] at hown
        exact ⟨hown, hbl⟩
  case rest =>
    obtain ⟨hown, hbl⟩ := hcut
    clear hown0
    go_upto_block 2 with fail
    go_cut [54] (fun _ wx => Hid (SymOk d n) ∧ wx.ownsRow w.heap.size 40 2 (.slice (some ⟨Bl, 0, none⟩) N N) N (fl encFr (d.map lowF)) ∧ Below w.heap.size w wx)
    case first =>
      go_wp2_with fail
      go_loopw [54, 9, 59, 10] (fun x _ _ _ wr => ∃ k : Nat, k ≤ n ∧ x = .int .i64 k ∧ Hid (∀ a, a < k → ∀ b, b < a + 1 → SymP d n a b) ∧ wr.ownsRow w.heap.size 40 2 (.slice (some ⟨Bl, 0, none⟩) N N) N (fl encFr (d.map lowF)) ∧ Below w.heap.size w wr) (fun x _ _ _ _ => n - (intOf x).toNat)
      case atStart => exact ⟨0, by omega, rfl, fun a h => absurd h (by omega), hown, hbl⟩
      case round =>
        obtain ⟨k, hk, rfl, hsy, hown, hbl⟩ := hrel
        by_cases hlt : k < n
        · go_wp2_with fail
          obtain ⟨wo, rfl⟩ : ∃ wo : World, wo = wr := ⟨_, rfl⟩
          go_loopw [59, 10] (fun x _ wr => ∃ j : Nat, j ≤ k + 1 ∧ x = .int .i64 j ∧ Hid (∀ b, b < j → SymP d n k b) ∧ wr.ownsRow w.heap.size 40 2 (.slice (some ⟨Bl, 0, none⟩) N N) N (fl encFr (d.map lowF)) ∧ Below w.heap.size w wr) (fun x _ _ => k + 1 - (intOf x).toNat)
          case atStart => exact ⟨0, by omega, rfl, fun b h => absurd h (by omega), hown, hbl⟩
          case round =>
            obtain ⟨j, hj, rfl, hsj, hown2, hbl2⟩ := hrel
            clear hown hbl
            by_cases hjk : j < k + 1
            · obtain ⟨m1, m2, k1, k2, hm1, hm2, hk1, hk2, b1, b2⟩ := idx_two (n := n) (N := N) (a := k) (b := j) HN.out (by omega) (by omega) (by omega)
              have w1 := wrap_nat ((k : Int) * (n : Int)) m1 (by rw [← hm1]; simp) (by omega)
              have w2 := wrap_nat ((j : Int) * (n : Int)) m2 (by rw [← hm2]; simp) (by omega)
              have w3 := wrap_nat ((m1 : Int) + (j : Int)) k1 (by omega) (by omega)
              have w4 := wrap_nat ((m2 : Int) + (k : Int)) k2 (by omega) (by omega)
              obtain ⟨g0, g1⟩ := fl_low_cells hown2 HD.out k1 b1
              obtain ⟨g2, g3⟩ := fl_low_cells hown2 HD.out k2 b2
              have HK1 := Lib.hid (show k * n + j = k1 by omega)
              have HK2 := Lib.hid (show j * n + k = k2 by omega)
              clear hm1 hm2 hk1 hk2
              have hg := guardFr
              have hq := neqFr (qN d k1) (qN d k2) (qD d k1) (qD d k2)
              by_cases eN : qN d k1 = qN d k2
              · by_cases eD : qD d k1 = qD d k2
                · have EN := Lib.hid eN
                  have ED := Lib.hid eD
                  rw [decide_eq_true (by omega), decide_eq_true (by omega)] at hq
                  simp only [Bool.and_self, Bool.not_true] at hq
                  clear eN eD
                  by_cases hkj : k = j
                  · have hkb : ((k : Int) == (j : Int)) = true := by simp; omega
                    have HKJ := Lib.hid hkj
                    clear hkj
                    by_cases h0 : qN d k1 = 0
                    · have h0b : (((qN d k1 : Nat) : Int) != 0) = false := by simp [h0]
                      have H0 := Lib.hid h0
                      clear h0
                      go_wp2_with fail
                      go_quiet (fail)
                      go_wp2_with fail
                      go_roundw
                      case rel => exact ⟨j + 1, by omega, by go_num, sym_next hsj (by rw [SymP, HK1.out, HK2.out]; exact ⟨⟨EN.out, ED.out⟩, fun _ => H0.out⟩), hown2, bl_drewN hbl2 _⟩
                      case measure => simp [intOf]; omega
                    · have h0b : (((qN d k1 : Nat) : Int) != 0) = true := by simp [h0]
                      have hs := Lib.hid (HS'.out k j hlt hjk (by rw [SymP, HK1.out, HK2.out]; exact fun h => h0 (h.2 HKJ.out)))
                      clear h0
                      go_wp2_with fail
                      go_quiet (fail)
                      go_wp2_with fail
                      go_ret2
                      exact sc_err (bl_drewN hbl2 _) hs.out
                  · have hkb : ((k : Int) == (j : Int)) = false := by simp; omega
                    have HKJ := Lib.hid hkj
                    clear hkj
                    go_wp2_with fail
                    go_quiet (fail)
                    go_wp2_with fail
                    go_roundw
                    case rel => exact ⟨j + 1, by omega, by go_num, sym_next hsj (by rw [SymP, HK1.out, HK2.out]; exact ⟨⟨EN.out, ED.out⟩, fun h => absurd h HKJ.out⟩), hown2, bl_drewN hbl2 _⟩
                    case measure => simp [intOf]; omega
                · have hs := Lib.hid (HS'.out k j hlt hjk (by rw [SymP, HK1.out, HK2.out]; exact fun h => eD h.1.2))
                  rw [decide_eq_false (p := ((qD d k1 : Nat) : Int) = ((qD d k2 : Nat) : Int)) (by omega)] at hq
                  simp only [Bool.and_false, Bool.not_false] at hq
                  clear eN eD
                  go_wp2_with fail
                  go_quiet (fail)
                  go_wp2_with fail
                  go_ret2
                  exact sc_err (bl_drewN hbl2 _) hs.out
              · have hs := Lib.hid (HS'.out k j hlt hjk (by rw [SymP, HK1.out, HK2.out]; exact fun h => eN h.1.1))
                rw [decide_eq_false (p := ((qN d k1 : Nat) : Int) = ((qN d k2 : Nat) : Int)) (by omega)] at hq
                simp only [Bool.false_and, Bool.not_false] at hq
                clear eN
                go_wp2_with fail
                go_quiet (fail)
                go_wp2_with fail
                go_ret2
                exact sc_err (bl_drewN hbl2 _) hs.out
            · go_wp2_with fail
              go_roundw
              case rel => exact ⟨k + 1, by omega, by go_num, sym_row hsy hsj (by omega), hown2, hbl2⟩
              case measure => simp [intOf]; omega
        · go_wp2_with fail
          go_meet
          have : k = n := by omega
          subst this
          exact ⟨hsy, hown, hbl⟩
    case rest =>
      obtain ⟨hsy, hown, hbl⟩ := hcut
      obtain ⟨wo, rfl⟩ : ∃ wo : World, wo = wc := ⟨_, rfl⟩
      go_upto_block 6 with fail
      rw [zc89]
      have hblk0 := Blk.new wo (ofF 578 (dg n 1 fun _ => 0)) 89
      have hown0 := hown.alloc (.cells (ofF 578 (dg n 1 fun _ => 0)) 89)
      have hbl0 := bl_alloc hbl (.cells (ofF 578 (dg n 1 fun _ => 0)) 89)
      obtain ⟨Bo, hBo⟩ : ∃ Bo, Bo = wo.heap.size := ⟨_, rfl⟩
      have hbo : w.heap.size ≤ Bo := by rw [hBo]; exact hbl.size
      rw [← hBo] at hblk0 ⊢
      have hne : Bl ≠ Bo := by have := hown.lt Bl rfl; omega
      have HBo := Lib.hid hBo
      clear hBo hown hbl
      generalize wo.alloc (.cells (ofF 578 (dg n 1 fun _ => 0)) 89) = wa at *
      go_cut [103] (fun _ wx => ∃ cm, cmA d N = some cm ∧ Blk wx Bo (ofF 578 (dg n cm fun _ => 0)) 89 ∧ wx.ownsRow w.heap.size 40 2 (.slice (some ⟨Bl, 0, none⟩) N N) N (fl encFr (d.map lowF)) ∧ Below w.heap.size w wx)
      case first =>
        go_wp2_with fail
        go_loopw [103, 13] (fun x _ wr => ∃ k cm : Nat, k ≤ N ∧ x = .int .i64 k ∧ Hid (cmA d k = some cm) ∧ Blk wr Bo (ofF 578 (dg n cm fun _ => 0)) 89 ∧ wr.ownsRow w.heap.size 40 2 (.slice (some ⟨Bl, 0, none⟩) N N) N (fl encFr (d.map lowF)) ∧ Below w.heap.size w wr) (fun x _ _ => N - (intOf x).toNat)
        case atStart => exact ⟨0, 1, by omega, rfl, rfl, hblk0, hown0, hbl0⟩
        case round =>
          obtain ⟨k, cm, hk, rfl, hcm, hblk, hown, hbl⟩ := hrel
          clear hblk0 hown0 hbl0
          by_cases hlt : k < N
          · obtain ⟨g0, g1⟩ := fl_low_cells hown HD.out k hlt
            obtain ⟨q1, q2, q3⟩ := q_bounds HB.out hok k (by rw [HD.out]; exact hlt)
            obtain ⟨c1, c2, _⟩ := cmA_some (fun i hi => (q_bounds HB.out hok i hi).2.1) (by rw [HD.out]; omega) hcm.out
            obtain ⟨x, hx⟩ : ∃ x, x = qD d k := ⟨_, rfl⟩
            rw [← hx] at g1 q2 q3
            have HX := Lib.hid hx
            clear hx
            have hblk1 := hblk.alloc (.cells #[.int .i64 (qN d k), .int .i64 x] 40)
            have hown1 := hown.alloc (.cells #[.int .i64 (qN d k), .int .i64 x] 40)
            have hbl1 := bl_alloc hbl (.cells #[.int .i64 (qN d k), .int .i64 x] 40)
            have e1 := hblk1.getF 1 (by omega)
            have f1 := hblk1.free 1
            simp only [dg] at e1
            by_cases hx1 : 1073741824 < x
            · have hs := Lib.hid (sc_over hn1 hn2 (by rw [HD.out, HN.out]) HB.out hsy.out (k := k + 1) (by rw [HD.out]; omega) (by rw [cmA, hcm.out]; simp only [Option.bind_some]; rw [← HX.out, cmStep, if_pos hx1]))
              go_wp2_with fail
              go_ret2
              exact sc_err hbl1 hs.out
            · go_upto_region 27 with fail
              obtain ⟨g, hg⟩ : ∃ g, Nat.gcd cm x = g := ⟨_, rfl⟩
              have hg1 : 1 ≤ g := by rw [← hg]; exact Nat.gcd_pos_of_pos_right _ q2
              obtain ⟨t, ht⟩ : ∃ t, x / g = t := ⟨_, rfl⟩
              have ht1 : t ≤ x := by rw [← ht]; exact Nat.div_le_self _ _
              have hct : cm * t ≤ 1073741824 * 1073741824 := Nat.mul_le_mul c2 (by omega)
              obtain ⟨cm2, hcm2⟩ : ∃ c, cm * t = c := ⟨_, rfl⟩
              rw [hcm2] at hct
              have w1 := wrap_nat ((x : Int) / (g : Int)) t (by rw [← ht]; simp) (by omega)
              have w2 := wrap_nat ((cm : Int) * (t : Int)) cm2 (by rw [← hcm2]; simp) (by omega)
              have HG := Lib.hid hg
              have HST : Hid (cmStep cm x = if 1073741824 < cm2 then none else some cm2) := by
                rw [cmStep, if_neg hx1, hg, ht, hcm2]; exact rfl
              clear hg ht hcm2
              refine wp_quiet_tail_lit 17 (by kernel_rfl) (by kernel_rfl) ?_
              simp only [List.take_succ_cons, List.take_zero, List.drop_succ_cons, List.drop_zero]
              repeat (go_big_quiet_step ((go_at_call 86; exact Calls.quiet_of (div_g HG.out (by omega) (by omega)))))
              refine wpQuiet_nil ?_
              intro _ hw'
              obtain ⟨nq, hw''⟩ := hw'
              subst hw''
              have hblk2 := (hblk1.drewN nq).setF 1 (.int .i64 cm2)
              rw [dg_set1] at hblk2
              by_cases hc2 : 1073741824 < cm2
              · have hs := Lib.hid (sc_over hn1 hn2 (by rw [HD.out, HN.out]) HB.out hsy.out (k := k + 1) (by rw [HD.out]; omega) (by rw [cmA, hcm.out]; simp only [Option.bind_some]; rw [← HX.out, HST.out, if_pos hc2]))
                go_wp2_with fail
                go_ret2
                exact sc_err (bl_set (bl_drewN hbl1 _) _ _ _ _ hbo) hs.out
              · have hs := Lib.hid (show cmA d (k + 1) = some cm2 by rw [cmA, hcm.out]; simp only [Option.bind_some]; rw [← HX.out, HST.out, if_neg hc2])
                have hown2 := ownsRow_setCell_other (a := ⟨Bo, 1, none⟩) hown1 (by simp [Value.ownBlock]; exact hne) (.int .i64 cm2)
                go_wp2_with fail
                go_roundw
                case rel => exact ⟨k + 1, cm2, by omega, by go_num, hs, hblk2, hown2, bl_set (bl_drewN hbl1 _) _ _ _ _ hbo⟩
                case measure => simp [intOf]; omega
          · go_wp2_with fail
            go_meet
            have : k = N := by omega
            subst this
            exact ⟨cm, hcm.out, hblk, hown, hbl⟩
      case rest =>
        obtain ⟨cm, hcm, hblk, hown, hbl⟩ := hcut
        clear hblk0 hown0 hbl0
        have HCM := Lib.hid hcm
        clear hcm
        go_upto_block 8 with fail
        go_cut [135] (fun _ wx => Hid (scaledS n d = .ok cm) ∧ ∃ g, Blk wx Bo (ofF 578 (dg n cm g)) 89 ∧ Hid ((∀ i j, i < n → j < n → g (i * 24 + j) = scK d cm (i * n + j)) ∧ ∀ t, g t ≤ 1073741824) ∧ Below w.heap.size w wx)
        case first =>
          go_wp2_with fail
          go_loopw [135, 14, 15, 16] (fun x _ _ _ wr => ∃ k : Nat, k ≤ N ∧ x = .int .i64 k ∧ Hid (∀ i, i < k → overK d cm i = false) ∧ (∃ g, Blk wr Bo (ofF 578 (dg n cm g)) 89 ∧ Hid ((∀ i j, i < n → j < n → i * n + j < k → g (i * 24 + j) = scK d cm (i * n + j)) ∧ ∀ t, g t ≤ 1073741824)) ∧ wr.ownsRow w.heap.size 40 2 (.slice (some ⟨Bl, 0, none⟩) N N) N (fl encFr (d.map lowF)) ∧ Below w.heap.size w wr) (fun x _ _ _ _ => N - (intOf x).toNat)
          case atStart => exact ⟨0, by omega, rfl, fun i h => absurd h (by omega), ⟨_, hblk, fun i j _ _ h => absurd h (by omega), fun _ => Nat.zero_le _⟩, hown, hbl⟩
          case round =>
            obtain ⟨k, hk, rfl, hov, ⟨g, hblk, hg⟩, hown, hbl⟩ := hrel
            by_cases hlt : k < N
            · obtain ⟨g0, g1⟩ := fl_low_cells hown HD.out k hlt
              obtain ⟨q1, q2, q3⟩ := q_bounds HB.out hok k (by rw [HD.out]; exact hlt)
              obtain ⟨c1, c2, c3⟩ := cmA_some (fun i hi => (q_bounds HB.out hok i hi).2.1) (by rw [HD.out]; omega) HCM.out
              obtain ⟨c4, c5⟩ := c3 k hlt
              clear c3
              obtain ⟨x, hx⟩ : ∃ x, x = qD d k := ⟨_, rfl⟩
              rw [← hx] at g1 q2 q3 c4 c5
              obtain ⟨z, hz⟩ : ∃ z, z = qN d k := ⟨_, rfl⟩
              rw [← hz] at g0 q1
              obtain ⟨y, hy⟩ : ∃ y, cm / x = y := ⟨_, rfl⟩
              have hy1 : 1 ≤ y := by rw [← hy]; exact Nat.div_pos (Nat.le_of_dvd c1 c4) q2
              have hy2 : y ≤ cm := by rw [← hy]; exact Nat.div_le_self _ _
              obtain ⟨lim, hlim⟩ : ∃ m, 1073741824 / y = m := ⟨_, rfl⟩
              have hlim2 : lim ≤ 1073741824 := by rw [← hlim]; exact Nat.div_le_self _ _
              have w1 := wrap_nat ((cm : Int) / (x : Int)) y (by rw [← hy]; simp) (by omega)
              have w2 := wrap_nat ((1073741824 : Int) / (y : Int)) lim (by rw [← hlim]; simp) (by omega)
              have w2' : (1073741824 : Int) / (y : Int) = (lim : Int) := by rw [← hlim]; simp
              have HZ := Lib.hid hz
              have HO : Hid (overK d cm k = decide (lim < z) ∧ scK d cm k = z * y) := by
                show _ ∧ _
                rw [overK, scK, ← hx, ← hz, hy, hlim]; exact ⟨rfl, rfl⟩
              have HL := Lib.hid hlim
              clear hx hz hy hlim
              have hblk1 := hblk.alloc (.cells #[.int .i64 z, .int .i64 x] 40)
              have hown1 := hown.alloc (.cells #[.int .i64 z, .int .i64 x] 40)
              have hbl1 := bl_alloc hbl (.cells #[.int .i64 z, .int .i64 x] 40)
              have e1 := hblk1.getF 1 (by omega)
              simp only [dg] at e1
              go_wp2_with fail
              go_quiet (fail)
              go_wp2_with fail
              by_cases hz1 : lim < z
              · have hs := Lib.hid (sc_over2 hn1 hn2 (by rw [HD.out, HN.out]) HB.out hsy.out (k := k) (by rw [HD.out]; omega) (by rw [HD.out]; exact HCM.out) (by rw [HO.out.1]; exact decide_eq_true hz1))
                go_quiet (fail)
                go_wp2_with fail
                go_ret2
                exact sc_err (bl_drewN (bl_drewN hbl1 _) _) hs.out
              · have hzy : z * y ≤ 1073741824 := by
                  have h1 : z * y ≤ lim * y := Nat.mul_le_mul_right _ (by omega)
                  have h2 : lim * y ≤ 1073741824 := by rw [← HL.out]; exact Nat.div_mul_le_self _ _
                  omega
                go_quiet (fail)
                obtain ⟨v, hv⟩ : ∃ v, z * y = v := ⟨_, rfl⟩
                rw [hv] at hzy
                have w3 := wrap_nat ((z : Int) * (y : Int)) v (by rw [← hv]; simp) (by omega)
                obtain ⟨i, j, hi', hj', hin, hjn, hij⟩ := div_mod_two HN.out hn1 hlt
                have w4 := wrap_nat ((k : Int) / (n : Int)) i (by rw [← hi']; simp) (by omega)
                have w5 : (k : Int).tmod (n : Int) = (j : Int) := by rw [← hj']; rfl
                have w6 : (k : Int) % (n : Int) = (j : Int) := by rw [← hj']; simp
                have HV := Lib.hid hv
                have HIJ := Lib.hid hij
                clear hv hi' hj' hij
                go_upto_region 37 with fail
                refine wp_quiet_tail_lit 15 (by kernel_rfl) (by kernel_rfl) ?_
                simp only [List.take_succ_cons, List.take_zero, List.drop_succ_cons, List.drop_zero]
                repeat (go_big_quiet_step (fail))
                refine wpQuiet_nil ?_
                intro _ hw'
                obtain ⟨nq, hw''⟩ := hw'
                subst hw''
                have hblk2 := hblk1.setF (2 + i * 24 + j) (.int .i64 v)
                have e2 := hblk1.getF (2 + i * 24 + j) (by omega)
                have f2 := hblk1.free (2 + i * 24 + j)
                rw [dg_set2] at hblk2
                have hown2 := ownsRow_setCell_other (a := ⟨Bo, 2 + i * 24 + j, none⟩) hown1 (by simp [Value.ownBlock]; exact hne) (.int .i64 v)
                have hov2 : Hid (∀ i, i < k + 1 → overK d cm i = false) := fun i' hi' => by
                  by_cases e : i' = k
                  · rw [e, HO.out.1]; exact decide_eq_false hz1
                  · exact hov.out i' (by omega)
                have hg2 : Hid ((∀ i' j', i' < n → j' < n → i' * n + j' < k + 1 → (fun t => if t = i * 24 + j then v else g t) (i' * 24 + j') = scK d cm (i' * n + j')) ∧ ∀ t, (fun t => if t = i * 24 + j then v else g t) t ≤ 1073741824) := And.intro (fun i' j' h1 h2 h3 => by
                  by_cases e : i' * n + j' = k
                  · have := div_mod_uniq (n := n) (i := i) (j := j) hjn h2 (by rw [HIJ.out, e])
                    obtain ⟨rfl, rfl⟩ := this
                    rw [HIJ.out, HO.out.2, HV.out]
                    simp
                  · have hne2 : ¬ (i' * 24 + j' = i * 24 + j) := fun h4 => by
                      have : i' = i ∧ j' = j := ⟨by omega, by omega⟩
                      obtain ⟨rfl, rfl⟩ := this
                      exact e HIJ.out
                    show (if _ then _ else _) = _
                    rw [if_neg hne2]
                    exact hg.out.1 i' j' h1 h2 (by omega)) (fun t => by
                  show (if _ then _ else _) ≤ _
                  split
                  · exact hzy
                  · exact hg.out.2 t)
                go_wp2_with fail
                go_roundw
                case rel => exact ⟨k + 1, by omega, by go_num, hov2, ⟨_, hblk2, hg2⟩, hown2, bl_set (bl_drewN hbl1 _) _ _ _ _ hbo⟩
                case measure => simp [intOf]; omega
            · go_wp2_with fail
              go_meet
              have : k = N := by omega
              subst this
              exact ⟨sc_fine hn1 hn2 (by rw [HD.out, HN.out]) HB.out hsy.out (by rw [HD.out]; exact HCM.out) (by rw [HD.out]; exact hov.out), g, hblk, ⟨fun i j h1 h2 => hg.out.1 i j h1 h2 (idx_lt HN.out h1 h2), hg.out.2⟩, hbl⟩
        case rest =>
          obtain ⟨hs, g, hblk, hg, hbl⟩ := hcut
          go_wp2_with fail
          go_ret2
          exact ⟨hbl, .inr ⟨cm, Bo, g, hs.out, rfl, hbo, hblk, hg.out.1, hg.out.2⟩⟩
end Go.Proofs.YtahgffjkkdbjeaaDoor
namespace Go.Proofs.YtahgffjkkdbjeaaDoor
open Go.RowKit

/-- What scaled does, at every n and d. -/
def ScRes (w : World) (n : Int) (d : List Fr) (e : Ending) (w' : World) : Prop :=
  Below w.heap.size w w' ∧ ((∃ k, scaledS n d = .error k ∧ e = .returned (.tuple #[.pointer none, .int .i64 k])) ∨
    ∃ (m c B : Nat) (g : Nat → Nat), n = (m : Int) ∧ 1 ≤ m ∧ m ≤ 24 ∧ d.length = m * m ∧ scaledS n d = .ok c ∧ e = .returned (.tuple #[.pointer (some ⟨B, 0, none⟩), .int .i64 0]) ∧ w.heap.size ≤ B ∧ Blk w' B (ofF 578 (dg m c g)) 89 ∧ ∀ i j, i < m → j < m → g (i * 24 + j) = scK d c (i * m + j))
/-- What scaled does, at every n and d; all of the table is bounded. -/
def ScRes2 (w : World) (n : Int) (d : List Fr) (e : Ending) (w' : World) : Prop :=
  Below w.heap.size w w' ∧ ((∃ k, scaledS n d = .error k ∧ e = .returned (.tuple #[.pointer none, .int .i64 k])) ∨
    ∃ (m c B : Nat) (g : Nat → Nat), n = (m : Int) ∧ 1 ≤ m ∧ m ≤ 24 ∧ d.length = m * m ∧ scaledS n d = .ok c ∧ e = .returned (.tuple #[.pointer (some ⟨B, 0, none⟩), .int .i64 0]) ∧ w.heap.size ≤ B ∧ Blk w' B (ofF 578 (dg m c g)) 89 ∧ (∀ i j, i < m → j < m → g (i * 24 + j) = scK d c (i * m + j)) ∧ ∀ t, g t ≤ 1073741824)
set_option maxRecDepth 100000 in
set_option maxHeartbeats 1000000 in
theorem scaled_any2 (a : Option Addr) (n : Int) (N c : Nat) (d : List Fr) (w : World) (hn1 : -9223372036854775808 ≤ n) (hn2 : n ≤ 9223372036854775807) (hd : d.length = N) (hN : N ≤ 1152921504606846976) (hA : Rd w a (fl encFr d)) (hok : FitFr d) :
    Calls Tryd.prog 48 #[.int .i64 n, .slice a N c] w (ScRes2 w n d) := by
  by_cases h1 : n < 1
  · have hs := Lib.hid (show scaledS n d = .error 3 by rw [scaledS, if_pos (.inl h1)])
    go_enter Tryd.func48, Tryd.ntmps48
    go_wp2_with fail
    go_ret2
    exact ⟨Below.refl _ _, .inl ⟨3, hs.out, rfl⟩⟩
  · by_cases h2 : 24 < n
    · have hs := Lib.hid (show scaledS n d = .error 3 by rw [scaledS, if_pos (.inr h2)])
      go_enter Tryd.func48, Tryd.ntmps48
      go_wp2_with fail
      go_ret2
      exact ⟨Below.refl _ _, .inl ⟨3, hs.out, rfl⟩⟩
    · obtain ⟨m, rfl⟩ : ∃ m : Nat, n = m := ⟨n.toNat, by omega⟩
      by_cases h3 : N = m * m
      · by_cases h4 : d.any badFr = true
        · have hs := Lib.hid (show scaledS m d = .error 2 by rw [scaledS, if_neg (by omega), if_pos (.inr h4)])
          have hw1 : IntKind.i64.wrap ((m : Int) * (m : Int)) = (N : Int) := wrap_nat _ _ (by rw [h3]; simp) (by omega)
          have HD := Lib.hid hd
          have H4 := Lib.hid h4
          clear h3 hd h4
          go_enter Tryd.func48, Tryd.ntmps48
          go_wp2_with (go_at_call 84; refine (anyBad_any a N c d _ HD.out (by omega) hA).mono ?_; rintro e w1 ⟨rfl, hb1⟩; rw [H4.out])
          go_ret2
          exact ⟨hb1, .inl ⟨2, hs.out, rfl⟩⟩
        · subst h3
          refine (scaled_in a m c d w (by omega) (by omega) hd hA (by simpa using h4) hok).mono ?_
          rintro e w' ⟨hb, hr⟩
          refine ⟨hb, hr.imp id ?_⟩
          rintro ⟨c, B, g, h⟩
          exact ⟨m, c, B, g, rfl, by omega, by omega, hd, h⟩
      · have hs := Lib.hid (show scaledS m d = .error 2 by
          rw [scaledS, if_neg (by omega), if_pos]
          left
          rw [hd, ← Int.natCast_mul]
          omega)
        have hmm : m * m ≤ 576 := by have := Nat.mul_le_mul (show m ≤ 24 by omega) (show m ≤ 24 by omega); omega
        obtain ⟨M, hM⟩ : ∃ M, M = m * m := ⟨_, rfl⟩
        have hw1 : IntKind.i64.wrap ((m : Int) * (m : Int)) = (M : Int) := wrap_nat _ _ (by rw [hM]; simp) (by omega)
        have hne : ((N : Int) != (M : Int)) = true := by simp; omega
        clear hM h3 hmm
        go_enter Tryd.func48, Tryd.ntmps48
        go_wp2_with fail
        go_ret2
        exact ⟨Below.refl _ _, .inl ⟨2, hs.out, rfl⟩⟩
theorem scaled_any (a : Option Addr) (n : Int) (N c : Nat) (d : List Fr) (w : World) (hn1 : -9223372036854775808 ≤ n) (hn2 : n ≤ 9223372036854775807) (hd : d.length = N) (hN : N ≤ 1152921504606846976) (hA : Rd w a (fl encFr d)) (hok : FitFr d) :
    Calls Tryd.prog 48 #[.int .i64 n, .slice a N c] w (ScRes w n d) :=
  (scaled_any2 a n N c d w hn1 hn2 hd hN hA hok).mono fun _ _ ⟨h1, h2⟩ => ⟨h1, h2.imp id fun ⟨m, c, B, g, a1, a2, a3, a4, a5, a6, a7, a8, a9, _⟩ => ⟨m, c, B, g, a1, a2, a3, a4, a5, a6, a7, a8, a9⟩⟩
end Go.Proofs.YtahgffjkkdbjeaaDoor
