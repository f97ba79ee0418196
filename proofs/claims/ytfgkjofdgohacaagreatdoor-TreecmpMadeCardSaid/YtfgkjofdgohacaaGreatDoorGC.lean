/- slices.Sort of numbers of 64 bits: insertion in part. slices.Sort of numbers of 64 bits: the pivot's choice. slices.Sort of numbers of 64 bits: the pivot's choice, the whole. Contracts of the library that the kit has proved, laid at this dump by the kit's tool (no walk). slices.Sort of numbers of 64 bits: patterns broken. slices.Sort of numbers of 64 bits: the partition. -/
import Derived.Test.YtfgkjofdgohacaaGreatDoorGB
import Derived.Shelf.Small.Bits
import Derived.Shelf.Strconv.Itoa0
import Derived.Shelf.Strconv.Itoa1
import Derived.Shelf.LaysM
import Derived.Shelf.Strconv.Itoa2
import Derived.Shelf.Strconv.Itoa3
import Derived.Ground.SlgnProg
import Derived.Shelf.SlicesE.Equal
import Derived.Ground.SlsfProg
import Derived.Shelf.SlSortCmp.Insertion
import Derived.Ground.SlgmProg
import Derived.Shelf.SortM.Plain
import Derived.Shelf.SortM.SortNone
import Derived.Shelf.SlSortCmp.SiftDown1
import Derived.Shelf.SlSortCmp.HeapSort1
import Derived.Shelf.SlSortCmp.Insertion1
import Derived.Shelf.SlSortCmp.Median1
import Derived.Shelf.SlSortCmp.Pivot1
import Derived.Shelf.SlSortCmp.ReverseRange1
import Derived.Shelf.SlSortCmp.PartialInsertion1
import Derived.Shelf.SlSortCmp.PartitionEqual1
import Derived.Shelf.SlSortCmp.Partition1
import Derived.Shelf.SlSortCmp.Pdq1
import Derived.Shelf.SlSortCmp.Whole1
import Derived.Shelf.SlSortCmp.NoneTotal
import Derived.Test.YtfgkjofdgohacaaGreatDoorProg
namespace Go.Proofs.YtfgkjofdgohacaaGreatDoor
open Go Go.RowKit Go.Shelf Go.Sort
theorem scan_go {d : Array Nat} {b i : Nat} (h : i < b) (hl : ltN d[i]! d[i - 1]! = false) : scanSorted ltN d b i = scanSorted ltN d b (i + 1) := by
  rw [scanSorted, if_pos (by simp [h, hl])]
theorem scan_stop {d : Array Nat} {b i : Nat} (h : b ≤ i ∨ ltN d[i]! d[i - 1]! = true) : scanSorted ltN d b i = i := by
  rw [scanSorted, if_neg]
  rintro e
  rw [Bool.and_eq_true, decide_eq_true_eq] at e
  rcases h with h | h
  · omega
  · rw [h] at e; simp at e
theorem down_go {d : Array Nat} {j : Nat} (h : 1 ≤ j) (hl : ltN d[j]! d[j - 1]! = true) : shiftDown ltN j d = shiftDown ltN (j - 1) (swp d j (j - 1)) := by
  cases j with
  | zero => omega
  | succ k => rw [shiftDown]; simp only [Nat.add_sub_cancel] at hl ⊢; rw [hl]; simp
theorem down_stop {d : Array Nat} {j : Nat} (h : j = 0 ∨ ltN d[j]! d[j - 1]! = false) : shiftDown ltN j d = d := by
  cases j with
  | zero => rw [shiftDown]
  | succ k =>
    rw [shiftDown]; simp only [Nat.add_sub_cancel] at h
    rcases h with h | h
    · omega
    · rw [h]; simp
theorem up_go {d : Array Nat} {b j : Nat} (h : j < b) (hl : ltN d[j]! d[j - 1]! = true) : shiftUp ltN b j d = shiftUp ltN b (j + 1) (swp d j (j - 1)) := by
  rw [shiftUp, if_pos h, hl]; simp
theorem up_stop {d : Array Nat} {b j : Nat} (h : b ≤ j ∨ ltN d[j]! d[j - 1]! = false) : shiftUp ltN b j d = d := by
  rw [shiftUp]
  rcases h with h | h
  · rw [if_neg (by omega)]
  · by_cases q : j < b
    · rw [if_pos q, h]; simp
    · rw [if_neg q]
theorem scan_ge (d : Array Nat) (b : Nat) : ∀ k i, b - i ≤ k → i ≤ b → i ≤ scanSorted ltN d b i ∧ scanSorted ltN d b i ≤ b := by
  intro k
  induction k with
  | zero => intro i h1 h2; rw [scan_stop (.inl (by omega))]; omega
  | succ k ih =>
    intro i h1 h2
    by_cases h : i < b
    · rcases Bool.eq_false_or_eq_true (ltN d[i]! d[i - 1]!) with hl | hl
      · rw [scan_stop (.inr hl)]; omega
      · rw [scan_go h hl]
        have := ih (i + 1) (by omega) (by omega)
        omega
    · rw [scan_stop (.inl (by omega))]; omega
theorem down_size : ∀ (j : Nat) (d : Array Nat), (shiftDown ltN j d).size = d.size := by
  intro j
  induction j with
  | zero => intro d; rfl
  | succ j ih => intro d; rw [shiftDown]; split
                 · rfl
                 · rw [ih, size_swp]
theorem up_size (b : Nat) : ∀ (k j : Nat) (d : Array Nat), b - j ≤ k → (shiftUp ltN b j d).size = d.size := by
  intro k
  induction k with
  | zero => intro j d h; rw [up_stop (.inl (by omega))]
  | succ k ih =>
    intro j d h
    by_cases q : j < b
    · rcases Bool.eq_false_or_eq_true (ltN d[j]! d[j - 1]!) with hl | hl
      · rw [up_go q hl, ih _ _ (by omega), size_swp]
      · rw [up_stop (.inr hl)]
    · rw [up_stop (.inl (by omega))]
/-- Behind the exchange and the two shifts. -/
def shD (a i : Nat) (d : Array Nat) : Array Nat := if 2 ≤ i - a then shiftDown ltN (i - 1) d else d
def shU (b i : Nat) (d : Array Nat) : Array Nat := if 2 ≤ b - i then shiftUp ltN b (i + 1) d else d
theorem part_eq (a b s i : Nat) (d : Array Nat) : partialIns ltN a b (s + 1) i d =
    if scanSorted ltN d b i = b then (d, true) else if b - a < 50 then (d, false) else
      partialIns ltN a b s (scanSorted ltN d b i) (shU b (scanSorted ltN d b i) (shD a (scanSorted ltN d b i) (swp d (scanSorted ltN d b i) (scanSorted ltN d b i - 1)))) := rfl
set_option maxRecDepth 100000 in
set_option maxHeartbeats 4000000 in
theorem partU_any (blk off len cap a b : Nat) (d : Array Nat) (hlen : d.size = len) (w : World) (hH : Holds encN w blk off d) (hab : a < b) (hb : b ≤ len) (hsz : len < 4611686018427387904) :
    Calls Tryz.prog 161 #[.slice (some ⟨blk, off, none⟩) len cap, .int .i64 a, .int .i64 b] w fun e w' =>
      e = .returned (.bool (partialInsertionSort ltN d a b).2) ∧ ∃ n, w' = putRow encN (Sort.ahead w n) blk off (partialInsertionSort ltN d a b).1 := by
  have HH := Lib.hid hH
  have HS := Lib.hid (putRow_self encN w blk off d hH).symm
  have HLN := Lib.hid hlen
  have HL := Lib.hid (fun x y w => lessU_any x y w)
  obtain ⟨R, hR⟩ : ∃ R, R = partialInsertionSort ltN d a b := ⟨_, rfl⟩
  rw [← hR]
  have HR : Hid (R = partialIns ltN a b 5 (a + 1) d) := hR
  clear hH hlen hR
  go_enter Tryz.func161, Tryz.ntmps161
  go_wp2_with fail
  go_loopw [7, 8, 9, 10] (fun x y _ _ wr => ∃ (i s n : Nat) (dk : Array Nat), x = .int .i64 i ∧ y = .int .i64 (5 - (s : Int)) ∧ s ≤ 5 ∧ a < i ∧ i ≤ b ∧ Hid (dk.size = len) ∧ Hid (wr = putRow encN (Sort.ahead w n) blk off dk) ∧ Hid (partialIns ltN a b s i dk = R)) (fun _ y _ _ _ => (5 - intOf y).toNat)
  case atStart => exact ⟨a + 1, 5, 0, d, by go_num, by rfl, by omega, by omega, by omega, HLN, HS.out, HR.out.symm⟩
  case round =>
    obtain ⟨i, s, n, dk, rfl, rfl, hs5, hai, hib, hsk, HW, HO⟩ := hrel
    cases s with
    | zero =>
      have e0 : ¬ (5 - ((0 : Nat) : Int) < 5) := by omega
      go_wp2_with fail
      go_ret
      exact ⟨by rw [← HO.out]; rfl, n, by rw [HW.out, ← HO.out]; rfl⟩
    | succ s =>
      have e0 : 5 - ((s + 1 : Nat) : Int) < 5 := by omega
      go_wp2_with fail
      go_loopw [7] (fun x wr2 => ∃ (i2 n2 : Nat), x = .int .i64 i2 ∧ a < i2 ∧ i2 ≤ b ∧ Hid (wr2 = putRow encN (Sort.ahead w n2) blk off dk) ∧ Hid (scanSorted ltN dk b i2 = scanSorted ltN dk b i)) (fun x _ => b - (intOf x).toNat)
      case atStart => exact ⟨i, n, rfl, hai, hib, HW, rfl⟩
      case round =>
        clear HW
        obtain ⟨i2, n2, rfl, hai2, hib2, HW, HO2⟩ := hrel
        obtain ⟨G, HG, hcw0, hfw0⟩ := row_fam (put_cells HH.out HW.out (by rw [hsk.out, HLN.out]))
        have hcw : ∀ t, t < len → wr.cell? ⟨blk, off + t, none⟩ = some (.int .u64 (G t : Int)) := fun t ht => hcw0 t (by rw [hsk.out]; exact ht)
        have hfw : ∀ t, t < len → wr.frozen? ⟨blk, off + t, none⟩ = false := fun t ht => hfw0 t (by rw [hsk.out]; exact ht)
        clear hcw0 hfw0
        by_cases hlt : i2 < b
        · rcases Bool.eq_false_or_eq_true (ltN (G i2) (G (i2 - 1))) with hl | hl
          · -- the scan stops
            have HL1 := Lib.hid hl
            have HC : Hid (∀ W, Calls Tryz.prog 162 #[.int .u64 (G i2 : Int), .int .u64 (G (i2 - 1) : Int)] W fun e w' => e = .returned (.bool true) ∧ w' = W) := fun W => by rw [← hl]; exact HL.out _ _ W
            clear hl
            have HSC : Hid (scanSorted ltN dk b i = i2) := by show _ = _; rw [← HO2.out]; exact scan_stop (.inr (by rw [← HG.out, ← HG.out]; exact HL1.out))
            go_wp2_with fail
            go_quiet (first | (go_at_call 162; refine Calls.quiet_of_same (HC.out _)))
            generalize hw2 : wr.drewN nq = wr2 at *
            have HW2 : Hid (wr2 = putRow encN (Sort.ahead w (n2 + nq)) blk off dk) := by rw [← hw2]; exact draws_put HW.out nq
            have hcw2 : ∀ t, t < len → wr2.cell? ⟨blk, off + t, none⟩ = some (.int .u64 (G t : Int)) := fun t ht => by rw [← hw2]; exact hcw t ht
            have hfw2 : ∀ t, t < len → wr2.frozen? ⟨blk, off + t, none⟩ = false := fun t ht => by rw [← hw2]; exact hfw t ht
            generalize n2 + nq = m2 at *
            clear hw2 hcw hfw HW HO2
            have hne : ((i2 : Int) == (b : Int)) = false := by simp; omega
            have hneb : ¬ i2 = b := by omega
            by_cases h50 : b - a < 50
            · have h50' : (b : Int) - (a : Int) < 50 := by omega
              have e : Hid (R = (dk, false)) := by show _ = _; rw [← HO.out, part_eq, if_neg (by rw [HSC.out]; exact hneb), if_pos h50]
              go_wp2_with fail
              go_ret
              exact ⟨by rw [e.out]; rfl, m2, by rw [e.out]; exact HW2.out⟩
            · have h50' : ¬ ((b : Int) - (a : Int) < 50) := by omega
              have HE : Hid (partialIns ltN a b s i2 (shU b i2 (shD a i2 (swp dk i2 (i2 - 1)))) = R) := by
                show _ = _
                rw [← HO.out, part_eq, HSC.out, if_neg hneb, if_neg h50]
              clear HO HSC
              go_wp2_with fail
              go_region
              go_upto_if 61 with fail
              have HW3 : Hid (((wr2.setCell ⟨blk, off + i2, none⟩ (.int .u64 (G (i2 - 1) : Int))).setCell ⟨blk, off + (i2 - 1), none⟩ (.int .u64 (G i2 : Int))).drew = putRow encN (Sort.ahead w (m2 + 1)) blk off (swp dk i2 (i2 - 1))) := by
                show _ = _
                simp only [HG.out]
                exact swap_put (w1 := wr2) HW2.out 1 (i := i2) (j := i2 - 1) (by rw [hsk.out]; omega) (by rw [hsk.out]; omega)
              generalize hw3 : ((wr2.setCell ⟨blk, off + i2, none⟩ (.int .u64 (G (i2 - 1) : Int))).setCell ⟨blk, off + (i2 - 1), none⟩ (.int .u64 (G i2 : Int))).drew = w3 at *
              have hs3 : Hid ((swp dk i2 (i2 - 1)).size = len) := by show _ = _; rw [size_swp]; exact hsk.out
              generalize swp dk i2 (i2 - 1) = d3 at *
              clear hw3 hcw2 hfw2 HW2
              go_cut [9] (fun _ wx => ∃ n, Hid (wx = putRow encN (Sort.ahead w n) blk off (shD a i2 d3)))
              case first =>
                by_cases h2 : 2 ≤ i2 - a
                · have h2' : (2 : Int) ≤ (i2 : Int) - (a : Int) := by omega
                  have HT : Hid (shD a i2 d3 = shiftDown ltN (i2 - 1) d3) := if_pos h2
                  go_wp2_with fail
                  go_loopw [9] (fun x wr3 => ∃ (j m : Nat) (dj : Array Nat), x = .int .i64 j ∧ j < b ∧ Hid (dj.size = len) ∧ Hid (wr3 = putRow encN (Sort.ahead w m) blk off dj) ∧ Hid (shiftDown ltN j dj = shiftDown ltN (i2 - 1) d3)) (fun x _ => (intOf x).toNat)
                  case atStart => exact ⟨i2 - 1, m2 + 1, d3, by congr 1; omega, by omega, hs3, HW3, rfl⟩
                  case round =>
                    clear HW3 HG HC
                    obtain ⟨j, m, dj, rfl, hjb, hsj, HWj, HOj⟩ := hrel
                    obtain ⟨G, HG, hcw0, hfw0⟩ := row_fam (put_cells HH.out HWj.out (by rw [hsj.out, HLN.out]))
                    have hcw : ∀ t, t < len → wr.cell? ⟨blk, off + t, none⟩ = some (.int .u64 (G t : Int)) := fun t ht => hcw0 t (by rw [hsj.out]; exact ht)
                    have hfw : ∀ t, t < len → wr.frozen? ⟨blk, off + t, none⟩ = false := fun t ht => hfw0 t (by rw [hsj.out]; exact ht)
                    clear hcw0 hfw0
                    by_cases hj0 : j = 0
                    · subst hj0
                      have e1 : Hid (dj = shD a i2 d3) := by show _ = _; rw [HT.out, ← HOj.out]; rfl
                      go_wp2_with fail
                      go_meet
                      exact ⟨m, by rw [← e1.out]; exact HWj⟩
                    · have hj1 : (1 : Int) ≤ (j : Int) := by omega
                      rcases Bool.eq_false_or_eq_true (ltN (G j) (G (j - 1))) with hl | hl
                      · have HL2 := Lib.hid hl
                        have HC : Hid (∀ W, Calls Tryz.prog 162 #[.int .u64 (G j : Int), .int .u64 (G (j - 1) : Int)] W fun e w' => e = .returned (.bool true) ∧ w' = W) := fun W => by rw [← hl]; exact HL.out _ _ W
                        clear hl
                        go_wp2_with fail
                        go_quiet (first | (go_at_call 162; refine Calls.quiet_of_same (HC.out _)))
                        generalize hw2 : wr.drewN nq = wr2 at *
                        have HWk : Hid (wr2 = putRow encN (Sort.ahead w (m + nq)) blk off dj) := by rw [← hw2]; exact draws_put HWj.out nq
                        have hcw2 : ∀ t, t < len → wr2.cell? ⟨blk, off + t, none⟩ = some (.int .u64 (G t : Int)) := fun t ht => by rw [← hw2]; exact hcw t ht
                        have hfw2 : ∀ t, t < len → wr2.frozen? ⟨blk, off + t, none⟩ = false := fun t ht => by rw [← hw2]; exact hfw t ht
                        clear hw2 hcw hfw
                        go_wp2_with fail
                        go_region
                        all_goals go_wp2_with fail
                        have HWl : Hid (((wr2.setCell ⟨blk, off + j, none⟩ (.int .u64 (G (j - 1) : Int))).setCell ⟨blk, off + (j - 1), none⟩ (.int .u64 (G j : Int))).drew = putRow encN (Sort.ahead w (m + nq + 1)) blk off (swp dj j (j - 1))) := by
                          show _ = _
                          simp only [HG.out]
                          exact swap_put (w1 := wr2) HWk.out 1 (i := j) (j := j - 1) (by rw [hsj.out]; omega) (by rw [hsj.out]; omega)
                        go_roundw
                        case rel => exact ⟨j - 1, m + nq + 1, swp dj j (j - 1), by congr 1; omega, by omega, by show _ = _; rw [size_swp]; exact hsj.out, HWl, by
                          show _ = _
                          exact (down_go (d := dj) (j := j) (by omega) (by rw [← HG.out, ← HG.out]; exact HL2.out)).symm.trans HOj.out⟩
                        case measure => simp [intOf]; omega
                      · have HL2 := Lib.hid hl
                        have HC : Hid (∀ W, Calls Tryz.prog 162 #[.int .u64 (G j : Int), .int .u64 (G (j - 1) : Int)] W fun e w' => e = .returned (.bool false) ∧ w' = W) := fun W => by rw [← hl]; exact HL.out _ _ W
                        clear hl
                        have e1 : Hid (dj = shD a i2 d3) := by
                          show _ = _
                          rw [HT.out, ← HOj.out, down_stop (.inr (by rw [← HG.out, ← HG.out]; exact HL2.out))]
                        go_wp2_with fail
                        go_quiet (first | (go_at_call 162; refine Calls.quiet_of_same (HC.out _)))
                        go_wp2_with fail
                        go_meet
                        exact ⟨m + nq, by rw [← e1.out]; exact draws_put HWj.out nq⟩
                · have h2' : ¬ ((2 : Int) ≤ (i2 : Int) - (a : Int)) := by omega
                  have HT : Hid (shD a i2 d3 = d3) := if_neg h2
                  go_wp2_with fail
                  go_meet
                  exact ⟨m2 + 1, by rw [HT.out]; exact HW3⟩
              case rest =>
                obtain ⟨m4, HW4⟩ := hcut
                have hs4 : Hid ((shD a i2 d3).size = len) := by
                  show _ = _
                  unfold shD
                  split
                  · rw [down_size, hs3.out]
                  · exact hs3.out
                generalize shD a i2 d3 = d4 at *
                clear HW3 hs3
                have OUT : Hid (∀ (m : Nat) (wx : World), wx = putRow encN (Sort.ahead w m) blk off (shU b i2 d4) → ∃ (i' s' n' : Nat) (dk' : Array Nat), Value.int .i64 (i2 : Int) = .int .i64 (i' : Int) ∧ Value.int .i64 (5 - ((s + 1 : Nat) : Int) + 1) = .int .i64 (5 - (s' : Int)) ∧ s' ≤ 5 ∧ a < i' ∧ i' ≤ b ∧ Hid (dk'.size = len) ∧ Hid (wx = putRow encN (Sort.ahead w n') blk off dk') ∧ Hid (partialIns ltN a b s' i' dk' = R)) := fun m wx hwx =>
                  ⟨i2, s, m, shU b i2 d4, rfl, by congr 1; omega, by omega, hai2, hib2, by
                    show _ = _
                    unfold shU
                    split
                    · rw [up_size _ _ _ _ (Nat.le_refl _), hs4.out]
                    · exact hs4.out, hwx, HE⟩
                clear HG HC
                by_cases h2 : 2 ≤ b - i2
                · have h2' : (2 : Int) ≤ (b : Int) - (i2 : Int) := by omega
                  have HT : Hid (shU b i2 d4 = shiftUp ltN b (i2 + 1) d4) := if_pos h2
                  go_wp2_with fail
                  go_loopw [10] (fun x wr3 => ∃ (j m : Nat) (dj : Array Nat), x = .int .i64 j ∧ i2 < j ∧ j ≤ b ∧ Hid (dj.size = len) ∧ Hid (wr3 = putRow encN (Sort.ahead w m) blk off dj) ∧ Hid (shiftUp ltN b j dj = shiftUp ltN b (i2 + 1) d4)) (fun x _ => b - (intOf x).toNat)
                  case atStart => exact ⟨i2 + 1, m4, d4, by go_num, by omega, by omega, hs4, HW4, rfl⟩
                  case round =>
                    clear HW4
                    obtain ⟨j, m, dj, rfl, hij, hjb, hsj, HWj, HOj⟩ := hrel
                    obtain ⟨G, HG, hcw0, hfw0⟩ := row_fam (put_cells HH.out HWj.out (by rw [hsj.out, HLN.out]))
                    have hcw : ∀ t, t < len → wr.cell? ⟨blk, off + t, none⟩ = some (.int .u64 (G t : Int)) := fun t ht => hcw0 t (by rw [hsj.out]; exact ht)
                    have hfw : ∀ t, t < len → wr.frozen? ⟨blk, off + t, none⟩ = false := fun t ht => hfw0 t (by rw [hsj.out]; exact ht)
                    clear hcw0 hfw0
                    by_cases hj0 : j < b
                    · rcases Bool.eq_false_or_eq_true (ltN (G j) (G (j - 1))) with hl | hl
                      · have HL2 := Lib.hid hl
                        have HC : Hid (∀ W, Calls Tryz.prog 162 #[.int .u64 (G j : Int), .int .u64 (G (j - 1) : Int)] W fun e w' => e = .returned (.bool true) ∧ w' = W) := fun W => by rw [← hl]; exact HL.out _ _ W
                        clear hl
                        go_wp2_with fail
                        go_quiet (first | (go_at_call 162; refine Calls.quiet_of_same (HC.out _)))
                        generalize hw2 : wr.drewN nq = wr2 at *
                        have HWk : Hid (wr2 = putRow encN (Sort.ahead w (m + nq)) blk off dj) := by rw [← hw2]; exact draws_put HWj.out nq
                        have hcw2 : ∀ t, t < len → wr2.cell? ⟨blk, off + t, none⟩ = some (.int .u64 (G t : Int)) := fun t ht => by rw [← hw2]; exact hcw t ht
                        have hfw2 : ∀ t, t < len → wr2.frozen? ⟨blk, off + t, none⟩ = false := fun t ht => by rw [← hw2]; exact hfw t ht
                        clear hw2 hcw hfw
                        go_wp2_with fail
                        go_region
                        all_goals go_wp2_with fail
                        have HWl : Hid (((wr2.setCell ⟨blk, off + j, none⟩ (.int .u64 (G (j - 1) : Int))).setCell ⟨blk, off + (j - 1), none⟩ (.int .u64 (G j : Int))).drew = putRow encN (Sort.ahead w (m + nq + 1)) blk off (swp dj j (j - 1))) := by
                          show _ = _
                          simp only [HG.out]
                          exact swap_put (w1 := wr2) HWk.out 1 (i := j) (j := j - 1) (by rw [hsj.out]; omega) (by rw [hsj.out]; omega)
                        go_roundw
                        case rel => exact ⟨j + 1, m + nq + 1, swp dj j (j - 1), by go_num, by omega, by omega, by show _ = _; rw [size_swp]; exact hsj.out, HWl, by
                          show _ = _
                          rw [← HOj.out, up_go hj0 (by rw [← HG.out, ← HG.out]; exact HL2.out)]⟩
                        case measure => simp [intOf]; omega
                      · have HL2 := Lib.hid hl
                        have HC : Hid (∀ W, Calls Tryz.prog 162 #[.int .u64 (G j : Int), .int .u64 (G (j - 1) : Int)] W fun e w' => e = .returned (.bool false) ∧ w' = W) := fun W => by rw [← hl]; exact HL.out _ _ W
                        clear hl
                        have e1 : Hid (dj = shU b i2 d4) := by
                          show _ = _
                          rw [HT.out, ← HOj.out, up_stop (.inr (by rw [← HG.out, ← HG.out]; exact HL2.out))]
                        go_wp2_with fail
                        go_quiet (first | (go_at_call 162; refine Calls.quiet_of_same (HC.out _)))
                        go_wp2_with fail
                        go_roundw
                        case rel => exact OUT.out (m + nq) _ (by rw [← e1.out]; exact draws_put HWj.out nq)
                        case measure => simp [intOf]; omega
                    · have e1 : Hid (dj = shU b i2 d4) := by
                        show _ = _
                        rw [HT.out, ← HOj.out, up_stop (.inl (by omega))]
                      go_wp2_with fail
                      go_roundw
                      case rel => exact OUT.out m _ (by rw [← e1.out]; exact HWj.out)
                      case measure => simp [intOf]; omega
                · have h2' : ¬ ((2 : Int) ≤ (b : Int) - (i2 : Int)) := by omega
                  have HT : Hid (shU b i2 d4 = d4) := if_neg h2
                  go_wp2_with fail
                  go_roundw
                  case rel => exact OUT.out m4 _ (by rw [HT.out]; exact HW4.out)
                  case measure => simp [intOf]; omega
          · have HL1 := Lib.hid hl
            have HC : Hid (∀ W, Calls Tryz.prog 162 #[.int .u64 (G i2 : Int), .int .u64 (G (i2 - 1) : Int)] W fun e w' => e = .returned (.bool false) ∧ w' = W) := fun W => by rw [← hl]; exact HL.out _ _ W
            clear hl
            go_wp2_with fail
            go_quiet (first | (go_at_call 162; refine Calls.quiet_of_same (HC.out _)))
            go_wp2_with fail
            go_roundw
            case rel => exact ⟨i2 + 1, n2 + nq, by go_num, by omega, by omega, draws_put HW.out nq, by
              show _ = _
              rw [← HO2.out, scan_go hlt (by rw [← HG.out, ← HG.out]; exact HL1.out)]⟩
            case measure => simp [intOf]; omega
        · obtain rfl : i2 = b := by omega
          have HSC : Hid (scanSorted ltN dk i2 i = i2) := by show _ = _; rw [← HO2.out]; exact scan_stop (.inl (Nat.le_refl _))
          go_wp2_with fail
          go_quiet (fail)
          go_wp2_with fail
          go_ret
          have e : R = (dk, true) := by rw [← HO.out, part_eq, if_pos HSC.out]
          exact ⟨by rw [e]; rfl, n2 + nq, by rw [e]; exact draws_put HW.out nq⟩
end Go.Proofs.YtfgkjofdgohacaaGreatDoor
namespace Go.Proofs.YtfgkjofdgohacaaGreatDoor
open Go Go.RowKit Go.Shelf Go.Sort
/-- The world with m draws more and a counter in a new block. -/
def CntW (w : World) (m s : Nat) : World := (Sort.ahead w m).alloc (.cells #[.int .i64 (s : Int)] 3)
theorem cnt_draws (w : World) (m s n : Nat) : (CntW w m s).drewN n = CntW w (m + n) s := by
  show Sort.ahead ((Sort.ahead w m).alloc _) n = _
  unfold CntW
  rw [alloc_eq_grow, alloc_eq_grow, ahead_grow, ahead_ahead]
theorem cnt_set (w : World) (m s s' : Nat) : (CntW w m s).setCell ⟨w.heap.size, 0, none⟩ (.int .i64 (s' : Int)) = CntW w m s' := by
  unfold CntW World.setCell World.alloc
  congr 1
  apply Array.ext_getElem?
  intro k
  show ((w.heap.push _).modify w.heap.size _)[k]? = (w.heap.push _)[k]?
  rw [Array.getElem?_modify, Array.getElem?_push, Array.getElem?_push]
  by_cases h : w.heap.size = k
  · subst h; simp
  · rw [if_neg h]
    have h2 : ¬ k = w.heap.size := fun e => h e.symm
    rw [if_neg h2, if_neg h2]
theorem cnt_cell (w : World) (m s : Nat) : (CntW w m s).cell? ⟨w.heap.size, 0, none⟩ = some (.int .i64 (s : Int)) := by
  have := (Blk.new (Sort.ahead w m) #[.int .i64 (s : Int)] 3).cell 0
  exact this
theorem cnt_frozen (w : World) (m s : Nat) : (CntW w m s).frozen? ⟨w.heap.size, 0, none⟩ = false := by
  have h := World.alloc_heap_new (Sort.ahead w m) (.cells #[.int .i64 (s : Int)] 3)
  unfold CntW World.frozen?
  rw [show (Sort.ahead w m).heap.size = w.heap.size from rfl] at h
  rw [h]
  simp
theorem cnt_holds {w : World} {blk off : Nat} {d : Array Nat} (h : Holds encN w blk off d) (hb : blk < w.heap.size) (m s : Nat) : Holds encN (CntW w m s) blk off d := by
  unfold CntW
  rw [alloc_eq_grow]
  exact holds_grow _ _ _ _ _ _ hb (holds_ahead _ _ m _ _ _ h)
theorem cnt_grow (w : World) (m s : Nat) : CntW w m s = grow (Sort.ahead w m) #[.cells #[.int .i64 (s : Int)] 3] := alloc_eq_grow _ _
set_option maxRecDepth 100000 in
set_option maxHeartbeats 4000000 in
theorem ord2U_any (blk off len cap a b m s : Nat) (d : Array Nat) (hlen : d.size = len) (w : World) (hH : Holds encN w blk off d) (hbw : blk < w.heap.size) (ha : a < len) (hb : b < len) (hs : s ≤ 1000000) (_ : len < 4611686018427387904) :
    Calls Tryz.prog 198 #[.slice (some ⟨blk, off, none⟩) len cap, .int .i64 a, .int .i64 b, .pointer (some ⟨w.heap.size, 0, none⟩)] (CntW w m s) fun e w' =>
      ∃ x y m' s' : Nat, e = .returned (.tuple #[.int .i64 (x : Nat), .int .i64 (y : Nat)]) ∧ ((x = a ∧ y = b) ∨ (x = b ∧ y = a)) ∧ s' ≤ s + 1 ∧ w' = CntW w m' s' := by
  have HL := Lib.hid (fun x y w => lessU_any x y w)
  have HCD := Lib.hid (fun m s n => cnt_draws w m s n)
  have HCS := Lib.hid (fun m s s' => cnt_set w m s s')
  have HCC := Lib.hid (fun m s => cnt_cell w m s)
  obtain ⟨G, HG, hcw0, hfw0⟩ := row_fam (cnt_holds hH hbw m s)
  obtain ⟨W, hW⟩ : ∃ W, W = CntW w m s := ⟨_, rfl⟩
  rw [← hW] at hcw0 hfw0 ⊢
  have HW := Lib.hid hW
  have hcw : ∀ t, t < len → W.cell? ⟨blk, off + t, none⟩ = some (.int .u64 (G t : Int)) := fun t ht => hcw0 t (by rw [hlen]; exact ht)
  have c0 : W.cell? ⟨w.heap.size, 0, none⟩ = some (.int .i64 (s : Int)) := by rw [hW]; exact cnt_cell w m s
  have f0 : W.frozen? ⟨w.heap.size, 0, none⟩ = false := by rw [hW]; exact cnt_frozen w m s
  clear hcw0 hfw0 hH hW
  obtain ⟨S, hS⟩ : ∃ S, S = w.heap.size := ⟨_, rfl⟩
  rw [← hS] at c0 f0 HCS HCC ⊢
  clear hS hbw
  rcases Bool.eq_false_or_eq_true (ltN (G b) (G a)) with hl | hl
  · have HC : Hid (∀ W, Calls Tryz.prog 162 #[.int .u64 (G b : Int), .int .u64 (G a : Int)] W fun e w' => e = .returned (.bool true) ∧ w' = W) := fun W => by rw [← hl]; exact HL.out _ _ W
    clear hl
    go_enter Tryz.func198, Tryz.ntmps198
    go_wp2_with fail
    go_quiet (first | (go_at_call 162; refine Calls.quiet_of_same (HC.out _)))
    go_wp2_with fail
    go_ret2
    refine ⟨b, a, m + nq, s + 1, rfl, .inr ⟨rfl, rfl⟩, Nat.le_refl _, ?_⟩
    rw [HW.out, HCD.out]
    exact HCS.out (m + nq) s (s + 1)
  · have HC : Hid (∀ W, Calls Tryz.prog 162 #[.int .u64 (G b : Int), .int .u64 (G a : Int)] W fun e w' => e = .returned (.bool false) ∧ w' = W) := fun W => by rw [← hl]; exact HL.out _ _ W
    clear hl
    go_enter Tryz.func198, Tryz.ntmps198
    go_wp2_with fail
    go_quiet (first | (go_at_call 162; refine Calls.quiet_of_same (HC.out _)))
    go_wp2_with fail
    go_ret2
    exact ⟨a, b, m + nq, s, rfl, .inl ⟨rfl, rfl⟩, by omega, by rw [HW.out, HCD.out]⟩
set_option maxRecDepth 100000 in
set_option maxHeartbeats 4000000 in
theorem medU_any (blk off len cap a b c m s : Nat) (d : Array Nat) (hlen : d.size = len) (w : World) (hH : Holds encN w blk off d) (hbw : blk < w.heap.size) (ha : a < len) (hb : b < len) (hc : c < len) (hs : s ≤ 999990) (hsz : len < 4611686018427387904) :
    Calls Tryz.prog 187 #[.slice (some ⟨blk, off, none⟩) len cap, .int .i64 a, .int .i64 b, .int .i64 c, .pointer (some ⟨w.heap.size, 0, none⟩)] (CntW w m s) fun e w' =>
      ∃ x m' s' : Nat, e = .returned (.int .i64 (x : Nat)) ∧ (x = a ∨ x = b ∨ x = c) ∧ s' ≤ s + 3 ∧ w' = CntW w m' s' := by
  have HC := Lib.hid (fun a b m s ha hb hs => ord2U_any blk off len cap a b m s d hlen w hH hbw ha hb hs hsz)
  clear hlen hH hbw
  obtain ⟨S, hS⟩ : ∃ S, S = w.heap.size := ⟨_, rfl⟩
  rw [← hS] at HC ⊢
  clear hS
  go_enter Tryz.func187, Tryz.ntmps187
  go_wp2_with fail
  refine (HC.out a b m s ha hb (by omega)).mono ?_
  rintro e w1 ⟨x1, y1, m1, s1, rfl, h1, hs1, rfl⟩
  have H1 := Lib.hid h1
  have hx1 : x1 < len := by rcases h1 with ⟨rfl, rfl⟩ | ⟨rfl, rfl⟩ <;> assumption
  have hy1 : y1 < len := by rcases h1 with ⟨rfl, rfl⟩ | ⟨rfl, rfl⟩ <;> assumption
  clear h1
  go_wp2_with fail
  refine (HC.out y1 c m1 s1 hy1 hc (by omega)).mono ?_
  rintro e w2 ⟨x2, y2, m2, s2, rfl, h2, hs2, rfl⟩
  have H2 := Lib.hid h2
  have hx2 : x2 < len := by rcases h2 with ⟨rfl, rfl⟩ | ⟨rfl, rfl⟩ <;> assumption
  clear h2
  go_wp2_with fail
  refine (HC.out x1 x2 m2 s2 hx1 hx2 (by omega)).mono ?_
  rintro e w3 ⟨x3, y3, m3, s3, rfl, h3, hs3, rfl⟩
  have H3 := Lib.hid h3
  clear h3
  go_wp2_with fail
  go_ret
  refine ⟨y3, m3, s3, rfl, ?_, by omega, rfl⟩
  rcases H1.out with ⟨rfl, rfl⟩ | ⟨rfl, rfl⟩ <;> rcases H2.out with ⟨rfl, rfl⟩ | ⟨rfl, rfl⟩ <;> rcases H3.out with ⟨rfl, rfl⟩ | ⟨rfl, rfl⟩ <;> simp
set_option maxRecDepth 100000 in
set_option maxHeartbeats 4000000 in
theorem madU_any (blk off len cap a m s : Nat) (d : Array Nat) (hlen : d.size = len) (w : World) (hH : Holds encN w blk off d) (hbw : blk < w.heap.size) (ha0 : 1 ≤ a) (ha : a + 1 < len) (hs : s ≤ 999990) (hsz : len < 4611686018427387904) :
    Calls Tryz.prog 186 #[.slice (some ⟨blk, off, none⟩) len cap, .int .i64 a, .pointer (some ⟨w.heap.size, 0, none⟩)] (CntW w m s) fun e w' =>
      ∃ x m' s' : Nat, e = .returned (.int .i64 (x : Nat)) ∧ a - 1 ≤ x ∧ x ≤ a + 1 ∧ s' ≤ s + 3 ∧ w' = CntW w m' s' := by
  have hc0 := medU_any blk off len cap (a - 1) a (a + 1) m s d hlen w hH hbw (by omega) (by omega) (by omega) hs hsz
  have e1 : ((a - 1 : Nat) : Int) = (a : Int) - 1 := by omega
  have e2 : ((a + 1 : Nat) : Int) = (a : Int) + 1 := by omega
  rw [e1, e2] at hc0
  have HC := Lib.hid hc0
  clear hlen hH hbw hc0 e1 e2
  obtain ⟨S, hS⟩ : ∃ S, S = w.heap.size := ⟨_, rfl⟩
  rw [← hS] at HC ⊢
  clear hS
  go_enter Tryz.func186, Tryz.ntmps186
  go_wp2_with fail
  refine HC.out.mono ?_
  rintro e w1 ⟨x1, m1, s1, rfl, h1, hs1, rfl⟩
  go_wp2_with fail
  go_ret
  exact ⟨x1, m1, s1, rfl, by omega, by omega, hs1, rfl⟩
end Go.Proofs.YtfgkjofdgohacaaGreatDoor
namespace Go.Proofs.YtfgkjofdgohacaaGreatDoor
open Go Go.RowKit Go.Shelf Go.Sort
def PivPost (w : World) (a b : Nat) (e : Ending) (w' : World) : Prop :=
  ∃ p h m s : Nat, e = .returned (.tuple #[.int .i64 (p : Nat), .int .i64 (h : Nat)]) ∧ a ≤ p ∧ p < b ∧ h ≤ 2 ∧ w' = CntW w m s
set_option maxRecDepth 100000 in
set_option maxHeartbeats 8000000 in
theorem pivU_any (blk off len cap a b : Nat) (d : Array Nat) (hlen : d.size = len) (w : World) (hH : Holds encN w blk off d) (hbw : blk < w.heap.size) (hab : a < b) (hb : b ≤ len) (hsz : len < 4611686018427387904) :
    Calls Tryz.prog 159 #[.slice (some ⟨blk, off, none⟩) len cap, .int .i64 a, .int .i64 b] w (PivPost w a b) := by
  have HM := Lib.hid (fun x y z m s hx hy hz hs => medU_any blk off len cap x y z m s d hlen w hH hbw hx hy hz hs hsz)
  have HA := Lib.hid (fun x m s hx0 hx hs => madU_any blk off len cap x m s d hlen w hH hbw hx0 hx hs hsz)
  have HCC := Lib.hid (fun m s => cnt_cell w m s)
  have HW0 : Hid (w.alloc (.cells #[.int .i64 0] 3) = CntW w 0 0) := rfl
  clear hlen hH hbw
  obtain ⟨S, hS⟩ : ∃ S, S = w.heap.size := ⟨_, rfl⟩
  rw [← hS] at HM HA HCC
  have HS := Lib.hid hS
  clear hS
  obtain ⟨H, hHd⟩ : ∃ H, H = b - a := ⟨_, rfl⟩
  have ecast : (b : Int) - (a : Int) = (H : Int) := by omega
  have hbH : b = a + H := by omega
  obtain ⟨q, hq⟩ : ∃ q, q = H / 4 := ⟨_, rfl⟩
  have e4 : (H : Int).tdiv 4 = (q : Int) := by rw [hq]; rfl
  have HB : Hid (b = a + H) := hbH
  have hqb : 4 * q ≤ H := by omega
  have hq2 : H < 4 * q + 4 := by omega
  have hHl : a + H ≤ len := by omega
  have hH0 : 0 < H := by omega
  clear hHd hbH hq
  have END : ∀ (s : Nat) (P : Prop), (s = 0 → P) → (s = 12 → P) → (s ≠ 0 → s ≠ 12 → P) → P := fun s P h1 h2 h3 => by
    by_cases q1 : s = 0
    · exact h1 q1
    · by_cases q2 : s = 12
      · exact h2 q2
      · exact h3 q1 q2
  have HE := Lib.hid END
  clear END
  obtain ⟨i, hi⟩ : ∃ i, i = a + q := ⟨_, rfl⟩
  obtain ⟨j, hj⟩ : ∃ j, j = a + q * 2 := ⟨_, rfl⟩
  obtain ⟨k, hk⟩ : ∃ k, k = a + q * 3 := ⟨_, rfl⟩
  have ei : (a : Int) + (q : Int) = (i : Int) := by omega
  have ej : (a : Int) + (q : Int) * 2 = (j : Int) := by omega
  have ek : (a : Int) + (q : Int) * 3 = (k : Int) := by omega
  have hi1 : a ≤ i ∧ i < a + H ∧ (50 ≤ H → 1 ≤ i ∧ a + 1 ≤ i ∧ i + 1 < a + H) := by omega
  have hj1 : a ≤ j ∧ j < a + H ∧ (50 ≤ H → 1 ≤ j ∧ a + 1 ≤ j ∧ j + 1 < a + H) := by omega
  have hk1 : a ≤ k ∧ (8 ≤ H → k < a + H) ∧ (50 ≤ H → 1 ≤ k ∧ a + 1 ≤ k ∧ k + 1 < a + H) := by omega
  clear hi hj hk
  go_enter Tryz.func159, Tryz.ntmps159
  by_cases h8 : 8 ≤ H
  · by_cases h50 : 50 ≤ H
    · go_wp2_with fail
      rw [← HS.out, HW0.out]
      refine (HA.out i 0 0 (by omega) (by omega) (by omega)).mono ?_
      rintro e w1 ⟨x1, m1, s1, rfl, l1, u1, hs1, rfl⟩
      go_wp2_with fail
      refine (HA.out j m1 s1 (by omega) (by omega) (by omega)).mono ?_
      rintro e w1 ⟨x2, m2, s2, rfl, l2, u2, hs2, rfl⟩
      go_wp2_with fail
      refine (HA.out k m2 s2 (by omega) (by omega) (by omega)).mono ?_
      rintro e w1 ⟨x3, m3, s3, rfl, l3, u3, hs3, rfl⟩
      go_wp2_with fail
      refine (HM.out x1 x2 x3 m3 s3 (by omega) (by omega) (by omega) (by omega)).mono ?_
      rintro e w1 ⟨p9, m9, s9, rfl, hp, hs9, rfl⟩
      have hp1 : a ≤ p9 ∧ p9 < a + H := by rcases hp with rfl | rfl | rfl <;> omega
      clear hp
      have c9 := HCC.out m9 s9
      generalize hW9 : CntW w m9 s9 = W9 at *
      have HW9 : Hid (W9 = CntW w m9 s9) := hW9.symm
      clear hW9
      by_cases q0 : s9 = 0
      · have t0 : ((s9 : Int) == 0) = true := by simp; omega
        go_wp2_with fail
        go_ret2
        exact ⟨p9, 1, m9, s9, rfl, by omega, by have := HB.out; omega, by omega, HW9.out⟩
      · have t0 : ((s9 : Int) == 0) = false := by simp; omega
        by_cases q1 : s9 = 12
        · have t1 : ((s9 : Int) == 12) = true := by simp; omega
          go_wp2_with fail
          go_ret2
          exact ⟨p9, 2, m9, s9, rfl, by omega, by have := HB.out; omega, by omega, HW9.out⟩
        · have t1 : ((s9 : Int) == 12) = false := by simp; omega
          go_wp2_with fail
          go_ret2
          exact ⟨p9, 0, m9, s9, rfl, by omega, by have := HB.out; omega, by omega, HW9.out⟩
    · go_wp2_with fail
      rw [← HS.out, HW0.out]
      refine (HM.out i j k 0 0 (by omega) (by omega) (by omega) (by omega)).mono ?_
      rintro e w1 ⟨p9, m9, s9, rfl, hp, hs9, rfl⟩
      have hp1 : a ≤ p9 ∧ p9 < a + H := by rcases hp with rfl | rfl | rfl <;> omega
      clear hp
      have c9 := HCC.out m9 s9
      generalize hW9 : CntW w m9 s9 = W9 at *
      have HW9 : Hid (W9 = CntW w m9 s9) := hW9.symm
      clear hW9
      by_cases q0 : s9 = 0
      · have t0 : ((s9 : Int) == 0) = true := by simp; omega
        go_wp2_with fail
        go_ret2
        exact ⟨p9, 1, m9, s9, rfl, by omega, by have := HB.out; omega, by omega, HW9.out⟩
      · have t0 : ((s9 : Int) == 0) = false := by simp; omega
        by_cases q1 : s9 = 12
        · have t1 : ((s9 : Int) == 12) = true := by simp; omega
          go_wp2_with fail
          go_ret2
          exact ⟨p9, 2, m9, s9, rfl, by omega, by have := HB.out; omega, by omega, HW9.out⟩
        · have t1 : ((s9 : Int) == 12) = false := by simp; omega
          go_wp2_with fail
          go_ret2
          exact ⟨p9, 0, m9, s9, rfl, by omega, by have := HB.out; omega, by omega, HW9.out⟩
  · go_wp2_with fail
    rw [HW0.out]
    go_ret2
    exact ⟨j, 1, 0, 0, rfl, by omega, by have := HB.out; omega, by omega, rfl⟩
end Go.Proofs.YtfgkjofdgohacaaGreatDoor
namespace Go.Proofs
open Go.Shelf
def Tryz.lays125_ren : Go.Shelf.Ren := ⟨fun | 125 => 125 | 128 => 145 | 129 => 146 | n => n, fun | 46 => 148 | 3 => 3 | 51 => 175 | 53 => 41 | 4 => 4 | 5 => 5 | 9 => 9 | n => n, fun | n => n⟩
theorem Tryz.lays125 : Go.Proofs.Lays.n125 Tryz.prog Tryz.lays125_ren := {
  mixed := by kernel_rfl
  f125 := Tryz.func125.trans (congrArg some (by kernel_rfl))
  f128 := Tryz.func145.trans (congrArg some (by kernel_rfl))
  f129 := Tryz.func146.trans (congrArg some (by kernel_rfl))
  t3 := Tryz.underlying3
  a3 := Tryz.isAgg3
  z3 := Tryz.sizeOf3
  v3 := Tryz.zeroValue3
  t4 := Tryz.underlying4
  a4 := Tryz.isAgg4
  z4 := Tryz.sizeOf4
  v4 := Tryz.zeroValue4
  t5 := Tryz.underlying5
  a5 := Tryz.isAgg5
  z5 := Tryz.sizeOf5
  v5 := Tryz.zeroValue5
  t9 := Tryz.underlying9
  a9 := Tryz.isAgg9
  z9 := Tryz.sizeOf9
  v9 := Tryz.zeroValue9
  t46 := Tryz.underlying148
  a46 := Tryz.isAgg148
  z46 := Tryz.sizeOf148
  v46 := Tryz.zeroValue148
  t51 := Tryz.underlying175
  a51 := Tryz.isAgg175
  z51 := Tryz.sizeOf175
  v51 := Tryz.zeroValue175
  t53 := Tryz.underlying41
  a53 := Tryz.isAgg41
  z53 := Tryz.sizeOf41
  v53 := Tryz.zeroValue41 }
/-- bits.Len: "Len returns the minimum number of bits required to represent x; the result is 0 for x == 0.": IT RETURNS 'Lib.bitLen x'; the world is as it was. (A uint has 64 bits in the model.) ITS CALLEE bits.Len64 IS MET BY ITS OWN CONTRACT OFF THE SHELF (lay that first). (LAID: no walk: one application.) -/
theorem Tryz.bits_Len (x : Int) (w : World) (h0 : 0 ≤ x) (h1 : x ≤ 18446744073709551615) :
    Calls Tryz.prog 125 #[.int .u64 x] w fun e w' => e = .returned (.int .i64 (Lib.bitLen x.toNat)) ∧ w' = w := Any.bits_Len Tryz.lays125 x w h0 h1
def Tryz.lays171_ren : Go.Shelf.Ren := ⟨fun | 171 => 102 | 243 => 123 | 246 => 136 | 283 => 173 | 284 => 174 | 285 => 175 | 286 => 176 | 129 => 146 | 317 => 192 | 318 => 193 | 319 => 194 | 320 => 195 | 337 => 200 | 338 => 100 | n => n, fun | 3 => 3 | 9 => 9 | 2 => 2 | 4 => 4 | 171 => 191 | 0 => 0 | 53 => 41 | 37 => 65 | 5 => 5 | 173 => 193 | 212 => 209 | 51 => 175 | 20 => 20 | 213 => 210 | 46 => 148 | 232 => 217 | 233 => 157 | n => n, fun | 17 => 1 | 18 => 2 | 19 => 0 | n => n⟩
theorem Tryz.lays171 : Go.Proofs.Lays.n171 Tryz.prog Tryz.lays171_ren := {
  mixed := by kernel_rfl
  f129 := Tryz.func146.trans (congrArg some (by kernel_rfl))
  f171 := Tryz.func102.trans (congrArg some (by kernel_rfl))
  f243 := Tryz.func123.trans (congrArg some (by kernel_rfl))
  f246 := Tryz.func136.trans (congrArg some (by kernel_rfl))
  f283 := Tryz.func173.trans (congrArg some (by kernel_rfl))
  f284 := Tryz.func174.trans (congrArg some (by kernel_rfl))
  f285 := Tryz.func175.trans (congrArg some (by kernel_rfl))
  f286 := Tryz.func176.trans (congrArg some (by kernel_rfl))
  f317 := Tryz.func192.trans (congrArg some (by kernel_rfl))
  f318 := Tryz.func193.trans (congrArg some (by kernel_rfl))
  f319 := Tryz.func194.trans (congrArg some (by kernel_rfl))
  f320 := Tryz.func195.trans (congrArg some (by kernel_rfl))
  f337 := Tryz.func200.trans (congrArg some (by kernel_rfl))
  f338 := Tryz.func100.trans (congrArg some (by kernel_rfl))
  t0 := Tryz.underlying0
  a0 := Tryz.isAgg0
  z0 := Tryz.sizeOf0
  v0 := Tryz.zeroValue0
  t2 := Tryz.underlying2
  a2 := Tryz.isAgg2
  z2 := Tryz.sizeOf2
  v2 := Tryz.zeroValue2
  t3 := Tryz.underlying3
  a3 := Tryz.isAgg3
  z3 := Tryz.sizeOf3
  v3 := Tryz.zeroValue3
  t4 := Tryz.underlying4
  a4 := Tryz.isAgg4
  z4 := Tryz.sizeOf4
  v4 := Tryz.zeroValue4
  t5 := Tryz.underlying5
  a5 := Tryz.isAgg5
  z5 := Tryz.sizeOf5
  v5 := Tryz.zeroValue5
  t9 := Tryz.underlying9
  a9 := Tryz.isAgg9
  z9 := Tryz.sizeOf9
  v9 := Tryz.zeroValue9
  t20 := Tryz.underlying20
  a20 := Tryz.isAgg20
  z20 := Tryz.sizeOf20
  v20 := Tryz.zeroValue20
  t37 := Tryz.underlying65
  a37 := Tryz.isAgg65
  z37 := Tryz.sizeOf65
  v37 := Tryz.zeroValue65
  t46 := Tryz.underlying148
  a46 := Tryz.isAgg148
  z46 := Tryz.sizeOf148
  v46 := Tryz.zeroValue148
  t51 := Tryz.underlying175
  a51 := Tryz.isAgg175
  z51 := Tryz.sizeOf175
  v51 := Tryz.zeroValue175
  t53 := Tryz.underlying41
  a53 := Tryz.isAgg41
  z53 := Tryz.sizeOf41
  v53 := Tryz.zeroValue41
  t171 := Tryz.underlying191
  a171 := Tryz.isAgg191
  z171 := Tryz.sizeOf191
  v171 := Tryz.zeroValue191
  t173 := Tryz.underlying193
  a173 := Tryz.isAgg193
  z173 := Tryz.sizeOf193
  v173 := Tryz.zeroValue193
  t212 := Tryz.underlying209
  a212 := Tryz.isAgg209
  z212 := Tryz.sizeOf209
  v212 := Tryz.zeroValue209
  t213 := Tryz.underlying210
  a213 := Tryz.isAgg210
  z213 := Tryz.sizeOf210
  t232 := Tryz.underlying217
  a232 := Tryz.isAgg217
  z232 := Tryz.sizeOf217
  v232 := Tryz.zeroValue217
  t233 := Tryz.underlying157
  a233 := Tryz.isAgg157
  z233 := Tryz.sizeOf157
  v233 := Tryz.zeroValue157
  g17 := by kernel_rfl
  g18 := by kernel_rfl
  g19 := by kernel_rfl }
open Go.RowKit Go.Sort Go.Lib in
/-- THE ROAD WITHOUT THE TABLE: 0 <= i < 100: NO PREMISE ON THE WORLD, AND THE WORLD IS AS IT WAS: a row that keeps its argument in that range need list no table ('laid = []'). (LAID: no walk: one application.) -/
theorem Tryz.strconv_Itoa_small (i : Nat) (hi : i < 100) (w : World) :
    Calls Tryz.prog 102 #[.int .i64 i] w fun e w' => e = .returned (.string ⟨(Lib.decDigits i).toArray⟩) ∧ w' = w := Any.strconv_Itoa_small Tryz.lays171 i hi w
def Tryz.laysSlE33_f90_ren : Go.Shelf.Ren := ⟨fun | 33 => 90 | n => n, fun | 22 => 46 | 23 => 9 | 4 => 4 | 3 => 3 | 0 => 0 | n => n, fun | n => n⟩
theorem Tryz.laysSlE33_f90 : Go.Proofs.SlLaysE.n33 Tryz.prog Tryz.laysSlE33_f90_ren := {
  mixed := by kernel_rfl
  f33 := ⟨Tryz.f90.name, by decide, Tryz.func90.trans (congrArg some (by kernel_rfl))⟩
  t0 := Tryz.underlying0
  a0 := Tryz.isAgg0
  z0 := Tryz.sizeOf0
  v0 := Tryz.zeroValue0
  t3 := Tryz.underlying3
  a3 := Tryz.isAgg3
  z3 := Tryz.sizeOf3
  v3 := Tryz.zeroValue3
  t4 := Tryz.underlying4
  a4 := Tryz.isAgg4
  z4 := Tryz.sizeOf4
  v4 := Tryz.zeroValue4
  t22 := Tryz.underlying46
  a22 := Tryz.isAgg46
  z22 := Tryz.sizeOf46
  v22 := Tryz.zeroValue46
  a23 := Tryz.isAgg9
  z23 := Tryz.sizeOf9 }
open Go.RowKit Go.Lib in
/-- slices.Equal: "Equal reports whether two slices are equal: the same length and all elements equal. .. Empty and nil slices are considered equal. Floating point NaNs are not considered equal.": IT RETURNS 'Lib.allEq eq (the one's elements) (the other's)'; the world is as it was but for the count of draws. (LAID AT THE INSTANCE 'slices.Equal[[]string,string]': no walk: one application.) -/
theorem Tryz.slices_Equal {α : Type} [Inhabited α] (enc : α → Value) (eq : α → α → Bool) (hne : NeqAt Tryz.prog 9 enc eq) (b1 o1 n c b2 o2 m d : Nat) (xs ys : List α) (w : World) (hx : n ≤ xs.length) (hy : m ≤ ys.length) (hbig : n ≤ 9223372036854775807) (hbig2 : m ≤ 9223372036854775807) (hc1 : ∀ j, j < xs.length → w.cell? ⟨b1, o1 + j, none⟩ = some (enc xs[j]!)) (hc2 : ∀ j, j < ys.length → w.cell? ⟨b2, o2 + j, none⟩ = some (enc ys[j]!)) :
    Calls Tryz.prog 90 #[.slice (some ⟨b1, o1, none⟩) n c, .slice (some ⟨b2, o2, none⟩) m d] w fun e w' => e = .returned (.bool (Lib.allEq eq (xs.take n) (ys.take m))) ∧ ∃ q, w' = w.drewN q := AnyE.slices_Equal Tryz.laysSlE33_f90 enc eq hne b1 o1 n c b2 o2 m d xs ys w hx hy hbig hbig2 hc1 hc2
def Tryz.laysSlM6_f115_ren : Go.Shelf.Ren := ⟨fun | 6 => 115 | 8 => 125 | 9 => 130 | 19 => 145 | 20 => 146 | 21 => 147 | 22 => 148 | 23 => 149 | 24 => 150 | 25 => 151 | 26 => 152 | 27 => 131 | 28 => 153 | 29 => 154 | 36 => 182 | 31 => 178 | 32 => 179 | 37 => 183 | 38 => 184 | 39 => 155 | 41 => 197 | n => n, fun | 27 => 46 | 29 => 9 | 3 => 3 | 32 => 148 | 26 => 46 | 0 => 0 | 44 => 175 | 46 => 41 | 4 => 4 | 36 => 169 | 35 => 168 | 41 => 151 | 5 => 5 | 9 => 9 | 53 => 195 | 57 => 199 | 63 => 211 | 64 => 212 | n => n, fun | n => n⟩
theorem Tryz.laysSlM6_f115 : Go.Proofs.SlLaysM.n6 Tryz.prog Tryz.laysSlM6_f115_ren := {
  mixed := by kernel_rfl
  f6 := ⟨Tryz.f115.name, by decide, Tryz.func115.trans (congrArg some (by kernel_rfl))⟩
  f8 := Tryz.func125.trans (congrArg some (by kernel_rfl))
  f9 := ⟨Tryz.f130.name, by decide, Tryz.func130.trans (congrArg some (by kernel_rfl))⟩
  f19 := Tryz.func145.trans (congrArg some (by kernel_rfl))
  f20 := Tryz.func146.trans (congrArg some (by kernel_rfl))
  f21 := ⟨Tryz.f147.name, by decide, Tryz.func147.trans (congrArg some (by kernel_rfl))⟩
  f22 := ⟨Tryz.f148.name, by decide, Tryz.func148.trans (congrArg some (by kernel_rfl))⟩
  f23 := ⟨Tryz.f149.name, by decide, Tryz.func149.trans (congrArg some (by kernel_rfl))⟩
  f24 := ⟨Tryz.f150.name, by decide, Tryz.func150.trans (congrArg some (by kernel_rfl))⟩
  f25 := ⟨Tryz.f151.name, by decide, Tryz.func151.trans (congrArg some (by kernel_rfl))⟩
  f26 := ⟨Tryz.f152.name, by decide, Tryz.func152.trans (congrArg some (by kernel_rfl))⟩
  f27 := ⟨Tryz.f131.name, by decide, Tryz.func131.trans (congrArg some (by kernel_rfl))⟩
  f28 := ⟨Tryz.f153.name, by decide, Tryz.func153.trans (congrArg some (by kernel_rfl))⟩
  f29 := ⟨Tryz.f154.name, by decide, Tryz.func154.trans (congrArg some (by kernel_rfl))⟩
  f31 := Tryz.func178.trans (congrArg some (by kernel_rfl))
  f32 := Tryz.func179.trans (congrArg some (by kernel_rfl))
  f36 := ⟨Tryz.f182.name, by decide, Tryz.func182.trans (congrArg some (by kernel_rfl))⟩
  f37 := ⟨Tryz.f183.name, by decide, Tryz.func183.trans (congrArg some (by kernel_rfl))⟩
  f38 := ⟨Tryz.f184.name, by decide, Tryz.func184.trans (congrArg some (by kernel_rfl))⟩
  f39 := ⟨Tryz.f155.name, by decide, Tryz.func155.trans (congrArg some (by kernel_rfl))⟩
  f41 := ⟨Tryz.f197.name, by decide, Tryz.func197.trans (congrArg some (by kernel_rfl))⟩
  t0 := Tryz.underlying0
  a0 := Tryz.isAgg0
  z0 := Tryz.sizeOf0
  v0 := Tryz.zeroValue0
  t3 := Tryz.underlying3
  a3 := Tryz.isAgg3
  z3 := Tryz.sizeOf3
  v3 := Tryz.zeroValue3
  t4 := Tryz.underlying4
  a4 := Tryz.isAgg4
  z4 := Tryz.sizeOf4
  v4 := Tryz.zeroValue4
  t5 := Tryz.underlying5
  a5 := Tryz.isAgg5
  z5 := Tryz.sizeOf5
  v5 := Tryz.zeroValue5
  t9 := Tryz.underlying9
  a9 := Tryz.isAgg9
  z9 := Tryz.sizeOf9
  v9 := Tryz.zeroValue9
  t26 := Tryz.underlying46
  a26 := Tryz.isAgg46
  z26 := Tryz.sizeOf46
  v26 := Tryz.zeroValue46
  t27 := Tryz.underlying46
  a27 := Tryz.isAgg46
  z27 := Tryz.sizeOf46
  v27 := Tryz.zeroValue46
  t29 := Tryz.underlying9
  a29 := Tryz.isAgg9
  z29 := Tryz.sizeOf9
  v29 := Tryz.zeroValue9
  t32 := Tryz.underlying148
  a32 := Tryz.isAgg148
  z32 := Tryz.sizeOf148
  v32 := Tryz.zeroValue148
  t35 := Tryz.underlying168
  a35 := Tryz.isAgg168
  z35 := Tryz.sizeOf168
  v35 := Tryz.zeroValue168
  t36 := Tryz.underlying169
  a36 := Tryz.isAgg169
  z36 := Tryz.sizeOf169
  v36 := Tryz.zeroValue169
  t41 := Tryz.underlying151
  a41 := Tryz.isAgg151
  z41 := Tryz.sizeOf151
  v41 := Tryz.zeroValue151
  t44 := Tryz.underlying175
  a44 := Tryz.isAgg175
  z44 := Tryz.sizeOf175
  v44 := Tryz.zeroValue175
  t46 := Tryz.underlying41
  a46 := Tryz.isAgg41
  z46 := Tryz.sizeOf41
  v46 := Tryz.zeroValue41
  t53 := Tryz.underlying195
  a53 := Tryz.isAgg195
  z53 := Tryz.sizeOf195
  v53 := Tryz.zeroValue195
  t57 := Tryz.underlying199
  a57 := Tryz.isAgg199
  z57 := Tryz.sizeOf199
  v57 := Tryz.zeroValue199
  t63 := Tryz.underlying211
  a63 := Tryz.isAgg211
  z63 := Tryz.sizeOf211
  v63 := Tryz.zeroValue211
  t64 := Tryz.underlying212
  a64 := Tryz.isAgg212
  z64 := Tryz.sizeOf212
  v64 := Tryz.zeroValue212 }
open Go.Sort Go.RowKit in
theorem Tryz.slices_Sort_string (blk off cap : Nat) (ss : List (List UInt8)) (w : World) (hH : Holds encStr w blk off ss.toArray) (hblk : blk < w.heap.size) (hsz : ss.length < 4611686018427387904) :
    Calls Tryz.prog 115 #[.slice (some ⟨blk, off, none⟩) ss.length cap] w fun e w' =>
      e = .returned (.tuple #[]) ∧ ∃ n os, w' = grow (putRow encStr (Sort.ahead w n) blk off (ss.mergeSort fun x y => decide (x ≤ y)).toArray) os := AnyM.slices_Sort_string Tryz.laysSlM6_f115 blk off cap ss w hH hblk hsz
open Go.RowKit Go.Sort in
/-- .. and plain. (LAID AT THE INSTANCE 'slices.Sort[[]string,string]': no walk: one application.) -/
theorem Tryz.slices_Sort_string_none (p : Option Addr) (cap : Nat) (w : World) :
    Calls Tryz.prog 115 #[.slice p 0 cap] w fun e w' => e = .returned (.tuple #[]) ∧ w' = w := AnyM.slices_Sort_string_none Tryz.laysSlM6_f115 p cap w
def Tryz.laysSlF6_f103_ren : Go.Shelf.Ren := ⟨fun | 6 => 103 | 15 => 125 | 14 => 124 | 28 => 145 | 29 => 146 | 20 => 137 | 21 => 138 | 22 => 139 | 23 => 140 | 24 => 141 | 25 => 142 | 26 => 143 | 27 => 144 | 46 => 177 | 47 => 178 | 48 => 179 | 49 => 180 | 50 => 181 | 57 => 196 | n => n, fun | 22 => 30 | 24 => 3 | 25 => 141 | 3 => 3 | 39 => 148 | 0 => 0 | 53 => 175 | 55 => 41 | 4 => 4 | 46 => 169 | 45 => 168 | 50 => 151 | 5 => 5 | 9 => 9 | 66 => 195 | 70 => 199 | 76 => 211 | 77 => 212 | n => n, fun | n => n⟩
theorem Tryz.laysSlF6_f103 : Go.Proofs.SlLaysF.n6 Tryz.prog Tryz.laysSlF6_f103_ren := {
  mixed := by kernel_rfl
  f6 := ⟨Tryz.f103.name, by decide, Tryz.func103.trans (congrArg some (by kernel_rfl))⟩
  f14 := ⟨Tryz.f124.name, by decide, Tryz.func124.trans (congrArg some (by kernel_rfl))⟩
  f15 := Tryz.func125.trans (congrArg some (by kernel_rfl))
  f20 := ⟨Tryz.f137.name, by decide, Tryz.func137.trans (congrArg some (by kernel_rfl))⟩
  f21 := ⟨Tryz.f138.name, by decide, Tryz.func138.trans (congrArg some (by kernel_rfl))⟩
  f22 := ⟨Tryz.f139.name, by decide, Tryz.func139.trans (congrArg some (by kernel_rfl))⟩
  f23 := ⟨Tryz.f140.name, by decide, Tryz.func140.trans (congrArg some (by kernel_rfl))⟩
  f24 := ⟨Tryz.f141.name, by decide, Tryz.func141.trans (congrArg some (by kernel_rfl))⟩
  f25 := ⟨Tryz.f142.name, by decide, Tryz.func142.trans (congrArg some (by kernel_rfl))⟩
  f26 := ⟨Tryz.f143.name, by decide, Tryz.func143.trans (congrArg some (by kernel_rfl))⟩
  f27 := ⟨Tryz.f144.name, by decide, Tryz.func144.trans (congrArg some (by kernel_rfl))⟩
  f28 := Tryz.func145.trans (congrArg some (by kernel_rfl))
  f29 := Tryz.func146.trans (congrArg some (by kernel_rfl))
  f46 := ⟨Tryz.f177.name, by decide, Tryz.func177.trans (congrArg some (by kernel_rfl))⟩
  f47 := Tryz.func178.trans (congrArg some (by kernel_rfl))
  f48 := Tryz.func179.trans (congrArg some (by kernel_rfl))
  f49 := ⟨Tryz.f180.name, by decide, Tryz.func180.trans (congrArg some (by kernel_rfl))⟩
  f50 := ⟨Tryz.f181.name, by decide, Tryz.func181.trans (congrArg some (by kernel_rfl))⟩
  f57 := ⟨Tryz.f196.name, by decide, Tryz.func196.trans (congrArg some (by kernel_rfl))⟩
  t0 := Tryz.underlying0
  a0 := Tryz.isAgg0
  z0 := Tryz.sizeOf0
  v0 := Tryz.zeroValue0
  t3 := Tryz.underlying3
  a3 := Tryz.isAgg3
  z3 := Tryz.sizeOf3
  v3 := Tryz.zeroValue3
  t4 := Tryz.underlying4
  a4 := Tryz.isAgg4
  z4 := Tryz.sizeOf4
  v4 := Tryz.zeroValue4
  t5 := Tryz.underlying5
  a5 := Tryz.isAgg5
  z5 := Tryz.sizeOf5
  v5 := Tryz.zeroValue5
  t9 := Tryz.underlying9
  a9 := Tryz.isAgg9
  z9 := Tryz.sizeOf9
  v9 := Tryz.zeroValue9
  t22 := Tryz.underlying30
  a22 := Tryz.isAgg30
  z22 := Tryz.sizeOf30
  v22 := Tryz.zeroValue30
  a24 := Tryz.isAgg3
  z24 := Tryz.sizeOf3
  t25 := Tryz.underlying141
  a25 := Tryz.isAgg141
  z25 := Tryz.sizeOf141
  v25 := Tryz.zeroValue141
  t39 := Tryz.underlying148
  a39 := Tryz.isAgg148
  z39 := Tryz.sizeOf148
  v39 := Tryz.zeroValue148
  t45 := Tryz.underlying168
  a45 := Tryz.isAgg168
  z45 := Tryz.sizeOf168
  v45 := Tryz.zeroValue168
  t46 := Tryz.underlying169
  a46 := Tryz.isAgg169
  z46 := Tryz.sizeOf169
  v46 := Tryz.zeroValue169
  t50 := Tryz.underlying151
  a50 := Tryz.isAgg151
  z50 := Tryz.sizeOf151
  v50 := Tryz.zeroValue151
  t53 := Tryz.underlying175
  a53 := Tryz.isAgg175
  z53 := Tryz.sizeOf175
  v53 := Tryz.zeroValue175
  t55 := Tryz.underlying41
  a55 := Tryz.isAgg41
  z55 := Tryz.sizeOf41
  v55 := Tryz.zeroValue41
  t66 := Tryz.underlying195
  a66 := Tryz.isAgg195
  z66 := Tryz.sizeOf195
  v66 := Tryz.zeroValue195
  t70 := Tryz.underlying199
  a70 := Tryz.isAgg199
  z70 := Tryz.sizeOf199
  v70 := Tryz.zeroValue199
  t76 := Tryz.underlying211
  a76 := Tryz.isAgg211
  z76 := Tryz.sizeOf211
  v76 := Tryz.zeroValue211
  t77 := Tryz.underlying212
  a77 := Tryz.isAgg212
  z77 := Tryz.sizeOf212
  v77 := Tryz.zeroValue212 }
def Tryz.laysSlF6_f122_ren : Go.Shelf.Ren := ⟨fun | 6 => 122 | 15 => 125 | 14 => 135 | 28 => 145 | 29 => 146 | 20 => 165 | 21 => 166 | 22 => 167 | 23 => 168 | 24 => 169 | 25 => 170 | 26 => 171 | 27 => 172 | 46 => 189 | 47 => 178 | 48 => 179 | 49 => 190 | 50 => 191 | 57 => 199 | n => n, fun | 22 => 37 | 24 => 41 | 25 => 137 | 3 => 3 | 39 => 148 | 0 => 0 | 53 => 175 | 55 => 41 | 4 => 4 | 46 => 169 | 45 => 168 | 50 => 151 | 5 => 5 | 9 => 9 | 66 => 195 | 70 => 199 | 76 => 211 | 77 => 212 | n => n, fun | n => n⟩
theorem Tryz.laysSlF6_f122 : Go.Proofs.SlLaysF.n6 Tryz.prog Tryz.laysSlF6_f122_ren := {
  mixed := by kernel_rfl
  f6 := ⟨Tryz.f122.name, by decide, Tryz.func122.trans (congrArg some (by kernel_rfl))⟩
  f14 := ⟨Tryz.f135.name, by decide, Tryz.func135.trans (congrArg some (by kernel_rfl))⟩
  f15 := Tryz.func125.trans (congrArg some (by kernel_rfl))
  f20 := ⟨Tryz.f165.name, by decide, Tryz.func165.trans (congrArg some (by kernel_rfl))⟩
  f21 := ⟨Tryz.f166.name, by decide, Tryz.func166.trans (congrArg some (by kernel_rfl))⟩
  f22 := ⟨Tryz.f167.name, by decide, Tryz.func167.trans (congrArg some (by kernel_rfl))⟩
  f23 := ⟨Tryz.f168.name, by decide, Tryz.func168.trans (congrArg some (by kernel_rfl))⟩
  f24 := ⟨Tryz.f169.name, by decide, Tryz.func169.trans (congrArg some (by kernel_rfl))⟩
  f25 := ⟨Tryz.f170.name, by decide, Tryz.func170.trans (congrArg some (by kernel_rfl))⟩
  f26 := ⟨Tryz.f171.name, by decide, Tryz.func171.trans (congrArg some (by kernel_rfl))⟩
  f27 := ⟨Tryz.f172.name, by decide, Tryz.func172.trans (congrArg some (by kernel_rfl))⟩
  f28 := Tryz.func145.trans (congrArg some (by kernel_rfl))
  f29 := Tryz.func146.trans (congrArg some (by kernel_rfl))
  f46 := ⟨Tryz.f189.name, by decide, Tryz.func189.trans (congrArg some (by kernel_rfl))⟩
  f47 := Tryz.func178.trans (congrArg some (by kernel_rfl))
  f48 := Tryz.func179.trans (congrArg some (by kernel_rfl))
  f49 := ⟨Tryz.f190.name, by decide, Tryz.func190.trans (congrArg some (by kernel_rfl))⟩
  f50 := ⟨Tryz.f191.name, by decide, Tryz.func191.trans (congrArg some (by kernel_rfl))⟩
  f57 := ⟨Tryz.f199.name, by decide, Tryz.func199.trans (congrArg some (by kernel_rfl))⟩
  t0 := Tryz.underlying0
  a0 := Tryz.isAgg0
  z0 := Tryz.sizeOf0
  v0 := Tryz.zeroValue0
  t3 := Tryz.underlying3
  a3 := Tryz.isAgg3
  z3 := Tryz.sizeOf3
  v3 := Tryz.zeroValue3
  t4 := Tryz.underlying4
  a4 := Tryz.isAgg4
  z4 := Tryz.sizeOf4
  v4 := Tryz.zeroValue4
  t5 := Tryz.underlying5
  a5 := Tryz.isAgg5
  z5 := Tryz.sizeOf5
  v5 := Tryz.zeroValue5
  t9 := Tryz.underlying9
  a9 := Tryz.isAgg9
  z9 := Tryz.sizeOf9
  v9 := Tryz.zeroValue9
  t22 := Tryz.underlying37
  a22 := Tryz.isAgg37
  z22 := Tryz.sizeOf37
  v22 := Tryz.zeroValue37
  a24 := Tryz.isAgg41
  z24 := Tryz.sizeOf41
  t25 := Tryz.underlying137
  a25 := Tryz.isAgg137
  z25 := Tryz.sizeOf137
  v25 := Tryz.zeroValue137
  t39 := Tryz.underlying148
  a39 := Tryz.isAgg148
  z39 := Tryz.sizeOf148
  v39 := Tryz.zeroValue148
  t45 := Tryz.underlying168
  a45 := Tryz.isAgg168
  z45 := Tryz.sizeOf168
  v45 := Tryz.zeroValue168
  t46 := Tryz.underlying169
  a46 := Tryz.isAgg169
  z46 := Tryz.sizeOf169
  v46 := Tryz.zeroValue169
  t50 := Tryz.underlying151
  a50 := Tryz.isAgg151
  z50 := Tryz.sizeOf151
  v50 := Tryz.zeroValue151
  t53 := Tryz.underlying175
  a53 := Tryz.isAgg175
  z53 := Tryz.sizeOf175
  v53 := Tryz.zeroValue175
  t55 := Tryz.underlying41
  a55 := Tryz.isAgg41
  z55 := Tryz.sizeOf41
  v55 := Tryz.zeroValue41
  t66 := Tryz.underlying195
  a66 := Tryz.isAgg195
  z66 := Tryz.sizeOf195
  v66 := Tryz.zeroValue195
  t70 := Tryz.underlying199
  a70 := Tryz.isAgg199
  z70 := Tryz.sizeOf199
  v70 := Tryz.zeroValue199
  t76 := Tryz.underlying211
  a76 := Tryz.isAgg211
  z76 := Tryz.sizeOf211
  v76 := Tryz.zeroValue211
  t77 := Tryz.underlying212
  a77 := Tryz.isAgg212
  z77 := Tryz.sizeOf212
  v77 := Tryz.zeroValue212 }
open Go.RowKit Go.Lib Go.Sort in
/-- **slices.SortFunc AT ONE CELL, UNDER A 'cmp' THAT PARTS WHATEVER TWO THAT ARE NOT ONE: THE ROW HOLDS core's 'mergeSort'.** (LAID AT THE INSTANCE 'slices.SortFunc[[]int,int]': no walk: one application.) -/
theorem Tryz.slices_SortFunc_total_f103 {α : Type} [Inhabited α] (enc : α → Value) (h1 : OneCell enc) (cf : α → α → Int) (hO : SWO (ltOf cf)) (g : Nat) (cb : Array Value) (blk off cap : Nat) (d : Array α) (w : World) (eg : ∀ args w, (callFunc g args).run Tryz.prog w = .ok (.enter g args) w) (hcmp : CmpLays1 Tryz.prog g cb enc cf blk off d.size w) (hH : Holds enc w blk off d) (hblk : blk < w.heap.size) (hsz : d.size < 4611686018427387904) (hT : ∀ x y, (ltOf cf) x y = false → (ltOf cf) y x = false → x = y) :
    Calls Tryz.prog 103 #[.slice (some ⟨blk, off, none⟩) d.size cap, .func (.func g) #[] cb] w fun e w' =>
      e = .returned (.tuple #[]) ∧ ∃ n os, w' = sortWorld enc w blk off n (d.toList.mergeSort fun x y => !(ltOf cf) y x).toArray os := Any.slices_SortFunc_total Tryz.laysSlF6_f103 enc h1 cf hO g cb blk off cap d w eg hcmp hH hblk hsz hT
open Go.RowKit Go.Lib Go.Sort in
/-- **slices.SortFunc AT ONE CELL, UNDER A 'cmp' THAT PARTS WHATEVER TWO THAT ARE NOT ONE: THE ROW HOLDS core's 'mergeSort'.** (LAID AT THE INSTANCE 'slices.SortFunc[[]uint64,uint64]': no walk: one application.) -/
theorem Tryz.slices_SortFunc_total_f122 {α : Type} [Inhabited α] (enc : α → Value) (h1 : OneCell enc) (cf : α → α → Int) (hO : SWO (ltOf cf)) (g : Nat) (cb : Array Value) (blk off cap : Nat) (d : Array α) (w : World) (eg : ∀ args w, (callFunc g args).run Tryz.prog w = .ok (.enter g args) w) (hcmp : CmpLays1 Tryz.prog g cb enc cf blk off d.size w) (hH : Holds enc w blk off d) (hblk : blk < w.heap.size) (hsz : d.size < 4611686018427387904) (hT : ∀ x y, (ltOf cf) x y = false → (ltOf cf) y x = false → x = y) :
    Calls Tryz.prog 122 #[.slice (some ⟨blk, off, none⟩) d.size cap, .func (.func g) #[] cb] w fun e w' =>
      e = .returned (.tuple #[]) ∧ ∃ n os, w' = sortWorld enc w blk off n (d.toList.mergeSort fun x y => !(ltOf cf) y x).toArray os := Any.slices_SortFunc_total Tryz.laysSlF6_f122 enc h1 cf hO g cb blk off cap d w eg hcmp hH hblk hsz hT
end Go.Proofs
namespace Go.Proofs.YtfgkjofdgohacaaGreatDoor
open Go Go.RowKit Go.Shelf Go.Sort
theorem bitLen_aux : ∀ (f n : Nat), 0 < n → n < 2 ^ f → 2 ^ (Lib.bitLenAux f n) ≤ 2 * n ∧ Lib.bitLenAux f n ≤ f := by
  intro f
  induction f with
  | zero => intro n h0 h1; simp at h1; omega
  | succ f ih =>
    intro n h0 h1
    rw [Lib.bitLenAux, if_neg (by omega)]
    by_cases h : n / 2 = 0
    · have : Lib.bitLenAux f (n / 2) = 0 := by rw [h]; cases f <;> rfl
      rw [this]; simp; omega
    · obtain ⟨a, b⟩ := ih (n / 2) (by omega) (by rw [Nat.pow_succ] at h1; omega)
      rw [Nat.add_comm 1, Nat.pow_succ]
      omega
theorem bitLen_two {n : Nat} (h : 0 < n) (h2 : n < 4611686018427387904) : 2 ^ (Lib.bitLen n) ≤ 2 * n ∧ Lib.bitLen n ≤ 63 := by
  unfold Lib.bitLen
  have h1 := (bitLen_aux 64 n h (by omega)).1
  refine ⟨h1, ?_⟩
  rcases Nat.lt_or_ge 63 (Lib.bitLenAux 64 n) with q | q
  · have : 2 ^ 64 ≤ 2 ^ Lib.bitLenAux 64 n := Nat.pow_le_pow_right (by omega) q
    omega
  · exact q
set_option maxRecDepth 100000 in
set_option maxHeartbeats 4000000 in
theorem npow_any (H : Nat) (w : World) (h0 : 0 < H) (h1 : H < 4611686018427387904) :
    Calls Tryz.prog 178 #[.int .i64 H] w fun e w' => ∃ M : Nat, e = .returned (.int .u64 (M : Nat)) ∧ 1 ≤ M ∧ M ≤ 2 * H ∧ w' = w := by
  have HB := Lib.hid (bitLen_two h0 h1)
  have hc := fun w => Tryz.bits_Len (H : Int) w (by omega) (by omega)
  rw [Int.toNat_natCast] at hc
  have HC := Lib.hid hc
  clear hc
  obtain ⟨L, hL⟩ : ∃ L, L = Lib.bitLen H := ⟨_, rfl⟩
  rw [← hL] at HB HC
  have hL63 := HB.out.2
  clear hL
  go_enter Tryz.func178, Tryz.ntmps178
  go_wp2_with fail
  refine (HC.out _).mono ?_
  rintro e w1 ⟨rfl, rfl⟩
  go_wp2_with fail
  go_ret
  refine ⟨2 ^ L, ?_, Nat.two_pow_pos _, HB.out.1, rfl⟩
  have hp : 2 ^ L ≤ 2 ^ 63 := Nat.pow_le_pow_right (by omega) hL63
  have e : ((2 : Int) ^ L) = ((2 ^ L : Nat) : Int) := by simp
  have e2 : IntKind.u64.wrap ((2 : Int) ^ L) = ((2 ^ L : Nat) : Int) := by
    rw [e, IntKind.wrap_u64]
    have h64 : 2 ^ L < 18446744073709551616 := by omega
    generalize 2 ^ L = M at *
    clear e
    omega
  show Ending.returned (.int .u64 (IntKind.u64.wrap (2 ^ L))) = _
  rw [e2]
theorem xor_rng (a b : Int) : 0 ≤ bits BinOp.xor IntKind.u64 a b ∧ bits BinOp.xor IntKind.u64 a b ≤ 18446744073709551615 := by
  show 0 ≤ IntKind.u64.wrap _ ∧ IntKind.u64.wrap _ ≤ _
  rw [IntKind.wrap_u64]
  omega
/-- The world with the state of the numbers in a new block. -/
def RndW (w : World) (x : Int) : World := w.alloc (.cells #[.int .u64 x] 195)
theorem rnd_draws (w : World) (x : Int) (n : Nat) : (RndW w x).drewN n = RndW (w.drewN n) x := by
  show Sort.ahead (w.alloc _) n = (Sort.ahead w n).alloc _
  rw [alloc_eq_grow, alloc_eq_grow, ahead_grow]
theorem rnd_set (w : World) (x y : Int) : (RndW w x).setCell ⟨w.heap.size, 0, none⟩ (.int .u64 y) = RndW w y := by
  unfold RndW World.setCell World.alloc
  congr 1
  apply Array.ext_getElem?
  intro k
  show ((w.heap.push _).modify w.heap.size _)[k]? = (w.heap.push _)[k]?
  rw [Array.getElem?_modify, Array.getElem?_push, Array.getElem?_push]
  by_cases h : w.heap.size = k
  · subst h; simp
  · rw [if_neg h]
    have h2 : ¬ k = w.heap.size := fun e => h e.symm
    rw [if_neg h2, if_neg h2]
theorem rnd_cell (w : World) (x : Int) : (RndW w x).cell? ⟨w.heap.size, 0, none⟩ = some (.int .u64 x) := (Blk.new w #[.int .u64 x] 195).cell 0
theorem rnd_frozen (w : World) (x : Int) : (RndW w x).frozen? ⟨w.heap.size, 0, none⟩ = false := by
  have h := World.alloc_heap_new w (.cells #[.int .u64 x] 195)
  unfold RndW World.frozen?
  rw [h]
  simp
set_option maxRecDepth 100000 in
set_option maxHeartbeats 4000000 in
theorem next_any (B : World) (x : Int) (_ : 0 ≤ x ∧ x ≤ 18446744073709551615) :
    Calls Tryz.prog 179 #[.pointer (some ⟨B.heap.size, 0, none⟩)] (RndW B x) fun e w' => ∃ (y : Int) (n : Nat), e = .returned (.int .u64 y) ∧ (0 ≤ y ∧ y ≤ 18446744073709551615) ∧ w' = RndW (B.drewN n) y := by
  have c0 := rnd_cell B x
  have f0 := rnd_frozen B x
  have HD := Lib.hid (fun x n => rnd_draws B x n)
  have HS := Lib.hid (fun n x y => rnd_set (B.drewN n) x y)
  have HC := Lib.hid (fun n x => rnd_cell (B.drewN n) x)
  have HF := Lib.hid (fun n x => rnd_frozen (B.drewN n) x)
  obtain ⟨W, hW⟩ : ∃ W, W = RndW B x := ⟨_, rfl⟩
  rw [← hW] at c0 f0 ⊢
  have HW := Lib.hid hW
  clear hW
  go_enter Tryz.func179, Tryz.ntmps179
  go_upto_region 1 with fail
  go_region
  all_goals go_upto_region 2 with fail
  have HX1 := Lib.hid (xor_rng x (IntKind.u64.wrap (x * 8192)))
  generalize bits BinOp.xor IntKind.u64 x (IntKind.u64.wrap (x * 8192)) = y1 at *
  have HW1 : Hid ((W.setCell ⟨B.heap.size, 0, none⟩ (.int .u64 y1)).drew = RndW (B.drewN 1) y1) := by
    show (W.setCell ⟨B.heap.size, 0, none⟩ (.int .u64 y1)).drewN 1 = _
    rw [HW.out, rnd_set, rnd_draws]
  generalize hw1 : (W.setCell ⟨B.heap.size, 0, none⟩ (.int .u64 y1)).drew = W1 at *
  have c1 : W1.cell? ⟨B.heap.size, 0, none⟩ = some (.int .u64 y1) := by rw [HW1.out]; exact rnd_cell (B.drewN 1) y1
  have f1 : W1.frozen? ⟨B.heap.size, 0, none⟩ = false := by rw [HW1.out]; exact rnd_frozen (B.drewN 1) y1
  clear hw1 c0 f0 HW
  go_region
  all_goals go_upto_region 3 with fail
  have HX2 := Lib.hid (xor_rng y1 (y1 / 128))
  generalize bits BinOp.xor IntKind.u64 y1 (y1 / 128) = y2 at *
  have HW2 : Hid ((W1.setCell ⟨B.heap.size, 0, none⟩ (.int .u64 y2)).drew = RndW (B.drewN 2) y2) := by
    show (W1.setCell ⟨B.heap.size, 0, none⟩ (.int .u64 y2)).drewN 1 = _
    rw [HW1.out]
    have := rnd_set (B.drewN 1) y1 y2
    rw [show (B.drewN 1).heap.size = B.heap.size from rfl] at this
    rw [this, rnd_draws]
    rfl
  generalize hw2 : (W1.setCell ⟨B.heap.size, 0, none⟩ (.int .u64 y2)).drew = W2 at *
  have c2 : W2.cell? ⟨B.heap.size, 0, none⟩ = some (.int .u64 y2) := by rw [HW2.out]; exact rnd_cell (B.drewN 2) y2
  have f2 : W2.frozen? ⟨B.heap.size, 0, none⟩ = false := by rw [HW2.out]; exact rnd_frozen (B.drewN 2) y2
  clear hw2 c1 f1 HW1
  go_region
  all_goals go_upto_region 4 with fail
  have HX3 := Lib.hid (xor_rng y2 (IntKind.u64.wrap (y2 * 131072)))
  generalize bits BinOp.xor IntKind.u64 y2 (IntKind.u64.wrap (y2 * 131072)) = y3 at *
  have HW3 : Hid ((W2.setCell ⟨B.heap.size, 0, none⟩ (.int .u64 y3)).drew = RndW (B.drewN 3) y3) := by
    show (W2.setCell ⟨B.heap.size, 0, none⟩ (.int .u64 y3)).drewN 1 = _
    rw [HW2.out]
    have := rnd_set (B.drewN 2) y2 y3
    rw [show (B.drewN 2).heap.size = B.heap.size from rfl] at this
    rw [this, rnd_draws]
    rfl
  generalize hw3 : (W2.setCell ⟨B.heap.size, 0, none⟩ (.int .u64 y3)).drew = W3 at *
  have c3 : W3.cell? ⟨B.heap.size, 0, none⟩ = some (.int .u64 y3) := by rw [HW3.out]; exact rnd_cell (B.drewN 3) y3
  clear hw3 c2 f2 HW2
  go_wp2_with fail
  go_ret
  exact ⟨y3, 3, rfl, HX3.out, HW3.out⟩
/-- What is left of a number behind a mask. -/
theorem and_rng {y : Int} {M : Nat} (hM : 1 ≤ M) (hM2 : M ≤ 9223372036854775808) : 0 ≤ bits BinOp.and IntKind.u64 y ((M : Int) - 1) ∧ bits BinOp.and IntKind.u64 y ((M : Int) - 1) < M := by
  show 0 ≤ IntKind.u64.wrap ((BitVec.ofInt 64 y &&& BitVec.ofInt 64 ((M : Int) - 1)).toNat : Int) ∧ IntKind.u64.wrap ((BitVec.ofInt 64 y &&& BitVec.ofInt 64 ((M : Int) - 1)).toNat : Int) < _
  rw [BitVec.toNat_and]
  have e : (BitVec.ofInt 64 ((M : Int) - 1)).toNat = M - 1 := by
    rw [show (M : Int) - 1 = ((M - 1 : Nat) : Int) by omega, BitVec.ofInt_natCast, BitVec.toNat_ofNat]
    exact Nat.mod_eq_of_lt (by omega)
  rw [e]
  have h : (BitVec.ofInt 64 y).toNat &&& (M - 1) ≤ M - 1 := Nat.and_le_right
  generalize (BitVec.ofInt 64 y).toNat &&& (M - 1) = z at *
  rw [IntKind.wrap_u64]
  omega
/-- The row turned, the numbers' state in a block behind it. -/
def BrkW (w : World) (blk off m : Nat) (d : Array Nat) (x : Int) : World := RndW (putRow encN (Sort.ahead w m) blk off d) x
theorem brk_to {w : World} {blk off m : Nat} {d : Array Nat} {x : Int} : RowTo w (BrkW w blk off m d x) blk off d :=
  ⟨m, #[.cells #[.int .u64 x] 195], alloc_eq_grow _ _⟩
theorem brk_size (w : World) (blk off m : Nat) (d : Array Nat) : (putRow encN (Sort.ahead w m) blk off d).heap.size = w.heap.size := by rw [size_putRow]; rfl
theorem brk_draws (w : World) (blk off m : Nat) (d : Array Nat) (x : Int) (n : Nat) : (BrkW w blk off m d x).drewN n = BrkW w blk off (m + n) d x := by
  unfold BrkW
  rw [rnd_draws, draws_put rfl]
theorem brk_swap {w : World} {blk off m i j : Nat} {d : Array Nat} {x : Int} (hb : blk < w.heap.size) (hi : i < d.size) (hj : j < d.size) :
    ((BrkW w blk off m d x).setCell ⟨blk, off + i, none⟩ (encN d[j]!)).setCell ⟨blk, off + j, none⟩ (encN d[i]!) = BrkW w blk off m (swp d i j) x := by
  unfold BrkW RndW
  rw [alloc_eq_grow, alloc_eq_grow, setCell_eq, setCell_eq, mapBlock_grow _ _ _ _ (by rw [brk_size]; exact hb), mapBlock_grow _ _ _ _ (by simp only [mapBlock, Array.size_modify]; rw [brk_size]; exact hb)]
  congr 1
  rw [← setCell_eq, ← setCell_eq]
  exact putRow_swp encN _ blk off d i j hi hj
set_option maxRecDepth 100000 in
set_option maxHeartbeats 8000000 in
theorem brkU_any (blk off len cap a b : Nat) (d : Array Nat) (hlen : d.size = len) (w : World) (hH : Holds encN w blk off d) (hbw : blk < w.heap.size) (hab : a < b) (hb : b ≤ len) (hsz : len < 4611686018427387904) :
    Calls Tryz.prog 158 #[.slice (some ⟨blk, off, none⟩) len cap, .int .i64 a, .int .i64 b] w fun e w' =>
      e = .returned (.tuple #[]) ∧ ∃ d', PermIn a b d d' ∧ RowTo w w' blk off d' := by
  have HH := Lib.hid hH
  have HS : Hid (w = putRow encN (Sort.ahead w 0) blk off d) := (putRow_self encN w blk off d hH).symm
  have HLN := Lib.hid hlen
  have HBW := Lib.hid hbw
  clear hH hlen hbw
  obtain ⟨H, hHd⟩ : ∃ H, H = b - a := ⟨_, rfl⟩
  have ecast : (b : Int) - (a : Int) = (H : Int) := by omega
  obtain ⟨q, hq⟩ : ∃ q, q = H / 4 := ⟨_, rfl⟩
  have e4 : (H : Int).tdiv 4 = (q : Int) := by rw [hq]; rfl
  have HB : Hid (b = a + H) := by show _ = _; omega
  have hqb : 4 * q ≤ H := by omega
  have hq2 : H < 4 * q + 4 := by omega
  have hHl : a + H ≤ len := by omega
  have HN := Lib.hid (fun w h0 => npow_any H w h0 (by omega))
  clear hHd hq
  by_cases h8 : 8 ≤ H
  · go_enter Tryz.func158, Tryz.ntmps158
    go_wp2_with fail
    refine (HN.out _ (by omega)).mono ?_
    rintro e w1 ⟨M, rfl, hM1, hM2, rfl⟩
    have HW0 : Hid (w.alloc (.cells #[.int .u64 (H : Int)] 195) = BrkW w blk off 0 d (H : Int)) := by
      show RndW w (H : Int) = RndW _ _
      rw [← HS.out]
    have HNX : Hid (∀ (m : Nat) (dk : Array Nat) (y : Int), (0 ≤ y ∧ y ≤ 18446744073709551615) → Calls Tryz.prog 179 #[.pointer (some ⟨w.heap.size, 0, none⟩)] (BrkW w blk off m dk y) fun e w' => ∃ (y' : Int) (m' : Nat), e = .returned (.int .u64 y') ∧ (0 ≤ y' ∧ y' ≤ 18446744073709551615) ∧ w' = BrkW w blk off m' dk y') := fun m dk y hy => by
      have h := next_any (putRow encN (Sort.ahead w m) blk off dk) y hy
      rw [brk_size] at h
      refine h.mono ?_
      rintro e w' ⟨y', n, he, hr, hw'⟩
      refine ⟨y', m + n, he, hr, ?_⟩
      rw [hw', draws_put rfl]
      rfl
    have hM3 : (M : Int) - 1 ≤ 18446744073709551615 := by omega
    rw [HW0.out]
    go_wp2_with fail
    go_loopw [9, 10] (fun x _ wr => ∃ (i m : Nat) (dk : Array Nat) (y : Int), x = .int .i64 i ∧ a + q * 2 - 1 ≤ i ∧ i ≤ a + q * 2 + 2 ∧ Hid (PermIn a b d dk) ∧ (0 ≤ y ∧ y ≤ 18446744073709551615) ∧ Hid (wr = BrkW w blk off m dk y)) (fun x _ _ => a + q * 2 + 2 - (intOf x).toNat)
    case atStart => exact ⟨a + q * 2 - 1, 0, d, (H : Int), by congr 1; omega, Nat.le_refl _, by omega, permIn_refl _ _ _, by omega, rfl⟩
    case round =>
      obtain ⟨i, m, dk, y, rfl, hi1, hi2, HP, hy, HW⟩ := hrel
      have hsk : Hid (dk.size = len) := by show _ = _; rw [HP.out.1, HLN.out]
      by_cases hlt : i ≤ a + q * 2 + 1
      · have hlt' : (i : Int) ≤ (a : Int) + (q : Int) * 2 + 1 := by omega
        have HC := Lib.hid (HNX.out m dk y hy)
        rw [← HW.out] at HC
        go_wp2_with fail
        refine HC.out.mono ?_
        rintro e W3 ⟨y3, m3, rfl, hy3, hw3⟩
        have HW3 := Lib.hid hw3
        have HY3 := Lib.hid hy3
        have HZ := Lib.hid (and_rng (y := y3) (M := M) hM1 (by omega))
        obtain ⟨z, hz⟩ : ∃ z, z = bits BinOp.and IntKind.u64 y3 ((M : Int) - 1) := ⟨_, rfl⟩
        obtain ⟨zn, hzn⟩ : ∃ zn : Nat, z = (zn : Int) := ⟨z.toNat, by have := HZ.out; omega⟩
        have hzz : bits BinOp.and IntKind.u64 y3 ((M : Int) - 1) = (zn : Int) := by omega
        rw [hzz] at HZ
        have hzM : zn < M := by have := HZ.out; omega
        obtain ⟨G, HG, hcw0, hfw0⟩ := row_fam (brk_to.holds HH.out (show dk.size = d.size by rw [hsk.out, HLN.out]) HBW.out : Holds encN (BrkW w blk off m3 dk y3) blk off dk)
        rw [← hw3] at hcw0 hfw0
        have hcw : ∀ t, t < len → W3.cell? ⟨blk, off + t, none⟩ = some (.int .u64 (G t : Int)) := fun t ht => hcw0 t (by rw [hsk.out]; exact ht)
        have hfw : ∀ t, t < len → W3.frozen? ⟨blk, off + t, none⟩ = false := fun t ht => hfw0 t (by rw [hsk.out]; exact ht)
        clear hcw0 hfw0 hw3 hz hzn HC HW hy3 hy
        by_cases hzH : H ≤ zn
        · obtain ⟨o, ho⟩ : ∃ o, o = zn - H := ⟨_, rfl⟩
          have eo2 : (zn : Int) - (H : Int) = (o : Int) := by omega
          have hoH : o < H := by omega
          have hzH' : (H : Int) ≤ (zn : Int) := by omega
          clear ho
          rcases Nat.lt_trichotomy i (a + o) with hio | hio | hio
          ·
            go_wp2_with fail
            go_region
            all_goals go_wp2_with fail
            have HW4 : Hid (((W3.setCell ⟨blk, off + i, none⟩ (.int .u64 (G (a + o) : Int))).setCell ⟨blk, off + (a + o), none⟩ (.int .u64 (G i : Int))).drew = BrkW w blk off (m3 + 1) (swp dk i (a + o)) y3) := by
              show ((W3.setCell ⟨blk, off + i, none⟩ (.int .u64 (G (a + o) : Int))).setCell ⟨blk, off + (a + o), none⟩ (.int .u64 (G i : Int))).drewN 1 = _
              simp only [HG.out]
              rw [HW3.out]
              have := brk_swap (w := w) (blk := blk) (off := off) (m := m3) (i := i) (j := a + o) (d := dk) (x := y3) HBW.out (by rw [hsk.out]; omega) (by rw [hsk.out]; omega)
              unfold encN at this
              rw [this, brk_draws]
            go_roundw
            case rel => exact ⟨i + 1, m3 + 1, swp dk i (a + o), y3, by go_num, by omega, by omega, permIn_trans _ _ _ _ _ HP.out (swp_permIn dk a b i (a + o) (by omega) (by have := HB.out; omega) (by omega) (by have := HB.out; omega) (by rw [hsk.out]; omega)), HY3.out, HW4⟩
            case measure => simp [intOf]; omega
          ·
            have hoi : o = i - a := by omega
            have eo : (a : Int) + (o : Int) = (i : Int) := by omega
            clear hoi hio
            go_wp2_with fail
            go_region
            all_goals go_wp2_with fail
            have HW4 : Hid (((W3.setCell ⟨blk, off + i, none⟩ (.int .u64 (G (i) : Int))).setCell ⟨blk, off + (i), none⟩ (.int .u64 (G i : Int))).drew = BrkW w blk off (m3 + 1) (swp dk i (i)) y3) := by
              show ((W3.setCell ⟨blk, off + i, none⟩ (.int .u64 (G (i) : Int))).setCell ⟨blk, off + (i), none⟩ (.int .u64 (G i : Int))).drewN 1 = _
              simp only [HG.out]
              rw [HW3.out]
              have := brk_swap (w := w) (blk := blk) (off := off) (m := m3) (i := i) (j := i) (d := dk) (x := y3) HBW.out (by rw [hsk.out]; omega) (by rw [hsk.out]; omega)
              unfold encN at this
              rw [this, brk_draws]
            go_roundw
            case rel => exact ⟨i + 1, m3 + 1, swp dk i (i), y3, by go_num, by omega, by omega, permIn_trans _ _ _ _ _ HP.out (swp_permIn dk a b i (i) (by omega) (by have := HB.out; omega) (by omega) (by have := HB.out; omega) (by rw [hsk.out]; omega)), HY3.out, HW4⟩
            case measure => simp [intOf]; omega
          ·
            go_wp2_with fail
            go_region
            all_goals go_wp2_with fail
            have HW4 : Hid (((W3.setCell ⟨blk, off + i, none⟩ (.int .u64 (G (a + o) : Int))).setCell ⟨blk, off + (a + o), none⟩ (.int .u64 (G i : Int))).drew = BrkW w blk off (m3 + 1) (swp dk i (a + o)) y3) := by
              show ((W3.setCell ⟨blk, off + i, none⟩ (.int .u64 (G (a + o) : Int))).setCell ⟨blk, off + (a + o), none⟩ (.int .u64 (G i : Int))).drewN 1 = _
              simp only [HG.out]
              rw [HW3.out]
              have := brk_swap (w := w) (blk := blk) (off := off) (m := m3) (i := i) (j := a + o) (d := dk) (x := y3) HBW.out (by rw [hsk.out]; omega) (by rw [hsk.out]; omega)
              unfold encN at this
              rw [this, brk_draws]
            go_roundw
            case rel => exact ⟨i + 1, m3 + 1, swp dk i (a + o), y3, by go_num, by omega, by omega, permIn_trans _ _ _ _ _ HP.out (swp_permIn dk a b i (a + o) (by omega) (by have := HB.out; omega) (by omega) (by have := HB.out; omega) (by rw [hsk.out]; omega)), HY3.out, HW4⟩
            case measure => simp [intOf]; omega
        · have hzH' : ¬ ((H : Int) ≤ (zn : Int)) := by omega
          obtain ⟨o, ho⟩ : ∃ o, o = zn := ⟨_, rfl⟩
          rw [← ho] at hzz hzH' hzM
          have hoH : o < H := by omega
          clear ho
          rcases Nat.lt_trichotomy i (a + o) with hio | hio | hio
          ·
            go_wp2_with fail
            go_region
            all_goals go_wp2_with fail
            have HW4 : Hid (((W3.setCell ⟨blk, off + i, none⟩ (.int .u64 (G (a + o) : Int))).setCell ⟨blk, off + (a + o), none⟩ (.int .u64 (G i : Int))).drew = BrkW w blk off (m3 + 1) (swp dk i (a + o)) y3) := by
              show ((W3.setCell ⟨blk, off + i, none⟩ (.int .u64 (G (a + o) : Int))).setCell ⟨blk, off + (a + o), none⟩ (.int .u64 (G i : Int))).drewN 1 = _
              simp only [HG.out]
              rw [HW3.out]
              have := brk_swap (w := w) (blk := blk) (off := off) (m := m3) (i := i) (j := a + o) (d := dk) (x := y3) HBW.out (by rw [hsk.out]; omega) (by rw [hsk.out]; omega)
              unfold encN at this
              rw [this, brk_draws]
            go_roundw
            case rel => exact ⟨i + 1, m3 + 1, swp dk i (a + o), y3, by go_num, by omega, by omega, permIn_trans _ _ _ _ _ HP.out (swp_permIn dk a b i (a + o) (by omega) (by have := HB.out; omega) (by omega) (by have := HB.out; omega) (by rw [hsk.out]; omega)), HY3.out, HW4⟩
            case measure => simp [intOf]; omega
          ·
            have hoi : o = i - a := by omega
            have eo : (a : Int) + (o : Int) = (i : Int) := by omega
            clear hoi hio
            go_wp2_with fail
            go_region
            all_goals go_wp2_with fail
            have HW4 : Hid (((W3.setCell ⟨blk, off + i, none⟩ (.int .u64 (G (i) : Int))).setCell ⟨blk, off + (i), none⟩ (.int .u64 (G i : Int))).drew = BrkW w blk off (m3 + 1) (swp dk i (i)) y3) := by
              show ((W3.setCell ⟨blk, off + i, none⟩ (.int .u64 (G (i) : Int))).setCell ⟨blk, off + (i), none⟩ (.int .u64 (G i : Int))).drewN 1 = _
              simp only [HG.out]
              rw [HW3.out]
              have := brk_swap (w := w) (blk := blk) (off := off) (m := m3) (i := i) (j := i) (d := dk) (x := y3) HBW.out (by rw [hsk.out]; omega) (by rw [hsk.out]; omega)
              unfold encN at this
              rw [this, brk_draws]
            go_roundw
            case rel => exact ⟨i + 1, m3 + 1, swp dk i (i), y3, by go_num, by omega, by omega, permIn_trans _ _ _ _ _ HP.out (swp_permIn dk a b i (i) (by omega) (by have := HB.out; omega) (by omega) (by have := HB.out; omega) (by rw [hsk.out]; omega)), HY3.out, HW4⟩
            case measure => simp [intOf]; omega
          ·
            go_wp2_with fail
            go_region
            all_goals go_wp2_with fail
            have HW4 : Hid (((W3.setCell ⟨blk, off + i, none⟩ (.int .u64 (G (a + o) : Int))).setCell ⟨blk, off + (a + o), none⟩ (.int .u64 (G i : Int))).drew = BrkW w blk off (m3 + 1) (swp dk i (a + o)) y3) := by
              show ((W3.setCell ⟨blk, off + i, none⟩ (.int .u64 (G (a + o) : Int))).setCell ⟨blk, off + (a + o), none⟩ (.int .u64 (G i : Int))).drewN 1 = _
              simp only [HG.out]
              rw [HW3.out]
              have := brk_swap (w := w) (blk := blk) (off := off) (m := m3) (i := i) (j := a + o) (d := dk) (x := y3) HBW.out (by rw [hsk.out]; omega) (by rw [hsk.out]; omega)
              unfold encN at this
              rw [this, brk_draws]
            go_roundw
            case rel => exact ⟨i + 1, m3 + 1, swp dk i (a + o), y3, by go_num, by omega, by omega, permIn_trans _ _ _ _ _ HP.out (swp_permIn dk a b i (a + o) (by omega) (by have := HB.out; omega) (by omega) (by have := HB.out; omega) (by rw [hsk.out]; omega)), HY3.out, HW4⟩
            case measure => simp [intOf]; omega
      · have hlt' : ¬ ((i : Int) ≤ (a : Int) + (q : Int) * 2 + 1) := by omega
        go_wp2_with fail
        go_end0
        exact ⟨rfl, dk, HP.out, by rw [HW.out]; exact brk_to⟩
  · go_enter Tryz.func158, Tryz.ntmps158
    go_wp2_with fail
    go_end0
    exact ⟨rfl, d, permIn_refl _ _ _, RowTo.of_put HS.out⟩
end Go.Proofs.YtfgkjofdgohacaaGreatDoor
namespace Go.Proofs.YtfgkjofdgohacaaGreatDoor
open Go Go.RowKit Go.Shelf Go.Sort
/-- While it is partitioned: what lies ahead of i is less than the pivot at a, what lies behind j is not. -/
structure PartI (a b : Nat) (d dk : Array Nat) (i j : Nat) : Prop where
  perm : PermIn a b d dk
  ai : a < i
  ij : i ≤ j + 1
  jb : j < b
  lo : ∀ t, a < t → t < i → ltN dk[t]! dk[a]! = true
  hi : ∀ t, j < t → t < b → ltN dk[t]! dk[a]! = false
theorem PartI.up {a b i j : Nat} {d dk : Array Nat} (h : PartI a b d dk i j) (hij : i ≤ j) (hl : ltN dk[i]! dk[a]! = true) : PartI a b d dk (i + 1) j :=
  ⟨h.perm, by have := h.ai; omega, by omega, h.jb, fun t h1 h2 => by
    by_cases e : t = i
    · subst e; exact hl
    · exact h.lo t h1 (by omega), h.hi⟩
theorem PartI.down {a b i j : Nat} {d dk : Array Nat} (h : PartI a b d dk i j) (hij : i ≤ j) (hl : ltN dk[j]! dk[a]! = false) : PartI a b d dk i (j - 1) :=
  ⟨h.perm, h.ai, by have := h.ai; omega, by have := h.jb; omega, h.lo, fun t h1 h2 => by
    by_cases e : t = j
    · subst e; exact hl
    · exact h.hi t (by omega) h2⟩
theorem PartI.swap {a b i j : Nat} {d dk : Array Nat} (h : PartI a b d dk i j) (hij : i ≤ j) (hb : b ≤ dk.size) (h1 : ltN dk[i]! dk[a]! = false) (h2 : ltN dk[j]! dk[a]! = true) : i < j ∧ PartI a b d (swp dk i j) (i + 1) (j - 1) := by
  have ha := h.ai
  have hj := h.jb
  have hlt : i < j := by
    rcases Nat.lt_or_ge i j with q | q
    · exact q
    · obtain rfl : i = j := by omega
      rw [h1] at h2; cases h2
  have ea : (swp dk i j)[a]! = dk[a]! := swp_other dk i j a (by omega) (by omega)
  refine ⟨hlt, permIn_trans _ _ _ _ _ h.perm (swp_permIn dk a b i j (by omega) (by omega) (by omega) (by omega) hb), by omega, by omega, by omega, fun t q1 q2 => ?_, fun t q1 q2 => ?_⟩
  · rw [ea]
    by_cases e : t = i
    · subst e
      rw [swp_left dk t j (by omega) (by omega)]; exact h2
    · rw [swp_other dk i j t e (by omega)]; exact h.lo t q1 (by omega)
  · rw [ea]
    by_cases e : t = j
    · subst e
      rw [swp_right dk i t (by omega)]; exact h1
    · rw [swp_other dk i j t (by omega) e]; exact h.hi t (by omega) q2
/-- What a partition leaves. -/
structure PartE (a b : Nat) (d d' : Array Nat) (mid : Nat) : Prop where
  perm : PermIn a b d d'
  am : a ≤ mid
  mb : mid < b
  lo : ∀ t, a ≤ t → t < mid → ltN d'[t]! d'[mid]! = true
  hi : ∀ t, mid < t → t < b → ltN d'[t]! d'[mid]! = false
theorem PartI.done {a b i j : Nat} {d dk : Array Nat} (h : PartI a b d dk i j) (hij : ¬ i ≤ j) (hb : b ≤ dk.size) : a ≤ j ∧ PartE a b d (swp dk j a) j := by
  have ha := h.ai
  have hj := h.jb
  have hi := h.ij
  have ej : (swp dk j a)[j]! = dk[a]! := by
    by_cases e : j = a
    · subst e
      exact swp_right dk j j (by omega)
    · exact swp_left dk j a (by omega) e
  refine ⟨by omega, permIn_trans _ _ _ _ _ h.perm (swp_permIn dk a b j a (by omega) (by omega) (by omega) (by omega) hb), by omega, by omega, fun t q1 q2 => ?_, fun t q1 q2 => ?_⟩
  · rw [ej]
    by_cases e : t = a
    · subst e
      rw [swp_right dk j t (by omega)]; exact h.lo j (by omega) (by omega)
    · rw [swp_other dk j a t (by omega) e]; exact h.lo t (by omega) (by omega)
  · rw [ej, swp_other dk j a t (by omega) (by omega)]; exact h.hi t q1 q2
set_option maxRecDepth 100000 in
set_option maxHeartbeats 16000000 in
theorem ptnU_any (blk off len cap a b pv : Nat) (d : Array Nat) (hlen : d.size = len) (w : World) (hH : Holds encN w blk off d) (hap : a ≤ pv) (hpb : pv < b) (hb : b ≤ len) (hsz : len < 4611686018427387904) :
    Calls Tryz.prog 164 #[.slice (some ⟨blk, off, none⟩) len cap, .int .i64 a, .int .i64 b, .int .i64 pv] w fun e w' =>
      ∃ mid ap n d', e = .returned (.tuple #[.int .i64 (mid : Nat), .bool ap]) ∧ PartE a b d d' mid ∧ w' = putRow encN (Sort.ahead w n) blk off d' := by
  have HH := Lib.hid hH
  have HLN := Lib.hid hlen
  have HL := Lib.hid (fun x y w => lessU_any x y w)
  have hsk0 : ∀ dk i j, PartI a b d dk i j → dk.size = len := fun dk i j h => by rw [h.perm.1, hlen]
  have HSZ := Lib.hid hsk0
  have HW0 : Hid (w = putRow encN (Sort.ahead w 0) blk off d) := (putRow_self encN w blk off d hH).symm
  have hSP : PermIn a b d (swp d a pv) := swp_permIn d a b a pv (by omega) (by omega) hap hpb (by omega)
  have hPI : PartI a b d (swp d a pv) (a + 1) (b - 1) := ⟨hSP, by omega, by omega, by omega, fun t h1 h2 => by omega, fun t h1 h2 => by omega⟩
  have HPI := Lib.hid hPI
  obtain ⟨G, HG, hcw0, hfw0⟩ := row_fam hH
  have hcw : ∀ t, t < len → w.cell? ⟨blk, off + t, none⟩ = some (.int .u64 (G t : Int)) := fun t ht => hcw0 t (by rw [hlen]; exact ht)
  have hfw : ∀ t, t < len → w.frozen? ⟨blk, off + t, none⟩ = false := fun t ht => hfw0 t (by rw [hlen]; exact ht)
  clear hcw0 hfw0 hH hsk0 hlen hSP hPI
  go_enter Tryz.func164, Tryz.ntmps164
  go_upto_region 1 with fail
  go_cut [10] (fun _ wx => Hid (wx = putRow encN (Sort.ahead w (0 + 1)) blk off (swp d a pv)))
  case first =>
    rcases Nat.eq_or_lt_of_le hap with hpa | hpa
    ·
      subst hpa
      go_wp2_with fail
      go_region
      all_goals go_wp2_with fail
      have HW4 : Hid (((w.setCell ⟨blk, off + a, none⟩ (.int .u64 (G a : Int))).setCell ⟨blk, off + a, none⟩ (.int .u64 (G a : Int))).drew = putRow encN (Sort.ahead w (0 + 1)) blk off (swp d a a)) := by
        show _ = _
        simp only [HG.out]
        exact swap_put (w1 := w) HW0.out 1 (i := a) (j := a) (by rw [HLN.out]; omega) (by rw [HLN.out]; omega)
      go_meet
      exact HW4
    ·
      go_wp2_with fail
      go_region
      all_goals go_wp2_with fail
      have HW4 : Hid (((w.setCell ⟨blk, off + a, none⟩ (.int .u64 (G pv : Int))).setCell ⟨blk, off + pv, none⟩ (.int .u64 (G a : Int))).drew = putRow encN (Sort.ahead w (0 + 1)) blk off (swp d a pv)) := by
        show _ = _
        simp only [HG.out]
        exact swap_put (w1 := w) HW0.out 1 (i := a) (j := pv) (by rw [HLN.out]; omega) (by rw [HLN.out]; omega)
      go_meet
      exact HW4
  case rest =>
    have HW4 := Lib.hid hcut.out
    clear hcut
    obtain ⟨dk, hdk⟩ : ∃ dk, dk = swp d a pv := ⟨_, rfl⟩
    rw [← hdk] at HW4 HPI
    obtain ⟨j, hj⟩ : ∃ j, j = b - 1 := ⟨_, rfl⟩
    have HP : Hid (PartI a b d dk (a + 1) j) := by rw [hj]; exact HPI
    have HW := HW4
    have ej : ((b : Int) - 1) = (j : Int) := by omega
    clear hdk HPI hj HW0 HG hcw hfw
    go_wp2_with fail
    try rw [ej]
    clear ej
    go_loopw [10] (fun x wr => ∃ (i m : Nat), x = .int .i64 i ∧ (a + 1) ≤ i ∧ Hid (PartI a b d dk i j) ∧ Hid (wr = putRow encN (Sort.ahead w m) blk off dk)) (fun x _ => b + 1 - (intOf x).toNat)
    case atStart => exact ⟨a + 1, 0 + 1, by go_num, Nat.le_refl _, HP, HW⟩
    case round =>
      clear HP HW
      obtain ⟨i, m, rfl, hi0, HP, HW⟩ := hrel
      have hai := HP.out.ai
      have hij1 := HP.out.ij
      have hjb := HP.out.jb
      obtain ⟨G, HG, hcw0, hfw0⟩ := row_fam (put_cells HH.out HW.out (by rw [HSZ.out _ _ _ HP.out, HLN.out]))
      have hcw : ∀ t, t < len → wr.cell? ⟨blk, off + t, none⟩ = some (.int .u64 (G t : Int)) := fun t ht => hcw0 t (by rw [HSZ.out _ _ _ HP.out]; exact ht)
      have hfw : ∀ t, t < len → wr.frozen? ⟨blk, off + t, none⟩ = false := fun t ht => hfw0 t (by rw [HSZ.out _ _ _ HP.out]; exact ht)
      clear hcw0 hfw0
      by_cases hij : i ≤ j
      · have hij' : (i : Int) ≤ (j : Int) := by omega
        rcases Bool.eq_false_or_eq_true (ltN (G i) (G a)) with hl | hl
        ·
          have HL1 := Lib.hid hl
          have HC : Hid (∀ W, Calls Tryz.prog 162 #[.int .u64 (G i : Int), .int .u64 (G a : Int)] W fun e w' => e = .returned (.bool true) ∧ w' = W) := fun W => by rw [← hl]; exact HL.out _ _ W
          clear hl
          go_wp2_with fail
          go_quiet (first | (go_at_call 162; refine Calls.quiet_of_same (HC.out _)))
          go_wp2_with fail
          go_roundw
          case rel => exact ⟨i + 1, m + nq, by go_num, by omega, HP.out.up hij (by rw [← HG.out, ← HG.out]; exact HL1.out), draws_put HW.out nq⟩
          case measure => simp [intOf]; omega
        ·
          have HL1 := Lib.hid hl
          have HC : Hid (∀ W, Calls Tryz.prog 162 #[.int .u64 (G i : Int), .int .u64 (G a : Int)] W fun e w' => e = .returned (.bool false) ∧ w' = W) := fun W => by rw [← hl]; exact HL.out _ _ W
          clear hl
          have HU : Hid (∀ j', j' ≤ j → i ≤ j' → ltN dk[i]! dk[a]! = false) := fun _ _ _ => by rw [← HG.out, ← HG.out]; exact HL1.out
          go_wp2_with fail
          go_quiet (first | (go_at_call 162; refine Calls.quiet_of_same (HC.out _)))
          generalize hw2 : wr.drewN nq = wr2 at *
          have HW2 : Hid (wr2 = putRow encN (Sort.ahead w (m + nq)) blk off dk) := by rw [← hw2]; exact draws_put HW.out nq
          generalize m + nq = m2 at *
          clear hw2 hcw hfw HW HC HL1 HG
          go_wp2_with fail
          go_loopw [11] (fun y wr => ∃ (j' m : Nat), y = .int .i64 j' ∧ j' ≤ j ∧ Hid (PartI a b d dk i j') ∧ Hid (wr = putRow encN (Sort.ahead w m) blk off dk)) (fun y _ => (intOf y).toNat)
          case atStart => exact ⟨j, m2, rfl, Nat.le_refl _, HP, HW2⟩
          case round =>
            clear HP HW2 hij hij'
            obtain ⟨j', m, rfl, hjj, HP, HW⟩ := hrel
            have hij2 := HP.out.ij
            have hjb2 := HP.out.jb
            obtain ⟨G, HG, hcw0, hfw0⟩ := row_fam (put_cells HH.out HW.out (by rw [HSZ.out _ _ _ HP.out, HLN.out]))
            have hcw : ∀ t, t < len → wr.cell? ⟨blk, off + t, none⟩ = some (.int .u64 (G t : Int)) := fun t ht => hcw0 t (by rw [HSZ.out _ _ _ HP.out]; exact ht)
            have hfw : ∀ t, t < len → wr.frozen? ⟨blk, off + t, none⟩ = false := fun t ht => hfw0 t (by rw [HSZ.out _ _ _ HP.out]; exact ht)
            clear hcw0 hfw0
            by_cases hij : i ≤ j'
            · have hij' : (i : Int) ≤ (j' : Int) := by omega
              rcases Bool.eq_false_or_eq_true (ltN (G j') (G a)) with hl | hl
              ·
                have HL1 := Lib.hid hl
                have HC : Hid (∀ W, Calls Tryz.prog 162 #[.int .u64 (G j' : Int), .int .u64 (G a : Int)] W fun e w' => e = .returned (.bool true) ∧ w' = W) := fun W => by rw [← hl]; exact HL.out _ _ W
                clear hl
                go_wp2_with fail
                go_quiet (first | (go_at_call 162; refine Calls.quiet_of_same (HC.out _)))
                generalize hw2 : wr.drewN nq = wr2 at *
                have HW2 : Hid (wr2 = putRow encN (Sort.ahead w (m + nq)) blk off dk) := by rw [← hw2]; exact draws_put HW.out nq
                have hcw2 : ∀ t, t < len → wr2.cell? ⟨blk, off + t, none⟩ = some (.int .u64 (G t : Int)) := fun t ht => by rw [← hw2]; exact hcw t ht
                have hfw2 : ∀ t, t < len → wr2.frozen? ⟨blk, off + t, none⟩ = false := fun t ht => by rw [← hw2]; exact hfw t ht
                generalize m + nq = m3 at *
                have HSW := Lib.hid (HP.out.swap hij (by rw [HSZ.out _ _ _ HP.out]; exact hb) (HU.out j' hjj hij) (by rw [← HG.out, ← HG.out]; exact HL1.out))
                have hlt := HSW.out.1
                clear hw2 hcw hfw HW HC HL1 HU
                have hng : ¬ ((j' : Int) < (i : Int)) := by omega
                go_wp2_with fail
                go_region
                all_goals go_wp2_with fail
                have HW4 : Hid (((wr2.setCell ⟨blk, off + i, none⟩ (.int .u64 (G j' : Int))).setCell ⟨blk, off + j', none⟩ (.int .u64 (G i : Int))).drew = putRow encN (Sort.ahead w (m3 + 1)) blk off (swp dk i j')) := by
                  show _ = _
                  simp only [HG.out]
                  exact swap_put (w1 := wr2) HW2.out 1 (i := i) (j := j') (by rw [HSZ.out _ _ _ HP.out]; omega) (by rw [HSZ.out _ _ _ HP.out]; omega)
                go_loopw [10, 11] (fun x y wr => ∃ (i j m : Nat) (dk : Array Nat), x = .int .i64 i ∧ y = .int .i64 j ∧ Hid (PartI a b d dk i j) ∧ Hid (wr = putRow encN (Sort.ahead w m) blk off dk)) (fun x y _ => (intOf y - intOf x + 1).toNat)
                case atStart => exact ⟨i + 1, j' - 1, m3 + 1, swp dk i j', by go_num, by congr 1; omega, HSW.out.2, HW4⟩
                case round =>
                  clear HP HSW HW4 HW2 HG hcw2 hfw2 hij hij' hlt hai hij1 hjb hij2 hjb2 hjj hng hi0
                  obtain ⟨io, j, m, dk, rfl, rfl, HP, HW⟩ := hrel
                  go_wp2_with fail
                  go_loopw [10] (fun x wr => ∃ (i m : Nat), x = .int .i64 i ∧ io ≤ i ∧ Hid (PartI a b d dk i j) ∧ Hid (wr = putRow encN (Sort.ahead w m) blk off dk)) (fun x _ => b + 1 - (intOf x).toNat)
                  case atStart => exact ⟨io, m, rfl, Nat.le_refl _, HP, HW⟩
                  case round =>
                    clear HP HW
                    obtain ⟨i, m, rfl, hi0, HP, HW⟩ := hrel
                    have hai := HP.out.ai
                    have hij1 := HP.out.ij
                    have hjb := HP.out.jb
                    obtain ⟨G, HG, hcw0, hfw0⟩ := row_fam (put_cells HH.out HW.out (by rw [HSZ.out _ _ _ HP.out, HLN.out]))
                    have hcw : ∀ t, t < len → wr.cell? ⟨blk, off + t, none⟩ = some (.int .u64 (G t : Int)) := fun t ht => hcw0 t (by rw [HSZ.out _ _ _ HP.out]; exact ht)
                    have hfw : ∀ t, t < len → wr.frozen? ⟨blk, off + t, none⟩ = false := fun t ht => hfw0 t (by rw [HSZ.out _ _ _ HP.out]; exact ht)
                    clear hcw0 hfw0
                    by_cases hij : i ≤ j
                    · have hij' : (i : Int) ≤ (j : Int) := by omega
                      rcases Bool.eq_false_or_eq_true (ltN (G i) (G a)) with hl | hl
                      ·
                        have HL1 := Lib.hid hl
                        have HC : Hid (∀ W, Calls Tryz.prog 162 #[.int .u64 (G i : Int), .int .u64 (G a : Int)] W fun e w' => e = .returned (.bool true) ∧ w' = W) := fun W => by rw [← hl]; exact HL.out _ _ W
                        clear hl
                        go_wp2_with fail
                        go_quiet (first | (go_at_call 162; refine Calls.quiet_of_same (HC.out _)))
                        go_wp2_with fail
                        go_roundw
                        case rel => exact ⟨i + 1, m + nq, by go_num, by omega, HP.out.up hij (by rw [← HG.out, ← HG.out]; exact HL1.out), draws_put HW.out nq⟩
                        case measure => simp [intOf]; omega
                      ·
                        have HL1 := Lib.hid hl
                        have HC : Hid (∀ W, Calls Tryz.prog 162 #[.int .u64 (G i : Int), .int .u64 (G a : Int)] W fun e w' => e = .returned (.bool false) ∧ w' = W) := fun W => by rw [← hl]; exact HL.out _ _ W
                        clear hl
                        have HU : Hid (∀ j', j' ≤ j → i ≤ j' → ltN dk[i]! dk[a]! = false) := fun _ _ _ => by rw [← HG.out, ← HG.out]; exact HL1.out
                        go_wp2_with fail
                        go_quiet (first | (go_at_call 162; refine Calls.quiet_of_same (HC.out _)))
                        generalize hw2 : wr.drewN nq = wr2 at *
                        have HW2 : Hid (wr2 = putRow encN (Sort.ahead w (m + nq)) blk off dk) := by rw [← hw2]; exact draws_put HW.out nq
                        generalize m + nq = m2 at *
                        clear hw2 hcw hfw HW HC HL1 HG
                        go_wp2_with fail
                        go_loopw [11] (fun y wr => ∃ (j' m : Nat), y = .int .i64 j' ∧ j' ≤ j ∧ Hid (PartI a b d dk i j') ∧ Hid (wr = putRow encN (Sort.ahead w m) blk off dk)) (fun y _ => (intOf y).toNat)
                        case atStart => exact ⟨j, m2, rfl, Nat.le_refl _, HP, HW2⟩
                        case round =>
                          clear HP HW2 hij hij'
                          obtain ⟨j', m, rfl, hjj, HP, HW⟩ := hrel
                          have hij2 := HP.out.ij
                          have hjb2 := HP.out.jb
                          obtain ⟨G, HG, hcw0, hfw0⟩ := row_fam (put_cells HH.out HW.out (by rw [HSZ.out _ _ _ HP.out, HLN.out]))
                          have hcw : ∀ t, t < len → wr.cell? ⟨blk, off + t, none⟩ = some (.int .u64 (G t : Int)) := fun t ht => hcw0 t (by rw [HSZ.out _ _ _ HP.out]; exact ht)
                          have hfw : ∀ t, t < len → wr.frozen? ⟨blk, off + t, none⟩ = false := fun t ht => hfw0 t (by rw [HSZ.out _ _ _ HP.out]; exact ht)
                          clear hcw0 hfw0
                          by_cases hij : i ≤ j'
                          · have hij' : (i : Int) ≤ (j' : Int) := by omega
                            rcases Bool.eq_false_or_eq_true (ltN (G j') (G a)) with hl | hl
                            ·
                              have HL1 := Lib.hid hl
                              have HC : Hid (∀ W, Calls Tryz.prog 162 #[.int .u64 (G j' : Int), .int .u64 (G a : Int)] W fun e w' => e = .returned (.bool true) ∧ w' = W) := fun W => by rw [← hl]; exact HL.out _ _ W
                              clear hl
                              go_wp2_with fail
                              go_quiet (first | (go_at_call 162; refine Calls.quiet_of_same (HC.out _)))
                              generalize hw2 : wr.drewN nq = wr2 at *
                              have HW2 : Hid (wr2 = putRow encN (Sort.ahead w (m + nq)) blk off dk) := by rw [← hw2]; exact draws_put HW.out nq
                              have hcw2 : ∀ t, t < len → wr2.cell? ⟨blk, off + t, none⟩ = some (.int .u64 (G t : Int)) := fun t ht => by rw [← hw2]; exact hcw t ht
                              have hfw2 : ∀ t, t < len → wr2.frozen? ⟨blk, off + t, none⟩ = false := fun t ht => by rw [← hw2]; exact hfw t ht
                              generalize m + nq = m3 at *
                              have HSW := Lib.hid (HP.out.swap hij (by rw [HSZ.out _ _ _ HP.out]; exact hb) (HU.out j' hjj hij) (by rw [← HG.out, ← HG.out]; exact HL1.out))
                              have hlt := HSW.out.1
                              clear hw2 hcw hfw HW HC HL1 HU
                              have hng : ¬ ((j' : Int) < (i : Int)) := by omega
                              go_wp2_with fail
                              go_region
                              all_goals go_wp2_with fail
                              have HW4 : Hid (((wr2.setCell ⟨blk, off + i, none⟩ (.int .u64 (G j' : Int))).setCell ⟨blk, off + j', none⟩ (.int .u64 (G i : Int))).drew = putRow encN (Sort.ahead w (m3 + 1)) blk off (swp dk i j')) := by
                                show _ = _
                                simp only [HG.out]
                                exact swap_put (w1 := wr2) HW2.out 1 (i := i) (j := j') (by rw [HSZ.out _ _ _ HP.out]; omega) (by rw [HSZ.out _ _ _ HP.out]; omega)
                              go_roundw
                              case rel => exact ⟨i + 1, j' - 1, m3 + 1, swp dk i j', by go_num, by congr 1; omega, HSW.out.2, HW4⟩
                              case measure => simp [intOf]; omega
                            ·
                              have HL1 := Lib.hid hl
                              have HC : Hid (∀ W, Calls Tryz.prog 162 #[.int .u64 (G j' : Int), .int .u64 (G a : Int)] W fun e w' => e = .returned (.bool false) ∧ w' = W) := fun W => by rw [← hl]; exact HL.out _ _ W
                              clear hl
                              go_wp2_with fail
                              go_quiet (first | (go_at_call 162; refine Calls.quiet_of_same (HC.out _)))
                              go_wp2_with fail
                              go_roundw
                              case rel => exact ⟨j' - 1, m + nq, by congr 1; omega, by omega, HP.out.down hij (by rw [← HG.out, ← HG.out]; exact HL1.out), draws_put HW.out nq⟩
                              case measure => simp [intOf]; omega
                          · have hij' : ¬ ((i : Int) ≤ (j' : Int)) := by omega
                            have hng : (j' : Int) < (i : Int) := by omega
                            have HDN := Lib.hid (HP.out.done hij (by rw [HSZ.out _ _ _ HP.out]; exact hb))
                            have haj := HDN.out.1
                            go_wp2_with fail
                            go_quiet (fail)
                            generalize hw2 : wr.drewN nq = wr2 at *
                            have HW2 : Hid (wr2 = putRow encN (Sort.ahead w (m + nq)) blk off dk) := by rw [← hw2]; exact draws_put HW.out nq
                            have hcw2 : ∀ t, t < len → wr2.cell? ⟨blk, off + t, none⟩ = some (.int .u64 (G t : Int)) := fun t ht => by rw [← hw2]; exact hcw t ht
                            have hfw2 : ∀ t, t < len → wr2.frozen? ⟨blk, off + t, none⟩ = false := fun t ht => by rw [← hw2]; exact hfw t ht
                            generalize m + nq = m3 at *
                            clear hw2 hcw hfw HW HU
                            rcases Nat.eq_or_lt_of_le haj with hja | hja
                            ·
                              have hja2 := hja
                              subst hja2
                              go_wp2_with fail
                              go_region
                              all_goals go_wp2_with fail
                              have HW4 : Hid (((wr2.setCell ⟨blk, off + a, none⟩ (.int .u64 (G a : Int))).setCell ⟨blk, off + a, none⟩ (.int .u64 (G a : Int))).drew = putRow encN (Sort.ahead w (m3 + 1)) blk off (swp dk a a)) := by
                                show _ = _
                                simp only [HG.out]
                                exact swap_put (w1 := wr2) HW2.out 1 (i := a) (j := a) (by rw [HSZ.out _ _ _ HP.out]; omega) (by rw [HSZ.out _ _ _ HP.out]; omega)
                              go_ret2
                              exact ⟨a, false, m3 + 1, _, rfl, HDN.out.2, HW4.out⟩
                            ·
                              go_wp2_with fail
                              go_region
                              all_goals go_wp2_with fail
                              have HW4 : Hid (((wr2.setCell ⟨blk, off + j', none⟩ (.int .u64 (G a : Int))).setCell ⟨blk, off + a, none⟩ (.int .u64 (G j' : Int))).drew = putRow encN (Sort.ahead w (m3 + 1)) blk off (swp dk j' a)) := by
                                show _ = _
                                simp only [HG.out]
                                exact swap_put (w1 := wr2) HW2.out 1 (i := j') (j := a) (by rw [HSZ.out _ _ _ HP.out]; omega) (by rw [HSZ.out _ _ _ HP.out]; omega)
                              go_ret2
                              exact ⟨j', false, m3 + 1, _, rfl, HDN.out.2, HW4.out⟩
                    · have hij' : ¬ ((i : Int) ≤ (j : Int)) := by omega
                      have HU : Hid (∀ j', j' ≤ j → i ≤ j' → ltN dk[i]! dk[a]! = false) := fun j' h1 h2 => by omega
                      go_wp2_with fail
                      go_quiet (fail)
                      generalize hw2 : wr.drewN nq = wr2 at *
                      have HW2 : Hid (wr2 = putRow encN (Sort.ahead w (m + nq)) blk off dk) := by rw [← hw2]; exact draws_put HW.out nq
                      generalize m + nq = m2 at *
                      clear hw2 hcw hfw HW HG
                      go_wp2_with fail
                      go_loopw [11] (fun y wr => ∃ (j' m : Nat), y = .int .i64 j' ∧ j' ≤ j ∧ Hid (PartI a b d dk i j') ∧ Hid (wr = putRow encN (Sort.ahead w m) blk off dk)) (fun y _ => (intOf y).toNat)
                      case atStart => exact ⟨j, m2, rfl, Nat.le_refl _, HP, HW2⟩
                      case round =>
                        clear HP HW2 hij hij'
                        obtain ⟨j', m, rfl, hjj, HP, HW⟩ := hrel
                        have hij2 := HP.out.ij
                        have hjb2 := HP.out.jb
                        obtain ⟨G, HG, hcw0, hfw0⟩ := row_fam (put_cells HH.out HW.out (by rw [HSZ.out _ _ _ HP.out, HLN.out]))
                        have hcw : ∀ t, t < len → wr.cell? ⟨blk, off + t, none⟩ = some (.int .u64 (G t : Int)) := fun t ht => hcw0 t (by rw [HSZ.out _ _ _ HP.out]; exact ht)
                        have hfw : ∀ t, t < len → wr.frozen? ⟨blk, off + t, none⟩ = false := fun t ht => hfw0 t (by rw [HSZ.out _ _ _ HP.out]; exact ht)
                        clear hcw0 hfw0
                        by_cases hij : i ≤ j'
                        · have hij' : (i : Int) ≤ (j' : Int) := by omega
                          rcases Bool.eq_false_or_eq_true (ltN (G j') (G a)) with hl | hl
                          ·
                            have HL1 := Lib.hid hl
                            have HC : Hid (∀ W, Calls Tryz.prog 162 #[.int .u64 (G j' : Int), .int .u64 (G a : Int)] W fun e w' => e = .returned (.bool true) ∧ w' = W) := fun W => by rw [← hl]; exact HL.out _ _ W
                            clear hl
                            go_wp2_with fail
                            go_quiet (first | (go_at_call 162; refine Calls.quiet_of_same (HC.out _)))
                            generalize hw2 : wr.drewN nq = wr2 at *
                            have HW2 : Hid (wr2 = putRow encN (Sort.ahead w (m + nq)) blk off dk) := by rw [← hw2]; exact draws_put HW.out nq
                            have hcw2 : ∀ t, t < len → wr2.cell? ⟨blk, off + t, none⟩ = some (.int .u64 (G t : Int)) := fun t ht => by rw [← hw2]; exact hcw t ht
                            have hfw2 : ∀ t, t < len → wr2.frozen? ⟨blk, off + t, none⟩ = false := fun t ht => by rw [← hw2]; exact hfw t ht
                            generalize m + nq = m3 at *
                            have HSW := Lib.hid (HP.out.swap hij (by rw [HSZ.out _ _ _ HP.out]; exact hb) (HU.out j' hjj hij) (by rw [← HG.out, ← HG.out]; exact HL1.out))
                            have hlt := HSW.out.1
                            clear hw2 hcw hfw HW HC HL1 HU
                            have hng : ¬ ((j' : Int) < (i : Int)) := by omega
                            go_wp2_with fail
                            go_region
                            all_goals go_wp2_with fail
                            have HW4 : Hid (((wr2.setCell ⟨blk, off + i, none⟩ (.int .u64 (G j' : Int))).setCell ⟨blk, off + j', none⟩ (.int .u64 (G i : Int))).drew = putRow encN (Sort.ahead w (m3 + 1)) blk off (swp dk i j')) := by
                              show _ = _
                              simp only [HG.out]
                              exact swap_put (w1 := wr2) HW2.out 1 (i := i) (j := j') (by rw [HSZ.out _ _ _ HP.out]; omega) (by rw [HSZ.out _ _ _ HP.out]; omega)
                            go_roundw
                            case rel => exact ⟨i + 1, j' - 1, m3 + 1, swp dk i j', by go_num, by congr 1; omega, HSW.out.2, HW4⟩
                            case measure => simp [intOf]; omega
                          ·
                            have HL1 := Lib.hid hl
                            have HC : Hid (∀ W, Calls Tryz.prog 162 #[.int .u64 (G j' : Int), .int .u64 (G a : Int)] W fun e w' => e = .returned (.bool false) ∧ w' = W) := fun W => by rw [← hl]; exact HL.out _ _ W
                            clear hl
                            go_wp2_with fail
                            go_quiet (first | (go_at_call 162; refine Calls.quiet_of_same (HC.out _)))
                            go_wp2_with fail
                            go_roundw
                            case rel => exact ⟨j' - 1, m + nq, by congr 1; omega, by omega, HP.out.down hij (by rw [← HG.out, ← HG.out]; exact HL1.out), draws_put HW.out nq⟩
                            case measure => simp [intOf]; omega
                        · have hij' : ¬ ((i : Int) ≤ (j' : Int)) := by omega
                          have hng : (j' : Int) < (i : Int) := by omega
                          have HDN := Lib.hid (HP.out.done hij (by rw [HSZ.out _ _ _ HP.out]; exact hb))
                          have haj := HDN.out.1
                          go_wp2_with fail
                          go_quiet (fail)
                          generalize hw2 : wr.drewN nq = wr2 at *
                          have HW2 : Hid (wr2 = putRow encN (Sort.ahead w (m + nq)) blk off dk) := by rw [← hw2]; exact draws_put HW.out nq
                          have hcw2 : ∀ t, t < len → wr2.cell? ⟨blk, off + t, none⟩ = some (.int .u64 (G t : Int)) := fun t ht => by rw [← hw2]; exact hcw t ht
                          have hfw2 : ∀ t, t < len → wr2.frozen? ⟨blk, off + t, none⟩ = false := fun t ht => by rw [← hw2]; exact hfw t ht
                          generalize m + nq = m3 at *
                          clear hw2 hcw hfw HW HU
                          rcases Nat.eq_or_lt_of_le haj with hja | hja
                          ·
                            have hja2 := hja
                            subst hja2
                            go_wp2_with fail
                            go_region
                            all_goals go_wp2_with fail
                            have HW4 : Hid (((wr2.setCell ⟨blk, off + a, none⟩ (.int .u64 (G a : Int))).setCell ⟨blk, off + a, none⟩ (.int .u64 (G a : Int))).drew = putRow encN (Sort.ahead w (m3 + 1)) blk off (swp dk a a)) := by
                              show _ = _
                              simp only [HG.out]
                              exact swap_put (w1 := wr2) HW2.out 1 (i := a) (j := a) (by rw [HSZ.out _ _ _ HP.out]; omega) (by rw [HSZ.out _ _ _ HP.out]; omega)
                            go_ret2
                            exact ⟨a, false, m3 + 1, _, rfl, HDN.out.2, HW4.out⟩
                          ·
                            go_wp2_with fail
                            go_region
                            all_goals go_wp2_with fail
                            have HW4 : Hid (((wr2.setCell ⟨blk, off + j', none⟩ (.int .u64 (G a : Int))).setCell ⟨blk, off + a, none⟩ (.int .u64 (G j' : Int))).drew = putRow encN (Sort.ahead w (m3 + 1)) blk off (swp dk j' a)) := by
                              show _ = _
                              simp only [HG.out]
                              exact swap_put (w1 := wr2) HW2.out 1 (i := j') (j := a) (by rw [HSZ.out _ _ _ HP.out]; omega) (by rw [HSZ.out _ _ _ HP.out]; omega)
                            go_ret2
                            exact ⟨j', false, m3 + 1, _, rfl, HDN.out.2, HW4.out⟩
              ·
                have HL1 := Lib.hid hl
                have HC : Hid (∀ W, Calls Tryz.prog 162 #[.int .u64 (G j' : Int), .int .u64 (G a : Int)] W fun e w' => e = .returned (.bool false) ∧ w' = W) := fun W => by rw [← hl]; exact HL.out _ _ W
                clear hl
                go_wp2_with fail
                go_quiet (first | (go_at_call 162; refine Calls.quiet_of_same (HC.out _)))
                go_wp2_with fail
                go_roundw
                case rel => exact ⟨j' - 1, m + nq, by congr 1; omega, by omega, HP.out.down hij (by rw [← HG.out, ← HG.out]; exact HL1.out), draws_put HW.out nq⟩
                case measure => simp [intOf]; omega
            · have hij' : ¬ ((i : Int) ≤ (j' : Int)) := by omega
              have hng : (j' : Int) < (i : Int) := by omega
              have HDN := Lib.hid (HP.out.done hij (by rw [HSZ.out _ _ _ HP.out]; exact hb))
              have haj := HDN.out.1
              go_wp2_with fail
              go_quiet (fail)
              generalize hw2 : wr.drewN nq = wr2 at *
              have HW2 : Hid (wr2 = putRow encN (Sort.ahead w (m + nq)) blk off dk) := by rw [← hw2]; exact draws_put HW.out nq
              have hcw2 : ∀ t, t < len → wr2.cell? ⟨blk, off + t, none⟩ = some (.int .u64 (G t : Int)) := fun t ht => by rw [← hw2]; exact hcw t ht
              have hfw2 : ∀ t, t < len → wr2.frozen? ⟨blk, off + t, none⟩ = false := fun t ht => by rw [← hw2]; exact hfw t ht
              generalize m + nq = m3 at *
              clear hw2 hcw hfw HW HU
              rcases Nat.eq_or_lt_of_le haj with hja | hja
              ·
                have hja2 := hja
                subst hja2
                go_wp2_with fail
                go_region
                all_goals go_wp2_with fail
                have HW4 : Hid (((wr2.setCell ⟨blk, off + a, none⟩ (.int .u64 (G a : Int))).setCell ⟨blk, off + a, none⟩ (.int .u64 (G a : Int))).drew = putRow encN (Sort.ahead w (m3 + 1)) blk off (swp dk a a)) := by
                  show _ = _
                  simp only [HG.out]
                  exact swap_put (w1 := wr2) HW2.out 1 (i := a) (j := a) (by rw [HSZ.out _ _ _ HP.out]; omega) (by rw [HSZ.out _ _ _ HP.out]; omega)
                go_ret2
                exact ⟨a, true, m3 + 1, _, rfl, HDN.out.2, HW4.out⟩
              ·
                go_wp2_with fail
                go_region
                all_goals go_wp2_with fail
                have HW4 : Hid (((wr2.setCell ⟨blk, off + j', none⟩ (.int .u64 (G a : Int))).setCell ⟨blk, off + a, none⟩ (.int .u64 (G j' : Int))).drew = putRow encN (Sort.ahead w (m3 + 1)) blk off (swp dk j' a)) := by
                  show _ = _
                  simp only [HG.out]
                  exact swap_put (w1 := wr2) HW2.out 1 (i := j') (j := a) (by rw [HSZ.out _ _ _ HP.out]; omega) (by rw [HSZ.out _ _ _ HP.out]; omega)
                go_ret2
                exact ⟨j', true, m3 + 1, _, rfl, HDN.out.2, HW4.out⟩
      · have hij' : ¬ ((i : Int) ≤ (j : Int)) := by omega
        have HU : Hid (∀ j', j' ≤ j → i ≤ j' → ltN dk[i]! dk[a]! = false) := fun j' h1 h2 => by omega
        go_wp2_with fail
        go_quiet (fail)
        generalize hw2 : wr.drewN nq = wr2 at *
        have HW2 : Hid (wr2 = putRow encN (Sort.ahead w (m + nq)) blk off dk) := by rw [← hw2]; exact draws_put HW.out nq
        generalize m + nq = m2 at *
        clear hw2 hcw hfw HW HG
        go_wp2_with fail
        go_loopw [11] (fun y wr => ∃ (j' m : Nat), y = .int .i64 j' ∧ j' ≤ j ∧ Hid (PartI a b d dk i j') ∧ Hid (wr = putRow encN (Sort.ahead w m) blk off dk)) (fun y _ => (intOf y).toNat)
        case atStart => exact ⟨j, m2, rfl, Nat.le_refl _, HP, HW2⟩
        case round =>
          clear HP HW2 hij hij'
          obtain ⟨j', m, rfl, hjj, HP, HW⟩ := hrel
          have hij2 := HP.out.ij
          have hjb2 := HP.out.jb
          obtain ⟨G, HG, hcw0, hfw0⟩ := row_fam (put_cells HH.out HW.out (by rw [HSZ.out _ _ _ HP.out, HLN.out]))
          have hcw : ∀ t, t < len → wr.cell? ⟨blk, off + t, none⟩ = some (.int .u64 (G t : Int)) := fun t ht => hcw0 t (by rw [HSZ.out _ _ _ HP.out]; exact ht)
          have hfw : ∀ t, t < len → wr.frozen? ⟨blk, off + t, none⟩ = false := fun t ht => hfw0 t (by rw [HSZ.out _ _ _ HP.out]; exact ht)
          clear hcw0 hfw0
          by_cases hij : i ≤ j'
          · have hij' : (i : Int) ≤ (j' : Int) := by omega
            rcases Bool.eq_false_or_eq_true (ltN (G j') (G a)) with hl | hl
            ·
              have HL1 := Lib.hid hl
              have HC : Hid (∀ W, Calls Tryz.prog 162 #[.int .u64 (G j' : Int), .int .u64 (G a : Int)] W fun e w' => e = .returned (.bool true) ∧ w' = W) := fun W => by rw [← hl]; exact HL.out _ _ W
              clear hl
              go_wp2_with fail
              go_quiet (first | (go_at_call 162; refine Calls.quiet_of_same (HC.out _)))
              generalize hw2 : wr.drewN nq = wr2 at *
              have HW2 : Hid (wr2 = putRow encN (Sort.ahead w (m + nq)) blk off dk) := by rw [← hw2]; exact draws_put HW.out nq
              have hcw2 : ∀ t, t < len → wr2.cell? ⟨blk, off + t, none⟩ = some (.int .u64 (G t : Int)) := fun t ht => by rw [← hw2]; exact hcw t ht
              have hfw2 : ∀ t, t < len → wr2.frozen? ⟨blk, off + t, none⟩ = false := fun t ht => by rw [← hw2]; exact hfw t ht
              generalize m + nq = m3 at *
              have HSW := Lib.hid (HP.out.swap hij (by rw [HSZ.out _ _ _ HP.out]; exact hb) (HU.out j' hjj hij) (by rw [← HG.out, ← HG.out]; exact HL1.out))
              have hlt := HSW.out.1
              clear hw2 hcw hfw HW HC HL1 HU
              have hng : ¬ ((j' : Int) < (i : Int)) := by omega
              go_wp2_with fail
              go_region
              all_goals go_wp2_with fail
              have HW4 : Hid (((wr2.setCell ⟨blk, off + i, none⟩ (.int .u64 (G j' : Int))).setCell ⟨blk, off + j', none⟩ (.int .u64 (G i : Int))).drew = putRow encN (Sort.ahead w (m3 + 1)) blk off (swp dk i j')) := by
                show _ = _
                simp only [HG.out]
                exact swap_put (w1 := wr2) HW2.out 1 (i := i) (j := j') (by rw [HSZ.out _ _ _ HP.out]; omega) (by rw [HSZ.out _ _ _ HP.out]; omega)
              go_loopw [10, 11] (fun x y wr => ∃ (i j m : Nat) (dk : Array Nat), x = .int .i64 i ∧ y = .int .i64 j ∧ Hid (PartI a b d dk i j) ∧ Hid (wr = putRow encN (Sort.ahead w m) blk off dk)) (fun x y _ => (intOf y - intOf x + 1).toNat)
              case atStart => exact ⟨i + 1, j' - 1, m3 + 1, swp dk i j', by go_num, by congr 1; omega, HSW.out.2, HW4⟩
              case round =>
                clear HP HSW HW4 HW2 HG hcw2 hfw2 hij hij' hlt hai hij1 hjb hij2 hjb2 hjj hng hi0
                obtain ⟨io, j, m, dk, rfl, rfl, HP, HW⟩ := hrel
                go_wp2_with fail
                go_loopw [10] (fun x wr => ∃ (i m : Nat), x = .int .i64 i ∧ io ≤ i ∧ Hid (PartI a b d dk i j) ∧ Hid (wr = putRow encN (Sort.ahead w m) blk off dk)) (fun x _ => b + 1 - (intOf x).toNat)
                case atStart => exact ⟨io, m, rfl, Nat.le_refl _, HP, HW⟩
                case round =>
                  clear HP HW
                  obtain ⟨i, m, rfl, hi0, HP, HW⟩ := hrel
                  have hai := HP.out.ai
                  have hij1 := HP.out.ij
                  have hjb := HP.out.jb
                  obtain ⟨G, HG, hcw0, hfw0⟩ := row_fam (put_cells HH.out HW.out (by rw [HSZ.out _ _ _ HP.out, HLN.out]))
                  have hcw : ∀ t, t < len → wr.cell? ⟨blk, off + t, none⟩ = some (.int .u64 (G t : Int)) := fun t ht => hcw0 t (by rw [HSZ.out _ _ _ HP.out]; exact ht)
                  have hfw : ∀ t, t < len → wr.frozen? ⟨blk, off + t, none⟩ = false := fun t ht => hfw0 t (by rw [HSZ.out _ _ _ HP.out]; exact ht)
                  clear hcw0 hfw0
                  by_cases hij : i ≤ j
                  · have hij' : (i : Int) ≤ (j : Int) := by omega
                    rcases Bool.eq_false_or_eq_true (ltN (G i) (G a)) with hl | hl
                    ·
                      have HL1 := Lib.hid hl
                      have HC : Hid (∀ W, Calls Tryz.prog 162 #[.int .u64 (G i : Int), .int .u64 (G a : Int)] W fun e w' => e = .returned (.bool true) ∧ w' = W) := fun W => by rw [← hl]; exact HL.out _ _ W
                      clear hl
                      go_wp2_with fail
                      go_quiet (first | (go_at_call 162; refine Calls.quiet_of_same (HC.out _)))
                      go_wp2_with fail
                      go_roundw
                      case rel => exact ⟨i + 1, m + nq, by go_num, by omega, HP.out.up hij (by rw [← HG.out, ← HG.out]; exact HL1.out), draws_put HW.out nq⟩
                      case measure => simp [intOf]; omega
                    ·
                      have HL1 := Lib.hid hl
                      have HC : Hid (∀ W, Calls Tryz.prog 162 #[.int .u64 (G i : Int), .int .u64 (G a : Int)] W fun e w' => e = .returned (.bool false) ∧ w' = W) := fun W => by rw [← hl]; exact HL.out _ _ W
                      clear hl
                      have HU : Hid (∀ j', j' ≤ j → i ≤ j' → ltN dk[i]! dk[a]! = false) := fun _ _ _ => by rw [← HG.out, ← HG.out]; exact HL1.out
                      go_wp2_with fail
                      go_quiet (first | (go_at_call 162; refine Calls.quiet_of_same (HC.out _)))
                      generalize hw2 : wr.drewN nq = wr2 at *
                      have HW2 : Hid (wr2 = putRow encN (Sort.ahead w (m + nq)) blk off dk) := by rw [← hw2]; exact draws_put HW.out nq
                      generalize m + nq = m2 at *
                      clear hw2 hcw hfw HW HC HL1 HG
                      go_wp2_with fail
                      go_loopw [11] (fun y wr => ∃ (j' m : Nat), y = .int .i64 j' ∧ j' ≤ j ∧ Hid (PartI a b d dk i j') ∧ Hid (wr = putRow encN (Sort.ahead w m) blk off dk)) (fun y _ => (intOf y).toNat)
                      case atStart => exact ⟨j, m2, rfl, Nat.le_refl _, HP, HW2⟩
                      case round =>
                        clear HP HW2 hij hij'
                        obtain ⟨j', m, rfl, hjj, HP, HW⟩ := hrel
                        have hij2 := HP.out.ij
                        have hjb2 := HP.out.jb
                        obtain ⟨G, HG, hcw0, hfw0⟩ := row_fam (put_cells HH.out HW.out (by rw [HSZ.out _ _ _ HP.out, HLN.out]))
                        have hcw : ∀ t, t < len → wr.cell? ⟨blk, off + t, none⟩ = some (.int .u64 (G t : Int)) := fun t ht => hcw0 t (by rw [HSZ.out _ _ _ HP.out]; exact ht)
                        have hfw : ∀ t, t < len → wr.frozen? ⟨blk, off + t, none⟩ = false := fun t ht => hfw0 t (by rw [HSZ.out _ _ _ HP.out]; exact ht)
                        clear hcw0 hfw0
                        by_cases hij : i ≤ j'
                        · have hij' : (i : Int) ≤ (j' : Int) := by omega
                          rcases Bool.eq_false_or_eq_true (ltN (G j') (G a)) with hl | hl
                          ·
                            have HL1 := Lib.hid hl
                            have HC : Hid (∀ W, Calls Tryz.prog 162 #[.int .u64 (G j' : Int), .int .u64 (G a : Int)] W fun e w' => e = .returned (.bool true) ∧ w' = W) := fun W => by rw [← hl]; exact HL.out _ _ W
                            clear hl
                            go_wp2_with fail
                            go_quiet (first | (go_at_call 162; refine Calls.quiet_of_same (HC.out _)))
                            generalize hw2 : wr.drewN nq = wr2 at *
                            have HW2 : Hid (wr2 = putRow encN (Sort.ahead w (m + nq)) blk off dk) := by rw [← hw2]; exact draws_put HW.out nq
                            have hcw2 : ∀ t, t < len → wr2.cell? ⟨blk, off + t, none⟩ = some (.int .u64 (G t : Int)) := fun t ht => by rw [← hw2]; exact hcw t ht
                            have hfw2 : ∀ t, t < len → wr2.frozen? ⟨blk, off + t, none⟩ = false := fun t ht => by rw [← hw2]; exact hfw t ht
                            generalize m + nq = m3 at *
                            have HSW := Lib.hid (HP.out.swap hij (by rw [HSZ.out _ _ _ HP.out]; exact hb) (HU.out j' hjj hij) (by rw [← HG.out, ← HG.out]; exact HL1.out))
                            have hlt := HSW.out.1
                            clear hw2 hcw hfw HW HC HL1 HU
                            have hng : ¬ ((j' : Int) < (i : Int)) := by omega
                            go_wp2_with fail
                            go_region
                            all_goals go_wp2_with fail
                            have HW4 : Hid (((wr2.setCell ⟨blk, off + i, none⟩ (.int .u64 (G j' : Int))).setCell ⟨blk, off + j', none⟩ (.int .u64 (G i : Int))).drew = putRow encN (Sort.ahead w (m3 + 1)) blk off (swp dk i j')) := by
                              show _ = _
                              simp only [HG.out]
                              exact swap_put (w1 := wr2) HW2.out 1 (i := i) (j := j') (by rw [HSZ.out _ _ _ HP.out]; omega) (by rw [HSZ.out _ _ _ HP.out]; omega)
                            go_roundw
                            case rel => exact ⟨i + 1, j' - 1, m3 + 1, swp dk i j', by go_num, by congr 1; omega, HSW.out.2, HW4⟩
                            case measure => simp [intOf]; omega
                          ·
                            have HL1 := Lib.hid hl
                            have HC : Hid (∀ W, Calls Tryz.prog 162 #[.int .u64 (G j' : Int), .int .u64 (G a : Int)] W fun e w' => e = .returned (.bool false) ∧ w' = W) := fun W => by rw [← hl]; exact HL.out _ _ W
                            clear hl
                            go_wp2_with fail
                            go_quiet (first | (go_at_call 162; refine Calls.quiet_of_same (HC.out _)))
                            go_wp2_with fail
                            go_roundw
                            case rel => exact ⟨j' - 1, m + nq, by congr 1; omega, by omega, HP.out.down hij (by rw [← HG.out, ← HG.out]; exact HL1.out), draws_put HW.out nq⟩
                            case measure => simp [intOf]; omega
                        · have hij' : ¬ ((i : Int) ≤ (j' : Int)) := by omega
                          have hng : (j' : Int) < (i : Int) := by omega
                          have HDN := Lib.hid (HP.out.done hij (by rw [HSZ.out _ _ _ HP.out]; exact hb))
                          have haj := HDN.out.1
                          go_wp2_with fail
                          go_quiet (fail)
                          generalize hw2 : wr.drewN nq = wr2 at *
                          have HW2 : Hid (wr2 = putRow encN (Sort.ahead w (m + nq)) blk off dk) := by rw [← hw2]; exact draws_put HW.out nq
                          have hcw2 : ∀ t, t < len → wr2.cell? ⟨blk, off + t, none⟩ = some (.int .u64 (G t : Int)) := fun t ht => by rw [← hw2]; exact hcw t ht
                          have hfw2 : ∀ t, t < len → wr2.frozen? ⟨blk, off + t, none⟩ = false := fun t ht => by rw [← hw2]; exact hfw t ht
                          generalize m + nq = m3 at *
                          clear hw2 hcw hfw HW HU
                          rcases Nat.eq_or_lt_of_le haj with hja | hja
                          ·
                            have hja2 := hja
                            subst hja2
                            go_wp2_with fail
                            go_region
                            all_goals go_wp2_with fail
                            have HW4 : Hid (((wr2.setCell ⟨blk, off + a, none⟩ (.int .u64 (G a : Int))).setCell ⟨blk, off + a, none⟩ (.int .u64 (G a : Int))).drew = putRow encN (Sort.ahead w (m3 + 1)) blk off (swp dk a a)) := by
                              show _ = _
                              simp only [HG.out]
                              exact swap_put (w1 := wr2) HW2.out 1 (i := a) (j := a) (by rw [HSZ.out _ _ _ HP.out]; omega) (by rw [HSZ.out _ _ _ HP.out]; omega)
                            go_ret2
                            exact ⟨a, false, m3 + 1, _, rfl, HDN.out.2, HW4.out⟩
                          ·
                            go_wp2_with fail
                            go_region
                            all_goals go_wp2_with fail
                            have HW4 : Hid (((wr2.setCell ⟨blk, off + j', none⟩ (.int .u64 (G a : Int))).setCell ⟨blk, off + a, none⟩ (.int .u64 (G j' : Int))).drew = putRow encN (Sort.ahead w (m3 + 1)) blk off (swp dk j' a)) := by
                              show _ = _
                              simp only [HG.out]
                              exact swap_put (w1 := wr2) HW2.out 1 (i := j') (j := a) (by rw [HSZ.out _ _ _ HP.out]; omega) (by rw [HSZ.out _ _ _ HP.out]; omega)
                            go_ret2
                            exact ⟨j', false, m3 + 1, _, rfl, HDN.out.2, HW4.out⟩
                  · have hij' : ¬ ((i : Int) ≤ (j : Int)) := by omega
                    have HU : Hid (∀ j', j' ≤ j → i ≤ j' → ltN dk[i]! dk[a]! = false) := fun j' h1 h2 => by omega
                    go_wp2_with fail
                    go_quiet (fail)
                    generalize hw2 : wr.drewN nq = wr2 at *
                    have HW2 : Hid (wr2 = putRow encN (Sort.ahead w (m + nq)) blk off dk) := by rw [← hw2]; exact draws_put HW.out nq
                    generalize m + nq = m2 at *
                    clear hw2 hcw hfw HW HG
                    go_wp2_with fail
                    go_loopw [11] (fun y wr => ∃ (j' m : Nat), y = .int .i64 j' ∧ j' ≤ j ∧ Hid (PartI a b d dk i j') ∧ Hid (wr = putRow encN (Sort.ahead w m) blk off dk)) (fun y _ => (intOf y).toNat)
                    case atStart => exact ⟨j, m2, rfl, Nat.le_refl _, HP, HW2⟩
                    case round =>
                      clear HP HW2 hij hij'
                      obtain ⟨j', m, rfl, hjj, HP, HW⟩ := hrel
                      have hij2 := HP.out.ij
                      have hjb2 := HP.out.jb
                      obtain ⟨G, HG, hcw0, hfw0⟩ := row_fam (put_cells HH.out HW.out (by rw [HSZ.out _ _ _ HP.out, HLN.out]))
                      have hcw : ∀ t, t < len → wr.cell? ⟨blk, off + t, none⟩ = some (.int .u64 (G t : Int)) := fun t ht => hcw0 t (by rw [HSZ.out _ _ _ HP.out]; exact ht)
                      have hfw : ∀ t, t < len → wr.frozen? ⟨blk, off + t, none⟩ = false := fun t ht => hfw0 t (by rw [HSZ.out _ _ _ HP.out]; exact ht)
                      clear hcw0 hfw0
                      by_cases hij : i ≤ j'
                      · have hij' : (i : Int) ≤ (j' : Int) := by omega
                        rcases Bool.eq_false_or_eq_true (ltN (G j') (G a)) with hl | hl
                        ·
                          have HL1 := Lib.hid hl
                          have HC : Hid (∀ W, Calls Tryz.prog 162 #[.int .u64 (G j' : Int), .int .u64 (G a : Int)] W fun e w' => e = .returned (.bool true) ∧ w' = W) := fun W => by rw [← hl]; exact HL.out _ _ W
                          clear hl
                          go_wp2_with fail
                          go_quiet (first | (go_at_call 162; refine Calls.quiet_of_same (HC.out _)))
                          generalize hw2 : wr.drewN nq = wr2 at *
                          have HW2 : Hid (wr2 = putRow encN (Sort.ahead w (m + nq)) blk off dk) := by rw [← hw2]; exact draws_put HW.out nq
                          have hcw2 : ∀ t, t < len → wr2.cell? ⟨blk, off + t, none⟩ = some (.int .u64 (G t : Int)) := fun t ht => by rw [← hw2]; exact hcw t ht
                          have hfw2 : ∀ t, t < len → wr2.frozen? ⟨blk, off + t, none⟩ = false := fun t ht => by rw [← hw2]; exact hfw t ht
                          generalize m + nq = m3 at *
                          have HSW := Lib.hid (HP.out.swap hij (by rw [HSZ.out _ _ _ HP.out]; exact hb) (HU.out j' hjj hij) (by rw [← HG.out, ← HG.out]; exact HL1.out))
                          have hlt := HSW.out.1
                          clear hw2 hcw hfw HW HC HL1 HU
                          have hng : ¬ ((j' : Int) < (i : Int)) := by omega
                          go_wp2_with fail
                          go_region
                          all_goals go_wp2_with fail
                          have HW4 : Hid (((wr2.setCell ⟨blk, off + i, none⟩ (.int .u64 (G j' : Int))).setCell ⟨blk, off + j', none⟩ (.int .u64 (G i : Int))).drew = putRow encN (Sort.ahead w (m3 + 1)) blk off (swp dk i j')) := by
                            show _ = _
                            simp only [HG.out]
                            exact swap_put (w1 := wr2) HW2.out 1 (i := i) (j := j') (by rw [HSZ.out _ _ _ HP.out]; omega) (by rw [HSZ.out _ _ _ HP.out]; omega)
                          go_roundw
                          case rel => exact ⟨i + 1, j' - 1, m3 + 1, swp dk i j', by go_num, by congr 1; omega, HSW.out.2, HW4⟩
                          case measure => simp [intOf]; omega
                        ·
                          have HL1 := Lib.hid hl
                          have HC : Hid (∀ W, Calls Tryz.prog 162 #[.int .u64 (G j' : Int), .int .u64 (G a : Int)] W fun e w' => e = .returned (.bool false) ∧ w' = W) := fun W => by rw [← hl]; exact HL.out _ _ W
                          clear hl
                          go_wp2_with fail
                          go_quiet (first | (go_at_call 162; refine Calls.quiet_of_same (HC.out _)))
                          go_wp2_with fail
                          go_roundw
                          case rel => exact ⟨j' - 1, m + nq, by congr 1; omega, by omega, HP.out.down hij (by rw [← HG.out, ← HG.out]; exact HL1.out), draws_put HW.out nq⟩
                          case measure => simp [intOf]; omega
                      · have hij' : ¬ ((i : Int) ≤ (j' : Int)) := by omega
                        have hng : (j' : Int) < (i : Int) := by omega
                        have HDN := Lib.hid (HP.out.done hij (by rw [HSZ.out _ _ _ HP.out]; exact hb))
                        have haj := HDN.out.1
                        go_wp2_with fail
                        go_quiet (fail)
                        generalize hw2 : wr.drewN nq = wr2 at *
                        have HW2 : Hid (wr2 = putRow encN (Sort.ahead w (m + nq)) blk off dk) := by rw [← hw2]; exact draws_put HW.out nq
                        have hcw2 : ∀ t, t < len → wr2.cell? ⟨blk, off + t, none⟩ = some (.int .u64 (G t : Int)) := fun t ht => by rw [← hw2]; exact hcw t ht
                        have hfw2 : ∀ t, t < len → wr2.frozen? ⟨blk, off + t, none⟩ = false := fun t ht => by rw [← hw2]; exact hfw t ht
                        generalize m + nq = m3 at *
                        clear hw2 hcw hfw HW HU
                        rcases Nat.eq_or_lt_of_le haj with hja | hja
                        ·
                          have hja2 := hja
                          subst hja2
                          go_wp2_with fail
                          go_region
                          all_goals go_wp2_with fail
                          have HW4 : Hid (((wr2.setCell ⟨blk, off + a, none⟩ (.int .u64 (G a : Int))).setCell ⟨blk, off + a, none⟩ (.int .u64 (G a : Int))).drew = putRow encN (Sort.ahead w (m3 + 1)) blk off (swp dk a a)) := by
                            show _ = _
                            simp only [HG.out]
                            exact swap_put (w1 := wr2) HW2.out 1 (i := a) (j := a) (by rw [HSZ.out _ _ _ HP.out]; omega) (by rw [HSZ.out _ _ _ HP.out]; omega)
                          go_ret2
                          exact ⟨a, false, m3 + 1, _, rfl, HDN.out.2, HW4.out⟩
                        ·
                          go_wp2_with fail
                          go_region
                          all_goals go_wp2_with fail
                          have HW4 : Hid (((wr2.setCell ⟨blk, off + j', none⟩ (.int .u64 (G a : Int))).setCell ⟨blk, off + a, none⟩ (.int .u64 (G j' : Int))).drew = putRow encN (Sort.ahead w (m3 + 1)) blk off (swp dk j' a)) := by
                            show _ = _
                            simp only [HG.out]
                            exact swap_put (w1 := wr2) HW2.out 1 (i := j') (j := a) (by rw [HSZ.out _ _ _ HP.out]; omega) (by rw [HSZ.out _ _ _ HP.out]; omega)
                          go_ret2
                          exact ⟨j', false, m3 + 1, _, rfl, HDN.out.2, HW4.out⟩
            ·
              have HL1 := Lib.hid hl
              have HC : Hid (∀ W, Calls Tryz.prog 162 #[.int .u64 (G j' : Int), .int .u64 (G a : Int)] W fun e w' => e = .returned (.bool false) ∧ w' = W) := fun W => by rw [← hl]; exact HL.out _ _ W
              clear hl
              go_wp2_with fail
              go_quiet (first | (go_at_call 162; refine Calls.quiet_of_same (HC.out _)))
              go_wp2_with fail
              go_roundw
              case rel => exact ⟨j' - 1, m + nq, by congr 1; omega, by omega, HP.out.down hij (by rw [← HG.out, ← HG.out]; exact HL1.out), draws_put HW.out nq⟩
              case measure => simp [intOf]; omega
          · have hij' : ¬ ((i : Int) ≤ (j' : Int)) := by omega
            have hng : (j' : Int) < (i : Int) := by omega
            have HDN := Lib.hid (HP.out.done hij (by rw [HSZ.out _ _ _ HP.out]; exact hb))
            have haj := HDN.out.1
            go_wp2_with fail
            go_quiet (fail)
            generalize hw2 : wr.drewN nq = wr2 at *
            have HW2 : Hid (wr2 = putRow encN (Sort.ahead w (m + nq)) blk off dk) := by rw [← hw2]; exact draws_put HW.out nq
            have hcw2 : ∀ t, t < len → wr2.cell? ⟨blk, off + t, none⟩ = some (.int .u64 (G t : Int)) := fun t ht => by rw [← hw2]; exact hcw t ht
            have hfw2 : ∀ t, t < len → wr2.frozen? ⟨blk, off + t, none⟩ = false := fun t ht => by rw [← hw2]; exact hfw t ht
            generalize m + nq = m3 at *
            clear hw2 hcw hfw HW HU
            rcases Nat.eq_or_lt_of_le haj with hja | hja
            ·
              have hja2 := hja
              subst hja2
              go_wp2_with fail
              go_region
              all_goals go_wp2_with fail
              have HW4 : Hid (((wr2.setCell ⟨blk, off + a, none⟩ (.int .u64 (G a : Int))).setCell ⟨blk, off + a, none⟩ (.int .u64 (G a : Int))).drew = putRow encN (Sort.ahead w (m3 + 1)) blk off (swp dk a a)) := by
                show _ = _
                simp only [HG.out]
                exact swap_put (w1 := wr2) HW2.out 1 (i := a) (j := a) (by rw [HSZ.out _ _ _ HP.out]; omega) (by rw [HSZ.out _ _ _ HP.out]; omega)
              go_ret2
              exact ⟨a, true, m3 + 1, _, rfl, HDN.out.2, HW4.out⟩
            ·
              go_wp2_with fail
              go_region
              all_goals go_wp2_with fail
              have HW4 : Hid (((wr2.setCell ⟨blk, off + j', none⟩ (.int .u64 (G a : Int))).setCell ⟨blk, off + a, none⟩ (.int .u64 (G j' : Int))).drew = putRow encN (Sort.ahead w (m3 + 1)) blk off (swp dk j' a)) := by
                show _ = _
                simp only [HG.out]
                exact swap_put (w1 := wr2) HW2.out 1 (i := j') (j := a) (by rw [HSZ.out _ _ _ HP.out]; omega) (by rw [HSZ.out _ _ _ HP.out]; omega)
              go_ret2
              exact ⟨j', true, m3 + 1, _, rfl, HDN.out.2, HW4.out⟩
end Go.Proofs.YtfgkjofdgohacaaGreatDoor
