/- glotto.Ultra and the reference's: whether distances are those of a clock. -/
import Derived.Test.YtahgffjkkdbjeaaDoorP1
import Derived.Test.YtahgffjkkdbjeaaDoorW3
import Derived.Test.YtahgffjkkdbjeaaDoorW4
namespace Go.Proofs.YtahgffjkkdbjeaaDoor
open Go.RowKit
def UlPost (w : World) (n : Int) (d : List Fr) (e : Ending) (w' : World) : Prop := e = .returned (.tuple #[.bool (ultraS n d).1, .int .i64 (ultraS n d).2]) ∧ Below w.heap.size w w'
theorem ul_post {w w' : World} {n : Int} {d : List Fr} {b : Bool} {k : Int} (h : ultraS n d = (b, k)) (hb : Below w.heap.size w w') : UlPost w n d (.returned (.tuple #[.bool b, .int .i64 k])) w' := ⟨by rw [h], hb⟩
theorem ul_err {n : Int} {d : List Fr} {k : Int} (h : scaledS n d = .error k) : ultraS n d = (false, k) := by rw [ultraS, h]
theorem ul_no {n : Nat} {d : List Fr} {c : Nat} (h : scaledS n d = .ok c) {a b x : Nat} (ha : a < n) (hb : b < n) (hx : x < n) (hn : ¬ dist d c n a b ≤ max (dist d c n a x) (dist d c n b x)) : ultraS n d = (false, 0) := by
  rw [ultraS, h]
  exact Prod.ext (decide_eq_false fun hu => hn (hu a ha b hb x hx)) rfl
theorem ul_yes {n : Nat} {d : List Fr} {c : Nat} (h : scaledS n d = .ok c) (hu : UltraP d c n) : ultraS n d = (true, 0) := by
  rw [ultraS, h]
  exact Prod.ext (decide_eq_true hu) rfl
theorem scaled_err_ne {n : Int} {d : List Fr} {k : Int} (h : scaledS n d = .error k) : (k != 0) = true := by
  rw [scaledS] at h
  repeat' split at h
  all_goals (first | (cases h; rfl) | (cases h))

set_option maxRecDepth 100000 in
set_option maxHeartbeats 2000000 in
theorem ultra_any (a : Option Addr) (n : Int) (N c : Nat) (d : List Fr) (w : World) (hn1 : -9223372036854775808 ≤ n) (hn2 : n ≤ 9223372036854775807) (hd : d.length = N) (hN : N ≤ 1152921504606846976) (hA : Rd w a (fl encFr d)) (hok : FitFr d) :
    Calls Tryd.prog 15 #[.int .i64 n, .slice a N c] w (UlPost w n d) := by
  have HD := Lib.hid hd
  clear hd
  go_enter Tryd.func15, Tryd.ntmps15
  go_wp2_with fail
  refine (scaled_any a n N c d w hn1 hn2 HD.out hN hA hok).mono ?_
  rintro e w1 ⟨hb1, ⟨k, hk, rfl⟩ | ⟨m, cm, B, g, rfl, hm1, hm2, hl, hs, rfl, hB, hblk, hg⟩⟩
  · have hs := Lib.hid (ul_err hk)
    have hk0 := scaled_err_ne hk
    clear hk
    go_wp2_with fail
    go_ret2
    exact ul_post hs.out hb1
  · have HG := Lib.hid hg
    have HS := Lib.hid hs
    have HL := Lib.hid hl
    have hle : Hid (∀ i j, i < m → j < m → g (i * 24 + j) = dist d cm m i j ∧ dist d cm m i j ≤ 1073741824) := fun i j hi hj => ⟨hg i j hi hj, dist_le hs hok hi hj⟩
    clear hg hs hl
    go_wp2_with fail
    go_loopw [21, 8, 9, 25, 10, 29] (fun x _ _ _ _ _ wr => ∃ i : Nat, i ≤ m ∧ x = .int .i64 i ∧ Hid (∀ a, a < i → ∀ b, b < a → ∀ x, x < m → dist d cm m a b ≤ max (dist d cm m a x) (dist d cm m b x)) ∧ ∃ nq, wr = w1.drewN nq) (fun x _ _ _ _ _ _ => m - (intOf x).toNat)
    case atStart => exact ⟨0, by omega, rfl, fun a h => absurd h (by omega), 0, rfl⟩
    case round =>
      obtain ⟨i, hi, rfl, h1, nq1, rfl⟩ := hrel
      by_cases hlt : i < m
      · go_wp2_with fail
        go_loopw [25, 9, 10, 29] (fun x _ _ _ wr => ∃ j : Nat, j ≤ i ∧ x = .int .i64 j ∧ Hid (∀ b, b < j → ∀ x, x < m → dist d cm m i b ≤ max (dist d cm m i x) (dist d cm m b x)) ∧ ∃ nq, wr = w1.drewN nq) (fun x _ _ _ _ => i - (intOf x).toNat)
        case atStart => exact ⟨0, by omega, rfl, fun a h => absurd h (by omega), nq1, rfl⟩
        case round =>
          obtain ⟨j, hj, rfl, h2, nq2, rfl⟩ := hrel
          by_cases hjt : j < i
          · go_wp2_with fail
            go_loopw [29, 10] (fun x _ wr => ∃ l : Nat, l ≤ m ∧ x = .int .i64 l ∧ Hid (∀ x, x < l → dist d cm m i j ≤ max (dist d cm m i x) (dist d cm m j x)) ∧ ∃ nq, wr = w1.drewN nq) (fun x _ _ => m - (intOf x).toNat)
            case atStart => exact ⟨0, by omega, rfl, fun a h => absurd h (by omega), nq2, rfl⟩
            case round =>
              obtain ⟨l, hl, rfl, h3, nq3, rfl⟩ := hrel
              by_cases hlt3 : l < m
              · obtain ⟨g1, b1⟩ := hle.out i j hlt (by omega)
                obtain ⟨g2, b2⟩ := hle.out i l hlt hlt3
                obtain ⟨g3, b3⟩ := hle.out j l (by omega) hlt3
                have e1 := hblk.getF (2 + i * 24 + j) (by omega)
                have e2 := hblk.getF (2 + i * 24 + l) (by omega)
                have e3 := hblk.getF (2 + j * 24 + l) (by omega)
                have d1 : dg m cm g (2 + i * 24 + j) = .int .i64 (dist d cm m i j) := by rw [← g1, dg, if_neg (by omega), if_neg (by omega), show 2 + i * 24 + j - 2 = i * 24 + j by omega]
                have d2 : dg m cm g (2 + i * 24 + l) = .int .i64 (dist d cm m i l) := by rw [← g2, dg, if_neg (by omega), if_neg (by omega), show 2 + i * 24 + l - 2 = i * 24 + l by omega]
                have d3 : dg m cm g (2 + j * 24 + l) = .int .i64 (dist d cm m j l) := by rw [← g3, dg, if_neg (by omega), if_neg (by omega), show 2 + j * 24 + l - 2 = j * 24 + l by omega]
                rw [d1] at e1
                rw [d2] at e2
                rw [d3] at e3
                clear g1 g2 g3 d1 d2 d3
                obtain ⟨x1, hx1⟩ : ∃ x, x = dist d cm m i j := ⟨_, rfl⟩
                obtain ⟨x2, hx2⟩ : ∃ x, x = dist d cm m i l := ⟨_, rfl⟩
                obtain ⟨x3, hx3⟩ : ∃ x, x = dist d cm m j l := ⟨_, rfl⟩
                rw [← hx1] at e1 b1
                rw [← hx2] at e2 b2
                rw [← hx3] at e3 b3
                have HX := Lib.hid (And.intro hx1 (And.intro hx2 hx3))
                clear hx1 hx2 hx3
                by_cases hc : x1 ≤ max x2 x3
                · have h4 : Hid (∀ x, x < l + 1 → dist d cm m i j ≤ max (dist d cm m i x) (dist d cm m j x)) := fun x hx => by
                    by_cases e : x = l
                    · rw [e, ← HX.out.1, ← HX.out.2.1, ← HX.out.2.2]; exact hc
                    · exact h3.out x (by omega)
                  by_cases hm : x2 < x3
                  all_goals
                    have hc2 : x1 ≤ x2 ∨ x1 ≤ x3 := by omega
                    first
                      | have hc3 : ¬ (x3 < x1) := by omega
                      | have hc3 : ¬ (x2 < x1) := by omega
                    clear hc hc2
                    go_wp2_with fail
                    go_quiet (fail)
                    go_wp2_with fail
                    go_roundw
                    case rel => exact ⟨l + 1, by omega, by go_num, h4, _, rfl⟩
                    case measure => simp [intOf]; omega
                · have hs := Lib.hid (ul_no HS.out hlt (show j < m by omega) hlt3 (by rw [← HX.out.1, ← HX.out.2.1, ← HX.out.2.2]; exact hc))
                  by_cases hm : x2 < x3
                  all_goals
                    have hc3 : x3 < x1 := by omega
                    have hc4 : x2 < x1 := by omega
                    clear hc
                    go_wp2_with fail
                    go_quiet (fail)
                    go_wp2_with fail
                    go_ret2
                    exact ul_post hs.out (bl_drewN (bl_drewN hb1 _) _)
              · go_wp2_with fail
                go_roundw
                case rel => exact ⟨j + 1, by omega, by go_num, fun b hb x hx => by
                    by_cases e : b = j
                    · rw [e]; exact h3.out x (by omega)
                    · exact h2.out b (by omega) x hx, nq3, rfl⟩
                case measure => simp [intOf]; omega
          · go_wp2_with fail
            go_roundw
            case rel => exact ⟨i + 1, by omega, by go_num, fun a ha b hb x hx => by
                by_cases e : a = i
                · rw [e]; exact h2.out b (by omega) x hx
                · exact h1.out a (by omega) b hb x hx, nq2, rfl⟩
            case measure => simp [intOf]; omega
      · go_wp2_with fail
        go_ret2
        have : i = m := by omega
        subst this
        exact ul_post (ul_yes HS.out (ultra_of_low (scaled_ok_parts HS.out).2.2.2.2.1 h1.out)) (bl_drewN hb1 _)

theorem scK_cells {w : World} {base : Nat} {a : Option Addr} {cap m : Nat} {d : List Fr} {c : Nat} (h : w.ownsRow base 2 1 (.slice a (m * m) cap) (m * m) (fl encI ((List.range (m * m)).map fun k => (scK d c k : Int)))) (hm : 1 ≤ m) :
    ∃ g o, a = some ⟨g, o, none⟩ ∧ g < w.heap.size ∧ ∀ k, k < m * m → w.cell? ⟨g, o + k, none⟩ = some (.int .i64 (scK d c k)) := by
  have hl : ((List.range (m * m)).map fun k => (scK d c k : Int)).length = m * m := by simp
  have h1 : 0 < m * m := Nat.mul_pos hm hm
  obtain ⟨b, o, e, hb, hc⟩ := rdI (rd_of_owns h) (by rw [hl]; exact h1)
  refine ⟨b, o, e, hb, fun k hk => ?_⟩
  rw [hc k (by rw [hl]; exact hk)]
  simp [iA, hk]
set_option maxRecDepth 100000 in
set_option maxHeartbeats 4000000 in
theorem rultra_any (a : Option Addr) (n : Int) (N c : Nat) (d : List Fr) (w : World) (hn1 : -9223372036854775808 ≤ n) (hn2 : n ≤ 9223372036854775807) (hd : d.length = N) (hN : N ≤ 1152921504606846976) (hA : Rd w a (fl encFr d)) (hok : FitFr d) :
    Calls Tryd.prog 16 #[.int .i64 n, .slice a N c] w (UlPost w n d) := by
  have HD := Lib.hid hd
  clear hd
  go_enter Tryd.func16, Tryd.ntmps16
  go_wp2_with fail
  refine (rscaled_any a n N c d w hn1 hn2 HD.out hN hA hok).mono ?_
  rintro e w1 ⟨hb1, ⟨k, hk, rfl⟩ | ⟨m, cm, v, rfl, hm1, hm2, hl, hs, rfl, hown⟩⟩
  · have hs := Lib.hid (ul_err hk)
    have hk0 := scaled_err_ne hk
    clear hk
    go_wp2_with fail
    go_ret2
    exact ul_post hs.out hb1
  · have HS := Lib.hid hs
    obtain ⟨ga, gcap, rfl, _⟩ := owns_slice hown
    obtain ⟨g, o, rfl, hgl, hcell⟩ := scK_cells hown hm1
    have hmm : m * m ≤ 576 := by have := Nat.mul_le_mul hm2 hm2; omega
    have hle : Hid (∀ i j, i < m → j < m → w1.cell? ⟨g, o + (i * m + j), none⟩ = some (.int .i64 (dist d cm m i j)) ∧ dist d cm m i j ≤ 1073741824) := fun i j hi hj => ⟨hcell _ (idx_lt rfl hi hj), dist_le hs hok hi hj⟩
    clear hcell hs hl hown
    obtain ⟨M, hM⟩ : ∃ M, M = m * m := ⟨_, rfl⟩
    rw [← hM] at hmm ⊢
    have HM := Lib.hid hM.symm
    clear hM
    go_wp2_with fail
    go_loopw [9, 10, 11] (fun x _ _ wr => ∃ i : Nat, i ≤ m ∧ x = .int .i64 i ∧ Hid (∀ a, a < i → ∀ b, b < m → ∀ x, x < m → dist d cm m a b ≤ max (dist d cm m a x) (dist d cm m b x)) ∧ ∃ nq, wr = w1.drewN nq) (fun x _ _ _ => m - (intOf x).toNat)
    case atStart => exact ⟨0, by omega, rfl, fun a h => absurd h (by omega), 0, rfl⟩
    case round =>
      obtain ⟨i, hi, rfl, h1, nq1, rfl⟩ := hrel
      by_cases hlt : i < m
      · go_wp2_with fail
        go_loopw [10, 11] (fun x _ wr => ∃ j : Nat, j ≤ m ∧ x = .int .i64 j ∧ Hid (∀ b, b < j → ∀ x, x < m → dist d cm m i b ≤ max (dist d cm m i x) (dist d cm m b x)) ∧ ∃ nq, wr = w1.drewN nq) (fun x _ _ => m - (intOf x).toNat)
        case atStart => exact ⟨0, by omega, rfl, fun a h => absurd h (by omega), nq1, rfl⟩
        case round =>
          obtain ⟨j, hj, rfl, h2, nq2, rfl⟩ := hrel
          by_cases hjt : j < m
          · go_wp2_with fail
            go_loopw [11] (fun x wr => ∃ l : Nat, l ≤ m ∧ x = .int .i64 l ∧ Hid (∀ x, x < l → dist d cm m i j ≤ max (dist d cm m i x) (dist d cm m j x)) ∧ ∃ nq, wr = w1.drewN nq) (fun x _ => m - (intOf x).toNat)
            case atStart => exact ⟨0, by omega, rfl, fun a h => absurd h (by omega), nq2, rfl⟩
            case round =>
              obtain ⟨l, hl, rfl, h3, nq3, rfl⟩ := hrel
              by_cases hlt3 : l < m
              · obtain ⟨e1, b1⟩ := hle.out i j hlt hjt
                obtain ⟨e2, b2⟩ := hle.out i l hlt hlt3
                obtain ⟨e3, b3⟩ := hle.out j l hjt hlt3
                obtain ⟨m1, m2, k1, _, hm1', hm2', hk1, _, c1, _⟩ := idx_two (n := m) (N := M) (a := i) (b := j) HM.out (by omega) (by omega) (by omega)
                obtain ⟨k2, hk2⟩ : ∃ k, m1 + l = k := ⟨_, rfl⟩
                obtain ⟨k3, hk3⟩ : ∃ k, m2 + l = k := ⟨_, rfl⟩
                have c2 : k2 < M := by rw [← hk2, ← hm1']; exact idx_lt HM.out hlt hlt3
                have c3 : k3 < M := by rw [← hk3, ← hm2']; exact idx_lt HM.out hjt hlt3
                rw [hm1', hk1] at e1
                rw [hm1', hk2] at e2
                rw [hm2', hk3] at e3
                have w1 := wrap_nat ((i : Int) * (m : Int)) m1 (by rw [← hm1']; simp) (by omega)
                have w2 := wrap_nat ((j : Int) * (m : Int)) m2 (by rw [← hm2']; simp) (by omega)
                have w3 := wrap_nat ((m1 : Int) + (j : Int)) k1 (by omega) (by omega)
                have w4 := wrap_nat ((m1 : Int) + (l : Int)) k2 (by omega) (by omega)
                have w5 := wrap_nat ((m2 : Int) + (l : Int)) k3 (by omega) (by omega)
                clear hm1' hm2' hk1 hk2 hk3
                obtain ⟨x1, hx1⟩ : ∃ x, x = dist d cm m i j := ⟨_, rfl⟩
                obtain ⟨x2, hx2⟩ : ∃ x, x = dist d cm m i l := ⟨_, rfl⟩
                obtain ⟨x3, hx3⟩ : ∃ x, x = dist d cm m j l := ⟨_, rfl⟩
                rw [← hx1] at e1 b1
                rw [← hx2] at e2 b2
                rw [← hx3] at e3 b3
                have HX := Lib.hid (And.intro hx1 (And.intro hx2 hx3))
                clear hx1 hx2 hx3
                by_cases hc : x1 ≤ max x2 x3
                · have h4 : Hid (∀ x, x < l + 1 → dist d cm m i j ≤ max (dist d cm m i x) (dist d cm m j x)) := fun x hx => by
                    by_cases e : x = l
                    · rw [e, ← HX.out.1, ← HX.out.2.1, ← HX.out.2.2]; exact hc
                    · exact h3.out x (by omega)
                  by_cases hm : x2 < x3
                  all_goals
                    have hc2 : x1 ≤ x2 ∨ x1 ≤ x3 := by omega
                    first
                      | have hc3 : ¬ (x3 < x1) := by omega
                      | have hc3 : ¬ (x2 < x1) := by omega
                    clear hc hc2
                    go_wp2_with fail
                    go_quiet (fail)
                    go_wp2_with fail
                    go_roundw
                    case rel => exact ⟨l + 1, by omega, by go_num, h4, _, rfl⟩
                    case measure => simp [intOf]; omega
                · have hs := Lib.hid (ul_no HS.out hlt hjt hlt3 (by rw [← HX.out.1, ← HX.out.2.1, ← HX.out.2.2]; exact hc))
                  by_cases hm : x2 < x3
                  all_goals
                    have hc3 : x3 < x1 := by omega
                    have hc4 : x2 < x1 := by omega
                    clear hc
                    go_wp2_with fail
                    go_quiet (fail)
                    go_wp2_with fail
                    go_ret2
                    exact ul_post hs.out (bl_drewN (bl_drewN hb1 _) _)
              · go_wp2_with fail
                go_roundw
                case rel => exact ⟨j + 1, by omega, by go_num, fun b hb x hx => by
                    by_cases e : b = j
                    · rw [e]; exact h3.out x (by omega)
                    · exact h2.out b (by omega) x hx, nq3, rfl⟩
                case measure => simp [intOf]; omega
          · go_wp2_with fail
            go_roundw
            case rel => exact ⟨i + 1, by omega, by go_num, fun a ha b hb x hx => by
                by_cases e : a = i
                · rw [e]; exact h2.out b (by omega) x hx
                · exact h1.out a (by omega) b hb x hx, nq2, rfl⟩
            case measure => simp [intOf]; omega
      · go_wp2_with fail
        go_ret2
        have : i = m := by omega
        subst this
        exact ul_post (ul_yes HS.out h1.out) (bl_drewN hb1 _)
end Go.Proofs.YtahgffjkkdbjeaaDoor
