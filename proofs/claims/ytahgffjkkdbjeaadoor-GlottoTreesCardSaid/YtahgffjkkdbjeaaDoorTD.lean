/- The law of Tree: the library's and the document's answers are one. -/
import Derived.Test.YtahgffjkkdbjeaaDoorTC
import Derived.Test.YtahgffjkkdbjeaaDoorJD
import Derived.Test.YtahgffjkkdbjeaaDoorZE
namespace Go.Proofs.YtahgffjkkdbjeaaDoor
open Go.RowKit
/-- What Joined says, as one answer for every world. -/
theorem jn_ans (n : Int) (l : List Mg) : ∃ (k : Int) (f : List Fr) (M : Nat), Hid (f.length = M) ∧ M ≤ 576 ∧ ∀ w e w', JnPost w n l e w' → ∃ a' c', e = .returned (.tuple #[.slice a' M c', .int .i64 k]) ∧ Rd w' a' (fl encFr f) ∧ Below w.heap.size w w' := by
  rcases hs : joinE n l with k | m
  · refine ⟨k, [], 0, rfl, by omega, fun w e w' h => ?_⟩
    obtain ⟨hb, ⟨k', h1, rfl⟩ | ⟨m', v, h0, h1, rfl, h3⟩⟩ := h
    · rw [hs] at h1; cases h1
      exact ⟨none, 0, rfl, Rd.nil _ _, hb⟩
    · rw [hs] at h1; cases h1
  · have hm : m ≤ 24 := by
      unfold joinE at hs
      split at hs
      · cases hs
      · split at hs
        · cases hs; omega
        · cases hs
    have h9 : m * m ≤ 24 * 24 := Nat.mul_le_mul hm hm
    refine ⟨0, jnL l (m - 1) m, m * m, jnL_len _ _ _, by omega, fun w e w' h => ?_⟩
    obtain ⟨hb, ⟨k', h1, rfl⟩ | ⟨m', v, h0, h1, rfl, h3⟩⟩ := h
    · rw [hs] at h1; cases h1
    · rw [hs] at h1; cases h1
      obtain ⟨a', c', rfl, _⟩ := owns_slice h3
      exact ⟨a', c', rfl, rd_of_owns h3, hb⟩
theorem treeL_short (n : Int) (names : List ByteArray) (l : List Mg) : (treeL n names l).length ≤ 33554432 := by
  unfold treeL
  split
  · have := plantL_len (nmOf names) (belK l l.length) 25 (-1) (nowK l l.length 0) 0
    omega
  · simp
/-- The bytes of the first names. -/
def sumS (names : List ByteArray) : Nat → Nat
  | 0 => 0
  | k + 1 => sumS names k + (sA names k).size
theorem sumS_le {names : List ByteArray} {m : Nat} (h : ∀ i, i < m → (sA names i).size ≤ 140737488355328) : ∀ k, k ≤ m → sumS names k ≤ k * 140737488355328
  | 0, _ => by simp [sumS]
  | k + 1, hk => by
    have h1 := sumS_le h k (by omega)
    have h2 := h k (by omega)
    show sumS names k + (sA names k).size ≤ _
    omega
set_option maxRecDepth 100000 in
set_option maxHeartbeats 1000000 in
/-- The law at more than 100 names. -/
theorem trlaw_long (n : Int) (m c1 N c2 : Nat) (na la : Option Addr) (names : List ByteArray) (w : World) (hm : names.length = m) (hmx : m ≤ 1152921504606846976) (hn : Rd w na (fl encS names)) (h100 : 100 < m) :
    Calls Tryd.prog 10 #[.int .i64 n, .slice na m c1, .slice la N c2] w fun e w' => e = .returned (.bool true) ∧ Below w.heap.size w w' := by
  have HM := Lib.hid hm
  have HNA := Lib.hid hn
  have hq : decide (100 < (m : Int)) = true := by simp; omega
  clear hm hn
  go_enter Tryd.func10, Tryd.ntmps10
  go_wp2_with fail
  go_loopw [20, 9, 7] (fun x _ y wr => ∃ (k : Nat) (s : Int), k ≤ m ∧ x = .int .i64 k ∧ y = .int .i64 s ∧ Below w.heap.size w wr) (fun x _ _ _ => m - (intOf x).toNat)
  case atStart => exact ⟨0, 0, by omega, rfl, rfl, Below.refl _ _⟩
  case round =>
    obtain ⟨k, s, hk, rfl, rfl, hbl⟩ := hrel
    by_cases hlt : k < m
    · obtain ⟨b1, o1, rfl, _, hc1⟩ := rdS (HNA.out.bl hbl) (by rw [HM.out]; omega)
      have G1 := hc1 k (by rw [HM.out]; omega)
      clear hc1
      generalize sA names k = sx at *
      go_wp2_with fail
      go_roundw
      case rel => exact ⟨k + 1, _, by omega, by go_num, rfl, hbl⟩
      case measure => simp [intOf]; omega
    · go_wp2_with fail
      refine (works_any _).mono ?_
      rintro e w12 ⟨rfl, hb12⟩
      have HB12 := Lib.hid (bl_trans hbl hb12)
      clear hb12 hbl
      go_wp2_with fail
      go_ret
      exact ⟨rfl, HB12.out⟩
set_option maxRecDepth 100000 in
set_option maxHeartbeats 4000000 in
theorem trlaw_any (n : Int) (m c1 N c2 : Nat) (na la : Option Addr) (names : List ByteArray) (l : List Mg) (w : World) (hn1 : -9223372036854775808 ≤ n) (hn2 : n ≤ 9223372036854775807) (hm : names.length = m) (hN : l.length = N) (hmx : m ≤ 1152921504606846976) (hNx : N ≤ 1152921504606846976) (hn : Rd w na (fl encS names)) (hl : Rd w la (fl encMg l)) (hsz : ∀ i, i < m → (sA names i).size ≤ 140737488355328) (hfit : FitMg l) :
    Calls Tryd.prog 10 #[.int .i64 n, .slice na m c1, .slice la N c2] w fun e w' => e = .returned (.bool true) ∧ Below w.heap.size w w' := by
  by_cases h100 : 100 < m
  · exact trlaw_long n m c1 N c2 na la names w hm hmx hn h100
  have hs0 := sumS_le hsz
  obtain ⟨jk, jf, JM, hJ1, hJ2, hJ3⟩ := jn_ans n l
  have HANS := Lib.hid hJ3; clear hJ3
  obtain ⟨TE, hTE⟩ : ∃ x, x = treeE n names l := ⟨_, rfl⟩
  obtain ⟨TL, hTL⟩ : ∃ x, x = treeL n names l := ⟨_, rfl⟩
  obtain ⟨TN, hTN⟩ : ∃ x, x = TL.length := ⟨_, rfl⟩
  have hTN2 : TN ≤ 33554432 := by rw [hTN, hTL]; exact treeL_short n names l
  have HTR : Hid (∀ w e w', RtPost w n names l e w' → ∃ a c, e = .returned (.tuple #[.slice a TN c, .int .i64 TE]) ∧ Rd w' a (fl encNd TL) ∧ Below w.heap.size w w') := fun w e w' h => by
    obtain ⟨a, c, h1, h2, h3⟩ := h
    rw [← hTE, ← hTL, ← hTN] at h1
    rw [← hTL] at h2
    exact ⟨a, c, h1, h2, h3⟩
  have HTN := Lib.hid hTN.symm
  clear hTE hTL hTN
  have HM := Lib.hid hm; clear hm
  have HN := Lib.hid hN; clear hN
  have HNA := Lib.hid hn; clear hn
  have HLA := Lib.hid hl; clear hl
  have HSZ := Lib.hid hsz; clear hsz
  have HFIT := Lib.hid hfit; clear hfit
  have HS0 := Lib.hid hs0; clear hs0
  have d1 : decide (100 < (m : Int)) = false := by simp; omega
  go_enter Tryd.func10, Tryd.ntmps10
  go_wp2_with fail
  go_loopw [20, 9, 7] (fun x _ y wr => ∃ (k : Nat), k ≤ m ∧ x = .int .i64 k ∧ y = .int .i64 (sumS names k : Nat) ∧ Below w.heap.size w wr) (fun x _ _ _ => m - (intOf x).toNat)
  case atStart => exact ⟨0, by omega, rfl, rfl, Below.refl _ _⟩
  case round =>
    obtain ⟨k, hk, rfl, rfl, hbl⟩ := hrel
    by_cases hlt : k < m
    · obtain ⟨b1, o1, rfl, _, hc1⟩ := rdS (HNA.out.bl hbl) (by rw [HM.out]; omega)
      have G1 := hc1 k (by rw [HM.out]; omega)
      have hs1 := HS0.out (k + 1) (by omega)
      have HSUM : Hid (sumS names (k + 1) = sumS names k + (sA names k).size) := rfl
      rw [HSUM.out] at hs1
      clear hc1
      generalize sumS names k = S0 at *
      generalize sA names k = sx at *
      have hw1 := wrap_nat ((S0 : Int) + (sx.size : Int)) (S0 + sx.size) (by simp) (by omega)
      go_wp2_with fail
      go_roundw
      case rel => exact ⟨k + 1, by omega, by go_num, by rw [HSUM.out]; simp, hbl⟩
      case measure => simp [intOf]; omega
    · obtain rfl : m = k := by omega
      generalize sumS names m = S0 at *
      by_cases h8 : 4000 < S0
      · have d2 : decide (4000 < (S0 : Int)) = true := by simp; omega
        go_wp2_with fail
        refine (works_any _).mono ?_
        rintro e w12 ⟨rfl, hb12⟩
        have HB12 := Lib.hid (bl_trans hbl hb12)
        clear hb12 hbl
        go_wp2_with fail
        go_ret
        exact ⟨rfl, HB12.out⟩
      · have d2 : decide (4000 < (S0 : Int)) = false := by simp; omega
        by_cases h9 : 100 < N
        · have d3 : decide (100 < (N : Int)) = true := by simp; omega
          go_wp2_with fail
          refine (works_any _).mono ?_
          rintro e w12 ⟨rfl, hb12⟩
          have HB12 := Lib.hid (bl_trans hbl hb12)
          clear hb12 hbl
          go_wp2_with fail
          go_ret
          exact ⟨rfl, HB12.out⟩
        · have d3 : decide (100 < (N : Int)) = false := by simp; omega
          have HSZ2 : Hid (∀ i, i < m → (sA names i).size ≤ 9223372036854775807) := fun i hi => Nat.le_trans (HSZ.out i hi) (by decide)
          go_wp2_with fail
          refine (tree_any n m c1 N c2 na la names l _ HM.out HN.out (HNA.out.bl hbl) (HLA.out.bl hbl) hmx hNx HSZ2.out).mono ?_
          rintro e w1 hp1
          obtain ⟨a1, k1, rfl, hr1, hb1⟩ := HTR.out _ _ _ (RtPost.of hp1)
          have HR1 := Lib.hid hr1
          have HB1 := Lib.hid (bl_trans hbl hb1)
          clear hp1 hr1 hb1 hbl
          go_wp2_with fail
          refine (rtree_any n m c1 N c2 na la names l _ HM.out HN.out (HNA.out.bl HB1.out) (HLA.out.bl HB1.out) hmx hNx HSZ2.out).mono ?_
          rintro e w2 hp2
          obtain ⟨a2, k2, rfl, hr2, hb2⟩ := HTR.out _ _ _ hp2
          have HR2 := Lib.hid hr2
          have HR1b := Lib.hid (HR1.out.bl hb2)
          have HB2 := Lib.hid (bl_trans HB1.out hb2)
          clear hp2 hr2 hb2 HR1 HB1
          go_wp2_with fail
          refine (joined_any la n N c2 l _ hn1 hn2 HN.out hNx (HLA.out.bl HB2.out) HFIT.out).mono ?_
          rintro e w3 hp3
          obtain ⟨a3, k3, rfl, hr3, hb3⟩ := HANS.out _ _ _ hp3
          have HR3 := Lib.hid hr3
          have HR1 := Lib.hid (HR1b.out.bl hb3)
          have HR2b := Lib.hid (HR2.out.bl hb3)
          have HB3 := Lib.hid (bl_trans HB2.out hb3)
          clear hp3 hr3 hb3 HR1b HR2 HB2
          go_wp2_with fail
          refine (rjoined_any la n N c2 l _ hn1 hn2 HN.out hNx (HLA.out.bl HB3.out) HFIT.out).mono ?_
          rintro e w4 hp4
          obtain ⟨a4, k4, rfl, hr4, hb4⟩ := HANS.out _ _ _ hp4
          have HR4 := Lib.hid hr4
          have HB4 := Lib.hid (bl_trans HB3.out hb4)
          have HE := Lib.hid ((eqNd_any a1 a2 TN TN k1 k2 TL TL w4 HTN.out HTN.out (by omega) (by omega) (HR1.out.bl hb4) (HR2b.out.bl hb4)).mono fun e w' (h : e = .returned (.bool (decide (TL = TL))) ∧ ∃ n, w' = w4.drewN n) => (⟨by rw [h.1, decide_eq_true rfl], h.2⟩ : e = .returned (.bool true) ∧ ∃ n, w' = w4.drewN n))
          have HE2 : Hid (∀ nq, Calls Tryd.prog 27 #[.slice a3 JM k3, .slice a4 JM k4] (w4.drewN nq) fun e w' => e = .returned (.bool true) ∧ ∃ n, w' = (w4.drewN nq).drewN n) := fun nq =>
            (eqFr_any a3 a4 JM JM k3 k4 jf jf (w4.drewN nq) hJ1.out hJ1.out (by omega) (by omega) ((HR3.out.bl hb4).drewN nq) (HR4.out.drewN nq)).mono fun e w' (h : e = .returned (.bool (decide (jf = jf))) ∧ ∃ n, w' = (w4.drewN nq).drewN n) => (⟨by rw [h.1, decide_eq_true rfl], h.2⟩ : e = .returned (.bool true) ∧ ∃ n, w' = (w4.drewN nq).drewN n)
          clear hp4 hr4 hb4 HR1 HR2b HR3 HR4 HANS HTR HB3
          go_wp2_with (first
            | (go_at_call 42; refine HE.out.mono ?_; rintro e w5 ⟨rfl, n5, rfl⟩)
            | (go_at_call 27; refine (HE2.out n5).mono ?_; rintro e w6 ⟨rfl, n6, rfl⟩)
            | (go_at_call 14; refine (works_any _).mono ?_; rintro e w7 ⟨rfl, hb7⟩))
          go_ret
          exact ⟨rfl, bl_trans (bl_drewN HB4.out (n5 + n6)) hb7⟩
end Go.Proofs.YtahgffjkkdbjeaaDoor
