/- The document's errors of two trees, its Clades, Dist, Same. The document's Dist and Same. The example's helpers: rows of numbers alike. Same, at any two trees. How many languages a set has, in Go's library and in the document; the order of sets. How many languages a set has, in Go's library and in the document; the order of sets. A region that draws its order and only reads, inside whatever fence (also in a round of a range over a function). A drawing region in a round, walked as if outside: calls allowed. How many bits: math/bits.OnesCount64 (see A8). (shape).joined: for two leaves the smallest clade that has both. The children of a set in a family that fits (plain). The tree of a family: its nodes in their order, and their names (plain). -/
import Derived.Test.YtfgkjofdgohacaaGreatDoorGE
import Derived.Test.YtfgkjofdgohacaaGreatDoorGA
import Derived.Test.YtfgkjofdgohacaaGreatDoorGB
import Derived.Lib.Zigzag
import Derived.OrdersIn
import Derived.Deep.Quiet
import Derived.RangeFuncCalls
import Derived.Deep.LoopGhost
import Derived.Lib.TrailingZeros
import Derived.Lib.ItoaNum
namespace Go.Proofs.YtfgkjofdgohacaaGreatDoor
open Go Go.RowKit Go.Shelf Go.Maps
set_option maxRecDepth 100000 in
set_option maxHeartbeats 4000000 in
theorem ralike_any (a b : Option Addr) (n c m d : Nat) (s t : List Nd) (w : World) (hn : s.length = n) (hm : t.length = m) (hA : Rd w a (fl encNd s)) (hB : Rd w b (fl encNd t)) (hS : ∀ v, v < n → (nS s v).size ≤ 9223372036854775807) (hT : ∀ v, v < m → (nS t v).size ≤ 9223372036854775807) (hok : TreeOk s) (hok2 : TreeOk t) :
    Calls Tryz.prog 57 #[.slice a n c, .slice b m d] w fun e w' => e = .returned (.bool (decide (nmsL s = nmsL t))) ∧ Below w.heap.size w w' := by
  have H1 := Lib.hid (rnames_any a n c s w hn hA hS hok)
  have H2 := Lib.hid (fun W (hb : Below w.heap.size w W) => rnames_any b m d t W hm (hB.bl hb) hT hok2)
  have h1 := lvT_le63 hok
  have h2 := lvT_le63 hok2
  have HL1 := Lib.hid (nmsL_len s)
  have HL2 := Lib.hid (nmsL_len t)
  clear hn hm hA hB hS hT hok hok2
  obtain ⟨xs, hx⟩ : ∃ x, x = nmsL s := ⟨_, rfl⟩
  obtain ⟨ys, hy⟩ : ∃ y, y = nmsL t := ⟨_, rfl⟩
  obtain ⟨p, hp⟩ : ∃ p, p = (lvT s).length := ⟨_, rfl⟩
  obtain ⟨q, hq⟩ : ∃ q, q = (lvT t).length := ⟨_, rfl⟩
  rw [← hx, ← hp] at HL1 H1
  rw [← hy, ← hq] at HL2 H2
  rw [← hx, ← hy]
  rw [← hp] at h1
  rw [← hq] at h2
  clear hx hy hp hq
  go_enter Tryz.func57, Tryz.ntmps57
  go_wp2_with fail
  refine H1.out.mono ?_
  rintro e w1 ⟨v1, rfl, ho1, hb1⟩
  obtain ⟨a1, c1, rfl⟩ := owns_sl ho1
  have HB1 := Lib.hid hb1
  have HO1 := Lib.hid (rd_of_owns ho1)
  clear ho1 hb1
  go_wp2_with fail
  refine (H2.out _ HB1.out).mono ?_
  rintro e w2 ⟨v2, rfl, ho2, hb2⟩
  obtain ⟨a2, c2, rfl⟩ := owns_sl ho2
  have HB2 := Lib.hid (bl_trans HB1.out hb2)
  have HA := Lib.hid (HO1.out.bl hb2)
  have HB := Lib.hid (rd_of_owns ho2)
  clear ho2 hb2 H1 H2 HB1 HO1
  by_cases hpq : p = q
  · subst hpq
    have hb : ((p : Int) != p) = false := by simp
    have hb2 : ((p : Int) == p) = true := by simp
    go_wp2_with fail
    go_loopw [7] (fun x wr => ∃ k : Nat, k ≤ p ∧ x = .int .i64 k ∧ Hid (∀ i, i < k → sA xs i = sA ys i) ∧ ∃ z, wr = w2.drewN z) (fun x _ => p - (intOf x).toNat)
    case atStart => exact ⟨0, by omega, rfl, fun i hi => absurd hi (by omega), 0, rfl⟩
    case round =>
      obtain ⟨k, hk, rfl, HE, z, rfl⟩ := hrel
      by_cases hlt : k < p
      · obtain ⟨b1, o1, rfl, _, hc1⟩ := rdS (HA.out.drewN z) (by rw [HL1.out]; omega)
        obtain ⟨b2, o2, rfl, _, hc2⟩ := rdS (HB.out.drewN z) (by rw [HL2.out]; omega)
        have c1 := hc1 k (by rw [HL1.out]; exact hlt)
        have c2 := hc2 k (by rw [HL2.out]; exact hlt)
        clear hc1 hc2
        obtain ⟨s, hs⟩ : ∃ s, s = sA xs k := ⟨_, rfl⟩
        obtain ⟨r, hr⟩ : ∃ r, r = sA ys k := ⟨_, rfl⟩
        rw [← hs] at c1
        rw [← hr] at c2
        have HS := Lib.hid hs
        have HR := Lib.hid hr
        clear hs hr
        generalize hw : w2.drewN z = wr at *
        have HW := Lib.hid hw
        clear hw
        by_cases e : s = r
        · subst e
          have t1 : (s.toList == s.toList) = true := beq_self_eq_true _
          have HE2 : Hid (∀ i, i < k + 1 → sA xs i = sA ys i) := fun i hi => by
            by_cases e : i < k
            · exact HE.out i e
            · obtain rfl : i = k := by omega
              rw [← HS.out, ← HR.out]
          clear HE
          go_wp2_with fail
          go_quiet (fail)
          go_wp2_with fail
          exact ⟨⟨k + 1, by omega, by go_num, HE2, z + nq, by rw [← HW.out]; simp⟩, by simp [intOf]; omega⟩
        · have t1 : (s.toList == r.toList) = false := beq_eq_false_iff_ne.2 fun e2 => e (ba_inj.1 e2)
          have HNE : Hid (decide (xs = ys) = false) := decide_eq_false fun e2 => e (by rw [HS.out, HR.out, e2])
          clear e
          go_wp2_with fail
          go_quiet (fail)
          go_wp2_with fail
          go_ret
          exact ⟨by rw [HNE.out]; rfl, bl_drewN (by rw [← HW.out]; exact bl_drewN HB2.out z) nq⟩
      · obtain rfl : k = p := by omega
        have HNE : Hid (decide (xs = ys) = true) := decide_eq_true (ext_sA (by rw [HL1.out, HL2.out]) fun i hi => HE.out i (by rw [← HL1.out]; exact hi))
        go_wp2_with fail
        go_ret
        exact ⟨by rw [HNE.out]; rfl, bl_drewN HB2.out z⟩
  · have hb : ((p : Int) != q) = true := by simp; omega
    have hb2 : ((p : Int) == q) = false := by simp; omega
    have HNE : Hid (decide (xs = ys) = false) := decide_eq_false fun e2 => hpq (by rw [← HL1.out, ← HL2.out, e2])
    clear hpq
    go_wp2_with fail
    go_ret
    exact ⟨by rw [HNE.out]; rfl, HB2.out⟩
theorem twoE_cases (s t : List Nd) : (chkE s = 16 ∧ twoE s t = 16) ∨ (TreeOk s ∧ chkE s = 0 ∧ chkE t = 16 ∧ twoE s t = 16) ∨ (TreeOk s ∧ TreeOk t ∧ chkE s = 0 ∧ chkE t = 0 ∧ nmsL s ≠ nmsL t ∧ twoE s t = 2) ∨ (TreeOk s ∧ TreeOk t ∧ chkE s = 0 ∧ chkE t = 0 ∧ nmsL s = nmsL t ∧ twoE s t = 0) := by
  by_cases h1 : TreeOk s
  · by_cases h2 : TreeOk t
    · by_cases h3 : nmsL s = nmsL t
      · exact .inr (.inr (.inr ⟨h1, h2, chkE_good h1, chkE_good h2, h3, by unfold twoE; rw [if_pos ⟨h1, h2⟩, if_pos h3]⟩))
      · exact .inr (.inr (.inl ⟨h1, h2, chkE_good h1, chkE_good h2, h3, by unfold twoE; rw [if_pos ⟨h1, h2⟩, if_neg h3]⟩))
    · exact .inr (.inl ⟨h1, chkE_good h1, chkE_bad h2, (twoE_sh s t fun h => h2 h.2).2⟩)
  · exact .inl ⟨chkE_bad h1, (twoE_sh s t fun h => h1 h.1).2⟩
set_option maxHeartbeats 1000000 in
theorem rtwo_any (a b : Option Addr) (n c m d : Nat) (s t : List Nd) (w : World) (hn : s.length = n) (hm : t.length = m) (hN : n ≤ 1152921504606846976) (hM : m ≤ 1152921504606846976) (hA : Rd w a (fl encNd s)) (hB : Rd w b (fl encNd t)) (hS : ∀ v, v < n → (nS s v).size ≤ 9223372036854775807) (hT : ∀ v, v < m → (nS t v).size ≤ 9223372036854775807) :
    Calls Tryz.prog 48 #[.slice a n c, .slice b m d] w fun e w' => e = .returned (.int .i64 (twoE s t)) ∧ Below w.heap.size w w' := by
  have H1 := Lib.hid (rcheck_any a n c s w hn hN hA hS)
  have H2 := Lib.hid (fun W (hb : Below w.heap.size w W) => rcheck_any b m d t W hm hM (hB.bl hb) hT)
  have H3 := Lib.hid (fun W (hb : Below w.heap.size w W) (h1 : TreeOk s) (h2 : TreeOk t) => ralike_any a b n c m d s t W hn hm (hA.bl hb) (hB.bl hb) hS hT h1 h2)
  clear hn hm hN hM hA hB hS hT
  go_enter Tryz.func48, Tryz.ntmps48
  go_wp2_with fail
  refine H1.out.mono ?_
  rintro e w1 ⟨rfl, q1, hw1⟩
  have HB1 : Hid (Below w.heap.size w w1) := by show Below _ _ _; rw [hw1]; exact bl_drewN (Below.refl _ _) q1
  clear hw1 H1
  rcases twoE_cases s t with ⟨h1, h2⟩ | ⟨h1, h2, h3, h4⟩ | ⟨h1, h2, h3, h4, h5, h6⟩ | ⟨h1, h2, h3, h4, h5, h6⟩
  · rw [h1]
    have HTW := Lib.hid h2
    clear h1 h2
    go_wp2_with fail
    go_ret
    exact ⟨by rw [HTW.out]; rfl, HB1.out⟩
  · rw [h2]
    have HTW := Lib.hid h4
    have H3 := Lib.hid h3
    clear h1 h2 h3 h4
    go_wp2_with fail
    refine (H2.out _ HB1.out).mono ?_
    rintro e w2 ⟨rfl, q2, hw2⟩
    have HB2 : Hid (Below w.heap.size w w2) := by show Below _ _ _; rw [hw2]; exact bl_drewN HB1.out q2
    clear hw2
    rw [H3.out]
    go_wp2_with fail
    go_ret
    exact ⟨by rw [HTW.out]; rfl, HB2.out⟩
  · rw [h3]
    have HTW := Lib.hid h6
    have HT := Lib.hid h4
    have HAL := Lib.hid (fun W hb => H3.out W hb h1 h2)
    have d1 : Hid (decide (nmsL s = nmsL t) = false) := decide_eq_false h5
    clear h1 h2 h3 h4 h5 h6
    go_wp2_with fail
    refine (H2.out _ HB1.out).mono ?_
    rintro e w2 ⟨rfl, q2, hw2⟩
    have HB2 : Hid (Below w.heap.size w w2) := by show Below _ _ _; rw [hw2]; exact bl_drewN HB1.out q2
    clear hw2
    rw [HT.out]
    go_wp2_with fail
    refine (HAL.out _ HB2.out).mono ?_
    rintro e w3 ⟨rfl, hb3⟩
    have HB3 := Lib.hid (bl_trans HB2.out hb3)
    rw [d1.out]
    clear hb3
    go_wp2_with fail
    go_ret
    exact ⟨by rw [HTW.out]; rfl, HB3.out⟩
  · rw [h3]
    have HTW := Lib.hid h6
    have HT := Lib.hid h4
    have HAL := Lib.hid (fun W hb => H3.out W hb h1 h2)
    have d1 : Hid (decide (nmsL s = nmsL t) = true) := decide_eq_true h5
    clear h1 h2 h3 h4 h5 h6
    go_wp2_with fail
    refine (H2.out _ HB1.out).mono ?_
    rintro e w2 ⟨rfl, q2, hw2⟩
    have HB2 : Hid (Below w.heap.size w w2) := by show Below _ _ _; rw [hw2]; exact bl_drewN HB1.out q2
    clear hw2
    rw [HT.out]
    go_wp2_with fail
    refine (HAL.out _ HB2.out).mono ?_
    rintro e w3 ⟨rfl, hb3⟩
    have HB3 := Lib.hid (bl_trans HB2.out hb3)
    rw [d1.out]
    clear hb3
    go_wp2_with fail
    go_ret
    exact ⟨by rw [HTW.out]; rfl, HB3.out⟩
set_option maxHeartbeats 1000000 in
theorem rClades_any (a : Option Addr) (n c : Nat) (t : List Nd) (w : World) (hn : t.length = n) (hN : n ≤ 1152921504606846976) (hA : Rd w a (fl encNd t)) (hS : ∀ v, v < n → (nS t v).size ≤ 9223372036854775807) :
    Calls Tryz.prog 28 #[.slice a n c] w fun e w' => ∃ v, e = .returned (.tuple #[v, .int .i64 (chkE t)]) ∧ w'.ownsRow w.heap.size 41 1 v (clsE t).length (fl encV (clsE t)) ∧ Below w.heap.size w w' := by
  have H1 := Lib.hid (rcheck_any a n c t w hn hN hA hS)
  have H2 := Lib.hid (fun W (hb : Below w.heap.size w W) (h1 : TreeOk t) => rclades_any a n c t W hn h1 (hA.bl hb) hS)
  clear hn hN hA hS
  go_enter Tryz.func28, Tryz.ntmps28
  go_wp2_with fail
  refine H1.out.mono ?_
  rintro e w1 ⟨rfl, q1, hw1⟩
  have HB1 : Hid (Below w.heap.size w w1) := by show Below _ _ _; rw [hw1]; exact bl_drewN (Below.refl _ _) q1
  clear hw1 H1
  by_cases h : TreeOk t
  · have HC := Lib.hid (H2.out _ HB1.out h)
    rw [chkE_good h]
    have HKE : Hid (chkE t = 0) := chkE_good h
    have HCE : Hid (clsE t = clsL t) := clsE_ok h
    clear h
    go_wp2_with fail
    refine HC.out.mono ?_
    rintro e w2 ⟨v2, rfl, ho, hb⟩
    have HO := Lib.hid (owns_base4 ho HB1.out.size)
    have HB := Lib.hid (bl_trans HB1.out hb)
    obtain ⟨a2, c2, rfl⟩ := owns_sl ho
    clear ho hb
    go_wp2_with fail
    go_ret2
    exact ⟨_, by rw [HKE.out]; rfl, by rw [HCE.out]; exact HO.out, HB.out⟩
  · rw [chkE_bad h]
    have HKE : Hid (chkE t = 16) := chkE_bad h
    have HCE : Hid (clsE t = []) := clsE_bad h
    clear h
    go_wp2_with fail
    go_ret2
    exact ⟨_, by rw [HKE.out]; rfl, by rw [HCE.out]; exact World.ownsRow_nil _ _ _ _, HB1.out⟩
end Go.Proofs.YtfgkjofdgohacaaGreatDoor
namespace Go.Proofs.YtfgkjofdgohacaaGreatDoor
open Go Go.RowKit Go.Shelf Go.Maps
/-- How many of the first k are not in another list. -/
def ninK (A B : List Nat) (k : Nat) : Nat := ((A.take k).filter fun x => !decide (x ∈ B)).length
theorem ninK_succ (A B : List Nat) {k : Nat} (hk : k < A.length) : ninK A B (k + 1) = ninK A B k + if vA A k ∈ B then 0 else 1 := by
  unfold ninK
  rw [List.take_succ_eq_append_getElem hk, List.filter_append, List.length_append, vA_get hk]
  by_cases q : A[k] ∈ B <;> simp [q]
theorem ninK_le (A B : List Nat) (k : Nat) : ninK A B k ≤ k := by
  unfold ninK
  have h1 := List.length_filter_le (fun x => !decide (x ∈ B)) (A.take k)
  have h2 := List.length_take_le k A
  omega
theorem ninK_all (A B : List Nat) : ninK A B A.length = (A.filter fun x => !decide (x ∈ B)).length := by unfold ninK; rw [List.take_length]
theorem dstN_nin (A B : List Nat) : dstN A B = ninK A B A.length + ninK B A B.length := by rw [ninK_all, ninK_all]; rfl
theorem cls_le63 {t : List Nd} (hok : TreeOk t) : (clsL t).length ≤ 63 := Nat.le_trans (cls_len t) hok.2.1
set_option maxRecDepth 100000 in
set_option maxHeartbeats 4000000 in
theorem rdist_any (a b : Option Addr) (n c m d : Nat) (s t : List Nd) (w : World) (hn : s.length = n) (hm : t.length = m) (hN : n ≤ 1152921504606846976) (hM : m ≤ 1152921504606846976) (hA : Rd w a (fl encNd s)) (hB : Rd w b (fl encNd t)) (hS : ∀ v, v < n → (nS s v).size ≤ 9223372036854775807) (hT : ∀ v, v < m → (nS t v).size ≤ 9223372036854775807) :
    Calls Tryz.prog 30 #[.slice a n c, .slice b m d] w fun e w' => e = .returned (.tuple #[.int .i64 (dstV s t), .int .i64 (twoE s t)]) ∧ Below w.heap.size w w' := by
  have H0 := Lib.hid (rtwo_any a b n c m d s t w hn hm hN hM hA hB hS hT)
  have H1 := Lib.hid (fun W (hb : Below w.heap.size w W) (h : TreeOk s) => rclades_any a n c s W hn h (hA.bl hb) hS)
  have H2 := Lib.hid (fun W (hb : Below w.heap.size w W) (h : TreeOk t) => rclades_any b m d t W hm h (hB.bl hb) hT)
  clear hn hm hA hB hS hT hN hM
  go_enter Tryz.func30, Tryz.ntmps30
  go_wp2_with fail
  refine H0.out.mono ?_
  rintro e w1 ⟨rfl, hb1⟩
  have HB1 := Lib.hid hb1
  clear hb1 H0
  by_cases hE : twoE s t = 0
  · have HV := Lib.hid (dstV_ok hE)
    have hok : TreeOk s ∧ TreeOk t := by
      rcases twoE_cases s t with ⟨_, h⟩ | ⟨_, _, _, h⟩ | ⟨h1, h2, _⟩ | ⟨h1, h2, _⟩
      · omega
      · omega
      · exact ⟨h1, h2⟩
      · exact ⟨h1, h2⟩
    have H1 := Lib.hid (fun W hb => H1.out W hb hok.1)
    have H2 := Lib.hid (fun W hb => H2.out W hb hok.2)
    have l1 := cls_le63 hok.1
    have l2 := cls_le63 hok.2
    rw [hE]
    have HE := Lib.hid hE
    clear hE hok
    obtain ⟨A, hAe⟩ : ∃ A, A = clsL s := ⟨_, rfl⟩
    obtain ⟨B, hBe⟩ : ∃ B, B = clsL t := ⟨_, rfl⟩
    rw [← hAe] at H1 HV l1
    rw [← hBe] at H2 HV l2
    rw [dstN_nin] at HV
    obtain ⟨p, hp⟩ : ∃ p, p = A.length := ⟨_, rfl⟩
    obtain ⟨q, hq⟩ : ∃ q, q = B.length := ⟨_, rfl⟩
    rw [← hp] at H1 HV l1
    rw [← hq] at H2 HV l2
    have HP := Lib.hid hp
    have HQ := Lib.hid hq
    clear hAe hBe hp hq
    go_wp2_with fail
    refine (H1.out _ HB1.out).mono ?_
    rintro e w2 ⟨v2, rfl, ho2, hb2⟩
    obtain ⟨a2, c2, rfl⟩ := owns_sl ho2
    have HB2 := Lib.hid (bl_trans HB1.out hb2)
    have HO2 := Lib.hid (rd_of_owns ho2)
    clear ho2 hb2
    go_wp2_with fail
    refine (H2.out _ HB2.out).mono ?_
    rintro e w3 ⟨v3, rfl, ho3, hb3⟩
    obtain ⟨a3, c3, rfl⟩ := owns_sl ho3
    have HB3 := Lib.hid (bl_trans HB2.out hb3)
    have HA := Lib.hid (HO2.out.bl hb3)
    have HB := Lib.hid (rd_of_owns ho3)
    clear ho3 hb3 HB2 HO2 HB1 H1 H2
    have Z0 : Hid (ninK A B 0 = 0) := rfl
    have Z1 : Hid (ninK B A 0 = 0) := rfl
    go_wp2_with fail
    go_loopw [9, 10] (fun y x wr => ∃ k : Nat, k ≤ p ∧ x = .int .i64 k ∧ y = .int .i64 (ninK A B k : Nat) ∧ wr = w3) (fun _ x _ => p - (intOf x).toNat)
    case atStart => exact ⟨0, by omega, rfl, by rw [Z0.out]; rfl, rfl⟩
    case round =>
      obtain ⟨k, hk, rfl, rfl, rfl⟩ := hrel
      have hle := ninK_le A B k
      by_cases hlt : k < p
      · obtain ⟨b1, o1, rfl, _, hc1⟩ := rdV HA.out (by rw [← HP.out]; omega)
        have c1 := hc1 k (by rw [← HP.out]; exact hlt)
        have HNX := Lib.hid (ninK_succ A B (k := k) (by rw [← HP.out]; exact hlt))
        have HH := Lib.hid (fun x => rhas_any a3 q c3 x B wr HQ.out.symm (by omega) HB.out)
        clear hc1
        generalize vA A k = x at *
        obtain ⟨S, hS⟩ : ∃ S, S = ninK A B k := ⟨_, rfl⟩
        rw [← hS] at HNX hle ⊢
        clear hS
        go_wp2_with fail
        refine (HH.out x).mono ?_
        rintro e w4 ⟨rfl, rfl⟩
        by_cases hm : x ∈ B
        · have d1 : decide (x ∈ B) = true := decide_eq_true hm
          rw [if_pos hm, Nat.add_zero] at HNX
          rw [d1]
          clear hm d1
          go_wp2_with fail
          exact ⟨⟨k + 1, by omega, by go_num, by rw [HNX.out, Nat.add_zero], trivial⟩, by simp [intOf]; omega⟩
        · have d1 : decide (x ∈ B) = false := decide_eq_false hm
          rw [if_neg hm] at HNX
          rw [d1]
          clear hm d1
          go_wp2_with fail
          exact ⟨⟨k + 1, by omega, by go_num, by rw [HNX.out]; go_num, trivial⟩, by simp [intOf]; omega⟩
      · obtain rfl : k = p := by omega
        obtain ⟨S, hS⟩ : ∃ S, S = ninK A B k := ⟨_, rfl⟩
        rw [← hS] at HV hle ⊢
        clear hS
        go_wp2_with fail
        go_loopw [9, 11] (fun y x wr2 => ∃ j : Nat, j ≤ q ∧ x = .int .i64 j ∧ y = .int .i64 (S + ninK B A j : Nat) ∧ wr2 = wr) (fun _ x _ => q - (intOf x).toNat)
        case atStart => exact ⟨0, by omega, rfl, by rw [Z1.out]; rfl, rfl⟩
        case round =>
          obtain ⟨j, hj, rfl, rfl, rfl⟩ := hrel
          have hle2 := ninK_le B A j
          by_cases hlt : j < q
          · obtain ⟨b1, o1, rfl, _, hc1⟩ := rdV HB.out (by rw [← HQ.out]; omega)
            have c1 := hc1 j (by rw [← HQ.out]; exact hlt)
            have HNX := Lib.hid (ninK_succ B A (k := j) (by rw [← HQ.out]; exact hlt))
            have HH := Lib.hid (fun x => rhas_any a2 k c2 x A wr HP.out.symm (by omega) HA.out)
            clear hc1
            generalize vA B j = x at *
            obtain ⟨R, hR⟩ : ∃ R, R = ninK B A j := ⟨_, rfl⟩
            rw [← hR] at HNX hle2 ⊢
            clear hR
            go_wp2_with fail
            refine (HH.out x).mono ?_
            rintro e w4 ⟨rfl, rfl⟩
            by_cases hm : x ∈ A
            · have d1 : decide (x ∈ A) = true := decide_eq_true hm
              rw [if_pos hm, Nat.add_zero] at HNX
              rw [d1]
              clear hm d1
              go_wp2_with fail
              exact ⟨⟨j + 1, by omega, by go_num, by rw [HNX.out, Nat.add_zero]; go_num, trivial⟩, by simp [intOf]; omega⟩
            · have d1 : decide (x ∈ A) = false := decide_eq_false hm
              rw [if_neg hm] at HNX
              rw [d1]
              clear hm d1
              go_wp2_with fail
              exact ⟨⟨j + 1, by omega, by go_num, by rw [HNX.out]; go_num, trivial⟩, by simp [intOf]; omega⟩
          · obtain rfl : j = q := by omega
            go_wp2_with fail
            go_ret2
            exact ⟨by rw [HV.out, HE.out]; rfl, HB3.out⟩
  · have HV := Lib.hid (dstV_bad hE)
    obtain ⟨E, hEE⟩ : ∃ E, E = twoE s t := ⟨_, rfl⟩
    rw [← hEE] at hE ⊢
    have t1 : (E != 0) = true := by simp [hE]
    have t2 : (E == 0) = false := by simp [hE]
    have HE := Lib.hid hEE
    clear hE hEE
    go_wp2_with fail
    go_ret2
    exact ⟨by rw [HV.out, ← HE.out]; rfl, HB1.out⟩
set_option maxHeartbeats 1000000 in
theorem rSame_any (a b : Option Addr) (n c m d : Nat) (s t : List Nd) (w : World) (hn : s.length = n) (hm : t.length = m) (hN : n ≤ 1152921504606846976) (hM : m ≤ 1152921504606846976) (hA : Rd w a (fl encNd s)) (hB : Rd w b (fl encNd t)) (hS : ∀ v, v < n → (nS s v).size ≤ 9223372036854775807) (hT : ∀ v, v < m → (nS t v).size ≤ 9223372036854775807) :
    Calls Tryz.prog 32 #[.slice a n c, .slice b m d] w fun e w' => e = .returned (.tuple #[.bool (smV s t), .int .i64 (twoE s t)]) ∧ Below w.heap.size w w' := by
  have HC := Lib.hid (rdist_any a b n c m d s t w hn hm hN hM hA hB hS hT)
  clear hn hm hN hM hA hB hS hT
  by_cases hE : twoE s t = 0
  · by_cases hD : dstV s t = 0
    · have HR : Hid (smV s t = true) := by show _ = _; unfold smV; rw [hE, hD]; rfl
      have HE := Lib.hid hE
      rw [hE, hD] at HC
      clear hE hD
      go_enter Tryz.func32, Tryz.ntmps32
      go_wp2_with (go_at_call 30; refine HC.out.mono ?_; rintro e w2 ⟨rfl, hb⟩; have HB := Lib.hid hb; clear hb)
      go_ret2
      exact ⟨by rw [HR.out, HE.out]; rfl, HB.out⟩
    · have HR : Hid (smV s t = false) := by show _ = _; unfold smV; rw [decide_eq_false hD, Bool.and_false]
      have HE := Lib.hid hE
      rw [hE] at HC
      generalize dstV s t = v at *
      have hb0 : (v == 0) = false := by simp [hD]
      clear hE
      go_enter Tryz.func32, Tryz.ntmps32
      go_wp2_with (go_at_call 30; refine HC.out.mono ?_; rintro e w2 ⟨rfl, hb⟩; have HB := Lib.hid hb; clear hb)
      go_ret2
      exact ⟨by rw [HR.out, HE.out]; rfl, HB.out⟩
  · have HR : Hid (smV s t = false) := by show _ = _; unfold smV; rw [decide_eq_false hE, Bool.false_and]
    obtain ⟨ee, hee⟩ : ∃ x, x = twoE s t := ⟨_, rfl⟩
    rw [← hee] at HC hE
    have HEE := Lib.hid hee
    have hb0 : (ee == 0) = false := by simp [hE]
    clear hee
    go_enter Tryz.func32, Tryz.ntmps32
    go_wp2_with (go_at_call 30; refine HC.out.mono ?_; rintro e w2 ⟨rfl, hb⟩; have HB := Lib.hid hb; clear hb)
    go_ret2
    exact ⟨by rw [HR.out, ← HEE.out]; rfl, HB.out⟩
end Go.Proofs.YtfgkjofdgohacaaGreatDoor
namespace Go.Proofs.YtfgkjofdgohacaaGreatDoor
open Go Go.RowKit Go.Shelf Go.Maps
theorem ext_vA {xs ys : List Nat} (h : xs.length = ys.length) (h2 : ∀ i, i < xs.length → vA xs i = vA ys i) : xs = ys := by
  apply List.ext_getElem h
  intro i h1 h3
  have := h2 i h1
  simpa [vA, h1, h3] using this
theorem ext_iA {xs ys : List Int} (h : xs.length = ys.length) (h2 : ∀ i, i < xs.length → iA xs i = iA ys i) : xs = ys := by
  apply List.ext_getElem h
  intro i h1 h3
  have := h2 i h1
  simpa [iA, h1, h3] using this
set_option maxRecDepth 100000 in
set_option maxHeartbeats 2000000 in
theorem wsets_any (a b : Option Addr) (n c m d : Nat) (xs ys : List Nat) (w : World) (hn : xs.length = n) (hm : ys.length = m) (hN : n ≤ 1048576) (hM : m ≤ 1048576) (hA : Rd w a (fl encV xs)) (hB : Rd w b (fl encV ys)) :
    Calls Tryz.prog 33 #[.slice a n c, .slice b m d] w fun e w' => e = .returned (.bool (decide (xs = ys))) ∧ ∃ q, w' = w.drewN q := by
  have HA := Lib.hid hA
  have HB := Lib.hid hB
  have HN := Lib.hid hn
  have HM := Lib.hid hm
  clear hA hB hn hm
  by_cases hnm : n = m
  · subst hnm
    have hb : ((n : Int) == n) = true := by simp
    go_enter Tryz.func33, Tryz.ntmps33
    go_wp2_with fail
    go_loopw [5] (fun x wr => ∃ k : Nat, k ≤ n ∧ x = .int .i64 k ∧ Hid (∀ i, i < k → vA xs i = vA ys i) ∧ ∃ q, wr = w.drewN q) (fun x _ => n - (intOf x).toNat)
    case atStart => exact ⟨0, by omega, rfl, fun i hi => absurd hi (by omega), 0, rfl⟩
    case round =>
      obtain ⟨k, hk, rfl, HE, q, rfl⟩ := hrel
      by_cases hlt : k < n
      · obtain ⟨b1, o1, rfl, _, hc1⟩ := rdV (HA.out.drewN q) (by rw [HN.out]; omega)
        obtain ⟨b2, o2, rfl, _, hc2⟩ := rdV (HB.out.drewN q) (by rw [HM.out]; omega)
        have c1 := hc1 k (by rw [HN.out]; exact hlt)
        have c2 := hc2 k (by rw [HM.out]; exact hlt)
        clear hc1 hc2
        obtain ⟨s, hs⟩ : ∃ s, s = vA xs k := ⟨_, rfl⟩
        obtain ⟨r, hr⟩ : ∃ r, r = vA ys k := ⟨_, rfl⟩
        rw [← hs] at c1
        rw [← hr] at c2
        have HS := Lib.hid hs
        have HR := Lib.hid hr
        clear hs hr
        generalize hw : w.drewN q = wr at *
        have HW := Lib.hid hw
        clear hw
        by_cases e : s = r
        · have HSR := Lib.hid e
          have t1 : ((s : Int) == (r : Int)) = true := by rw [e]; exact beq_self_eq_true _
          have HE2 : Hid (∀ i, i < k + 1 → vA xs i = vA ys i) := fun i hi => by
            by_cases e : i < k
            · exact HE.out i e
            · obtain rfl : i = k := by omega
              rw [← HS.out, ← HR.out, HSR.out]
          clear HE e
          go_wp2_with fail
          go_quiet (fail)
          go_wp2_with fail
          exact ⟨⟨k + 1, by omega, by go_num, HE2, q + nq, by rw [← HW.out]; simp⟩, by simp [intOf]; omega⟩
        · have t1 : ((s : Int) == (r : Int)) = false := beq_eq_false_iff_ne.2 fun e2 => e (by omega)
          have HNE : Hid (decide (xs = ys) = false) := decide_eq_false fun e2 => e (by rw [HS.out, HR.out, e2])
          clear e
          go_wp2_with fail
          go_quiet (fail)
          go_wp2_with fail
          go_ret
          exact ⟨by rw [HNE.out]; rfl, q + nq, by rw [← HW.out]; simp⟩
      · obtain rfl : k = n := by omega
        have HNE : Hid (decide (xs = ys) = true) := decide_eq_true (ext_vA (by rw [HN.out, HM.out]) fun i hi => HE.out i (by rw [← HN.out]; exact hi))
        go_wp2_with fail
        go_ret
        exact ⟨by rw [HNE.out]; rfl, q, rfl⟩
  · have hb : ((n : Int) == m) = false := by simp; omega
    have HNE : Hid (decide (xs = ys) = false) := decide_eq_false fun e2 => hnm (by rw [← HN.out, ← HM.out, e2])
    clear hnm
    go_enter Tryz.func33, Tryz.ntmps33
    go_wp2_with fail
    go_ret
    exact ⟨by rw [HNE.out]; rfl, 0, rfl⟩
set_option maxRecDepth 100000 in
set_option maxHeartbeats 2000000 in
theorem wnums_any (a b : Option Addr) (n c m d : Nat) (xs ys : List Int) (w : World) (hn : xs.length = n) (hm : ys.length = m) (hN : n ≤ 1048576) (hM : m ≤ 1048576) (hA : Rd w a (fl encI xs)) (hB : Rd w b (fl encI ys)) :
    Calls Tryz.prog 20 #[.slice a n c, .slice b m d] w fun e w' => e = .returned (.bool (decide (xs = ys))) ∧ ∃ q, w' = w.drewN q := by
  have HA := Lib.hid hA
  have HB := Lib.hid hB
  have HN := Lib.hid hn
  have HM := Lib.hid hm
  clear hA hB hn hm
  by_cases hnm : n = m
  · subst hnm
    have hb : ((n : Int) == n) = true := by simp
    go_enter Tryz.func20, Tryz.ntmps20
    go_wp2_with fail
    go_loopw [5] (fun x wr => ∃ k : Nat, k ≤ n ∧ x = .int .i64 k ∧ Hid (∀ i, i < k → iA xs i = iA ys i) ∧ ∃ q, wr = w.drewN q) (fun x _ => n - (intOf x).toNat)
    case atStart => exact ⟨0, by omega, rfl, fun i hi => absurd hi (by omega), 0, rfl⟩
    case round =>
      obtain ⟨k, hk, rfl, HE, q, rfl⟩ := hrel
      by_cases hlt : k < n
      · obtain ⟨b1, o1, rfl, _, hc1⟩ := rdI (HA.out.drewN q) (by rw [HN.out]; omega)
        obtain ⟨b2, o2, rfl, _, hc2⟩ := rdI (HB.out.drewN q) (by rw [HM.out]; omega)
        have c1 := hc1 k (by rw [HN.out]; exact hlt)
        have c2 := hc2 k (by rw [HM.out]; exact hlt)
        clear hc1 hc2
        obtain ⟨s, hs⟩ : ∃ s, s = iA xs k := ⟨_, rfl⟩
        obtain ⟨r, hr⟩ : ∃ r, r = iA ys k := ⟨_, rfl⟩
        rw [← hs] at c1
        rw [← hr] at c2
        have HS := Lib.hid hs
        have HR := Lib.hid hr
        clear hs hr
        generalize hw : w.drewN q = wr at *
        have HW := Lib.hid hw
        clear hw
        by_cases e : s = r
        · have HSR := Lib.hid e
          have t1 : ((s : Int) == (r : Int)) = true := by rw [e]; exact beq_self_eq_true _
          have HE2 : Hid (∀ i, i < k + 1 → iA xs i = iA ys i) := fun i hi => by
            by_cases e : i < k
            · exact HE.out i e
            · obtain rfl : i = k := by omega
              rw [← HS.out, ← HR.out, HSR.out]
          clear HE e
          go_wp2_with fail
          go_quiet (fail)
          go_wp2_with fail
          exact ⟨⟨k + 1, by omega, by go_num, HE2, q + nq, by rw [← HW.out]; simp⟩, by simp [intOf]; omega⟩
        · have t1 : ((s : Int) == (r : Int)) = false := beq_eq_false_iff_ne.2 fun e2 => e (by omega)
          have HNE : Hid (decide (xs = ys) = false) := decide_eq_false fun e2 => e (by rw [HS.out, HR.out, e2])
          clear e
          go_wp2_with fail
          go_quiet (fail)
          go_wp2_with fail
          go_ret
          exact ⟨by rw [HNE.out]; rfl, q + nq, by rw [← HW.out]; simp⟩
      · obtain rfl : k = n := by omega
        have HNE : Hid (decide (xs = ys) = true) := decide_eq_true (ext_iA (by rw [HN.out, HM.out]) fun i hi => HE.out i (by rw [← HN.out]; exact hi))
        go_wp2_with fail
        go_ret
        exact ⟨by rw [HNE.out]; rfl, q, rfl⟩
  · have hb : ((n : Int) == m) = false := by simp; omega
    have HNE : Hid (decide (xs = ys) = false) := decide_eq_false fun e2 => hnm (by rw [← HN.out, ← HM.out, e2])
    clear hnm
    go_enter Tryz.func20, Tryz.ntmps20
    go_wp2_with fail
    go_ret
    exact ⟨by rw [HNE.out]; rfl, 0, rfl⟩
end Go.Proofs.YtfgkjofdgohacaaGreatDoor
namespace Go.Proofs.YtfgkjofdgohacaaGreatDoor
open Go Go.RowKit Go.Shelf Go.Maps
theorem neqNd (x0 y0 : Int) (x1 y1 : ByteArray) (w : World) : (binOp .neq 56 (.agg #[.int .i64 x0, .string x1]) (.agg #[.int .i64 y0, .string y1])).run Tryz.prog w = .ok (.bool (!(decide (x0 = y0) && decide (x1 = y1)))) w := by
  have u3 := Tryz.underlying3
  have a3 := Tryz.isAgg3
  have z3 := Tryz.sizeOf3
  have u9 := Tryz.underlying9
  have a9 := Tryz.isAgg9
  have z9 := Tryz.sizeOf9
  have hS : Tryz.prog.underlying 56 = some (.struct (Tryz.prog.fieldsOf 56)) := by kernel_rfl
  have hp : Tryz.prog.stoodInHeld 56 = false := by kernel_rfl
  rw [run_neq_struct, show (10000 : Nat) = 9999 + 1 from rfl, run_equalIn_agg w 9999 56 _ _ hS hp]
  simp only [Program.fieldsOf, Tryz.underlying56]
  go_simp
  by_cases h0 : x0 = y0 <;> by_cases h1 : x1 = y1 <;> simp [ba_inj, h0, h1]
theorem guardNd : Tryz.prog.eqGuardType Tryz.prog.depth 56 = false := by kernel_rfl
theorem nd_ext {S T : List Nd} {n : Nat} (hs : S.length = n) (ht : T.length = n) (h : ∀ k, k < n → nP S k = nP T k ∧ nS S k = nS T k) : S = T := by
  apply List.ext_getElem (by omega)
  intro k h1 h2
  have h3 := h k (by omega)
  unfold nP nS at h3
  rw [List.getD_eq_getElem?_getD, List.getD_eq_getElem?_getD, List.getElem?_eq_getElem h1, List.getElem?_eq_getElem h2] at h3
  exact Prod.ext h3.1 h3.2
set_option maxRecDepth 100000 in
set_option maxHeartbeats 2000000 in
/-- Same, at any two trees. -/
theorem same2_any (a1 a2 : Option Addr) (n1 n2 c1 c2 : Nat) (S T : List Nd) (w : World) (hs : S.length = n1) (ht : T.length = n2) (hm : n1 ≤ 1152921504606846976) (hm2 : n2 ≤ 1152921504606846976) (hA : Rd w a1 (fl encNd S)) (hB : Rd w a2 (fl encNd T)) :
    Calls Tryz.prog 25 #[.slice a1 n1 c1, .slice a2 n2 c2] w fun e w' => e = .returned (.bool (decide (S = T))) ∧ ∃ n, w' = w.drewN n := by
  have HS := Lib.hid hs; clear hs
  have HT := Lib.hid ht; clear ht
  by_cases hl : n1 = n2
  · subst hl
    go_enter Tryz.func25, Tryz.ntmps25
    go_wp2_with fail
    go_loopw [5] (fun x wr => ∃ k : Nat, k ≤ n1 ∧ x = .int .i64 k ∧ Hid (∀ j, j < k → nP S j = nP T j ∧ nS S j = nS T j) ∧ ∃ m, wr = w.drewN m) (fun x _ => n1 - (intOf x).toNat)
    case atStart => exact ⟨0, by omega, rfl, fun j h => absurd h (by omega), 0, rfl⟩
    case round =>
      obtain ⟨k, hk, rfl, hE, m, rfl⟩ := hrel
      by_cases hlt : k < n1
      · obtain ⟨b1, o1, rfl, _, hc1⟩ := rdNd hA (by rw [HS.out]; omega)
        obtain ⟨b2, o2, rfl, _, hc2⟩ := rdNd hB (by rw [HT.out]; omega)
        obtain ⟨G1, G2⟩ := hc1 k (by rw [HS.out]; omega)
        obtain ⟨G3, G4⟩ := hc2 k (by rw [HT.out]; omega)
        clear hc1 hc2 hA hB
        obtain ⟨p, hp⟩ : ∃ p, p = nP S k := ⟨_, rfl⟩
        obtain ⟨s, hs⟩ : ∃ p, p = nS S k := ⟨_, rfl⟩
        obtain ⟨q, hq⟩ : ∃ p, p = nP T k := ⟨_, rfl⟩
        obtain ⟨u, hu⟩ : ∃ p, p = nS T k := ⟨_, rfl⟩
        rw [← hp] at G1
        rw [← hs] at G2
        rw [← hq] at G3
        rw [← hu] at G4
        have HH : Hid (p = nP S k ∧ s = nS S k ∧ q = nP T k ∧ u = nS T k) := ⟨hp, hs, hq, hu⟩
        clear hp hs hq hu
        have hgd := guardNd
        by_cases e : p = q ∧ s = u
        · obtain ⟨rfl, rfl⟩ := e
          have hn1 : ∀ W, (binOp .neq 56 (.agg #[.int .i64 p, .string s]) (.agg #[.int .i64 p, .string s])).run Tryz.prog W = .ok (.bool false) W := fun W => by rw [neqNd]; simp
          have HE2 : Hid (∀ j, j < k + 1 → nP S j = nP T j ∧ nS S j = nS T j) := fun j hj => by
            by_cases e : j = k
            · subst e
              obtain ⟨h1, h2, h3, h4⟩ := HH.out
              exact ⟨by rw [← h1, ← h3], by rw [← h2, ← h4]⟩
            · exact hE.out j (by omega)
          clear hE
          go_wp2_with fail
          go_quiet (fail)
          go_wp2_with fail
          go_roundw
          case rel => exact ⟨k + 1, by omega, by go_num, HE2, m + nq, by simp⟩
          case measure => simp [intOf]; omega
        · have hn1 : ∀ W, (binOp .neq 56 (.agg #[.int .i64 p, .string s]) (.agg #[.int .i64 q, .string u])).run Tryz.prog W = .ok (.bool true) W := fun W => by
            rw [neqNd]
            have : (decide (p = q) && decide (s = u)) = false := by
              rw [Bool.and_eq_false_iff, decide_eq_false_iff_not, decide_eq_false_iff_not]
              by_cases q1 : p = q
              · exact .inr fun q2 => e ⟨q1, q2⟩
              · exact .inl q1
            rw [this]; rfl
          have HNE : Hid (S ≠ T) := fun e2 => by
            obtain ⟨h1, h2, h3, h4⟩ := HH.out
            exact e ⟨by rw [h1, h3, e2], by rw [h2, h4, e2]⟩
          clear e hE
          go_wp2_with fail
          go_quiet (fail)
          go_wp2_with fail
          go_ret
          exact ⟨ret_b (decide_eq_false HNE.out).symm, m + nq, by simp⟩
      · have HE : Hid (S = T) := nd_ext HS.out HT.out (fun j hj => hE.out j (by omega))
        clear hE
        go_wp2_with fail
        go_ret
        exact ⟨ret_b (decide_eq_true HE.out).symm, m, rfl⟩
  · have t1 : ((n1 : Int) != (n2 : Int)) = true := by simp; omega
    have HNE : Hid (S ≠ T) := fun e => hl (by rw [← HS.out, ← HT.out, e])
    clear hl
    go_enter Tryz.func25, Tryz.ntmps25
    go_wp2_with fail
    go_ret
    exact ⟨ret_b (decide_eq_false HNE.out).symm, 0, rfl⟩
end Go.Proofs.YtfgkjofdgohacaaGreatDoor
namespace Go.Proofs.YtfgkjofdgohacaaGreatDoor
open Go.RowKit Go.Shelf
theorem mk2_1 : mk2 1 32 = 6148914691236517205 := by decide
theorem mk2_2 : mk2 2 16 = 3689348814741910323 := by decide
theorem mk2_4 : mk2 4 8 = 1085102592571150095 := by decide
theorem idiv (x k : Nat) : ((x : Int) / (k : Int)) = ((x / k : Nat) : Int) := by simp
structure Pops (x y1 y2 y3 : Nat) : Prop where
  s1 : y1 = (x / 2 &&& 6148914691236517205) + (x &&& 6148914691236517205)
  s2 : y2 = (y1 / 4 &&& 3689348814741910323) + (y1 &&& 3689348814741910323)
  s3 : y3 = (y2 / 16 + y2 &&& 1085102592571150095)
  b1 : y1 < 18446744073709551616
  b2 : y2 < 5764607523034234880
  last : y3 < 1152921504606846976 ∧ y3 + y3 / 256 < 1152921504606846976 ∧ (y3 + y3 / 256) + (y3 + y3 / 256) / 65536 < 1152921504606846976 ∧ ((y3 + y3 / 256) + (y3 + y3 / 256) / 65536) + ((y3 + y3 / 256) + (y3 + y3 / 256) / 65536) / 4294967296 < 1152921504606846976 + 268435456 ∧
    (((y3 + y3 / 256) + (y3 + y3 / 256) / 65536) + ((y3 + y3 / 256) + (y3 + y3 / 256) / 65536) / 4294967296) % 128 = cntB x 64
theorem pops_of {x : Nat} (hx : x < 18446744073709551616) : ∃ y1 y2 y3, Pops x y1 y2 y3 := by
  have h0 : DigOk 1 1 (2 * 32) x := digOk_of (k := 1) (n := 64) hx
  obtain ⟨d1, p1⟩ := pop_stage (k := 1) (d := 1) (by decide) (by decide) h0
  rw [mk2_1] at d1 p1
  obtain ⟨y1, hy1⟩ : ∃ y, (x / 2 ^ 1 &&& 6148914691236517205) + (x &&& 6148914691236517205) = y := ⟨_, rfl⟩
  rw [hy1] at d1 p1
  have h1 : DigOk 2 2 (2 * 16) y1 := d1
  obtain ⟨d2, p2⟩ := pop_stage (k := 2) (d := 2) (by decide) (by decide) h1
  rw [mk2_2] at d2 p2
  obtain ⟨y2, hy2⟩ : ∃ y, (y1 / 2 ^ 2 &&& 3689348814741910323) + (y1 &&& 3689348814741910323) = y := ⟨_, rfl⟩
  rw [hy2] at d2 p2
  have h2 : DigOk 4 4 (2 * 8) y2 := d2
  obtain ⟨d3, p3⟩ := pop_third h2
  rw [mk2_4] at d3 p3
  obtain ⟨y3, hy3⟩ : ∃ y, (y2 / 16 + y2 &&& 1085102592571150095) = y := ⟨_, rfl⟩
  rw [hy3] at d3 p3
  have l := pop_last d3
  have e1 : popD 2 32 y1 = popD 1 64 x := p1
  have e2 : popD 4 16 y2 = popD 2 32 y1 := p2
  have e3 : popD 8 8 y3 = popD 4 16 y2 := p3
  have b1 : y1 < 2 ^ (2 * 32) := h1.lt
  have b2 : y2 < 5764607523034234880 := by
    have h16 : DigOk 4 4 (15 + 1) y2 := d2
    have hdig : ∀ n x, DigOk 4 4 (n + 1) x → x < 5 * 16 ^ n := by
      intro n
      induction n with
      | zero => intro x h; have h1 := h.1; have h2 : x / 2 ^ 4 = 0 := h.2; simp at h1 h2 ⊢; omega
      | succ n ih =>
        intro x h
        have h1 : x % 16 ≤ 4 := h.1
        have h2 : x / 16 < 5 * 16 ^ n := ih _ h.2
        rw [Nat.pow_succ]
        omega
    have := hdig 15 y2 h16
    have e : 5 * 16 ^ 15 = 5764607523034234880 := by decide
    omega
  refine ⟨y1, y2, y3, hy1.symm, hy2.symm, hy3.symm, b1, b2, ?_⟩
  rw [cntB_pop, ← e1, ← e2, ← e3]
  exact l
end Go.Proofs.YtfgkjofdgohacaaGreatDoor
namespace Go.Proofs.YtfgkjofdgohacaaGreatDoor
open Go.RowKit Go.Shelf
theorem pop_m1 {x y1 : Nat} (hx : x < 18446744073709551616) (e : y1 = (x / 2 &&& 6148914691236517205) + (x &&& 6148914691236517205)) (hy : y1 < 18446744073709551616) :
    IntKind.u64.wrap (bits .and .u64 ((x : Int) / 2) 6148914691236517205 + bits .and .u64 (x : Int) 6148914691236517205) = (y1 : Int) := by
  have e1 : ((x : Int) / 2) = ((x / 2 : Nat) : Int) := by omega
  have b1 := bits_and (x := x / 2) (y := 6148914691236517205) (by omega) (by decide)
  have b2 := bits_and (x := x) (y := 6148914691236517205) hx (by decide)
  rw [e1]
  rw [show ((6148914691236517205 : Nat) : Int) = (6148914691236517205 : Int) from rfl] at b1 b2
  rw [b1, b2, show (((x / 2 &&& 6148914691236517205 : Nat) : Int) + ((x &&& 6148914691236517205 : Nat) : Int)) = (y1 : Int) by rw [e]; simp, w64 _ hy]
theorem pop_m2 {x y1 : Nat} (hx : x < 18446744073709551616) (e : y1 = (x / 4 &&& 3689348814741910323) + (x &&& 3689348814741910323)) (hy : y1 < 18446744073709551616) :
    IntKind.u64.wrap (bits .and .u64 ((x : Int) / 4) 3689348814741910323 + bits .and .u64 (x : Int) 3689348814741910323) = (y1 : Int) := by
  have e1 : ((x : Int) / 4) = ((x / 4 : Nat) : Int) := by omega
  have b1 := bits_and (x := x / 4) (y := 3689348814741910323) (by omega) (by decide)
  have b2 := bits_and (x := x) (y := 3689348814741910323) hx (by decide)
  rw [e1]
  rw [show ((3689348814741910323 : Nat) : Int) = (3689348814741910323 : Int) from rfl] at b1 b2
  rw [b1, b2, show (((x / 4 &&& 3689348814741910323 : Nat) : Int) + ((x &&& 3689348814741910323 : Nat) : Int)) = (y1 : Int) by rw [e]; simp, w64 _ hy]
theorem pop_m3 {x y3 : Nat} (hx : x < 5764607523034234880) (e : y3 = (x / 16 + x &&& 1085102592571150095)) :
    bits .and .u64 (IntKind.u64.wrap ((x : Int) / 16 + (x : Int))) 1085102592571150095 = (y3 : Int) := by
  have e1 : ((x : Int) / 16 + (x : Int)) = ((x / 16 + x : Nat) : Int) := by omega
  have b1 := bits_and (x := x / 16 + x) (y := 1085102592571150095) (by omega) (by decide)
  rw [show ((1085102592571150095 : Nat) : Int) = (1085102592571150095 : Int) from rfl] at b1
  rw [e1, w64 _ (by omega), b1, e]
theorem pop_m4 {y k : Nat} (hy : y + y / k < 18446744073709551616) : IntKind.u64.wrap ((y : Int) + (y : Int) / (k : Int)) = ((y + y / k : Nat) : Int) := by
  rw [show ((y : Int) + (y : Int) / (k : Int)) = ((y + y / k : Nat) : Int) by simp, w64 _ hy]
theorem pop_m4' {y : Nat} (k : Nat) (k' : Int) (e : k' = (k : Int)) (hy : y + y / k < 18446744073709551616) : IntKind.u64.wrap ((y : Int) + (y : Int) / k') = ((y + y / k : Nat) : Int) := by
  subst e; exact pop_m4 hy
theorem i64w {x : Nat} (h : x < 9223372036854775808) : IntKind.i64.wrap (x : Int) = (x : Int) := wrap_nat _ x rfl (by omega)
theorem and127 (y : Nat) : y &&& 127 = y % 128 := by
  have := Nat.and_two_pow_sub_one_eq_mod y 7
  simpa using this
theorem pop_m5 {y c : Nat} (hy : y < 9223372036854775808) (e : y % 128 = c) : bits .and .i64 (wrap64 (y : Int)) 127 = (c : Int) := by
  have h1 : wrap64 (y : Int) = (y : Int) := IntWalk.wrap64_in _ ⟨by omega, by omega⟩
  rw [h1]
  show IntKind.i64.wrap ((BitVec.ofInt 64 (y : Int) &&& BitVec.ofInt 64 ((127 : Nat) : Int)).toNat : Int) = _
  rw [BitVec.toNat_and, bv64 (by omega), bv64 (by decide), and127, e]
  exact i64w (by omega)
set_option maxHeartbeats 1000000 in
/-- OnesCount64 answers the number of bits set. -/
theorem ones_any (x : Nat) (w : World) (hx : x < 18446744073709551616) :
    Calls Tryz.prog 87 #[.int .u64 x] w (fun e w' => e = .returned (.int .i64 (cntB x 64)) ∧ w' = w) := by
  obtain ⟨y1, y2, y3, hp⟩ := pops_of hx
  have M1 := Lib.hid (pop_m1 hx hp.s1 hp.b1)
  have M2 := Lib.hid (pop_m2 hp.b1 hp.s2 (by have := hp.b2; omega))
  have M3 := Lib.hid (pop_m3 hp.b2 hp.s3)
  obtain ⟨l0, l1, l2, l3, l4⟩ := hp.last
  have M4 := Lib.hid (pop_m4' (y := y3) 256 256 rfl (by omega))
  obtain ⟨y4, hy4⟩ : ∃ y, y3 + y3 / 256 = y := ⟨_, rfl⟩
  rw [hy4] at M4 l1 l2 l3 l4
  have M5 := Lib.hid (pop_m4' (y := y4) 65536 65536 rfl (by omega))
  obtain ⟨y5, hy5⟩ : ∃ y, y4 + y4 / 65536 = y := ⟨_, rfl⟩
  rw [hy5] at M5 l2 l3 l4
  have M6 := Lib.hid (pop_m4' (y := y5) 4294967296 4294967296 rfl (by omega))
  obtain ⟨y6, hy6⟩ : ∃ y, y5 + y5 / 4294967296 = y := ⟨_, rfl⟩
  rw [hy6] at M6 l3 l4
  have M7 := Lib.hid (pop_m5 (by omega) l4)
  clear hx hp l0 l1 l2 l3 l4 hy4 hy5 hy6
  go_enter Tryz.func87, Tryz.ntmps87
  go_upto_region 2 with fail
  try rw [M1.out]
  go_upto_region 3 with fail
  try rw [M2.out]
  go_upto_region 4 with fail
  try rw [M3.out]
  go_upto_region 5 with fail
  try rw [M4.out]
  go_upto_region 6 with fail
  try rw [M5.out]
  go_upto_region 7 with fail
  try rw [M6.out]
  go_wp2_with fail
  go_ret
  exact ⟨ret_i M7.out, rfl⟩
/-- The order of sets: more languages first, then the lesser number. -/
def setBef (x y : Nat) : Bool := if cntB x 64 = cntB y 64 then decide (x < y) else decide (cntB y 64 < cntB x 64)
/-- What the program's comparison answers. -/
def setCmp (x y : Nat) : Int := if cntB y 64 = cntB x 64 then (if x < y then -1 else if y < x then 1 else 0) else (cntB y 64 : Int) - cntB x 64
end Go.Proofs.YtfgkjofdgohacaaGreatDoor
namespace Go.Proofs.YtfgkjofdgohacaaGreatDoor
open Go
/-- Operations that only read. -/
def calmB (o : Oper) : Bool := match o.op with
  | .move _ | .assign _ | .pick _ _ _ | .load _ _ | .nilCheck _ | .binOp _ _ _ _ _ | .unOp _ _ _ | .fieldAddr _ _ _ | .indexAddr _ _ _ | .field _ _ _ | .index _ _ _ => true
  | _ => false
/-- A value, or a halt. -/
def VH (s : Sem Next) : Prop := ∀ (P : Program) (w : World), (∃ v w', s.run P w = .ok (.value v) w') ∨ ∃ h w', s.run P w = .halt h w'
theorem VH.pure (v : Value) : VH (pure (.value v)) := fun _ w => .inl ⟨v, w, Sem.run_pure _ _ _⟩
theorem VH.bind {α : Type} {s : Sem α} {f : α → Sem Next} (h : ∀ a, VH (f a)) : VH (s >>= f) := fun P w => by
  rw [Sem.run_bind]
  cases s.run P w with
  | ok v w' => exact h v P w'
  | halt x w' => exact .inr ⟨x, w', by simp⟩
theorem VH.nilp : VH (runtimePanic .nilDeref : Sem Next) := fun P w => by
  right
  simp only [runtimePanic, goPanic]
  simp [go_sem]
theorem calm_vh {o : Oper} (h : calmB o = true) (ρ : Operand → Value) : VH (execOp ρ o) := by
  unfold calmB at h
  unfold execOp
  cases ho : o.op <;> rw [ho] at h <;> first | (cases h; done) | skip
  all_goals dsimp only
  all_goals first
    | exact VH.pure _
    | exact VH.bind fun _ => VH.pure _
    | (split
       · exact VH.nilp
       · exact VH.nilp
       · exact VH.nilp
       · split
         · exact VH.nilp
         · refine VH.bind fun _ => VH.bind fun _ => ?_
           split
           · exact VH.bind fun _ => VH.pure _
           · exact VH.pure _
         · exact VH.pure _
       · exact VH.pure _)
theorem calm_about {o : Oper} (h : calmB o = true) (P : Program) (w : World) (ρ : Operand → Value) : o.about P w ρ = none := by
  unfold calmB at h
  unfold Oper.about
  cases ho : o.op <;> rw [ho] at h <;> first | (cases h; done) | rfl
theorem calm_sem {o : Oper} (h : calmB o = true) (r : Option Nat) (ρ : Operand → Value) : Oper.semAt r ρ o = execOp ρ o := Oper.semAt_eq r ρ o fun c e => by
  unfold calmB at h
  rw [e] at h; cases h
section
variable {F : Fence} {n : Nat} {P : Program} {ops : Array Oper} {Q : Exit → Act → World → Prop} {md : Region.Mode}
/-- Nothing but the plain end. -/
def OnlyN (Q : Exit → Act → World → Prop) : Exit → Act → World → Prop := fun e a w => e = .normal ∧ Q .normal a w
theorem onlyN_lets : ¬ LetsOut (OnlyN Q) := fun ⟨_, _, h, _⟩ => by cases h
theorem calm_wp {o : Oper} (hc : calmB o = true) {a : Act} {w : World} {K K' : Act → World → Prop} (hK : ∀ a w, K a w → K' a w) (h : o.wp P a w K (OnlyN Q)) : o.wpIn F n P a w K' Q := by
  refine ⟨fun f hf => absurd hf (by rw [calm_about hc]; exact fun h => by cases h), ?_⟩
  rw [calm_sem hc]
  unfold Oper.wp at h
  rcases calm_vh hc a.eval P w with ⟨v, w', e⟩ | ⟨x, w', e⟩
  · rw [e] at h ⊢
    exact hK _ _ h
  · rw [e] at h
    cases x <;> first | exact h.elim | (exact absurd h.1 (by intro h; cases h))
theorem calm_any (hc : ∀ (i : Nat) (o : Oper), ops[i]? = some o → calmB o = true) : ∀ (f : Nat) (listed : Array Bool) (a : Act) (w : World), wpAny P md ops (OnlyN Q) f listed a w → wpAnyIn F n P md ops Q f listed a w
  | 0, listed, a, w, h => ⟨h.1, h.2.2⟩
  | f + 1, listed, a, w, h => by
    refine ⟨fun h0 => (h.1 h0).2, fun i hi => ?_⟩
    have h1 := h.2 i hi
    unfold wpOp at h1
    unfold wpOpIn
    cases ho : ops[i]? with
    | none => rw [ho] at h1; exact calm_any hc f _ a w h1
    | some o =>
      rw [ho] at h1
      dsimp only at h1 ⊢
      by_cases hw : Region.wanted o (yielded ops a.tmps) = true
      · rw [if_pos hw] at h1 ⊢
        rcases h1 with h1 | h1
        · exact calm_wp (hc i o ho) (fun a' w' h' => calm_any hc f _ a' w' h') h1
        · exact absurd h1.2 onlyN_lets
      · rw [if_neg hw] at h1 ⊢
        exact ⟨fun g hf => absurd hf (by rw [calm_about (hc i o ho)]; exact fun h => by cases h), calm_any hc f _ _ w h1⟩
theorem wpIn_region_calm {id : Nat} {a : Act} {w : World} {l : List Oper} (hm : P.follows .mixedOrders = true) (hB : Region.lexB .any l.toArray = true) (hc : l.all calmB = true)
    (h : wpQuiet P l.toArray (fun w' => ∃ n, w' = w.drewN n) (fun a' => ∀ w', (∃ n, w' = w.drewN n) → Q .normal a' w') l a) : (Code.region id l.toArray true).wpIn F n P Q a w := by
  refine wpIn_region_any hm (calm_any (fun i o ho => ?_) _ _ _ _ ?_)
  · rw [List.all_eq_true] at hc
    exact hc o (by rw [List.getElem?_toArray] at ho; exact List.mem_of_getElem? ho)
  · simp only [Region.lexB, Bool.and_eq_true] at hB
    refine wpAny_of_quiet (C := fun w' => ∃ n, w' = w.drewN n) (Q := fun a' => ∀ w', (∃ n, w' = w.drewN n) → Q .normal a' w') (fun _ w' hw' h => ⟨rfl, h w' hw'⟩) _ _ _ _ ⟨1, rfl⟩ ?_
    have := wpAnyQ_lex (C := fun w' => ∃ n, w' = w.drewN n) (md := .any) hB.1 l 0 (Array.replicate l.toArray.size false) a (by simp) (by simpa using hB.2) h
    simpa using this
end
end Go.Proofs.YtfgkjofdgohacaaGreatDoor
namespace Go.Proofs.YtfgkjofdgohacaaGreatDoor
open Go
section
variable {n r : Nat} {P : Program} {ops : Array Oper} {Q : Exit → Act → World → Prop} {md : Region.Mode}
theorem rows_wide {row : String} {args : Array Value} {w : World} {R : Value → World → Prop} (h : Rows P row args w R) : RowsIn (Fence.wide.inRound r) n P row args w R :=
  fun c cs _ => let ⟨v, w', q, s⟩ := h c cs; ⟨v, w', q, stepsIn_wide.2 s⟩
theorem wide_uponIn {o : Oper} {a : Act} {K : Act → World → Prop} : ∀ (x : Result Next), o.upon P a K Q x → o.uponIn (Fence.wide.inRound r) n P a K Q x
  | .ok (.value v) w', h => h
  | .ok .skip w', h => h
  | .ok (.defer d) w', h => h
  | .ok (.enter f args) w', h => ⟨(fun e => by cases e), CallsIn.inRound r (callsIn_wide.2 h)⟩
  | .ok (.row row args) w', h => ⟨(fun e => by cases e), rows_wide h⟩
  | .ok (.round _ _ _ _ _) _, h => False.elim h
  | .halt (.panic v) w', h => h
  | .halt (.stuck _) _, h => False.elim h
theorem wide_wpIn {o : Oper} (hnd : ∀ c, o.op ≠ .defer c) {a : Act} {w : World} {K : Act → World → Prop} (h : o.wp P a w K Q) : o.wpIn (Fence.wide.inRound r) n P a w K Q := by
  refine ⟨fun _ _ => trivial, ?_⟩
  rw [Oper.semAt_eq _ _ _ hnd]
  exact wide_uponIn _ h
/-- No operation puts a call off. -/
def noDefer (o : Oper) : Bool := match o.op with | .defer _ => false | _ => true
theorem noDefer_ne {o : Oper} (h : noDefer o = true) : ∀ c, o.op ≠ .defer c := fun c e => by unfold noDefer at h; rw [e] at h; cases h
theorem wide_any (hq : ¬ LetsOut Q) (hd : ∀ (i : Nat) (o : Oper), ops[i]? = some o → noDefer o = true) : ∀ (f : Nat) (listed : Array Bool) (a : Act) (w : World), wpAny P md ops Q f listed a w → wpAnyIn (Fence.wide.inRound r) n P md ops Q f listed a w
  | 0, listed, a, w, h => h
  | f + 1, listed, a, w, h => by
    refine ⟨h.1, fun i hi => ?_⟩
    have h1 := h.2 i hi
    unfold wpOp at h1
    unfold wpOpIn
    cases ho : ops[i]? with
    | none => rw [ho] at h1; exact wide_any hq hd f _ a w h1
    | some o =>
      rw [ho] at h1
      dsimp only at h1 ⊢
      by_cases hw : Region.wanted o (yielded ops a.tmps) = true
      · rw [if_pos hw] at h1 ⊢
        rcases h1 with h1 | h1
        · exact wide_wpIn (noDefer_ne (hd i o ho)) (Oper.wp_mono (fun a' w' h' => wide_any hq hd f _ a' w' h') h1)
        · exact absurd h1.2 hq
      · rw [if_neg hw] at h1 ⊢
        exact ⟨fun _ _ => trivial, wide_any hq hd f _ _ w h1⟩
theorem wpIn_region_quietW {id : Nat} {a : Act} {w : World} {l : List Oper} (hm : P.follows .mixedOrders = true) (hB : Region.lexB .any l.toArray = true) (hd : l.all noDefer = true)
    (h : wpQuiet P l.toArray (fun w' => ∃ n, w' = w.drewN n) (fun a' => ∀ w', (∃ n, w' = w.drewN n) → Q .normal a' w') l a) : (Code.region id l.toArray true).wpIn (Fence.wide.inRound r) n P Q a w := by
  refine wpIn_mono (Q := OnlyN Q) (wpIn_region_any hm (wide_any onlyN_lets (fun i o ho => ?_) _ _ _ _ ?_)) fun e a w he => by obtain ⟨rfl, h⟩ := he; exact h
  · rw [List.all_eq_true] at hd
    exact hd o (by rw [List.getElem?_toArray] at ho; exact List.mem_of_getElem? ho)
  · simp only [Region.lexB, Bool.and_eq_true] at hB
    refine wpAny_of_quiet (C := fun w' => ∃ n, w' = w.drewN n) (Q := fun a' => ∀ w', (∃ n, w' = w.drewN n) → Q .normal a' w') (fun _ w' hw' h => ⟨rfl, h w' hw'⟩) _ _ _ _ ⟨1, rfl⟩ ?_
    have := wpAnyQ_lex (C := fun w' => ∃ n, w' = w.drewN n) (md := .any) hB.1 l 0 (Array.replicate l.toArray.size false) a (by simp) (by simpa using hB.2) h
    simpa using this
theorem wpIn_quiet_tailW {n' : Nat} {C : World → Prop} {id : Nat} {a : Act} {w : World} {l : List Oper} (n : Nat) (hm : P.follows .mixedOrders = true) (hB : Region.lexTailB .any l.toArray n = true) (hd : l.all noDefer = true) (hC : C { w with drawn := w.drawn + 1 })
    (h : wpQuiet P l.toArray C (fun a' => ∀ w', C w' → wpList P l.toArray (OnlyN Q) (l.drop n) a' w') (l.take n) a) : (Code.region id l.toArray true).wpIn (Fence.wide.inRound r) n' P Q a w := by
  simp only [Region.lexTailB, Bool.and_eq_true, decide_eq_true_eq] at hB
  obtain ⟨⟨⟨⟨hsel, hn⟩, hs⟩, hc⟩, hlex⟩ := hB
  have hnl : n < l.length := by simpa using hn
  have htl : (l.take n).length = n := by simp; omega
  have hdl : (l.drop n).length = l.toArray.size - n := by simp
  have inv0 : HeadInv .any l.toArray n (Array.replicate l.toArray.size false) :=
    ⟨by simp, fun j oj _ hl => (by rw [getD_replicate_false] at hl; cases hl), fun t _ ht => getD_in (by simpa using ht) (getD_replicate_false _ _)⟩
  have H := anyLQ_lex (md := .any) (C := C) (g := l.toArray.size - n) hsel hs hc hn (l.take n) 0 _ a (fun j hj => by
    have hj' : j < n := by rw [htl] at hj; exact hj
    simp [hj']) (by simpa using htl) inv0 (by rw [htl]; exact hlex) h
  refine wpIn_mono (Q := OnlyN Q) (wpIn_region_any hm (wide_any onlyN_lets (fun i o ho => ?_) _ _ _ _ ?_)) fun e a w he => by obtain ⟨rfl, h⟩ := he; exact h
  · rw [List.all_eq_true] at hd
    exact hd o (by rw [List.getElem?_toArray] at ho; exact List.mem_of_getElem? ho)
  have := any_of_LQ (Q' := OnlyN Q) (C := C) (g := l.toArray.size - n) (fun listed a' w' hw' hL => by
    have := wpAny_of_seq (md := .any) (Q' := OnlyN Q) (l.drop n) n listed a' w' (fun j => by simp [List.getElem?_drop]) (by rw [hdl]; exact hL.1) (hL.2 w' hw')
    rwa [hdl] at this) _ _ _ _ hC H
  rw [htl, show n + (l.toArray.size - n) = l.toArray.size by omega] at this
  exact this

end
end Go.Proofs.YtfgkjofdgohacaaGreatDoor
namespace Go.Proofs.YtfgkjofdgohacaaGreatDoor
end Go.Proofs.YtfgkjofdgohacaaGreatDoor
namespace Go.Proofs.YtfgkjofdgohacaaGreatDoor
open Go Go.RowKit Go.Shelf Go.Maps
attribute [local go_sem] Oper.semAt_some
theorem info_RU : (Tryz.prog.info? 37).map (fun i => (i.zero, i.size, i.bytes)) = some (some (.slice none 0 0), 1, 24) := by kernel_rfl
theorem rows_made4 (n : Nat) : madeCells #[Value.slice none 0 0] n = ofF n (fun _ => .slice none 0 0) := by
  apply Array.ext
  · simp [madeCells, ofF]
  · intro i h1 h2
    simp [madeCells, ofF, Nat.mod_one]
/-- A row's slice, or none yet. -/
def rwV (rows : Nat → Nat) (L i q : Nat) : Value := if q < i then .slice (some ⟨rows q, 0, none⟩) L L else .slice none 0 0
/-- The rows made so far. -/
structure JnI (w1 : World) (G L : Nat) (J : Nat → Nat → Nat) (rows : Nat → Nat) (m i : Nat) (Ds : List Nat) (W : World) : Prop where
  gb : w1.grownBy W (some G)
  out : Blk W G (ofF L (rwV rows L m)) 37
  row : ∀ q, q < i → w1.heap.size ≤ rows q ∧ Blk W (rows q) (ofF L fun r => .int .u64 ((J q r : Nat) : Int)) 41
  ds : ∀ D ∈ Ds, w1.heap.size ≤ D ∧ W.heap[D]? = some (Obj.deferred (some []))
  nd : Ds.Nodup
/-- A row's slice is laid. -/
theorem JnI.lay {w1 W W9 : World} {G L i g : Nat} {J : Nat → Nat → Nat} {rows : Nat → Nat} {Ds : List Nat} (h : JnI w1 G L J rows i i Ds W) (hb : Below W.heap.size W W9) (hG : G < w1.heap.size) (hi : i < L) :
    JnI w1 G L J (fun q => if q = i then g else rows q) (i + 1) i Ds (W9.setCell ⟨G, i, none⟩ (.slice (some ⟨g, 0, none⟩) L L)) := by
  refine ⟨gb_set (gb_below h.gb hb) _ _, ?_, fun q hq => ?_, fun D hD => ?_, h.nd⟩
  · have h1 := (h.out.below hb).setF i (.slice (some ⟨g, 0, none⟩) L L)
    rwa [show (ofF L fun j => if j = i then Value.slice (some ⟨g, 0, none⟩) L L else rwV rows L i j) = ofF L (rwV (fun q => if q = i then g else rows q) L (i + 1)) from ofF_congr fun q _ => by
      unfold rwV
      by_cases e : q = i
      · subst e; simp
      · rw [if_neg e]
        by_cases e2 : q < i
        · rw [if_pos e2, if_pos (by omega)]; dsimp only; rw [if_neg e]
        · rw [if_neg e2, if_neg (by omega)]] at h1
  · rw [if_neg (by omega)]
    obtain ⟨h1, h2⟩ := h.row q hq
    exact ⟨h1, (h2.below hb).other (by omega) _ _⟩
  · obtain ⟨h1, h2⟩ := h.ds D hD
    refine ⟨h1, (Below.heap_setCell _ _ _ D (fun e => ?_)).trans ((hb.block D (Array.getElem?_eq_some_iff.1 h2).1).trans h2)⟩
    have e2 : D = G := e
    omega
theorem MU.kept_blk {w W : World} {b m R : Nat} {S : List Nat} (h : MU w b m S) (hg : w.grownBy W (some R)) (hw : ∃ cs' ty', Blk w R cs' ty') : MU W b m S := h.kept hg (fun e => by
  obtain ⟨es, cl, hbk⟩ := h.blk
  obtain ⟨cs', ty', h3⟩ := hw
  unfold Blk at h3
  rw [Option.some.inj e, h3] at hbk; cases hbk)
/-- Row i, its first k numbers made. -/
structure JnK (w2 : World) (g L : Nat) (f : Nat → Nat) (k : Nat) (Ds Es : List Nat) (W : World) : Prop where
  gb : w2.grownBy W (some g)
  row : Blk W g (ofF L fun r => .int .u64 (((if r < k then f r else 0) : Nat) : Int)) 41
  ds : ∀ D ∈ Es, w2.heap.size ≤ D ∧ W.heap[D]? = some (Obj.deferred (some []))
  nd : Es.Nodup
theorem JnK.next {w2 W w6 W' : World} {g L k D : Nat} {f : Nat → Nat} {Ds Es : List Nat} (h : JnK w2 g L f k Ds Es W) (hg2 : g < w2.heap.size) (hb : Below W.heap.size W w6) (hg : w6.grownBy W' (some g)) (hrow : Blk W' g (ofF L fun r => .int .u64 (((if r < k + 1 then f r else 0) : Nat) : Int)) 41) (hD : w6.heap.size ≤ D) (hKD : W'.heap[D]? = some (Obj.deferred (some []))) : JnK w2 g L f (k + 1) Ds (D :: Es) W' := by
  have hz := h.gb.size
  have hz2 := hb.size
  refine ⟨gb_trans (gb_below h.gb hb) hg, hrow, fun D' hD' => ?_, ?_⟩
  · rcases List.mem_cons.1 hD' with rfl | hD'
    · exact ⟨by omega, hKD⟩
    · obtain ⟨h1, h2⟩ := h.ds D' hD'
      have h3 := (Array.getElem?_eq_some_iff.1 h2).1
      exact ⟨h1, (hg.block D' (by omega) (fun e => by have := Option.some.inj e; omega)).trans ((hb.block D' h3).trans h2)⟩
  · refine List.nodup_cons.2 ⟨fun hm => ?_, h.nd⟩
    obtain ⟨h1, h2⟩ := h.ds D hm
    have h3 := (Array.getElem?_eq_some_iff.1 h2).1
    omega
theorem JnI.up {w1 w2 W : World} {G L i g : Nat} {J : Nat → Nat → Nat} {rows : Nat → Nat} {Ds Es : List Nat} (h : JnI w1 G L J rows (i + 1) i Ds w2) (hk : JnK w2 g L (J i) L Ds Es W) (hg : w1.heap.size ≤ g) (hgG : G ≠ g) (hri : rows i = g) (hrq : ∀ q, q < i → rows q ≠ g) (hgb : ∃ cs ty, Blk w2 g cs ty) : JnI w1 G L J rows (i + 1) (i + 1) (Es ++ Ds) W := by
  refine ⟨grownBy_own h.gb hk.gb (fun r e => by cases e; exact hg), h.out.grown hk.gb (fun e => hgG (Option.some.inj e)), fun q hq => ?_, fun D hD => ?_, ?_⟩
  · by_cases e : q = i
    · subst e
      rw [hri]
      refine ⟨hg, ?_⟩
      have h1 := hk.row
      rwa [show (ofF L fun r => Value.int .u64 (((if r < L then J q r else 0) : Nat) : Int)) = ofF L fun r => .int .u64 ((J q r : Nat) : Int) from ofF_congr fun r hr => by rw [if_pos hr]] at h1
    · obtain ⟨h1, h2⟩ := h.row q (by omega)
      exact ⟨h1, h2.grown hk.gb (fun e2 => hrq q (by omega) (Option.some.inj e2))⟩
  · rcases List.mem_append.1 hD with hD | hD
    · obtain ⟨h1, h2⟩ := hk.ds D hD
      exact ⟨Nat.le_trans h.gb.size h1, h2⟩
    · obtain ⟨h1, h2⟩ := h.ds D hD
      refine ⟨h1, (hk.gb.block D (Array.getElem?_eq_some_iff.1 h2).1 (fun e => ?_)).trans h2⟩
      obtain ⟨cs, ty, hb⟩ := hgb
      unfold Blk at hb
      rw [← Option.some.inj e, h2] at hb
      cases hb
  · refine List.nodup_append.2 ⟨hk.nd, h.nd, fun a ha b hb e => ?_⟩
    obtain ⟨h1, _⟩ := hk.ds a ha
    obtain ⟨_, h2⟩ := h.ds b hb
    have h3 := (Array.getElem?_eq_some_iff.1 h2).1
    omega
theorem fl_R4 (l : List Rw) : fl encR l = l.map slR := by
  induction l with
  | nil => rfl
  | cons a l ih =>
    have : fl encR (a :: l) = encR a ++ fl encR l := by simp [fl]
    rw [this, ih]; rfl
theorem rd_ofF4 {w : World} {B n : Nat} {f : Nat → Value} {ty : TypeId} (h : Blk w B (ofF n f) ty) : Rd w (some ⟨B, 0, none⟩) ((List.range n).map f) := by
  refine rd_of_blk4 (t := ty) ?_
  have e : ((List.range n).map f).toArray = ofF n f := by
    apply Array.ext
    · simp [ofF]
    · intro i h1 h2
      simp [ofF]
  rw [e]; exact h
theorem JnI.fin {w1 W w' : World} {G L : Nat} {J : Nat → Nat → Nat} {rows : Nat → Nat} {Ds : List Nat} (h : JnI w1 G L J rows L L Ds W) (ht : Trn Ds W w') (_ : G < w1.heap.size) : JnR w' (some ⟨G, 0, none⟩) L J ((List.range L).map fun q => ((some ⟨rows q, 0, none⟩, L, L) : Rw)) := by
  have hb : ∀ {B : Nat} {cs : Array Value} {ty : TypeId}, Blk W B cs ty → Blk w' B cs ty := fun {B cs ty} hx => (ht.block B (fun hm => by
    have h1 := (h.ds B hm).2
    unfold Blk at hx
    rw [h1] at hx; cases hx)).trans hx
  refine ⟨by simp, ?_, fun i hi => ⟨by simp [rN, hi], ?_⟩⟩
  · rw [fl_R4, List.map_map]
    have h1 := rd_ofF4 (hb h.out)
    rwa [show (List.range L).map (rwV rows L L) = (List.range L).map (slR ∘ fun q => ((some ⟨rows q, 0, none⟩, L, L) : Rw)) from List.map_congr_left fun q hq => by simp [rwV, slR, List.mem_range.1 hq]] at h1
  · rw [show rA ((List.range L).map fun q => ((some ⟨rows q, 0, none⟩, L, L) : Rw)) i = some ⟨rows i, 0, none⟩ by simp [rA, hi], fl_V, List.map_map]
    exact rd_ofF4 (hb (h.row i hi).2)
/-- The smallest set of two leaves among those that came. -/
def jnP (i k : Nat) (pre : List U64) : Nat := jnS i k (pre.map Fin.val)
theorem jnS_lt {B : Nat} (i k : Nat) (hB : 0 < B) (S : List Nat) : (∀ x ∈ S, x < B) → jnS i k S < B :=
  snoc_rec (P := fun S => (∀ x ∈ S, x < B) → jnS i k S < B) (fun _ => hB) (fun l x ih h => by
    rw [jnS_snoc]
    split
    · exact h x (by simp)
    · exact ih fun y hy => h y (by simp [hy])) S
theorem jnP_lt (i k : Nat) (pre : List U64) : jnP i k pre < 18446744073709551616 :=
  jnS_lt i k (by omega) _ fun x hx => by
    obtain ⟨y, _, rfl⟩ := List.mem_map.1 hx
    exact y.isLt
theorem jnP_next (i k : Nat) (pre : List U64) (x : Nat) (hx : x < 18446744073709551616) : jnP i k (pre ++ [⟨x, hx⟩]) = if x.testBit i && x.testBit k && (decide (jnP i k pre = 0) || decide (cntB x 64 < cntB (jnP i k pre) 64)) then x else jnP i k pre := by
  unfold jnP
  rw [List.map_append]
  exact jnS_snoc i k x _
set_option maxRecDepth 100000 in
set_option maxHeartbeats 2000000 in
theorem joined_any (x : Shp) (t : List Nd) (base : Nat) (w : World) (hok : TreeOk t) (h : ShOk w base x t) :
    Calls Tryz.prog 46 #[.agg (encSh x).toArray] w fun e w' => ∃ A c rs, e = .returned (.slice A (lvT t).length c) ∧ JnR w' A (lvT t).length (fun i k => jnS i k (clsL t)) rs ∧ Below w.heap.size w w' := by
  obtain ⟨⟨xa, xn, xc⟩, ⟨ya, yn, yc⟩, xm⟩ := x
  obtain rfl : xn = _ := h.n1
  have hl2 := lvT_le63 hok
  have HX := Lib.hid h
  have HOK := Lib.hid hok
  obtain ⟨L, hL⟩ : ∃ L, L = (lvT t).length := ⟨_, rfl⟩
  rw [← hL] at hl2
  have HL := Lib.hid hL
  rw [show (encSh ((xa, (lvT t).length, xc), (ya, yn, yc), xm)).toArray = #[.slice xa (lvT t).length xc, .slice ya yn yc, .map (some xm)] from rfl, ← hL]
  clear h hok hL
  refine (callsIn_wide (n := 10)).1 ?_
  refine callsIn_of_wp_marks Tryz.func46 rfl trivial ?_ rfl
  simp only [Tryz.ntmps46, List.size_toArray, List.length_cons, List.length_nil, Nat.reduceAdd, Nat.reduceSub, Array.replicate_succ, Array.replicate_zero, List.push_toArray, List.append_toArray, List.nil_append, List.cons_append]
  refine wpIn_wide.2 ?_
  go_upto_region 1 with fail
  obtain ⟨w0, hw0⟩ : ∃ y, y = w.alloc (.cells #[.slice xa L xc, .slice ya yn yc, .map (some xm)] 69) := ⟨_, rfl⟩
  have HX0 : Hid (Blk w0 w.heap.size #[.slice xa L xc, .slice ya yn yc, .map (some xm)] 69) := by
    show Blk _ _ _ _
    rw [hw0]; exact Blk.new w _ _
  have HB0 : Hid (Below w.heap.size w w0) := by
    show Below _ _ _
    rw [hw0]; exact bl_alloc (Below.refl _ w) _
  rw [← hw0]
  obtain ⟨R0, hR0⟩ : ∃ y, y = w.heap.size := ⟨_, rfl⟩
  rw [← hR0] at HX0 ⊢
  have HR0 := Lib.hid hR0
  clear hw0 hR0
  have x0 : w0.cell? ⟨R0, 0, none⟩ = some (.slice xa L xc) := HX0.out.cell 0
  obtain ⟨i0, hi0, hz0, hz1, hz2⟩ := info_parts info_RU
  have hmk := run_make (P := Tryz.prog) w0 72 37 i0 _ Tryz.underlying72 hi0 hz0 .i64 .i64 (L : Int) (L : Int) (by omega) (by omega) (by rw [hz2]; omega) (by omega)
  simp only [hz1, Int.toNat_natCast, Nat.mul_one] at hmk
  clear hi0 hz0 hz1 hz2
  go_upto_region 2 with fail
  obtain ⟨G, hG⟩ : ∃ y, y = w0.heap.size := ⟨_, rfl⟩
  obtain ⟨w1, hw1⟩ : ∃ y, y = (w0.alloc (.cells (madeCells #[.slice none 0 0] L) 37)).alloc (.cells #[.slice (some ⟨w0.heap.size, 0, none⟩) L L] 72) := ⟨_, rfl⟩
  have HG1 : Hid (Blk w1 G (ofF L fun _ => .slice none 0 0) 37) := by
    have h := (Blk.new w0 (madeCells #[.slice none 0 0] L) 37).alloc (.cells #[.slice (some ⟨w0.heap.size, 0, none⟩) L L] 72)
    rw [← hw1, ← hG, rows_made4] at h
    exact h
  have HX1 : Hid (Blk w1 (G + 1) #[.slice (some ⟨G, 0, none⟩) L L] 72) := by
    have h := Blk.new2 w0 (.cells (madeCells #[.slice none 0 0] L) 37) #[.slice (some ⟨w0.heap.size, 0, none⟩) L L] 72
    rw [← hw1, ← hG] at h
    exact h
  have HB1 : Hid (Below w0.heap.size w0 w1) := by
    show Below _ _ _
    rw [hw1]; exact bl_alloc (bl_alloc (Below.refl _ _) _) _
  have HZ1 : Hid (w1.heap.size = G + 2) := by
    show _ = _
    rw [hw1, hG]; simp
  rw [← hw1, ← hG]
  have HRG : Hid (R0 < G) := by show _ < _; rw [hG]; exact HX0.out.lt
  have HGE := Lib.hid hG
  have HX01 := Lib.hid (HX0.out.below HB1.out)
  have HM1 := Lib.hid (HX.out.set.bl (bl_trans HB0.out HB1.out))
  clear hw1 hG hmk x0
  have x3 : w1.cell? ⟨G + 1, 0, none⟩ = some (.slice (some ⟨G, 0, none⟩) L L) := HX1.out.cell 0
  go_wp2_with fail
  clear x3
  obtain ⟨J, hJe⟩ : ∃ J : Nat → Nat → Nat, J = fun i k => jnS i k (clsL t) := ⟨_, rfl⟩
  have HJE := Lib.hid hJe
  clear hJe
  have HI0 : Hid (JnI w1 G L J (fun _ => 0) 0 0 [] w1) := ⟨gb_refl _ _, by have h := HG1.out; rwa [show (ofF L fun _ => Value.slice none 0 0) = ofF L (rwV (fun _ => 0) L 0) from ofF_congr fun q _ => by simp [rwV]] at h, fun q hq => absurd hq (by omega), (fun D h => (by cases h)), List.nodup_nil⟩
  refine wp_loop_ghost_k (fun r act W => ∃ (i : Nat) (Ds : List Nat) (u : Nat → Value), r = L - i ∧ i ≤ L ∧ act = { tmps := #[.agg #[.slice xa L xc, .slice ya yn yc, .map (some xm)], .pointer (some ⟨R0, 0, none⟩), .slice none 0 0, .pointer (some ⟨G + 1, 0, none⟩), u 4, u 5, u 6, .pointer (some ⟨R0, 0, none⟩), .slice xa L xc, .int .i64 L, .slice (some ⟨G, 0, none⟩) L L, .slice (some ⟨G, 0, none⟩) L L, .int .i64 L, .int .i64 i, u 14, u 15, u 16, u 17, u 18, u 19, u 20, u 21, u 22, u 23, u 24, u 25, u 26, u 27, u 28, u 29, u 30, u 31, u 32, u 33, u 34, u 35, u 36, u 37, u 38, u 39, u 40, u 41, u 42, u 43, u 44, u 45, u 46, u 47, u 48, u 49, u 50, u 51, u 52, u 53, u 54, u 55, u 56, u 57, u 58, u 59, u 60, u 61, u 62, u 63, u 64, u 65, u 66, u 67, u 68, u 69, u 70, u 71, u 72, u 73, u 74, u 75, u 76, u 77, u 78, u 79], defers := dfs Ds } ∧ ∃ rows, Hid (JnI w1 G L J rows i i Ds W)) L ?start ?round
  case start => exact ⟨0, [], fun _ => undef, rfl, by omega, rfl, _, HI0⟩
  case round =>
    clear HI0
    rintro r act W ⟨i, Ds, u, rfl, hi, rfl, rows, HI⟩ J' K hJ hK
    have HRI : Hid (w1.heap.size ≤ W.heap.size) := HI.out.gb.size
    have HXW : Hid (Blk W (G + 1) #[.slice (some ⟨G, 0, none⟩) L L] 72) := HX1.out.grown HI.out.gb (fun e => by have := Option.some.inj e; omega)
    have x3 : W.cell? ⟨G + 1, 0, none⟩ = some (.slice (some ⟨G, 0, none⟩) L L) := HXW.out.cell 0
    by_cases hlt : i < L
    · go_upto_region 5 with fail
      obtain ⟨wi, hwi⟩ : ∃ y, y = W.alloc (.cells #[.int .i64 i] 3) := ⟨_, rfl⟩
      rw [← hwi]
      obtain ⟨H, hH⟩ : ∃ y, y = W.heap.size := ⟨_, rfl⟩
      have HXi : Hid (Blk wi (G + 1) #[.slice (some ⟨G, 0, none⟩) L L] 72) := by
        show Blk _ _ _ _
        rw [hwi]; exact HXW.out.alloc _
      have HHi : Hid (Blk wi H #[.int .i64 i] 3) := by
        show Blk _ _ _ _
        rw [hwi, hH]; exact Blk.new W _ _
      have HRi : Hid (Blk wi R0 #[.slice xa L xc, .slice ya yn yc, .map (some xm)] 69) := by
        show Blk _ _ _ _
        rw [hwi]; exact (HX01.out.grown HI.out.gb (fun e => by have := Option.some.inj e; have := HRG.out; omega)).alloc _
      have HBi : Hid (Below W.heap.size W wi) := by
        show Below _ _ _
        rw [hwi]; exact bl_alloc (Below.refl _ _) _
      have HZi : Hid (wi.heap.size = H + 1) := by
        show _ = _
        rw [hwi, hH]; simp
      rw [← hH]
      have HHE := Lib.hid hH
      clear hwi hH x3
      have e3 : wi.cell? ⟨G + 1, 0, none⟩ = some (.slice (some ⟨G, 0, none⟩) L L) := HXi.out.cell 0
      have e4 : wi.cell? ⟨H, 0, none⟩ = some (.int .i64 i) := HHi.out.cell 0
      have e0 : wi.cell? ⟨R0, 0, none⟩ = some (.slice xa L xc) := HRi.out.cell 0
      obtain ⟨i0, hi0, hz0, hz1, hz2⟩ := info_parts info_V
      have hmk := run_make (P := Tryz.prog) wi.drew 37 41 i0 _ Tryz.underlying37 hi0 hz0 .i64 .i64 (L : Int) (L : Int) (by omega) (by omega) (by rw [hz2]; omega) (by omega)
      simp only [hz1, Int.toNat_natCast, Nat.mul_one] at hmk
      clear hi0 hz0 hz1 hz2
      refine wp_region_order (S := fun w' => w'.cell? ⟨G + 1, 0, none⟩ = some (.slice (some ⟨G, 0, none⟩) L L) ∧ w'.cell? ⟨H, 0, none⟩ = some (.int .i64 i) ∧ w'.cell? ⟨R0, 0, none⟩ = some (.slice xa L xc)) 6 [0,1,2,3,4] [5] (by kernel_rfl) (by kernel_rfl) ⟨e3, e4, e0⟩ ?_
      iterate 5 (refine headT_cons (by rfl) (by rfl) (by intro w hSw; obtain ⟨s0, s1, s2⟩ := hSw; go_simp; try rfl) ?_; simp only [Act.put, List.setIfInBounds_toArray, List.set_cons_zero, List.set_cons_succ])
      refine headT_nil ?_
      refine midT_cons (by rfl) (fun K hK => ?_)
      rw [if_pos (by rfl)]
      go_simp
      have HW9 : Hid (Below wi.heap.size wi (wi.drew.alloc (.cells (madeCells #[.int .u64 0] L) 41))) := bl_alloc (bl_drewN (Below.refl _ _) 1) _
      refine hK.out _ _ ⟨(HXi.out.below HW9.out).cell 0, (HHi.out.below HW9.out).cell 0, (HRi.out.below HW9.out).cell 0⟩ (fun _ => ?_)
      clear hK K e3 e4 e0 hmk
      try simp only [Act.put, List.setIfInBounds_toArray, List.set_cons_zero, List.set_cons_succ]
      refine midT_nil ?_
      simp only [List.drop_succ_cons, List.drop_zero]
      have HW9 : Hid (Below wi.heap.size wi (((wi.alloc (.cells (madeCells #[.int .u64 0] L) 41)).drew))) := bl_drewN (bl_alloc (Below.refl _ _) _) 1
      have HG9 : Hid (Blk ((wi.alloc (.cells (madeCells #[.int .u64 0] L) 41)).drew) G (ofF L (rwV rows L i)) 37) := (HI.out.out.below HBi.out).below HW9.out
      have hg9 := HG9.out.getF i hlt
      have hf9 := HG9.out.free i
      have HX9 := Lib.hid (HXi.out.below HW9.out)
      have HH9 := Lib.hid (HHi.out.below HW9.out)
      have HR9 := Lib.hid (HRi.out.below HW9.out)
      have HN9 : Hid (Blk ((wi.alloc (.cells (madeCells #[.int .u64 0] L) 41)).drew) (H + 1) (ofF L fun _ => .int .u64 0) 41) := by
        show Blk _ _ _ _
        have h := (Blk.new wi (madeCells #[.int .u64 0] L) 41).drewN 1
        rw [HZi.out] at h
        rw [u64s_made4] at h ⊢
        exact h
      have HZ9 : Hid (((wi.alloc (.cells (madeCells #[.int .u64 0] L) 41)).drew).heap.size = H + 2) := by
        show (wi.alloc (.cells (madeCells #[.int .u64 0] L) 41)).heap.size = _
        rw [World.size_alloc, HZi.out]
      have HB9 : Hid (Below W.heap.size W ((wi.alloc (.cells (madeCells #[.int .u64 0] L) 41)).drew)) := bl_trans HBi.out HW9.out
      rw [show wi.heap.size = H + 1 from HZi.out]
      generalize (wi.alloc (.cells (madeCells #[.int .u64 0] L) 41)).drew = w9 at *
      clear HW9 HXi HHi HRi
      have hGlt : G < w1.heap.size := by have := HZ1.out; omega
      have hHge : w1.heap.size ≤ H := by rw [HHE.out]; exact HRI.out
      go_wp2_with fail
      refine NoPanic.normal ?_
      have HJ2 := Lib.hid (HI.out.lay (g := H + 1) HB9.out hGlt hlt)
      have HN2 := Lib.hid (HN9.out.other (show H + 1 ≠ G by omega) i (.slice (some ⟨H + 1, 0, none⟩) L L))
      have HX2 := Lib.hid (HX9.out.other (show G + 1 ≠ G by omega) i (.slice (some ⟨H + 1, 0, none⟩) L L))
      have HH2 := Lib.hid (HH9.out.other (show H ≠ G by omega) i (.slice (some ⟨H + 1, 0, none⟩) L L))
      have HR2 := Lib.hid (HR9.out.other (show R0 ≠ G by have := HRG.out; omega) i (.slice (some ⟨H + 1, 0, none⟩) L L))
      have HZ2 : Hid ((w9.setCell ⟨G, i, none⟩ (.slice (some ⟨H + 1, 0, none⟩) L L)).heap.size = H + 2) := by
        show _ = _
        rw [← HZ9.out]; simp [World.setCell]
      generalize w9.setCell ⟨G, i, none⟩ (.slice (some ⟨H + 1, 0, none⟩) L L) = w2 at *
      clear HN9 HX9 HH9 HR9 HZ9 HB9 HG9 hg9 hf9
      have x3 : w2.cell? ⟨G + 1, 0, none⟩ = some (.slice (some ⟨G, 0, none⟩) L L) := HX2.out.cell 0
      have x4 : w2.cell? ⟨H, 0, none⟩ = some (.int .i64 i) := HH2.out.cell 0
      have xg : w2.cell? ⟨G, i, none⟩ = some (.slice (some ⟨H + 1, 0, none⟩) L L) := by
        have h := HJ2.out.out.getF i hlt
        rw [h]; simp [rwV]
      go_wp2_with fail
      clear x3 x4 xg
      have hK0 : JnK w2 (H + 1) L (J i) 0 Ds [] w2 := ⟨gb_refl _ _, by
        have h := HN2.out
        rwa [show (ofF L fun _ => Value.int .u64 0) = ofF L fun r => .int .u64 (((if r < 0 then J i r else 0) : Nat) : Int) from ofF_congr fun r _ => by simp] at h, (fun D h => (by cases h)), List.nodup_nil⟩
      have HK0 := Lib.hid hK0
      clear hK0
      refine wp_loop_ghost_k (fun r act W => ∃ (k : Nat) (Es : List Nat) (v : Nat → Value), r = L - k ∧ k ≤ L ∧ act = { tmps := #[.agg #[.slice xa L xc, .slice ya yn yc, .map (some xm)], .pointer (some ⟨R0, 0, none⟩), .slice none 0 0, .pointer (some ⟨G + 1, 0, none⟩), .pointer (some ⟨H, 0, none⟩), v 5, v 6, .pointer (some ⟨R0, 0, none⟩), .slice xa L xc, .int .i64 L, .slice (some ⟨G, 0, none⟩) L L, .slice (some ⟨G, 0, none⟩) L L, .int .i64 L, .int .i64 i, .bool true, .int .i64 i, .slice (some ⟨G, 0, none⟩) L L, .int .i64 i, .pointer (some ⟨R0, 0, none⟩), .slice xa L xc, .int .i64 L, .slice (some ⟨H + 1, 0, none⟩) L L, .pointer (some ⟨G, i, none⟩), .slice (some ⟨G, 0, none⟩) L L, .int .i64 i, .pointer (some ⟨G, i, none⟩), .slice (some ⟨H + 1, 0, none⟩) L L, .int .i64 L, .int .i64 k, v 29, v 30, v 31, v 32, v 33, v 34, v 35, v 36, v 37, v 38, v 39, v 40, v 41, v 42, v 43, v 44, v 45, v 46, v 47, v 48, v 49, v 50, v 51, v 52, v 53, v 54, v 55, v 56, v 57, v 58, v 59, v 60, v 61, v 62, v 63, v 64, v 65, v 66, v 67, v 68, v 69, v 70, v 71, v 72, v 73, v 74, v 75, v 76, v 77, v 78, v 79], defers := dfs (Es ++ Ds) } ∧ Hid (JnK w2 (H + 1) L (J i) k Ds Es W)) L ?start2 ?round2
      case start2 => exact ⟨0, [], u, rfl, by omega, rfl, HK0⟩
      case round2 =>
        clear HK0
        rintro r act W ⟨k, Es, v, rfl, hk, rfl, HK⟩ J2 K2 hJ2 hK2
        have hgz : H + 1 < w2.heap.size := by have := HZ2.out; omega
        by_cases hlk : k < L
        · go_upto_region 9 with fail
          obtain ⟨w5, hw5⟩ : ∃ y, y = W.alloc (.cells #[.int .i64 k] 3) := ⟨_, rfl⟩
          obtain ⟨H2, hH2⟩ : ∃ y, y = W.heap.size := ⟨_, rfl⟩
          have HB5 : Hid (Below W.heap.size W w5) := by
            show Below _ _ _
            rw [hw5]; exact bl_alloc (Below.refl _ _) _
          have HK5 : Hid (Blk w5 H2 #[.int .i64 k] 3) := by
            show Blk _ _ _ _
            rw [hw5, hH2]; exact Blk.new W _ _
          have HZ5 : Hid (w5.heap.size = H2 + 1) := by
            show _ = _
            rw [hw5, hH2]; simp
          have hHW : H + 2 ≤ H2 := by rw [hH2, ← HZ2.out]; exact HK.out.gb.size
          rw [← hw5, ← hH2]
          have HH2E := Lib.hid hH2
          clear hw5 hH2
          have HKW := Lib.hid (show w2.grownBy w5 (some (H + 1)) from gb_below HK.out.gb HB5.out)
          have HX5 := Lib.hid (HX2.out.grown HKW.out (fun e => by have := Option.some.inj e; have := HZ1.out; omega))
          have HH5 := Lib.hid (HH2.out.grown HKW.out (fun e => by have := Option.some.inj e; omega))
          have HR5 := Lib.hid (HR2.out.grown HKW.out (fun e => by have := Option.some.inj e; have := HRG.out; have := HZ1.out; omega))
          have HG5 := Lib.hid (HJ2.out.out.grown HKW.out (fun e => by have := Option.some.inj e; omega))
          have HM5 := Lib.hid ((HM1.out.kept_blk HJ2.out.gb ⟨_, _, HG1.out⟩).kept_blk HKW.out ⟨_, _, HN2.out⟩)
          have HROW5 := Lib.hid (HK.out.row.below HB5.out)
          have x2 : w5.cell? ⟨R0, 2, none⟩ = some (.map (some xm)) := HR5.out.cell 2
          have HAL := Lib.hid (allU_any xm 100 (setU t) w5 HM5.out (by have := HM5.out.le; omega))
          go_wp2_with (go_at_call 65; refine HAL.out.mono ?_; rintro e w6 ⟨X, a6, c6, rfl, hX6, hBX, hO6, hb6⟩; have HX6 := Lib.hid hX6; have HBX := Lib.hid hBX; have HO6 := Lib.hid hO6; have HB6 := Lib.hid hb6; clear hX6 hBX hO6 hb6 x2)
          have HRX : Hid (∀ B, BsV X a6 B → H2 + 1 ≤ B) := fun B h => by
            have h3 := HZ5.out
            rw [← h3]
            exact bsV_ge HX6.out HO6.out (Nat.le_refl _) h
          have HXr := Lib.hid (HX5.out.below HB6.out)
          have HHr := Lib.hid (HH5.out.below HB6.out)
          have HGr := Lib.hid (HG5.out.below HB6.out)
          have HKr := Lib.hid (HK5.out.below HB6.out)
          have HROW6 := Lib.hid (HROW5.out.below HB6.out)
          refine wp_vals (a₁ := ?a1) rfl HBX.out HO6.out (sdU_len HM5.out.nd) (by have := HM5.out.le; omega) (fun x hx => HM5.out.lt x ((sdU_mem x _).1 hx)) rfl (fun pre W' => Blk W' (H + 1) (ofF L fun r => .int .u64 (((if r < k then J i r else if r = k then jnP i k pre else 0) : Nat) : Int)) 41 ∧ w6.grownBy W' (some (H + 1))) (fun pre W W' row h hg hr => ⟨h.1.grown hg (fun e => by have h1 := hr (H + 1) e.symm; have h2 := HROW6.out.lt; omega), grownBy_own h.2 hg fun r e => (hr r e).1⟩) ⟨by
            have h := HROW6.out
            rwa [show (ofF L fun r => Value.int .u64 (((if r < k then J i r else 0) : Nat) : Int)) = ofF L fun r => .int .u64 (((if r < k then J i r else if r = k then jnP i k [] else 0) : Nat) : Int) from ofF_congr fun r _ => by
              by_cases e : r < k
              · rw [if_pos e, if_pos e]
              · rw [if_neg e, if_neg e]
                by_cases e2 : r = k
                · rw [if_pos e2]; rfl
                · rw [if_neg e2]] at h, gb_refl _ _⟩ ?assign ?body ?done
          case assign =>
            intro r x W K hK
            gi_wp2
            exact hK
          case body =>
            rintro r pre ⟨x, hx⟩ W' ⟨h1, h2⟩ hlen
            have HNX := Lib.hid (jnP_next i k pre x hx)
            have hm := jnP_lt i k pre
            have c3 : W'.cell? ⟨G + 1, 0, none⟩ = some (.slice (some ⟨G, 0, none⟩) L L) := (HXr.out.grown h2 (fun e => by have := Option.some.inj e; have := HZ1.out; omega)).cell 0
            have cH : W'.cell? ⟨H, 0, none⟩ = some (.int .i64 i) := (HHr.out.grown h2 (fun e => by have := Option.some.inj e; omega)).cell 0
            have cK : W'.cell? ⟨H2, 0, none⟩ = some (.int .i64 k) := (HKr.out.grown h2 (fun e => by have := Option.some.inj e; omega)).cell 0
            have cG : W'.cell? ⟨G, i, none⟩ = some (.slice (some ⟨H + 1, 0, none⟩) L L) := by
              have h := (HGr.out.grown h2 (fun e => by have := Option.some.inj e; omega)).getF i hlt
              rw [h]; simp [rwV]
            have cm : W'.cell? ⟨H + 1, k, none⟩ = some (.int .u64 (jnP i k pre : Nat)) := by
              have h := h1.getF k hlk
              rw [h, if_neg (by omega), if_pos rfl]
            have fm := h1.free k
            have H1 := Lib.hid h1
            have H2' := Lib.hid h2
            have HKN : Hid (∀ n, KeepsOthers W' (W'.drewN n)) := fun n => keeps_drewN _ _
            dsimp only
            obtain ⟨m, hme⟩ : ∃ m, m = jnP i k pre := ⟨_, rfl⟩
            rw [← hme] at HNX hm cm
            have HME := Lib.hid hme
            clear h1 h2 hlen hme
            have T1 := tb_eq1 (q := i) hx
            have T2 := tb_eq1 (q := k) hx
            have HGE2 : Hid (∀ n, w6.grownBy (W'.drewN n) (some (H + 1))) := fun n => gb_below H2'.out (bl_drewN (Below.refl _ _) n)
            have HKE : Hid (jnP i k (pre ++ [⟨x, hx⟩]) = m → ∀ n, Blk (W'.drewN n) (H + 1) (ofF L fun r => .int .u64 (((if r < k then J i r else if r = k then jnP i k (pre ++ [⟨x, hx⟩]) else 0) : Nat) : Int)) 41) := fun e n => by
              rw [e, HME.out]; exact H1.out.drewN n
            have HOT : Hid (∀ n B, BsV X a6 B → ((W'.drewN n).setCell ⟨H + 1, k, none⟩ (.int .u64 (x : Int))).heap[B]? = W'.heap[B]?) := fun n B hB => Below.heap_setCell (W'.drewN n) _ _ B (fun e => by have h := HRX.out B hB; have e2 : B = H + 1 := e; omega)
            have HKS : Hid (jnP i k (pre ++ [⟨x, hx⟩]) = x → ∀ n, Blk ((W'.drewN n).setCell ⟨H + 1, k, none⟩ (.int .u64 (x : Int))) (H + 1) (ofF L fun r => .int .u64 (((if r < k then J i r else if r = k then jnP i k (pre ++ [⟨x, hx⟩]) else 0) : Nat) : Int)) 41) := fun e n => by
              have h := (H1.out.drewN n).setF k (.int .u64 (x : Int))
              rwa [show (ofF L fun j => if j = k then Value.int .u64 (x : Int) else .int .u64 (((if j < k then J i j else if j = k then jnP i k pre else 0) : Nat) : Int)) = ofF L fun r => .int .u64 (((if r < k then J i r else if r = k then jnP i k (pre ++ [⟨x, hx⟩]) else 0) : Nat) : Int) from ofF_congr fun r _ => by
                by_cases e2 : r = k
                · subst e2; rw [if_pos rfl, if_neg (by omega), if_pos rfl, e]
                · rw [if_neg e2, if_neg e2, if_neg e2]] at h
            by_cases b1 : x.testBit i = true
            · by_cases b2 : x.testBit k = true
              · by_cases b3 : m = 0
                · have HKS := Lib.hid (HKS.out (by rw [HNX.out, b1, b2, decide_eq_true b3]; rfl))
                  rw [b1] at T1
                  rw [b2] at T2
                  have T3 : ((m : Int) == 0) = true := by simp; omega
                  clear b1 b2 b3
                  gi_wp2
                  refine wpIn_region_quietW (by kernel_rfl) (by kernel_rfl) (by kernel_rfl) ?_
                  repeat (go_big_quiet_step ((go_at_call 87; refine Calls.quiet_of_same (ones_any _ _ (by assumption)))))
                  refine wpQuiet_nil ?_
                  intro _ hw'
                  obtain ⟨nq, hw''⟩ := hw'
                  subst hw''
                  gi_wp2
                  refine wpIn_quiet_tailW (C := fun w' => ∃ m, w' = W'.drewN m) 7 (by kernel_rfl) (by kernel_rfl) (by kernel_rfl) ⟨nq + 1, rfl⟩ ?_
                  simp only [List.take_succ_cons, List.take_zero]
                  repeat (go_big_quiet_step (fail))
                  refine wpQuiet_nil ?_
                  intro _ hw'
                  obtain ⟨mq, hw''⟩ := hw'
                  subst hw''
                  simp only [List.drop_succ_cons, List.drop_zero]
                  go_wp2_with fail
                  exact ⟨rfl, ((HKN.out mq).trans (KeepsOthers.setCell _ _ _)).from _, kpV_of (by simp [World.setCell]) (fun B hB hlt => HOT.out mq B hB), HKS.out mq, gb_set (HGE2.out mq) _ _⟩
                · by_cases b4 : cntB x 64 < cntB m 64
                  · have HKS := Lib.hid (HKS.out (by rw [HNX.out, b1, b2, decide_eq_true b4, Bool.or_true]; rfl))
                    rw [b1] at T1
                    rw [b2] at T2
                    have T3 : ((m : Int) == 0) = false := by simp; omega
                    have T4 : decide ((cntB x 64 : Int) < (cntB m 64 : Int)) = true := by simp; omega
                    clear b1 b2 b3
                    gi_wp2
                    refine wpIn_region_quietW (by kernel_rfl) (by kernel_rfl) (by kernel_rfl) ?_
                    repeat (go_big_quiet_step ((go_at_call 87; refine Calls.quiet_of_same (ones_any _ _ (by assumption)))))
                    refine wpQuiet_nil ?_
                    intro _ hw'
                    obtain ⟨nq, hw''⟩ := hw'
                    subst hw''
                    gi_wp2
                    refine wpIn_quiet_tailW (C := fun w' => ∃ m, w' = W'.drewN m) 7 (by kernel_rfl) (by kernel_rfl) (by kernel_rfl) ⟨nq + 1, rfl⟩ ?_
                    simp only [List.take_succ_cons, List.take_zero]
                    repeat (go_big_quiet_step (fail))
                    refine wpQuiet_nil ?_
                    intro _ hw'
                    obtain ⟨mq, hw''⟩ := hw'
                    subst hw''
                    simp only [List.drop_succ_cons, List.drop_zero]
                    go_wp2_with fail
                    exact ⟨rfl, ((HKN.out mq).trans (KeepsOthers.setCell _ _ _)).from _, kpV_of (by simp [World.setCell]) (fun B hB hlt => HOT.out mq B hB), HKS.out mq, gb_set (HGE2.out mq) _ _⟩
                  · have HKE := Lib.hid (HKE.out (by rw [HNX.out, b1, b2, decide_eq_false b3, decide_eq_false b4]; rfl))
                    rw [b1] at T1
                    rw [b2] at T2
                    have T3 : ((m : Int) == 0) = false := by simp; omega
                    have T4 : decide ((cntB x 64 : Int) < (cntB m 64 : Int)) = false := by simp; omega
                    clear b1 b2 b3
                    gi_wp2
                    refine wpIn_region_quietW (by kernel_rfl) (by kernel_rfl) (by kernel_rfl) ?_
                    repeat (go_big_quiet_step ((go_at_call 87; refine Calls.quiet_of_same (ones_any _ _ (by assumption)))))
                    refine wpQuiet_nil ?_
                    intro _ hw'
                    obtain ⟨nq, hw''⟩ := hw'
                    subst hw''
                    gi_wp2
                    exact ⟨(HKN.out nq).from _, kpV_of (Nat.le_refl _) (fun B hB hlt => rfl), HKE.out nq, HGE2.out nq⟩
              · have b2 : x.testBit k = false := by simpa using b2
                have HKE := Lib.hid (HKE.out (by rw [HNX.out, b1, b2]; rfl))
                rw [b1] at T1
                rw [b2] at T2
                clear b1 b2
                gi_wp2
                refine wpIn_region_quietW (by kernel_rfl) (by kernel_rfl) (by kernel_rfl) ?_
                repeat (go_big_quiet_step ((go_at_call 87; refine Calls.quiet_of_same (ones_any _ _ (by assumption)))))
                refine wpQuiet_nil ?_
                intro _ hw'
                obtain ⟨nq, hw''⟩ := hw'
                subst hw''
                gi_wp2
                exact ⟨(HKN.out nq).from _, kpV_of (Nat.le_refl _) (fun B hB hlt => rfl), HKE.out nq, HGE2.out nq⟩
            · have b1 : x.testBit i = false := by simpa using b1
              have HKE := Lib.hid (HKE.out (by rw [HNX.out, b1]; rfl))
              rw [b1] at T1
              clear b1
              gi_wp2
              refine wpIn_region_quietW (by kernel_rfl) (by kernel_rfl) (by kernel_rfl) ?_
              repeat (go_big_quiet_step ((go_at_call 87; refine Calls.quiet_of_same (ones_any _ _ (by assumption)))))
              refine wpQuiet_nil ?_
              intro _ hw'
              obtain ⟨nq, hw''⟩ := hw'
              subst hw''
              gi_wp2
              exact ⟨(HKN.out nq).from _, kpV_of (Nat.le_refl _) (fun B hB hlt => rfl), HKE.out nq, HGE2.out nq⟩
          case done =>
            rintro D xs W' hD hxs ⟨h1, h2⟩ hKD
            have hje : jnP i k xs = J i k := by
              unfold jnP
              rw [hxs, setU_sd, HJE.out]
            have hrow : Blk W' (H + 1) (ofF L fun r => .int .u64 (((if r < k + 1 then J i r else 0) : Nat) : Int)) 41 := by
              rwa [show (ofF L fun r => Value.int .u64 (((if r < k then J i r else if r = k then jnP i k xs else 0) : Nat) : Int)) = ofF L fun r => .int .u64 (((if r < k + 1 then J i r else 0) : Nat) : Int) from ofF_congr fun r _ => by
                by_cases e : r < k
                · rw [if_pos e, if_pos (by omega)]
                · rw [if_neg e]
                  by_cases e2 : r = k
                  · subst e2; rw [if_pos rfl, if_pos (by omega), hje]
                  · rw [if_neg e2, if_neg (by omega)]] at h1
            have HNX := Lib.hid (HK.out.next hgz (bl_trans HB5.out HB6.out) h2 hrow hD hKD)
            clear h1 h2 hrow hKD hD hxs hje
            simp only [Exit.inBlock, Exit.then]
            go_wp2_with fail
            exact Handed.intro (L - (k + 1)) (by omega) (hJ2 _ _ _ ⟨k + 1, D :: Es, ex_u rfl (by omega) HNX rfl⟩)
        · obtain rfl : k = L := by omega
          have HUP := Lib.hid (HJ2.out.up HK.out (by omega) (by omega) (by simp) (fun q hq e => by
            rw [if_neg (by omega)] at e
            have h2 := (Array.getElem?_eq_some_iff.1 (HI.out.row q hq).2).1
            have h3 := HHE.out
            omega) ⟨_, _, HN2.out⟩)
          go_wp2_with fail
          exact Handed.intro (k - (i + 1)) (by omega) (hJ _ _ _ ⟨i + 1, Es ++ Ds, ex_u rfl (by omega) ⟨_, HUP⟩ rfl⟩)
    · obtain rfl : i = L := by omega
      have hGlt : G < w1.heap.size := by have := HZ1.out; omega
      go_wp2_with fail
      refine leaves_all Ds _ HI.out.nd (fun D hD => (HI.out.ds D hD).2) fun w' ht => ⟨_, results_tmp rfl _ _ _, ?_⟩
      rw [← HJE.out]
      refine ⟨_, ⟨_, rfl⟩, ⟨_, HI.out.fin ht hGlt⟩, ?_⟩
      have hb1 := bl_trans HB0.out HB1.out
      have hs1 := hb1.size
      exact ht.below (bl_grown hb1 HI.out.gb (fun r e => by have h1 := Option.some.inj e; have h2 := HGE.out; have h3 := HB0.out.size; omega)) (fun D hD => by have := (HI.out.ds D hD).1; omega)
end Go.Proofs.YtfgkjofdgohacaaGreatDoor
namespace Go.Proofs.YtfgkjofdgohacaaGreatDoor
open Go Go.RowKit Go.Shelf Go.Maps
/-- y lies within x. -/
def WiN (y x : Nat) : Prop := ∀ i, y.testBit i = true → x.testBit i = true
theorem wi_l {x y : Nat} : y &&& x = y ↔ WiN y x := by
  constructor
  · intro h i hi
    rw [Nat.and_comm] at h
    exact sub_bit4 h hi
  · intro h
    apply Nat.eq_of_testBit_eq
    intro i
    rw [Nat.testBit_and]
    cases q : y.testBit i
    · rfl
    · rw [h i q]; rfl
theorem wi_r {x y : Nat} : x &&& y = y ↔ WiN y x := by rw [Nat.and_comm]; exact wi_l
theorem WiN.refl (x : Nat) : WiN x x := fun _ h => h
theorem WiN.trans {x y z : Nat} (h : WiN x y) (k : WiN y z) : WiN x z := fun i hi => k i (h i hi)
theorem WiN.anti {x y : Nat} (h : WiN x y) (k : WiN y x) : x = y := by
  apply Nat.eq_of_testBit_eq
  intro i
  cases q : x.testBit i
  · cases r : y.testBit i
    · rfl
    · exact absurd (k i r) (by rw [q]; decide)
  · exact (h i q).symm
theorem WiN.cnt {x y : Nat} (h : WiN x y) : cntB x 64 ≤ cntB y 64 := (cnt_mono4 h 64).1
theorem WiN.cnt_lt {x y : Nat} (h : WiN x y) (hx : x < 2 ^ 64) (hy : y < 2 ^ 64) (hne : x ≠ y) : cntB x 64 < cntB y 64 := by
  by_cases q : cntB y 64 ≤ cntB x 64
  · exact absurd (sub_eq4 hx hy (wi_r.2 h) q) hne
  · omega
/-- The lowest leaf. -/
def lo (x : Nat) : Nat := Lib.ctz 64 x
theorem lo_bit {x : Nat} (h0 : x ≠ 0) (h : x < 2 ^ 64) : x.testBit (lo x) = true ∧ (∀ j, j < lo x → x.testBit j = false) ∧ lo x < 64 := by
  obtain ⟨m, hm, hk⟩ := Lib.ctzFrom_spec 64 x (by omega) h
  have e : lo x = Lib.ctzFrom 64 x := by unfold lo Lib.ctz; rw [if_neg h0]
  rw [e]
  generalize Lib.ctzFrom 64 x = c at *
  subst hm
  refine ⟨?_, fun j hj => ?_, hk⟩
  · rw [Nat.mul_comm, Nat.testBit_mul_two_pow]
    simp [Nat.testBit_zero]
  · rw [Nat.mul_comm, Nat.testBit_mul_two_pow]
    simp [show ¬ c ≤ j by omega]
/-- Is k the lowest leaf of y? -/
def lwB (y k : Nat) : Bool := y.testBit k && decide (y % 2 ^ k = 0)
theorem mod_iff {x k : Nat} : x % 2 ^ k = 0 ↔ ∀ j, j < k → x.testBit j = false := by
  constructor
  · intro h j hj
    have := congrArg (fun y => y.testBit j) h
    simp only [Nat.testBit_mod_two_pow, hj, decide_true, Bool.true_and, Nat.zero_testBit] at this
    exact this
  · intro h
    apply Nat.eq_of_testBit_eq
    intro i
    rw [Nat.testBit_mod_two_pow, Nat.zero_testBit]
    by_cases q : i < k
    · rw [h i q, Bool.and_false]
    · simp [q]
theorem lw_iff {y k : Nat} (h0 : y ≠ 0) (h : y < 2 ^ 64) : lwB y k = true ↔ k = lo y := by
  obtain ⟨h1, h2, _⟩ := lo_bit h0 h
  unfold lwB
  rw [Bool.and_eq_true, decide_eq_true_eq, mod_iff]
  constructor
  · rintro ⟨a, b⟩
    rcases Nat.lt_trichotomy k (lo y) with q | q | q
    · rw [h2 k q] at a; cases a
    · exact q
    · rw [b _ q] at h1; cases h1
  · rintro rfl
    exact ⟨h1, h2⟩
/-- Sets that fit one another, none of them empty. -/
structure Lam (F : List Nat) : Prop where
  ne : ∀ x, x ∈ F → x ≠ 0
  lt : ∀ x, x ∈ F → x < 2 ^ 64
  fit : ∀ x y, x ∈ F → y ∈ F → fitB x y = true
theorem Hier.lam {L : Nat} {S : List Nat} (h : Hier L S) (hL : L ≤ 64) : Lam S := ⟨h.ne, fun _ hx => h.b64 hL hx, h.fit⟩
theorem Lam.nest {F : List Nat} (h : Lam F) {x y k : Nat} (hx : x ∈ F) (hy : y ∈ F) (h1 : x.testBit k = true) (h2 : y.testBit k = true) : WiN x y ∨ WiN y x := by
  have hf := h.fit x y hx hy
  unfold fitB at hf
  rw [Bool.or_eq_true, Bool.or_eq_true, decide_eq_true_eq, decide_eq_true_eq, decide_eq_true_eq] at hf
  rcases hf with (e | e) | e
  · have h3 : (x &&& y).testBit k = true := by rw [Nat.testBit_and, h1, h2]; rfl
    rw [e, Nat.zero_testBit] at h3
    cases h3
  · exact .inl (wi_l.1 e)
  · exact .inr (wi_r.1 e)
theorem Lam.sub {F G : List Nat} (h : Lam F) (hs : ∀ x, x ∈ G → x ∈ F) : Lam G := ⟨fun x hx => h.ne x (hs x hx), fun x hx => h.lt x (hs x hx), fun x y hx hy => h.fit x y (hs x hx) (hs y hy)⟩
/-- y lies below x. -/
def bwB (x y : Nat) : Bool := decide (y ≠ x) && decide (y &&& x = y)
theorem bw_iff {x y : Nat} : bwB x y = true ↔ y ≠ x ∧ WiN y x := by unfold bwB; rw [Bool.and_eq_true, decide_eq_true_eq, decide_eq_true_eq, wi_l]
theorem bw_trans {x y z : Nat} (h : bwB x y = true) (k : bwB y z = true) : bwB x z = true := by
  rw [bw_iff] at *
  refine ⟨fun e => ?_, k.2.trans h.2⟩
  subst e
  exact h.1 (h.2.anti k.2)
/-- The document's best set: the greatest below x whose lowest leaf is k. -/
def bestS (F : List Nat) (x k : Nat) : Nat := F.foldl (fun b y => if (bwB x y && lwB y k) && (decide (b = 0) || decide (b &&& y = b)) then y else b) 0
theorem bestS_snoc (F : List Nat) (x k y : Nat) : bestS (F ++ [y]) x k = if (bwB x y && lwB y k) && (decide (bestS F x k = 0) || decide (bestS F x k &&& y = bestS F x k)) then y else bestS F x k := by
  unfold bestS; rw [List.foldl_append]; rfl
theorem bestS_inv (x k : Nat) : ∀ F : List Nat, Lam F → (bestS F x k = 0 ∧ ∀ y, y ∈ F → ¬ (bwB x y = true ∧ lwB y k = true)) ∨
    (bestS F x k ∈ F ∧ bwB x (bestS F x k) = true ∧ lwB (bestS F x k) k = true ∧ ∀ y, y ∈ F → bwB x y = true → lwB y k = true → WiN y (bestS F x k)) := by
  intro F
  refine snoc_rec (P := fun F => Lam F → (bestS F x k = 0 ∧ ∀ y, y ∈ F → ¬ (bwB x y = true ∧ lwB y k = true)) ∨
    (bestS F x k ∈ F ∧ bwB x (bestS F x k) = true ∧ lwB (bestS F x k) k = true ∧ ∀ y, y ∈ F → bwB x y = true → lwB y k = true → WiN y (bestS F x k))) ?_ (fun F y ih => ?_) F
  · intro _; exact .inl ⟨rfl, fun s hs => by simp at hs⟩
  · intro hL
    have ih := ih (hL.sub fun x hx => by simp [hx])
    have hy : y ∈ F ++ [y] := by simp
    rw [bestS_snoc]
    by_cases hb : bwB x y = true ∧ lwB y k = true
    · rw [hb.1, hb.2]
      rcases ih with ⟨h0, hno⟩ | ⟨hm, h1, h2, hmax⟩
      · rw [h0]
        refine .inr ⟨by simp, by simpa using hb.1, by simpa using hb.2, fun s hs q1 q2 => ?_⟩
        rcases List.mem_append.1 hs with h | h
        · exact absurd ⟨q1, q2⟩ (hno s h)
        · rw [List.mem_singleton.1 h]; simp; exact WiN.refl y
      · have hm' : bestS F x k ∈ F ++ [y] := by simp [hm]
        have hj0 : bestS F x k ≠ 0 := hL.ne _ hm'
        by_cases hlt : bestS F x k &&& y = bestS F x k
        · simp only [hlt, decide_true, Bool.or_true, Bool.and_true, if_true]
          refine .inr ⟨by simp, hb.1, hb.2, fun s hs q1 q2 => ?_⟩
          rcases List.mem_append.1 hs with h | h
          · exact (hmax s h q1 q2).trans (wi_l.1 hlt)
          · rw [List.mem_singleton.1 h]; exact WiN.refl y
        · simp only [hlt, hj0, decide_false, Bool.or_false, Bool.and_false, Bool.false_eq_true, if_false]
          refine .inr ⟨hm', h1, h2, fun s hs q1 q2 => ?_⟩
          rcases List.mem_append.1 hs with h | h
          · exact hmax s h q1 q2
          · rw [List.mem_singleton.1 h]
            have hb2 := hb.2
            unfold lwB at h2 hb2
            rw [Bool.and_eq_true] at h2 hb2
            rcases hL.nest hm' hy h2.1 hb2.1 with q | q
            · exact absurd (wi_l.2 q) hlt
            · exact q
    · have e : (bwB x y && lwB y k) = false := by
        cases q1 : bwB x y
        · rfl
        · cases q2 : lwB y k
          · rfl
          · exact absurd ⟨q1, q2⟩ hb
      rw [e]
      simp only [Bool.false_and, Bool.false_eq_true, if_false]
      rcases ih with ⟨h0, hno⟩ | ⟨hm, h1, h2, hmax⟩
      · refine .inl ⟨h0, fun s hs => ?_⟩
        rcases List.mem_append.1 hs with h | h
        · exact hno s h
        · rw [List.mem_singleton.1 h]; exact hb
      · refine .inr ⟨by simp [hm], h1, h2, fun s hs q1 q2 => ?_⟩
        rcases List.mem_append.1 hs with h | h
        · exact hmax s h q1 q2
        · rw [List.mem_singleton.1 h] at q1 q2; exact absurd ⟨q1, q2⟩ hb
/-- Nothing lies between. -/
def chB (F : List Nat) (x b : Nat) : Bool := decide (b ≠ 0) && F.all fun z => !(((decide (z ≠ x) && decide (z ≠ b)) && decide (z &&& x = z)) && decide (z &&& b = b))
/-- A child: below x, and nothing between. -/
structure Kid (F : List Nat) (x y : Nat) : Prop where
  mem : y ∈ F
  bw : bwB x y = true
  max : ∀ z, z ∈ F → bwB x z = true → WiN y z → z = y
theorem ch_iff {F : List Nat} (hF : Lam F) {x b : Nat} (hb : b ∈ F) (hbw : bwB x b = true) : chB F x b = true ↔ Kid F x b := by
  unfold chB
  rw [Bool.and_eq_true, decide_eq_true_eq, List.all_eq_true]
  constructor
  · rintro ⟨_, h⟩
    refine ⟨hb, hbw, fun z hz hzx hbz => ?_⟩
    have h1 := h z hz
    rw [Bool.not_eq_true'] at h1
    have h2 := bw_iff.1 hzx
    by_cases q : z = b
    · exact q
    · rw [decide_eq_true h2.1, decide_eq_true (show z ≠ b from q), decide_eq_true (wi_l.2 h2.2), decide_eq_true (wi_r.2 hbz)] at h1
      cases h1
  · intro h
    refine ⟨hF.ne b hb, fun z hz => ?_⟩
    rw [Bool.not_eq_true']
    cases q : (((decide (z ≠ x) && decide (z ≠ b)) && decide (z &&& x = z)) && decide (z &&& b = b))
    · rfl
    · rw [Bool.and_eq_true, Bool.and_eq_true, Bool.and_eq_true, decide_eq_true_eq, decide_eq_true_eq, decide_eq_true_eq, decide_eq_true_eq] at q
      exact absurd (h.max z hz (bw_iff.2 ⟨q.1.1.1, wi_l.1 q.1.2⟩) (wi_r.1 q.2)) q.1.1.2
/-- The child whose lowest leaf is k. -/
def kdK (F : List Nat) (x k : Nat) : Option Nat := if chB F x (bestS F x k) = true then some (bestS F x k) else none
/-- The children of x, by their lowest leaves. -/
def kdS (F : List Nat) (x L : Nat) : List Nat := (List.range L).filterMap (kdK F x)
theorem kdK_some {F : List Nat} (hF : Lam F) {x k y : Nat} : kdK F x k = some y ↔ Kid F x y ∧ lo y = k := by
  unfold kdK
  constructor
  · intro h
    split at h
    · rename_i hc
      injection h with h
      subst h
      rcases bestS_inv x k F hF with ⟨h0, _⟩ | ⟨hm, h1, h2, _⟩
      · rw [h0] at hc
        unfold chB at hc
        rw [Bool.and_eq_true, decide_eq_true_eq] at hc
        exact absurd rfl hc.1
      · exact ⟨(ch_iff hF hm h1).1 hc, ((lw_iff (hF.ne _ hm) (hF.lt _ hm)).1 h2).symm⟩
    · cases h
  · rintro ⟨h, e⟩
    have hl := (lw_iff (hF.ne _ h.mem) (hF.lt _ h.mem)).2 e.symm
    have hb : bestS F x k = y := by
      rcases bestS_inv x k F hF with ⟨_, hno⟩ | ⟨hm, h1, h2, hmax⟩
      · exact absurd ⟨h.bw, hl⟩ (hno y h.mem)
      · exact h.max _ hm h1 (hmax y h.mem h.bw hl)
    rw [hb, if_pos ((ch_iff hF h.mem h.bw).2 h)]
theorem kdS_mem {F : List Nat} (hF : Lam F) {x y L : Nat} (hL : ∀ x, x ∈ F → x < 2 ^ L) : y ∈ kdS F x L ↔ Kid F x y := by
  unfold kdS
  rw [List.mem_filterMap]
  constructor
  · rintro ⟨k, _, h⟩
    exact ((kdK_some hF).1 h).1
  · intro h
    refine ⟨lo y, ?_, (kdK_some hF).2 ⟨h, rfl⟩⟩
    rw [List.mem_range]
    exact bit_lt4 (hL y h.mem) (lo_bit (hF.ne _ h.mem) (hF.lt _ h.mem)).1
theorem kdS_pw {F : List Nat} (hF : Lam F) (x : Nat) : ∀ L, (kdS F x L).Pairwise (fun a b => lo a < lo b) ∧ ∀ y, y ∈ kdS F x L → lo y < L
  | 0 => ⟨List.Pairwise.nil, fun y hy => by simp [kdS] at hy⟩
  | L + 1 => by
    obtain ⟨h1, h2⟩ := kdS_pw hF x L
    have e : kdS F x (L + 1) = kdS F x L ++ (kdK F x L).toList := by
      unfold kdS
      rw [List.range_succ, List.filterMap_append]
      cases q : kdK F x L <;> simp [q]
    rw [e]
    cases q : kdK F x L with
    | none =>
      simp only [Option.toList_none, List.append_nil]
      exact ⟨h1, fun y hy => Nat.lt_succ_of_lt (h2 y hy)⟩
    | some y =>
      have hy := ((kdK_some hF).1 q).2
      simp only [Option.toList_some]
      refine ⟨List.pairwise_append.2 ⟨h1, List.pairwise_singleton _ _, fun a ha b hb => ?_⟩, fun z hz => ?_⟩
      · rw [List.mem_singleton.1 hb, hy]; exact h2 a ha
      · rcases List.mem_append.1 hz with hz | hz
        · exact Nat.lt_succ_of_lt (h2 z hz)
        · rw [List.mem_singleton.1 hz, hy]; exact Nat.lt_succ_self _
/-- Whatever lists the children by their lowest leaves is this list. -/
theorem kdS_ext {F : List Nat} (hF : Lam F) {x L : Nat} (hL : ∀ x, x ∈ F → x < 2 ^ L) {l : List Nat} (h1 : l.Pairwise (fun a b => lo a < lo b)) (h2 : ∀ y, y ∈ l ↔ Kid F x y) : l = kdS F x L :=
  sorted_ext4 (R := fun a b => lo a < lo b) (fun _ h => Nat.lt_irrefl _ h) (fun _ _ h k => Nat.lt_asymm h k) h1 (kdS_pw hF x L).1 fun y => by rw [h2, kdS_mem hF hL]
/-- Families with the same sets. -/
theorem Kid.congr {F G : List Nat} (h : ∀ x, x ∈ F ↔ x ∈ G) {x y : Nat} (k : Kid F x y) : Kid G x y := ⟨(h y).1 k.mem, k.bw, fun z hz => k.max z ((h z).2 hz)⟩
theorem kdS_congr {F G : List Nat} (hF : Lam F) (h : ∀ x, x ∈ F ↔ x ∈ G) {x L : Nat} (hL : ∀ x, x ∈ F → x < 2 ^ L) : kdS F x L = kdS G x L := by
  have hG : Lam G := hF.sub fun x hx => (h x).2 hx
  exact kdS_ext hG (fun x hx => hL x ((h x).2 hx)) (kdS_pw hF x L).1 fun y => by rw [kdS_mem hF hL]; exact ⟨Kid.congr h, Kid.congr fun x => (h x).symm⟩
end Go.Proofs.YtfgkjofdgohacaaGreatDoor
namespace Go.Proofs.YtfgkjofdgohacaaGreatDoor
open Go Go.RowKit Go.Shelf Go.Maps
theorem nd_rel {α β : Type} [DecidableEq β] {R : α → β → Prop} : ∀ (l : List α) (m : List β), l.Nodup → (∀ x, x ∈ l → ∃ b, b ∈ m ∧ R x b) → (∀ x y b, x ∈ l → y ∈ l → R x b → R y b → x = y) → l.length ≤ m.length
  | [], _, _, _, _ => Nat.zero_le _
  | a :: l, m, hn, hs, hu => by
    obtain ⟨b, hb, hR⟩ := hs a (by simp)
    have h1 := nd_rel l (m.erase b) (List.nodup_cons.1 hn).2 (fun x hx => by
      obtain ⟨c, hc, hRc⟩ := hs x (by simp [hx])
      refine ⟨c, (List.mem_erase_of_ne ?_).2 hc, hRc⟩
      rintro rfl
      have := hu a x c (by simp) (by simp [hx]) hR hRc
      subst this
      exact (List.nodup_cons.1 hn).1 hx) fun x y c hx hy => hu x y c (by simp [hx]) (by simp [hy])
    rw [List.length_erase_of_mem hb] at h1
    have h2 := List.length_pos_of_mem hb
    simp only [List.length_cons]
    omega
theorem nd_sub {α : Type} [DecidableEq α] (l m : List α) (hn : l.Nodup) (hs : ∀ x, x ∈ l → x ∈ m) : l.length ≤ m.length :=
  nd_rel (R := fun x b => x = b) l m hn (fun x hx => ⟨x, hs x hx, rfl⟩) fun _ _ _ _ _ h k => h.trans k.symm
theorem dgv_nat4 {x : Nat} (h : x < 10) : (UInt8.ofNat (48 + x)).toNat = 48 + x := by
  rw [UInt8.toNat_ofNat']
  exact Nat.mod_eq_of_lt (by omega)
def dgV4 (l : List UInt8) : Nat := l.foldl (fun a c => a * 10 + (c.toNat - 48)) 0
theorem dgV4_dec : ∀ u : Nat, dgV4 (Lib.decDigits u) = u := by
  intro u
  induction u using Nat.strongRecOn with
  | ind u ih =>
    rw [Lib.decDigits]
    split
    · rename_i h
      show 0 * 10 + ((UInt8.ofNat (48 + u)).toNat - 48) = u
      rw [dgv_nat4 h]; omega
    · rename_i h
      have h1 := ih (u / 10) (by omega)
      unfold dgV4 at h1 ⊢
      rw [List.foldl_append, h1]
      show u / 10 * 10 + ((UInt8.ofNat (48 + u % 10)).toNat - 48) = u
      rw [dgv_nat4 (Nat.mod_lt _ (by omega))]
      omega
/-- The name -n. -/
def dash (n : Nat) : ByteArray := ofBy (45 :: Lib.decDigits n)
theorem dash_inj {u v : Nat} (h : dash u = dash v) : u = v := by
  have h1 := congrArg (fun s => s.data.toList) h
  unfold dash at h1
  simp only [to_ofBy] at h1
  injection h1 with _ h1
  rw [← dgV4_dec u, h1, dgV4_dec]
theorem dash_ne (n : Nat) : dash n ≠ ByteArray.empty := by
  intro h
  have h1 := congrArg (fun s => s.data.toList) h
  unfold dash at h1
  simp only [to_ofBy] at h1
  cases h1
instance decMemB (s : ByteArray) (l : List ByteArray) : Decidable (s ∈ l) := decidable_of_iff (l.any (fun t => decide (t = s)) = true) (by simp)
/-- The first number from n on whose name no leaf has. -/
def fre (nm : List ByteArray) : Nat → Nat → Nat
  | 0, n => n
  | f + 1, n => if dash n ∈ nm then fre nm f (n + 1) else n
theorem fre_at (nm : List ByteArray) : ∀ f n m, n ≤ m → m < n + f → (∀ j, n ≤ j → j < m → dash j ∈ nm) → dash m ∉ nm → fre nm f n = m
  | 0, n, m, h1, h2, _, _ => by omega
  | f + 1, n, m, h1, h2, h3, h4 => by
    unfold fre
    by_cases q : n = m
    · subst q; rw [if_neg h4]
    · rw [if_pos (h3 n (Nat.le_refl _) (by omega))]
      exact fre_at nm f (n + 1) m (by omega) (by omega) (fun j a b => h3 j (by omega) b) h4
theorem fre_ex (nm : List ByteArray) (n : Nat) : ∀ k, (∀ j, n ≤ j → j < n + k → dash j ∈ nm) ∨ ∃ m, n ≤ m ∧ m < n + k ∧ dash m ∉ nm ∧ ∀ j, n ≤ j → j < m → dash j ∈ nm
  | 0 => .inl fun j a b => by omega
  | k + 1 => by
    rcases fre_ex nm n k with h | ⟨m, h1, h2, h3, h4⟩
    · by_cases q : dash (n + k) ∈ nm
      · refine .inl fun j a b => ?_
        by_cases e : j = n + k
        · subst e; exact q
        · exact h j a (by omega)
      · exact .inr ⟨n + k, by omega, by omega, q, fun j a b => h j a b⟩
    · exact .inr ⟨m, h1, by omega, h3, h4⟩
theorem dash_few (nm : List ByteArray) (n k : Nat) (h : ∀ j, n ≤ j → j < n + k → dash j ∈ nm) : k ≤ nm.length := by
  have := nd_rel (R := fun j b => dash j = b) (List.range' n k) nm List.nodup_range' (fun x hx => by
    rw [List.mem_range'_1] at hx
    exact ⟨dash x, h x hx.1 hx.2, rfl⟩) fun x y b _ _ h1 h2 => dash_inj (h1.trans h2.symm)
  rw [List.length_range'] at this
  exact this
def frN (nm : List ByteArray) (n : Nat) : Nat := fre nm (nm.length + 1) n
theorem frN_spec (nm : List ByteArray) (n : Nat) : n ≤ frN nm n ∧ frN nm n ≤ n + nm.length ∧ dash (frN nm n) ∉ nm ∧ ∀ j, n ≤ j → j < frN nm n → dash j ∈ nm := by
  rcases fre_ex nm n (nm.length + 1) with h | ⟨m, h1, h2, h3, h4⟩
  · have := dash_few nm n _ h
    omega
  · have e : frN nm n = m := fre_at nm _ n m h1 h2 h4 h3
    rw [e]
    exact ⟨h1, by omega, h3, h4⟩
theorem frN_at {nm : List ByteArray} {n m : Nat} (h1 : n ≤ m) (h2 : dash m ∉ nm) (h3 : ∀ j, n ≤ j → j < m → dash j ∈ nm) : frN nm n = m := by
  obtain ⟨a, _, b, c⟩ := frN_spec nm n
  rcases Nat.lt_trichotomy (frN nm n) m with q | q | q
  · exact absurd (h3 _ a q) b
  · exact q
  · exact absurd (c m h1 q) h2
/-- Is it a single leaf? -/
def oneB (x : Nat) : Bool := decide (cntB x 64 = 1)
theorem cnt_pow (k : Nat) : ∀ n, cntB (2 ^ k) n = if k < n then 1 else 0
  | 0 => rfl
  | n + 1 => by
    show cntB (2 ^ k) n + (if (2 ^ k).testBit n = true then 1 else 0) = _
    rw [cnt_pow k n, Nat.testBit_two_pow]
    by_cases q : k = n
    · subst q; simp
    · by_cases r : k < n
      · simp [q, r, show k < n + 1 by omega]
      · simp [q, r, show ¬ k < n + 1 by omega]
theorem oneB_pow {k : Nat} (hk : k < 64) : oneB (2 ^ k) = true := by
  unfold oneB
  rw [cnt_pow, if_pos hk]; rfl
theorem one_wi {x k : Nat} (h : x.testBit k = true) : WiN (2 ^ k) x := fun i hi => by
  rw [Nat.testBit_two_pow, decide_eq_true_eq] at hi
  subst hi; exact h
theorem cnt_pos {x : Nat} (h0 : x ≠ 0) (h : x < 2 ^ 64) : 1 ≤ cntB x 64 := by
  obtain ⟨a, _, c⟩ := lo_bit h0 h
  have := (one_wi a).cnt
  rw [cnt_pow, if_pos c] at this
  exact this
theorem oneB_iff {x : Nat} (h0 : x ≠ 0) (h : x < 2 ^ 64) : oneB x = true ↔ x = 2 ^ lo x := by
  obtain ⟨a, _, c⟩ := lo_bit h0 h
  constructor
  · intro h1
    by_cases q : 2 ^ lo x = x
    · exact q.symm
    · have h2 := (one_wi a).cnt_lt (Nat.pow_lt_pow_right (by omega) c) h q
      have h3 := oneB_pow c
      unfold oneB at h1 h3
      rw [decide_eq_true_eq] at h1 h3
      omega
  · intro e
    rw [e]; exact oneB_pow c
theorem oneB_ex {x : Nat} (h0 : x ≠ 0) (h : x < 2 ^ 64) {k : Nat} (hk : k < 64) : x = 2 ^ k ↔ oneB x = true ∧ lo x = k := by
  constructor
  · intro e
    have h1 : oneB x = true := by rw [e]; exact oneB_pow hk
    refine ⟨h1, ?_⟩
    have h2 := (oneB_iff h0 h).1 h1
    exact (Nat.pow_right_inj (by omega)).1 (h2.symm.trans e)
  · rintro ⟨h1, rfl⟩
    exact (oneB_iff h0 h).1 h1
/-- A node's name; the number from which names are sought afterwards. -/
def nmG (nm : List ByteArray) (x nx : Nat) : ByteArray := if oneB x then sA nm (lo x) else dash (frN nm nx)
def nxG (nm : List ByteArray) (x nx : Nat) : Nat := if oneB x then nx else frN nm nx + 1
/-- A set and what is below it is added. -/
def grw (nm : List ByteArray) (F : List Nat) : Nat → Nat → Int → List Nd × Nat → List Nd × Nat
  | 0, _, _, st => st
  | f + 1, x, p, st => (kdS F x nm.length).foldl (fun s y => grw nm F f y (st.1.length : Nat) s) (st.1 ++ [(p, nmG nm x st.2)], nxG nm x st.2)
/-- The sets in the order of the nodes. -/
def preS (F : List Nat) (L : Nat) : Nat → Nat → List Nat
  | 0, _ => []
  | f + 1, x => x :: (kdS F x L).flatMap (preS F L f)
theorem foldl_len {α : Type} (g : List Nd × Nat → α → List Nd × Nat) (h : α → Nat) : ∀ (l : List α) (s : List Nd × Nat), (∀ y s, y ∈ l → (g s y).1.length = s.1.length + h y) → (l.foldl g s).1.length = s.1.length + (l.map h).sum
  | [], s, _ => by simp
  | y :: l, s, hg => by
    rw [List.foldl_cons, foldl_len g h l _ fun z s hz => hg z s (by simp [hz]), hg y s (by simp), List.map_cons, List.sum_cons]
    omega
theorem grw_len (nm : List ByteArray) (F : List Nat) : ∀ f x p st, (grw nm F f x p st).1.length = st.1.length + (preS F nm.length f x).length
  | 0, x, p, st => by simp [grw, preS]
  | f + 1, x, p, st => by
    unfold grw preS
    rw [foldl_len _ (fun y => (preS F nm.length f y).length) _ _ fun y s _ => grw_len nm F f y _ s]
    simp only [List.length_append, List.length_cons, List.length_nil, List.length_flatMap]
    omega
theorem pre_mem {F : List Nat} (hF : Lam F) (L : Nat) (hL : ∀ x, x ∈ F → x < 2 ^ L) : ∀ f x z, x ∈ F → z ∈ preS F L f x → z ∈ F ∧ WiN z x
  | 0, x, z, _, h => by simp [preS] at h
  | f + 1, x, z, hx, h => by
    unfold preS at h
    rcases List.mem_cons.1 h with rfl | h
    · exact ⟨hx, WiN.refl _⟩
    · obtain ⟨y, hy, hz⟩ := List.mem_flatMap.1 h
      have hk := (kdS_mem hF hL).1 hy
      obtain ⟨h1, h2⟩ := pre_mem hF L hL f y z hk.mem hz
      exact ⟨h1, h2.trans (bw_iff.1 hk.bw).2⟩
/-- What lies below x lies in a child. -/
theorem kid_ex {F : List Nat} (hF : Lam F) {x z : Nat} (hz : z ∈ F) (hb : bwB x z = true) : ∃ y, Kid F x y ∧ WiN z y := by
  obtain ⟨y, ⟨h1, h2, h3⟩, hm⟩ := max_ex (p := fun y => y ∈ F ∧ bwB x y = true ∧ WiN z y) (f := fun y => cntB y 64) 64 (fun k _ => cntB_le k 64) ⟨z, hz, hb, WiN.refl z⟩
  refine ⟨y, ⟨h1, h2, fun w hw hbw hyw => ?_⟩, h3⟩
  have := hm w ⟨hw, hbw, h3.trans hyw⟩
  by_cases q : w = y
  · exact q
  · have := hyw.cnt_lt (hF.lt y h1) (hF.lt w hw) (fun e => q e.symm)
    omega
theorem pre_all {F : List Nat} (hF : Lam F) (L : Nat) (hL : ∀ x, x ∈ F → x < 2 ^ L) : ∀ f x z, x ∈ F → cntB x 64 ≤ f → z ∈ F → WiN z x → z ∈ preS F L f x
  | 0, x, z, hx, hc, _, _ => by
    have := cnt_pos (hF.ne x hx) (hF.lt x hx)
    omega
  | f + 1, x, z, hx, hc, hz, h => by
    unfold preS
    by_cases q : z = x
    · rw [q]; exact List.mem_cons_self
    · obtain ⟨y, hk, hzy⟩ := kid_ex hF hz (bw_iff.2 ⟨q, h⟩)
      have hb := bw_iff.1 hk.bw
      have := hb.2.cnt_lt (hF.lt y hk.mem) (hF.lt x hx) hb.1
      exact List.mem_cons_of_mem _ (List.mem_flatMap.2 ⟨y, (kdS_mem hF hL).2 hk, pre_all hF L hL f y z hk.mem (by omega) hz hzy⟩)
/-- Two children with a common leaf are one. -/
theorem Kid.same {F : List Nat} (hF : Lam F) {x y z k : Nat} (hy : Kid F x y) (hz : Kid F x z) (h1 : y.testBit k = true) (h2 : z.testBit k = true) : y = z := by
  rcases hF.nest hy.mem hz.mem h1 h2 with q | q
  · exact (hy.max z hz.mem hz.bw q).symm
  · exact hz.max y hy.mem hy.bw q
theorem pre_nodup {F : List Nat} (hF : Lam F) (L : Nat) (hL : ∀ x, x ∈ F → x < 2 ^ L) : ∀ f x, x ∈ F → (preS F L f x).Nodup
  | 0, x, _ => by simp [preS]
  | f + 1, x, hx => by
    unfold preS
    refine List.nodup_cons.2 ⟨fun h => ?_, ?_⟩
    · obtain ⟨y, hy, hz⟩ := List.mem_flatMap.1 h
      have hk := (kdS_mem hF hL).1 hy
      have h2 := (pre_mem hF L hL f y x hk.mem hz).2
      have hb := bw_iff.1 hk.bw
      exact hb.1 (hb.2.anti h2)
    · have hp := (kdS_pw hF x L).1
      have hm : ∀ y, y ∈ kdS F x L → Kid F x y := fun y hy => (kdS_mem hF hL).1 hy
      revert hp hm
      generalize kdS F x L = l
      intro hp hm
      induction l with
      | nil => simp
      | cons y l ih =>
        rw [List.flatMap_cons, List.nodup_append]
        rw [List.pairwise_cons] at hp
        refine ⟨pre_nodup hF L hL f y (hm y (by simp)).mem, ih hp.2 fun z hz => hm z (by simp [hz]), fun a ha b hb e => ?_⟩
        subst e
        obtain ⟨z, hz, hb⟩ := List.mem_flatMap.1 hb
        have ky := hm y (by simp)
        have kz := hm z (by simp [hz])
        obtain ⟨a1, a2⟩ := pre_mem hF L hL f y a ky.mem ha
        obtain ⟨_, a3⟩ := pre_mem hF L hL f z a kz.mem hb
        have hbit := (lo_bit (hF.ne a a1) (hF.lt a a1)).1
        have e := ky.same hF kz (a2 _ hbit) (a3 _ hbit)
        have := hp.1 z hz
        rw [e] at this
        exact Nat.lt_irrefl _ this
theorem pre_len {F : List Nat} (hF : Lam F) (L : Nat) (hL : ∀ x, x ∈ F → x < 2 ^ L) {f x : Nat} (hx : x ∈ F) : (preS F L f x).length ≤ F.length :=
  nd_sub _ _ (pre_nodup hF L hL f x hx) fun z hz => (pre_mem hF L hL f x z hx hz).1
end Go.Proofs.YtfgkjofdgohacaaGreatDoor
