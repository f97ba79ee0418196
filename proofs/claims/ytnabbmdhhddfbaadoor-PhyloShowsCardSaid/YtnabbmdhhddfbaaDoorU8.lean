/- The statement PhyloLosses: the walk. -/
import Derived.Test.YtnabbmdhhddfbaaDoorU6
import Derived.Test.YtnabbmdhhddfbaaDoorU7
namespace Go.Proofs.YtnabbmdhhddfbaaDoor
open Go Go.RowKit Go.Shelf
theorem lossL_64 (L : Int) (l : List Nat) (t : List Nd) : (lossL L l t).length ≤ 64 := by
  by_cases q : chkP L l t = 0
  · have h := lossL_le L l t
    obtain ⟨h1, h2, h3⟩ := chkP_ok q
    obtain ⟨M, rfl⟩ : ∃ M : Nat, L = M := ⟨(lvT t).length, h3.symm⟩
    have := (chk_lt h1).2.1
    omega
  · unfold lossL; rw [if_neg q]; simp
set_option maxRecDepth 100000 in
set_option maxHeartbeats 4000000 in
theorem lslaw_any (L : Int) (a : Option Addr) (N c : Nat) (l : List Nat) (b : Option Addr) (n d : Nat) (t : List Nd) (w : World) (hl : l.length = N) (hN : N ≤ 1152921504606846976) (hA : Rd w a (fl encV l)) (hF : FitV l)
    (ht : t.length = n) (hn60 : n ≤ 1152921504606846976) (hnd : n ≤ d) (hd : d ≤ 9223372036854775807) (hB : Rd w b (fl encNd t)) (hS : ∀ v, v < n → (nS t v).size ≤ 9223372036854775807) :
    Calls Tryd.prog 6 #[.agg #[.int .i64 L, .slice a N c], .slice b n d] w fun e w' => e = .returned (.bool true) ∧ Below w.heap.size w w' := by
  have hb0 := bl_alloc (Below.refl _ w) (.cells #[.int .i64 L, .slice a N c] 24)
  have hX := Blk.new w #[.int .i64 L, .slice a N c] 24
  have HL := Lib.hid hl
  have HF := Lib.hid hF
  have HT := Lib.hid ht
  have HS := Lib.hid hS
  have HA := Lib.hid (hA.bl hb0)
  have HB := Lib.hid (hB.bl hb0)
  have HB0 := Lib.hid hb0
  have HBX := Lib.hid hX
  have HW := Lib.hid works_any
  have hle := lossL_64 L l t
  clear hl hA hF ht hB hS hb0 hX
  obtain ⟨X, hX⟩ : ∃ x, x = w.heap.size := ⟨_, rfl⟩
  rw [← hX] at HBX
  go_enter Tryd.func6, Tryd.ntmps6
  go_wp2_with fail
  refine (few_any L a N c _).mono ?_
  rintro e w1 ⟨rfl, hb1⟩
  have HB1 := Lib.hid (bl_trans HB0.out hb1)
  have HA1 := Lib.hid (HA.out.bl hb1)
  have HT1 := Lib.hid (HB.out.bl hb1)
  have HBX1 := Lib.hid (HBX.out.below hb1)
  rw [← hX]
  have HX := Lib.hid hX
  clear hb1 hX HB0 HA HBX HB
  obtain ⟨fb, hfb⟩ : ∃ b, (decide (N ≤ 20) || (decide (64 < N) && decide (N < 70))) = b := ⟨_, rfl⟩
  rw [hfb]
  clear hfb
  cases fb with
  | false =>
    go_wp2_with fail
    refine (HW.out _).mono ?_
    rintro e w2 ⟨rfl, hb2⟩
    go_wp2_with fail
    go_ret
    exact ⟨rfl, bl_trans HB1.out hb2⟩
  | true =>
    have key : ((decide (20 < (n : Int)) = true ∧ decide (20 < n) = true) ∧ ((decide ((n : Int) ≤ 63) = true ∧ decide (n ≤ 63) = true) ∨ ((decide ((n : Int) ≤ 63) = false ∧ decide (n ≤ 63) = false) ∧ (decide (70 < (n : Int)) = true ∧ decide (70 < n) = true)))) ∨
        (((decide (20 < (n : Int)) = true ∧ decide (20 < n) = true) ∧ (decide ((n : Int) ≤ 63) = false ∧ decide (n ≤ 63) = false) ∨ (decide (20 < (n : Int)) = false ∧ decide (20 < n) = false)) ∧ (decide (70 < (n : Int)) = false ∧ decide (70 < n) = false)) := by
      by_cases h1 : 20 < n
      · by_cases h2 : n ≤ 63
        · left
          exact ⟨⟨decide_eq_true (by omega), decide_eq_true h1⟩, .inl ⟨decide_eq_true (by omega), decide_eq_true h2⟩⟩
        · by_cases h3 : 70 < n
          · left
            exact ⟨⟨decide_eq_true (by omega), decide_eq_true h1⟩, .inr ⟨⟨decide_eq_false (by omega), decide_eq_false h2⟩, ⟨decide_eq_true (by omega), decide_eq_true h3⟩⟩⟩
          · right
            exact ⟨.inl ⟨⟨decide_eq_true (by omega), decide_eq_true h1⟩, ⟨decide_eq_false (by omega), decide_eq_false h2⟩⟩, ⟨decide_eq_false (by omega), decide_eq_false h3⟩⟩
      · right
        exact ⟨.inr ⟨decide_eq_false (by omega), decide_eq_false h1⟩, ⟨decide_eq_false (by omega), decide_eq_false (by omega)⟩⟩
    have e0 : w1.cell? ⟨X, 0, none⟩ = some (.int .i64 L) := HBX1.out.cell 0
    have e1 : w1.cell? ⟨X, 1, none⟩ = some (.slice a N c) := HBX1.out.cell 1
    rcases key with ⟨⟨p1, p2⟩, ⟨q1, q2⟩ | ⟨⟨q1, q2⟩, r1, r2⟩⟩ | ⟨⟨⟨p1, p2⟩, q1, q2⟩ | ⟨p1, p2⟩, r1, r2⟩
    · go_wp2_with fail
      refine (HW.out _).mono ?_
      rintro e w2 ⟨rfl, hb2⟩
      go_wp2_with fail
      go_ret
      exact ⟨rfl, bl_trans HB1.out hb2⟩
    · go_wp2_with fail
      refine (HW.out _).mono ?_
      rintro e w2 ⟨rfl, hb2⟩
      go_wp2_with fail
      go_ret
      exact ⟨rfl, bl_trans HB1.out hb2⟩
    all_goals
      go_wp2_with fail
      refine (losses_any L a N c l b n d t w1 HL.out hN HA1.out HF.out HT.out hn60 hnd hd HT1.out HS.out).mono ?_
      rintro e w2 ⟨v, rfl, ho, hb2⟩
      have HB2 := Lib.hid (bl_trans HB1.out hb2)
      have HA2 := Lib.hid (HA1.out.bl hb2)
      have HT2 := Lib.hid (HT1.out.bl hb2)
      have HBX2 := Lib.hid (HBX1.out.below hb2)
      have HO2 := Lib.hid ho
      have f0 : w2.cell? ⟨X, 0, none⟩ = some (.int .i64 L) := HBX2.out.cell 0
      have f1 : w2.cell? ⟨X, 1, none⟩ = some (.slice a N c) := HBX2.out.cell 1
      clear ho hb2 e0 e1 HB1 HA1 HT1 HBX1
      go_wp2_with fail
      refine (other_any L a N c _).mono ?_
      rintro e w3 ⟨rfl, hb3⟩
      have HB3 := Lib.hid (bl_trans HB2.out hb3)
      have HA3 := Lib.hid (HA2.out.bl hb3)
      have HT3 := Lib.hid (HT2.out.bl hb3)
      have HO3 := Lib.hid (owns_below HO2.out hb3)
      have HBX3 := Lib.hid (HBX2.out.below hb3)
      clear hb3 f0 f1 HB2 HA2 HT2 HBX2 HO2
      go_wp2_with fail
      refine (rlosses_any L a N c l b n d t w3 HL.out hN HA3.out HF.out HT.out hn60 HT3.out HS.out).mono ?_
      rintro e w4 ⟨v', rfl, ho4, hb4⟩
      have HB4 := Lib.hid (bl_trans HB3.out hb4)
      have HA4 := Lib.hid (HA3.out.bl hb4)
      have HT4 := Lib.hid (HT3.out.bl hb4)
      have HO4 := Lib.hid (owns_below HO3.out hb4)
      have HP4 := Lib.hid ho4
      have HBX4 := Lib.hid (HBX3.out.below hb4)
      have f0 : w4.cell? ⟨X, 0, none⟩ = some (.int .i64 L) := HBX4.out.cell 0
      have f1 : w4.cell? ⟨X, 1, none⟩ = some (.slice a N c) := HBX4.out.cell 1
      clear ho4 hb4 HB3 HA3 HT3 HBX3 HO3
      go_wp2_with fail
      refine (pfits_any L a N c l b n d t w4 HL.out hN HA4.out HF.out HT.out hn60 hnd hd HT4.out HS.out).mono ?_
      rintro e w5 ⟨rfl, hb5⟩
      have HB5 := Lib.hid (bl_trans HB4.out hb5)
      have HA5 := Lib.hid (HA4.out.bl hb5)
      have HT5 := Lib.hid (HT4.out.bl hb5)
      have HO5 := Lib.hid (owns_below HO4.out hb5)
      have HP5 := Lib.hid (owns_below HP4.out hb5)
      have HBX5 := Lib.hid (HBX4.out.below hb5)
      clear hb5 f0 f1 HB4 HA4 HT4 HBX4 HO4 HP4
      have f0 : w5.cell? ⟨X, 0, none⟩ = some (.int .i64 L) := HBX5.out.cell 0
      have f1 : w5.cell? ⟨X, 1, none⟩ = some (.slice a N c) := HBX5.out.cell 1
      go_wp2_with fail
      refine (other_any L a N c _).mono ?_
      rintro e w6 ⟨rfl, hb6⟩
      have HB6 := Lib.hid (bl_trans HB5.out hb6)
      have HA6 := Lib.hid (HA5.out.bl hb6)
      have HT6 := Lib.hid (HT5.out.bl hb6)
      have HO6 := Lib.hid (owns_below HO5.out hb6)
      have HP6 := Lib.hid (owns_below HP5.out hb6)
      clear hb6 f0 f1 HB5 HA5 HT5 HBX5 HO5 HP5
      go_wp2_with fail
      refine (rfits_any L a N c l b n d t w6 HL.out hN HA6.out HF.out HT.out hn60 HT6.out HS.out).mono ?_
      rintro e w7 ⟨rfl, hb7⟩
      have HB7 := Lib.hid (bl_trans HB6.out hb7)
      have ho7 := owns_below HO6.out hb7
      have hp7 := owns_below HP6.out hb7
      obtain ⟨A1, c1, rfl, _⟩ := owns_slice ho7
      obtain ⟨A2, c2, rfl, _⟩ := owns_slice hp7
      have HI := Lib.hid (ints_same A1 A2 (lossL L l t).length (lossL L l t).length c1 c2 (iN (lossL L l t)) w7 (iN_len _) (iN_len _) (by omega) (by omega) (rd_of_owns ho7) (rd_of_owns hp7))
      obtain ⟨z, hz⟩ : ∃ z, z = (lossL L l t).length := ⟨_, rfl⟩
      obtain ⟨E, hE⟩ : ∃ z, z = chkP L l t := ⟨_, rfl⟩
      obtain ⟨fb, hfb⟩ : ∃ z, z = fitsB L l t := ⟨_, rfl⟩
      rw [← hz] at HI ⊢
      rw [← hE, ← hfb]
      clear ho7 hp7 hb7 hz hE hfb HB6 HO6 HP6 HA6 HT6 hle
      go_wp2_with fail
      refine HI.out.mono ?_
      rintro e w8 ⟨rfl, nq, rfl⟩
      have HB8 := Lib.hid (bl_drewN HB7.out nq)
      go_wp2_with fail
      refine (HW.out _).mono ?_
      rintro e w9 ⟨rfl, hb9⟩
      go_wp2_with fail
      go_ret
      exact ⟨rfl, bl_trans HB8.out hb9⟩
end Go.Proofs.YtnabbmdhhddfbaaDoor
