/- The statement PhyloBuilds: the walk. -/
import Derived.Test.YtnabbmdhhddfbaaDoorE2
import Derived.Test.YtnabbmdhhddfbaaDoorE4
namespace Go.Proofs.YtnabbmdhhddfbaaDoor
open Go Go.RowKit Go.Shelf
theorem cfV_parts (L : Int) (l : List Nat) : ∃ (i j h : Int) (d : Bool), cfV L l = .tuple #[.int .i64 i, .int .i64 j, .bool d, .int .i64 h] := by
  by_cases h0 : chkT L l = 0
  · cases hc : confE l with
    | none => exact ⟨0, 0, 0, false, cfV_no h0 hc⟩
    | some ij => obtain ⟨i, j⟩ := ij; exact ⟨i, j, 0, true, cfV_yes h0 hc⟩
  · exact ⟨0, 0, chkT L l, false, cfV_bad h0⟩
theorem bdT_le (L : Int) (l : List Nat) : (bdT L l).length ≤ 1000 := by
  unfold bdT
  by_cases q : bdB L l = true
  · rw [if_pos q]
    unfold bdB at q
    have h0 : chkT L l = 0 := by
      by_cases h : chkT L l = 0
      · exact h
      · rw [decide_eq_false h] at q; simp at q
    have hk : 0 ≤ L ∧ L ≤ 32 := by
      unfold chkT at h0
      by_cases q : L < 0 ∨ 32 < L
      · rw [if_pos q] at h0; omega
      · omega
    obtain ⟨M, rfl⟩ : ∃ M : Nat, L = M := ⟨L.toNat, by omega⟩
    obtain ⟨hM, hl64, hlt⟩ := chk_lt h0
    have hgl := grpsU_le M l
    rw [Int.toNat_natCast]
    unfold bdN
    split
    · simp
    · rw [treeN_len, grpsN_len]; omega
  · rw [if_neg q]; simp
set_option maxRecDepth 100000 in
set_option maxHeartbeats 4000000 in
theorem bdlaw_any (L : Int) (a : Option Addr) (N c : Nat) (l : List Nat) (w : World) (hl : l.length = N) (hN : N ≤ 1152921504606846976) (hNc : N ≤ c) (hc : c ≤ 9223372036854775807) (hA : Rd w a (fl encV l)) (hF : FitV l) :
    Calls Tryd.prog 3 #[.agg #[.int .i64 L, .slice a N c]] w fun e w' => e = .returned (.bool true) ∧ Below w.heap.size w w' := by
  have hb0 := bl_alloc (Below.refl _ w) (.cells #[.int .i64 L, .slice a N c] 24)
  have hB := Blk.new w #[.int .i64 L, .slice a N c] 24
  have HL := Lib.hid hl
  have HF := Lib.hid hF
  have HA := Lib.hid (hA.bl hb0)
  have HB0 := Lib.hid hb0
  have HBX := Lib.hid hB
  have HW := Lib.hid works_any
  have hle := bdT_le L l
  have HNC := Lib.hid hNc
  have HCC := Lib.hid hc
  clear hl hA hF hb0 hB hNc hc
  obtain ⟨X, hX⟩ : ∃ x, x = w.heap.size := ⟨_, rfl⟩
  rw [← hX] at HBX
  go_enter Tryd.func3, Tryd.ntmps3
  go_wp2_with fail
  refine (few_any L a N c _).mono ?_
  rintro e w1 ⟨rfl, hb1⟩
  have HB1 := Lib.hid (bl_trans HB0.out hb1)
  have HA1 := Lib.hid (HA.out.bl hb1)
  have HBX1 := Lib.hid (HBX.out.below hb1)
  rw [← hX]
  have HX := Lib.hid hX
  clear hb1 hX HB0 HA HBX
  obtain ⟨fb, hfb⟩ : ∃ b, (decide (N ≤ 20) || (decide (64 < N) && decide (N < 70))) = b := ⟨_, rfl⟩
  rw [hfb]
  clear hfb
  cases fb with
  | false =>
    go_wp2_with fail
    refine (HW.out _).mono ?_
    rintro e w2 ⟨rfl, hb2⟩
    go_wp2_with fail
    go_ret
    exact ⟨rfl, bl_trans HB1.out hb2⟩
  | true =>
    have e0 : w1.cell? ⟨X, 0, none⟩ = some (.int .i64 L) := HBX1.out.cell 0
    have e1 : w1.cell? ⟨X, 1, none⟩ = some (.slice a N c) := HBX1.out.cell 1
    go_wp2_with fail
    refine (build_any L a N c l w1 HL.out hN HNC.out HCC.out HA1.out HF.out).mono ?_
    rintro e w2 ⟨v, rfl, ho, hb2⟩
    have HB2 := Lib.hid (bl_trans HB1.out hb2)
    have HA2 := Lib.hid (HA1.out.bl hb2)
    have HBX2 := Lib.hid (HBX1.out.below hb2)
    have HO2 := Lib.hid ho
    obtain ⟨B, hBd⟩ : ∃ z, z = bdB L l := ⟨_, rfl⟩
    obtain ⟨E, hEd⟩ : ∃ z, z = bdE L l := ⟨_, rfl⟩
    rw [← hBd, ← hEd]
    have HBD := Lib.hid hBd
    have HED := Lib.hid hEd
    have f0 : w2.cell? ⟨X, 0, none⟩ = some (.int .i64 L) := HBX2.out.cell 0
    have f1 : w2.cell? ⟨X, 1, none⟩ = some (.slice a N c) := HBX2.out.cell 1
    clear ho hb2 e0 e1 HB1 HA1 HBX1 hBd hEd
    go_wp2_with fail
    refine (other_any L a N c _).mono ?_
    rintro e w3 ⟨rfl, hb3⟩
    have HB3 := Lib.hid (bl_trans HB2.out hb3)
    have HA3 := Lib.hid (HA2.out.bl hb3)
    have HO3 := Lib.hid (owns_below HO2.out hb3)
    have HBX3 := Lib.hid (HBX2.out.below hb3)
    clear hb3 f0 f1 HB2 HA2 HBX2 HO2
    go_wp2_with fail
    refine (rbuild_any L a N c l w3 HL.out hN HA3.out HF.out).mono ?_
    rintro e w4 ⟨v', rfl, ho4, hb4⟩
    rw [← HBD.out, ← HED.out]
    have HB4 := Lib.hid (bl_trans HB3.out hb4)
    have HA4 := Lib.hid (HA3.out.bl hb4)
    have HO4 := Lib.hid (owns_below HO3.out hb4)
    have HBX4 := Lib.hid (HBX3.out.below hb4)
    have HP4 := Lib.hid ho4
    have f0 : w4.cell? ⟨X, 0, none⟩ = some (.int .i64 L) := HBX4.out.cell 0
    have f1 : w4.cell? ⟨X, 1, none⟩ = some (.slice a N c) := HBX4.out.cell 1
    clear ho4 hb4 HB3 HA3 HBX3 HO3
    go_wp2_with fail
    refine (conf_any L a N c l w4 HL.out hN HNC.out HCC.out HA4.out HF.out).mono ?_
    rintro e w5 ⟨rfl, hb5⟩
    obtain ⟨ci, cj, ch, cd, hcv⟩ := cfV_parts L l
    rw [hcv]
    have HCV := Lib.hid hcv
    have HB5 := Lib.hid (bl_trans HB4.out hb5)
    have HA5 := Lib.hid (HA4.out.bl hb5)
    have HO5 := Lib.hid (owns_below HO4.out hb5)
    have HP5 := Lib.hid (owns_below HP4.out hb5)
    have HBX5 := Lib.hid (HBX4.out.below hb5)
    clear hcv hb5 f0 f1 HB4 HA4 HBX4 HO4 HP4
    have f0 : w5.cell? ⟨X, 0, none⟩ = some (.int .i64 L) := HBX5.out.cell 0
    have f1 : w5.cell? ⟨X, 1, none⟩ = some (.slice a N c) := HBX5.out.cell 1
    go_wp2_with fail
    refine (other_any L a N c _).mono ?_
    rintro e w6 ⟨rfl, hb6⟩
    have HB6 := Lib.hid (bl_trans HB5.out hb6)
    have HA6 := Lib.hid (HA5.out.bl hb6)
    have HO6 := Lib.hid (owns_below HO5.out hb6)
    have HP6 := Lib.hid (owns_below HP5.out hb6)
    clear hb6 f0 f1 HB5 HA5 HBX5 HO5 HP5
    go_wp2_with fail
    refine (rconf_any L a N c l w6 HL.out hN HA6.out HF.out).mono ?_
    rintro e w7 ⟨rfl, hb7⟩
    rw [HCV.out]
    have ho7 := owns_below HO6.out hb7
    have hp7 := owns_below HP6.out hb7
    obtain ⟨A1, c1, rfl, _⟩ := owns_slice ho7
    obtain ⟨A2, c2, rfl, _⟩ := owns_slice hp7
    have HB7 := Lib.hid (bl_trans HB6.out hb7)
    have HS7 := Lib.hid (same_any A1 A2 _ c1 c2 (bdT L l) w7 rfl (by omega) (rd_of_owns ho7) (rd_of_owns hp7))
    obtain ⟨z, hz⟩ : ∃ z, z = (bdT L l).length := ⟨_, rfl⟩
    rw [← hz] at HS7 hle ⊢
    have t1 : (ci == ci) = true := by simp
    have t2 : (cj == cj) = true := by simp
    have t3 : (ch == ch) = true := by simp
    have t4 : (cd == cd) = true := by simp
    have t5 : (E == E) = true := by simp
    have t6 : (B == B) = true := by simp
    clear ho7 hp7 hb7 HB6 HA6 HO6 HP6 HCV HBD HED hz
    go_wp2_with fail
    refine HS7.out.mono ?_
    rintro e w8 ⟨rfl, m, rfl⟩
    go_wp2_with fail
    refine (HW.out _).mono ?_
    rintro e w9 ⟨rfl, hb9⟩
    go_wp2_with fail
    go_ret
    exact ⟨rfl, bl_trans (bl_drewN HB7.out m) hb9⟩
end Go.Proofs.YtnabbmdhhddfbaaDoor
