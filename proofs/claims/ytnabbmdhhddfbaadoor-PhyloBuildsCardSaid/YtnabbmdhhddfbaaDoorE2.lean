/- The statement PhyloGroups: the walk. -/
import Derived.Test.YtnabbmdhhddfbaaDoorD3
import Derived.Test.YtnabbmdhhddfbaaDoorD5
import Derived.Test.YtnabbmdhhddfbaaDoorE1
namespace Go.Proofs.YtnabbmdhhddfbaaDoor
open Go Go.RowKit Go.Shelf
set_option maxHeartbeats 1000000 in
theorem few_any (L : Int) (a : Option Addr) (N c : Nat) (w : World) : Calls Tryd.prog 13 #[.agg #[.int .i64 L, .slice a N c]] w fun e w' => e = .returned (.bool (decide (N ≤ 20) || (decide (64 < N) && decide (N < 70)))) ∧ Below w.heap.size w w' := by
  have hb0 : Below w.heap.size w (w.alloc (.cells #[.int .i64 L, .slice a N c] 24)) := bl_alloc (Below.refl _ _) _
  by_cases h1 : N ≤ 20
  · have d1 : decide ((N : Int) ≤ 20) = true := decide_eq_true (by omega)
    have HD := Lib.hid (decide_eq_true h1)
    clear h1
    go_enter Tryd.func13, Tryd.ntmps13
    go_wp2_with fail
    go_ret
    exact ⟨by rw [HD.out]; rfl, hb0⟩
  · have d1 : decide ((N : Int) ≤ 20) = false := decide_eq_false (by omega)
    have HD := Lib.hid (decide_eq_false h1)
    by_cases h2 : 64 < N
    · have d2 : decide (64 < (N : Int)) = true := decide_eq_true (by omega)
      have HD2 := Lib.hid (decide_eq_true h2)
      by_cases h3 : N < 70
      · have d3 : decide ((N : Int) < 70) = true := decide_eq_true (by omega)
        have HD3 := Lib.hid (decide_eq_true h3)
        clear h1 h2 h3
        go_enter Tryd.func13, Tryd.ntmps13
        go_wp2_with fail
        go_ret
        exact ⟨by rw [HD.out, HD2.out, HD3.out]; rfl, hb0⟩
      · have d3 : decide ((N : Int) < 70) = false := decide_eq_false (by omega)
        have HD3 := Lib.hid (decide_eq_false h3)
        clear h1 h2 h3
        go_enter Tryd.func13, Tryd.ntmps13
        go_wp2_with fail
        go_ret
        exact ⟨by rw [HD.out, HD2.out, HD3.out]; rfl, hb0⟩
    · have d2 : decide (64 < (N : Int)) = false := decide_eq_false (by omega)
      have HD2 := Lib.hid (decide_eq_false h2)
      clear h1 h2
      go_enter Tryd.func13, Tryd.ntmps13
      go_wp2_with fail
      go_ret
      exact ⟨by rw [HD.out, HD2.out]; rfl, hb0⟩
/-- What both answer. -/
def gpL (L : Int) (l : List Nat) : List Nat := if chkT L l = 0 then grpsN L.toNat l else []
def GpPost (w : World) (L : Int) (l : List Nat) (e : Ending) (w' : World) : Prop := ∃ v', e = .returned (.tuple #[v', .int .i64 (chkT L l)]) ∧ w'.ownsRow w.heap.size 44 1 v' (gpL L l).length (fl encV (gpL L l)) ∧ Below w.heap.size w w'
theorem gpPost_of {w w' : World} {L : Int} {l : List Nat} {e : Ending} (h : ∃ v', e = .returned (.tuple #[v', .int .i64 (chkT L l)]) ∧ (chkT L l ≠ 0 → v' = .slice none 0 0) ∧ (chkT L l = 0 → w'.ownsRow w.heap.size 44 1 v' (grpsN L.toNat l).length (fl encV (grpsN L.toNat l))) ∧ Below w.heap.size w w') : GpPost w L l e w' := by
  obtain ⟨v', h1, h2, h3, h4⟩ := h
  refine ⟨v', h1, ?_, h4⟩
  unfold gpL
  by_cases q : chkT L l = 0
  · rw [if_pos q]; exact h3 q
  · rw [if_neg q, h2 q]; exact World.ownsRow_nil _ _ _ _
theorem gpL_le (L : Int) (l : List Nat) : (gpL L l).length ≤ 64 := by
  unfold gpL
  by_cases q : chkT L l = 0
  · rw [if_pos q, grpsN_len]
    have h1 := grpsU_le L.toNat l
    unfold chkT at q
    by_cases q1 : L < 0 ∨ 32 < L
    · rw [if_pos q1] at q; omega
    · rw [if_neg q1] at q
      by_cases q2 : 64 < l.length
      · rw [if_pos q2] at q; omega
      · omega
  · rw [if_neg q]; simp
set_option maxRecDepth 100000 in
set_option maxHeartbeats 4000000 in
theorem gplaw_any (L : Int) (a : Option Addr) (N c : Nat) (l : List Nat) (w : World) (hl : l.length = N) (hN : N ≤ 1152921504606846976) (hA : Rd w a (fl encV l)) (hF : FitV l) :
    Calls Tryd.prog 7 #[.agg #[.int .i64 L, .slice a N c]] w fun e w' => e = .returned (.bool true) ∧ Below w.heap.size w w' := by
  have hb0 := bl_alloc (Below.refl _ w) (.cells #[.int .i64 L, .slice a N c] 24)
  have hB := Blk.new w #[.int .i64 L, .slice a N c] 24
  have HL := Lib.hid hl
  have HF := Lib.hid hF
  have HA := Lib.hid (hA.bl hb0)
  have HB0 := Lib.hid hb0
  have HBX := Lib.hid hB
  have HW := Lib.hid works_any
  have hle := gpL_le L l
  clear hl hA hF hb0 hB
  obtain ⟨X, hX⟩ : ∃ x, x = w.heap.size := ⟨_, rfl⟩
  rw [← hX] at HBX
  go_enter Tryd.func7, Tryd.ntmps7
  go_wp2_with fail
  refine (few_any L a N c _).mono ?_
  rintro e w1 ⟨rfl, hb1⟩
  have HB1 := Lib.hid (bl_trans HB0.out hb1)
  have HA1 := Lib.hid (HA.out.bl hb1)
  have HBX1 := Lib.hid (HBX.out.below hb1)
  rw [← hX]
  have HX := Lib.hid hX
  clear hb1 hX HB0 HA HBX
  obtain ⟨fb, hfb⟩ : ∃ b, (decide (N ≤ 20) || (decide (64 < N) && decide (N < 70))) = b := ⟨_, rfl⟩
  rw [hfb]
  clear hfb
  cases fb with
  | false =>
    go_wp2_with fail
    refine (HW.out _).mono ?_
    rintro e w2 ⟨rfl, hb2⟩
    go_wp2_with fail
    go_ret
    exact ⟨rfl, bl_trans HB1.out hb2⟩
  | true =>
    have e0 : w1.cell? ⟨X, 0, none⟩ = some (.int .i64 L) := HBX1.out.cell 0
    have e1 : w1.cell? ⟨X, 1, none⟩ = some (.slice a N c) := HBX1.out.cell 1
    go_wp2_with fail
    refine (grp_any L a N c l w1 HL.out hN HA1.out HF.out).mono ?_
    rintro e w2 h2
    obtain ⟨v, rfl, ho, hb2⟩ := gpPost_of h2
    have HB2 := Lib.hid (bl_trans HB1.out hb2)
    have HA2 := Lib.hid (HA1.out.bl hb2)
    have HBX2 := Lib.hid (HBX1.out.below hb2)
    have HO2 := Lib.hid ho
    have f0 : w2.cell? ⟨X, 0, none⟩ = some (.int .i64 L) := HBX2.out.cell 0
    have f1 : w2.cell? ⟨X, 1, none⟩ = some (.slice a N c) := HBX2.out.cell 1
    clear h2 ho hb2 e0 e1 HB1 HA1 HBX1
    go_wp2_with fail
    refine (other_any L a N c _).mono ?_
    rintro e w3 ⟨rfl, hb3⟩
    have HB3 := Lib.hid (bl_trans HB2.out hb3)
    have HA3 := Lib.hid (HA2.out.bl hb3)
    have HO3 := Lib.hid (owns_below HO2.out hb3)
    clear hb3 f0 f1 HB2 HA2 HBX2 HO2
    go_wp2_with fail
    refine (rgrp_any L a N c l w3 HL.out hN HA3.out HF.out).mono ?_
    rintro e w4 h4
    obtain ⟨v', rfl, ho4, hb4⟩ := gpPost_of h4
    have ho3 := owns_below HO3.out hb4
    obtain ⟨A1, c1, rfl, _⟩ := owns_slice ho3
    obtain ⟨A2, c2, rfl, _⟩ := owns_slice ho4
    have HB4 := Lib.hid (bl_trans HB3.out hb4)
    have HR1 := Lib.hid (rd_of_owns ho3)
    have HR2 := Lib.hid (rd_of_owns ho4)
    obtain ⟨zs, hzs⟩ : ∃ z, z = gpL L l := ⟨_, rfl⟩
    rw [← hzs] at HR1 HR2 hle ⊢
    obtain ⟨z, hz⟩ : ∃ z, z = zs.length := ⟨_, rfl⟩
    obtain ⟨E, hE⟩ : ∃ z, z = chkT L l := ⟨_, rfl⟩
    rw [← hz] at hle ⊢
    rw [← hE]
    have HZ := Lib.hid hz
    clear h4 ho3 ho4 hb4 HB3 HO3 hz hE hzs HA3
    go_wp2_with fail
    go_loopw [7] (fun x wx => ∃ k : Nat, k ≤ z ∧ x = .int .i64 k ∧ Hid (Below w4.heap.size w4 wx)) (fun x _ => z - (intOf x).toNat)
    case atStart => exact ⟨0, by omega, rfl, Below.refl _ _⟩
    case round =>
      obtain ⟨k, hk, rfl, hb⟩ := hrel
      by_cases hkz : k < z
      · obtain ⟨b1, o1, rfl, _, hc1⟩ := rdV (HR1.out.bl hb.out) (by rw [← HZ.out]; omega)
        obtain ⟨b2, o2, rfl, _, hc2⟩ := rdV (HR2.out.bl hb.out) (by rw [← HZ.out]; omega)
        have g1 := hc1 k (by rw [← HZ.out]; exact hkz)
        have g2 := hc2 k (by rw [← HZ.out]; exact hkz)
        clear hc1 hc2
        generalize vA zs k = y at *
        have t1 : ((y : Int) != (y : Int)) = false := by simp
        go_wp2_with fail
        go_quiet (fail)
        go_wp2_with fail
        go_roundw
        case rel => exact ⟨k + 1, by omega, by go_num, bl_drewN hb.out nq⟩
        case measure => simp [intOf]; omega
      · go_wp2_with fail
        refine (HW.out _).mono ?_
        rintro e w6 ⟨rfl, hb6⟩
        go_wp2_with fail
        go_ret
        exact ⟨rfl, bl_trans HB4.out (bl_trans hb.out hb6)⟩
end Go.Proofs.YtnabbmdhhddfbaaDoor
