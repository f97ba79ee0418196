/- The statement PhyloLargest: the walk. -/
import Derived.Test.YtnabbmdhhddfbaaDoorD3
import Derived.Test.YtnabbmdhhddfbaaDoorD4
namespace Go.Proofs.YtnabbmdhhddfbaaDoor
open Go Go.RowKit Go.Shelf
set_option maxHeartbeats 1000000 in
theorem other_any (L : Int) (a : Option Addr) (N c : Nat) (w : World) : Calls Tryd.prog 17 #[.agg #[.int .i64 L, .slice a N c]] w fun e w' => e = .returned (.agg #[.int .i64 L, .slice a N c]) ∧ Below w.heap.size w w' := by
  go_enter Tryd.func17, Tryd.ntmps17
  go_wp2_with fail
  exact bodyPost_ret (v := .agg #[.int .i64 L, .slice a N c]) (by simp [results, Tryd.results17, go_sem]) rfl ⟨rfl, bl_alloc (bl_alloc (Below.refl _ _) _) _⟩
theorem lgL_len (L : Int) (l : List Nat) : (lgL L l).length ≤ 12 := by
  unfold lgL
  split
  · rename_i h
    have h12 : l.length ≤ 12 := by
      unfold lgE at h
      by_cases q : chkT L l = 0
      · rw [if_neg (fun h => h q)] at h
        by_cases q2 : 12 < l.length
        · rw [if_pos q2] at h; omega
        · omega
      · rw [if_pos q] at h; exact absurd h q
    rw [bigL_dsc]
    have key : ∀ r m, ∀ x, x ∈ dsc l r m → x.length ≤ m.length + r := by
      intro r
      induction r with
      | zero => intro m x hx; rw [dsc, List.mem_singleton] at hx; subst hx; omega
      | succ r ih =>
        intro m x hx
        rw [dsc, List.mem_append] at hx
        rcases hx with hx | hx
        · split at hx
          · have := ih _ _ hx
            rw [List.length_append, List.length_singleton] at this; omega
          · cases hx
        · have := ih _ _ hx; omega
    rcases fold_mem (dsc l l.length []) [] with h | h
    · rw [h]; simp
    · have := key _ _ _ h
      simp at this; omega
  · simp
set_option maxRecDepth 100000 in
set_option maxHeartbeats 4000000 in
theorem lglaw_any (L : Int) (a : Option Addr) (N c : Nat) (l : List Nat) (w : World) (hl : l.length = N) (hN : N ≤ 1152921504606846976) (hA : Rd w a (fl encV l)) (hF : FitV l) :
    Calls Tryd.prog 4 #[.agg #[.int .i64 L, .slice a N c]] w fun e w' => e = .returned (.bool true) ∧ Below w.heap.size w w' := by
  have hb0 := bl_alloc (Below.refl _ w) (.cells #[.int .i64 L, .slice a N c] 24)
  have hB := Blk.new w #[.int .i64 L, .slice a N c] 24
  have HL := Lib.hid hl
  have HF := Lib.hid hF
  have HA := Lib.hid (hA.bl hb0)
  have HB0 := Lib.hid hb0
  have HW := Lib.hid works_any
  clear hl hA hF
  by_cases hq : (8 < N ∧ N ≤ 12) ∨ 70 < N
  · by_cases h8 : 8 < N ∧ N ≤ 12
    · obtain ⟨h1, h2⟩ := h8
      have d1 : decide (8 < N) = true := by simpa using h1
      have d2 : decide (N ≤ 12) = true := by simpa using h2
      clear hq
      go_enter Tryd.func4, Tryd.ntmps4
      go_wp2_with fail
      refine (HW.out _).mono ?_
      rintro e w1 ⟨rfl, hb1⟩
      go_wp2_with fail
      go_ret
      exact ⟨rfl, bl_trans HB0.out hb1⟩
    · have h70 : 70 < N := by omega
      have d1 : decide (8 < N) = true := by simp; omega
      have d2 : decide (N ≤ 12) = false := by simp; omega
      have d3 : decide (70 < N) = true := by simpa using h70
      clear hq h8
      go_enter Tryd.func4, Tryd.ntmps4
      go_wp2_with fail
      refine (HW.out _).mono ?_
      rintro e w1 ⟨rfl, hb1⟩
      go_wp2_with fail
      go_ret
      exact ⟨rfl, bl_trans HB0.out hb1⟩
  · have d3 : decide (70 < N) = false := by simp; omega
    have HC1 := Lib.hid (largest_any L a N c l (w.alloc (.cells #[.int .i64 L, .slice a N c] 24)) HL.out hN HA.out HF.out)
    have HBX := Lib.hid hB
    have hle := lgL_len L l
    have d3' : decide (70 < (N : Int)) = false := by simp; omega
    have key : (decide (8 < (N : Int)) = false) ∨ (decide (8 < (N : Int)) = true ∧ decide ((N : Int) ≤ 12) = false) := by
      by_cases h : 8 < N
      · right; exact ⟨decide_eq_true (by omega), decide_eq_false (by omega)⟩
      · left; exact decide_eq_false (by omega)
    clear hq hB hb0
    rcases key with d1 | ⟨d1, d2⟩
    all_goals
      go_enter Tryd.func4, Tryd.ntmps4
      go_upto_region 3 with fail
      obtain ⟨X, hX⟩ : ∃ x, x = w.heap.size := ⟨_, rfl⟩
      have e0 : (w.alloc (.cells #[.int .i64 L, .slice a N c] 24)).cell? ⟨X, 0, none⟩ = some (.int .i64 L) := by rw [hX]; exact HBX.out.cell 0
      have e1 : (w.alloc (.cells #[.int .i64 L, .slice a N c] 24)).cell? ⟨X, 1, none⟩ = some (.slice a N c) := by rw [hX]; exact HBX.out.cell 1
      have HX := Lib.hid hX
      rw [← hX]
      clear hX
      go_wp2_with fail
      refine HC1.out.mono ?_
      rintro e w2 ⟨v, rfl, ho, hb2⟩
      have hbx2 := HBX.out.below hb2
      rw [← HX.out] at hbx2
      have f0 : w2.cell? ⟨X, 0, none⟩ = some (.int .i64 L) := hbx2.cell 0
      have f1 : w2.cell? ⟨X, 1, none⟩ = some (.slice a N c) := hbx2.cell 1
      have HB2 := Lib.hid (bl_trans HB0.out hb2)
      have HA2 := Lib.hid (HA.out.bl hb2)
      have HO := Lib.hid ho
      clear e0 e1 ho hb2 hbx2
      go_wp2_with fail
      refine (other_any L a N c _).mono ?_
      rintro e w3 ⟨rfl, hb3⟩
      have HB3 := Lib.hid (bl_trans HB2.out hb3)
      have HO3 := Lib.hid (owns_below HO.out hb3)
      have HC2 := Lib.hid (rlargest_any L a N c l w3 HL.out hN (HA2.out.bl hb3) HF.out)
      clear hb3 f0 f1 HB2 HO HA2
      go_wp2_with fail
      refine HC2.out.mono ?_
      rintro e w4 ⟨v', rfl, ho4, hb4⟩
      have ho3 := owns_below HO3.out hb4
      obtain ⟨A1, c1, rfl, _⟩ := owns_slice ho3
      obtain ⟨A2, c2, rfl, _⟩ := owns_slice ho4
      have HB4 := Lib.hid (bl_trans HB3.out hb4)
      have HI := Lib.hid (ints_same A1 A2 (lgL L l).length (lgL L l).length c1 c2 (iN (lgL L l)) w4 (iN_len _) (iN_len _) (by omega) (by omega) (rd_of_owns ho3) (rd_of_owns ho4))
      obtain ⟨z, hz⟩ : ∃ z, z = (lgL L l).length := ⟨_, rfl⟩
      obtain ⟨E, hE⟩ : ∃ z, z = lgE L l := ⟨_, rfl⟩
      rw [← hz] at HI ⊢
      rw [← hE]
      clear ho3 ho4 hb4 HB3 HO3 HC2 HC1 hz hE hle
      go_wp2_with fail
      refine HI.out.mono ?_
      rintro e w5 ⟨rfl, nq, rfl⟩
      have HB5 := Lib.hid (bl_drewN HB4.out nq)
      go_wp2_with fail
      refine (HW.out _).mono ?_
      rintro e w6 ⟨rfl, hb6⟩
      go_wp2_with fail
      go_ret
      exact ⟨rfl, bl_trans HB5.out hb6⟩
end Go.Proofs.YtnabbmdhhddfbaaDoor
