/- glotto.Joined at every input. -/
import Derived.Test.YtahgffjkkdbjeaaDoorJA
namespace Go.Proofs.YtahgffjkkdbjeaaDoor
open Go.RowKit
def JnPost (w : World) (n : Int) (l : List Mg) (e : Ending) (w' : World) : Prop :=
  Below w.heap.size w w' ∧ ((∃ k, joinE n l = .error k ∧ e = .returned (.tuple #[.slice none 0 0, .int .i64 k])) ∨
    ∃ (m : Nat) (v : Value), n = (m : Int) ∧ joinE n l = .ok m ∧ e = .returned (.tuple #[v, .int .i64 0]) ∧ w'.ownsRow w.heap.size 40 2 v (m * m) (fl encFr (jnL l (m - 1) m)))
theorem joinE_range {n : Int} {l : List Mg} (h : n < 1 ∨ 24 < n) : joinE n l = .error 3 := if_pos h
theorem joinE_arg {n : Nat} {l : List Mg} (h1 : 1 ≤ n) (h2 : n ≤ 24) (h : ¬ StepsOk n l) : joinE n l = .error 2 := by
  unfold joinE
  rw [if_neg (by omega), Int.toNat_natCast, if_neg h]
theorem joinE_ok {n : Nat} {l : List Mg} (h1 : 1 ≤ n) (h2 : n ≤ 24) (h : StepsOk n l) : joinE n l = .ok n := by
  unfold joinE
  rw [if_neg (by omega), Int.toNat_natCast, if_pos h]
set_option maxRecDepth 100000 in
set_option maxHeartbeats 4000000 in
theorem joined_any (a : Option Addr) (n : Int) (N c : Nat) (l : List Mg) (w : World) (hn1 : -9223372036854775808 ≤ n) (hn2 : n ≤ 9223372036854775807) (hl : l.length = N) (hN : N ≤ 1152921504606846976) (hA : Rd w a (fl encMg l)) (hfit : FitMg l) :
    Calls Tryd.prog 40 #[.int .i64 n, .slice a N c] w (JnPost w n l) := by
  have HL := Lib.hid hl
  have HF := Lib.hid hfit
  clear hl hfit
  have hNB := Blk.new w #[.int .i64 n] 3
  have hLB := Blk.new2 w (.cells #[.int .i64 n] 3) #[.slice a N c] 36
  have hNB1 := hNB.alloc (.cells #[.slice a N c] 36)
  have hb1 := bl_alloc (bl_alloc (Below.refl w.heap.size w) (.cells #[.int .i64 n] 3)) (.cells #[.slice a N c] 36)
  have c1 : ((w.alloc (.cells #[.int .i64 n] 3)).alloc (.cells #[.slice a N c] 36)).cell? ⟨w.heap.size, 0, none⟩ = some (.int .i64 n) := hNB1.cell 0
  go_enter Tryd.func40, Tryd.ntmps40
  go_upto_region 1 with fail
  have hsz1 : ((w.alloc (.cells #[.int .i64 n] 3)).alloc (.cells #[.slice a N c] 36)).heap.size = w.heap.size + 1 + 1 := by simp only [World.size_alloc]
  obtain ⟨w1, hw1⟩ : ∃ w1, w1 = (w.alloc (.cells #[.int .i64 n] 3)).alloc (.cells #[.slice a N c] 36) := ⟨_, rfl⟩
  obtain ⟨NB, hNBe⟩ : ∃ x, x = w.heap.size := ⟨_, rfl⟩
  rw [← hw1] at hLB hNB1 hb1 c1 hsz1 ⊢
  rw [← hNBe] at hNB1 hLB c1 ⊢
  obtain ⟨LB, hLBe⟩ : ∃ x, x = NB + 1 := ⟨_, rfl⟩
  rw [← hLBe] at hLB ⊢
  have hLB2 : LB = NB + 1 := hLBe
  have hNB2 : NB = w.heap.size := hNBe
  have HSZ := Lib.hid (And.intro hNB2 (And.intro hLB2 hsz1))
  have hA1 := hA.bl hb1
  have HA := Lib.hid hA
  clear hw1 hNBe hLBe hNB hLB2 hNB2 hsz1 hA
  by_cases q1 : n < 1
  · have hs := Lib.hid (joinE_range (l := l) (.inl q1))
    go_wp2_with fail
    go_ret2
    exact ⟨hb1, .inl ⟨3, hs.out, rfl⟩⟩
  · by_cases q2 : 24 < n
    · have hs := Lib.hid (joinE_range (l := l) (.inr q2))
      go_wp2_with fail
      go_ret2
      exact ⟨hb1, .inl ⟨3, hs.out, rfl⟩⟩
    · obtain ⟨m, rfl⟩ : ∃ m : Nat, n = m := ⟨n.toNat, by omega⟩
      have hm1 : 1 ≤ m := by omega
      have hm2 : m ≤ 24 := by omega
      have d1 : decide ((m : Int) < 1) = false := by simp; omega
      have d2 : decide (24 < (m : Int)) = false := by simp; omega
      clear q1 q2
      obtain ⟨M, hM⟩ : ∃ M, m * m = M := ⟨_, rfl⟩
      have hMb : M ≤ 576 := by rw [← hM]; exact Nat.mul_le_mul hm2 hm2
      have hM1 : 1 ≤ M := by rw [← hM]; exact Nat.mul_le_mul hm1 hm1
      have wM := wrap_nat ((m : Int) * (m : Int)) M (by rw [← hM]; simp) (by omega)
      have HM := Lib.hid hM
      have hE : Rd (w1.alloc (.cells #[.int .i64 0, .int .i64 1] 40)) (some ⟨w1.heap.size, 0, none⟩) (fl encFr [(0, 1)]) := fun _ => ⟨w1.heap.size, 0, rfl, (Blk.new w1 #[.int .i64 0, .int .i64 1] 40).lt, fun i hi => by
        rw [Nat.zero_add, (Blk.new w1 #[.int .i64 0, .int .i64 1] 40).cell i]
        rcases i with _ | _ | i
        · rfl
        · rfl
        · simp [fl, encFr] at hi; omega⟩
      have HE := Lib.hid (repFr_any w1.heap.size 0 1 M (0, 1) _ hM1 hMb hE)
      have c1' : (w1.alloc (.cells #[.int .i64 0, .int .i64 1] 40)).cell? ⟨NB, 0, none⟩ = some (.int .i64 m) := (hNB1.alloc _).cell 0
      clear hM hE
      go_upto_region 4 with (go_at_call 79; refine HE.out.mono ?_; rintro e w2 ⟨g2, rfl, hg2, hown2, hb2⟩)
      have hb12 := bl_trans (bl_alloc (Below.refl w1.heap.size w1) (.cells #[.int .i64 0, .int .i64 1] 40)) hb2
      have HB2 := Lib.hid (bl_alloc hb12 (.cells #[.slice (some ⟨g2, 0, none⟩) M M] 22))
      have hOB := Blk.new w2 #[.slice (some ⟨g2, 0, none⟩) M M] 22
      have hown3 := World.ownsRow.alloc hown2 (.cells #[.slice (some ⟨g2, 0, none⟩) M M] 22)
      have hs2 : w1.heap.size + 1 ≤ w2.heap.size := by have := hb2.size; simp only [World.size_alloc] at this; exact this
      simp only [World.size_alloc] at hg2
      obtain ⟨w3, hw3⟩ : ∃ w3, w3 = w2.alloc (.cells #[.slice (some ⟨g2, 0, none⟩) M M] 22) := ⟨_, rfl⟩
      obtain ⟨OB, hOBe⟩ : ∃ x, x = w2.heap.size := ⟨_, rfl⟩
      have HS3 : Hid (w3.heap.size = OB + 1) := by show _ = _; rw [hw3, hOBe, World.size_alloc]
      have hg2l : g2 < OB := by rw [hOBe]; exact (World.ownsRow.lt hown2 g2 rfl).2
      rw [← hw3] at HB2 hOB hown3 ⊢
      rw [← hOBe] at hOB hs2 ⊢
      have HOW3 := Lib.hid hown3
      have c3 : w3.cell? ⟨NB, 0, none⟩ = some (.int .i64 m) := (hNB1.below HB2.out).cell 0
      have HNB3 := Lib.hid (hNB1.below HB2.out)
      have HLB3 := Lib.hid (hLB.below HB2.out)
      have HRD3 := Lib.hid (hA1.bl HB2.out)
      have HB13 := Lib.hid (bl_trans hb1 HB2.out)
      clear hw3 hOBe hown2 hown3 hb2 hb12 hLB hNB1 c1 c1' HE hA1
      obtain ⟨i0, hi0, hz0, hz1, hz2⟩ := info_parts info_I
      have hmk := run_make (P := Tryd.prog) w3 29 3 i0 _ Tryd.underlying29 hi0 hz0 .i64 .i64 (m : Int) (m : Int) (by omega) (by omega) (by rw [hz2]; omega) (by omega)
      simp only [hz1, Int.toNat_natCast, Nat.mul_one] at hmk
      clear hi0 hz0 hz1 hz2
      have hls0 : Blk (w3.alloc (.cells (madeCells #[Value.int .i64 0] m) 3)) w3.heap.size (ofF m (lsC fun p => if p < 0 then p else 0)) 3 := by
        have e : madeCells #[Value.int .i64 0] m = ofF m (lsC fun p => if p < 0 then p else 0) := by
          apply Array.ext
          · simp [madeCells, ofF]
          · intro i h1 h2
            simp [madeCells, ofF, lsC, Nat.mod_one]
        rw [e]; exact Blk.new w3 _ 3
      have hls1 := hls0.alloc (.cells #[.slice (some ⟨w3.heap.size, 0, none⟩) m m] 29)
      have hSB0 := Blk.new2 w3 (.cells (madeCells #[Value.int .i64 0] m) 3) #[.slice (some ⟨w3.heap.size, 0, none⟩) m m] 29
      have hb4 := bl_alloc (bl_alloc (Below.refl w3.heap.size w3) (.cells (madeCells #[Value.int .i64 0] m) 3)) (.cells #[.slice (some ⟨w3.heap.size, 0, none⟩) m m] 29)
      have HB4 := Lib.hid hb4
      have HSB0 := Lib.hid hSB0
      have HLS1 := Lib.hid hls1
      have HSZ4 : Hid (((w3.alloc (.cells (madeCells #[Value.int .i64 0] m) 3)).alloc (.cells #[.slice (some ⟨w3.heap.size, 0, none⟩) m m] 29)).heap.size = w3.heap.size + 1 + 1) := by show _ = _; simp only [World.size_alloc]
      clear hls0 hls1 hSB0 hb4 hM1
      go_upto_region 5 with fail
      obtain ⟨w4, hw4⟩ : ∃ w4, w4 = (w3.alloc (.cells (madeCells #[Value.int .i64 0] m) 3)).alloc (.cells #[.slice (some ⟨w3.heap.size, 0, none⟩) m m] 29) := ⟨_, rfl⟩
      obtain ⟨g1, hg1⟩ : ∃ x, x = w3.heap.size := ⟨_, rfl⟩
      rw [← hw4] at HB4 HSB0 HLS1 HSZ4 ⊢
      rw [← hg1] at HSB0 HLS1 HSZ4 HS3 ⊢
      obtain ⟨SB, hSBe⟩ : ∃ x, x = g1 + 1 := ⟨_, rfl⟩
      rw [← hSBe] at HSB0 HSZ4 ⊢
      have HE : Hid (SB = g1 + 1 ∧ g1 = w3.heap.size) := ⟨hSBe, hg1⟩
      have hsg : ¬ (SB = g1) := by omega
      clear hw4 hg1 hSBe hmk c3
      have hSB := HSB0.out
      have hb0 := But.refl g1 w4
      have hl0 := HLS1.out
      have c4 : w4.cell? ⟨SB, 0, none⟩ = some (.slice (some ⟨g1, 0, none⟩) m m) := hSB.cell 0
      go_wp2_with fail
      clear c4
      go_loopw [25] (fun x wr => ∃ b : Nat, b ≤ m ∧ x = .int .i64 b ∧ But g1 w4 wr ∧ Blk wr g1 (ofF m (lsC fun p => if p < b then p else 0)) 3) (fun x _ => m - (intOf x).toNat)
      case atStart => exact ⟨0, by omega, rfl, hb0, hl0⟩
      case round =>
        clear hb0 hl0
        obtain ⟨b, hb, rfl, hbt, hls⟩ := hrel
        have c4 : wr.cell? ⟨SB, 0, none⟩ = some (.slice (some ⟨g1, 0, none⟩) m m) := (hbt.blk hSB hsg).cell 0
        by_cases hlt : b < m
        · have e1 : wr.cell? ⟨g1, b, none⟩ = some (.int .i64 ((if b < b then b else 0 : Nat) : Int)) := hls.getF b hlt
          have f1 := hls.free b
          have HSET : Hid (Blk (wr.setCell ⟨g1, b, none⟩ (.int .i64 b)) g1 (ofF m (lsC fun p => if p < b + 1 then p else 0)) 3) := by
            have h1 := hls.setF b (.int .i64 b)
            have e : (fun j => if j = b then Value.int .i64 (b : Nat) else lsC (fun p => if p < b then p else 0) j) = lsC fun p => if p < b + 1 then p else 0 := by
              funext j
              by_cases hj : j = b
              · subst hj; rw [if_pos rfl, lsC, if_pos (Nat.lt_succ_self _)]
              · rw [if_neg hj, lsC, lsC]
                by_cases h2 : j < b
                · have h3 : j < b + 1 := by omega
                  rw [if_pos h2, if_pos h3]
                · have h3 : ¬ j < b + 1 := by omega
                  rw [if_neg h2, if_neg h3]
            rw [← e]; exact h1
          have HBT := Lib.hid hbt
          clear hls hbt
          go_wp2_with fail
          go_roundw
          case rel => exact ⟨b + 1, by omega, by go_num, HBT.out.set _ _, HSET.out⟩
          case measure => simp [intOf]; omega
        · have hbm : b = m := by omega
          have hls2 : Blk wr g1 (ofF m (lsC (lsK l 0))) 3 := by
            have e : ofF m (lsC (lsK l 0)) = ofF m (lsC fun p => if p < b then p else 0) := ofF_congr fun i hi => by
              rw [lsC, lsC, if_pos (by omega)]; rfl
            rw [e]; exact hls
          have hlnb := HLB3.out.lt
          have hnnb := HNB3.out.lt
          obtain ⟨x1, x2, x3⟩ := HSZ.out
          have x4 := HS3.out
          obtain ⟨x5, x6⟩ := HE.out
          have x7 := HSZ4.out
          have x8 := hbt.size
          have hw1 := HB13.out.size
          have hJ : JnJ w wr.heap.size LB NB SB OB g1 g2 a N c m M l 0 wr := by
            refine ⟨hbt.blk (HLB3.out.below HB4.out) (by omega), hbt.blk (HNB3.out.below HB4.out) (by omega), hbt.blk hSB hsg, hbt.blk (hOB.below HB4.out) (by omega), hls2, ?_, ?_, ?_, ?_⟩
            · have h1 := World.ownsRow.kept (owns_below HOW3.out HB4.out) (but_grown hbt) (.inr (by simp [Value.ownBlock]; omega))
              have e : List.replicate M ((0 : Int), (1 : Int)) = (List.range M).map (jnF l 0 m) := by
                apply List.ext_getElem
                · simp
                · intro i h1 h2; simp [jnF, jnK]
              rw [e] at h1
              exact owns_mono h1 (by have := HB13.out.size; simp only [World.size_alloc]; omega)
            · exact HA.out
            · exact (HB13.out.trans (HB4.out.mono HB13.out.size)).trans (hbt.below (by omega) (by omega))
            · refine ⟨by omega, by omega, by omega, by omega, by omega, by omega, by omega, by omega, by omega, by omega, by omega, by omega, by omega, by omega, by omega, by omega, by omega, by omega⟩
          have HJ := Lib.hid hJ
          have c5 : wr.cell? ⟨NB, 0, none⟩ = some (.int .i64 m) := HJ.out.nbox.cell 0
          have c6 : wr.cell? ⟨LB, 0, none⟩ = some (.slice a N c) := HJ.out.lbox.cell 0
          have HBW := Lib.hid HJ.out.bl
          clear hJ hls hls2 hlnb hnnb x1 x2 x3 x4 x5 x6 x7 x8 hw1 hbt hs2 hg2l hg2
          go_wp2_with fail
          refine (steps_any 80 (enters_of Tryd.func80 (by kernel_rfl) rfl) a m N c l #[.pointer (some ⟨LB, 0, none⟩), .pointer (some ⟨NB, 0, none⟩), .pointer (some ⟨SB, 0, none⟩), .pointer (some ⟨OB, 0, none⟩)] wr (JnJ w wr.heap.size LB NB SB OB g1 g2 a N c m M l) hm1 hm2 HL.out hN (fun k W h => h.rd.below h.bl (Nat.le_refl _)) (fun k W W' h hb => h.stays hb) HJ.out ?_).mono ?_
          · intro k W hk hok hJ hsz hNm
            exact join1_any w wr.heap.size LB NB SB OB g1 g2 a N c m M l k W HL.out hk hm2 HM.out (hok k (by omega)) HF.out hJ
          · rintro e w6 (⟨hok, rfl, hJ⟩ | ⟨hno, rfl, k, hJ⟩)
            · have HJ6 := Lib.hid (show JnJ w wr.heap.size LB NB SB OB g1 g2 a N c m M l N w6 from hJ)
              have hs := Lib.hid (joinE_ok hm1 hm2 hok)
              have hNm : N = m - 1 := by have := hok.1; have := HL.out; omega
              have HNM := Lib.hid hNm
              have c7 : w6.cell? ⟨OB, 0, none⟩ = some (.slice (some ⟨g2, 0, none⟩) M M) := HJ6.out.obox.cell 0
              clear hJ hok hNm c5 c6 c4
              go_wp2_with fail
              go_ret2
              refine ⟨HJ6.out.bl, .inr ⟨m, _, rfl, hs.out, rfl, ?_⟩⟩
              have h1 := HJ6.out.out
              unfold FF at h1
              rw [← HNM.out, HM.out, jnL, HM.out]
              exact h1
            · have HJ6 := Lib.hid (show JnJ w wr.heap.size LB NB SB OB g1 g2 a N c m M l k w6 from hJ)
              have hs := Lib.hid (joinE_arg hm1 hm2 hno)
              clear hJ hno c5 c6 c4
              go_wp2_with fail
              go_ret2
              exact ⟨HJ6.out.bl, .inl ⟨2, hs.out, rfl⟩⟩
end Go.Proofs.YtahgffjkkdbjeaaDoor
