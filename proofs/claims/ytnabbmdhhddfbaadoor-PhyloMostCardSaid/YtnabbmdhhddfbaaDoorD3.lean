/- works: the example of all statements. -/
import Derived.Test.YtnabbmdhhddfbaaDoorD2
namespace Go.Proofs.YtnabbmdhhddfbaaDoor
open Go.RowKit Go.Shelf
theorem rd_take {w : World} {a : Option Addr} {l : List Nat} (h : Rd w a (fl encV l)) (k : Nat) : Rd w a (fl encV (l.take k)) := by
  intro h0
  rw [fl_length encV_len] at h0
  have h1 : 0 < l.length := by rw [List.length_take] at h0; omega
  obtain ⟨b, o, e, hb, hc⟩ := rd_elem encV_len h (by omega) h1
  refine ⟨b, o, e, hb, fun i hi => ?_⟩
  rw [fl_length encV_len, List.length_take] at hi
  have := hc i (by omega) 0 (by omega)
  simp only [Nat.mul_one, Nat.add_zero] at this
  rw [this]
  have h2 := fl_getElem? encV_len (l.take k) i 0 (by omega)
  rw [Nat.mul_one, Nat.add_zero] at h2
  rw [List.getD_eq_getElem?_getD, h2, List.getElem?_take, if_pos (by omega), List.getElem?_eq_getElem (l := l) (show i < l.length by omega)]
  rfl
theorem ints_same (a1 a2 : Option Addr) (n1 n2 c1 c2 : Nat) (l : List Int) (w : World) (hn1 : l.length = n1) (hn2 : l.length = n2) (hm1 : n1 ≤ 1152921504606846976) (hm2 : n2 ≤ 1152921504606846976) (hA : Rd w a1 (fl encI l)) (hB : Rd w a2 (fl encI l)) :
    Calls Tryd.prog 23 #[.slice a1 n1 c1, .slice a2 n2 c2] w fun e w' => e = .returned (.bool true) ∧ ∃ n, w' = w.drewN n :=
  (ints_any a1 a2 n1 n2 c1 c2 l l w hn1 hn2 hm1 hm2 hA hB).mono fun e w' h => ⟨by rw [h.1, decide_eq_true rfl], h.2⟩
set_option maxRecDepth 100000 in
set_option maxHeartbeats 4000000 in
theorem works_any (w : World) : Calls Tryd.prog 14 #[] w fun e w' => e = .returned (.bool true) ∧ Below w.heap.size w w' := by
  go_enter Tryd.func14, Tryd.ntmps14
  go_wp2_with fail
  refine (four_any _).mono ?_
  rintro e w1 ⟨B, rfl, hR, hBw, hb1⟩
  have HR1 := Lib.hid (rd_take hR 3)
  have HB1 := Lib.hid hb1
  clear hR hb1
  go_wp2_with fail
  refine (w_build _ _ (HR1.out.bl (bl_alloc (Below.refl _ _) _))).mono ?_
  rintro e w2 ⟨T, tc, rfl, hT, h7, htc, hb2⟩
  have HTC := Lib.hid htc
  have HB2 := Lib.hid (bl_trans (bl_alloc HB1.out _) hb2)
  have HT2 := Lib.hid hT
  clear hT hb2 HB1 HR1 htc
  go_wp2_with fail
  refine (four_any _).mono ?_
  rintro e w3 ⟨B3, rfl, hR3, _, hb3⟩
  have HB3 := Lib.hid (bl_trans HB2.out hb3)
  have HT3 := Lib.hid (HT2.out.bl hb3)
  have HR3 := Lib.hid hR3
  clear hR3 hb3 HB2 HT2
  go_wp2_with fail
  refine (w_conf _ _ HR3.out).mono ?_
  rintro e w4 ⟨rfl, hb4⟩
  have HB4 := Lib.hid (bl_trans HB3.out hb4)
  have HT4 := Lib.hid (HT3.out.bl hb4)
  clear hb4 HB3 HT3 HR3
  go_wp2_with fail
  refine (four_any _).mono ?_
  rintro e w5 ⟨B5, rfl, hR5, _, hb5⟩
  have HB5 := Lib.hid (bl_trans HB4.out hb5)
  have HT5 := Lib.hid (HT4.out.bl hb5)
  have HR5 := Lib.hid hR5
  clear hR5 hb5 HB4 HT4
  go_wp2_with fail
  refine (w_big _ _ HR5.out).mono ?_
  rintro e w6 ⟨G, gc, rfl, hG, hb6⟩
  have HB6 := Lib.hid (bl_trans HB5.out hb6)
  have HT6 := Lib.hid (HT5.out.bl hb6)
  have HG6 := Lib.hid hG
  have hTl : T < w6.heap.size := by
    obtain ⟨b, o, e, hb, _⟩ := HT6.out (by decide)
    have := (Addr.mk.inj (Option.some.inj e)).1
    omega
  obtain ⟨bt, ot, et, _, hct⟩ := rdNd HT6.out (by decide)
  have e1 := (Addr.mk.inj (Option.some.inj et)).1
  have e2 := (Addr.mk.inj (Option.some.inj et)).2.1
  have q1 := hct 1 (by decide)
  have q6 := hct 6 (by decide)
  rw [← e1, ← e2] at q1 q6
  have c10 : w6.cell? ⟨T, 2, none⟩ = some (.int .i64 0) := q1.1
  have c11 : w6.cell? ⟨T, 3, none⟩ = some (.string ⟨#[78, 49]⟩) := q1.2
  have c60 : w6.cell? ⟨T, 12, none⟩ = some (.int .i64 0) := q6.1
  have c61 : w6.cell? ⟨T, 13, none⟩ = some (.string ⟨#[76, 51]⟩) := q6.2
  clear hG hb6 HB5 HT5 HR5 et hct e1 e2 q1 q6
  have hn1 := fun w => neqNd 0 0 ⟨#[78, 49]⟩ ⟨#[78, 49]⟩ w
  have hn2 := fun w => neqNd 0 0 ⟨#[76, 51]⟩ ⟨#[76, 51]⟩ w
  have hgd := guardNd
  simp only [decide_true, Bool.and_self, Bool.not_true] at hn1 hn2
  have hlst := Blk.new w6 (fl encI [0, 1, 2]).toArray 3
  have hbl7 := bl_alloc (Below.refl w6.heap.size w6) (.cells (fl encI [0, 1, 2]).toArray 3)
  have HI := Lib.hid (ints_same (some ⟨G, 0, none⟩) (some ⟨w6.heap.size, 0, none⟩) 3 3 gc 3 [0, 1, 2] (w6.alloc (.cells (fl encI [0, 1, 2]).toArray 3)) rfl rfl (by omega) (by omega) (HG6.out.bl hbl7) (Rd.of_blk hlst))
  have HB7 := Lib.hid (bl_trans HB6.out hbl7)
  have HT7 := Lib.hid (HT6.out.bl hbl7)
  clear hlst hbl7
  go_wp2_with fail
  refine HI.out.mono ?_
  rintro e w7 ⟨rfl, nq, rfl⟩
  obtain ⟨w7, hw7⟩ : ∃ x, x = (w6.alloc (.cells (fl encI [0, 1, 2]).toArray 3)).drewN nq := ⟨_, rfl⟩
  have HB8 : Hid (Below w.heap.size w w7) := by rw [hw7]; exact bl_drewN HB7.out nq
  have HT8 : Hid (Rd w7 (some ⟨T, 0, none⟩) (fl encNd exT)) := by show Rd _ _ _; rw [hw7]; exact HT7.out
  rw [← hw7]
  clear hw7 HB7 HT7 HI HB6 HT6 HG6 c10 c11 c60 c61 hn1 hn2 hgd
  go_wp2_with fail
  refine (four_any _).mono ?_
  rintro e w8 ⟨B8, rfl, hR8, _, hb8⟩
  have HB9 := Lib.hid (bl_trans HB8.out hb8)
  have HT9 := Lib.hid (HT8.out.bl hb8)
  have HR9 := Lib.hid hR8
  clear hR8 hb8 HB8 HT8
  go_wp2_with fail
  refine (w_loss _ _ _ _ HR9.out HT9.out h7 HTC.out).mono ?_
  rintro e w9 ⟨Z, zc, rfl, hZ, hb9⟩
  have HB10 := Lib.hid (bl_trans HB9.out hb9)
  have hlst := Blk.new w9 (fl encI [0, 0, 0, 1]).toArray 3
  have hbl7 := bl_alloc (Below.refl w9.heap.size w9) (.cells (fl encI [0, 0, 0, 1]).toArray 3)
  have HI := Lib.hid (ints_same (some ⟨Z, 0, none⟩) (some ⟨w9.heap.size, 0, none⟩) 4 4 zc 4 [0, 0, 0, 1] (w9.alloc (.cells (fl encI [0, 0, 0, 1]).toArray 3)) rfl rfl (by omega) (by omega) (hZ.bl hbl7) (Rd.of_blk hlst))
  have HB11 := Lib.hid (bl_trans HB10.out hbl7)
  clear hZ hb9 HB9 HT9 HR9 hlst hbl7 HB10
  go_wp2_with fail
  refine HI.out.mono ?_
  rintro e w10 ⟨rfl, nq, rfl⟩
  go_wp2_with fail
  go_ret
  exact ⟨rfl, bl_drewN HB11.out nq⟩
end Go.Proofs.YtnabbmdhhddfbaaDoor
