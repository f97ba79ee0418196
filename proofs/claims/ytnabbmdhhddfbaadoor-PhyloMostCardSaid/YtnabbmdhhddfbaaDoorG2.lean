/- The statement PhyloMost: the walk. -/
import Derived.Test.YtnabbmdhhddfbaaDoorC4
import Derived.Test.YtnabbmdhhddfbaaDoorD3
import Derived.Test.YtnabbmdhhddfbaaDoorE3
import Derived.Test.YtnabbmdhhddfbaaDoorG1
namespace Go.Proofs.YtnabbmdhhddfbaaDoor
open Go Go.RowKit Go.Shelf
theorem mem_take_succ {l : List Nat} {j : Nat} (h : j < l.length) (v : Nat) : decide (v ∈ l.take (j + 1)) = (decide (v ∈ l.take j) || decide (v = vA l j)) := by
  rw [List.take_succ_eq_append_getElem h, ← vA_get h]
  simp
theorem not_mem_take {l : List Nat} {j : Nat} (h : ∀ k, k < j → vA l k < vA l j) (hj : j < l.length) : vA l j ∉ l.take j := by
  intro hm
  obtain ⟨k, hk, e⟩ := List.mem_iff_getElem.1 hm
  rw [List.length_take] at hk
  rw [List.getElem_take] at e
  have h1 := h k (by omega)
  rw [vA_get (by omega), e] at h1
  omega
/-- The flags and the row of the longest list, on the way. -/
structure MsK (w2 W : World) (Q N : Nat) (bg sm : List Nat) (u : Value) (n : Nat) : Prop where
  bl : Below w2.heap.size w2 W
  fl : Blk W Q (ofF N fun i => .bool (decide (i ∈ bg))) 4
  ow : W.ownsRow w2.heap.size 44 1 u n (Go.Proofs.YtnabbmdhhddfbaaDoor.fl encV sm)
theorem MsK.next {w2 W W' : World} {Q N n : Nat} {bg sm : List Nat} {u : Value} (h : MsK w2 W Q N bg sm u n) (hb : Below W.heap.size W W') : MsK w2 W' Q N bg sm u n := ⟨bl_trans h.bl hb, h.fl.below hb, owns_below h.ow hb⟩
theorem MsK.grown {w2 W W' : World} {Q N n B : Nat} {bg sm : List Nat} {u : Value} {row : Option Nat} (h : MsK w2 W Q N bg sm u n) (hQ : Q < B) (hu : ∀ r, u.ownBlock = some r → r < B) (hB : w2.heap.size ≤ B) (hg : W.grownBy W' row) (hr : ∀ r, row = some r → B ≤ r) : MsK w2 W' Q N bg sm u n := by
  refine ⟨bl_grown h.bl hg (fun r e => by have := hr r e; omega), h.fl.grown hg (fun e => by have := hr Q e.symm; omega), h.ow.kept hg ?_⟩
  cases hv : u.ownBlock with
  | none => exact .inl rfl
  | some r => exact .inr fun e => by have := hr r e.symm; have := hu r hv; omega
theorem owns_cap2 {w : World} {base e k n cap : Nat} {a : Option Addr} {cs : List Value} (h : w.ownsRow base e k (.slice a n cap) n cs) : n ≤ cap ∧ cap ≤ 9223372036854775807 := by
  rcases h.2 with ⟨hv, hn⟩ | ⟨g, cap', cur, hv, hg, hh, hn, hm, _⟩
  · cases hv; exact ⟨by omega, by omega⟩
  · cases hv; exact ⟨hn, by unfold maxLen at hm; omega⟩
set_option maxRecDepth 100000 in
set_option maxHeartbeats 4000000 in
theorem mslaw_any (L : Int) (a : Option Addr) (N c : Nat) (l : List Nat) (w : World) (hl : l.length = N) (hN : N ≤ 1152921504606846976) (hNc : N ≤ c) (hc : c ≤ 9223372036854775807) (hA : Rd w a (fl encV l)) (hF : FitV l) :
    Calls Tryd.prog 5 #[.agg #[.int .i64 L, .slice a N c]] w fun e w' => e = .returned (.bool true) ∧ Below w.heap.size w w' := by
  have hb0 := bl_alloc (Below.refl _ w) (.cells #[.int .i64 L, .slice a N c] 24)
  have hB := Blk.new w #[.int .i64 L, .slice a N c] 24
  have HL := Lib.hid hl
  have HF := Lib.hid hF
  have HA := Lib.hid (hA.bl hb0)
  have HB0 := Lib.hid hb0
  have HW := Lib.hid works_any
  have HNC := Lib.hid hNc
  have HCC := Lib.hid hc
  clear hl hA hF hNc hc
  obtain ⟨X, hX⟩ : ∃ x, x = w.heap.size := ⟨_, rfl⟩
  go_enter Tryd.func5, Tryd.ntmps5
  go_wp2_with fail
  refine (largest_any L a N c l _ HL.out hN HA.out HF.out).mono ?_
  rintro e w2 ⟨v, rfl, ho, hb2⟩
  have HB2 := Lib.hid (bl_trans HB0.out hb2)
  have HA2 := Lib.hid (HA.out.bl hb2)
  have hBX := hB.below hb2
  rw [← hX] at hBX ⊢
  have HBX := Lib.hid hBX
  have hXL : X < w2.heap.size := hBX.lt
  have hX0 := Lib.hid hX
  have e0 : w2.cell? ⟨X, 0, none⟩ = some (.int .i64 L) := HBX.out.cell 0
  have e1 : w2.cell? ⟨X, 1, none⟩ = some (.slice a N c) := HBX.out.cell 1
  clear hb2 hb0 HA HB0 hB hBX hX
  obtain ⟨E, hE⟩ : ∃ E, lgE L l = E := ⟨_, rfl⟩
  rw [hE]
  by_cases h0 : E = 0
  · subst h0
    have hlg : lgL L l = bigL l := by unfold lgL; rw [if_pos hE]
    rw [hlg] at ho
    have hchk : chkT L l = 0 ∧ l.length ≤ 12 := by
      unfold lgE at hE
      by_cases q : chkT L l = 0
      · rw [if_neg (fun h => h q)] at hE
        by_cases q2 : 12 < l.length
        · rw [if_pos q2] at hE; cases hE
        · exact ⟨q, by omega⟩
      · rw [if_pos q] at hE; exact absurd hE q
    have HCK := Lib.hid hchk.1
    have hN12 : N ≤ 12 := by have := hchk.2; have := HL.out; omega
    have HLT : Hid (∀ j, j < (bigL l).length → vA (bigL l) j < N) := fun j hj => by rw [← HL.out]; exact big_lt hj
    have HND : Hid (∀ j, j < (bigL l).length → ∀ k, k < j → vA (bigL l) k < vA (bigL l) j) := fun j hj k hk => big_nd hj hk
    have hzle : (bigL l).length ≤ N := by rw [← HL.out]; exact big_le l
    have HSA : Hid (∀ j, j < (bigL l).length → vA (someL l) j = vA l (vA (bigL l) j)) := fun j hj => someL_at l hj
    have HSL : Hid ((someL l).length = (bigL l).length) := someL_len l
    have HSC := Lib.hid (someL_conf l)
    have HSM : Hid (∀ i, i < N → i ∉ bigL l → confE (someL l ++ [vA l i]) ≠ none) := fun i hi hn => moreL_conf (by rw [HL.out]; exact hi) hn
    have HSS := Lib.hid (someL_sub l)
    obtain ⟨bg, hbg⟩ : ∃ x, x = bigL l := ⟨_, rfl⟩
    obtain ⟨sm, hsm⟩ : ∃ x, x = someL l := ⟨_, rfl⟩
    rw [← hbg] at ho HLT HND hzle HSA HSL HSM
    rw [← hsm] at HSA HSL HSC HSM HSS
    obtain ⟨z, hz⟩ : ∃ x, x = bg.length := ⟨_, rfl⟩
    rw [← hz] at ho HLT HND hzle HSA HSL
    have HZ := Lib.hid hz
    obtain ⟨A1, c1, rfl, _⟩ := owns_slice ho
    have HR := Lib.hid (rd_of_owns ho)
    obtain ⟨i0, hi0, hz0, hz1, hz2⟩ := info_parts info_B
    have hmk := run_make (P := Tryd.prog) w2 43 4 i0 _ Tryd.underlying43 hi0 hz0 .i64 .i64 (N : Int) (N : Int) (by omega) (by omega) (by rw [hz2]; omega) (by omega)
    simp only [hz1, Int.toNat_natCast, Nat.mul_one] at hmk
    have hbm : madeCells (Value.bool false).cells N = ofF N (fun _ => .bool false) := bools_made N
    clear hlg hE hchk hbg hsm hz ho hi0 hz0 hz1 hz2
    go_upto_region 5 with fail
    rw [bools_made]
    have hq0 := Blk.new w2 (ofF N (fun _ => .bool false)) 4
    have hb23 := bl_alloc (Below.refl _ w2) (.cells (ofF N (fun _ => .bool false)) 4)
    obtain ⟨w3, hw3⟩ : ∃ x, x = w2.alloc (.cells (ofF N (fun _ => .bool false)) 4) := ⟨_, rfl⟩
    rw [← hw3] at hq0 hb23 ⊢
    obtain ⟨Q, hQ⟩ : ∃ x, x = w2.heap.size := ⟨_, rfl⟩
    rw [← hQ] at hq0 hXL ⊢
    have HQ0 := Lib.hid hq0
    have HQQ := Lib.hid hQ
    have HB23 := Lib.hid hb23
    clear hmk hbm hq0 hb23 hw3 hQ e0 e1
    go_wp2_with fail
    go_loopw [7, 6] (fun x u wr => ∃ j : Nat, j ≤ z ∧ x = .int .i64 j ∧ Hid (wr.ownsRow w2.heap.size 44 1 u j (fl encV (sm.take j))) ∧ Hid (u.ownBlock ≠ some Q) ∧ Hid (Blk wr Q (ofF N (fun i => .bool (decide (i ∈ bg.take j)))) 4) ∧ Hid (Below w2.heap.size w2 wr)) (fun x _ _ => z - (intOf x).toNat)
    case atStart => exact ⟨0, by omega, rfl, World.ownsRow_nil _ _ _ _, (by simp [Hid, Value.ownBlock]), (by
      have e : ofF N (fun i => Value.bool (decide (i ∈ bg.take 0))) = ofF N (fun _ => Value.bool false) := ofF_congr fun i hi => by simp
      rw [e]; exact HQ0), HB23⟩
    case round =>
      clear HQ0 HB23
      obtain ⟨j, hj, rfl, hou, hun, hqb, hbl⟩ := hrel
      obtain ⟨Au, cu, rfl, _⟩ := owns_slice hou.out
      by_cases hlt : j < z
      · have e0 : wr.cell? ⟨X, 0, none⟩ = some (.int .i64 L) := (HBX.out.below hbl.out).cell 0
        have e1 : wr.cell? ⟨X, 1, none⟩ = some (.slice a N c) := (HBX.out.below hbl.out).cell 1
        have hbl2 := hbl.out.size
        obtain ⟨b1, o1, rfl, hb1, hc1⟩ := rdI (HR.out.bl hbl.out) (by rw [iN_len, ← HZ.out]; omega)
        have G1 := hc1 j (by rw [iN_len, ← HZ.out]; omega)
        rw [iN_get] at G1
        have hkN := HLT.out j hlt
        have HNM := Lib.hid (not_mem_take (HND.out j hlt) (by rw [← HZ.out]; exact hlt))
        have HMS := Lib.hid (fun v => mem_take_succ (l := bg) (j := j) (by rw [← HZ.out]; exact hlt) v)
        have HTK : Hid (sm.take j ++ [vA l (vA bg j)] = sm.take (j + 1)) := take_step (by rw [HSL.out]; exact hlt) (HSA.out j hlt)
        have G1a : Hid (∀ W, Below w2.heap.size w2 W → W.cell? ⟨b1, o1 + j, none⟩ = some (.int .i64 (vA bg j : Int))) := fun W hW => by
          obtain ⟨b', o', e', _, hc'⟩ := rdI (HR.out.bl hW) (by rw [iN_len, ← HZ.out]; omega)
          have e2 := Option.some.inj e'
          obtain rfl := (Addr.mk.inj e2).1
          obtain rfl := (Addr.mk.inj e2).2.1
          have h := hc' j (by rw [iN_len, ← HZ.out]; omega)
          rw [iN_get] at h; exact h
        clear hc1
        generalize vA bg j = k at *
        obtain ⟨b2, o2, rfl, hb2, hc2⟩ := rdV (HA2.out.bl hbl.out) (by rw [HL.out]; omega)
        have G2 := hc2 k (by rw [HL.out]; omega)
        have G3 : wr.cell? ⟨Q, k, none⟩ = some (.bool false) := by
          have h := hqb.out.getF k hkN
          rw [decide_eq_false HNM.out] at h; exact h
        have G4 := hqb.out.free k
        have G2a : Hid (∀ W, Below w2.heap.size w2 W → W.cell? ⟨b2, o2 + k, none⟩ = some (.int .u64 (vA l k : Int))) := fun W hW => by
          obtain ⟨b', o', e', _, hc'⟩ := rdV (HA2.out.bl hW) (by rw [HL.out]; omega)
          have e2 := Option.some.inj e'
          obtain rfl := (Addr.mk.inj e2).1
          obtain rfl := (Addr.mk.inj e2).2.1
          exact hc' k (by rw [HL.out]; omega)
        clear hc2
        generalize vA l k = y at *
        have d1 : decide ((k : Int) < 0) = false := decide_eq_false (by omega)
        have d2 : decide ((N : Int) ≤ (k : Int)) = false := decide_eq_false (by omega)
        go_wp2_with fail
        go_quiet (fail)
        go_upto_region 12 with fail
        obtain ⟨wp, hwp⟩ : ∃ x, x = (wr.drewN nq).setCell ⟨Q, k, none⟩ (.bool true) := ⟨_, rfl⟩
        have hblp : Below w2.heap.size w2 wp := by rw [hwp]; exact bl_set (bl_drewN hbl.out nq) _ _ _ _ (by rw [← HQQ.out]; exact Nat.le_refl _)
        have hqp : Blk wp Q (ofF N (fun i => .bool (decide (i ∈ bg.take (j + 1))))) 4 := by
          have h := (hqb.out.drewN nq).setF k (.bool true)
          have e : (fun i => if i = k then Value.bool true else Value.bool (decide (i ∈ bg.take j))) = fun i => Value.bool (decide (i ∈ bg.take (j + 1))) := by
            funext i
            rw [HMS.out i]
            by_cases e : i = k
            · subst e; simp
            · simp [e]
          rw [e] at h
          rw [hwp]; exact h
        have houp : wp.ownsRow w2.heap.size 44 1 (.slice Au j cu) j (fl encV (sm.take j)) := by
          rw [hwp]; exact ownsRow_setCell_other (owns_below hou.out (bl_drewN (Below.refl _ _) nq)) hun.out _
        have hb1p : w2.heap.size ≤ wp.heap.size := hblp.size
        have f1 : wp.cell? ⟨X, 1, none⟩ = some (.slice (some ⟨b2, o2, none⟩) N c) := (HBX.out.below hblp).cell 1
        have g1 : wp.cell? ⟨b1, o1 + j, none⟩ = some (.int .i64 k) := G1a.out _ hblp
        have g2 : wp.cell? ⟨b2, o2 + k, none⟩ = some (.int .u64 y) := G2a.out _ hblp
        rw [← hwp]
        have HBP := Lib.hid hblp
        have HQP := Lib.hid hqp
        have HOP := Lib.hid houp
        clear hwp hblp hqp houp e0 e1 G1 G2 G3 G4 hou hqb hbl
        refine wp_region_order (S := fun w' => w'.cell? ⟨X, 1, none⟩ = some (.slice (some ⟨b2, o2, none⟩) N c) ∧ w'.cell? ⟨b1, o1 + j, none⟩ = some (.int .i64 k) ∧ w'.cell? ⟨b2, o2 + k, none⟩ = some (.int .u64 y)) 11 [0,1,2,3,4,5,6,7,8] [9,10] (by kernel_rfl) (by kernel_rfl) ⟨f1, g1, g2⟩ ?_
        iterate 9 (refine headT_cons (by rfl) (by rfl) (by intro w hSw; obtain ⟨s0, s1, s2⟩ := hSw; go_simp; try rfl) ?_; simp only [Act.put, List.setIfInBounds_toArray, List.set_cons_zero, List.set_cons_succ])
        refine headT_nil ?_
        obtain ⟨w4, hw4⟩ : ∃ x, x = wp.drew := ⟨_, rfl⟩
        rw [← hw4]
        have hb4 : Below wp.heap.size wp w4 := by rw [hw4]; exact bl_drewN (Below.refl _ _) 1
        clear hw4
        refine midT_cons (by rfl) (fun K hK => ?_)
        rw [if_pos (by rfl)]
        go_simp
        have hb5 := bl_alloc hb4 (.cells #[.int .u64 y] 44)
        have hN5 := Blk.new w4 #[.int .u64 y] 44
        have hz5 : (w4.alloc (.cells #[.int .u64 y] 44)).heap.size = w4.heap.size + 1 := by simp
        obtain ⟨w5, hw5⟩ : ∃ x, x = w4.alloc (.cells #[.int .u64 y] 44) := ⟨_, rfl⟩
        obtain ⟨B5, hB5⟩ : ∃ x, x = w4.heap.size := ⟨_, rfl⟩
        rw [← hw5] at hb5 hN5 hz5 ⊢
        rw [← hB5] at hN5 hz5 ⊢
        have HBP5 := Lib.hid (bl_trans HBP.out hb5)
        have HQP5 := Lib.hid (HQP.out.below hb5)
        have HOP5 := Lib.hid (owns_below HOP.out hb5)
        have hs5 := HBP5.out.size
        clear hw5 hB5
        refine hK.out _ _ ⟨(HBX.out.below HBP5.out).cell 1, G1a.out _ HBP5.out, G2a.out _ HBP5.out⟩ (fun _ => ?_)
        clear hK K
        try simp only [Act.put, List.setIfInBounds_toArray, List.set_cons_zero, List.set_cons_succ]
        refine midT_cons (by rfl) (fun K hK => ?_)
        refine spush_V rfl (.tmp 71) (.tmp 80) rfl w2.heap.size (.slice Au j cu) (sm.take j) j (by rw [List.length_take, HSL.out]; omega) rfl HOP5.out _ _ y rfl hN5 (by omega) (by omega) ?_
        intro g6 c6 w6 h1 h2 h3 h4
        rw [HTK.out] at h1
        have HB6 := Lib.hid (bl_grown HBP5.out h2 (fun r e => (HOP5.out.lt r e).1))
        have HQ6 : Hid (Blk w6 Q (ofF N (fun i => .bool (decide (i ∈ bg.take (j + 1))))) 4) := HQP5.out.grown h2 (fun e => hun.out e.symm)
        have HO6 := Lib.hid h1
        have HU6 : Hid ((Value.slice (some ⟨g6, 0, none⟩) (j + 1) c6).ownBlock ≠ some Q) := fun e => by
          have e2 := Option.some.inj (show some g6 = some Q from e)
          rcases h3 with h3 | h3
          · rw [e2] at h3; exact hun.out h3
          · have := HQP5.out.lt; omega
        refine hK.out _ _ ⟨(HBX.out.below HB6.out).cell 1, G1a.out _ HB6.out, G2a.out _ HB6.out⟩ (fun _ => ?_)
        clear hK K h1 h2 h3 h4 hN5 hb4 hb5 f1 g1 g2
        try simp only [Act.put, List.setIfInBounds_toArray, List.set_cons_zero, List.set_cons_succ]
        refine midT_nil ?_
        simp only [List.drop_succ_cons, List.drop_zero]
        go_wp2_with fail
        refine NoPanic.normal ?_
        go_wp2_with fail
        go_roundw
        case rel => exact ⟨j + 1, by omega, by go_num, HO6, HU6, HQ6, HB6⟩
        case measure => simp [intOf]; omega
      · obtain rfl : j = z := by omega
        have htk : sm.take j = sm := List.take_of_length_le (by rw [HSL.out]; exact Nat.le_refl _)
        have htb : bg.take j = bg := List.take_of_length_le (by rw [← HZ.out]; exact Nat.le_refl _)
        rw [htk] at hou
        rw [htb] at hqb
        have HK := Lib.hid (⟨hbl.out, hqb.out, hou.out⟩ : MsK w2 wr Q N bg sm (.slice Au j cu) j)
        have HFS : Hid (FitV sm) := fun i hi => by
          have h1 : vA sm i ∈ sm := by rw [vA_get hi]; exact List.getElem_mem hi
          obtain ⟨k, hk, e⟩ := List.mem_iff_getElem.1 (HSS.out _ h1)
          rw [← e, ← vA_get hk]; exact HF.out k hk
        obtain ⟨hcp1, hcp2⟩ := owns_cap2 hou.out
        have HCA := Lib.hid (conf_any L Au j cu sm wr HSL.out (by omega) hcp1 hcp2 (rd_of_owns hou.out) HFS.out)
        have HC0 := Lib.hid (cfV_no (L := L) (chk_sub HCK.out (by rw [HSL.out]; omega) HSS.out) HSC.out)
        have e0 : wr.cell? ⟨X, 0, none⟩ = some (.int .i64 L) := (HBX.out.below hbl.out).cell 0
        have e1 : wr.cell? ⟨X, 1, none⟩ = some (.slice a N c) := (HBX.out.below hbl.out).cell 1
        have hAu0 : Hid (Au = none → j = 0) := fun e => by
          rcases hou.out.2 with ⟨hv, hn⟩ | ⟨g, cap', cur, hv, _⟩
          · exact hn
          · rw [e] at hv; cases hv
        have HLQ : Hid (Q < wr.heap.size ∧ ∀ r, (Value.slice Au j cu).ownBlock = some r → r < wr.heap.size) := ⟨hqb.out.lt, fun r e => (hou.out.lt r e).2⟩
        clear hou hqb hbl htk htb hcp1 hcp2 HSA HND HLT
        go_wp2_with fail
        refine HCA.out.mono ?_
        rintro e w8 ⟨rfl, hb8⟩
        rw [HC0.out]
        have HK8 := Lib.hid (HK.out.next hb8)
        have HLW : Hid (wr.heap.size ≤ w8.heap.size) := hb8.size
        clear e0 e1 hb8 HCA HC0
        go_wp2_with fail
        obtain ⟨wq, hwq⟩ : ∃ x : World, x = wr := ⟨_, rfl⟩
        have HLQ2 : Hid (Q < w8.heap.size ∧ ∀ r, (Value.slice Au j cu).ownBlock = some r → r < w8.heap.size) := ⟨by have := HLQ.out.1; have := HLW.out; omega, fun r e => by have := HLQ.out.2 r e; have := HLW.out; omega⟩
        clear hwq HLQ HK HLW
        go_loopw [12] (fun x wx => ∃ i : Nat, i ≤ N ∧ x = .int .i64 i ∧ Hid (MsK w2 wx Q N bg sm (.slice Au j cu) j)) (fun x _ => N - (intOf x).toNat)
        case atStart => exact ⟨0, by omega, rfl, HK8⟩
        case round =>
          clear HK8
          obtain ⟨i, hi, rfl, HK0⟩ := hrel
          have hb0 := HK0.out.bl
          have e0 : wr.cell? ⟨X, 0, none⟩ = some (.int .i64 L) := (HBX.out.below hb0).cell 0
          have e1 : wr.cell? ⟨X, 1, none⟩ = some (.slice a N c) := (HBX.out.below hb0).cell 1
          by_cases hlt2 : i < N
          · have G3 : wr.cell? ⟨Q, i, none⟩ = some (.bool (decide (i ∈ bg))) := HK0.out.fl.getF i hlt2
            by_cases hm : i ∈ bg
            · rw [decide_eq_true hm] at G3
              clear hb0
              go_wp2_with fail
              go_roundw
              case rel => exact ⟨i + 1, by omega, by go_num, HK0⟩
              case measure => simp [intOf]; omega
            · rw [decide_eq_false hm] at G3
              have HCF : Hid (confE (sm ++ [vA l i]) ≠ none) := HSM.out i hlt2 hm
              have HFM : Hid (FitV (sm ++ [vA l i])) := fun q hq => by
                rw [List.length_append] at hq
                by_cases e : q < sm.length
                · have h := HFS.out q e
                  simp only [vA, List.getD_eq_getElem?_getD, List.getElem?_append_left e] at h ⊢
                  exact h
                · have e2 : q = sm.length := by simp at hq; omega
                  subst e2
                  have h := HF.out i (by rw [HL.out]; exact hlt2)
                  simpa [vA] using h
              have HCC2 : Hid (∃ ci cj : Nat, cfV L (sm ++ [vA l i]) = .tuple #[.int .i64 ci, .int .i64 cj, .bool true, .int .i64 0]) := by
                cases hcf : confE (sm ++ [vA l i]) with
                | none => exact absurd hcf HCF.out
                | some ij =>
                  obtain ⟨ci, cj⟩ := ij
                  refine ⟨ci, cj, cfV_yes (chk_sub HCK.out (by rw [List.length_append, HSL.out]; simp; omega) ?_) hcf⟩
                  intro x hx
                  rcases List.mem_append.1 hx with hx | hx
                  · exact HSS.out x hx
                  · rw [List.mem_singleton.1 hx, vA_get (by rw [HL.out]; exact hlt2)]; exact List.getElem_mem _
              obtain ⟨ci, cj, hcv⟩ := HCC2.out
              have HCV := Lib.hid hcv
              obtain ⟨b2, o2, rfl, hb2, hc2⟩ := rdV (HA2.out.bl hb0) (by rw [HL.out]; omega)
              have G2 := hc2 i (by rw [HL.out]; exact hlt2)
              have G2a : Hid (∀ W, Below w2.heap.size w2 W → W.cell? ⟨b2, o2 + i, none⟩ = some (.int .u64 (vA l i : Int))) := fun W hW => by
                obtain ⟨b', o', e', _, hc'⟩ := rdV (HA2.out.bl hW) (by rw [HL.out]; omega)
                have e2 := Option.some.inj e'
                obtain rfl := (Addr.mk.inj e2).1
                obtain rfl := (Addr.mk.inj e2).2.1
                exact hc' i (by rw [HL.out]; omega)
              clear hc2 hcv HCC2 HCF hm
              generalize vA l i = y at *
              go_upto_region 20 with fail
              obtain ⟨W0, hW0⟩ : ∃ x, x = wr.drew := ⟨_, rfl⟩
              obtain ⟨BB, hBB⟩ : ∃ x, x = wr.heap.size := ⟨_, rfl⟩
              have hs0 : BB ≤ W0.heap.size := by rw [hW0, hBB]; exact Nat.le_refl _
              have HBQ : Hid (Q < BB) := by rw [hBB]; exact HK0.out.fl.lt
              have HBU : Hid (∀ r, (Value.slice Au j cu).ownBlock = some r → r < BB) := fun r e => by rw [hBB]; exact (HK0.out.ow.lt r e).2
              have HBB : Hid (w2.heap.size ≤ BB) := by rw [hBB]; exact hb0.size
              have HKD : Hid (MsK w2 W0 Q N bg sm (.slice Au j cu) j) := by rw [hW0]; exact HK0.out.next (bl_drewN (Below.refl _ _) 1)
              refine wp_region_tree (S := fun w' => w'.cell? ⟨X, 1, none⟩ = some (.slice (some ⟨b2, o2, none⟩) N c) ∧ w'.cell? ⟨b2, o2 + i, none⟩ = some (.int .u64 y)) 10 [1,3,4,5,6,7] (.two 0 (.two 2 (.one 8 (.one 9 .leaf)) 8 (.one 2 (.one 9 .leaf))) 8 (.one 0 (.one 2 (.one 9 .leaf)))) (by kernel_rfl) (by kernel_rfl) ⟨e1, G2⟩ ?_
              iterate 6 (refine headT_cons (by rfl) (by rfl) (by intro w hSw; obtain ⟨s0, s1⟩ := hSw; go_simp; try rfl) ?_; simp only [Act.put, List.setIfInBounds_toArray, List.set_cons_zero, List.set_cons_succ])
              refine headT_nil ?_
              rw [← hW0]
              replace HK0 := HKD
              clear HKD hW0 hBB hb0 hb2
              refine midG_two ?_ ?_
              · refine midG_one (by rfl) (fun K hK => ?_)
                rw [if_pos (by rfl)]
                go_simp
                have HK1 := Lib.hid (HK0.out.next (bl_alloc (Below.refl _ W0) (.cells #[] 44)))
                have HE1 : Hid ((W0.alloc (.cells #[] 44)).ownsRow BB 44 1 (.slice (some ⟨W0.heap.size, 0, none⟩) 0 0) 0 (fl encV [])) := owns_made (k := 1) (cs := #[]) hs0 rfl (by unfold maxLen; omega)
                have hz1 : (W0.alloc (.cells #[] 44)).heap.size = W0.heap.size + 1 := by simp
                obtain ⟨W1, hW1⟩ : ∃ x, x = W0.alloc (.cells #[] 44) := ⟨_, rfl⟩
                obtain ⟨D1, hD1⟩ : ∃ x, x = W0.heap.size := ⟨_, rfl⟩
                rw [← hW1] at HK1 HE1 hz1 ⊢
                rw [← hD1] at HE1 ⊢
                have hs1 : BB ≤ W1.heap.size := by omega
                clear hW1 hD1 hz1
                refine hK.out _ _ ⟨(HBX.out.below HK1.out.bl).cell 1, G2a.out _ HK1.out.bl⟩ (fun _ => ?_)
                clear hK K
                try simp only [Act.put, List.setIfInBounds_toArray, List.set_cons_zero, List.set_cons_succ]
                refine midG_two ?_ ?_
                · refine midG_one (by rfl) (fun K hK => ?_)
                  rw [if_pos (by rfl)]
                  refine wp_pushs encV_len (by decide) encV_oneL Tryd.underlying22 info_V rfl (.tmp 107) (.tmp 108) rfl (.slice (some ⟨D1, 0, none⟩) 0 0) [] 0 rfl rfl HE1.out Au j cu sm HSL.out.symm rfl (rd_of_owns HK1.out.ow) (fun e => hAu0.out e) (by omega) (by decide) hs1 ?_
                  intro vv W2 h1 h2 h3
                  rw [Nat.zero_add, List.nil_append] at h1
                  have HK2 := Lib.hid (HK1.out.grown HBQ.out HBU.out HBB.out h2 (fun r e => (HE1.out.lt r e).1))
                  have hs2 : BB ≤ W2.heap.size := Nat.le_trans hs1 h2.size
                  obtain ⟨Av, cv, rfl, _⟩ := owns_slice h1
                  have HV2 := Lib.hid h1
                  clear h1 h2 h3
                  refine hK.out _ _ ⟨(HBX.out.below HK2.out.bl).cell 1, G2a.out _ HK2.out.bl⟩ (fun _ => ?_)
                  clear hK K
                  try simp only [Act.put, List.setIfInBounds_toArray, List.set_cons_zero, List.set_cons_succ]
                  refine midG_one (by rfl) (fun K hK => ?_)
                  rw [if_pos (by rfl)]
                  go_simp
                  have HK3 := Lib.hid (HK2.out.next (bl_alloc (Below.refl _ W2) (.cells #[.int .u64 y] 44)))
                  have HN3 := Lib.hid (Blk.new W2 #[.int .u64 y] 44)
                  have hz3 : (W2.alloc (.cells #[.int .u64 y] 44)).heap.size = W2.heap.size + 1 := by simp
                  have HV3 := Lib.hid (owns_below HV2.out (bl_alloc (Below.refl _ W2) (.cells #[.int .u64 y] 44)))
                  obtain ⟨W3, hW3⟩ : ∃ x, x = W2.alloc (.cells #[.int .u64 y] 44) := ⟨_, rfl⟩
                  obtain ⟨D3, hD3⟩ : ∃ x, x = W2.heap.size := ⟨_, rfl⟩
                  rw [← hW3] at HK3 HV3 HN3 hz3 ⊢
                  rw [← hD3] at HN3 ⊢
                  have hs3 : BB ≤ W3.heap.size := by omega
                  clear hW3 hD3 hz3
                  refine hK.out _ _ ⟨(HBX.out.below HK3.out.bl).cell 1, G2a.out _ HK3.out.bl⟩ (fun _ => ?_)
                  clear hK K
                  try simp only [Act.put, List.setIfInBounds_toArray, List.set_cons_zero, List.set_cons_succ]
                  refine midG_one (by rfl) (fun K hK => ?_)
                  refine spush_V rfl (.tmp 109) (.tmp 115) rfl BB (.slice Av j cv) sm j HSL.out.symm rfl HV3.out _ _ y rfl HN3.out (by omega) hs3 ?_
                  intro g6 c6 W4 h1 h2 h3 h4
                  have HK4 := Lib.hid (HK3.out.grown HBQ.out HBU.out HBB.out h2 (fun r e => (HV3.out.lt r e).1))
                  have HM4 := Lib.hid h1
                  clear h1 h2 h3 h4
                  refine hK.out _ _ ⟨(HBX.out.below HK4.out.bl).cell 1, G2a.out _ HK4.out.bl⟩ (fun _ => ?_)
                  clear hK K
                  try simp only [Act.put, List.setIfInBounds_toArray, List.set_cons_zero, List.set_cons_succ]
                  refine midG_leaf ?_
                  have HR7 := Lib.hid (rd_of_owns HM4.out)
                  obtain ⟨hcp1, hcp2⟩ := owns_cap2 HM4.out
                  have q0 : W4.cell? ⟨X, 0, none⟩ = some (.int .i64 L) := (HBX.out.below HK4.out.bl).cell 0
                  have q1 : W4.cell? ⟨X, 1, none⟩ = some (.slice (some ⟨b2, o2, none⟩) N c) := (HBX.out.below HK4.out.bl).cell 1
                  have HC7 := Lib.hid (conf_any L (some ⟨g6, 0, none⟩) (j + 1) c6 (sm ++ [y]) W4 (by rw [List.length_append, HSL.out]; rfl) (by omega) hcp1 hcp2 HR7.out HFM.out)
                  clear e0 e1 G2 G3 hcp1 hcp2
                  simp only [List.drop_succ_cons, List.drop_zero]
                  go_wp2_with fail
                  refine NoPanic.normal ?_
                  go_wp2_with fail
                  refine HC7.out.mono ?_
                  rintro e W5 ⟨rfl, hb5⟩
                  rw [HCV.out]
                  have HK5 := Lib.hid (HK4.out.next hb5)
                  clear q0 q1 hb5 HC7 HR7
                  go_wp2_with fail
                  go_roundw
                  case rel => exact ⟨i + 1, by omega, by go_num, HK5⟩
                  case measure => simp [intOf]; omega
                · refine midG_one (by rfl) (fun K hK => ?_)
                  rw [if_pos (by rfl)]
                  go_simp
                  have HK2 := Lib.hid (HK1.out.next (bl_alloc (Below.refl _ W1) (.cells #[.int .u64 y] 44)))
                  have HN2 := Lib.hid (Blk.new W1 #[.int .u64 y] 44)
                  have hz2 : (W1.alloc (.cells #[.int .u64 y] 44)).heap.size = W1.heap.size + 1 := by simp
                  have HE2 := Lib.hid (owns_below HE1.out (bl_alloc (Below.refl _ W1) (.cells #[.int .u64 y] 44)))
                  obtain ⟨W2, hW2⟩ : ∃ x, x = W1.alloc (.cells #[.int .u64 y] 44) := ⟨_, rfl⟩
                  obtain ⟨D2, hD2⟩ : ∃ x, x = W1.heap.size := ⟨_, rfl⟩
                  rw [← hW2] at HK2 HE2 HN2 hz2 ⊢
                  rw [← hD2] at HN2 ⊢
                  have hs2 : BB ≤ W2.heap.size := by omega
                  have hd2 := Lib.hid hD2
                  clear hW2 hD2 hz2
                  refine hK.out _ _ ⟨(HBX.out.below HK2.out.bl).cell 1, G2a.out _ HK2.out.bl⟩ (fun _ => ?_)
                  clear hK K
                  try simp only [Act.put, List.setIfInBounds_toArray, List.set_cons_zero, List.set_cons_succ]
                  have hne : Hid (D2 ≠ D1) := by have := (HE1.out.lt D1 rfl).2; have := hd2.out; show _ ≠ _; omega
                  refine midG_one (by rfl) (fun K hK => ?_)
                  rw [if_pos (by rfl)]
                  refine wp_pushs encV_len (by decide) encV_oneL Tryd.underlying22 info_V rfl (.tmp 107) (.tmp 108) rfl (.slice (some ⟨D1, 0, none⟩) 0 0) [] 0 rfl rfl HE2.out Au j cu sm HSL.out.symm rfl (rd_of_owns HK2.out.ow) (fun e => hAu0.out e) (by omega) (by decide) hs2 ?_
                  intro vv W3 h1 h2 h3
                  rw [Nat.zero_add, List.nil_append] at h1
                  have HK3 := Lib.hid (HK2.out.grown HBQ.out HBU.out HBB.out h2 (fun r e => (HE2.out.lt r e).1))
                  have hs3 : BB ≤ W3.heap.size := Nat.le_trans hs2 h2.size
                  have HN3 := Lib.hid (HN2.out.grown h2 (fun e => by have := Option.some.inj (show some D2 = some D1 from e); have := hne.out; omega))
                  obtain ⟨Av, cv, rfl, _⟩ := owns_slice h1
                  have HV3 := Lib.hid h1
                  clear h1 h2 h3
                  refine hK.out _ _ ⟨(HBX.out.below HK3.out.bl).cell 1, G2a.out _ HK3.out.bl⟩ (fun _ => ?_)
                  clear hK K
                  try simp only [Act.put, List.setIfInBounds_toArray, List.set_cons_zero, List.set_cons_succ]
                  refine midG_one (by rfl) (fun K hK => ?_)
                  refine spush_V rfl (.tmp 109) (.tmp 115) rfl BB (.slice Av j cv) sm j HSL.out.symm rfl HV3.out _ _ y rfl HN3.out (by omega) hs3 ?_
                  intro g6 c6 W4 h1 h2 h3 h4
                  have HK4 := Lib.hid (HK3.out.grown HBQ.out HBU.out HBB.out h2 (fun r e => (HV3.out.lt r e).1))
                  have HM4 := Lib.hid h1
                  clear h1 h2 h3 h4
                  refine hK.out _ _ ⟨(HBX.out.below HK4.out.bl).cell 1, G2a.out _ HK4.out.bl⟩ (fun _ => ?_)
                  clear hK K
                  try simp only [Act.put, List.setIfInBounds_toArray, List.set_cons_zero, List.set_cons_succ]
                  refine midG_leaf ?_
                  have HR7 := Lib.hid (rd_of_owns HM4.out)
                  obtain ⟨hcp1, hcp2⟩ := owns_cap2 HM4.out
                  have q0 : W4.cell? ⟨X, 0, none⟩ = some (.int .i64 L) := (HBX.out.below HK4.out.bl).cell 0
                  have q1 : W4.cell? ⟨X, 1, none⟩ = some (.slice (some ⟨b2, o2, none⟩) N c) := (HBX.out.below HK4.out.bl).cell 1
                  have HC7 := Lib.hid (conf_any L (some ⟨g6, 0, none⟩) (j + 1) c6 (sm ++ [y]) W4 (by rw [List.length_append, HSL.out]; rfl) (by omega) hcp1 hcp2 HR7.out HFM.out)
                  clear e0 e1 G2 G3 hcp1 hcp2
                  simp only [List.drop_succ_cons, List.drop_zero]
                  go_wp2_with fail
                  refine NoPanic.normal ?_
                  go_wp2_with fail
                  refine HC7.out.mono ?_
                  rintro e W5 ⟨rfl, hb5⟩
                  rw [HCV.out]
                  have HK5 := Lib.hid (HK4.out.next hb5)
                  clear q0 q1 hb5 HC7 HR7
                  go_wp2_with fail
                  go_roundw
                  case rel => exact ⟨i + 1, by omega, by go_num, HK5⟩
                  case measure => simp [intOf]; omega
              · refine midG_one (by rfl) (fun K hK => ?_)
                rw [if_pos (by rfl)]
                go_simp
                have HK1 := Lib.hid (HK0.out.next (bl_alloc (Below.refl _ W0) (.cells #[.int .u64 y] 44)))
                have HN1 := Lib.hid (Blk.new W0 #[.int .u64 y] 44)
                have hz1 : (W0.alloc (.cells #[.int .u64 y] 44)).heap.size = W0.heap.size + 1 := by simp
                obtain ⟨W1, hW1⟩ : ∃ x, x = W0.alloc (.cells #[.int .u64 y] 44) := ⟨_, rfl⟩
                obtain ⟨D1, hD1⟩ : ∃ x, x = W0.heap.size := ⟨_, rfl⟩
                rw [← hW1] at HK1 HN1 hz1 ⊢
                rw [← hD1] at HN1 ⊢
                have hs1 : BB ≤ W1.heap.size := by omega
                clear hW1 hD1 hz1
                refine hK.out _ _ ⟨(HBX.out.below HK1.out.bl).cell 1, G2a.out _ HK1.out.bl⟩ (fun _ => ?_)
                clear hK K
                try simp only [Act.put, List.setIfInBounds_toArray, List.set_cons_zero, List.set_cons_succ]
                refine midG_one (by rfl) (fun K hK => ?_)
                rw [if_pos (by rfl)]
                go_simp
                have HK2 := Lib.hid (HK1.out.next (bl_alloc (Below.refl _ W1) (.cells #[] 44)))
                have HE2 : Hid ((W1.alloc (.cells #[] 44)).ownsRow BB 44 1 (.slice (some ⟨W1.heap.size, 0, none⟩) 0 0) 0 (fl encV [])) := owns_made (k := 1) (cs := #[]) hs1 rfl (by unfold maxLen; omega)
                have hz2 : (W1.alloc (.cells #[] 44)).heap.size = W1.heap.size + 1 := by simp
                have HN2 := Lib.hid (HN1.out.alloc (.cells #[] 44))
                obtain ⟨W2, hW2⟩ : ∃ x, x = W1.alloc (.cells #[] 44) := ⟨_, rfl⟩
                obtain ⟨D2, hD2⟩ : ∃ x, x = W1.heap.size := ⟨_, rfl⟩
                rw [← hW2] at HK2 HN2 HE2 hz2 ⊢
                rw [← hD2] at HE2 ⊢
                have hs2 : BB ≤ W2.heap.size := by omega
                have hd2 := Lib.hid hD2
                clear hW2 hD2 hz2
                refine hK.out _ _ ⟨(HBX.out.below HK2.out.bl).cell 1, G2a.out _ HK2.out.bl⟩ (fun _ => ?_)
                clear hK K
                try simp only [Act.put, List.setIfInBounds_toArray, List.set_cons_zero, List.set_cons_succ]
                have hne : Hid (D1 ≠ D2) := by have := HN1.out.lt; have := hd2.out; show _ ≠ _; omega
                refine midG_one (by rfl) (fun K hK => ?_)
                rw [if_pos (by rfl)]
                refine wp_pushs encV_len (by decide) encV_oneL Tryd.underlying22 info_V rfl (.tmp 107) (.tmp 108) rfl (.slice (some ⟨D2, 0, none⟩) 0 0) [] 0 rfl rfl HE2.out Au j cu sm HSL.out.symm rfl (rd_of_owns HK2.out.ow) (fun e => hAu0.out e) (by omega) (by decide) hs2 ?_
                intro vv W3 h1 h2 h3
                rw [Nat.zero_add, List.nil_append] at h1
                have HK3 := Lib.hid (HK2.out.grown HBQ.out HBU.out HBB.out h2 (fun r e => (HE2.out.lt r e).1))
                have hs3 : BB ≤ W3.heap.size := Nat.le_trans hs2 h2.size
                have HN3 := Lib.hid (HN2.out.grown h2 (fun e => by have := Option.some.inj (show some D1 = some D2 from e); have := hne.out; omega))
                obtain ⟨Av, cv, rfl, _⟩ := owns_slice h1
                have HV3 := Lib.hid h1
                clear h1 h2 h3
                refine hK.out _ _ ⟨(HBX.out.below HK3.out.bl).cell 1, G2a.out _ HK3.out.bl⟩ (fun _ => ?_)
                clear hK K
                try simp only [Act.put, List.setIfInBounds_toArray, List.set_cons_zero, List.set_cons_succ]
                refine midG_one (by rfl) (fun K hK => ?_)
                refine spush_V rfl (.tmp 109) (.tmp 115) rfl BB (.slice Av j cv) sm j HSL.out.symm rfl HV3.out _ _ y rfl HN3.out (by omega) hs3 ?_
                intro g6 c6 W4 h1 h2 h3 h4
                have HK4 := Lib.hid (HK3.out.grown HBQ.out HBU.out HBB.out h2 (fun r e => (HV3.out.lt r e).1))
                have HM4 := Lib.hid h1
                clear h1 h2 h3 h4
                refine hK.out _ _ ⟨(HBX.out.below HK4.out.bl).cell 1, G2a.out _ HK4.out.bl⟩ (fun _ => ?_)
                clear hK K
                try simp only [Act.put, List.setIfInBounds_toArray, List.set_cons_zero, List.set_cons_succ]
                refine midG_leaf ?_
                have HR7 := Lib.hid (rd_of_owns HM4.out)
                obtain ⟨hcp1, hcp2⟩ := owns_cap2 HM4.out
                have q0 : W4.cell? ⟨X, 0, none⟩ = some (.int .i64 L) := (HBX.out.below HK4.out.bl).cell 0
                have q1 : W4.cell? ⟨X, 1, none⟩ = some (.slice (some ⟨b2, o2, none⟩) N c) := (HBX.out.below HK4.out.bl).cell 1
                have HC7 := Lib.hid (conf_any L (some ⟨g6, 0, none⟩) (j + 1) c6 (sm ++ [y]) W4 (by rw [List.length_append, HSL.out]; rfl) (by omega) hcp1 hcp2 HR7.out HFM.out)
                clear e0 e1 G2 G3 hcp1 hcp2
                simp only [List.drop_succ_cons, List.drop_zero]
                go_wp2_with fail
                refine NoPanic.normal ?_
                go_wp2_with fail
                refine HC7.out.mono ?_
                rintro e W5 ⟨rfl, hb5⟩
                rw [HCV.out]
                have HK5 := Lib.hid (HK4.out.next hb5)
                clear q0 q1 hb5 HC7 HR7
                go_wp2_with fail
                go_roundw
                case rel => exact ⟨i + 1, by omega, by go_num, HK5⟩
                case measure => simp [intOf]; omega
          · obtain rfl : i = N := by omega
            clear hb0
            go_wp2_with fail
            refine (HW.out _).mono ?_
            rintro e w9 ⟨rfl, hb9⟩
            go_wp2_with fail
            go_ret
            exact ⟨rfl, bl_trans (bl_trans HB2.out HK0.out.bl) hb9⟩
  · have hlg : lgL L l = [] := by unfold lgL; rw [if_neg (by rw [hE]; exact h0)]
    rw [hlg] at ho
    obtain ⟨A1, c1, rfl, _⟩ := owns_slice ho
    have d1 : (E != 0) = true := by simp [h0]
    have d0 : (E == 0) = false := by simp [h0]
    clear ho hlg h0 hE
    go_wp2_with fail
    refine (HW.out _).mono ?_
    rintro e w3 ⟨rfl, hb3⟩
    go_wp2_with fail
    go_ret
    exact ⟨rfl, bl_trans HB2.out hb3⟩
end Go.Proofs.YtnabbmdhhddfbaaDoor
