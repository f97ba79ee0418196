/- The document's Joined at every input. -/
import Derived.Test.YtahgffjkkdbjeaaDoorJB
import Derived.Test.YtahgffjkkdbjeaaDoorJC
namespace Go.Proofs.YtahgffjkkdbjeaaDoor
open Go.RowKit
theorem FF.below {w w' : World} {base g cap N : Nat} {h : Nat → Fr} (hf : FF w base g cap N h) (hb : Below w.heap.size w w') : FF w' base g cap N h := owns_below hf hb
theorem FF.lt {w : World} {base g cap N : Nat} {h : Nat → Fr} (hf : FF w base g cap N h) : base ≤ g ∧ g < w.heap.size := World.ownsRow.lt hf g rfl
theorem Cls.but {g : Nat} {w w' : World} {a : Option Addr} {N : Nat} {rs : List Rw} {C : List (List Nat)} (h : Cls w a N rs C) (hb : But g w w') (ho : OffC a rs N (some g)) : Cls w' a N rs C := h.grown (but_grown hb) ho
set_option maxRecDepth 100000 in
set_option maxHeartbeats 8000000 in
theorem rjoined_any (a : Option Addr) (n : Int) (N c : Nat) (l : List Mg) (w : World) (hn1 : -9223372036854775808 ≤ n) (hn2 : n ≤ 9223372036854775807) (hl : l.length = N) (hN : N ≤ 1152921504606846976) (hA : Rd w a (fl encMg l)) (hfit : FitMg l) :
    Calls Tryd.prog 41 #[.int .i64 n, .slice a N c] w (JnPost w n l) := by
  have HL := Lib.hid hl
  have HF := Lib.hid hfit
  have HA := Lib.hid hA
  clear hl hfit hA
  by_cases q1 : n < 1
  · have hs := Lib.hid (joinE_range (l := l) (.inl q1))
    go_enter Tryd.func41, Tryd.ntmps41
    go_wp2_with fail
    go_ret2
    exact ⟨Below.refl _ _, .inl ⟨3, hs.out, rfl⟩⟩
  · by_cases q2 : 24 < n
    · have hs := Lib.hid (joinE_range (l := l) (.inr q2))
      go_enter Tryd.func41, Tryd.ntmps41
      go_wp2_with fail
      go_ret2
      exact ⟨Below.refl _ _, .inl ⟨3, hs.out, rfl⟩⟩
    · obtain ⟨m, rfl⟩ : ∃ m : Nat, n = m := ⟨n.toNat, by omega⟩
      have hm1 : 1 ≤ m := by omega
      have hm2 : m ≤ 24 := by omega
      have d1 : decide ((m : Int) < 1) = false := by simp; omega
      have d2 : decide (24 < (m : Int)) = false := by simp; omega
      clear q1 q2
      by_cases hok : StepsOk m l
      · have hs := Lib.hid (joinE_ok hm1 hm2 hok)
        have hd : Hid (decide (StepsOk m l) = true) := decide_eq_true hok
        have HOK := Lib.hid hok
        have hNm : N + 1 = m := by have := hok.1; have := HL.out; omega
        have HNM := Lib.hid hNm
        clear hok
        obtain ⟨M, hM⟩ : ∃ M, m * m = M := ⟨_, rfl⟩
        have hMb : M ≤ 576 := by rw [← hM]; exact Nat.mul_le_mul hm2 hm2
        have hM1 : 1 ≤ M := by rw [← hM]; exact Nat.mul_le_mul hm1 hm1
        have wM := wrap_nat ((m : Int) * (m : Int)) M (by rw [← hM]; simp) (by omega)
        have HM := Lib.hid hM
        clear hM
        obtain ⟨i0, hi0, hz0, hz1, hz2⟩ := info_parts info_Fr
        have hmk := fun w => run_make (P := Tryd.prog) w 22 40 i0 _ Tryd.underlying22 hi0 hz0 .i64 .i64 (M : Int) (M : Int) (by omega) (by omega) (by rw [hz2]; omega) (by omega)
        simp only [hz1, Int.toNat_natCast] at hmk
        clear hi0 hz0 hz1 hz2
        go_enter Tryd.func41, Tryd.ntmps41
        go_upto_region 5 with (go_at_call 74; refine (clustering_any a m N c l _ hm1 hm2 HL.out hN HA.out).mono ?_; rintro e w1 ⟨rfl, hb1⟩; rw [hd.out])
        have hff0 : FF (w1.alloc (.cells (madeCells #[Value.int .i64 0, Value.int .i64 0] (M * 2)) 40)) w.heap.size w1.heap.size M M (fun t => if t < 0 then (0, 1) else (0, 0)) := by
          have h1 := owns_made (w := w1) (base := w.heap.size) (e := 40) (k := 2) (n := M) (cs := madeCells #[Value.int .i64 0, Value.int .i64 0] (M * 2)) hb1.size (by simp [madeCells]) (by unfold maxLen; omega)
          have h2 := made_cells encFr 2 encFr_len (by decide) (0, 0) M
          have e : (madeCells #[Value.int .i64 0, Value.int .i64 0] (M * 2)).toList = fl encFr ((List.range M).map fun t => if t < 0 then ((0 : Int), (1 : Int)) else (0, 0)) := by
            refine Eq.trans h2 ?_
            congr 1
            apply List.ext_getElem
            · simp
            · intro i _ _; simp
          rw [e] at h1
          exact h1
        have HFF0 := Lib.hid hff0
        have HBA := Lib.hid (bl_alloc hb1 (.cells (madeCells #[Value.int .i64 0, Value.int .i64 0] (M * 2)) 40))
        clear hff0
        go_upto_region 6 with fail
        obtain ⟨w2, hw2⟩ : ∃ w2, w2 = w1.alloc (.cells (madeCells #[Value.int .i64 0, Value.int .i64 0] (M * 2)) 40) := ⟨_, rfl⟩
        obtain ⟨g, hg⟩ : ∃ g, g = w1.heap.size := ⟨_, rfl⟩
        rw [← hw2] at HFF0 HBA ⊢
        rw [← hg] at HFF0 ⊢
        have hgw : w.heap.size ≤ g := by rw [hg]; exact hb1.size
        clear hw2 hg hmk hb1
        have hff := HFF0.out
        have hbt := But.refl g w2
        go_wp2_with fail
        go_loopw [7] (fun x wr => ∃ i : Nat, i ≤ M ∧ x = .int .i64 i ∧ But g w2 wr ∧ FF wr w.heap.size g M M (fun t => if t < i then (0, 1) else (0, 0))) (fun x _ => M - (intOf x).toNat)
        case atStart => exact ⟨0, by omega, rfl, hbt, hff⟩
        case round =>
          clear hff hbt
          obtain ⟨i, hi, rfl, hbt, hff⟩ := hrel
          by_cases hlt : i < M
          · obtain ⟨⟨u1, v1⟩, u2, v2⟩ := hff.cell i hlt
            have f1 := World.ownsRow.frozenAt hff (i * 2)
            have f2 := World.ownsRow.frozenAt hff (i * 2 + 1)
            have HSET : Hid (FF ((wr.setCell ⟨g, i * 2, none⟩ (.int .i64 0)).setCell ⟨g, i * 2 + 1, none⟩ (.int .i64 1)) w.heap.size g M M (fun t => if t < i + 1 then (0, 1) else (0, 0))) := FF.congr (hff.set i 0 1) fun t _ => by
              unfold updF
              by_cases e : t = i
              · subst e; rw [if_pos rfl, if_pos (Nat.lt_succ_self _)]
              · rw [if_neg e]
                show (if t < i then ((0 : Int), (1 : Int)) else (0, 0)) = _
                by_cases h2 : t < i
                · have h3 : t < i + 1 := by omega
                  rw [if_pos h2, if_pos h3]
                · have h3 : ¬ t < i + 1 := by omega
                  rw [if_neg h2, if_neg h3]
            have HBT := Lib.hid hbt
            clear hff hbt
            go_wp2_with fail
            go_roundw
            case rel => exact ⟨i + 1, by omega, by go_num, (HBT.out.set _ _).set _ _, HSET.out⟩
            case measure => simp [intOf]; omega
          · have hff2 : FF wr w.heap.size g M M (jnF l 0 m) := FF.congr hff fun t ht => by rw [if_pos (by omega)]; rfl
            have HFF2 := Lib.hid hff2
            have HB3 := Lib.hid ((HBA.out.trans (hbt.below HBA.out.size hgw)))
            clear hff hff2 hbt
            go_wp2_with fail
            refine (ralone_any m _ hm2).mono ?_
            rintro e w4 ⟨hb4, a0, c0, rs0, rfl, hcl0, hao, hof⟩
            have HC0 := Lib.hid hcl0
            have HO0 : Hid (OffC a0 rs0 m (some g)) := fun r hr => by
              obtain rfl := Option.some.inj hr
              exact ⟨fun b off e => by have := hao b off (by omega) e; have := HFF2.out.lt.2; omega, hof g HFF2.out.lt.2⟩
            have HFF4 := Lib.hid (HFF2.out.below hb4)
            have HB4 := Lib.hid (bl_trans HB3.out hb4)
            have HS0 : Hid (ClS m (aloneC m) (stS m l 0)) := ClS.start m
            have HR0 : Hid (LsR m (aloneC m) (lsK l 0)) := LsR.start m l
            clear hcl0 hao hof hb4
            go_wp2_with fail
            go_loopw [9, 8] (fun x v wr => ∃ (k q : Nat) (C : List (List Nat)) (rs : List Rw) (a : Option Addr) (c : Nat), k ≤ N ∧ k + q = m ∧ x = .int .i64 k ∧ v = .slice a q c ∧ Hid (Cls wr a q rs C) ∧ Hid (ClS m C (stS m l k)) ∧ Hid (LsR m C (lsK l k)) ∧ Hid (OffC a rs q (some g)) ∧ Hid (FF wr w.heap.size g M M (jnF l k m)) ∧ Below w.heap.size w wr) (fun x _ _ => N - (intOf x).toNat)
            case atStart => exact ⟨0, m, aloneC m, rs0, a0, c0, by omega, by omega, rfl, rfl, HC0, HS0, HR0, HO0, HFF4, HB4.out⟩
            case round =>
              obtain ⟨k, q, C, rs, a1, c1, hk, hkq, rfl, rfl, hcl, hcs, hls, hoff, hff, hbl⟩ := hrel
              have HLEN : Hid (C.length = q) := hcl.out.len
              have hq24 : q ≤ 24 := by omega
              by_cases hlt : k < N
              · have hst := HOK.out.2 k (by rw [HL.out]; exact hlt)
                obtain ⟨i, j, hij, hj, ei, ej⟩ := hst.idx hcs.out
                obtain ⟨h1, h2, h3, _, _, _, h7, h8⟩ := hst
                obtain ⟨f1, f2⟩ := HF.out k (by rw [HL.out]; exact hlt)
                have hjq : j < q := by rw [← HLEN.out]; exact hj
                obtain ⟨b, o, rfl, hbw, hcm⟩ := rdMg HA.out (by rw [HL.out]; omega)
                obtain ⟨G0, G1, G2, G3, _⟩ := hcm k (by rw [HL.out]; exact hlt)
                have HGM : Hid (∀ W, Below w.heap.size w W → W.cell? ⟨b, o + k * 5, none⟩ = some (.int .i64 (mA l k)) ∧ W.cell? ⟨b, o + k * 5 + 1, none⟩ = some (.int .i64 (mB l k)) ∧ W.cell? ⟨b, o + k * 5 + 2, none⟩ = some (.int .i64 (mN l k)) ∧ W.cell? ⟨b, o + k * 5 + 3, none⟩ = some (.int .i64 (mD l k)) ∧ b < W.heap.size) := fun W hW =>
                  ⟨(hW.cell (p := ⟨b, o + k * 5, none⟩) hbw).trans G0, (hW.cell (p := ⟨b, o + k * 5 + 1, none⟩) hbw).trans G1, (hW.cell (p := ⟨b, o + k * 5 + 2, none⟩) hbw).trans G2, (hW.cell (p := ⟨b, o + k * 5 + 3, none⟩) hbw).trans G3, Nat.lt_of_lt_of_le hbw hW.size⟩
                have HJH : Hid (jH l k = lowF (mN l k, mD l k)) := rfl
                have HFI := Lib.hid (And.intro (fI_found hcs.out (show i < C.length by omega) (show (hC C i : Int) = mA l k by rw [ei, aN]; omega)) (fI_found hcs.out hj (show (hC C j : Int) = mB l k by rw [ej, bN]; omega)))
                have HEI := Lib.hid (And.intro ei ej)
                clear hcm G0 G1 G2 G3 ei ej
                generalize mA l k = A at *
                generalize mB l k = B at *
                obtain ⟨p, hp⟩ : ∃ p : Nat, mN l k = p := ⟨(mN l k).toNat, by omega⟩
                obtain ⟨qd, hq⟩ : ∃ q : Nat, mD l k = q := ⟨(mD l k).toNat, by omega⟩
                rw [hp, hq] at HGM HJH
                rw [hp] at f1 h8
                rw [hq] at f2 h7
                obtain ⟨ln, hln⟩ : ∃ x, x = p / Nat.gcd p qd := ⟨_, rfl⟩
                obtain ⟨ld, hld⟩ : ∃ x, x = qd / Nat.gcd p qd := ⟨_, rfl⟩
                have HH : Hid (jH l k = ((ln : Int), (ld : Int))) := by
                  show _ = _
                  rw [HJH.out, hln, hld]
                  simp [lowF, lowN, lowD]
                have HL65 : Hid (∀ w, Calls Tryd.prog 65 #[.int .i64 p, .int .i64 qd] w fun e w' => e = .returned (.agg #[.int .i64 ln, .int .i64 ld]) ∧ Below w.heap.size w w') := fun w => rlow_q hln hld (by omega) (by omega) (by omega)
                have H81 : Hid (∀ x n1, Calls Tryd.prog 81 #[.slice a1 q c1, .int .i64 x] (wr.drewN n1) fun e w'' => e = .returned (.int .i64 (fI C x)) ∧ ∃ n2, w'' = wr.drewN n2) := fun x n1 =>
                  (find_any a1 q c1 rs C x (wr.drewN n1) hq24 (hcl.out.bl (bl_drewN (Below.refl _ _) _)) (fun t ht => hcs.out.ne t (by rw [HLEN.out]; exact ht))).mono fun e w' h => ⟨h.1, n1, h.2⟩
                clear hp hq hln hld
                obtain ⟨g0, g1', _, _, _⟩ := HGM.out wr hbl
                have HBL := Lib.hid hbl
                clear hbl
                go_upto_region 14 with fail
                go_quiet ((go_at_call 81; exact H81.out _ _))
                rw [HFI.out.1, HFI.out.2]
                obtain ⟨w5, hw5⟩ : ∃ w5, w5 = wr.drewN nq := ⟨_, rfl⟩
                have hcl5 : Cls w5 a1 q rs C := by rw [hw5]; exact hcl.out.bl (bl_drewN (Below.refl _ _) _)
                have hff5 : FF w5 w.heap.size g M M (jnF l k m) := by rw [hw5]; exact hff.out.drewN nq
                have hb5 : Below w.heap.size w w5 := by rw [hw5]; exact bl_drewN HBL.out nq
                rw [← hw5]
                clear hw5 g0 g1'
                have hiq : i < q := by omega
                obtain ⟨ob, oo, rfl, hobl, hoc⟩ := rdR hcl5.rows.rd (by rw [hcl5.rlen]; omega)
                obtain ⟨r1, n1⟩ := hcl5.row hiq
                obtain ⟨r2, n2⟩ := hcl5.row hjq
                have p1 := List.length_pos_iff.2 (hcs.out.ne i (by omega))
                have p2 := List.length_pos_iff.2 (hcs.out.ne j hj)
                obtain ⟨bi, oi, ha1, hb1, hc1⟩ := rdI r1 (by rw [iL_len]; exact p1)
                obtain ⟨bj, oj, ha2, hb2, hc2⟩ := rdI r2 (by rw [iL_len]; exact p2)
                have nob : ob ≠ g := (hoff.out g rfl).1 ob oo rfl
                have nbi : bi ≠ g := (hoff.out g rfl).2 i hiq bi oi ha1
                have nbj : bj ≠ g := (hoff.out g rfl).2 j hjq bj oj ha2
                have nb : b ≠ g := by omega
                have G5 := hoc i (by rw [hcl5.rlen]; exact hiq)
                have G6 := hoc j (by rw [hcl5.rlen]; exact hjq)
                rw [ha1, n1] at G5
                rw [ha2, n2] at G6
                obtain ⟨_, _, gp, gq, hbl5⟩ := HGM.out w5 hb5
                obtain ⟨X, hX⟩ : ∃ X, X = cC C i := ⟨_, rfl⟩
                obtain ⟨Y, hY⟩ : ∃ Y, Y = cC C j := ⟨_, rfl⟩
                have HXM : Hid (∀ t, t < X.length → X.getD t 0 < m) := fun t ht => hcs.out.lt i (by omega) _ (by rw [← hX]; exact mem_getD.2 ⟨t, ht, rfl⟩)
                have HYM : Hid (∀ t, t < Y.length → Y.getD t 0 < m) := fun t ht => hcs.out.lt j hj _ (by rw [← hY]; exact mem_getD.2 ⟨t, ht, rfl⟩)
                rw [← hX] at G5 hc1 p1
                rw [← hY] at G6 hc2 p2
                have t5 : X.length ≤ 24 := by rw [hX]; exact hcl5.small i hiq
                have t6 : Y.length ≤ 24 := by rw [hY]; exact hcl5.small j hjq
                have HKW : Hid (∀ W, But g w5 W → W.cell? ⟨ob, oo + i, none⟩ = some (.slice (some ⟨bi, oi, none⟩) X.length (rC rs i)) ∧ W.cell? ⟨ob, oo + j, none⟩ = some (.slice (some ⟨bj, oj, none⟩) Y.length (rC rs j)) ∧ (∀ t, t < X.length → W.cell? ⟨bi, oi + t, none⟩ = some (.int .i64 (X.getD t 0 : Nat))) ∧ (∀ t, t < Y.length → W.cell? ⟨bj, oj + t, none⟩ = some (.int .i64 (Y.getD t 0 : Nat))) ∧ W.cell? ⟨b, o + k * 5 + 2, none⟩ = some (.int .i64 p) ∧ W.cell? ⟨b, o + k * 5 + 3, none⟩ = some (.int .i64 qd) ∧ b < W.heap.size) := fun W hW =>
                  ⟨(hW.cell hobl nob).trans G5, (hW.cell hobl nob).trans G6, fun t ht => by rw [hW.cell hb1 nbi, hc1 t (by rw [iL_len]; exact ht), iL_at], fun t ht => by rw [hW.cell hb2 nbj, hc2 t (by rw [iL_len]; exact ht), iL_at], (hW.cell hbl5 nb).trans gp, (hW.cell hbl5 nb).trans gq, Nat.lt_of_lt_of_le hbl5 hW.size⟩
                have HXY := Lib.hid (And.intro hX hY)
                have HCL5 := Lib.hid hcl5
                have HB5 := Lib.hid hb5
                have hff6 : FF w5 w.heap.size g M M (setP m (JnR X Y 0 0) ((ln : Int), (ld : Int)) (jnF l k m)) := FF.congr hff5 fun t _ => (setP_no (JnR_none _ _ _ _)).symm
                have hbt := But.refl g w5
                clear hoc r1 n1 r2 n2 ha1 ha2 hc1 hc2 G5 G6 gp gq hbl5 hX hY hcl5 hff5 hb5 nob nbi nbj nb hb1 hb2 hobl p1 p2
                generalize rC rs i = ci at *
                generalize rC rs j = cj at *
                go_wp2_with fail
                go_loopw [12] (fun x wr => ∃ i1 : Nat, i1 ≤ X.length ∧ x = .int .i64 i1 ∧ But g w5 wr ∧ FF wr w.heap.size g M M (setP m (JnR X Y i1 0) ((ln : Int), (ld : Int)) (jnF l k m))) (fun x _ => X.length - (intOf x).toNat)
                case atStart => exact ⟨0, by omega, rfl, hbt, hff6⟩
                case round =>
                  clear hbt hff6
                  obtain ⟨i1, hi1, rfl, hbt, hff6⟩ := hrel
                  obtain ⟨s0, s1, s2, s3, s4, s5, _⟩ := HKW.out wr hbt
                  by_cases hl1 : i1 < X.length
                  · have e1 := s2 i1 hl1
                    clear s2 s3
                    obtain ⟨wo, rfl⟩ : ∃ wo : World, wo = wr := ⟨_, rfl⟩
                    go_wp2_with fail
                    clear s0 s1 s4 s5 e1
                    go_loopw [13] (fun x wr => ∃ j1 : Nat, j1 ≤ Y.length ∧ x = .int .i64 j1 ∧ But g w5 wr ∧ FF wr w.heap.size g M M (setP m (JnR X Y i1 j1) ((ln : Int), (ld : Int)) (jnF l k m))) (fun x _ => Y.length - (intOf x).toNat)
                    case atStart => exact ⟨0, by omega, rfl, hbt, hff6⟩
                    case round =>
                      clear hbt hff6
                      obtain ⟨j1, hj1, rfl, hbt, hff6⟩ := hrel
                      obtain ⟨s0, s1, s2, s3, s4, s5, s6⟩ := HKW.out wr hbt
                      by_cases hl2 : j1 < Y.length
                      · obtain ⟨wz, rfl⟩ : ∃ wz : World, wz = wr := ⟨_, rfl⟩
                        have hcl : Hid (∀ W, Below wz.heap.size wz W → W.cell? ⟨b, o + k * 5 + 2, none⟩ = some (.int .i64 p) ∧ W.cell? ⟨b, o + k * 5 + 3, none⟩ = some (.int .i64 qd)) := fun W hW => ⟨(hW.cell (p := ⟨b, o + k * 5 + 2, none⟩) s6).trans s4, (hW.cell (p := ⟨b, o + k * 5 + 3, none⟩) s6).trans s5⟩
                        have HBT := Lib.hid hbt
                        have HFF6 := Lib.hid hff6
                        clear s0 s2 s3 s6 hbt hff6
                        go_upto_region 21 with fail
                        clear s1
                        go_cut [14] (fun s wx => ∃ x, s = .pointer (some ⟨x, 0, none⟩) ∧ wz.heap.size ≤ x ∧ Blk wx x #[.int .i64 ln, .int .i64 ld] 40 ∧ Below wz.heap.size wz wx)
                        case first =>
                          go_region_held3 (fun w' => w'.cell? ⟨b, o + k * 5 + 2, none⟩ = some (.int .i64 p) ∧ w'.cell? ⟨b, o + k * 5 + 3, none⟩ = some (.int .i64 qd)) (first | go_keep | exact hcl.out _ (bl_sets2 (by assumption) _ _)) ((go_at_call 65; refine (HL65.out _).mono ?_; rintro e w8 ⟨rfl, hb8⟩; have hB8 := bl_trans (a := wz) (by first | exact bl_drewN (Below.refl _ _) 1 | exact bl_drewN (bl_alloc (Below.refl _ _) _) 1) hb8; obtain ⟨j0, j1⟩ := hcl.out _ hB8; (first | (have hN := Blk.below (w := (wz.alloc (.cells #[.int .i64 0, .int .i64 0] 40)).drew) (B := wz.heap.size) (cs := #[.int .i64 0, .int .i64 0]) (t := 40) (Blk.new wz _ _) hb8; have n0 : w8.cell? ⟨wz.heap.size, 0, none⟩ = some (.int .i64 0) := hN.cell 0; have n1 : w8.cell? ⟨wz.heap.size, 1, none⟩ = some (.int .i64 0) := hN.cell 1; have f0 := hN.free 0; have f1 := hN.free 1; have l5 := hN.lt) | skip)))
                          all_goals go_wp2_with fail
                          all_goals go_meet
                          all_goals first
                            | exact ⟨_, rfl, by simp, blk_stored2 hN, bl_sets2 hB8 _ _⟩
                            | exact ⟨_, rfl, hB8.size, Blk.new w8 _ _, bl_alloc hB8 _⟩
                        case rest =>
                          obtain ⟨x, rfl, hxw, hx, hbx⟩ := hcut
                          have hbtc : But g w5 wc := HBT.out.trans (But.of_below hbx)
                          have hffc := HFF6.out.below hbx
                          have hgx : g < x := Nat.lt_of_lt_of_le HFF6.out.lt.2 hxw
                          obtain ⟨a0', a1', a2', a3', _, _, _⟩ := HKW.out wc hbtc
                          have e1 := a2' i1 hl1
                          have e2 := a3' j1 hl2
                          have x0 : wc.cell? ⟨x, 0, none⟩ = some (.int .i64 ln) := hx.cell 0
                          have x1 : wc.cell? ⟨x, 1, none⟩ = some (.int .i64 ld) := hx.cell 1
                          have hpm := HXM.out i1 hl1
                          have hqm := HYM.out j1 hl2
                          have HNXT := Lib.hid (fun p q => JnR_next hl1 hl2 p q)
                          have HBTC := Lib.hid hbtc
                          have HX := Lib.hid hx
                          clear a2' a3' s4 s5 hx hbx hbtc hcl
                          obtain ⟨P, hP⟩ : ∃ P, X.getD i1 0 = P := ⟨_, rfl⟩
                          obtain ⟨Q, hQ⟩ : ∃ Q, Y.getD j1 0 = Q := ⟨_, rfl⟩
                          rw [hP] at e1 hpm HNXT
                          rw [hQ] at e2 hqm HNXT
                          have HPQ := Lib.hid (And.intro hP hQ)
                          clear hP hQ
                          obtain ⟨m1, m2, k1, k2, hm1', hm2', hk1, hk2, b1, b2⟩ := idx_two (n := m) (N := M) (a := P) (b := Q) HM.out (by omega) (by omega) (by omega)
                          have wa1 := wrap_nat ((P : Int) * (m : Int)) m1 (by rw [← hm1']; simp) (by omega)
                          have wa2 := wrap_nat ((Q : Int) * (m : Int)) m2 (by rw [← hm2']; simp) (by omega)
                          have wa3 := wrap_nat ((m1 : Int) + (Q : Int)) k1 (by omega) (by omega)
                          have wa4 := wrap_nat ((m2 : Int) + (P : Int)) k2 (by omega) (by omega)
                          have HK1 := Lib.hid (show P * m + Q = k1 by omega)
                          have HK2 := Lib.hid (show Q * m + P = k2 by omega)
                          obtain ⟨⟨u1, v1⟩, u2, v2⟩ := hffc.cell k1 b1
                          have f1 := World.ownsRow.frozenAt hffc (k1 * 2)
                          have f2 := World.ownsRow.frozenAt hffc (k1 * 2 + 1)
                          have HSET1 : Hid (FF ((wc.setCell ⟨g, k1 * 2, none⟩ (.int .i64 ln)).setCell ⟨g, k1 * 2 + 1, none⟩ (.int .i64 ld)).drew w.heap.size g M M (updF (setP m (JnR X Y i1 j1) ((ln : Int), (ld : Int)) (jnF l k m)) k1 ((ln : Int), (ld : Int)))) := FF.drewN (hffc.set k1 ln ld) 1
                          have HBS1 : Hid (But g w5 ((wc.setCell ⟨g, k1 * 2, none⟩ (.int .i64 ln)).setCell ⟨g, k1 * 2 + 1, none⟩ (.int .i64 ld)).drew) := ((HBTC.out.set _ _).set _ _).drewN 1
                          have HXS1 : Hid (Blk ((wc.setCell ⟨g, k1 * 2, none⟩ (.int .i64 ln)).setCell ⟨g, k1 * 2 + 1, none⟩ (.int .i64 ld)).drew x #[.int .i64 ln, .int .i64 ld] 40) := ((HX.out.other (by omega) _ _).other (by omega) _ _).drewN 1
                          clear hffc hm1' hm2' hk1 hk2
                          go_upto_region 22 with fail
                          go_region
                          obtain ⟨w7, hw7⟩ : ∃ w7, w7 = ((wc.setCell ⟨g, k1 * 2, none⟩ (.int .i64 ln)).setCell ⟨g, k1 * 2 + 1, none⟩ (.int .i64 ld)).drew := ⟨_, rfl⟩
                          rw [← hw7] at HSET1 HBS1 HXS1 ⊢
                          clear hw7 v1 v2 f1 f2 x0 x1 e1 e2 a0' a1'
                          obtain ⟨a0', a1', a2', a3', _, _, _⟩ := HKW.out w7 HBS1.out
                          have e1 := a2' i1 hl1
                          have e2 := a3' j1 hl2
                          rw [HPQ.out.1] at e1
                          rw [HPQ.out.2] at e2
                          have x0 : w7.cell? ⟨x, 0, none⟩ = some (.int .i64 ln) := HXS1.out.cell 0
                          have x1 : w7.cell? ⟨x, 1, none⟩ = some (.int .i64 ld) := HXS1.out.cell 1
                          obtain ⟨⟨u3, v3⟩, u4, v4⟩ := HSET1.out.cell k2 b2
                          have f3 := World.ownsRow.frozenAt HSET1.out (k2 * 2)
                          have f4 := World.ownsRow.frozenAt HSET1.out (k2 * 2 + 1)
                          have HSET2 : Hid (FF ((w7.setCell ⟨g, k2 * 2, none⟩ (.int .i64 ln)).setCell ⟨g, k2 * 2 + 1, none⟩ (.int .i64 ld)).drew w.heap.size g M M (setP m (JnR X Y i1 (j1 + 1)) ((ln : Int), (ld : Int)) (jnF l k m))) := by
                            refine FF.drewN (FF.congr (HSET1.out.set k2 ln ld) fun t ht => ?_) 1
                            rw [← HK1.out, ← HK2.out]
                            exact setP_step hpm hqm (by rw [HM.out]; exact ht) fun p q _ _ => HNXT.out p q
                          have HBS2 : Hid (But g w5 ((w7.setCell ⟨g, k2 * 2, none⟩ (.int .i64 ln)).setCell ⟨g, k2 * 2 + 1, none⟩ (.int .i64 ld)).drew) := ((HBS1.out.set _ _).set _ _).drewN 1
                          clear a2' a3'
                          go_upto_region 23 with fail
                          go_region
                          go_wp2_with fail
                          go_roundw
                          case rel => exact ⟨j1 + 1, by omega, by go_num, HBS2.out, HSET2.out⟩
                          case measure => simp [intOf]; omega
                      · have hff7 : FF wr w.heap.size g M M (setP m (JnR X Y (i1 + 1) 0) ((ln : Int), (ld : Int)) (jnF l k m)) := FF.congr hff6 fun t _ => setP_congr (by rw [show j1 = Y.length by omega]; exact JnR_row _ _) fun _ => rfl
                        clear hff6 s2 s3 s4 s5 s6
                        go_wp2_with fail
                        go_roundw
                        case rel => exact ⟨i1 + 1, by omega, by go_num, hbt, hff7⟩
                        case measure => simp [intOf]; omega
                  · have hff7 : FF wr w.heap.size g M M (jnF l (k + 1) m) := FF.congr hff6 fun t ht => by
                      obtain ⟨z1, z2, _⟩ := sq_of (n := m) (t := t) (by rw [HM.out]; exact ht)
                      rw [jnF_next, HH.out]
                      refine setP_congr ?_ fun _ => rfl
                      rw [show i1 = X.length by omega, JnR_all, JnS_of hls.out (show i < C.length by omega) hj HEI.out.1 HEI.out.2 z1 z2, HXY.out.1, HXY.out.2]
                    have hcl7 := HCL5.out.but hbt hoff.out
                    have HFF7 := Lib.hid hff7
                    have HCL7 := Lib.hid hcl7
                    have HBL7 := Lib.hid (HB5.out.trans (hbt.below HB5.out.size hgw))
                    have h24 : (cC C i).length + (cC C j).length ≤ 24 := by
                      rw [← hcs.out.size i (by omega), ← hcs.out.size j hj]
                      have h1 := sumN_two (stS m l k) (hcs.out.inc i j hij hj) (n := m) (hcs.out.hlt hj)
                      have h2 := (stS_inv k (fun i' hi' => HOK.out.2 i' (by rw [HL.out]; omega))).sum
                      omega
                    have H24 := Lib.hid h24
                    clear hff6 hff7 hcl7 h24 hbt s2 s3 s4 s5
                    go_wp2_with fail
                    refine (rjoin_any (some ⟨ob, oo, none⟩) q c1 i j rs C wr hij hjq hq24 HCL7.out (fun t ht => hcs.out.ne t (by rw [HLEN.out]; exact ht)) H24.out).mono ?_
                    rintro e w8 ⟨hb8, a8, c8, rs8, rfl, hcl8, ha8, ho8⟩
                    have hof8 : Hid (OffC a8 rs8 (q - 1) (some g)) := fun r hr => by
                      obtain rfl := Option.some.inj hr
                      exact ⟨fun b off e => by have := ha8 b off e; have := HFF7.out.lt.2; omega, ho8 g HFF7.out.lt.2 (hoff.out g rfl).2⟩
                    have hcs8 : Hid (ClS m (rj C i j q) (stS m l (k + 1))) := by
                      show ClS _ _ _
                      have := hcs.out.next hij hj
                      rw [HLEN.out, HEI.out.1, HEI.out.2] at this
                      exact this
                    have hls8 : Hid (LsR m (rj C i j q) (lsK l (k + 1))) := by
                      show LsR _ _ _
                      have := LsR.next hcs.out hls.out hij hj
                      rw [HLEN.out, HEI.out.1, HEI.out.2] at this
                      exact this
                    have HCL8 := Lib.hid hcl8
                    have HFF8 := Lib.hid (HFF7.out.below hb8)
                    have hb9 := bl_trans HBL7.out hb8
                    clear hcl8 hb8 ha8 ho8
                    go_wp2_with fail
                    go_roundw
                    case rel => exact ⟨k + 1, q - 1, _, rs8, a8, c8, by omega, by omega, by go_num, rfl, HCL8, hcs8, hls8, hof8, HFF8, hb9⟩
                    case measure => simp [intOf]; omega
              · have e9 : k = m - 1 := by omega
                have HE9 := Lib.hid e9
                clear e9
                go_wp2_with fail
                go_ret2
                refine ⟨hbl, .inr ⟨m, _, rfl, hs.out, rfl, ?_⟩⟩
                have h1 := hff.out
                unfold FF at h1
                rw [← HE9.out, HM.out, jnL, HM.out]
                exact h1
      · have hs := Lib.hid (joinE_arg hm1 hm2 hok)
        have hd : Hid (decide (StepsOk m l) = false) := decide_eq_false hok
        clear hok
        go_enter Tryd.func41, Tryd.ntmps41
        go_wp2_with (go_at_call 74; refine (clustering_any a m N c l _ hm1 hm2 HL.out hN HA.out).mono ?_; rintro e w1 ⟨rfl, hb1⟩; rw [hd.out])
        go_ret2
        exact ⟨hb1, .inl ⟨2, hs.out, rfl⟩⟩
end Go.Proofs.YtahgffjkkdbjeaaDoor
