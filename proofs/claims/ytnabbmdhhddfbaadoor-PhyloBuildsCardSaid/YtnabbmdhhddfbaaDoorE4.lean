/- The document's Build at every table: the walk. -/
import Derived.Test.YtnabbmdhhddfbaaDoorE3
namespace Go.Proofs.YtnabbmdhhddfbaaDoor
open Go Go.RowKit Go.Shelf
set_option maxRecDepth 100000 in
set_option maxHeartbeats 4000000 in
theorem rbuild_any (L : Int) (a : Option Addr) (N c : Nat) (l : List Nat) (w : World) (hl : l.length = N) (hN : N ≤ 1152921504606846976) (hA : Rd w a (fl encV l)) (hF : FitV l) :
    Calls Tryd.prog 16 #[.agg #[.int .i64 L, .slice a N c]] w (BdPost w L l) := by
  have hb0 := bl_alloc (Below.refl _ w) (.cells #[.int .i64 L, .slice a N c] 32)
  have hB := Blk.new w #[.int .i64 L, .slice a N c] 32
  have HL := Lib.hid hl
  have HF := Lib.hid hF
  have HC := Lib.hid (rconf_any L a N c l (w.alloc (.cells #[.int .i64 L, .slice a N c] 32)) hl hN (hA.bl hb0) hF)
  have HA := Lib.hid (hA.bl hb0)
  clear hl hA hF
  obtain ⟨X, hX⟩ : ∃ X, X = w.heap.size := ⟨_, rfl⟩
  go_enter Tryd.func16, Tryd.ntmps16
  go_wp2_with fail
  refine HC.out.mono ?_
  rintro e w2 ⟨rfl, hb2⟩
  have hb3 := bl_trans hb0 hb2
  have hB2 := hB.below hb2
  have HA2 := Lib.hid (HA.out.bl hb2)
  rw [← hX] at hB2 ⊢
  have HB3 := Lib.hid hb3
  have e0 : w2.cell? ⟨X, 0, none⟩ = some (.int .i64 L) := hB2.cell 0
  have e1 : w2.cell? ⟨X, 1, none⟩ = some (.slice a N c) := hB2.cell 1
  have HBX := Lib.hid hB2
  have HX := Lib.hid hX
  clear hX hB2 hb3 hB hb0 hb2 HA HC
  by_cases h0 : chkT L l = 0
  · obtain ⟨M, rfl⟩ : ∃ M : Nat, L = M := by
      refine ⟨L.toNat, ?_⟩
      unfold chkT at h0
      by_cases q : L < 0 ∨ 32 < L
      · rw [if_pos q] at h0; omega
      · omega
    obtain ⟨hM, hl64, hlt⟩ := chk_lt h0
    have HLT := Lib.hid hlt
    have HE : Hid (∀ E : Nat, bdE (M : Int) l = (if (M : Int) = 0 then 5 else 0)) := fun _ => by unfold bdE; rw [if_neg (fun h => h h0)]
    have HBD : Hid (bdB (M : Int) l = (!decide ((M : Int) = 0) && (confE l).isNone)) := by show _ = _; unfold bdB; rw [decide_eq_true h0]; rfl
    have H0 := Lib.hid h0
    clear hlt
    cases hcf : confE l with
    | some ij =>
      obtain ⟨i, j⟩ := ij
      have hcv := Lib.hid (cfV_yes h0 hcf)
      rw [hcf] at HBD
      have hbb : Hid (bdB (M : Int) l = false) := by show _ = _; rw [HBD.out]; simp
      rw [hcv.out]
      clear h0 hcf hcv HBD hl64
      by_cases hz : M = 0
      · subst hz
        have hE : Hid (bdE ((0 : Nat) : Int) l = 5) := HE.out 0
        clear HE
        go_wp2_with fail
        exact bodyPost_ret (v := .tuple #[.slice none 0 0, .bool false, .int .i64 5]) (by simp [results, Tryd.results16, go_sem]) rfl (bdPost_nil (b := false) hbb.out hE.out HB3.out)
      · have hE : Hid (bdE (M : Int) l = 0) := by show _ = _; rw [HE.out 0, if_neg (by omega)]
        have t0 : ((M : Int) == 0) = false := by simp; omega
        have t1 : decide ((M : Int) = 0) = false := by simp; omega
        clear HE
        go_wp2_with fail
        exact bodyPost_ret (v := .tuple #[.slice none 0 0, .bool false, .int .i64 0]) (by simp [results, Tryd.results16, go_sem]) rfl (bdPost_nil (b := false) hbb.out hE.out HB3.out)
    | none =>
      have hcv := Lib.hid (cfV_no h0 hcf)
      rw [hcf] at HBD
      rw [hcv.out]
      clear h0 hcf hcv
      by_cases hz : M = 0
      · subst hz
        have hE : Hid (bdE ((0 : Nat) : Int) l = 5) := HE.out 0
        have hbb : Hid (bdB ((0 : Nat) : Int) l = false) := by show _ = _; rw [HBD.out]; simp
        clear HE HBD hl64
        go_wp2_with fail
        exact bodyPost_ret (v := .tuple #[.slice none 0 0, .bool false, .int .i64 5]) (by simp [results, Tryd.results16, go_sem]) rfl (bdPost_nil (b := false) hbb.out hE.out HB3.out)
      · have hE : Hid (bdE (M : Int) l = 0) := by show _ = _; rw [HE.out 0, if_neg (by omega)]
        have t0 : ((M : Int) == 0) = false := by simp; omega
        have t1 : decide ((M : Int) = 0) = false := by simp; omega
        have hbb : Hid (bdB (M : Int) l = true) := by show _ = _; rw [HBD.out, t1]; rfl
        have hT : Hid (bdT (M : Int) l = bdN M l) := by show _ = _; unfold bdT; rw [hbb.out, Int.toNat_natCast]; rfl
        clear HE HBD
        by_cases h1 : M = 1
        · subst h1
          have hT1 : Hid (bdT ((1 : Nat) : Int) l = [(-1, ⟨#[76, 48]⟩)]) := by show _ = _; rw [hT.out]; unfold bdN; rw [if_pos rfl]
          clear hl64 hT
          go_wp2_with fail
          have ho : (w2.alloc (.cells #[.int .i64 (-1), .string ⟨#[76, 48]⟩] 60)).ownsRow w.heap.size 60 2 (.slice (some ⟨w2.heap.size, 0, none⟩) 1 1) 1 (fl encNd [(-1, ⟨#[76, 48]⟩)]) :=
            owns_made (k := 2) (cs := #[.int .i64 (-1), .string ⟨#[76, 48]⟩]) HB3.out.size rfl (by unfold maxLen; omega)
          exact bodyPost_ret (v := .tuple #[.slice (some ⟨w2.heap.size, 0, none⟩) 1 1, .bool true, .int .i64 0]) (by simp [results, Tryd.results16, go_sem]) rfl ⟨_, by rw [hbb.out, hE.out], by rw [hT1.out]; exact ho, bl_alloc HB3.out _⟩
        · have t2 : ((M : Int) == 1) = false := by simp; omega
          have t3 : decide ((M : Int) = 1) = false := by simp; omega
          have hT2 : Hid (bdT (M : Int) l = treeN (setsB M l) (namB (grpsN M l).length) ((grpsN M l).length + M + 1)) := by show _ = _; rw [hT.out]; unfold bdN; rw [if_neg h1]
          have HRA := Lib.hid (rall_any M a N c w2 hM)
          have HZL := Lib.hid (grpsN_lt HF.out HLT.out)
          have HSL := Lib.hid (setsB_lt HF.out HLT.out)
          have HS0 := Lib.hid (setsB_zero M l)
          have HSG : Hid (∀ j, j < (grpsN M l).length → vA (setsB M l) (j + 1) = vA (grpsN M l) j) := fun j hj => setsB_grp hj
          have HS1 : Hid (∀ k, k < M → vA (setsB M l) ((grpsN M l).length + k + 1) = 2 ^ k) := fun k hk => setsB_one hk
          have HSN := Lib.hid (setsB_len M l)
          have hgl := grpsU_le M l
          have hgl2 : (grpsN M l).length ≤ 64 := by rw [grpsN_len]; omega
          have HGR := Lib.hid (fun W (h : Rd W a (fl encV l)) => rgrp_any (M : Int) a N c l W HL.out hN h HF.out)
          rw [H0.out, Int.toNat_natCast] at HGR
          have HS1' : Hid ([2 ^ M - 1] = (setsB M l).take 1) := rfl
          obtain ⟨zs, hzs⟩ : ∃ zs, grpsN M l = zs := ⟨_, rfl⟩
          obtain ⟨SS, hSS⟩ : ∃ x, setsB M l = x := ⟨_, rfl⟩
          rw [hzs] at hT2 HZL HSG HS1 HSN hgl2 HGR
          rw [hSS] at hT2 HSL HS0 HSG HS1 HSN HS1'
          obtain ⟨G, hG⟩ : ∃ K, K = zs.length := ⟨_, rfl⟩
          rw [← hG] at hT2 HSG HS1 HSN hgl2 HGR
          have HGL := Lib.hid hG
          have hMp : 2 ^ M ≤ 4294967296 := Nat.pow_le_pow_right (n := 2) (by omega) (show M ≤ 32 by omega)
          have HSV : Hid (∀ x, x ∈ SS → x < 18446744073709551616) := fun x hx => by have := HSL.out x hx; omega
          obtain ⟨al, hal⟩ : ∃ x, 2 ^ M - 1 = x := ⟨_, rfl⟩
          rw [hal] at HRA HS1' HS0
          obtain ⟨nm, hnm⟩ : ∃ nm, nm = namB G := ⟨_, rfl⟩
          rw [← hnm] at hT2
          have HNG : Hid (∀ j, j < G → nm (j + 1) = ⟨#[78]⟩ ++ itoaB (j + 1)) := fun j hj => by rw [hnm]; exact namB_grp hj
          have HN1 : Hid (∀ k, nm (G + k + 1) = ⟨#[76]⟩ ++ itoaB k) := fun k => by rw [hnm]; exact namB_one G k
          have HN0 : Hid ([⟨#[114, 111, 111, 116]⟩] = namL nm 1) := by show _ = _; rw [hnm]; rfl
          clear hT h1 hzs hSS hG hMp hal hnm hgl hz
          go_wp2_with fail
          refine HRA.out.mono ?_
          rintro e w3 ⟨rfl, hb3⟩
          have HB23 := Lib.hid (bl_alloc (bl_alloc hb3 (.cells #[.int .u64 al] 44)) (.cells #[.string ⟨#[114, 111, 111, 116]⟩] 9))
          have hRb : RbW ((w3.alloc (.cells #[.int .u64 al] 44)).alloc (.cells #[.string ⟨#[114, 111, 111, 116]⟩] 9)) w2.heap.size (SS.take 1) (namL nm 1) 1 w3.heap.size 1 (w3.heap.size + 1) 1 := by
            have z1 : (w3.alloc (.cells #[.int .u64 al] 44)).heap.size = w3.heap.size + 1 := by simp
            refine ⟨?_, ?_, by omega⟩
            · rw [← HS1'.out]
              exact (owns_made (k := 1) (cs := #[.int .u64 al]) hb3.size rfl (by unfold maxLen; omega)).alloc _
            · rw [← HN0.out]
              have := (owns_made (w := w3.alloc (.cells #[.int .u64 al] 44)) (base := w2.heap.size) (e := 9) (n := 1) (k := 1) (cs := #[.string ⟨#[114, 111, 111, 116]⟩]) (by rw [z1]; have := hb3.size; omega) rfl (by unfold maxLen; omega))
              rw [z1] at this
              exact this
          have HRB := Lib.hid hRb
          have f0 : w3.cell? ⟨X, 0, none⟩ = some (.int .i64 M) := (HBX.out.below hb3).cell 0
          have f1 : w3.cell? ⟨X, 1, none⟩ = some (.slice a N c) := (HBX.out.below hb3).cell 1
          have HA3 := Lib.hid (HA2.out.bl HB23.out)
          have hXH : X < w2.heap.size := HBX.out.lt
          clear hb3 hRb e0 e1
          go_upto_region 12 with fail
          obtain ⟨H, hH⟩ : ∃ x, x = w3.heap.size := ⟨_, rfl⟩
          rw [← hH] at HRB ⊢
          obtain ⟨w4, hw4⟩ : ∃ x, x = ((w3.alloc (.cells #[.int .u64 al] 44)).alloc (.cells #[.string ⟨#[114, 111, 111, 116]⟩] 9)) := ⟨_, rfl⟩
          rw [← hw4] at HRB HA3 HB23 ⊢
          have HBX4 := Lib.hid (HBX.out.below HB23.out)
          clear f0 f1 hw4 hH HRA HA2 HS1' HN0
          have f0 : w4.cell? ⟨X, 0, none⟩ = some (.int .i64 M) := HBX4.out.cell 0
          have f1 : w4.cell? ⟨X, 1, none⟩ = some (.slice a N c) := HBX4.out.cell 1
          go_wp2_with fail
          refine (HGR.out _ HA3.out).mono ?_
          rintro e w5 ⟨vz, rfl, _, ho, hb5⟩
          replace ho := ho trivial
          obtain ⟨Az, cz, rfl, _⟩ := owns_slice ho
          have HO5 := Lib.hid ho
          have HB25 := Lib.hid (bl_trans HB23.out hb5)
          have HRB5 := Lib.hid (HRB.out.below hb5)
          have hap0 : Hid (Apart (.slice Az G cz) H (H + 1)) := fun r hr => by
            have := (HO5.out.lt r hr).1
            have := HRB.out.lt2
            omega
          have HBX5 := Lib.hid (HBX4.out.below hb5)
          have hXL : X < w5.heap.size := HBX5.out.lt
          clear ho hb5 f0 f1 HGR HRB HA3 HB23 HBX4
          go_wp2_with fail
          go_loopw [13, 9, 10] (fun x u v wr => ∃ j g2 c2 g3 c3 : Nat, j ≤ G ∧ x = .int .i64 j ∧ u = .slice (some ⟨g2, 0, none⟩) (j + 1) c2 ∧ v = .slice (some ⟨g3, 0, none⟩) (j + 1) c3 ∧ Hid (RbW wr w2.heap.size (SS.take (j + 1)) (namL nm (j + 1)) (j + 1) g2 c2 g3 c3) ∧ Hid (Apart (.slice Az G cz) g2 g3) ∧ Hid (wr.ownsRow w4.heap.size 44 1 (.slice Az G cz) G (fl encV zs)) ∧ Hid (Below w2.heap.size w2 wr)) (fun x _ _ _ => G - (intOf x).toNat)
          case atStart => exact ⟨0, H, 1, H + 1, 1, by omega, rfl, rfl, rfl, HRB5, hap0, HO5, HB25⟩
          case round =>
            clear HRB5 hap0 HO5 HB25
            obtain ⟨j, g2, c2, g3, c3, hj, rfl, rfl, rfl, hrb, hap, hoz, hbl⟩ := hrel
            by_cases hlt : j < G
            · obtain ⟨b, o, rfl, hb, hc2⟩ := rdV (rd_of_owns hoz.out) (by rw [← HGL.out]; omega)
              have G1 := hc2 j (by rw [← HGL.out]; exact hlt)
              have hsx := HSG.out j hlt
              have hjS : j + 1 < SS.length := by rw [HSN.out]; omega
              have HTK := Lib.hid (take_step hjS hsx)
              have HNS : Hid (namL nm (j + 1) ++ [⟨#[78]⟩ ++ itoaB (j + 1)] = namL nm (j + 1 + 1)) := by show _ = _; rw [← HNG.out j hlt, ← namL_snoc]
              have HI : Hid (∀ W, Calls Tryd.prog 37 #[.int .i64 ((j : Int) + 1)] W fun e w' => e = .returned (.string (itoaB (j + 1))) ∧ w' = W) := fun W => by
                have e : ((j : Int) + 1) = ((j + 1 : Nat) : Int) := by omega
                rw [e]; exact Tryd.strconv_Itoa_small (j + 1) (by omega) W
              have hisz := itoaB_size (j + 1) (by omega)
              obtain ⟨hl1, hl2, hl3, hl4⟩ := hrb.out.lt2
              have HT1 : Hid (j + 1 = (SS.take (j + 1)).length) := by show _ = _; rw [List.length_take]; omega
              have HT2 : Hid (j + 1 = (namL nm (j + 1)).length) := (namL_len _ _).symm
              have HD := Lib.hid hrb.out.d
              clear hc2 hsx
              generalize vA zs j = z at *
              have hbase1 : w2.heap.size ≤ (wr.alloc (.cells #[.int .u64 z] 44)).heap.size := (bl_alloc hbl.out _).size
              have hsz1 : (wr.alloc (.cells #[.int .u64 z] 44)).heap.size = wr.heap.size + 1 := by simp
              have HSZ1 := Lib.hid hsz1
              clear hsz1
              go_upto_region 17 with (at_builtin; refine push_V rfl (.tmp 53) (.tmp 58) rfl w2.heap.size (.slice (some ⟨g2, 0, none⟩) (j + 1) c2) (SS.take (j + 1)) (j + 1) HT1.out rfl (hrb.out.r2.alloc _) _ _ z rfl (Blk.new _ _ _) (by omega) hbase1 ?_; intro g2n c2n w6 h1 h2 h3 h4; have H61 := Lib.hid h1; have H62 := Lib.hid h2; have H63 : Hid ((g2n = g2 ∨ g2n = wr.heap.size + 1) ∧ g2n < w6.heap.size) := (by rw [HSZ1.out] at h3; exact ⟨h3.imp (fun e => (Option.some.inj (show some g2 = some g2n from e)).symm) id, h4⟩); clear h1 h2 h3 h4)
              rw [HTK.out] at H61
              have HS1z : Hid (wr.heap.size + 1 ≤ w6.heap.size) := by have := H62.out.size; rw [HSZ1.out] at this; exact this
              have H64 := Lib.hid ((hrb.out.r3.alloc (.cells #[.int .u64 z] 44)).kept H62.out (.inr (own_ne (Ne.symm HD.out))))
              have H65 := Lib.hid (hap.out.kept (hoz.out.alloc (.cells #[.int .u64 z] 44)) (show World.grownBy _ _ (some g2) from H62.out) (.inl rfl))
              have H66 := Lib.hid (bl_grown (bl_alloc hbl.out (.cells #[.int .u64 z] 44)) H62.out (fun r e => by have := Option.some.inj (show some g2 = some r from e); omega))
              have HAP6 : Hid (Apart (.slice (some ⟨b, o, none⟩) G cz) g2n g3) := fun r hr => by
                have := hap.out r hr
                have := (hoz.out.lt r hr).2
                have := H63.out.1
                omega
              have HD6 : Hid (g2n ≠ g3) := by have := H63.out.1; have := HD.out; show _ ≠ _; omega
              have HG3 : Hid (g3 < w6.heap.size ∧ w2.heap.size ≤ g3) := by have := HS1z.out; show _ ∧ _; omega
              clear hrb hap hoz hbl H62 HTK G1 hb hbase1 HSZ1
              go_wp2_with fail
              refine (HI.out _).mono ?_
              rintro e w7 ⟨rfl, rfl⟩
              have hbase2 : w2.heap.size ≤ (w7.alloc (.cells #[.string (⟨#[78]⟩ ++ itoaB (j + 1))] 9)).heap.size := (bl_alloc H66.out _).size
              have hsz2 : (w7.alloc (.cells #[.string (⟨#[78]⟩ ++ itoaB (j + 1))] 9)).heap.size = w7.heap.size + 1 := by simp
              have HSZ2 := Lib.hid hsz2
              clear hsz2
              go_wp2_with (at_builtin; refine push_S rfl (.tmp 60) (.tmp 65) rfl w2.heap.size (.slice (some ⟨g3, 0, none⟩) (j + 1) c3) (namL nm (j + 1)) (j + 1) HT2.out rfl (H64.out.alloc _) _ _ (⟨#[78]⟩ ++ itoaB (j + 1)) rfl (Blk.new _ _ _) (by omega) hbase2 ?_; intro g3n c3n w8 h1 h2 h3 h4; have H81 := Lib.hid h1; have H82 := Lib.hid h2; have H83 : Hid ((g3n = g3 ∨ g3n = w7.heap.size + 1) ∧ g3n < w8.heap.size) := (by rw [HSZ2.out] at h3; exact ⟨h3.imp (fun e => (Option.some.inj (show some g3 = some g3n from e)).symm) id, h4⟩); clear h1 h2 h3 h4)
              rw [HNS.out] at H81
              have H84 := Lib.hid ((H61.out.alloc (.cells #[.string (⟨#[78]⟩ ++ itoaB (j + 1))] 9)).kept H82.out (.inr (own_ne HD6.out)))
              have H85 := Lib.hid (HAP6.out.kept (H65.out.alloc (.cells #[.string (⟨#[78]⟩ ++ itoaB (j + 1))] 9)) (show World.grownBy _ _ (some g3) from H82.out) (.inr rfl))
              have H86 := Lib.hid (bl_grown (bl_alloc H66.out (.cells #[.string (⟨#[78]⟩ ++ itoaB (j + 1))] 9)) H82.out (fun r e => by have := Option.some.inj (show some g3 = some r from e); have := HG3.out; omega))
              have HAP8 : Hid (Apart (.slice (some ⟨b, o, none⟩) G cz) g2n g3n) := fun r hr => by
                have := HAP6.out r hr
                have := (H65.out.lt r hr).2
                have := H83.out.1
                omega
              have HD8 : Hid (g2n ≠ g3n) := by have := H83.out.1; have := H63.out.2; have := HD6.out; show _ ≠ _; omega
              go_roundw
              case rel => exact ⟨j + 1, g2n, c2n, g3n, c3n, by omega, by go_num, rfl, rfl, ⟨H84.out, H81.out, HD8.out⟩, HAP8, H85, H86⟩
              case measure => simp [intOf]; omega
            · obtain rfl : j = G := by omega
              have HRB := Lib.hid hrb.out
              have HB7 := Lib.hid hbl.out
              have f0 : wr.cell? ⟨X, 0, none⟩ = some (.int .i64 M) := (HBX.out.below hbl.out).cell 0
              have f1 : wr.cell? ⟨X, 1, none⟩ = some (.slice a N c) := (HBX.out.below hbl.out).cell 1
              clear hrb hap hoz hbl HSG HNG HZL
              go_wp2_with fail
              clear f0 f1
              obtain ⟨w7, hw7⟩ : ∃ x : World, x = wr := ⟨_, rfl⟩
              clear hw7
              go_loopw [14, 9, 10] (fun x u v wr => ∃ k g2 c2 g3 c3 : Nat, k ≤ M ∧ x = .int .i64 k ∧ u = .slice (some ⟨g2, 0, none⟩) (j + k + 1) c2 ∧ v = .slice (some ⟨g3, 0, none⟩) (j + k + 1) c3 ∧ Hid (RbW wr w2.heap.size (SS.take (j + k + 1)) (namL nm (j + k + 1)) (j + k + 1) g2 c2 g3 c3) ∧ Hid (Below w2.heap.size w2 wr)) (fun x _ _ _ => M - (intOf x).toNat)
              case atStart => exact ⟨0, g2, c2, g3, c3, by omega, rfl, rfl, rfl, HRB, HB7⟩
              case round =>
                clear HRB HB7
                obtain ⟨k, g2, c2, g3, c3, hk, rfl, rfl, rfl, hrb, hbl⟩ := hrel
                have f0 : wr.cell? ⟨X, 0, none⟩ = some (.int .i64 M) := (HBX.out.below hbl.out).cell 0
                have f1 : wr.cell? ⟨X, 1, none⟩ = some (.slice a N c) := (HBX.out.below hbl.out).cell 1
                by_cases hlt : k < M
                · have hjS : j + k + 1 < SS.length := by rw [HSN.out]; omega
                  have hsx := HS1.out k hlt
                  have hxb := HSV.out _ (by rw [← hsx, vA_get hjS]; exact List.getElem_mem hjS : 2 ^ k ∈ SS)
                  have HTK := Lib.hid (take_step hjS hsx)
                  have HNS : Hid (namL nm (j + k + 1) ++ [⟨#[76]⟩ ++ itoaB k] = namL nm (j + k + 1 + 1)) := by show _ = _; rw [← HN1.out k, ← namL_snoc]
                  have HI : Hid (∀ W, Calls Tryd.prog 37 #[.int .i64 (k : Int)] W fun e w' => e = .returned (.string (itoaB k)) ∧ w' = W) := fun W => Tryd.strconv_Itoa_small k (by omega) W
                  have hisz := itoaB_size k (by omega)
                  obtain ⟨hl1, hl2, hl3, hl4⟩ := hrb.out.lt2
                  obtain ⟨t, ht⟩ : ∃ t, t = j + k + 1 := ⟨_, rfl⟩
                  have HT1 : Hid (t = (SS.take t).length) := by show _ = _; rw [List.length_take]; omega
                  have HT2 : Hid (t = (namL nm t).length) := (namL_len _ _).symm
                  have HD := Lib.hid hrb.out.d
                  have e : ((2 : Int) ^ k) = ((2 ^ k : Nat) : Int) := by simp
                  have HW : Hid (IntKind.u64.wrap (2 ^ k) = ((2 ^ k : Nat) : Int)) := by show _ = _; rw [e, w64 _ hxb]
                  rw [← ht] at hrb HTK HNS ⊢
                  have htb : t ≤ 200 := by omega
                  have HTT := Lib.hid ht
                  clear hsx hxb e ht hjS
                  obtain ⟨z, hz⟩ : ∃ z, 2 ^ k = z := ⟨_, rfl⟩
                  rw [hz] at HW HTK
                  have HW2 : Hid (∀ u : Int, IntKind.u64.wrap (2 ^ k) = u → u = (z : Int)) := fun u h => h.symm.trans HW.out
                  clear hz
                  have hbase1 : w2.heap.size ≤ (wr.alloc (.cells #[.int .u64 z] 44)).heap.size := (bl_alloc hbl.out _).size
                  have hsz1 : (wr.alloc (.cells #[.int .u64 z] 44)).heap.size = wr.heap.size + 1 := by simp
                  have HSZ1 := Lib.hid hsz1
                  clear hsz1
                  go_upto_region 21 with fail
                  go_upto_region 22 with (at_builtin; rw [HW.out]; refine push_V rfl (.tmp 73) (.tmp 76) rfl w2.heap.size (.slice (some ⟨g2, 0, none⟩) t c2) (SS.take t) t HT1.out rfl (hrb.out.r2.alloc _) _ _ z rfl (Blk.new _ _ _) (by omega) hbase1 ?_; intro g2n c2n w6 h1 h2 h3 h4; have H61 := Lib.hid h1; have H62 := Lib.hid h2; have H63 : Hid ((g2n = g2 ∨ g2n = wr.heap.size + 1) ∧ g2n < w6.heap.size) := (by rw [HSZ1.out] at h3; exact ⟨h3.imp (fun e => (Option.some.inj (show some g2 = some g2n from e)).symm) id, h4⟩); clear h1 h2 h3 h4)
                  rw [HTK.out] at H61
                  have HS1z : Hid (wr.heap.size + 1 ≤ w6.heap.size) := by have := H62.out.size; rw [HSZ1.out] at this; exact this
                  have H64 := Lib.hid ((hrb.out.r3.alloc (.cells #[.int .u64 z] 44)).kept H62.out (.inr (own_ne (Ne.symm HD.out))))
                  have H66 := Lib.hid (bl_grown (bl_alloc hbl.out (.cells #[.int .u64 z] 44)) H62.out (fun r e => by have := Option.some.inj (show some g2 = some r from e); omega))
                  have HD6 : Hid (g2n ≠ g3) := by have := H63.out.1; have := HD.out; show _ ≠ _; omega
                  have HG3 : Hid (g3 < w6.heap.size ∧ w2.heap.size ≤ g3) := by have := HS1z.out; show _ ∧ _; omega
                  clear hrb hbl H62 HTK hbase1 HSZ1 HW HW2 f0 f1
                  go_wp2_with fail
                  refine (HI.out _).mono ?_
                  rintro e w7 ⟨rfl, rfl⟩
                  have hbase2 : w2.heap.size ≤ (w7.alloc (.cells #[.string (⟨#[76]⟩ ++ itoaB k)] 9)).heap.size := (bl_alloc H66.out _).size
                  have hsz2 : (w7.alloc (.cells #[.string (⟨#[76]⟩ ++ itoaB k)] 9)).heap.size = w7.heap.size + 1 := by simp
                  have HSZ2 := Lib.hid hsz2
                  clear hsz2
                  go_wp2_with (at_builtin; refine push_S rfl (.tmp 78) (.tmp 82) rfl w2.heap.size (.slice (some ⟨g3, 0, none⟩) t c3) (namL nm t) t HT2.out rfl (H64.out.alloc _) _ _ (⟨#[76]⟩ ++ itoaB k) rfl (Blk.new _ _ _) (by omega) hbase2 ?_; intro g3n c3n w8 h1 h2 h3 h4; have H81 := Lib.hid h1; have H82 := Lib.hid h2; have H83 : Hid ((g3n = g3 ∨ g3n = w7.heap.size + 1) ∧ g3n < w8.heap.size) := (by rw [HSZ2.out] at h3; exact ⟨h3.imp (fun e => (Option.some.inj (show some g3 = some g3n from e)).symm) id, h4⟩); clear h1 h2 h3 h4)
                  rw [HNS.out] at H81
                  have H84 := Lib.hid ((H61.out.alloc (.cells #[.string (⟨#[76]⟩ ++ itoaB k)] 9)).kept H82.out (.inr (own_ne HD6.out)))
                  have H86 := Lib.hid (bl_grown (bl_alloc H66.out (.cells #[.string (⟨#[76]⟩ ++ itoaB k)] 9)) H82.out (fun r e => by have := Option.some.inj (show some g3 = some r from e); have := HG3.out; omega))
                  have HD8 : Hid (g2n ≠ g3n) := by have := H83.out.1; have := H63.out.2; have := HD6.out; show _ ≠ _; omega
                  have HRN : Hid (RbW w8 w2.heap.size (SS.take (t + 1)) (namL nm (t + 1)) (t + 1) g2n c2n g3n c3n) := ⟨H84.out, H81.out, HD8.out⟩
                  have ht1 : t + 1 = j + (k + 1) + 1 := by have := HTT.out; omega
                  rw [ht1] at HRN ⊢
                  clear ht1
                  go_roundw
                  case rel => exact ⟨k + 1, g2n, c2n, g3n, c3n, by omega, by go_num, rfl, rfl, HRN, H86⟩
                  case measure => simp [intOf]; omega
                · obtain rfl : k = M := by omega
                  obtain ⟨T, hT⟩ : ∃ T, T = j + k + 1 := ⟨_, rfl⟩
                  rw [← hT] at hrb hT2 HSN ⊢
                  have htb : T ≤ 200 := by omega
                  have hSS : SS.take T = SS := List.take_of_length_le (by rw [HSN.out]; exact Nat.le_refl _)
                  rw [hSS] at hrb
                  have HRB := Lib.hid hrb.out
                  have HB7 := Lib.hid hbl.out
                  clear hrb hbl hSS hT HS1 HN1 hj hlt hk f1
                  go_wp2_with fail
                  clear f0
                  obtain ⟨w8, hw8⟩ : ∃ x : World, x = wr := ⟨_, rfl⟩
                  clear hw8
                  go_loopw [16, 15] (fun x v wr => ∃ i g2' c2' g3' c3' : Nat, i ≤ T ∧ x = .int .i64 i ∧ Hid (wr.ownsRow w2.heap.size 60 2 v i (fl encNd (treeN SS nm i))) ∧ Hid (Apart v g2' g3') ∧ g2' = g2 ∧ c2' = c2 ∧ g3' = g3 ∧ c3' = c3 ∧ Hid (RbW wr w2.heap.size SS (namL nm T) T g2' c2' g3' c3') ∧ Hid (Below w2.heap.size w2 wr)) (fun x _ _ => T - (intOf x).toNat)
                  case atStart => exact ⟨0, g2, c2, g3, c3, by omega, rfl, World.ownsRow_nil _ _ _ _, (fun r hr => by simp [Value.ownBlock] at hr), rfl, rfl, rfl, rfl, HRB, HB7⟩
                  case round =>
                    clear HRB HB7
                    obtain ⟨i, g2', c2', g3', c3', hi, rfl, hov, hap, rfl, rfl, rfl, rfl, hrb, hbl⟩ := hrel
                    obtain ⟨av, cv, rfl, _⟩ := owns_slice hov.out
                    by_cases hlt : i < T
                    · obtain ⟨hl1, hl2, hl3, hl4⟩ := hrb.out.lt2
                      have hsg := Lib.hid (rd_of_owns hrb.out.r2)
                      have hng := Lib.hid (rd_of_owns hrb.out.r3)
                      have hxs := HSV.out (vA SS i) (by rw [vA_get (by rw [HSN.out]; exact hlt)]; exact List.getElem_mem _)
                      have hti : i ≤ 200 := by omega
                      go_upto_region 29 with fail
                      obtain ⟨w9, hw9⟩ : ∃ x : World, x = wr := ⟨_, rfl⟩
                      have HPS : Hid (∀ k, parZ SS (vA SS i) (k + 1) = if vA SS k &&& vA SS i = vA SS i then (k : Int) else parZ SS (vA SS i) k) := fun _ => rfl
                      have HP0 : Hid (parZ SS (vA SS i) 0 = -1) := rfl
                      have HPL := Lib.hid (parZ_le SS (vA SS i))
                      obtain ⟨pz, hpz⟩ : ∃ pz, parZ SS (vA SS i) = pz := ⟨_, rfl⟩
                      have HTR : Hid (treeN SS nm (i + 1) = treeN SS nm i ++ [(pz i, nm i)]) := by show _ = _; rw [treeN_snoc, ← hpz]
                      rw [hpz] at HPS HP0 HPL
                      clear hpz
                      go_loopw [18, 17] (fun x p wx => ∃ k : Nat, k ≤ i ∧ x = .int .i64 k ∧ p = .int .i64 (pz k) ∧ ∃ n, wx = w9.drewN n) (fun x _ _ => i - (intOf x).toNat)
                      case atStart => exact ⟨0, by omega, rfl, by rw [HP0.out], 0, by rw [hw9]; rfl⟩
                      case round =>
                        obtain ⟨k, hk, rfl, rfl, n, rfl⟩ := hrel
                        subst hw9
                        by_cases hlt2 : k < i
                        · obtain ⟨b, o, hbo, hb, hc⟩ := rdV hsg.out (by rw [HSN.out]; omega)
                          simp only [Option.some.injEq, Addr.mk.injEq, and_true] at hbo
                          obtain ⟨rfl, rfl⟩ := hbo
                          have G1 := hc k (by rw [HSN.out]; omega)
                          have G2 := hc i (by rw [HSN.out]; omega)
                          rw [Nat.zero_add] at G1 G2
                          have hx := HSV.out (vA SS k) (by rw [vA_get (by rw [HSN.out]; omega)]; exact List.getElem_mem _)
                          have hba := bits_and hx hxs
                          have HST := Lib.hid (HPS.out k)
                          clear hc
                          generalize vA SS k = z at *
                          generalize vA SS i = s at *
                          obtain ⟨y, hy⟩ : ∃ y, z &&& s = y := ⟨_, rfl⟩
                          rw [hy] at hba HST
                          clear hy
                          by_cases q : y = s
                          · have HP : Hid (pz (k + 1) = (k : Int)) := by show _ = _; rw [HST.out, if_pos q]
                            have t8 : ((y : Int) == (s : Int)) = true := by simp [q]
                            have t9 : decide ((y : Int) = (s : Int)) = true := by simp [q]
                            clear HST q
                            go_wp2_with fail
                            go_quiet (fail)
                            go_wp2_with fail
                            go_roundw
                            case rel => exact ⟨k + 1, by omega, by go_num, by rw [HP.out], n + nq, by simp⟩
                            case measure => simp [intOf]; omega
                          · have HP : Hid (pz (k + 1) = pz k) := by show _ = _; rw [HST.out, if_neg q]
                            have t8 : ((y : Int) == (s : Int)) = false := by simp; omega
                            have t9 : decide ((y : Int) = (s : Int)) = false := by simp; omega
                            clear HST q
                            go_wp2_with fail
                            go_quiet (fail)
                            go_wp2_with fail
                            go_roundw
                            case rel => exact ⟨k + 1, by omega, by go_num, by rw [HP.out], n + nq, by simp⟩
                            case measure => simp [intOf]; omega
                        · obtain rfl : k = i := by omega
                          obtain ⟨b, o, hbo, hb, hc⟩ := rdS hng.out (by rw [namL_len]; omega)
                          simp only [Option.some.injEq, Addr.mk.injEq, and_true] at hbo
                          obtain ⟨rfl, rfl⟩ := hbo
                          have G3 := hc k (by rw [namL_len]; omega)
                          rw [namL_at nm hlt, Nat.zero_add] at G3
                          clear hc hsg hng
                          obtain ⟨wp, hwp⟩ : ∃ x : World, x = w9.drewN n := ⟨_, rfl⟩
                          have G4 : wp.cell? ⟨g3', k, none⟩ = some (.string (nm k)) := by rw [hwp]; exact G3
                          have hov2 : Hid (wp.ownsRow w2.heap.size 60 2 (.slice av k cv) k (fl encNd (treeN SS nm k))) := by rw [hwp]; exact owns_below hov.out (bl_drewN (Below.refl _ _) n)
                          have hrb2 : Hid (RbW wp w2.heap.size SS (namL nm T) T g2' c2' g3' c3') := by rw [hwp]; exact hrb.out.below (bl_drewN (Below.refl _ _) n)
                          have hbl2 : Hid (Below w2.heap.size w2 wp) := by rw [hwp]; exact bl_drewN hbl.out n
                          have hlw : g2' < wp.heap.size ∧ g3' < wp.heap.size := by rw [hwp]; exact ⟨hl2, hl4⟩
                          rw [← hwp]
                          clear hwp G3 hov hrb hbl hl2 hl4 hb
                          have hsz2 : (wp.alloc (.cells #[.int .i64 (pz k), .string (nm k)] 60)).heap.size = wp.heap.size + 1 := by simp
                          have HSZ2 := Lib.hid hsz2
                          have hbase2 : w2.heap.size ≤ (wp.alloc (.cells #[.int .i64 (pz k), .string (nm k)] 60)).heap.size := (bl_alloc hbl2.out _).size
                          have HTL := Lib.hid (treeN_len SS nm k).symm
                          clear hsz2
                          go_wp2_with (at_builtin; refine push_Nd rfl (.tmp 110) (.tmp 117) rfl w2.heap.size (.slice av k cv) (treeN SS nm k) k HTL.out rfl (hov2.out.alloc _) _ _ (pz k, nm k) rfl (Blk.new _ _ _) (by omega) hbase2 ?_; intro gn cn w8 h1 h2 h3 h4; have H81 := Lib.hid h1; have H82 := Lib.hid h2; have H83 := Lib.hid h3; clear h1 h2 h3 h4)
                          rw [← HTR.out] at H81
                          have H84 := Lib.hid ((hrb2.out.r2.alloc (.cells #[.int .i64 (pz k), .string (nm k)] 60)).kept H82.out (.inr (fun e => (hap.out _ e.symm).1 rfl)))
                          have H85 := Lib.hid ((hrb2.out.r3.alloc (.cells #[.int .i64 (pz k), .string (nm k)] 60)).kept H82.out (.inr (fun e => (hap.out _ e.symm).2 rfl)))
                          have H86 := Lib.hid (bl_grown (bl_alloc hbl2.out (.cells #[.int .i64 (pz k), .string (nm k)] 60)) H82.out (fun r e => (hov2.out.lt r e).1))
                          have HAP8 : Hid (Apart (.slice (some ⟨gn, 0, none⟩) (k + 1) cn) g2' g3') := fun r hr => by
                            have e := Option.some.inj (show some gn = some r from hr)
                            subst e
                            rcases H83.out with h | h
                            · exact hap.out _ h
                            · rw [HSZ2.out] at h; omega
                          go_roundw
                          case rel => exact ⟨k + 1, g2', c2', g3', c3', by omega, by go_num, H81, HAP8, rfl, rfl, rfl, rfl, ⟨H84.out, H85.out, hrb2.out.d⟩, H86⟩
                          case measure => simp [intOf]; omega
                    · obtain rfl : i = T := by omega
                      have HRR := Lib.hid (owns_mono hov.out HB3.out.size)
                      have HBF := Lib.hid (bl_trans HB3.out hbl.out)
                      clear hov hap hrb hbl
                      go_wp2_with fail
                      exact bodyPost_ret (v := .tuple #[.slice av i cv, .bool true, .int .i64 0]) (by simp [results, Tryd.results16, go_sem]) rfl ⟨_, by rw [hbb.out, hE.out], by rw [hT2.out, treeN_len]; exact HRR.out, HBF.out⟩
  · have hcf := Lib.hid (cfV_bad h0)
    have hE : Hid (bdE L l = chkT L l) := if_pos h0
    have hbb : Hid (bdB L l = false) := by show _ = _; unfold bdB; rw [decide_eq_false h0]; rfl
    rw [hcf.out]
    obtain ⟨E, hEE⟩ : ∃ E, chkT L l = E := ⟨_, rfl⟩
    rw [hEE] at hE h0 ⊢
    have d0 : (E == 0) = false := by simp [h0]
    have d1 : (E != 0) = true := by simp [h0]
    clear hEE hcf h0
    go_wp2_with fail
    exact bodyPost_ret (v := .tuple #[.slice none 0 0, .bool false, .int .i64 E]) (by simp [results, Tryd.results16, go_sem]) rfl (bdPost_nil (b := false) hbb.out hE.out HB3.out)
end Go.Proofs.YtnabbmdhhddfbaaDoor
