/- Law TreecmpSets: the walk. -/
import Derived.Test.YtfgkjofdgohacaaGreatDoorGK
import Derived.Test.YtfgkjofdgohacaaGreatDoorGI
namespace Go.Proofs.YtfgkjofdgohacaaGreatDoor
open Go Go.RowKit Go.Shelf Go.Maps
/-- The bits that a leaf adds, when the first m names have been looked at. -/
def clR (t : List Nd) (v k m : Nat) : Nat := if (cl t v).testBit k = true ∧ pl4 t (vA (lvT t) k) < m then clQ t v k ||| 2 ^ pl4 t (vA (lvT t) k) else clQ t v k
theorem clR_zero (t : List Nd) (v k : Nat) : clR t v k 0 = clQ t v k := by unfold clR; rw [if_neg (by omega)]
theorem clR_all {t : List Nd} {v k m : Nat} (h : pl4 t (vA (lvT t) k) < m) : clR t v k m = clQ t v (k + 1) := by
  have e : clQ t v (k + 1) = if (cl t v).testBit k then clQ t v k ||| 2 ^ pl4 t (vA (lvT t) k) else clQ t v k := rfl
  rw [e]
  unfold clR
  by_cases q : (cl t v).testBit k = true
  · rw [if_pos ⟨q, h⟩, if_pos q]
  · rw [if_neg (fun x => q x.1), if_neg q]
theorem clR_hit {t : List Nd} {v k m : Nat} (h : (cl t v).testBit k = true) (e : pl4 t (vA (lvT t) k) = m) : clR t v k (m + 1) = clR t v k m ||| 2 ^ m := by
  unfold clR
  rw [if_pos ⟨h, by omega⟩, if_neg (by omega), e]
theorem clR_miss {t : List Nd} {v k m : Nat} (h : ¬ ((cl t v).testBit k = true ∧ pl4 t (vA (lvT t) k) = m)) : clR t v k (m + 1) = clR t v k m := by
  unfold clR
  by_cases q : (cl t v).testBit k = true ∧ pl4 t (vA (lvT t) k) < m
  · rw [if_pos q, if_pos ⟨q.1, by omega⟩]
  · rw [if_neg q, if_neg fun x => h ⟨x.1, by
      by_cases q2 : pl4 t (vA (lvT t) k) < m
      · exact absurd ⟨x.1, q2⟩ q
      · omega⟩]
theorem clR_lt {t : List Nd} {v k m : Nat} (hok : TreeOk t) (hk : k < (lvT t).length) : clR t v k m < 18446744073709551616 := by
  have h64 : 2 ^ (lvT t).length ≤ 2 ^ 63 := Nat.pow_le_pow_right (by omega) (lvT_le63 hok)
  have h1 := clQ_lt (n := t.length) rfl hok v k (by omega)
  unfold clR
  split
  · rename_i q
    obtain ⟨a1, a2⟩ := tok_leaf rfl hok hk
    have := Nat.or_lt_two_pow h1 (Nat.pow_lt_pow_right (show 1 < 2 by omega) (pl4_lt rfl hok a1 a2))
    omega
  · omega
theorem cls_ne {t : List Nd} (hok : TreeOk t) : 1 ≤ (clsL t).length := List.length_pos_of_mem (cls_hier rfl hok).all
/-- The last clade is all. -/
theorem cls_last {t : List Nd} (hok : TreeOk t) : vA (clsL t) ((clsL t).length - 1) = 2 ^ (lvT t).length - 1 := by
  have hH := cls_hier (t := t) rfl hok
  have h1 := cls_ne hok
  obtain ⟨i, hi, e⟩ := List.getElem_of_mem hH.all
  have hl : (clsL t).length - 1 < (clsL t).length := by omega
  have h2 := hH.lt _ (List.getElem_mem hl)
  rw [vA_get hl]
  by_cases q : i = (clsL t).length - 1
  · subst q; exact e
  · have h3 := List.pairwise_iff_getElem.1 hH.pw i _ hi hl (by omega)
    omega
theorem pow_all63 {L : Nat} (hL : L ≤ 63) : IntKind.u64.wrap (IntKind.u64.wrap (2 ^ L) - 1) = ((2 ^ L - 1 : Nat) : Int) := by
  rw [pow64 hL]
  have h1 := Nat.two_pow_pos L
  have h2 : 2 ^ L ≤ 2 ^ 63 := Nat.pow_le_pow_right (by omega) hL
  rw [IntKind.wrap_u64]
  generalize 2 ^ L = z at *
  omega
set_option maxRecDepth 100000 in
set_option maxHeartbeats 8000000 in
theorem setsw_any (a : Option Addr) (n c : Nat) (t : List Nd) (w : World) (hn : t.length = n) (hN : n ≤ 1152921504606846976) (hA : Rd w a (fl encNd t)) (hS : ∀ v, v < n → (nS t v).size ≤ 9223372036854775807) (hZ : TzG w) :
    Calls Tryz.prog 10 #[.slice a n c] w fun e w' => e = .returned (.bool true) ∧ Below w.heap.size w w' := by
  have ENDW : Hid (∀ W, Below w.heap.size w W → Calls Tryz.prog 14 #[] W fun e w' => e = .returned (.bool true) ∧ Below w.heap.size w w') := fun W hb => (works_any W (hZ.bl hb)).mono fun e w' h => ⟨h.1, bl_trans hb h.2⟩
  have HCK := Lib.hid (check_any a n c t w hn hN hA hS)
  by_cases q1 : 63 < n
  · have d1 : decide (63 < (n : Int)) = true := decide_eq_true (by omega)
    clear HCK hA hS hZ hn q1
    go_enter Tryz.func10, Tryz.ntmps10
    go_wp2_with fail
    refine (ENDW.out _ (Below.refl _ _)).mono ?_
    rintro e w3 ⟨rfl, hb3⟩
    go_wp2_with fail
    go_ret
    exact ⟨rfl, hb3⟩
  have d1 : decide (63 < (n : Int)) = false := decide_eq_false (by omega)
  by_cases hok : TreeOk t
  case neg =>
    rw [show chkE t = 16 from if_neg hok] at HCK
    clear hA hS hZ hn q1 hok
    go_enter Tryz.func10, Tryz.ntmps10
    go_wp2_with fail
    refine HCK.out.mono ?_
    rintro e w2 ⟨rfl, hb2⟩
    have HB2 := Lib.hid hb2
    clear hb2 HCK
    go_wp2_with fail
    refine (ENDW.out _ HB2.out).mono ?_
    rintro e w3 ⟨rfl, hb3⟩
    go_wp2_with fail
    go_ret
    exact ⟨rfl, hb3⟩
  have hn63 : n ≤ 63 := by omega
  rw [chkE_good hok] at HCK
  have C1 : Hid (∀ W, Below w.heap.size w W → _) := fun W hb => clades_any a n c t W hn hN (hA.bl hb) hS
  have C2 : Hid (∀ W, Below w.heap.size w W → _) := fun W hb => wleaves_any a n c t W hn (hA.bl hb) hS hok
  have C3 : Hid (∀ W, Below w.heap.size w W → _) := fun W hb => Leaves_any a n c t W hn hN (hA.bl hb) hS
  have hLx := lvT_le63 hok
  have C4 : Hid (∀ v W, v < n → Below w.heap.size w W → _) := fun v W hv hb => clade_any a n c v t W hn hok (by omega) hv (hA.bl hb) hS
  rw [chkE_good hok] at C3
  rw [chkE_good hok, clsE_ok hok] at C1
  have HPWX : Hid (∀ i, 0 < i → i < (clsL t).length → ¬ vA (clsL t) i ≤ vA (clsL t) (i - 1)) := fun i h0 hi => by
    have := List.pairwise_iff_getElem.1 (cls_pw t) (i - 1) i (by omega) hi (by omega)
    rw [vA_get hi, vA_get (by omega)]; omega
  have HXB : Hid (∀ i, i < (clsL t).length → vA (clsL t) i < 18446744073709551616) := fun i hi => by
    rw [vA_get hi]
    have h1 := (cls_hier (t := t) rfl hok).lt _ (List.getElem_mem hi)
    have h64 : 2 ^ (lvT t).length ≤ 2 ^ 63 := Nat.pow_le_pow_right (by omega) hLx
    omega
  have HFIT : Hid (∀ i k, i < (clsL t).length → k < (clsL t).length → fitB (vA (clsL t) i) (vA (clsL t) k) = true) := fun i k hi hk => by
    rw [vA_get hi, vA_get hk]
    exact (cls_hier (t := t) rfl hok).fit _ _ (List.getElem_mem hi) (List.getElem_mem hk)
  have HONE : Hid (∀ k, k < (lvT t).length → 2 ^ k ∈ clsL t) := (cls_hier (t := t) rfl hok).one
  have HCLM : Hid (∀ v, v < n → cl4 t v ∈ clsL t) := fun v hv => cls_mem.2 ⟨v, by rw [hn]; exact hv, rfl⟩
  have HLAST : Hid (vA (clsL t) ((clsL t).length - 1) = 2 ^ (lvT t).length - 1) := cls_last hok
  have hpxn : (clsL t).length ≤ n := by rw [← hn]; exact cls_len t
  have hpx0 := cls_ne hok
  have hL0 := lvT_pos hok
  have HOK := Lib.hid hok
  have HN := Lib.hid hn
  have HA := Lib.hid hA
  obtain ⟨X, hX⟩ : ∃ X, X = clsL t := ⟨_, rfl⟩
  rw [← hX] at C1 HPWX HXB HFIT HONE HCLM HLAST hpxn hpx0
  obtain ⟨px, hpx⟩ : ∃ k, k = X.length := ⟨_, rfl⟩
  rw [← hpx] at C1 HPWX HXB HFIT HLAST hpxn hpx0
  have HPX := Lib.hid hpx.symm
  obtain ⟨L, hL⟩ : ∃ k, k = (lvT t).length := ⟨_, rfl⟩
  rw [← hL] at C2 C3 HONE HLAST hL0 hLx
  have HLL := Lib.hid hL
  have HLN : Hid ((nmsL t).length = L) := by show _ = _; rw [nmsL_len, hL]
  have pn0 : ¬ px = 0 := by omega
  have pn1 : ¬ n < px := by omega
  have pn2 : ¬ L = 0 := by omega
  clear hA hS hZ hn q1 hok hX hpx hL
  go_enter Tryz.func10, Tryz.ntmps10
  go_wp2_with fail
  refine HCK.out.mono ?_
  rintro e w2 ⟨rfl, hb2⟩
  have HB2 := Lib.hid hb2
  clear hb2 HCK
  go_wp2_with fail
  refine (C1.out _ HB2.out).mono ?_
  rintro e w3 ⟨vX, rfl, hoX, hb3⟩
  obtain ⟨aX, cX, rfl⟩ := owns_sl hoX
  have HX3 := Lib.hid (rd_of_owns hoX)
  have HB3 := Lib.hid (bl_trans HB2.out hb3)
  clear hoX hb3 HB2 C1
  go_wp2_with fail
  refine (C2.out _ HB3.out).mono ?_
  rintro e w4 ⟨vN, rfl, hoN, hb4⟩
  obtain ⟨aN, cN, rfl⟩ := owns_sl hoN
  have HR4 := Lib.hid (rd_of_owns hoN)
  have HX4 := Lib.hid (HX3.out.bl hb4)
  have HB4 := Lib.hid (bl_trans HB3.out hb4)
  clear hoN hb4 HB3 HX3 C2
  have e5a : ((px : Int) == 0) = false := by rw [beq_eq_false_iff_ne]; omega
  have e5b : decide ((n : Int) < (px : Int)) = false := decide_eq_false (by omega)
  have e5c : ((L : Int) == 0) = false := by rw [beq_eq_false_iff_ne]; omega
  go_wp2_with fail
  clear e5a e5b e5c pn0 pn1 pn2 d1
  go_loopw [6] (fun y wr => ∃ i : Nat, i ≤ px ∧ y = .int .i64 i ∧ ∃ q, wr = w4.drewN q) (fun y _ => px - (intOf y).toNat)
  case atStart => exact ⟨0, by omega, rfl, 0, rfl⟩
  case round =>
    obtain ⟨i, hi, rfl, q, rfl⟩ := hrel
    by_cases hlt : i < px
    · obtain ⟨bX, oX, rfl, _, hc⟩ := rdV (HX4.out.drewN q) (by rw [HPX.out]; omega)
      have hcw : ∀ k, k < px → (w4.drewN q).cell? ⟨bX, oX + k, none⟩ = some (.int .u64 (vA X k)) := fun k hk => hc k (by rw [HPX.out]; exact hk)
      clear hc
      have HCW : Hid (∀ q k, k < px → (w4.drewN q).cell? ⟨bX, oX + k, none⟩ = some (.int .u64 (vA X k))) := fun q2 k hk => hcw k hk
      by_cases h0 : 0 < i
      · have hwk : IntKind.i64.wrap ((i : Int) - 1) = ((i - 1 : Nat) : Int) := wrap_nat _ (i - 1) (by omega) (by omega)
        have hi1 : i - 1 < px := by omega
        have HPL := Lib.hid (HPWX.out i h0 hlt)
        obtain ⟨G, hG⟩ : ∃ G : Nat → Nat, G = vA X := ⟨_, rfl⟩
        rw [← hG] at HPL
        have hcg : ∀ k, k < px → (w4.drewN q).cell? ⟨bX, oX + k, none⟩ = some (.int .u64 (G k)) := by rw [hG]; exact hcw
        have hpl : ¬ G i ≤ G (i - 1) := HPL.out
        have hpd : decide ((G i : Int) ≤ (G (i - 1) : Int)) = false := decide_eq_false (by omega)
        obtain ⟨w5, hw5⟩ : ∃ y, y = w4.drewN q := ⟨_, rfl⟩
        rw [← hw5] at hcg hcw ⊢
        have HW5 := Lib.hid hw5
        clear hG hw5 hcw HPL
        go_wp2_with fail
        go_quiet (fail)
        clear hcg hpl hpd hwk hi1
        go_wp2_with fail
        go_loopw [7] (fun y wr => ∃ k : Nat, k ≤ i ∧ y = .int .i64 k ∧ ∃ q, wr = w4.drewN q) (fun y _ => i - (intOf y).toNat)
        case atStart => exact ⟨0, by omega, rfl, q + nq, by rw [HW5.out, drewN_add]⟩
        case round =>
          obtain ⟨k, hk, rfl, q2, hq2⟩ := hrel
          have HQ2 := Lib.hid hq2
          have hcg2 : ∀ k, k < px → wr.cell? ⟨bX, oX + k, none⟩ = some (.int .u64 (vA X k)) := fun k hk => by rw [hq2]; exact HCW.out q2 k hk
          clear hq2
          by_cases hk2 : k < i
          · have g1 := hcg2 i hlt
            have g2 := hcg2 k (by omega)
            have HFF := Lib.hid (fun (W : World) => lfit4_any (vA X i) (vA X k) W (HXB.out i hlt) (HXB.out k (by omega)))
            rw [HFIT.out i k hlt (by omega)] at HFF
            clear hcg2
            generalize vA X i = x at *
            generalize vA X k = y at *
            go_wp2_with fail
            go_quiet ((go_at_call 38; exact Calls.quiet_of_same (HFF.out _)))
            go_wp2_with fail
            exact ⟨⟨k + 1, by omega, by go_num, q2 + nq, by rw [HQ2.out, drewN_add]⟩, by simp [intOf]; omega⟩
          · obtain rfl : k = i := by omega
            go_wp2_with fail
            exact ⟨⟨k + 1, by omega, by go_num, q2, HQ2.out⟩, by simp [intOf]; omega⟩
      · obtain rfl : i = 0 := by omega
        obtain ⟨w5, hw5⟩ : ∃ y, y = w4.drewN q := ⟨_, rfl⟩
        rw [← hw5] at hcw ⊢
        have HW5 := Lib.hid hw5
        clear hw5 hcw
        go_wp2_with fail
        go_quiet (fail)
        go_wp2_with fail
        go_loopw [7] (fun y wr => y = .int .i64 0 ∧ ∃ q, wr = w4.drewN q) (fun y _ => 0)
        case atStart => exact ⟨rfl, q + nq, by rw [HW5.out, drewN_add]⟩
        case round =>
          obtain ⟨rfl, q2, hq2⟩ := hrel
          have HQ2 := Lib.hid hq2
          clear hq2
          go_wp2_with fail
          exact ⟨⟨1, by omega, by go_num, q2, HQ2.out⟩, by simp [intOf]; omega⟩
    · obtain rfl : i = px := by omega
      obtain ⟨w5, hw5⟩ : ∃ y, y = w4.drewN q := ⟨_, rfl⟩
      have HX5 : Hid (Rd w5 aX (fl encV X)) := by show Rd _ _ _; rw [hw5]; exact HX4.out.drewN q
      have HR5 : Hid (Rd w5 aN (fl encS (nmsL t))) := by show Rd _ _ _; rw [hw5]; exact HR4.out.drewN q
      have HB5 : Hid (Below w.heap.size w w5) := by show Below _ _ _; rw [hw5]; exact bl_drewN HB4.out q
      rw [← hw5]
      clear hw5 HPWX HFIT HX4 HR4 HB4
      go_wp2_with fail
      go_loopw [8] (fun y wr => ∃ k : Nat, k ≤ L ∧ y = .int .i64 k ∧ wr = w5) (fun y _ => L - (intOf y).toNat)
      case atStart => exact ⟨0, by omega, rfl, rfl⟩
      case round =>
        obtain ⟨k, hk, rfl, rfl⟩ := hrel
        by_cases hlt : k < L
        · have hpw := pow64 (p := k) (by omega)
          have HH := Lib.hid (fun W hX => lhas_any aX i cX (2 ^ k) X W HPX.out (by omega) hX)
          have hdd : decide (2 ^ k ∈ X) = true := decide_eq_true (HONE.out k hlt)
          have HH := Lib.hid (HH.out wr HX5.out)
          rw [hdd] at HH
          have hsh : k < 64 := by omega
          generalize hy : (2 ^ k : Nat) = y at *
          clear hdd hy
          go_wp2_with fail
          refine HH.out.mono ?_
          rintro e w6 ⟨rfl, rfl⟩
          go_wp2_with fail
          exact ⟨⟨k + 1, by omega, by go_num, trivial⟩, by simp [intOf]; omega⟩
        obtain rfl : k = L := by omega
        clear HONE
        go_wp2_with fail
        refine (C3.out _ HB5.out).mono ?_
        rintro e w6 ⟨vl, rfl, hol, hb6⟩
        obtain ⟨al, cL, rfl⟩ := owns_sl hol
        have HRL := Lib.hid (rd_of_owns hol)
        have HX6 := Lib.hid (HX5.out.bl hb6)
        have HR6 := Lib.hid (HR5.out.bl hb6)
        have HB6 := Lib.hid (bl_trans HB5.out hb6)
        clear hol hb6 C3 HX5 HR5 HB5
        go_wp2_with fail
        go_loopw [11] (fun y wr => ∃ v : Nat, v ≤ n ∧ y = .int .i64 v ∧ Hid (Below w6.heap.size w6 wr)) (fun y _ => n - (intOf y).toNat)
        case atStart => exact ⟨0, by omega, rfl, Below.refl _ _⟩
        case round =>
          obtain ⟨v, hv, rfl, HBV⟩ := hrel
          by_cases hlt2 : v < n
          · have HCV := Lib.hid (C4.out v _ hlt2 (bl_trans HB6.out HBV.out))
            have HCM := Lib.hid (HCLM.out v hlt2)
            have HZB : Hid (cl t v < 18446744073709551616) := by
              have h := tok_lt HN.out HOK.out hlt2
              have h64 : 2 ^ (lvT t).length ≤ 2 ^ 63 := Nat.pow_le_pow_right (by omega) (by rw [← HLL.out]; exact hLx)
              show _ < _
              omega
            have HCA : Hid (clQ t v k = cl4 t v) := by show _ = _; rw [HLL.out]; exact clQ_all HN.out HOK.out hlt2
            have HC0 : Hid (clQ t v 0 = 0) := rfl
            have HCR : Hid (∀ j m, j < k → clR t v j m < 18446744073709551616) := fun j m hj => clR_lt HOK.out (by rw [← HLL.out]; exact hj)
            have HCQ : Hid (∀ j, j < k → clR t v j k = clQ t v (j + 1)) := fun j hj => clR_all (by
              obtain ⟨a1, a2⟩ := tok_leaf rfl HOK.out (by rw [← HLL.out]; exact hj)
              have := pl4_lt rfl HOK.out a1 a2
              rw [HLL.out]; exact this)
            have HBW := Lib.hid (bl_trans HB6.out HBV.out)
            go_wp2_with fail
            refine HCV.out.mono ?_
            rintro e w7 ⟨rfl, hb7⟩
            have HB7 := Lib.hid (bl_trans HBW.out hb7)
            have HBV7 := Lib.hid (bl_trans HBV.out hb7)
            have HL7 := Lib.hid (HRL.out.bl HBV7.out)
            have HN7 := Lib.hid (HR6.out.bl HBV7.out)
            have HX7 := Lib.hid (HX6.out.bl HBV7.out)
            clear hb7 HCV HBW HBV
            go_wp2_with fail
            go_loopw [15, 14] (fun y z wr => ∃ j : Nat, j ≤ k ∧ y = .int .i64 j ∧ z = .int .u64 (clQ t v j : Nat) ∧ ∃ q, wr = w7.drewN q) (fun y _ _ => k - (intOf y).toNat)
            case atStart => exact ⟨0, by omega, rfl, by rw [HC0.out]; rfl, 0, rfl⟩
            case round =>
              obtain ⟨j, hj, rfl, rfl, q2, hq2⟩ := hrel
              have HQ2 := Lib.hid hq2
              clear hq2
              by_cases hlt3 : j < k
              · have HCJ := Lib.hid (HCQ.out j hlt3)
                have HR0 := Lib.hid (clR_zero t v j)
                have HRB := Lib.hid (fun m => HCR.out j m hlt3)
                go_wp2_with fail
                go_loopw [16, 14] (fun y z wr => ∃ m : Nat, m ≤ k ∧ y = .int .i64 m ∧ z = .int .u64 (clR t v j m : Nat) ∧ ∃ q, wr = w7.drewN q) (fun y _ _ => k - (intOf y).toNat)
                case atStart => exact ⟨0, by omega, rfl, by rw [HR0.out], q2, HQ2.out⟩
                case round =>
                  obtain ⟨m, hm, rfl, rfl, q3, hq3⟩ := hrel
                  have HQ3 := Lib.hid hq3
                  by_cases hlt4 : m < k
                  · have HLr : Hid (Rd wr al (fl encI (iN (lvT t)))) := by show Rd _ _ _; rw [hq3]; exact HL7.out.drewN q3
                    have HNr : Hid (Rd wr aN (fl encS (nmsL t))) := by show Rd _ _ _; rw [hq3]; exact HN7.out.drewN q3
                    have HAr : Hid (Rd wr a (fl encNd t)) := by show Rd _ _ _; rw [hq3]; exact (HA.out.bl HB7.out).drewN q3
                    have hcb := HRB.out m
                    have hcb1 := HRB.out (m + 1)
                    clear hq3
                    obtain ⟨bl, ol, rfl, _, hcl⟩ := rdI HLr.out (by rw [iN_len, ← HLL.out]; omega)
                    have c1 := hcl j (by rw [iN_len, ← HLL.out]; exact hlt3)
                    rw [iN_get] at c1
                    obtain ⟨a1, a2⟩ := tok_leaf HN.out HOK.out (show j < (lvT t).length by rw [← HLL.out]; exact hlt3)
                    obtain ⟨bn, on, rfl, _, hcn⟩ := rdNd HAr.out (by rw [HN.out]; omega)
                    have c2 := (hcn _ (by rw [HN.out]; exact a1)).2
                    obtain ⟨bm, om, rfl, _, hcm⟩ := rdS HNr.out (by rw [HLN.out]; omega)
                    have c3 := hcm m (by rw [HLN.out]; exact hlt4)
                    have hmem := nms_mem HN.out HOK.out a1 a2
                    have hnd : (nmsL t).Nodup := (nms_pw HN.out HOK.out).imp fun h e => by rw [e] at h; exact LtB.irr _ h
                    have HEQ : Hid (nS t (vA (lvT t) j) = sA (nmsL t) m ↔ pl4 t (vA (lvT t) j) = m) := by
                      constructor
                      · intro e
                        unfold pl4
                        rw [e]
                        exact plN_sA hnd (by rw [HLN.out]; exact hlt4)
                      · intro e
                        rw [← e]
                        exact (plN_at hmem).symm
                    have HHIT : Hid ((cl t v).testBit j = true → pl4 t (vA (lvT t) j) = m → clR t v j (m + 1) = clR t v j m ||| 2 ^ m) := fun h e => clR_hit h e
                    have HMISS : Hid (¬ ((cl t v).testBit j = true ∧ pl4 t (vA (lvT t) j) = m) → clR t v j (m + 1) = clR t v j m) := fun h => clR_miss h
                    have htb := tb_eq1 (q := j) HZB.out
                    have hj64 : j < 64 := by omega
                    have hm64 : m < 64 := by omega
                    clear hcl hcn hcm hmem hnd a2 HLr HNr HAr
                    generalize vA (lvT t) j = u at *
                    generalize nS t u = s1 at *
                    generalize sA (nmsL t) m = s2 at *
                    generalize pl4 t u = p at *
                    generalize cl t v = Z at *
                    obtain ⟨C, hC⟩ : ∃ C, C = clR t v j m := ⟨_, rfl⟩
                    obtain ⟨C1, hC1⟩ : ∃ C, C = clR t v j (m + 1) := ⟨_, rfl⟩
                    rw [← hC, ← hC1] at HHIT HMISS
                    rw [← hC] at hcb ⊢
                    have HC1 := Lib.hid hC1
                    clear hC hC1 hcb1
                    cases hb : Z.testBit j
                    · rw [hb] at htb HHIT HMISS
                      have HNX := Lib.hid (HMISS.out (by simp))
                      clear hb HHIT HMISS HEQ
                      go_wp2_with fail
                      go_quiet (fail)
                      go_wp2_with fail
                      exact ⟨⟨m + 1, by omega, by go_num, by rw [← HC1.out, HNX.out], q3 + nq, by rw [HQ3.out, drewN_add]⟩, by simp [intOf]; omega⟩
                    · rw [hb] at htb HHIT HMISS
                      by_cases e : s1 = s2
                      · have HNX := Lib.hid (HHIT.out rfl (HEQ.out.1 e))
                        have t1 : (s1.toList == s2.toList) = true := by simp [e]
                        have hpw := pow64 (p := m) (by omega)
                        have hp2 : 2 ^ m < 18446744073709551616 := by
                          have h64 : 2 ^ m ≤ 2 ^ 63 := Nat.pow_le_pow_right (by omega) (by omega)
                          omega
                        have hor := bits_or hcb hp2
                        obtain ⟨y, hy⟩ : ∃ y, y = 2 ^ m := ⟨_, rfl⟩
                        rw [← hy] at hor HNX hpw
                        rw [← HNX.out] at hor
                        clear hb HHIT HMISS HEQ e hy hp2
                        go_wp2_with fail
                        go_quiet (fail)
                        go_wp2_with fail
                        exact ⟨⟨m + 1, by omega, by go_num, by rw [← HC1.out], q3 + nq, by rw [HQ3.out, drewN_add]⟩, by simp [intOf]; omega⟩
                      · have HNX := Lib.hid (HMISS.out fun x => e (HEQ.out.2 x.2))
                        have t1 : (s1.toList == s2.toList) = false := by simp [ba_inj, e]
                        clear hb HHIT HMISS HEQ e
                        go_wp2_with fail
                        go_quiet (fail)
                        go_wp2_with fail
                        exact ⟨⟨m + 1, by omega, by go_num, by rw [← HC1.out, HNX.out], q3 + nq, by rw [HQ3.out, drewN_add]⟩, by simp [intOf]; omega⟩
                  · obtain rfl : m = k := by omega
                    clear hq3
                    go_wp2_with fail
                    exact ⟨⟨j + 1, by omega, by go_num, by rw [HCJ.out], q3, HQ3.out⟩, by simp [intOf]; omega⟩
              · obtain rfl : j = k := by omega
                have HXr : Hid (Rd wr aX (fl encV X)) := by show Rd _ _ _; rw [HQ2.out]; exact HX7.out.drewN q2
                have HBVr : Hid (Below w6.heap.size w6 wr) := by show Below _ _ _; rw [HQ2.out]; exact bl_drewN HBV7.out q2
                have HH := Lib.hid (lhas_any aX i cX (cl4 t v) X wr HPX.out (by omega) HXr.out)
                rw [decide_eq_true HCM.out] at HH
                rw [HCA.out]
                go_wp2_with fail
                refine HH.out.mono ?_
                rintro e w8 ⟨rfl, rfl⟩
                go_wp2_with fail
                exact ⟨⟨v + 1, by omega, by go_num, HBVr⟩, by simp [intOf]; omega⟩
          · obtain rfl : v = n := by omega
            have HXr := Lib.hid (HX6.out.bl HBV.out)
            have HBr := Lib.hid (bl_trans HB6.out HBV.out)
            obtain ⟨bX, oX, rfl, _, hc⟩ := rdV HXr.out (by rw [HPX.out]; omega)
            have c1 := hc (i - 1) (by rw [HPX.out]; omega)
            rw [HLAST.out] at c1
            have hpa := pow_all63 (L := k) hLx
            have hwk : IntKind.i64.wrap ((i : Int) - 1) = ((i - 1 : Nat) : Int) := wrap_nat _ (i - 1) (by omega) (by omega)
            have hi1 : i - 1 < i := by omega
            have hk64 : k < 64 := by omega
            obtain ⟨A, hA1⟩ : ∃ A, A = 2 ^ k - 1 := ⟨_, rfl⟩
            rw [← hA1] at c1 hpa
            have t1 : ((A : Int) == (A : Int)) = true := beq_self_eq_true _
            clear hc hA1 C4 HXB HX6 HRL HR6 HXr HCLM
            go_wp2_with fail
            refine wp_quiet_tail_lit 10 (by kernel_rfl) (by kernel_rfl) ?_
            simp only [List.take_succ_cons, List.take_zero, List.drop_succ_cons, List.drop_zero]
            repeat (go_big_quiet_step (fail))
            refine wpQuiet_nil ?_
            intro _ hw'
            obtain ⟨nq, hw''⟩ := hw'
            subst hw''
            try simp only [Act.put, List.setIfInBounds_toArray, List.set_cons_zero, List.set_cons_succ]
            go_wp2_with fail
            refine (ENDW.out _ (bl_drewN HBr.out _)).mono ?_
            rintro e w8 ⟨rfl, hb8⟩
            go_wp2_with fail
            go_ret
            exact ⟨rfl, hb8⟩
end Go.Proofs.YtfgkjofdgohacaaGreatDoor
