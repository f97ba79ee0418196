/- The body of the statement GlottoScale, at every input. -/
import Derived.Test.YtahgffjkkdbjeaaDoorPS
import Derived.Test.YtahgffjkkdbjeaaDoorXB
namespace Go.Proofs.YtahgffjkkdbjeaaDoor
open Go.RowKit
set_option maxHeartbeats 1000000 in
/-- equal, where the products are the same. -/
theorem equal_yes (p q r s : Int) (w : World) (h : p * s = r * q) :
    Calls Tryd.prog 24 #[.agg #[.int .i64 p, .int .i64 q], .agg #[.int .i64 r, .int .i64 s]] w fun e w' => e = .returned (.bool true) ∧ Below w.heap.size w w' := by
  have hq : (IntKind.i64.wrap (p * s) == IntKind.i64.wrap (r * q)) = true := by rw [h]; simp
  have HH := Lib.hid h
  clear h
  go_enter Tryd.func24, Tryd.ntmps24
  go_wp2_with fail
  go_ret
  refine ⟨ret_b ?_, bl_alloc (bl_alloc (Below.refl _ _) _) _⟩
  first | exact hq | (rw [HH.out]; simp)
theorem fl_setN (l : List Fr) (k : Nat) (x : Int) : (fl encFr l).set (k * 2) (.int .i64 x) = fl encFr (l.set k (x, (l.getD k (0, 1)).2)) := by
  induction l generalizing k with
  | nil => simp [fl]
  | cons y l ih =>
    have e : ∀ y l, fl encFr (y :: l) = .int .i64 y.1 :: .int .i64 y.2 :: fl encFr l := fun y l => by simp [fl, encFr]
    cases k with
    | zero => simp [e]
    | succ k =>
      rw [e, show (k + 1) * 2 = k * 2 + 1 + 1 by omega]
      simp only [List.set_cons_succ, e]
      rw [ih]
      simp
theorem mul_set {w w0 : World} {g M i : Nat} {F : Nat → Fr} {k : Int} (hi : i < M) (hf : FF w w0.heap.size g M M (mulF F k i)) : FF (w.setCell ⟨g, i * 2, none⟩ (.int .i64 ((F i).1 * k))) w0.heap.size g M M (mulF F k (i + 1)) := by
  have h1 := (World.ownsRow.stored hf (i * 2) (.int .i64 ((F i).1 * k))).1
  rw [fl_setN] at h1
  have e : (((List.range M).map (mulF F k i)).getD i (0, 1)).2 = (F i).2 := by simp [hi, mulF]
  rw [e, ← map_updF] at h1
  exact FF.congr h1 fun p _ => mulF_next F k i p
theorem FF_below {w w' : World} {base g cap N : Nat} {h : Nat → Fr} (hf : FF w base g cap N h) (hb : Below w.heap.size w w') : FF w' base g cap N h := owns_below hf hb
set_option maxRecDepth 100000 in
set_option maxHeartbeats 4000000 in
theorem scale_any (N c : Nat) (ct u by_ fr : Int) (la : Option Addr) (l : List Int) (w : World) (hc0 : 0 ≤ ct) (hc1 : ct ≤ 255) (hu0 : 0 ≤ u) (hu1 : u ≤ 255) (hk0 : 0 ≤ by_) (hk1 : by_ ≤ 255) (hf0 : 0 ≤ fr) (hf1 : fr ≤ 255) (hl : l.length = N) (hN : N ≤ 9223372036854775807) (hA : Rd w la (fl encU l)) (hb : ∀ i, i < N → 0 ≤ uA l i ∧ uA l i ≤ 65535) :
    Calls Tryd.prog 4 #[.int .u8 ct, .slice la N c, .int .u8 u, .int .u8 by_, .int .u8 fr] w fun e w' => e = .returned (.bool true) ∧ Below w.heap.size w w' := by
  obtain ⟨n, hn⟩ : ∃ n : Nat, 1 + ct % 24 = n := ⟨(1 + ct % 24).toNat, by omega⟩
  have hn1 : 1 ≤ n := by omega
  have hn2 : n ≤ 24 := by omega
  obtain ⟨k, hk⟩ : ∃ k : Nat, 1 + by_ % 200 = k := ⟨(1 + by_ % 200).toNat, by omega⟩
  have hkl : 1 ≤ k := by omega
  have hkh : k ≤ 200 := by omega
  obtain ⟨y, ha⟩ : ∃ a : Nat, fr % (n : Int) = a := ⟨(fr % (n : Int)).toNat, by have := Int.emod_nonneg fr (b := (n : Int)) (by omega); omega⟩
  have han : y < n := by have := Int.emod_lt_of_pos fr (b := (n : Int)) (by omega); omega
  have hgood := Lib.hid (far_good (l := l) (by rw [hl]; exact hb) hu0 hn1 hn2)
  have HF := Lib.hid (fun w1 => far_any n N c la l u w1 hn1 (by omega) hl hN hu0 hu1)
  have HA := Lib.hid hA
  have HB := Lib.hid hb
  clear hl hA hb
  obtain ⟨d, hd⟩ : ∃ d, d = farL l u n := ⟨_, rfl⟩
  rw [← hd] at hgood
  have hgood2 := Lib.hid (mul_good hgood.out hkl (by omega))
  have hlen := Lib.hid hgood.out.len
  have hlen2 := Lib.hid hgood2.out.len
  obtain ⟨M, hM⟩ : ∃ M, n * n = M := ⟨_, rfl⟩
  have HM := Lib.hid hM
  have hM2 : M ≤ 576 := by rw [← hM]; exact Nat.mul_le_mul hn2 hn2
  have HD := Lib.hid hd
  clear hM hd
  obtain ⟨c1, hok1, hcp1, _, hs1⟩ := hgood.out.ok
  obtain ⟨c2, hok2, hcp2, _, hs2⟩ := hgood2.out.ok
  have HS := Lib.hid (And.intro hok1 (And.intro hok2 (And.intro hs1 hs2)))
  clear hok1 hok2 hs1 hs2
  go_enter Tryd.func4, Tryd.ntmps4
  go_wp2_with fail
  refine (HF.out _ HA.out HB.out).mono ?_
  rintro e w1 ⟨g, rfl, hg, hff, hb1⟩
  rw [HM.out] at hff ⊢
  have hrd := Lib.hid (show Rd w1 (some ⟨g, 0, none⟩) (fl encFr d) by have := ff_rd hff; rw [← HM.out] at this; rw [HD.out]; exact this)
  go_wp2_with fail
  refine (merges_any (some ⟨g, 0, none⟩) n M M d w1 (by omega) (by omega) (by rw [hlen.out, HM.out]) (by omega) hrd.out hgood.out.fit).mono ?_
  rintro e w2 ⟨hb2, ⟨x, hx, _⟩ | ⟨m, c', v, g1, hm, hm1, hm24, hc', rfl, hown1, hg1, hg1b⟩⟩
  · rw [HS.out.1] at hx; cases hx
  obtain rfl : m = n := by omega
  rw [HS.out.1] at hc'
  obtain rfl : c1 = c' := by injection hc'
  obtain ⟨ma, mc, rfl, hmb⟩ := owns_slice hown1
  have hfitg := Lib.hid (And.intro hg1 hg1b)
  have hff2 := FF_below hff hb2
  have hrd2 := Lib.hid (hrd.out.bl hb2)
  have HB2 := Lib.hid (bl_trans hb1 hb2)
  have hglt1 : g < w1.heap.size := (World.ownsRow.lt hff g rfl).2
  have hsz12 := hb2.size
  clear hg1 hg1b hff hb1 hb2 hmb
  go_wp2_with fail
  refine (rank_any (some ⟨g, 0, none⟩) m y M M d w2 (by omega) (by omega) (by omega) (by omega) (by rw [hlen.out, HM.out]) (by omega) hrd2.out hgood.out.fit).mono ?_
  rintro e w3 ⟨hb3, ⟨x, hx, _⟩ | ⟨m', c', y', B1, cap1, f1, hm', hy', hym, hm24', hc', rfl, hBw1, hFN1, hrow1⟩⟩
  · rw [rankE_ok HS.out.1 (by omega) (by omega)] at hx; cases hx
  obtain rfl : m' = m := by omega
  obtain rfl : y' = y := by omega
  rw [rankE_ok HS.out.1 (by omega) (by omega)] at hc'
  obtain rfl : c1 = c' := by injection hc'
  have HR1 := Lib.hid hrow1
  have hff3 := FF_below hff2 hb3
  have hown1' := owns_below hown1 hb3
  have hrd3 := Lib.hid (hrd2.out.bl hb3)
  have HB3 := Lib.hid (bl_trans HB2.out hb3)
  clear hc' hb3 hrow1 hff2 hown1
  go_wp2_with fail
  refine (near_any (some ⟨g, 0, none⟩) m' y' M M d w3 (by omega) (by omega) (by omega) (by omega) (by rw [hlen.out, HM.out]) (by omega) hrd3.out hgood.out.fit).mono ?_
  rintro e w4 ⟨hb4, ⟨x, hx, _⟩ | ⟨m, c', y, f3, hm', hy', hym3, hc', rfl, hrow3⟩⟩
  · rw [rankE_ok HS.out.1 (by omega) (by omega)] at hx; cases hx
  obtain rfl : m = m' := by omega
  obtain rfl : y = y' := by omega
  rw [rankE_ok HS.out.1 (by omega) (by omega)] at hc'
  obtain rfl : c1 = c' := by injection hc'
  have hnv : nearV f3 m y = nearV f1 m y := by
    unfold nearV
    by_cases h1 : m = 1
    · rw [if_pos h1, if_pos h1]
    · rw [if_neg h1, if_neg h1, hrow3.uniq2 HR1.out 0 (by omega), hrow3.uniq2 HR1.out 1 (by omega)]
  rw [hnv]
  have hff4 := FF_below hff3 hb4
  have hown2 := owns_below hown1' hb4
  have hFN2 : FN w4 B1 cap1 m f1 := owns_below hFN1 hb4
  have HB4 := Lib.hid (bl_trans HB3.out hb4)
  clear hnv hc' hb4 hrow3 hff3 hown1' hFN1
  obtain ⟨F, hF⟩ : ∃ F : Nat → Fr, F = fun p => farD l u (p / m) (p % m) := ⟨_, rfl⟩
  rw [← hF] at hff4
  have hdF : Hid (d = (List.range M).map F) := by show _ = _; rw [HD.out, hF, ← HM.out]; rfl
  have hff5 : FF w4 w.heap.size g M M (mulF F k 0) := hff4.congr fun p _ => by rw [mulF, if_neg (by omega)]
  have hbt5 : But g w4 w4 := But.refl _ _
  clear hF hff4
  go_wp2_with fail
  go_loopw [70, 20] (fun x _ wr => ∃ i : Nat, i ≤ M ∧ x = .int .i64 i ∧ FF wr w.heap.size g M M (mulF F k i) ∧ But g w4 wr) (fun x _ _ => M - (intOf x).toNat)
  case atStart => exact ⟨0, by omega, rfl, hff5, hbt5⟩
  case round =>
    obtain ⟨i, hi, rfl, hff6, hbt6⟩ := hrel
    clear hff5 hbt5
    by_cases hlt : i < M
    · have hnx := mul_set hlt hff6
      have hbx := hbt6.set (i * 2) (.int .i64 ((F i).1 * k))
      have hnum := hgood.out.num i (by rw [HM.out]; exact hlt)
      rw [hdF.out, show fN ((List.range M).map F) i = (F i).1 by simp [fN, hlt]] at hnum
      obtain ⟨z, hz⟩ : ∃ z : Nat, (F i).1 = z := ⟨(F i).1.toNat, by omega⟩
      obtain ⟨zk, hzk⟩ : ∃ zk : Nat, z * k = zk := ⟨_, rfl⟩
      have hzb : zk ≤ 65535 * 200 := by rw [← hzk]; exact Nat.mul_le_mul (by omega) hkh
      have e0 : wr.cell? ⟨g, i * 2, none⟩ = some (.int .i64 z) := by
        obtain ⟨gb, go, ge, _, gc⟩ := rdFr (ff_rd hff6) (by simp; omega)
        simp only [Option.some.injEq, Addr.mk.injEq, and_true] at ge
        obtain ⟨rfl, rfl⟩ := ge
        have := (gc i (by simpa using hlt)).1
        rw [Nat.zero_add, show fN ((List.range M).map (mulF F k i)) i = (F i).1 by simp [fN, hlt, mulF], hz] at this
        exact this
      have f0 := World.ownsRow.frozenAt hff6 (i * 2)
      rw [hz, show (z : Int) * (k : Int) = (zk : Int) by rw [← hzk]; simp] at hnx hbx
      have wz := wrap_nat ((z : Int) * (k : Int)) zk (by rw [← hzk]; simp) (by omega)
      have HX := Lib.hid (And.intro hnx hbx)
      clear hnx hbx hnum hz hzk
      go_wp2_with fail
      go_roundw
      case rel => exact ⟨i + 1, by omega, by go_num, HX.out⟩
      case measure => simp [intOf]; omega
    · have e : i = M := by omega
      have hrd5 := Lib.hid (show Rd wr (some ⟨g, 0, none⟩) (fl encFr (mulL d k)) by
        have h1 := ff_rd hff6
        have h2 : (List.range M).map (mulF F k i) = mulL d k := by
          rw [hdF.out, mulL, List.map_map, e]
          refine List.map_congr_left fun p hp => ?_
          simp only [Function.comp, mulF]
          rw [if_pos (List.mem_range.1 hp)]
        rw [h2] at h1
        exact h1)
      have hown3 : wr.ownsRow w1.heap.size 42 5 (.slice ma (m - 1) mc) (m - 1) (fl encMg (mRun m c1 g1 (m - 1)).l) := owns_but hown2 hbt6 (fun e => by have := (hown2.lt g e).1; omega)
      have hFN3 : FN wr B1 cap1 m f1 := owns_but hFN2 hbt6 (by simp [Value.ownBlock]; omega)
      have HB5 := Lib.hid (HB4.out.trans (hbt6.below HB4.out.size hg))
      clear e hff6 hbt6 hown2 hFN2
      obtain ⟨w5, rfl⟩ : ∃ w5 : World, w5 = wr := ⟨_, rfl⟩
      go_wp2_with fail
      refine (merges_any (some ⟨g, 0, none⟩) m M M (mulL d k) w5 (by omega) (by omega) (by rw [hlen2.out, HM.out]) (by omega) hrd5.out hgood2.out.fit).mono ?_
      rintro e w6 ⟨hb6, ⟨x, hx, _⟩ | ⟨m', c', v, g2, hm', hm1', hm24', hc', rfl, hown4, hg2, hg2b⟩⟩
      · rw [HS.out.2.1] at hx; cases hx
      obtain rfl : m = m' := by omega
      rw [HS.out.2.1] at hc'
      obtain rfl : c2 = c' := by injection hc'
      obtain ⟨oa, oc, rfl, hob⟩ := owns_slice hown4
      have hfitg2 := Lib.hid (And.intro hg2 hg2b)
      have hrd6 := Lib.hid (hrd5.out.bl hb6)
      have hown5 := owns_below hown3 hb6
      have hFN4 : FN w6 B1 cap1 m f1 := owns_below hFN3 hb6
      have HB6 := Lib.hid (bl_trans HB5.out hb6)
      clear hc' hg2 hg2b hb6 hown3 hFN3 hob
      go_wp2_with fail
      refine (rank_any (some ⟨g, 0, none⟩) m y M M (mulL d k) w6 (by omega) (by omega) (by omega) (by omega) (by rw [hlen2.out, HM.out]) (by omega) hrd6.out hgood2.out.fit).mono ?_
      rintro e w7 ⟨hb7, ⟨x, hx, _⟩ | ⟨m', c', y', B2, cap2, f2, hm', hy', hym4, hm24'', hc', rfl, hBw2, hFN5, hrow2⟩⟩
      · rw [rankE_ok HS.out.2.1 (by omega) (by omega)] at hx; cases hx
      obtain rfl : m = m' := by omega
      obtain rfl : y = y' := by omega
      rw [rankE_ok HS.out.2.1 (by omega) (by omega)] at hc'
      obtain rfl : c2 = c' := by injection hc'
      have hkey : Hid (∀ z, z < m → c1 * dist (mulL d k) c2 m y z = k * c2 * dist d c1 m y z) := fun z hz => scale_prop hgood.out HS.out.2.2.1 HS.out.2.2.2 (idxLt han hz)
      have hconv : Hid (∀ f, RkRow (mulL d k) c2 m y f → RkRow d c1 m y f) := fun f h => row_prop hcp1 (Nat.mul_pos hkl hcp2) han hkey.out h
      have HR2 := Lib.hid (show ∀ p, p < m → f2 p = f1 p from (hconv.out _ hrow2).uniq2 HR1.out)
      have hrd7 := Lib.hid (hrd6.out.bl hb7)
      have hown6 := owns_below hown5 hb7
      have hown7 := owns_below hown4 hb7
      have hFN6 : FN w7 B1 cap1 m f1 := owns_below hFN4 hb7
      have hFN7 : FN w7 B2 cap2 m f1 := by
        have h1 : (List.range m).map (fun p => (f2 p : Int)) = (List.range m).map (fun p => (f1 p : Int)) := List.map_congr_left fun p hp => by rw [HR2.out p (List.mem_range.1 hp)]
        unfold FN FS at hFN5 ⊢
        rw [h1] at hFN5
        exact hFN5
      have HB7 := Lib.hid (bl_trans HB6.out hb7)
      clear hc' hb7 hown5 hown4 hFN4 hFN5 hrow2
      go_wp2_with fail
      refine (near_any (some ⟨g, 0, none⟩) m y M M (mulL d k) w7 (by omega) (by omega) (by omega) (by omega) (by rw [hlen2.out, HM.out]) (by omega) hrd7.out hgood2.out.fit).mono ?_
      rintro e w8 ⟨hb8, ⟨x, hx, _⟩ | ⟨m', c', y', f4, hm', hy', hym5, hc', rfl, hrow4⟩⟩
      · rw [rankE_ok HS.out.2.1 (by omega) (by omega)] at hx; cases hx
      obtain rfl : m = m' := by omega
      obtain rfl : y = y' := by omega
      rw [rankE_ok HS.out.2.1 (by omega) (by omega)] at hc'
      obtain rfl : c2 = c' := by injection hc'
      have hnv : nearV f4 m y = nearV f1 m y := by
        unfold nearV
        by_cases h1 : m = 1
        · rw [if_pos h1, if_pos h1]
        · rw [if_neg h1, if_neg h1, (hconv.out _ hrow4).uniq2 HR1.out 0 (by omega), (hconv.out _ hrow4).uniq2 HR1.out 1 (by omega)]
      rw [hnv]
      have hown8 := owns_below hown6 hb8
      have hown9 := owns_below hown7 hb8
      have hFN8 : FN w8 B1 cap1 m f1 := owns_below hFN6 hb8
      have hFN9 : FN w8 B2 cap2 m f1 := owns_below hFN7 hb8
      have HB8 := Lib.hid (bl_trans HB7.out hb8)
      have HQ := Lib.hid ((eqI_any (some ⟨B1, 0, none⟩) (some ⟨B2, 0, none⟩) m m cap1 cap2 _ _ w8 (by simp) (by simp) (by omega) (by omega) (rd_of_owns hFN8) (rd_of_owns hFN9)).mono fun e w' (h : e = .returned (.bool (decide ((List.range m).map (fun p => (f1 p : Int)) = (List.range m).map (fun p => (f1 p : Int))))) ∧ ∃ n, w' = w8.drewN n) => (⟨by rw [h.1, decide_eq_true rfl], h.2⟩ : e = .returned (.bool true) ∧ ∃ n, w' = w8.drewN n))
      clear hnv hc' hb8 hown6 hown7 hFN6 hFN7 hrow4 hFN8 hFN9
      generalize nearV f1 m y = nv
      have hprop : Prop2 m c1 (k * c2) g1 g2 := fun x z hx hz => by
        rw [hfitg.out.1 x z hx hz, hfitg2.out.1 x z hx hz]
        exact scale_prop hgood.out HS.out.2.2.1 HS.out.2.2.2 (idxLt hx hz)
      obtain ⟨NK, hK⟩ : ∃ NK, m - 1 = NK := ⟨_, rfl⟩
      rw [hK] at hown8 hown9 ⊢
      have halike := fun (i : Nat) (hi : i < NK) => mg_alike hn2 hcp1 hcp2 hkl hfitg.out.2 hprop (show NK < m by omega) hi
      have hL1 := mRun_len m c1 g1 NK
      have hL2 := mRun_len m c2 g2 NK
      obtain ⟨L1, hLL1⟩ : ∃ L1, L1 = (mRun m c1 g1 NK).l := ⟨_, rfl⟩
      obtain ⟨L2, hLL2⟩ : ∃ L2, L2 = (mRun m c2 g2 NK).l := ⟨_, rfl⟩
      rw [← hLL1] at hown8 halike hL1
      rw [← hLL2] at hown9 halike hL2
      have HL := Lib.hid (And.intro hL1 (And.intro hL2 halike))
      have hNKb : NK ≤ 23 := by omega
      have HKm := Lib.hid hK
      clear hLL1 hLL2 hL1 hL2 halike hK hprop
      by_cases h1 : m = 1
      · have v2 : nearE m = 5 := by rw [nearE, if_pos h1]
        have q1 : ((m : Int) == 1) = true := by simp; omega
        rw [v2]
        have H1 := Lib.hid h1
        clear h1 v2
        go_wp2_with fail
        refine HQ.out.mono ?_
        rintro e w9 ⟨rfl, n9, rfl⟩
        go_wp2_with fail
        obtain ⟨w9, hw9⟩ : ∃ w9, w9 = w8.drewN n9 := ⟨_, rfl⟩
        have hl1 := Lib.hid (show Rd w9 ma (fl encMg L1) by rw [hw9]; exact (rd_of_owns hown8).drewN n9)
        have hl2 := Lib.hid (show Rd w9 oa (fl encMg L2) by rw [hw9]; exact (rd_of_owns hown9).drewN n9)
        have HB9 := Lib.hid (show Below w.heap.size w w9 by rw [hw9]; exact bl_drewN HB8.out n9)
        rw [← hw9]
        clear hw9 hown8 hown9
        have hbz := Below.refl w9.heap.size w9
        go_loopw [163, 27, 28, 29] (fun x _ _ _ wr => ∃ i : Nat, i ≤ NK ∧ x = .int .i64 i ∧ Below w9.heap.size w9 wr) (fun x _ _ _ _ => NK - (intOf x).toNat)
        case atStart => exact ⟨0, by omega, rfl, hbz⟩
        case round =>
          obtain ⟨i, hi, rfl, hbl⟩ := hrel
          clear hbz
          by_cases hlt : i < NK
          · obtain ⟨b1, o1, rfl, _, hcm1⟩ := rdMg (hl1.out.bl hbl) (by rw [HL.out.1]; omega)
            obtain ⟨b2, o2, rfl, _, hcm2⟩ := rdMg (hl2.out.bl hbl) (by rw [HL.out.2.1]; omega)
            obtain ⟨g0, g1', g2', g3, g4⟩ := hcm1 i (by rw [HL.out.1]; exact hlt)
            obtain ⟨k0, k1, k2, k3, k4⟩ := hcm2 i (by rw [HL.out.2.1]; exact hlt)
            obtain ⟨ea, eb, es, p, q, r, s, ep, eq, er, es2, epq, pb⟩ := HL.out.2.2 i hlt
            rw [ea] at k0
            rw [eb] at k1
            rw [es] at k4
            rw [ep] at g2'
            rw [eq] at g3
            rw [er] at k2
            rw [es2] at k3
            obtain ⟨pk, hpk⟩ : ∃ pk : Nat, p * k = pk := ⟨_, rfl⟩
            have hpb : pk ≤ 9007199254740992 * 200 := by rw [← hpk]; exact Nat.mul_le_mul pb hkh
            have wpk := wrap_nat ((p : Int) * (k : Int)) pk (by rw [← hpk]; simp) (by omega)
            have HEQ : Hid ((pk : Int) * (s : Int) = (r : Int) * (q : Int)) := by
              show _ = _
              rw [← hpk, ← Int.natCast_mul, ← Int.natCast_mul, epq]
            generalize mA L1 i = A at *
            generalize mB L1 i = B at *
            generalize mS L1 i = Z at *
            clear ea eb es ep eq er es2 epq hcm1 hcm2 hpk
            obtain ⟨w10, rfl⟩ : ∃ w10 : World, w10 = wr := ⟨_, rfl⟩
            go_upto_region 20 with fail
            go_cut [28, 29] (fun s10 s11 wx => ∃ x1 x2, s10 = .pointer (some ⟨x1, 0, none⟩) ∧ s11 = .pointer (some ⟨x2, 0, none⟩) ∧ Blk wx x1 #[.int .i64 A, .int .i64 B, .int .i64 p, .int .i64 q, .int .i64 Z] 42 ∧ Blk wx x2 #[.int .i64 A, .int .i64 B, .int .i64 r, .int .i64 s, .int .i64 Z] 42 ∧ Below w9.heap.size w9 wx)
            case first =>
              go_region_held3 (fun w' => w'.cell? ⟨b1, o1 + i * 5, none⟩ = some (.int .i64 A) ∧ w'.cell? ⟨b1, o1 + i * 5 + 1, none⟩ = some (.int .i64 B) ∧ w'.cell? ⟨b1, o1 + i * 5 + 2, none⟩ = some (.int .i64 p) ∧ w'.cell? ⟨b1, o1 + i * 5 + 3, none⟩ = some (.int .i64 q) ∧ w'.cell? ⟨b1, o1 + i * 5 + 4, none⟩ = some (.int .i64 Z) ∧
                w'.cell? ⟨b2, o2 + i * 5, none⟩ = some (.int .i64 A) ∧ w'.cell? ⟨b2, o2 + i * 5 + 1, none⟩ = some (.int .i64 B) ∧ w'.cell? ⟨b2, o2 + i * 5 + 2, none⟩ = some (.int .i64 r) ∧ w'.cell? ⟨b2, o2 + i * 5 + 3, none⟩ = some (.int .i64 s) ∧ w'.cell? ⟨b2, o2 + i * 5 + 4, none⟩ = some (.int .i64 Z)) (go_keep) (fail)
              · go_wp2_with fail
                go_meet
                exact ⟨_, _, rfl, rfl, ((Blk.new w10 _ 42).alloc _), Blk.new2 w10 _ _ 42, bl_drewN (bl_alloc (bl_alloc hbl _) _) 1⟩
              · go_wp2_with fail
                go_meet
                exact ⟨_, _, rfl, rfl, Blk.new2 w10 _ _ 42, ((Blk.new w10 _ 42).alloc _), bl_drewN (bl_alloc (bl_alloc hbl _) _) 1⟩
            case rest =>
              obtain ⟨x1, x2, rfl, rfl, hx1, hx2, hbl3⟩ := hcut
              clear g0 g1' g2' g3 g4 k0 k1 k2 k3 k4 hbl
              have c0 : wc.cell? ⟨x1, 0, none⟩ = some (.int .i64 A) := hx1.cell 0
              have c1' : wc.cell? ⟨x1, 1, none⟩ = some (.int .i64 B) := hx1.cell 1
              have c2' : wc.cell? ⟨x1, 2, none⟩ = some (.int .i64 p) := hx1.cell 2
              have c3 : wc.cell? ⟨x1, 3, none⟩ = some (.int .i64 q) := hx1.cell 3
              have c4 : wc.cell? ⟨x1, 4, none⟩ = some (.int .i64 Z) := hx1.cell 4
              have d0 : wc.cell? ⟨x2, 0, none⟩ = some (.int .i64 A) := hx2.cell 0
              have d1 : wc.cell? ⟨x2, 1, none⟩ = some (.int .i64 B) := hx2.cell 1
              have d2 : wc.cell? ⟨x2, 2, none⟩ = some (.int .i64 r) := hx2.cell 2
              have d3 : wc.cell? ⟨x2, 3, none⟩ = some (.int .i64 s) := hx2.cell 3
              have d4 : wc.cell? ⟨x2, 4, none⟩ = some (.int .i64 Z) := hx2.cell 4
              clear hx1 hx2
              go_wp2_with fail
              refine (equal_yes _ _ _ _ _ HEQ.out).mono ?_
              rintro e w11 ⟨rfl, hb11⟩
              have hbl4 := hbl3.trans (hb11.mono hbl3.size)
              clear hb11 hbl3
              go_wp2_with fail
              go_roundw
              case rel => exact ⟨i + 1, by omega, by go_num, hbl4⟩
              case measure => simp [intOf]; omega
          · go_wp2_with fail
            refine (works_any _).mono ?_
            rintro e w12 ⟨rfl, hb12⟩
            have HB12 := Lib.hid ((HB9.out.trans (hbl.mono HB9.out.size)).trans (hb12.mono (Nat.le_trans HB9.out.size hbl.size)))
            clear hb12 hbl
            go_wp2_with fail
            go_ret
            exact ⟨rfl, HB12.out⟩
      · have v2 : nearE m = 0 := by rw [nearE, if_neg h1]
        have q1 : ((m : Int) == 1) = false := by simp; omega
        rw [v2]
        have H1 := Lib.hid h1
        clear h1 v2
        go_wp2_with fail
        refine HQ.out.mono ?_
        rintro e w9 ⟨rfl, n9, rfl⟩
        go_wp2_with fail
        obtain ⟨w9, hw9⟩ : ∃ w9, w9 = w8.drewN n9 := ⟨_, rfl⟩
        have hl1 := Lib.hid (show Rd w9 ma (fl encMg L1) by rw [hw9]; exact (rd_of_owns hown8).drewN n9)
        have hl2 := Lib.hid (show Rd w9 oa (fl encMg L2) by rw [hw9]; exact (rd_of_owns hown9).drewN n9)
        have HB9 := Lib.hid (show Below w.heap.size w w9 by rw [hw9]; exact bl_drewN HB8.out n9)
        rw [← hw9]
        clear hw9 hown8 hown9
        have hbz := Below.refl w9.heap.size w9
        go_loopw [163, 27, 28, 29] (fun x _ _ _ wr => ∃ i : Nat, i ≤ NK ∧ x = .int .i64 i ∧ Below w9.heap.size w9 wr) (fun x _ _ _ _ => NK - (intOf x).toNat)
        case atStart => exact ⟨0, by omega, rfl, hbz⟩
        case round =>
          obtain ⟨i, hi, rfl, hbl⟩ := hrel
          clear hbz
          by_cases hlt : i < NK
          · obtain ⟨b1, o1, rfl, _, hcm1⟩ := rdMg (hl1.out.bl hbl) (by rw [HL.out.1]; omega)
            obtain ⟨b2, o2, rfl, _, hcm2⟩ := rdMg (hl2.out.bl hbl) (by rw [HL.out.2.1]; omega)
            obtain ⟨g0, g1', g2', g3, g4⟩ := hcm1 i (by rw [HL.out.1]; exact hlt)
            obtain ⟨k0, k1, k2, k3, k4⟩ := hcm2 i (by rw [HL.out.2.1]; exact hlt)
            obtain ⟨ea, eb, es, p, q, r, s, ep, eq, er, es2, epq, pb⟩ := HL.out.2.2 i hlt
            rw [ea] at k0
            rw [eb] at k1
            rw [es] at k4
            rw [ep] at g2'
            rw [eq] at g3
            rw [er] at k2
            rw [es2] at k3
            obtain ⟨pk, hpk⟩ : ∃ pk : Nat, p * k = pk := ⟨_, rfl⟩
            have hpb : pk ≤ 9007199254740992 * 200 := by rw [← hpk]; exact Nat.mul_le_mul pb hkh
            have wpk := wrap_nat ((p : Int) * (k : Int)) pk (by rw [← hpk]; simp) (by omega)
            have HEQ : Hid ((pk : Int) * (s : Int) = (r : Int) * (q : Int)) := by
              show _ = _
              rw [← hpk, ← Int.natCast_mul, ← Int.natCast_mul, epq]
            generalize mA L1 i = A at *
            generalize mB L1 i = B at *
            generalize mS L1 i = Z at *
            clear ea eb es ep eq er es2 epq hcm1 hcm2 hpk
            obtain ⟨w10, rfl⟩ : ∃ w10 : World, w10 = wr := ⟨_, rfl⟩
            go_upto_region 20 with fail
            go_cut [28, 29] (fun s10 s11 wx => ∃ x1 x2, s10 = .pointer (some ⟨x1, 0, none⟩) ∧ s11 = .pointer (some ⟨x2, 0, none⟩) ∧ Blk wx x1 #[.int .i64 A, .int .i64 B, .int .i64 p, .int .i64 q, .int .i64 Z] 42 ∧ Blk wx x2 #[.int .i64 A, .int .i64 B, .int .i64 r, .int .i64 s, .int .i64 Z] 42 ∧ Below w9.heap.size w9 wx)
            case first =>
              go_region_held3 (fun w' => w'.cell? ⟨b1, o1 + i * 5, none⟩ = some (.int .i64 A) ∧ w'.cell? ⟨b1, o1 + i * 5 + 1, none⟩ = some (.int .i64 B) ∧ w'.cell? ⟨b1, o1 + i * 5 + 2, none⟩ = some (.int .i64 p) ∧ w'.cell? ⟨b1, o1 + i * 5 + 3, none⟩ = some (.int .i64 q) ∧ w'.cell? ⟨b1, o1 + i * 5 + 4, none⟩ = some (.int .i64 Z) ∧
                w'.cell? ⟨b2, o2 + i * 5, none⟩ = some (.int .i64 A) ∧ w'.cell? ⟨b2, o2 + i * 5 + 1, none⟩ = some (.int .i64 B) ∧ w'.cell? ⟨b2, o2 + i * 5 + 2, none⟩ = some (.int .i64 r) ∧ w'.cell? ⟨b2, o2 + i * 5 + 3, none⟩ = some (.int .i64 s) ∧ w'.cell? ⟨b2, o2 + i * 5 + 4, none⟩ = some (.int .i64 Z)) (go_keep) (fail)
              · go_wp2_with fail
                go_meet
                exact ⟨_, _, rfl, rfl, ((Blk.new w10 _ 42).alloc _), Blk.new2 w10 _ _ 42, bl_drewN (bl_alloc (bl_alloc hbl _) _) 1⟩
              · go_wp2_with fail
                go_meet
                exact ⟨_, _, rfl, rfl, Blk.new2 w10 _ _ 42, ((Blk.new w10 _ 42).alloc _), bl_drewN (bl_alloc (bl_alloc hbl _) _) 1⟩
            case rest =>
              obtain ⟨x1, x2, rfl, rfl, hx1, hx2, hbl3⟩ := hcut
              clear g0 g1' g2' g3 g4 k0 k1 k2 k3 k4 hbl
              have c0 : wc.cell? ⟨x1, 0, none⟩ = some (.int .i64 A) := hx1.cell 0
              have c1' : wc.cell? ⟨x1, 1, none⟩ = some (.int .i64 B) := hx1.cell 1
              have c2' : wc.cell? ⟨x1, 2, none⟩ = some (.int .i64 p) := hx1.cell 2
              have c3 : wc.cell? ⟨x1, 3, none⟩ = some (.int .i64 q) := hx1.cell 3
              have c4 : wc.cell? ⟨x1, 4, none⟩ = some (.int .i64 Z) := hx1.cell 4
              have d0 : wc.cell? ⟨x2, 0, none⟩ = some (.int .i64 A) := hx2.cell 0
              have d1 : wc.cell? ⟨x2, 1, none⟩ = some (.int .i64 B) := hx2.cell 1
              have d2 : wc.cell? ⟨x2, 2, none⟩ = some (.int .i64 r) := hx2.cell 2
              have d3 : wc.cell? ⟨x2, 3, none⟩ = some (.int .i64 s) := hx2.cell 3
              have d4 : wc.cell? ⟨x2, 4, none⟩ = some (.int .i64 Z) := hx2.cell 4
              clear hx1 hx2
              go_wp2_with fail
              refine (equal_yes _ _ _ _ _ HEQ.out).mono ?_
              rintro e w11 ⟨rfl, hb11⟩
              have hbl4 := hbl3.trans (hb11.mono hbl3.size)
              clear hb11 hbl3
              go_wp2_with fail
              go_roundw
              case rel => exact ⟨i + 1, by omega, by go_num, hbl4⟩
              case measure => simp [intOf]; omega
          · go_wp2_with fail
            refine (works_any _).mono ?_
            rintro e w12 ⟨rfl, hb12⟩
            have HB12 := Lib.hid ((HB9.out.trans (hbl.mono HB9.out.size)).trans (hb12.mono (Nat.le_trans HB9.out.size hbl.size)))
            clear hb12 hbl
            go_wp2_with fail
            go_ret
            exact ⟨rfl, HB12.out⟩
end Go.Proofs.YtahgffjkkdbjeaaDoor
