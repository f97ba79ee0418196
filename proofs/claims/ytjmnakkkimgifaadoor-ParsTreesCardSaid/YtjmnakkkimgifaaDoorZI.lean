/- ParsTops: the tops of climbs (plain), and the walk of the statement. -/
import Derived.Test.YtjmnakkkimgifaaDoorZG
namespace Go.Proofs.YtjmnakkkimgifaaDoor
open Go Go.RowKit Go.Shelf
theorem lv_sum {t : List Nd} {n : Nat} (hn : t.length = n) (hb : BinT t n) : ∀ k, k ≤ n → sumF (fun c => (famL t n c).length) k + 2 * (lvsL t k).length = 2 * k := by
  intro k
  induction k with
  | zero => intro _; rfl
  | succ k ih =>
    intro hk
    have h := ih (by omega)
    show sumF (fun c => (famL t n c).length) k + (famL t n k).length + 2 * (lvsL t (k + 1)).length = 2 * (k + 1)
    rw [lvsL_snoc, List.length_append]
    rcases hb k (by omega) with e | e
    · have : leafB t k = true := by unfold leafB; rw [hn, List.isEmpty_iff]; exact List.eq_nil_of_length_eq_zero e
      rw [if_pos this, e]
      show _ + 0 + 2 * (_ + 1) = _
      omega
    · have : ¬ leafB t k = true := by
        unfold leafB; rw [hn, List.isEmpty_iff]
        intro e'; rw [e'] at e; cases e
      rw [if_neg this, e]
      show _ + 2 + 2 * (_ + 0) = _
      omega
/-- A binary tree's leaves, counted. -/
theorem ClT.lv {t : List Nd} {n : Nat} (h : ClT t n) : 2 * (lvT t).length = n + 1 := by
  obtain ⟨hn, hok, hb⟩ := h
  have hP := tok_par hn hok
  have h1 : 1 ≤ n := by have := hok.1; omega
  have hs := fam_sum hP (n - 1) (by omega)
  rw [show n - 1 + 1 = n by omega] at hs
  have h2 := lv_sum hn hb n (Nat.le_refl _)
  have e : lvT t = lvsL t n := by unfold lvT; rw [if_pos (show chkE t = 0 from if_pos hok), hn]
  rw [e]
  omega
theorem ClT.chk2 {L : Int} {l : List Nat} {t t' : List Nd} {n : Nat} (h : ClT t n) (h' : ClT t' n) (hc : chkP L l t = 0) : chkP L l t' = 0 := h.chk h' hc (by have := h.lv; have := h'.lv; omega)
theorem ClT.stp {L : Int} {l : List Nat} {t : List Nd} {n : Nat} (h : ClT t n) (hs : stopB L l t = false) : ClT (stpL L l t) n := by
  unfold stopB at hs
  rw [Bool.or_eq_false_iff, decide_eq_false_iff_not, decide_eq_false_iff_not, h.1] at hs
  unfold stpL
  rw [h.1]
  exact h.near (minI_lt _ _ (by omega))
/-- A top: the climb stops there, and it is the start or shorter. -/
theorem top_ind {L : Int} {l : List Nat} {n : Nat} : ∀ (f : Nat) (t : List Nd), lenS L l t < f → ClT t n → ClT (topL L l t) n ∧ stopB L l (topL L l t) = true ∧ (topL L l t = t ∨ lenS L l (topL L l t) < lenS L l t) := by
  intro f
  induction f with
  | zero => intro t h; omega
  | succ f ih =>
    intro t h hT
    by_cases e : stopB L l t = true
    · rw [topL_stop e]; exact ⟨hT, e, .inl rfl⟩
    · have e' : stopB L l t = false := by simpa using e
      obtain ⟨h1, h2⟩ := topL_step e'
      obtain ⟨i1, i2, i3⟩ := ih (stpL L l t) (by omega) (hT.stp e')
      rw [h1]
      refine ⟨i1, i2, .inr ?_⟩
      rcases i3 with i3 | i3
      · rw [i3]; exact h2
      · omega
theorem top_ok {L : Int} {l : List Nat} {t : List Nd} {n : Nat} (hT : ClT t n) (hc : chkP L l t = 0) : ClT (topL L l t) n ∧ chkP L l (topL L l t) = 0 ∧ (topL L l t = t ∨ lenS L l (topL L l t) < lenS L l t) ∧ topL L l (topL L l t) = topL L l t ∧
    ∀ k, k < (nearL (topL L l t) n).length → chkP L l (vT (nearL (topL L l t) n) k) = 0 ∧ lenS L l (topL L l t) ≤ lenS L l (vT (nearL (topL L l t) n) k) := by
  obtain ⟨h1, h2, h3⟩ := top_ind (L := L) (l := l) _ t (Nat.lt_succ_self _) hT
  have hcu := hT.chk2 h1 hc
  refine ⟨h1, hcu, h3, topL_stop h2, fun k hk => ⟨h1.chk2 (h1.near hk) hcu, ?_⟩⟩
  unfold stopB at h2
  rw [Bool.or_eq_true, decide_eq_true_eq, decide_eq_true_eq, h1.1] at h2
  rcases h2 with h2 | h2
  · omega
  · unfold stpL at h2
    rw [h1.1] at h2
    exact Nat.le_trans h2 (minI_le (fun k => lenS L l (vT (nearL (topL L l t) n) k)) _ k hk).1
set_option maxRecDepth 100000 in
set_option maxHeartbeats 8000000 in
theorem tplaw_any (a : Option Addr) (n c : Nat) (l : List Nat) (b : Option Addr) (m d : Nat) (has : List Nat) (w : World) (hl : l.length = n) (hN : n ≤ 1152921504606846976) (hA : Rd w a (fl enc8 l)) (hF : ∀ i, i < n → vA l i < 256)
    (hm : has.length = m) (hM : m ≤ 1152921504606846976) (hB : Rd w b (fl enc16 has)) (hG : ∀ i, i < m → vA has i < 65536) :
    Calls Tryd.prog 5 #[.slice a n c, .slice b m d] w fun e w' => e = .returned (.bool true) ∧ Below w.heap.size w w' := by
  have HMD := Lib.hid (made_any a n c b m d l has w hN hm hM hB hG)
  have HGR := Lib.hid (fun W (hW : Below w.heap.size w W) => grownS_any a n c l W hl hN (hA.bl hW) hF)
  obtain ⟨M, hMe⟩ : ∃ M, M = min n 9 := ⟨_, rfl⟩
  rw [← hMe] at HMD HGR
  have hM9 : M ≤ 9 := by omega
  obtain ⟨g1, g2, g3, g4⟩ := gr_all l hM9
  obtain ⟨t, ht⟩ : ∃ t, t = (gRun l M).1 := ⟨_, rfl⟩
  rw [← ht] at HGR g1 g2 g3 g4
  obtain ⟨q, hq⟩ : ∃ q, q = 2 * M + 1 := ⟨_, rfl⟩
  rw [← hq] at HGR g1 g3
  have hq19 : q ≤ 19 := by omega
  obtain ⟨N, hNe⟩ : ∃ N, N = M + 1 := ⟨_, rfl⟩
  have hN10 : N ≤ 10 := by omega
  rw [show 1 + M = N by omega] at HMD
  rw [← hNe] at g4
  obtain ⟨L, hLe⟩ : ∃ L, L = mdL N has := ⟨_, rfl⟩
  have hLlt : ∀ x, x ∈ L → x < 2 ^ N := by rw [hLe]; exact mdL_lt
  have hLn : L.length ≤ 8 := by rw [hLe, mdL_len]; omega
  rw [← hLe] at HMD
  obtain ⟨p, hp⟩ : ∃ p, p = L.length := ⟨_, rfl⟩
  rw [← hp] at HMD
  have hp8 : p ≤ 8 := by omega
  have h2N := Nat.two_pow_pos N
  have h2m : 2 ^ N ≤ 1024 := Nat.pow_le_pow_right (n := 2) (by omega) hN10
  have HLT : Hid (∀ i, i < p → vA L i < 1024) := fun i hi => by
    have := hLlt (vA L i) (by rw [vA_get (by omega)]; exact List.getElem_mem _)
    omega
  have HFL : Hid (FitV L) := fun i hi => by have := HLT.out i (by omega); omega
  have hk1 : chkP (N : Int) L t = 0 := chk_gr g2 g4 (by omega) (by omega) hLlt
  have HCT : Hid (ClT t q) := ⟨g1, g2, g3⟩
  have hTP := top_ok (L := (N : Int)) (l := L) HCT.out hk1
  obtain ⟨u, hu⟩ : ∃ u, u = topL (N : Int) L t := ⟨_, rfl⟩
  have HU := Lib.hid hu
  rw [← hu] at hTP
  obtain ⟨p1, p2, p3, p4, p5⟩ := hTP
  have P1 := Lib.hid p1
  have P2 := Lib.hid p2
  have P3 := Lib.hid p3
  have P4 := Lib.hid p4
  have P5 := Lib.hid p5
  have HK1 := Lib.hid hk1
  have H1 := Lib.hid g1
  have HSZ := Lib.hid (tok_size g1 g2)
  have HP := Lib.hid hp
  have HW := Lib.hid works_any
  clear hl hA hF hm hB hG hMe g1 g2 g3 g4 ht hq hNe hLe hLlt hLn hp hk1 hu p1 p2 p3 p4 p5
  go_enter Tryd.func5, Tryd.ntmps5
  go_wp2_with fail
  refine HMD.out.mono ?_
  rintro e w2 ⟨v, rfl, ho, hb⟩
  obtain ⟨A, cp, rfl, _⟩ := owns_slice ho
  have hcp := own_cap ho
  unfold maxLen at hcp
  have HR2 := Lib.hid (rd_of_owns ho)
  have HB2 := Lib.hid hb
  have HGX := Lib.hid (HGR.out w2 hb)
  clear ho hb HMD HGR
  go_wp2_with fail
  refine HGX.out.mono ?_
  rintro e w3 ⟨g, c', rfl, ho3, hb3⟩
  have HT3 := Lib.hid (rd_of_owns ho3)
  have HR3 := Lib.hid (HR2.out.bl hb3)
  have HB3 := Lib.hid (bl_trans HB2.out hb3)
  clear ho3 hb3 HR2 HB2 HGX
  have hb4 := bl_alloc (Below.refl _ w3) (.cells #[.int .i64 N, .slice A p cp] 30)
  have HX4 := Lib.hid (Blk.new w3 #[.int .i64 N, .slice A p cp] 30)
  have HT4 := Lib.hid (HT3.out.bl hb4)
  have HR4 := Lib.hid (HR3.out.bl hb4)
  have HB4 := Lib.hid (bl_trans HB3.out hb4)
  clear hb4 HT3 HR3 HB3
  go_wp2_with fail
  obtain ⟨X, hX⟩ : ∃ X, X = w3.heap.size := ⟨_, rfl⟩
  obtain ⟨w4, hw4⟩ : ∃ x, x = w3.alloc (.cells #[.int .i64 N, .slice A p cp] 30) := ⟨_, rfl⟩
  rw [← hX] at HX4 ⊢
  rw [← hw4] at HX4 HT4 HR4 HB4 ⊢
  clear hX hw4
  have HLX : Hid (∀ (W : World) (x : List Nd) (B : Option Addr) (e : Nat), Below w4.heap.size w4 W → ClT x q → chkP (N : Int) L x = 0 → Rd W B (fl encNd x) → Calls Tryd.prog 13 #[.agg #[.int .i64 N, .slice A p cp], .slice B q e] W fun e w' => e = .returned (.tuple #[.int .i64 (lenS (N : Int) L x : Nat), .int .i64 0]) ∧ Below W.heap.size W w') := fun W x B e hW hx hc hB => by
    have h := length_any (N : Int) A p cp L B q e x W HP.out.symm (by omega) (HR4.out.bl hW) HFL.out hx.1 (by omega) hB hx.small.2.2
    rw [hc] at h
    exact h
  have HCX : Hid (∀ (W : World) (x : List Nd) (B : Option Addr) (e : Nat), Below w4.heap.size w4 W → ClT x q → chkP (N : Int) L x = 0 → Rd W B (fl encNd x) → Calls Tryd.prog 21 #[.agg #[.int .i64 N, .slice A p cp], .slice B q e] W fun e w' => ∃ b o c, e = .returned (.tuple #[.slice (some ⟨b, o, none⟩) q c, .int .i64 (lenS (N : Int) L (topL (N : Int) L x) : Nat), .int .i64 0]) ∧ Rd w' (some ⟨b, o, none⟩) (fl encNd (topL (N : Int) L x)) ∧ Below W.heap.size W w') := fun W x B e hW hx hc hB => by
    have h := climb_any (N : Int) A p cp L B q e x W HP.out.symm (by omega) (HR4.out.bl hW) HFL.out hx.1 (by omega) hB hx.small.2.2
    have he : clbE (N : Int) L x = 0 := by
      unfold clbE
      rw [if_neg (by rw [hc]; omega), if_pos (binB_iff.2 (by rw [hx.1]; exact hx.2.2))]
    refine h.mono ?_
    rintro e w' ⟨v, rfl, _, h2, h3⟩
    obtain ⟨b, o, c, rfl, hr⟩ := h2 he
    rw [if_pos he, he, (top_ok hx hc).1.1]
    exact ⟨b, o, c, rfl, hr, h3⟩
  have HC1 := Lib.hid (HLX.out w4 t (some ⟨g, 0, none⟩) c' (Below.refl _ _) HCT.out HK1.out HT4.out)
  have c40 : w4.cell? ⟨X, 0, none⟩ = some (.int .i64 N) := HX4.out.cell 0
  have c41 : w4.cell? ⟨X, 1, none⟩ = some (.slice A p cp) := HX4.out.cell 1
  go_wp2_with fail
  refine HC1.out.mono ?_
  rintro e w5 ⟨rfl, hb5⟩
  have HB5 := Lib.hid hb5
  have d40 : w5.cell? ⟨X, 0, none⟩ = some (.int .i64 N) := (HX4.out.below hb5).cell 0
  have d41 : w5.cell? ⟨X, 1, none⟩ = some (.slice A p cp) := (HX4.out.below hb5).cell 1
  have HC2 := HCX.out w5 t (some ⟨g, 0, none⟩) c' hb5 HCT.out HK1.out (HT4.out.bl hb5)
  rw [← HU.out] at HC2
  have HC2 := Lib.hid HC2
  clear hb5 HC1 c40 c41
  go_wp2_with fail
  refine HC2.out.mono ?_
  rintro e w6 ⟨b6, o6, c6, rfl, hr6, hb6⟩
  have HR6 := Lib.hid hr6
  have HB6 := Lib.hid (bl_trans HB5.out hb6)
  have e40 : w6.cell? ⟨X, 0, none⟩ = some (.int .i64 N) := (HX4.out.below HB6.out).cell 0
  have e41 : w6.cell? ⟨X, 1, none⟩ = some (.slice A p cp) := (HX4.out.below HB6.out).cell 1
  have HC3 := Lib.hid (HLX.out w6 u (some ⟨b6, o6, none⟩) c6 HB6.out P1.out P2.out HR6.out)
  have HLE : lenS (N : Int) L u ≤ lenS (N : Int) L t := by
    rcases P3.out with h | h
    · rw [h]; exact Nat.le_refl _
    · omega
  have HL1 := Lib.hid (lenS_le (N : Int) L t)
  have HP5 := P5
  obtain ⟨lu, hlu⟩ : ∃ z, z = lenS (N : Int) L u := ⟨_, rfl⟩
  obtain ⟨lt, hlt⟩ : ∃ z, z = lenS (N : Int) L t := ⟨_, rfl⟩
  rw [← hlu, ← hlt] at HLE P3
  rw [← hlu] at HP5 HC3
  rw [← hlt] at HL1
  rw [← hlu, ← hlt]
  have hl1 := HL1.out
  have HLU := Lib.hid hlu
  have HLTT := Lib.hid hlt
  clear hlu hlt
  clear hr6 hb6 HB5 HC2 d40 d41 P5 HL1
  go_wp2_with fail
  refine HC3.out.mono ?_
  rintro e w7 ⟨rfl, hb7⟩
  have HB7 := Lib.hid (bl_trans HB6.out hb7)
  have HR7 := Lib.hid (HR6.out.bl hb7)
  have HC4 := near_any (some ⟨b6, o6, none⟩) q c6 u w7 P1.out.1 (by omega) HR7.out P1.out.small.2.2
  have hne : nearE u = 0 := by
    unfold nearE
    rw [if_neg (by rw [show chkE u = 0 from if_pos P1.out.2.1]; omega), if_pos (binB_iff.2 (by rw [P1.out.1]; exact P1.out.2.2))]
  have hnt : nearT u = nearL u q := by unfold nearT; rw [if_pos hne, P1.out.1]
  have hnl : (nearL u q).length = q - 3 := near_len P1.out.1 P1.out.2.1 P1.out.2.2
  rw [hne, hnt, hnl] at HC4
  rw [hnl] at HP5
  have HC4 := Lib.hid HC4
  have HP6 := Lib.hid HP5.out
  have HNL := Lib.hid hnl
  obtain ⟨K, hK⟩ : ∃ K, K = q - 3 := ⟨_, rfl⟩
  rw [← hK] at HC4 HP6 HNL
  have hK16 : K ≤ 16 := by omega
  clear hb7 HB6 HC3 e40 e41 hne hnt hnl HP5 HR6 hK
  go_wp2_with fail
  refine HC4.out.mono ?_
  rintro e w8 ⟨v8, rs, rfl, hts, hb8⟩
  have HB8 := Lib.hid (bl_trans HB7.out hb8)
  have HR8 := Lib.hid (HR7.out.bl hb8)
  have HX8 := Lib.hid (HX4.out.below HB8.out)
  obtain ⟨A8, c8, rfl, _⟩ := owns_slice hts.rows
  have HTS := Lib.hid hts
  clear hb8 HC4 HB7 HR7 hts
  go_wp2_with fail
  go_loopw [16] (fun x wr => ∃ j : Nat, j ≤ K ∧ x = .int .i64 j ∧ Hid (Below w8.heap.size w8 wr)) (fun x _ => K - (intOf x).toNat)
  case atStart => exact ⟨0, by omega, rfl, Below.refl _ _⟩
  case round =>
    obtain ⟨j, hj, rfl, hB⟩ := hrel
    have HBr := Lib.hid (bl_trans HB8.out hB.out)
    have c40 : wr.cell? ⟨X, 0, none⟩ = some (.int .i64 N) := (HX4.out.below HBr.out).cell 0
    have c41 : wr.cell? ⟨X, 1, none⟩ = some (.slice A p cp) := (HX4.out.below HBr.out).cell 1
    by_cases hlt : j < K
    · have hts := HTS.out.bl hB.out
      obtain ⟨g8, cap8, e8, _, hg8, hcell⟩ := hts.cell (by omega)
      injection e8 with e8 _ e8c
      subst e8
      subst e8c
      have G := hcell j hlt
      obtain ⟨ra, rc, hrs, hrd⟩ := hts.rd hlt
      obtain ⟨k1, k2⟩ := HP6.out j hlt
      have hct : ClT (vT (nearL u q) j) q := P1.out.near (by rw [HNL.out]; exact hlt)
      rw [hrs, hct.1] at G
      replace G : wr.cell? ⟨g8, j, none⟩ = some (.slice ra q rc) := G
      have HC5 := Lib.hid (fun W (hW : Below wr.heap.size wr W) => HLX.out W _ ra rc (bl_trans HBr.out hW) hct k1 (hrd.bl hW))
      obtain ⟨lk, hlk⟩ : ∃ z, z = lenS (N : Int) L (vT (nearL u q) j) := ⟨_, rfl⟩
      rw [← hlk] at HC5 k2
      clear hts hcell hrs hrd k1 hct hlk
      go_upto_region 13 with fail
      go_region_held3 (fun w' => w'.cell? ⟨X, 0, none⟩ = some (.int .i64 N) ∧ w'.cell? ⟨X, 1, none⟩ = some (.slice A p cp) ∧ w'.cell? ⟨g8, j, none⟩ = some (.slice ra q rc)) (go_keep) ((go_at_call 13; refine (HC5.out _ (bl_drewN (Below.refl _ _) 1)).mono ?_; rintro e wk ⟨rfl, hbk⟩; have hbj : Below wr.heap.size wr wk := bl_trans (bl_drewN (Below.refl _ _) 1) hbk; have j0 : wk.cell? ⟨X, 0, none⟩ = some (.int .i64 N) := (HX4.out.below (bl_trans HBr.out hbj)).cell 0; have j1 : wk.cell? ⟨X, 1, none⟩ = some (.slice A p cp) := (HX4.out.below (bl_trans HBr.out hbj)).cell 1; have j2 := (hbj.cell (p := ⟨g8, j, none⟩) hg8).trans G; have HBk := Lib.hid (bl_trans hB.out hbj); clear hbk hbj))
      clear HC5 c40 c41 G hB HBr
      go_wp2_with fail
      go_roundw
      case rel => exact ⟨j + 1, by omega, by go_num, HBk⟩
      case measure => simp [intOf]; omega
    · have hjk : j = K := by omega
      subst hjk
      have HR9 := Lib.hid (HR8.out.bl hB.out)
      have HC6 := HCX.out wr u (some ⟨b6, o6, none⟩) c6 HBr.out P1.out P2.out HR9.out
      rw [P4.out, ← HLU.out] at HC6
      have HC6 := Lib.hid HC6
      clear hB HX8
      go_wp2_with fail
      refine HC6.out.mono ?_
      rintro e w10 ⟨b10, o10, c10, rfl, hr10, hb10⟩
      have HBA := Lib.hid (bl_trans HBr.out hb10)
      have HRA := Lib.hid (HR9.out.bl hb10)
      have HRB := Lib.hid hr10
      have HC7 := Lib.hid (same_same (some ⟨b10, o10, none⟩) (some ⟨b6, o6, none⟩) q q c10 c6 u w10 P1.out.1 P1.out.1 (by omega) (by omega) HRB.out HRA.out)
      clear hb10 hr10 HC6 HR9 HBr c40 c41
      go_wp2_with fail
      refine HC7.out.mono ?_
      rintro e w11 ⟨rfl, n11, rfl⟩
      have HRC := Lib.hid (Rd.drewN HRA.out n11)
      have HT11 : Hid (Rd (w10.drewN n11) (some ⟨g, 0, none⟩) (fl encNd t)) := Rd.drewN (HT4.out.bl HBA.out) n11
      have HB11 := Lib.hid (bl_trans HB4.out (bl_drewN HBA.out n11))
      obtain ⟨w11, hw11⟩ : ∃ x, x = w10.drewN n11 := ⟨_, rfl⟩
      rw [← hw11] at HRC HT11 HB11 ⊢
      clear hw11 HC7 HRA HRB HBA
      by_cases hless : lu < lt
      · have HW2 := Lib.hid (HW.out w11)
        go_wp2_with fail
        refine HW2.out.mono ?_
        rintro e w12 ⟨rfl, hb12⟩
        have HB12 := Lib.hid (bl_trans HB11.out hb12)
        clear hb12 HB11 HW2 HW
        go_wp2_with fail
        go_ret
        exact ⟨rfl, HB12.out⟩
      · have hut : u = t := by
          rcases P3.out with h | h
          · exact h
          · exact absurd h hless
        have HC8 := same_same (some ⟨b6, o6, none⟩) (some ⟨g, 0, none⟩) q q c6 c' u w11 P1.out.1 P1.out.1 (by omega) (by omega) HRC.out (by rw [hut]; exact HT11.out)
        have HC8 := Lib.hid HC8
        clear hut
        go_wp2_with fail
        refine HC8.out.mono ?_
        rintro e w12 ⟨rfl, n12, rfl⟩
        have HB12 : Hid (Below w.heap.size w (w11.drewN n12)) := bl_drewN HB11.out n12
        have HW2 := Lib.hid (HW.out (w11.drewN n12))
        clear HB11 HW HC8
        go_wp2_with fail
        refine HW2.out.mono ?_
        rintro e w13 ⟨rfl, hb13⟩
        have HB13 := Lib.hid (bl_trans HB12.out hb13)
        clear hb13 HB12 HW2
        go_wp2_with fail
        go_ret
        exact ⟨rfl, HB13.out⟩
end Go.Proofs.YtjmnakkkimgifaaDoor
