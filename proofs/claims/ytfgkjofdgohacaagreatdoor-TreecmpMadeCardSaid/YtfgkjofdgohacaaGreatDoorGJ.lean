/- Distances of three trees (plain). Law TreecmpMetric: the walk. The document's count of trees with a clade; which lists of trees are looked at. The document's Support. Law TreecmpSupports: the walk. -/
import Derived.Test.YtfgkjofdgohacaaGreatDoorGH
import Derived.Test.YtfgkjofdgohacaaGreatDoorGI
import Derived.Test.YtfgkjofdgohacaaGreatDoorGE
import Derived.Test.YtfgkjofdgohacaaGreatDoorGF
namespace Go.Proofs.YtfgkjofdgohacaaGreatDoor
open Go Go.RowKit Go.Shelf Go.Maps
theorem twoE_comm (s t : List Nd) : twoE s t = twoE t s := by
  unfold twoE
  by_cases h : TreeOk s ∧ TreeOk t
  · rw [if_pos h, if_pos h.symm]
    by_cases e : nmsL s = nmsL t
    · rw [if_pos e, if_pos e.symm]
    · rw [if_neg e, if_neg fun q => e q.symm]
  · rw [if_neg h, if_neg fun q => h q.symm]
theorem twoE_zero {s t : List Nd} : twoE s t = 0 ↔ TreeOk s ∧ TreeOk t ∧ nmsL s = nmsL t := by
  unfold twoE
  by_cases h : TreeOk s ∧ TreeOk t
  · rw [if_pos h]
    by_cases e : nmsL s = nmsL t
    · rw [if_pos e]; exact ⟨fun _ => ⟨h.1, h.2, e⟩, fun _ => rfl⟩
    · rw [if_neg e]; exact ⟨fun q => absurd q (by decide), fun q => absurd q.2.2 e⟩
  · rw [if_neg h]; exact ⟨fun q => absurd q (by decide), fun q => absurd ⟨q.1, q.2.1⟩ h⟩
theorem dstV_comm (s t : List Nd) : dstV s t = dstV t s := by
  unfold dstV
  rw [twoE_comm, dst_comm]
theorem twoE_len {s t : List Nd} (h : twoE s t = 0) : (lvT s).length = (lvT t).length := by
  rw [← nmsL_len, ← nmsL_len, (twoE_zero.1 h).2.2]
theorem triV_comm (s t : List Nd) : triV s t = triV t s := by
  by_cases h : twoE s t = 0
  · rw [triV_ok h, triV_ok (by rw [twoE_comm]; exact h), tri_comm, twoE_len h]
  · rw [triV_bad h, triV_bad (by rw [twoE_comm]; exact h)]
theorem twoE_self {s t : List Nd} (h : twoE s t = 0) : twoE s s = 0 := by
  obtain ⟨a, _, _⟩ := twoE_zero.1 h
  exact twoE_zero.2 ⟨a, a, rfl⟩
theorem two_cls {s t : List Nd} (h : twoE s t = 0) : dstV s t = 0 ↔ clsL s = clsL t := by
  rw [dstV_ok h, ← dst_zero (cls_pw s) (cls_pw t)]
  omega
theorem dstV_self {s t : List Nd} (h : twoE s t = 0) : dstV s s = 0 := (two_cls (twoE_self h)).2 rfl
theorem triV_zero {s t : List Nd} (h : twoE s t = 0) : triV s t = 0 ↔ dstV s t = 0 := by
  obtain ⟨a, b, _⟩ := twoE_zero.1 h
  have h1 := cls_hier (t := s) rfl a
  have h2 := cls_hier (t := t) rfl b
  rw [← twoE_len h] at h2
  have h3 : (lvT s).length ≤ 63 := lvT_le63 a
  rw [two_cls h, ← tri_zero h1 h2 (by omega), triV_ok h]
  omega
theorem smV_eq {s t : List Nd} (h : twoE s t = 0) : smV s t = decide (dstV s t = 0) := by
  unfold smV
  rw [decide_eq_true h, Bool.true_and]
theorem twoE_third {s t : List Nd} (h : twoE s t = 0) (u : List Nd) : twoE s u = 0 ↔ twoE u t = 0 := by
  obtain ⟨a, b, e⟩ := twoE_zero.1 h
  rw [twoE_zero, twoE_zero, ← e]
  exact ⟨fun q => ⟨q.2.1, b, q.2.2.symm⟩, fun q => ⟨a, q.1, q.2.2.symm⟩⟩
theorem dstV_tri {s t u : List Nd} (h : twoE s t = 0) (k : twoE s u = 0) : dstV s t ≤ dstV s u + dstV u t := by
  rw [dstV_ok h, dstV_ok k, dstV_ok ((twoE_third h u).1 k)]
  have := dst_tri (A := clsL s) (B := clsL t) (C := clsL u) (sd_nodup (cls_pw s)) (sd_nodup (cls_pw t))
  omega
theorem dstV_bd (s t : List Nd) : ∃ d : Nat, dstV s t = (d : Int) ∧ d ≤ s.length + t.length := by
  unfold dstV
  split
  · refine ⟨_, rfl, ?_⟩
    unfold dstN
    have h1 := List.length_filter_le (fun x => !decide (x ∈ clsL t)) (clsL s)
    have h2 := List.length_filter_le (fun x => !decide (x ∈ clsL s)) (clsL t)
    have h3 := cls_len s
    have h4 := cls_len t
    omega
  · exact ⟨0, rfl, Nat.zero_le _⟩
end Go.Proofs.YtfgkjofdgohacaaGreatDoor
namespace Go.Proofs.YtfgkjofdgohacaaGreatDoor
open Go Go.RowKit Go.Shelf Go.Maps
set_option maxRecDepth 100000 in
set_option maxHeartbeats 8000000 in
theorem metric_any (a b a3 : Option Addr) (n c m d k c3 : Nat) (s t u : List Nd) (w : World) (hn : s.length = n) (hm : t.length = m) (hk : u.length = k) (hN : n ≤ 1152921504606846976) (hM : m ≤ 1152921504606846976) (hK : k ≤ 1152921504606846976) (hA : Rd w a (fl encNd s)) (hB : Rd w b (fl encNd t)) (hC : Rd w a3 (fl encNd u)) (hS : ∀ v, v < n → (nS s v).size ≤ 9223372036854775807) (hT : ∀ v, v < m → (nS t v).size ≤ 9223372036854775807) (hU : ∀ v, v < k → (nS u v).size ≤ 9223372036854775807) (hZ : TzG w) :
    Calls Tryz.prog 8 #[.slice a n c, .slice b m d, .slice a3 k c3] w fun e w' => e = .returned (.bool true) ∧ Below w.heap.size w w' := by
  have ENDW : Hid (∀ W, Below w.heap.size w W → Calls Tryz.prog 14 #[] W fun e w' => e = .returned (.bool true) ∧ Below w.heap.size w w') := fun W hb => (works_any W (hZ.bl hb)).mono fun e w' h => ⟨h.1, bl_trans hb h.2⟩
  have H1 : Hid (∀ W, Below w.heap.size w W → _) := fun W hb => dist_any a b n c m d s t W hn hm hN hM (hA.bl hb) (hB.bl hb) hS hT
  have H2 : Hid (∀ W, Below w.heap.size w W → _) := fun W hb => dist_any b a m d n c t s W hm hn hM hN (hB.bl hb) (hA.bl hb) hT hS
  have H3 : Hid (∀ W, Below w.heap.size w W → _) := fun W hb => triples_any a b n c m d s t W hn hm hN hM (hA.bl hb) (hB.bl hb) hS hT
  have H4 : Hid (∀ W, Below w.heap.size w W → _) := fun W hb => triples_any b a m d n c t s W hm hn hM hN (hB.bl hb) (hA.bl hb) hT hS
  have H5 : Hid (∀ W, Below w.heap.size w W → _) := fun W hb => dist_any a a n c n c s s W hn hn hN hN (hA.bl hb) (hA.bl hb) hS hS
  have H6 : Hid (∀ W, Below w.heap.size w W → _) := fun W hb => same_any a b n c m d s t W hn hm hN hM (hA.bl hb) (hB.bl hb) hS hT
  have H7 : Hid (∀ W, Below w.heap.size w W → _) := fun W hb => dist_any a a3 n c k c3 s u W hn hk hN hK (hA.bl hb) (hC.bl hb) hS hU
  have H8 : Hid (∀ W, Below w.heap.size w W → _) := fun W hb => dist_any a3 b k c3 m d u t W hk hm hK hM (hC.bl hb) (hB.bl hb) hU hT
  rw [twoE_comm t s, dstV_comm t s] at H2
  rw [twoE_comm t s, triV_comm t s] at H4
  have BD : Hid (n ≤ 24 → m ≤ 24 → k ≤ 24 → ∃ d0 p q : Nat, dstV s t = (d0 : Int) ∧ dstV s u = (p : Int) ∧ dstV u t = (q : Int) ∧ p ≤ 48 ∧ q ≤ 48) := fun h1 h2 h3 => by
    obtain ⟨x, e1, _⟩ := dstV_bd s t
    obtain ⟨y, e2, b2⟩ := dstV_bd s u
    obtain ⟨z, e3, b3⟩ := dstV_bd u t
    exact ⟨x, y, z, e1, e2, e3, by omega, by omega⟩
  clear hA hB hC hS hT hU hZ hn hm hk
  by_cases q1 : 24 < n ∨ 24 < m ∨ 24 < k
  · have KEY : Hid (∀ q1 q2 q3 : Bool, decide (24 < (n : Int)) = q1 → decide (24 < (m : Int)) = q2 → decide (24 < (k : Int)) = q3 → Calls Tryz.prog 8 #[.slice a n c, .slice b m d, .slice a3 k c3] w fun e w' => e = .returned (.bool true) ∧ Below w.heap.size w w') := by
      intro r1 r2 r3 d1 d2 d3
      clear H1 H2 H3 H4 H5 H6 H7 H8 BD
      go_enter Tryz.func8, Tryz.ntmps8
      cases r1 <;> cases r2 <;> cases r3 <;> first
        | (exfalso; simp only [decide_eq_true_eq, decide_eq_false_iff_not] at d1 d2 d3; omega)
        | (go_wp2_with fail
           refine (ENDW.out _ (Below.refl _ _)).mono ?_
           rintro e w3 ⟨rfl, hb3⟩
           go_wp2_with fail
           go_ret
           exact ⟨rfl, hb3⟩)
    exact KEY.out _ _ _ rfl rfl rfl
  have d1 : decide (24 < (n : Int)) = false := decide_eq_false (by omega)
  have d2 : decide (24 < (m : Int)) = false := decide_eq_false (by omega)
  have d3 : decide (24 < (k : Int)) = false := decide_eq_false (by omega)
  obtain ⟨d0, p, q, e1, e2, e3, hp, hq⟩ := BD.out (by omega) (by omega) (by omega)
  rw [e1] at H1 H2
  rw [e2] at H7
  rw [e3] at H8
  clear q1 BD
  by_cases hE : twoE s t = 0
  case neg =>
    have hd0 : d0 = 0 := by have := dstV_bad hE; omega
    subst hd0
    obtain ⟨E, hEE⟩ : ∃ E, E = twoE s t := ⟨_, rfl⟩
    rw [← hEE] at H1 H2 hE
    have t1 : (E == 0) = false := beq_eq_false_iff_ne.2 hE
    clear H3 H4 H5 H6 H7 H8 hE hEE e1 e2 e3
    go_enter Tryz.func8, Tryz.ntmps8
    go_wp2_with fail
    refine (H1.out _ (Below.refl _ _)).mono ?_
    rintro e w1 ⟨rfl, hb1⟩
    have HB1 := Lib.hid hb1
    clear hb1 H1
    go_wp2_with fail
    refine (H2.out _ HB1.out).mono ?_
    rintro e w2 ⟨rfl, hb2⟩
    have HB2 := Lib.hid (bl_trans HB1.out hb2)
    clear hb2 H2
    go_wp2_with fail
    refine (ENDW.out _ HB2.out).mono ?_
    rintro e w8 ⟨rfl, hb8⟩
    go_wp2_with fail
    go_ret
    exact ⟨rfl, hb8⟩
  case pos =>
    obtain ⟨z, hz⟩ : ∃ z, z = decide (dstV s t = 0) := ⟨_, rfl⟩
    have HDZ : ((d0 : Int) == 0) = z := by
      rw [hz, e1, Bool.eq_iff_iff, beq_iff_eq, decide_eq_true_eq]
    obtain ⟨N, hN2⟩ : ∃ N, N = triV s t := ⟨_, rfl⟩
    have HNZ : (N == 0) = z := by
      rw [hz, hN2, Bool.eq_iff_iff, beq_iff_eq, decide_eq_true_eq]
      exact triV_zero hE
    rw [← hN2] at H3 H4
    rw [smV_eq hE, ← hz] at H6
    rw [dstV_self hE, twoE_self hE] at H5
    have HTRI : Hid (twoE s u = 0 → d0 ≤ p + q) := fun h => by
      have := dstV_tri hE h
      rw [e1, e2, e3] at this
      omega
    have HTH := Lib.hid (twoE_third hE u)
    rw [hE] at H1 H2 H3 H4 H6
    clear hE hz hN2 e1 e2 e3
    go_enter Tryz.func8, Tryz.ntmps8
    go_wp2_with fail
    refine (H1.out _ (Below.refl _ _)).mono ?_
    rintro e w1 ⟨rfl, hb1⟩
    have HB1 := Lib.hid hb1
    clear hb1 H1
    go_wp2_with fail
    refine (H2.out _ HB1.out).mono ?_
    rintro e w2 ⟨rfl, hb2⟩
    have HB2 := Lib.hid (bl_trans HB1.out hb2)
    clear hb2 H2 HB1
    go_wp2_with fail
    refine (H3.out _ HB2.out).mono ?_
    rintro e w3 ⟨rfl, hb3⟩
    have HB3 := Lib.hid (bl_trans HB2.out hb3)
    clear hb3 H3 HB2
    go_wp2_with fail
    refine (H4.out _ HB3.out).mono ?_
    rintro e w4 ⟨rfl, hb4⟩
    have HB4 := Lib.hid (bl_trans HB3.out hb4)
    clear hb4 H4 HB3
    go_wp2_with fail
    refine (H5.out _ HB4.out).mono ?_
    rintro e w5 ⟨rfl, hb5⟩
    have HB5 := Lib.hid (bl_trans HB4.out hb5)
    clear hb5 H5 HB4
    go_wp2_with fail
    refine (H6.out _ HB5.out).mono ?_
    rintro e w6 ⟨rfl, hb6⟩
    have HB6 := Lib.hid (bl_trans HB5.out hb6)
    clear hb6 H6 HB5
    go_wp2_with fail
    refine (H7.out _ HB6.out).mono ?_
    rintro e w7 ⟨rfl, hb7⟩
    have HB7 := Lib.hid (bl_trans HB6.out hb7)
    clear hb7 H7 HB6
    go_wp2_with fail
    refine (H8.out _ HB7.out).mono ?_
    rintro e w8 ⟨rfl, hb8⟩
    have HB8 := Lib.hid (bl_trans HB7.out hb8)
    clear hb8 H8 HB7
    by_cases hK2 : twoE s u = 0
    · have hL := HTH.out.1 hK2
      have hle := HTRI.out hK2
      rw [hK2, hL]
      obtain ⟨r, hr⟩ : ∃ r, r = p + q := ⟨_, rfl⟩
      have HLE : decide ((d0 : Int) ≤ (r : Int)) = true := decide_eq_true (by omega)
      have HW : IntKind.i64.wrap ((p : Int) + (q : Int)) = (r : Int) := wrap_nat _ _ (by omega) (by omega)
      have hle2 : d0 ≤ r := by omega
      clear hK2 hL hle HTRI HTH hr
      go_wp2_with fail
      refine (ENDW.out _ HB8.out).mono ?_
      rintro e w9 ⟨rfl, hb9⟩
      go_wp2_with fail
      go_ret
      exact ⟨rfl, hb9⟩
    · have hL : ¬ twoE u t = 0 := fun h => hK2 (HTH.out.2 h)
      obtain ⟨E1, hE1⟩ : ∃ E, E = twoE s u := ⟨_, rfl⟩
      obtain ⟨E2, hE2⟩ : ∃ E, E = twoE u t := ⟨_, rfl⟩
      rw [← hE1] at hK2 ⊢
      rw [← hE2] at hL ⊢
      have t1 : (E1 == 0) = false := beq_eq_false_iff_ne.2 hK2
      have t2 : (E2 == 0) = false := beq_eq_false_iff_ne.2 hL
      clear hL hE1 hE2 HTRI HTH
      go_wp2_with fail
      refine (ENDW.out _ HB8.out).mono ?_
      rintro e w9 ⟨rfl, hb9⟩
      go_wp2_with fail
      go_ret
      exact ⟨rfl, hb9⟩
end Go.Proofs.YtfgkjofdgohacaaGreatDoor
namespace Go.Proofs.YtfgkjofdgohacaaGreatDoor
open Go Go.RowKit Go.Shelf Go.Maps
set_option maxRecDepth 100000 in
set_option maxHeartbeats 4000000 in
theorem among_any (a : Option Addr) (n c x : Nat) (T : Nat → List Nd) (rs : List Rw) (w : World) (hn : n ≤ 1048575) (h : TrsIn w a n T rs) (hok : ∀ i, i < n → TreeOk (T i)) :
    Calls Tryz.prog 58 #[.slice a n c, .int .u64 (x : Int)] w fun e w' => e = .returned (.int .i64 (vtC (fun i => clsL (T i)) n x : Nat)) ∧ Below w.heap.size w w' := by
  have HT := Lib.hid h
  have HOK := Lib.hid hok
  have HB0 := Lib.hid (Below.refl w.heap.size w)
  obtain ⟨C, hC⟩ : ∃ C : Nat → Nat, C = fun k => vtC (fun i => clsL (T i)) k x := ⟨_, rfl⟩
  have hCn : vtC (fun i => clsL (T i)) n x = C n := by rw [hC]
  rw [hCn]
  have HC0 : Hid (C 0 = 0) := by show _ = _; rw [hC]; rfl
  have HCS : Hid (∀ k, C (k + 1) = C k + if x ∈ clsL (T k) then 1 else 0) := by show ∀ k, _; rw [hC]; exact fun k => vtC_succ _ k x
  have HCL : Hid (∀ k, C k ≤ k) := by show ∀ k, _; rw [hC]; exact fun k => vtC_le _ k x
  clear h hok hC hCn
  go_enter Tryz.func58, Tryz.ntmps58
  go_wp2_with fail
  go_loopw [6, 5] (fun y z wr => ∃ k : Nat, k ≤ n ∧ y = .int .i64 k ∧ z = .int .i64 (C k : Nat) ∧ Hid (Below w.heap.size w wr)) (fun y _ _ => n - (intOf y).toNat)
  case atStart => exact ⟨0, by omega, rfl, by rw [HC0.out]; rfl, HB0⟩
  case round =>
    clear HB0
    obtain ⟨k, hk, rfl, rfl, HB⟩ := hrel
    by_cases hlt : k < n
    · obtain ⟨b, o, rfl, _, hc⟩ := rdR (HT.out.bl HB.out).rd (by rw [HT.out.len]; omega)
      have c1 := hc k (by rw [HT.out.len]; exact hlt)
      obtain ⟨hl1, hl2⟩ := HT.out.tl k hlt
      rw [hl1] at c1
      clear hc hl1 hl2
      have HR := Lib.hid ((HT.out.bl HB.out).tr k hlt)
      have HS := Lib.hid (HT.out.sz k hlt)
      have HOKT := Lib.hid (HOK.out k hlt)
      have HNX := Lib.hid (HCS.out k)
      have hle := HCL.out k
      obtain ⟨t, ht⟩ : ∃ t, t = T k := ⟨_, rfl⟩
      rw [← ht] at c1 HR HS HOKT HNX
      clear ht
      generalize rA rs k = aa at *
      generalize rC rs k = cc at *
      have HCD := Lib.hid (rclades_any aa t.length cc t wr rfl HOKT.out HR.out HS.out)
      have hl63 : (clsL t).length ≤ 63 := Nat.le_trans (cls_len t) HOKT.out.2.1
      obtain ⟨A, hA⟩ : ∃ A, A = clsL t := ⟨_, rfl⟩
      rw [← hA] at HCD HNX hl63
      obtain ⟨p, hp⟩ : ∃ p, p = A.length := ⟨_, rfl⟩
      rw [← hp] at HCD hl63
      have HP := Lib.hid hp
      clear hA hp
      obtain ⟨S, hS⟩ : ∃ S, S = C k := ⟨_, rfl⟩
      rw [← hS] at HNX hle ⊢
      clear hS
      go_wp2_with fail
      refine HCD.out.mono ?_
      rintro e w2 ⟨v2, rfl, ho2, hb2⟩
      obtain ⟨a2, c2, rfl⟩ := owns_sl ho2
      have HB2 := Lib.hid (bl_trans HB.out hb2)
      have HH := Lib.hid (rhas_any a2 p c2 x A w2 HP.out.symm (by omega) (rd_of_owns ho2))
      clear ho2 hb2 HCD
      go_wp2_with fail
      refine HH.out.mono ?_
      rintro e w4 ⟨rfl, rfl⟩
      by_cases hm : x ∈ A
      · have d1 : decide (x ∈ A) = true := decide_eq_true hm
        rw [if_pos hm] at HNX
        rw [d1]
        clear hm d1
        go_wp2_with fail
        exact ⟨⟨k + 1, by omega, by go_num, by rw [HNX.out]; go_num, HB2⟩, by simp [intOf]; omega⟩
      · have d1 : decide (x ∈ A) = false := decide_eq_false hm
        rw [if_neg hm, Nat.add_zero] at HNX
        rw [d1]
        clear hm d1
        go_wp2_with fail
        exact ⟨⟨k + 1, by omega, by go_num, by rw [HNX.out, Nat.add_zero], HB2⟩, by simp [intOf]; omega⟩
    · obtain rfl : k = n := by omega
      go_wp2_with fail
      go_ret
      exact ⟨rfl, HB.out⟩
set_option maxRecDepth 100000 in
set_option maxHeartbeats 4000000 in
/-- Which lists of trees are looked at: at most 8 trees, or 17 to 30. -/
theorem few_any (a : Option Addr) (n c : Nat) (T : Nat → List Nd) (rs : List Rw) (w : World) (hn : n ≤ 1152921504606846976) (h : TrsIn w a n T rs) :
    Calls Tryz.prog 17 #[.slice a n c] w fun e w' => (e = .returned (.bool false) ∨ e = .returned (.bool true) ∧ (n ≤ 8 ∨ 16 < n ∧ n ≤ 30)) ∧ ∃ q, w' = w.drewN q := by
  have HT := Lib.hid h
  clear h
  by_cases hA : 8 < n ∧ n ≤ 16
  · have d1 : decide (8 < (n : Int)) = true := decide_eq_true (by omega)
    have d2 : decide ((n : Int) ≤ 16) = true := decide_eq_true (by omega)
    clear hA
    go_enter Tryz.func17, Tryz.ntmps17
    go_wp2_with fail
    go_ret
    exact ⟨.inl rfl, 0, rfl⟩
  by_cases hB : 30 < n
  · have d1 : decide (8 < (n : Int)) = true := decide_eq_true (by omega)
    have d2 : decide ((n : Int) ≤ 16) = false := decide_eq_false (by omega)
    have d3 : decide (30 < (n : Int)) = true := decide_eq_true (by omega)
    clear hA hB
    go_enter Tryz.func17, Tryz.ntmps17
    go_wp2_with fail
    go_ret
    exact ⟨.inl rfl, 0, rfl⟩
  have HM : Hid (n ≤ 8 ∨ 16 < n ∧ n ≤ 30) := by show _ ∨ _; omega
  have d3 : decide (30 < (n : Int)) = false := decide_eq_false (by omega)
  obtain ⟨q1, q2, d1, d2, hq⟩ : ∃ q1 q2, decide (8 < (n : Int)) = q1 ∧ decide ((n : Int) ≤ 16) = q2 ∧ (q1 = false ∨ q1 = true ∧ q2 = false) := by
    refine ⟨_, _, rfl, rfl, ?_⟩
    rcases HM.out with q | q
    · exact .inl (decide_eq_false (by omega))
    · exact .inr ⟨decide_eq_true (by omega), decide_eq_false (by omega)⟩
  clear hA hB
  rcases hq with rfl | ⟨rfl, rfl⟩
  all_goals
    go_enter Tryz.func17, Tryz.ntmps17
    go_wp2_with fail
    clear d1 d2 d3
    go_loopw [4, 3] (fun y z wr => ∃ (k : Nat) (s : Int), k ≤ n ∧ y = .int .i64 k ∧ z = .int .i64 s ∧ ∃ q, wr = w.drewN q) (fun y _ _ => n - (intOf y).toNat)
    case atStart => exact ⟨0, 0, by omega, rfl, rfl, 0, rfl⟩
    case round =>
      obtain ⟨k, s, hk, rfl, rfl, q, rfl⟩ := hrel
      by_cases hlt : k < n
      · obtain ⟨b, o, rfl, _, hc⟩ := rdR (HT.out.rd.drewN q) (by rw [HT.out.len]; omega)
        have c1 := hc k (by rw [HT.out.len]; exact hlt)
        clear hc
        generalize rA rs k = aa at *
        generalize rN rs k = nn at *
        generalize rC rs k = cc at *
        generalize hw : w.drewN q = wr at *
        have HW := Lib.hid hw
        clear hw
        go_wp2_with fail
        exact ⟨⟨k + 1, _, by omega, by go_num, rfl, q, by rw [← HW.out]⟩, by simp [intOf]; omega⟩
      · obtain rfl : k = n := by omega
        go_wp2_with fail
        go_ret
        refine ⟨?_, q, rfl⟩
        by_cases z : s ≤ 200
        · exact .inr ⟨by simp [z], HM.out⟩
        · exact .inl (by simp [z])
end Go.Proofs.YtfgkjofdgohacaaGreatDoor
namespace Go.Proofs.YtfgkjofdgohacaaGreatDoor
open Go Go.RowKit Go.Shelf Go.Maps
theorem suE_many {n : Nat} {T : Nat → List Nd} {t : List Nd} (h : 16 < n) : suE n T t = 12 := by unfold suE; rw [if_pos h]
theorem snT_l {n i : Nat} {T : Nat → List Nd} {t : List Nd} (h : i < n) : snT n T t i = T i := if_pos h
theorem snT_r {n : Nat} {T : Nat → List Nd} {t : List Nd} : snT n T t n = t := if_neg (Nat.lt_irrefl _)
theorem suE_bad {n k : Nat} {T : Nat → List Nd} {t : List Nd} (h : n ≤ 16) (hk : k < n) (hb : ¬ TreeOk (T k)) : suE n T t = 16 := by
  have h1 : shE (n + 1) (snT n T t) = 16 := shE_bad (k := k) (by omega) (by rw [snT_l hk]; exact hb)
  unfold suE
  rw [if_neg (by omega), if_pos (by omega), h1]
theorem suE_bad2 {n : Nat} {T : Nat → List Nd} {t : List Nd} (h : n ≤ 16) (hb : ¬ TreeOk t) : suE n T t = 16 := by
  have h1 : shE (n + 1) (snT n T t) = 16 := shE_bad (k := n) (by omega) (by rw [snT_r]; exact hb)
  unfold suE
  rw [if_neg (by omega), if_pos (by omega), h1]
theorem suE_good {n : Nat} {T : Nat → List Nd} {t : List Nd} (h : n ≤ 16) (h1 : ∀ i, i < n → TreeOk (T i)) (h2 : TreeOk t) : suE n T t = alE t (n + 1) (snT n T t) := by
  have h3 : shE (n + 1) (snT n T t) = 0 := shE_ok fun i hi => by
    by_cases q : i < n
    · rw [snT_l q]; exact h1 i q
    · obtain rfl : i = n := by omega
      rw [snT_r]; exact h2
  unfold suE
  rw [if_neg (by omega), if_neg (by omega)]
theorem suE_arg {n k : Nat} {T : Nat → List Nd} {t : List Nd} (h : n ≤ 16) (h1 : ∀ i, i < n → TreeOk (T i)) (h2 : TreeOk t) (hk : k < n) (hb : nmsL (T k) ≠ nmsL t) : suE n T t = 2 := by
  rw [suE_good h h1 h2]
  exact alE_bad (k := k) (by omega) (by rw [snT_l hk]; exact fun e => hb e.symm)
theorem suE_ok {n : Nat} {T : Nat → List Nd} {t : List Nd} (h : n ≤ 16) (h1 : ∀ i, i < n → TreeOk (T i)) (h2 : TreeOk t) (h3 : ∀ i, i < n → nmsL (T i) = nmsL t) : suE n T t = 0 := by
  rw [suE_good h h1 h2]
  refine alE_ok fun i hi => ?_
  by_cases q : i < n
  · rw [snT_l q]; exact (h3 i q).symm
  · obtain rfl : i = n := by omega
    rw [snT_r]
theorem bl_ex4 {w w' : World} (h : ∃ m, w' = w.drewN m) : Below w.heap.size w w' := by
  obtain ⟨q, rfl⟩ := h
  exact bl_drewN (Below.refl _ _) q
/-- The first m numbers. -/
def suL (n : Nat) (T : Nat → List Nd) (t : List Nd) (m : Nat) : List Int := (List.range m).map fun v => ((suV n T t v : Nat) : Int)
theorem suL_len (n : Nat) (T : Nat → List Nd) (t : List Nd) (m : Nat) : (suL n T t m).length = m := by simp [suL]
theorem suL_succ (n : Nat) (T : Nat → List Nd) (t : List Nd) (m : Nat) : suL n T t (m + 1) = suL n T t m ++ [((suV n T t m : Nat) : Int)] := by simp [suL, List.range_succ]
theorem suV_eq {n v : Nat} {T : Nat → List Nd} {t : List Nd} (hv : v < t.length) : suV n T t v = vtC (fun i => clsL (T i)) n (cl4 t v) := by
  have e : vA (ndsU t) v = cl4 t v := by
    unfold ndsU vA
    simp [List.getD_eq_getElem?_getD, hv]
  unfold suV vtC
  rw [e]
  congr 1
  refine List.filter_congr fun i _ => ?_
  rw [decide_eq_decide]
  show cl4 t v ∈ setU (T i) ↔ cl4 t v ∈ clsL (T i)
  rw [← setU_sd, sdU_mem]
theorem fl_ofF (f : Nat → Int) (m : Nat) : ofF m (fun q => Value.int .i64 (f q)) = (fl encI ((List.range m).map f)).toArray := by
  apply Array.ext'
  have : fl encI ((List.range m).map f) = ((List.range m).map f).map (Value.int .i64) := by
    generalize (List.range m).map f = l
    induction l with
    | nil => rfl
    | cons a l ih => show encI a ++ fl encI l = _; rw [ih]; rfl
  rw [this]
  simp only [ofF, List.map_map]
  apply List.ext_getElem
  · simp
  · intro i h1 h2
    simp
set_option maxRecDepth 100000 in
set_option maxHeartbeats 4000000 in
theorem rsupport_any (a : Option Addr) (n c : Nat) (T : Nat → List Nd) (rs : List Rw) (b : Option Addr) (m d : Nat) (t : List Nd) (w : World) (hn : n < 1048575) (h : TrsIn w a n T rs) (hm : t.length = m) (hm2 : m ≤ 1152921504606846976) (hB : Rd w b (fl encNd t)) (hS : ∀ v, v < m → (nS t v).size ≤ 9223372036854775807) :
    Calls Tryz.prog 19 #[.slice a n c, .slice b m d] w fun e w' => Below w.heap.size w w' ∧ (suE n T t ≠ 0 ∧ e = .returned (.tuple #[.slice none 0 0, .int .i64 (suE n T t)]) ∨ suE n T t = 0 ∧ ∃ v, e = .returned (.tuple #[v, .int .i64 0]) ∧ w'.ownsRow w.heap.size 3 1 v m (fl encI (suL n T t m))) := by
  have HTR := Lib.hid h
  have HBT := Lib.hid hB
  have HS := Lib.hid hS
  have HM := Lib.hid hm
  have HCT := Lib.hid (fun W (hb : Below w.heap.size w W) => rcheck_any b m d t W hm hm2 (hB.bl hb) hS)
  have HB0 := Lib.hid (Below.refl w.heap.size w)
  clear h hB hS hm
  go_enter Tryz.func19, Tryz.ntmps19
  by_cases q1 : 16 < n
  · have hE := suE_many (T := T) (t := t) q1
    have d1 : decide (16 < (n : Int)) = true := decide_eq_true (by omega)
    clear q1
    go_wp2_with fail
    go_ret2
    exact ⟨Below.refl _ _, .inl ⟨by rw [hE]; decide, by rw [hE]; rfl⟩⟩
  have d1 : decide (16 < (n : Int)) = false := decide_eq_false (by omega)
  have HN16 : Hid (n ≤ 16) := by show _ ≤ _; omega
  clear q1
  go_wp2_with fail
  go_loopw [6] (fun y wr => ∃ k : Nat, k ≤ n ∧ y = .int .i64 k ∧ Hid (∀ i, i < k → TreeOk (T i)) ∧ Hid (Below w.heap.size w wr)) (fun y _ => n - (intOf y).toNat)
  case atStart => exact ⟨0, by omega, rfl, fun i hi => absurd hi (by omega), HB0⟩
  case round =>
    clear HB0 d1
    obtain ⟨k, hk, rfl, HOK, HB⟩ := hrel
    by_cases hlt : k < n
    · obtain ⟨bb, o, rfl, _, hc⟩ := rdR (HTR.out.bl HB.out).rd (by rw [HTR.out.len]; omega)
      have c1 := hc k (by rw [HTR.out.len]; exact hlt)
      obtain ⟨hl1, hl2⟩ := HTR.out.tl k hlt
      rw [hl1] at c1
      clear hc hl1
      have HR := Lib.hid ((HTR.out.bl HB.out).tr k hlt)
      have HSK := Lib.hid (HTR.out.sz k hlt)
      have HBAD : Hid (¬ TreeOk (T k) → suE n T t = 16) := fun hb => suE_bad HN16.out hlt hb
      obtain ⟨s, hs⟩ : ∃ s, s = T k := ⟨_, rfl⟩
      rw [← hs] at c1 HR HSK hl2 HBAD
      have HSE := Lib.hid hs
      clear hs
      generalize rA rs k = aa at *
      generalize rC rs k = cc at *
      have HCK := Lib.hid (rcheck_any aa s.length cc s wr rfl hl2 HR.out HSK.out)
      by_cases hok : TreeOk s
      · have HOKT := Lib.hid hok
        rw [chkE_good hok] at HCK
        clear hok HBAD
        go_wp2_with fail
        refine HCK.out.mono ?_
        rintro e w2 ⟨rfl, hb2⟩
        have HB2 := Lib.hid (bl_trans HB.out (bl_ex4 hb2))
        clear hb2 HCK
        go_wp2_with fail
        refine ⟨⟨k + 1, by omega, by go_num, fun i hi => ?_, HB2⟩, by simp [intOf]; omega⟩
        by_cases e : i < k
        · exact HOK.out i e
        · obtain rfl : i = k := by omega
          rw [← HSE.out]; exact HOKT.out
      · have hE := Lib.hid (HBAD.out hok)
        rw [show chkE s = 16 from if_neg hok] at HCK
        clear hok HBAD
        go_wp2_with fail
        refine HCK.out.mono ?_
        rintro e w2 ⟨rfl, hb2⟩
        have HB2 := Lib.hid (bl_trans HB.out (bl_ex4 hb2))
        clear hb2 HCK
        go_wp2_with fail
        go_ret2
        exact ⟨HB2.out, .inl ⟨by rw [hE.out]; decide, by rw [hE.out]; rfl⟩⟩
    · obtain rfl : k = n := by omega
      by_cases hokt : TreeOk t
      case neg =>
        have hE := Lib.hid (suE_bad2 (T := T) HN16.out hokt)
        have HCK := Lib.hid (HCT.out _ HB.out)
        rw [show chkE t = 16 from if_neg hokt] at HCK
        clear hokt HCT
        go_wp2_with fail
        refine HCK.out.mono ?_
        rintro e w2 ⟨rfl, hb2⟩
        have HB2 := Lib.hid (bl_trans HB.out (bl_ex4 hb2))
        clear hb2 HCK
        go_wp2_with fail
        go_ret2
        exact ⟨HB2.out, .inl ⟨by rw [hE.out]; decide, by rw [hE.out]; rfl⟩⟩
      case pos =>
        have HOKT := Lib.hid hokt
        have HCK := Lib.hid (HCT.out _ HB.out)
        rw [chkE_good hokt] at HCK
        clear hokt HCT
        go_wp2_with fail
        refine HCK.out.mono ?_
        rintro e w2 ⟨rfl, hb2⟩
        have HB2 := Lib.hid (bl_trans HB.out (bl_ex4 hb2))
        clear hb2 HCK HB
        go_wp2_with fail
        go_loopw [7] (fun y wr => ∃ j : Nat, j ≤ k ∧ y = .int .i64 j ∧ Hid (∀ i, i < j → nmsL (T i) = nmsL t) ∧ Hid (Below w.heap.size w wr)) (fun y _ => k - (intOf y).toNat)
        case atStart => exact ⟨0, by omega, rfl, fun i hi => absurd hi (by omega), HB2⟩
        case round =>
          clear HB2
          obtain ⟨j, hj, rfl, HAL, HB3⟩ := hrel
          by_cases hjl : j < k
          · obtain ⟨bb, o, rfl, _, hc⟩ := rdR (HTR.out.bl HB3.out).rd (by rw [HTR.out.len]; omega)
            have c1 := hc j (by rw [HTR.out.len]; exact hjl)
            obtain ⟨hl1, hl2⟩ := HTR.out.tl j hjl
            rw [hl1] at c1
            clear hc hl1
            have HR := Lib.hid ((HTR.out.bl HB3.out).tr j hjl)
            have HSK := Lib.hid (HTR.out.sz j hjl)
            have HBAD : Hid (nmsL (T j) ≠ nmsL t → suE k T t = 2) := fun hb => suE_arg HN16.out HOK.out HOKT.out hjl hb
            have HOKJ := Lib.hid (HOK.out j hjl)
            obtain ⟨s, hs⟩ : ∃ s, s = T j := ⟨_, rfl⟩
            rw [← hs] at c1 HR HSK hl2 HBAD HOKJ
            have HSE := Lib.hid hs
            clear hs
            generalize rA rs j = aa at *
            generalize rC rs j = cc at *
            have HCK := Lib.hid (ralike_any aa b s.length cc m d s t wr rfl HM.out HR.out (HBT.out.bl HB3.out) HSK.out HS.out HOKJ.out HOKT.out)
            by_cases hal : nmsL s = nmsL t
            · have HALT := Lib.hid hal
              rw [decide_eq_true hal] at HCK
              clear hal HBAD
              go_wp2_with fail
              refine HCK.out.mono ?_
              rintro e w3 ⟨rfl, hb3⟩
              have HB4 := Lib.hid (bl_trans HB3.out hb3)
              clear hb3 HCK
              go_wp2_with fail
              refine ⟨⟨j + 1, by omega, by go_num, fun i hi => ?_, HB4⟩, by simp [intOf]; omega⟩
              by_cases e : i < j
              · exact HAL.out i e
              · obtain rfl : i = j := by omega
                rw [← HSE.out]; exact HALT.out
            · have hE := Lib.hid (HBAD.out hal)
              rw [decide_eq_false hal] at HCK
              clear hal HBAD
              go_wp2_with fail
              refine HCK.out.mono ?_
              rintro e w3 ⟨rfl, hb3⟩
              have HB4 := Lib.hid (bl_trans HB3.out hb3)
              clear hb3 HCK
              go_wp2_with fail
              go_ret2
              exact ⟨HB4.out, .inl ⟨by rw [hE.out]; decide, by rw [hE.out]; rfl⟩⟩
          · obtain rfl : j = k := by omega
            have HE0 := Lib.hid (suE_ok HN16.out HOK.out HOKT.out HAL.out)
            have hm63 : m ≤ 63 := by rw [← HM.out]; exact HOKT.out.2.1
            have HSL : Hid (∀ v, v < m → suL j T t (v + 1) = suL j T t v ++ [((vtC (fun i => clsL (T i)) j (cl4 t v) : Nat) : Int)]) := fun v hv => by
              rw [suL_succ, suV_eq (by rw [HM.out]; exact hv)]
            have HLEN : Hid (∀ v, (suL j T t v).length = v) := suL_len j T t
            have HS0 : Hid (suL j T t 0 = []) := rfl
            obtain ⟨L, hL⟩ : ∃ L : Nat → List Int, L = suL j T t := ⟨_, rfl⟩
            rw [← hL] at HSL HLEN HS0
            have HLQ := Lib.hid hL
            clear hL HAL
            go_wp2_with fail
            go_loopw [9, 8] (fun y z wr2 => ∃ (v cA : Nat) (A : Option Addr), v ≤ m ∧ y = .int .i64 v ∧ z = .slice A v cA ∧ Hid (wr2.ownsRow w.heap.size 3 1 (.slice A v cA) v (fl encI (L v))) ∧ Hid (Below w.heap.size w wr2)) (fun y _ _ => m - (intOf y).toNat)
            case atStart => exact ⟨0, 0, none, by omega, rfl, rfl, by rw [HS0.out]; exact World.ownsRow_nil _ _ _ _, HB3⟩
            case round =>
              clear HB3
              obtain ⟨v, cA, A, hv, rfl, rfl, HV, HB5⟩ := hrel
              by_cases hvl : v < m
              · have HNX := Lib.hid (HSL.out v hvl)
                have HNL := Lib.hid (HLEN.out v)
                have H1 := Lib.hid (rclade34_any b m d v t _ HM.out HOKT.out hvl (HBT.out.bl HB5.out) HS.out)
                have H2 : Hid (∀ W, Below w.heap.size w W → _) := fun W hb => among_any a j c (cl4 t v) T rs W (by omega) (HTR.out.bl hb) HOK.out
                generalize cl4 t v = z at *
                generalize vtC (fun i => clsL (T i)) j z = r at *
                go_wp2_with first | fail | (go_at_call 59; refine H1.out.mono ?_; rintro e w5 ⟨rfl, hb5⟩; have HB6 := Lib.hid hb5; have HB7 := Lib.hid (bl_trans HB5.out hb5); clear hb5) | (go_at_call 58; refine (H2.out _ HB7.out).mono ?_; rintro e w6 ⟨rfl, hb6⟩; have HB8 := Lib.hid (bl_trans HB6.out hb6); have HB9 := Lib.hid (bl_trans HB7.out hb6); clear hb6) | (at_builtin; refine push_I rfl (.tmp 47) (.tmp 53) rfl w.heap.size (.slice A v cA) (L v) v HNL.out.symm rfl ((owns_below HV.out HB8.out).alloc _) _ _ (r : Int) rfl (Blk.new _ _ _) (by omega) (bl_alloc HB9.out _).size ?_; intro g cap w8 h1 h2 h3 h4; have H81 := Lib.hid h1; have H82 := Lib.hid (bl_grown (bl_alloc HB9.out _) h2 (fun y e => (HV.out.lt y e).1)); clear h1 h2 h3 h4)
                exact ⟨⟨v + 1, cap, _, by omega, by go_num, rfl, by rw [HNX.out]; exact H81.out, H82⟩, by simp [intOf]; omega⟩
              · obtain rfl : v = m := by omega
                go_wp2_with fail
                go_ret2
                exact ⟨HB5.out, .inr ⟨HE0.out, _, rfl, by rw [← HLQ.out]; exact HV.out⟩⟩
end Go.Proofs.YtfgkjofdgohacaaGreatDoor
namespace Go.Proofs.YtfgkjofdgohacaaGreatDoor
open Go Go.RowKit Go.Shelf Go.Maps
set_option maxRecDepth 100000 in
set_option maxHeartbeats 4000000 in
theorem supports_any (a : Option Addr) (n c : Nat) (T : Nat → List Nd) (rs : List Rw) (b : Option Addr) (m d : Nat) (t : List Nd) (w : World) (hn : n ≤ 1152921504606846976) (h : TrsIn w a n T rs) (ha : a = none → n = 0) (hm : t.length = m) (hm2 : m ≤ 1152921504606846976) (hB : Rd w b (fl encNd t)) (hS : ∀ v, v < m → (nS t v).size ≤ 9223372036854775807) (hZ : TzG w) :
    Calls Tryz.prog 4 #[.slice a n c, .slice b m d] w fun e w' => e = .returned (.bool true) ∧ Below w.heap.size w w' := by
  have ENDW : Hid (∀ W, Below w.heap.size w W → Calls Tryz.prog 14 #[] W fun e w' => e = .returned (.bool true) ∧ Below w.heap.size w w') := fun W hb => (works_any W (hZ.bl hb)).mono fun e w' h => ⟨h.1, bl_trans hb h.2⟩
  have H0 := Lib.hid (few_any a n c T rs w hn h)
  have H1 : Hid (∀ W, n < 1048575 → Below w.heap.size w W → _) := fun W hn hb => support_any a n c T rs b m d t W hn (h.bl hb) ha hm hm2 (hB.bl hb) hS
  have H2 : Hid (∀ W, n < 1048575 → Below w.heap.size w W → _) := fun W hn hb => rsupport_any a n c T rs b m d t W hn (h.bl hb) hm hm2 (hB.bl hb) hS
  clear h hm hB hS hZ
  go_enter Tryz.func4, Tryz.ntmps4
  go_wp2_with fail
  refine H0.out.mono ?_
  rintro e w1 ⟨rfl | ⟨rfl, hk⟩, q, hw1⟩
  · have HB1 : Hid (Below w.heap.size w w1) := by
      show Below _ _ _
      rw [hw1]; exact bl_drewN (Below.refl _ _) _
    clear hw1 H0 H1 H2
    go_wp2_with fail
    refine (ENDW.out _ HB1.out).mono ?_
    rintro e w3 ⟨rfl, hb3⟩
    go_wp2_with fail
    go_ret
    exact ⟨rfl, hb3⟩
  · have HB1 : Hid (Below w.heap.size w w1) := by
      show Below _ _ _
      rw [hw1]; exact bl_drewN (Below.refl _ _) _
    clear hw1 H0
    by_cases q2 : 100 < m
    · have d2 : decide (100 < (m : Int)) = true := decide_eq_true (by omega)
      clear q2 H1 H2 hk
      go_wp2_with fail
      refine (ENDW.out _ HB1.out).mono ?_
      rintro e w3 ⟨rfl, hb3⟩
      go_wp2_with fail
      go_ret
      exact ⟨rfl, hb3⟩
    · have d2 : decide (100 < (m : Int)) = false := decide_eq_false (by omega)
      have H1 := Lib.hid (H1.out _ (by omega) HB1.out)
      have H2 := Lib.hid (fun W => H2.out W (by omega))
      have hm100 : m ≤ 100 := by omega
      clear q2 hk
      obtain ⟨E, hE⟩ : ∃ E, E = suE n T t := ⟨_, rfl⟩
      rw [← hE] at H1 H2
      clear hE
      go_wp2_with fail
      refine H1.out.mono ?_
      rintro e w2 ⟨hb2, ⟨hz, rfl⟩ | ⟨hz, R, rfl, hR, hblk⟩⟩
      · have HB2 := Lib.hid (bl_trans HB1.out hb2)
        have HZ := Lib.hid hz
        clear hb2 H1 hz
        go_wp2_with fail
        refine (H2.out _ HB2.out).mono ?_
        rintro e w3 ⟨hb3, ⟨hz, rfl⟩ | ⟨hz, v, rfl, ho⟩⟩
        · have HB3 := Lib.hid (bl_trans HB2.out hb3)
          clear hb3 H2 hz
          go_wp2_with fail
          refine (wnums_any none none 0 0 0 0 [] [] w3 rfl rfl (by omega) (by omega) (Rd.nil _ _) (Rd.nil _ _)).mono ?_
          rintro e w7 ⟨rfl, q7, hw7⟩
          have HB7 : Hid (Below w.heap.size w w7) := by
            show Below _ _ _
            rw [hw7]; exact bl_drewN HB3.out _
          clear hw7
          rw [decide_eq_true rfl]
          go_wp2_with fail
          refine (ENDW.out _ HB7.out).mono ?_
          rintro e w8 ⟨rfl, hb8⟩
          go_wp2_with fail
          go_ret
          exact ⟨rfl, hb8⟩
        · exact absurd hz HZ.out
      · have HB2 := Lib.hid (bl_trans HB1.out hb2)
        subst hz
        have HR : Hid (Rd w2 (some ⟨R, 0, none⟩) (fl encI (suL n T t m))) := by
          show Rd _ _ _
          rw [fl_ofF] at hblk
          exact rd_of_blk4 hblk
        clear hb2 H1 hR hblk
        go_wp2_with fail
        refine (H2.out _ HB2.out).mono ?_
        rintro e w3 ⟨hb3, ⟨hz, _⟩ | ⟨_, v, rfl, ho⟩⟩
        · exact absurd rfl hz
        · obtain ⟨a3, c3, rfl⟩ := owns_sl ho
          have HB3 := Lib.hid (bl_trans HB2.out hb3)
          have HR3 := Lib.hid (HR.out.bl hb3)
          have HO3 := Lib.hid (rd_of_owns ho)
          clear hb3 H2 HR ho
          go_wp2_with fail
          refine (wnums_any (some ⟨R, 0, none⟩) a3 m m m c3 (suL n T t m) (suL n T t m) w3 (suL_len n T t m) (suL_len n T t m) (by omega) (by omega) HR3.out HO3.out).mono ?_
          rintro e w7 ⟨rfl, q7, hw7⟩
          have HB7 : Hid (Below w.heap.size w w7) := by
            show Below _ _ _
            rw [hw7]; exact bl_drewN HB3.out _
          clear hw7
          rw [decide_eq_true rfl]
          go_wp2_with fail
          refine (ENDW.out _ HB7.out).mono ?_
          rintro e w8 ⟨rfl, hb8⟩
          go_wp2_with fail
          go_ret
          exact ⟨rfl, hb8⟩
end Go.Proofs.YtfgkjofdgohacaaGreatDoor
