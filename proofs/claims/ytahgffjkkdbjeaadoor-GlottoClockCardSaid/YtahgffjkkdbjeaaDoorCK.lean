/- The body of the statement GlottoClock, at every input. -/
import Derived.Test.YtahgffjkkdbjeaaDoorCA
import Derived.Test.YtahgffjkkdbjeaaDoorCW
import Derived.Test.YtahgffjkkdbjeaaDoorJB
import Derived.Test.YtahgffjkkdbjeaaDoorZC
import Derived.Test.YtahgffjkkdbjeaaDoorXB
import Derived.IntWalk
namespace Go.Proofs.YtahgffjkkdbjeaaDoor
open Go.RowKit
theorem scK_topC {d : List Fr} {c i q n m : Nat} (h : GoodD d n q m) (hi : i < n * n) (hs : scK d c i * (fD d i).toNat = (fN d i).toNat * c) : scK d c i ≤ m * c := by
  have h1 := h.num i hi
  have h2 := h.den i hi
  have h3 := h.one
  have h4 : 1 ≤ (fD d i).toNat := by omega
  have h5 : scK d c i * 1 ≤ scK d c i * (fD d i).toNat := Nat.mul_le_mul_left _ h4
  have h6 : (fN d i).toNat * c ≤ m * c := Nat.mul_le_mul_right _ (by omega)
  omega
theorem start_ofC {d : List Fr} {n q m c : Nat} {g : Nat → Nat} (h : GoodD d n q m) (hc : 0 < c) (hs : ∀ i, i < n * n → scK d c i * (fD d i).toNat = (fN d i).toNat * c) (hg : ∀ i j, i < n → j < n → g (i * 24 + j) = dist d c n i j) (hb : ∀ t, g t ≤ 1073741824) : Start n c (m * c) g := by
  refine ⟨h.one.1, h.one.2.1, hc, hb, fun i j hi hj => ?_, fun i j hi hj _ => ?_⟩
  · rw [hg i j hi hj, hg j i hj hi]
    have h1 := h.sym i j hi hj
    unfold dist scK qN qD
    rw [fr_getD, fr_getD, h1.1, h1.2]
  · rw [hg i j hi hj]
    exact scK_topC h (idxLt hi hj) (hs _ (idxLt hi hj))
theorem run_fitC {n c G : Nat} {g : Nat → Nat} (h : Start n c G g) (hG : G * 576 ≤ 9223372036854775807) (hc : 576 * c ≤ 9223372036854775807) : FitMg (mRun n c g (n - 1)).l := fun i hi => by
  rw [mRun_len] at hi
  have hn := h.n1
  obtain ⟨_, _, h3, h4, _⟩ := mRun_at (n := n) (c := c) (g := g) hi
  have hl := low_bd (hP n c g i) (hQ n c g i) (h.qpos (by omega))
  have hb := h.hbd (k := i) (by omega)
  rw [h3, h4]
  omega
theorem jnL_atC (l : List Mg) (k : Nat) {n a b : Nat} (ha : a < n) (hb : b < n) : fN (jnL l k n) (a * n + b) = (jnK l k a b).1 ∧ fD (jnL l k n) (a * n + b) = (jnK l k a b).2 := by
  have h := sq_lt ha hb
  obtain ⟨e1, e2⟩ := sq_at (a := a) hb
  simp [fN, fD, jnL, h, jnF, e1, e2]
/-- What comes back of one distance: two fractions of the same number. -/
theorem clock_eq {d : List Fr} {n q m c : Nat} {g : Nat → Nat} (h : GoodD d n q m) (hc : 0 < c) (hs : ∀ i, i < n * n → scK d c i * (fD d i).toNat = (fN d i).toNat * c) (hg : ∀ i j, i < n → j < n → g (i * 24 + j) = dist d c n i j) (hst : Start n c (m * c) g) (hu : UltraP d c n) {i : Nat} (hi : i < n * n) :
    ∃ x y p q' : Nat, fN d i = (x : Int) ∧ fD d i = (y : Int) ∧ fN (jnL (mRun n c g (n - 1)).l (n - 1) n) i = (p : Int) ∧ fD (jnL (mRun n c g (n - 1)).l (n - 1) n) i = (q' : Int) ∧ x ≤ m ∧ y ≤ 16 ∧ 1 ≤ y ∧ p ≤ m * c * 576 ∧ q' ≤ 576 * c ∧ x * q' = p * y := by
  obtain ⟨ha, hb, hi2⟩ := sq_of hi
  obtain ⟨a, ea⟩ : ∃ a, i / n = a := ⟨_, rfl⟩
  obtain ⟨b, eb⟩ : ∃ b, i % n = b := ⟨_, rfl⟩
  rw [ea] at ha hi2
  rw [eb] at hb hi2
  have hnum := h.num i hi
  have hden := h.den i hi
  have hone := h.one
  have hsi := hs i hi
  obtain ⟨p, q', e, h1, h2, h3⟩ := hst.jbd a b
  have hg0 : a = b → g (a * 24 + b) = 0 := fun e => by
    subst e
    rw [hg a a ha ha]
    have hd0 := h.diag a ha
    rw [← hi2] at hd0
    unfold dist
    rw [← hi2]
    rw [hd0] at hsi
    simp only [Int.toNat_zero, Nat.zero_mul] at hsi
    rcases Nat.mul_eq_zero.1 hsi with h | h
    · exact h
    · omega
  obtain ⟨p2, q2, e2, h4, h5⟩ := hst.clock (fun a b x ha hb hx => by rw [hg a b ha hb, hg a x ha hx, hg b x hb hx]; exact hu a ha b hb x hx) ha hb hg0
  rw [e] at e2
  obtain rfl : p = p2 := by have := congrArg Prod.fst e2; simp at this; omega
  obtain rfl : q' = q2 := by have := congrArg Prod.snd e2; simp at this; omega
  obtain ⟨j1, j2⟩ := jnL_atC (mRun n c g (n - 1)).l (n - 1) ha hb
  unfold jR at e
  rw [e, ← hi2] at j1 j2
  have hgd : g (a * 24 + b) = scK d c i := by rw [hg a b ha hb, hi2]; rfl
  rw [hgd] at h5
  refine ⟨(fN d i).toNat, (fD d i).toNat, p, q', by omega, by omega, j1, j2, by omega, by omega, by omega, h1, h3, ?_⟩
  apply Nat.eq_of_mul_eq_mul_right hc
  calc (fN d i).toNat * q' * c = (fN d i).toNat * c * q' := by rw [Nat.mul_right_comm]
    _ = scK d c i * (fD d i).toNat * q' := by rw [hsi]
    _ = scK d c i * q' * (fD d i).toNat := by rw [Nat.mul_right_comm]
    _ = p * c * (fD d i).toNat := by rw [h5]
    _ = p * (fD d i).toNat * c := by rw [Nat.mul_right_comm]
theorem lift_next {l : List Int} {u : Int} {x y n : Nat} (hx : x < n) (hy : y < n) (hxy : x ≠ y) (p : Nat) :
    updF (updF (fun p => lineD l u (p / n) (p % n)) (x * n + y) ((lineD l u x y).1 + 100000, (lineD l u x y).2)) (y * n + x) ((lineD l u x y).1 + 100000, (lineD l u x y).2) p = liftD l u 100000 x y (p / n) (p % n) := by
  obtain ⟨d1, d2⟩ := dv1 (n := n) (a := x) (b := y) hy
  obtain ⟨d3, d4⟩ := dv1 (n := n) (a := y) (b := x) hx
  unfold updF
  by_cases e1 : p = y * n + x
  · rw [if_pos e1, e1, d3, d4]
    unfold liftD
    rw [if_pos (.inr ⟨rfl, rfl⟩), lineD_sym l u y x]
  · rw [if_neg e1]
    by_cases e2 : p = x * n + y
    · rw [if_pos e2, e2, d1, d2]
      unfold liftD
      rw [if_pos (.inl ⟨rfl, rfl⟩)]
    · rw [if_neg e2]
      unfold liftD
      rw [if_neg]
      rintro (⟨h1, h2⟩ | ⟨h1, h2⟩)
      · exact e2 (by rw [← h1, ← h2, Nat.mul_comm]; exact (Nat.div_add_mod p n).symm)
      · exact e1 (by rw [← h1, ← h2, Nat.mul_comm]; exact (Nat.div_add_mod p n).symm)
theorem fl_setNC (l : List Fr) (k : Nat) (x : Int) : (fl encFr l).set (k * 2) (.int .i64 x) = fl encFr (l.set k (x, (l.getD k (0, 1)).2)) := by
  induction l generalizing k with
  | nil => simp [fl]
  | cons y l ih =>
    have e : ∀ y l, fl encFr (y :: l) = .int .i64 y.1 :: .int .i64 y.2 :: fl encFr l := fun y l => by simp [fl, encFr]
    cases k with
    | zero => simp [e]
    | succ k =>
      rw [e, show (k + 1) * 2 = k * 2 + 1 + 1 by omega]
      simp only [List.set_cons_succ, e]
      rw [ih]
      simp
theorem FF.setN {w : World} {base g M i : Nat} {F : Nat → Fr} {v : Int} (hi : i < M) (hf : FF w base g M M F) : FF (w.setCell ⟨g, i * 2, none⟩ (.int .i64 v)) base g M M (updF F i (v, (F i).2)) := by
  have h1 := (World.ownsRow.stored hf (i * 2) (.int .i64 v)).1
  rw [fl_setNC] at h1
  have e : (((List.range M).map F).getD i (0, 1)).2 = (F i).2 := by simp [hi]
  rw [e, ← map_updF] at h1
  exact h1
theorem lift_set {w : World} {base g M n x y i j : Nat} {l : List Int} {u v : Int} (hx : x < n) (hy : y < n) (hxy : x ≠ y) (hM : n * n = M) (hi : x * n + y = i) (hj : y * n + x = j) (hv : v = (lineD l u x y).1 + 100000) (hf : FF w base g M M fun p => lineD l u (p / n) (p % n)) :
    FF ((w.setCell ⟨g, i * 2, none⟩ (.int .i64 v)).setCell ⟨g, j * 2, none⟩ (.int .i64 v)) base g M M fun p => liftD l u 100000 x y (p / n) (p % n) := by
  have hi2 : i < M := by rw [← hM, ← hi]; exact idxLt hx hy
  have hj2 : j < M := by rw [← hM, ← hj]; exact idxLt hy hx
  have hij : j ≠ i := fun e => by
    have := div_mod_uniq (n := n) (i := x) (j := y) (i' := y) (j' := x) (by omega) (by omega) (by rw [hi, hj, e])
    omega
  obtain ⟨d1, d2⟩ := dv1 (n := n) (a := x) (b := y) hy
  obtain ⟨d3, d4⟩ := dv1 (n := n) (a := y) (b := x) hx
  have h := FF.setN (v := v) hj2 (FF.setN (v := v) hi2 hf)
  refine h.congr fun p _ => ?_
  rw [← lift_next hx hy hxy p, hi, hj, ← hv]
  have e1 : updF (fun p => lineD l u (p / n) (p % n)) i (v, (lineD l u (i / n) (i % n)).2) = updF (fun p => lineD l u (p / n) (p % n)) i (v, (lineD l u x y).2) := by rw [← hi, d1, d2]
  have e2 : (updF (fun p => lineD l u (p / n) (p % n)) i (v, (lineD l u (i / n) (i % n)).2) j).2 = (lineD l u x y).2 := by
    unfold updF
    rw [if_neg hij]
    show (lineD l u (j / n) (j % n)).2 = _
    rw [← hj, d3, d4, lineD_sym]
  show updF _ j (v, (updF (fun p => lineD l u (p / n) (p % n)) i (v, (lineD l u (i / n) (i % n)).2) j).2) p = _
  rw [e2, e1]
set_option maxRecDepth 100000 in
set_option maxHeartbeats 4000000 in
theorem clock_any (N c : Nat) (ct u xa ya : Int) (la : Option Addr) (l : List Int) (w : World) (hc0 : 0 ≤ ct) (hc1 : ct ≤ 255) (hu0 : 0 ≤ u) (hu1 : u ≤ 255) (hx0 : 0 ≤ xa) (hx1 : xa ≤ 255) (hy0 : 0 ≤ ya) (hy1 : ya ≤ 255) (hl : l.length = N) (hN : N ≤ 9223372036854775807) (hA : Rd w la (fl encU l)) (hb : ∀ i, i < N → 0 ≤ uA l i ∧ uA l i ≤ 65535) :
    Calls Tryd.prog 12 #[.int .u8 ct, .slice la N c, .int .u8 u, .int .u8 xa, .int .u8 ya] w fun e w' => e = .returned (.bool true) ∧ Below w.heap.size w w' := by
  obtain ⟨n, hn⟩ : ∃ n : Nat, 1 + ct % 24 = n := ⟨(1 + ct % 24).toNat, by omega⟩
  have hn1 : 1 ≤ n := by omega
  have hn2 : n ≤ 24 := by omega
  obtain ⟨x, hx⟩ : ∃ a : Nat, xa % (n : Int) = a := ⟨(xa % (n : Int)).toNat, by have := Int.emod_nonneg xa (b := (n : Int)) (by omega); omega⟩
  have hxn : x < n := by have := Int.emod_lt_of_pos xa (b := (n : Int)) (by omega); omega
  obtain ⟨y, hy⟩ : ∃ a : Nat, ya % (n : Int) = a := ⟨(ya % (n : Int)).toNat, by have := Int.emod_nonneg ya (b := (n : Int)) (by omega); omega⟩
  have hyn : y < n := by have := Int.emod_lt_of_pos ya (b := (n : Int)) (by omega); omega
  have HBL := Lib.hid (show ∀ i, i < l.length → 0 ≤ uA l i ∧ uA l i ≤ 65535 by rw [hl]; exact hb)
  have hgood := Lib.hid (line_good HBL.out hu0 hn1 hn2)
  have HF := Lib.hid (fun w1 => line_any n N c la l u w1 hn1 (by omega) hl hN hu0 hu1)
  have HA := Lib.hid hA
  have HB := Lib.hid hb
  clear hl hA hb
  obtain ⟨d, hd⟩ : ∃ d, d = lineL l u n := ⟨_, rfl⟩
  rw [← hd] at hgood
  have hlen := Lib.hid hgood.out.len
  obtain ⟨M, hM⟩ : ∃ M, n * n = M := ⟨_, rfl⟩
  have HM := Lib.hid hM
  have hM2 : M ≤ 576 := by rw [← hM]; exact Nat.mul_le_mul hn2 hn2
  have HD := Lib.hid hd
  clear hM
  obtain ⟨cc, hok1, hcp1, hc16, hs1⟩ := hgood.out.ok
  have HU := Lib.hid (show UltraP d cc n by rw [hd] at hs1 ⊢; exact line_ultra HBL.out hu0 hs1)
  have HS := Lib.hid (And.intro hok1 hs1)
  clear hok1 hs1 hd
  have HXY := Lib.hid (And.intro hx hy)
  have hx' := hx
  have hy' := hy
  go_enter Tryd.func12, Tryd.ntmps12
  clear hx hy hx' hy'
  go_wp2_with fail
  refine (HF.out _ HA.out HB.out).mono ?_
  rintro e w1 ⟨g, rfl, hg, hff, hb1⟩
  rw [HM.out] at hff ⊢
  have hrd := Lib.hid (show Rd w1 (some ⟨g, 0, none⟩) (fl encFr d) by have := ff_rd hff; rw [← HM.out, ← lineL_eq] at this; rw [HD.out]; exact this)
  go_wp2_with fail
  refine (ultra_any (some ⟨g, 0, none⟩) n M M d w1 (by omega) (by omega) (by rw [hlen.out, HM.out]) (by omega) hrd.out hgood.out.fit).mono ?_
  rintro e w2 ⟨rfl, hb2⟩
  rw [ul_yes HS.out.1 HU.out]
  have hff2 := owns_below hff hb2
  have hrd2 := Lib.hid (hrd.out.bl hb2)
  have HB2 := Lib.hid (bl_trans hb1 hb2)
  clear hff hb1 hb2
  go_wp2_with fail
  refine (merges_any (some ⟨g, 0, none⟩) n M M d w2 (by omega) (by omega) (by rw [hlen.out, HM.out]) (by omega) hrd2.out hgood.out.fit).mono ?_
  rintro e w3 ⟨hb3, ⟨x', hx, _⟩ | ⟨m, c', v, g1, hm, hm1, hm24, hc', rfl, hown1, hg1, hg1b⟩⟩
  · rw [HS.out.1] at hx; cases hx
  obtain rfl : m = n := by omega
  rw [HS.out.1] at hc'
  obtain rfl : cc = c' := by injection hc'
  obtain ⟨ma, mc, rfl, hmb⟩ := owns_slice hown1
  have hst := start_ofC hgood.out hcp1 HS.out.2 hg1 hg1b
  have HCE := Lib.hid (fun i (hi : i < m * m) => clock_eq hgood.out hcp1 HS.out.2 hg1 hst HU.out hi)
  have hG : 165535 * cc ≤ 2648560 := by omega
  have HJE := Lib.hid (joinE_ok hn1 hn2 hst.steps)
  have hfit := Lib.hid (run_fitC hst (by omega) (by omega))
  obtain ⟨NK, hK⟩ : ∃ NK, m - 1 = NK := ⟨_, rfl⟩
  have HK := Lib.hid hK
  obtain ⟨L, hL⟩ : ∃ L, (mRun m cc g1 (m - 1)).l = L := ⟨_, rfl⟩
  have hLlen : L.length = NK := by rw [← hL, mRun_len, hK]
  have HLlen := Lib.hid hLlen
  rw [hL] at hfit hown1 HCE HJE
  rw [hK] at hown1 ⊢
  have HMG := Lib.hid (rd_of_owns hown1)
  have hff3 := owns_below hff2 hb3
  have hrd3 := Lib.hid (hrd2.out.bl hb3)
  have HB3 := Lib.hid (bl_trans HB2.out hb3)
  have hNKb : NK ≤ 23 := by omega
  have hnk1 : NK + 1 = m := by omega
  clear hg1 hg1b hb3 hmb hst hK hL hLlen hown1 hc' hff2
  go_wp2_with fail
  refine (joined_any ma m NK mc L w3 (by omega) (by omega) HLlen.out (by omega) HMG.out hfit.out).mono ?_
  rintro e w4 ⟨hb4, ⟨x', hx, _⟩ | ⟨m', v, hm', hc', rfl, hown3⟩⟩
  · rw [HJE.out] at hx; cases hx
  obtain rfl : m' = m := by omega
  obtain ⟨ja, jc, rfl, hjb⟩ := owns_slice hown3
  rw [HM.out] at hown3 ⊢
  have HJ := Lib.hid (rd_of_owns hown3)
  have hff4 := owns_below hff3 hb4
  have hrd4 := Lib.hid (hrd3.out.bl hb4)
  have HB4 := Lib.hid (bl_trans HB3.out hb4)
  have wm := wrap_nat ((m' : Int) * (m' : Int)) M (by rw [← HM.out]; simp) (by omega)
  have hmS : m' ≤ M := by rw [← HM.out]; exact Nat.le_mul_of_pos_left _ hn1
  have HFF4 := Lib.hid hff4
  clear hb4 hown3 hc' hjb HMG hrd hrd2 hrd3 HF hff3 hff4
  have hbz := Below.refl w4.heap.size w4
  go_wp2_with fail
  go_loopw [72, 19] (fun x _ wr => ∃ i : Nat, i ≤ M ∧ x = .int .i64 i ∧ Below w4.heap.size w4 wr) (fun x _ _ => M - (intOf x).toNat)
  case atStart => exact ⟨0, by omega, rfl, hbz⟩
  case round =>
    obtain ⟨i, hi, rfl, hbi⟩ := hrel
    clear hbz
    by_cases hlt : i < M
    · obtain ⟨px, py, p, q, ex, ey, ep, eq, bx, by1, by2, bp, bq, heq⟩ := HCE.out i (by rw [HM.out]; exact hlt)
      obtain ⟨gb, go, ge, _, gc⟩ := rdFr (hrd4.out.bl hbi) (by rw [hlen.out, HM.out]; omega)
      simp only [Option.some.injEq, Addr.mk.injEq, and_true] at ge
      obtain ⟨rfl, rfl⟩ := ge
      obtain ⟨J0, J1⟩ := gc i (by rw [hlen.out, HM.out]; exact hlt)
      obtain ⟨b2, o2, hja, hb2l, hcj⟩ := rdFr (HJ.out.bl hbi) (by rw [jnL_len, HM.out]; omega)
      obtain ⟨J2, J3⟩ := hcj i (by rw [jnL_len, HM.out]; exact hlt)
      rw [Nat.zero_add] at J0 J1
      rw [ex] at J0
      rw [ey] at J1
      rw [ep] at J2
      rw [eq] at J3
      have l1 : px * q ≤ 165535 * 9216 := Nat.mul_le_mul (by omega) (by omega)
      have l2 : p * py ≤ 2648560 * 576 * 16 := Nat.mul_le_mul (by omega) (by omega)
      have HEQ : Hid (∀ W, Calls Tryd.prog 24 #[.agg #[.int .i64 px, .int .i64 py], .agg #[.int .i64 p, .int .i64 q]] W fun e w' => e = .returned (.bool true) ∧ Below W.heap.size W w') := fun W => by
        have h2 := equal_any px py p q W (by omega) (by omega) (by omega) (by omega) (by omega) (by omega)
        rw [decide_eq_true heq] at h2
        exact h2
      have y0 := wb_cell J0 (World.block_lt_of_cell? wr _ J0)
      have y1 := wb_cell J1 (World.block_lt_of_cell? wr _ J1)
      have y2 := wb_cell J2 (World.block_lt_of_cell? wr _ J2)
      have y3 := wb_cell J3 (World.block_lt_of_cell? wr _ J3)
      have HY := Lib.hid (And.intro y0 (And.intro y1 (And.intro y2 y3)))
      clear gc hcj ex ey ep eq heq l1 l2 J0 J1 J2 J3 y0 y1 y2 y3
      subst hja
      go_upto_region 11 with fail
      obtain ⟨y0, y1, y2, y3⟩ := HY.out
      refine wp_quiet_wb (by kernel_rfl) (by kernel_rfl) ?_
      repeat (go_big_quiet_step ((go_at_call 24; exact quiet_of_wb (HEQ.out _))))
      refine wpQuiet_nil ?_
      rintro _ ⟨⟨wq, hbq⟩, rfl⟩
      have hb8 := hbi.trans (hbq.mono hbi.size)
      clear y0 y1 y2 y3
      go_wp2_with fail
      go_roundw
      case rel => exact ⟨i + 1, by omega, by go_num, hb8⟩
      case measure => simp [intOf]; omega
    · have hff5 := owns_below HFF4.out hbi
      have HB5 := Lib.hid (HB4.out.trans (hbi.mono HB4.out.size))
      clear hbi
      obtain ⟨hx, hy⟩ := HXY.out
      obtain ⟨w5, rfl⟩ : ∃ w5 : World, w5 = wr := ⟨_, rfl⟩
      go_wp2_with fail
      go_quiet (fail)
      rw [hx, hy]
      clear hx hy
      obtain ⟨w6, hw6⟩ : ∃ w6, w6 = w5.drewN nq := ⟨_, rfl⟩
      have hff6 : FF w6 w.heap.size g M M (fun p => lineD l u (p / m') (p % m')) := by rw [hw6]; exact hff5
      have HB6 := Lib.hid (show Below w.heap.size w w6 by rw [hw6]; exact bl_drewN HB5.out nq)
      rw [← hw6]
      clear hw6 hff5
      by_cases hxy : x = y
      · have q1 : ((x : Int) == (y : Int)) = true := by simp; omega
        have q2 : (x == y) = true := by simp; omega
        clear hff6
        have HXE := Lib.hid hxy
        clear hxy
        go_wp2_with fail
        refine (works_any _).mono ?_
        rintro e w12 ⟨rfl, hb12⟩
        have HB12 := Lib.hid (bl_trans HB6.out hb12)
        clear hb12
        go_wp2_with fail
        go_ret
        exact ⟨rfl, HB12.out⟩
      · have q1 : ((x : Int) == (y : Int)) = false := by simp; omega
        have q2 : (x == y) = false := by simp; omega
        by_cases h3 : m' < 3
        · have q3 : decide ((m' : Int) < 3) = true := by simp; omega
          have q4 : decide (m' < 3) = true := by simp; omega
          clear hff6
          go_wp2_with fail
          refine (works_any _).mono ?_
          rintro e w12 ⟨rfl, hb12⟩
          have HB12 := Lib.hid (bl_trans HB6.out hb12)
          clear hb12
          go_wp2_with fail
          go_ret
          exact ⟨rfl, HB12.out⟩
        · have q3 : decide ((m' : Int) < 3) = false := by simp; omega
          have q4 : decide (m' < 3) = false := by simp; omega
          have hgood2 := Lib.hid (lift_good (x := x) (y := y) (K := 100000) HBL.out hu0 (by omega) (by omega) hn1 hn2 (.inr hxy))
          have hlen2 := Lib.hid hgood2.out.len
          obtain ⟨c2, hok2, hcp2, _, hs2⟩ := hgood2.out.ok
          have hnot := lift_not HBL.out hu0 (show 3 ≤ m' by omega) hxn hyn hxy hcp2 hs2
          have HNO := Lib.hid (show ultraS m' (liftL l u 100000 x y m') = (false, 0) by rw [ultraS, hok2]; exact Prod.ext (decide_eq_false hnot) rfl)
          clear hok2 hcp2 hs2 hnot
          have hv := lnM_bd HBL.out
          have hv2 : 0 ≤ (lineD l u x y).1 ∧ (lineD l u x y).1 ≤ 65535 := by
            rw [lineD_eq, if_neg hxy]
            unfold lnV
            split
            · exact hv _ _
            · exact hv _ _
          clear hv
          obtain ⟨m1, m2, k1, k2, hm1, hm2, hk1, hk2, z1, z2⟩ := idx_far (n := m') (N := M) (a := x) (b := y) HM.out hxn hyn
          have wa1 := wrap_nat ((x : Int) * (m' : Int)) m1 (by rw [← hm1]; simp) (by omega)
          have wa2 := wrap_nat ((y : Int) * (m' : Int)) m2 (by rw [← hm2]; simp) (by omega)
          have wa3 := wrap_nat ((m1 : Int) + (y : Int)) k1 (by omega) (by omega)
          have wa4 := wrap_nat ((m2 : Int) + (x : Int)) k2 (by omega) (by omega)
          have hK1 : x * m' + y = k1 := by omega
          have hK2 : y * m' + x = k2 := by omega
          have hk : ¬ (k1 = k2) := fun e => by
            have := div_mod_uniq (n := m') (i := x) (j := y) (i' := y) (j' := x) (by omega) (by omega) (by rw [hK1, hK2, e])
            omega
          have e0 : w6.cell? ⟨g, k1 * 2, none⟩ = some (.int .i64 (lineD l u x y).1) := by
            obtain ⟨gb, go, ge, _, gc⟩ := rdFr (ff_rd hff6) (by simp; omega)
            simp only [Option.some.injEq, Addr.mk.injEq, and_true] at ge
            obtain ⟨rfl, rfl⟩ := ge
            have := (gc k1 (by simpa using z1)).1
            rw [Nat.zero_add, ← HM.out, ← lineL_eq, ← hK1, (line_at hxn hyn).1, hK1] at this
            exact this
          have e1 : w6.cell? ⟨g, k2 * 2, none⟩ = some (.int .i64 (lineD l u x y).1) := by
            obtain ⟨gb, go, ge, _, gc⟩ := rdFr (ff_rd hff6) (by simp; omega)
            simp only [Option.some.injEq, Addr.mk.injEq, and_true] at ge
            obtain ⟨rfl, rfl⟩ := ge
            have := (gc k2 (by simpa using z2)).1
            rw [Nat.zero_add, ← HM.out, ← lineL_eq, ← hK2, (line_at hyn hxn).1, hK2, lineD_sym] at this
            exact this
          have f0 := World.ownsRow.frozenAt hff6 (k1 * 2)
          have f1 := World.ownsRow.frozenAt hff6 (k2 * 2)
          obtain ⟨V, hV⟩ : ∃ V, (lineD l u x y).1 = V := ⟨_, rfl⟩
          rw [hV] at e0 e1 hv2
          have wv := IntWalk.i64_in (V + 100000) (by omega)
          have HFIN := Lib.hid (lift_set (v := V + 100000) hxn hyn hxy HM.out hK1 hK2 (by rw [hV]) hff6)
          have HB7 := Lib.hid (fun (v1 v2 : Value) => (HB6.out.setCell (p := ⟨g, k1 * 2, none⟩) hg v1).setCell (p := ⟨g, k2 * 2, none⟩) hg v2)
          have HXE := Lib.hid hxy
          clear hm1 hm2 hk1 hk2 hK1 hK2 hff6 hV hxy
          go_wp2_with fail
          refine (ultra_any (some ⟨g, 0, none⟩) m' M M (liftL l u 100000 x y m') _ (by omega) (by omega) (by rw [hlen2.out, HM.out]) (by omega) ?_ hgood2.out.fit).mono ?_
          · have h1 := ff_rd HFIN.out
            rw [← HM.out] at h1
            exact h1
          rintro e w8 ⟨rfl, hb8⟩
          rw [HNO.out]
          have HB8 := Lib.hid (bl_trans (HB7.out _ _) hb8)
          clear hb8
          go_wp2_with fail
          refine (works_any _).mono ?_
          rintro e w12 ⟨rfl, hb12⟩
          have HB12 := Lib.hid (bl_trans HB8.out hb12)
          clear hb12
          go_wp2_with fail
          go_ret
          exact ⟨rfl, HB12.out⟩
end Go.Proofs.YtahgffjkkdbjeaaDoor
