/- The body of the statement GlottoRises, at every input. -/
import Derived.Test.YtahgffjkkdbjeaaDoorPI
import Derived.Test.YtahgffjkkdbjeaaDoorRP
import Derived.Test.YtahgffjkkdbjeaaDoorJB
import Derived.Test.YtahgffjkkdbjeaaDoorZC
import Derived.Test.YtahgffjkkdbjeaaDoorXB
import Derived.Test.YtahgffjkkdbjeaaDoorZF
namespace Go.Proofs.YtahgffjkkdbjeaaDoor
open Go.RowKit
theorem scK_top {d : List Fr} {c i q n m : Nat} (h : GoodD d n q m) (hi : i < n * n) (hs : scK d c i * (fD d i).toNat = (fN d i).toNat * c) : scK d c i ≤ m * c := by
  have h1 := h.num i hi
  have h2 := h.den i hi
  have h3 := h.one
  have h4 : 1 ≤ (fD d i).toNat := by omega
  have h5 : scK d c i * 1 ≤ scK d c i * (fD d i).toNat := Nat.mul_le_mul_left _ h4
  have h6 : (fN d i).toNat * c ≤ m * c := Nat.mul_le_mul_right _ (by omega)
  omega
theorem start_of {d : List Fr} {n q m c : Nat} {g : Nat → Nat} (h : GoodD d n q m) (hc : 0 < c) (hs : ∀ i, i < n * n → scK d c i * (fD d i).toNat = (fN d i).toNat * c) (hg : ∀ i j, i < n → j < n → g (i * 24 + j) = dist d c n i j) (hb : ∀ t, g t ≤ 1073741824) : Start n c (m * c) g := by
  refine ⟨h.one.1, h.one.2.1, hc, hb, fun i j hi hj => ?_, fun i j hi hj _ => ?_⟩
  · rw [hg i j hi hj, hg j i hj hi]
    have h1 := h.sym i j hi hj
    unfold dist scK qN qD
    rw [fr_getD, fr_getD, h1.1, h1.2]
  · rw [hg i j hi hj]
    exact scK_top h (idxLt hi hj) (hs _ (idxLt hi hj))
theorem rep_map (M : Nat) (s : Nat → Nat) (h : ∀ x, x < M → s x = 1) : List.replicate M (1 : Int) = (List.range M).map fun x => (s x : Int) := by
  apply List.ext_getElem?
  intro i
  by_cases hi : i < M
  · simp [hi, h i hi]
  · simp [hi]
/-- The merges of a clustering in the memory. -/
theorem run_fit {n c G : Nat} {g : Nat → Nat} (h : Start n c G g) (hG : G * 576 ≤ 9223372036854775807) (hc : 576 * c ≤ 9223372036854775807) : FitMg (mRun n c g (n - 1)).l := fun i hi => by
  rw [mRun_len] at hi
  have hn := h.n1
  obtain ⟨_, _, h3, h4, _⟩ := mRun_at (n := n) (c := c) (g := g) hi
  have hl := low_bd (hP n c g i) (hQ n c g i) (h.qpos (by omega))
  have hb := h.hbd (k := i) (by omega)
  rw [h3, h4]
  omega
theorem Rd.past {w3 w4 wr : World} {a : Option Addr} {cs : List Value} {S : Nat} (h : Rd w3 a cs) (hb : Below w3.heap.size w3 w4) (hk : But S w4 wr) (hS : w3.heap.size ≤ S) : Rd wr a cs := by
  intro h0
  obtain ⟨b, off, e, hlt, hc⟩ := h h0
  have h1 : b < w4.heap.size := Nat.lt_of_lt_of_le hlt hb.size
  refine ⟨b, off, e, Nat.lt_of_lt_of_le h1 hk.size, fun i hi => ?_⟩
  exact (hk.cell h1 (by omega)).trans ((hb.cell hlt).trans (hc i hi))
theorem jnL_at (l : List Mg) (k : Nat) {n a b : Nat} (ha : a < n) (hb : b < n) : fN (jnL l k n) (a * n + b) = (jnK l k a b).1 ∧ fD (jnL l k n) (a * n + b) = (jnK l k a b).2 := by
  have h := sq_lt ha hb
  obtain ⟨e1, e2⟩ := sq_at (a := a) hb
  simp [fN, fD, jnL, h, jnF, e1, e2]
theorem sizes_next {w : World} {S N : Nat} {s : Nat → Nat} {A B Z : Nat} (h : FS w S N N (fun x => (s x : Int))) (hAB : A < B) (hZ : s A + s B = Z) : FS ((w.setCell ⟨S, A, none⟩ (.int .i64 Z)).setCell ⟨S, B, none⟩ (.int .i64 0)) S N N (fun x => (joinS s A B x : Int)) := by
  refine (FS.set (FS.set h A (Z : Int)) B 0).congr fun x _ => ?_
  unfold upd joinS updN
  by_cases e : x = B
  · rw [if_pos e, if_pos e]; rfl
  · rw [if_neg e, if_neg e]
    by_cases e2 : x = A
    · rw [if_pos e2, if_pos e2, hZ]
    · rw [if_neg e2, if_neg e2]
theorem first_low {P Q c s x y : Nat} (hQ : 0 < Q) (hc : 0 < c) (h : P * c ≤ s * Q) (hs : s * y = x * c) : ¬ x * lowD ((P : Int), (Q : Int)) < lowN ((P : Int), (Q : Int)) * y := by
  simp only [lowN, lowD, Int.toNat_natCast]
  have g1 : 0 < Nat.gcd P Q := Nat.gcd_pos_of_pos_right _ hQ
  have e1 := Nat.div_mul_cancel (Nat.gcd_dvd_left P Q)
  have e2 := Nat.div_mul_cancel (Nat.gcd_dvd_right P Q)
  generalize P / Nat.gcd P Q = a at *
  generalize Q / Nat.gcd P Q = b at *
  generalize Nat.gcd P Q = u at *
  subst e1 e2
  have h1 : a * c ≤ s * b := by
    have h2 : a * c * u ≤ s * b * u := by
      have e3 : a * c * u = a * u * c := by rw [Nat.mul_assoc, Nat.mul_comm c u, ← Nat.mul_assoc]
      have e4 : s * b * u = s * (b * u) := Nat.mul_assoc _ _ _
      omega
    exact Nat.le_of_mul_le_mul_right h2 g1
  have h3 : a * c * y ≤ s * b * y := Nat.mul_le_mul_right _ h1
  have h4 : a * y * c ≤ x * b * c := by
    have e3 : a * c * y = a * y * c := by rw [Nat.mul_assoc, Nat.mul_comm c y, ← Nat.mul_assoc]
    have e4 : s * b * y = x * b * c := by rw [Nat.mul_assoc, Nat.mul_comm b y, ← Nat.mul_assoc, hs, Nat.mul_assoc, Nat.mul_comm c b, ← Nat.mul_assoc]
    omega
  have := Nat.le_of_mul_le_mul_right h4 hc
  omega
set_option maxRecDepth 100000 in
set_option maxHeartbeats 4000000 in
theorem rises_any (N c : Nat) (ct u : Int) (la : Option Addr) (l : List Int) (w : World) (hc0 : 0 ≤ ct) (hc1 : ct ≤ 255) (hu0 : 0 ≤ u) (hu1 : u ≤ 255) (hl : l.length = N) (hN : N ≤ 9223372036854775807) (hA : Rd w la (fl encU l)) (hb : ∀ i, i < N → 0 ≤ uA l i ∧ uA l i ≤ 65535) :
    Calls Tryd.prog 11 #[.int .u8 ct, .slice la N c, .int .u8 u] w fun e w' => e = .returned (.bool true) ∧ Below w.heap.size w w' := by
  obtain ⟨n, hn⟩ : ∃ n : Nat, 1 + ct % 24 = n := ⟨(1 + ct % 24).toNat, by omega⟩
  have hn1 : 1 ≤ n := by omega
  have hn2 : n ≤ 24 := by omega
  have hgood := Lib.hid (far_good (l := l) (by rw [hl]; exact hb) hu0 hn1 hn2)
  have HF := Lib.hid (fun w1 => far_any n N c la l u w1 hn1 (by omega) hl hN hu0 hu1)
  have HA := Lib.hid hA
  have HB := Lib.hid hb
  clear hl hA hb
  obtain ⟨d, hd⟩ : ∃ d, d = farL l u n := ⟨_, rfl⟩
  rw [← hd] at hgood
  have hlen := Lib.hid hgood.out.len
  obtain ⟨M, hM⟩ : ∃ M, n * n = M := ⟨_, rfl⟩
  have HM := Lib.hid hM
  have hM2 : M ≤ 576 := by rw [← hM]; exact Nat.mul_le_mul hn2 hn2
  have HD := Lib.hid hd
  clear hM hd
  obtain ⟨cc, hok1, hcp1, hc16, hs1⟩ := hgood.out.ok
  have HS := Lib.hid (And.intro hok1 hs1)
  clear hok1 hs1
  go_enter Tryd.func11, Tryd.ntmps11
  go_wp2_with fail
  refine (HF.out _ HA.out HB.out).mono ?_
  rintro e w1 ⟨g, rfl, hg, hff, hb1⟩
  rw [HM.out] at hff ⊢
  have hrd := Lib.hid (show Rd w1 (some ⟨g, 0, none⟩) (fl encFr d) by have := ff_rd hff; rw [← HM.out] at this; rw [HD.out]; exact this)
  clear hff
  go_wp2_with fail
  refine (merges_any (some ⟨g, 0, none⟩) n M M d w1 (by omega) (by omega) (by rw [hlen.out, HM.out]) (by omega) hrd.out hgood.out.fit).mono ?_
  rintro e w2 ⟨hb2, ⟨x, hx, _⟩ | ⟨m, c', v, g1, hm, hm1, hm24, hc', rfl, hown1, hg1, hg1b⟩⟩
  · rw [HS.out.1] at hx; cases hx
  obtain rfl : m = n := by omega
  rw [HS.out.1] at hc'
  obtain rfl : cc = c' := by injection hc'
  obtain ⟨ma, mc, rfl, hmb⟩ := owns_slice hown1
  have hst := start_of hgood.out hcp1 HS.out.2 hg1 hg1b
  have HG1 := Lib.hid hg1
  have hG : 65535 * cc ≤ 1048560 := by omega
  obtain ⟨G, hGG⟩ : ∃ G, 65535 * cc = G := ⟨_, rfl⟩
  rw [hGG] at hst hG
  have HST := Lib.hid hst
  have hfit := Lib.hid (run_fit hst (by omega) (by omega))
  obtain ⟨NK, hK⟩ : ∃ NK, m - 1 = NK := ⟨_, rfl⟩
  have HK := Lib.hid hK
  obtain ⟨L, hL⟩ : ∃ L, (mRun m cc g1 (m - 1)).l = L := ⟨_, rfl⟩
  have HLL := Lib.hid hL
  have hLlen : L.length = NK := by rw [← hL, mRun_len, hK]
  have HLlen := Lib.hid hLlen
  rw [hL] at hfit hown1
  rw [hK] at hown1 ⊢
  have HMG := Lib.hid (rd_of_owns hown1)
  have hrd2 := Lib.hid (hrd.out.bl hb2)
  have HB2 := Lib.hid (bl_trans hb1 hb2)
  have hNKb : NK ≤ 23 := by omega
  have hnk1 : NK + 1 = m := by omega
  have HSTEPS := Lib.hid (show StepsOk m L by rw [← hL]; exact hst.steps)
  clear hg1 hg1b hb1 hb2 hmb hst hGG hK hL hLlen hown1 hc'
  go_wp2_with fail
  refine (joined_any ma m NK mc L w2 (by omega) (by omega) HLlen.out (by omega) HMG.out hfit.out).mono ?_
  rintro e w3 ⟨hb3, ⟨x, hx, _⟩ | ⟨m', v, hm', hc', rfl, hown3⟩⟩
  · rw [joinE_ok hn1 hn2 HSTEPS.out] at hx; cases hx
  obtain rfl : m' = m := by omega
  obtain ⟨ja, jc, rfl, hjb⟩ := owns_slice hown3
  rw [HM.out] at hown3 ⊢
  have HJ := Lib.hid (rd_of_owns hown3)
  have HMG3 := Lib.hid (HMG.out.bl hb3)
  have hrd3 := Lib.hid (hrd2.out.bl hb3)
  have HB3 := Lib.hid (bl_trans HB2.out hb3)
  have wn := wrap_nat ((m' : Int) - 1) NK (by omega) (by omega)
  have wm := wrap_nat ((m' : Int) * (m' : Int)) M (by rw [← HM.out]; simp) (by omega)
  clear hb3 hown3 hc' hjb HMG hrd hrd2 HF
  go_wp2_with fail
  have hw1 := Blk.new w3 #[.int .i64 1] 3
  have hba := bl_alloc (Below.refl w3.heap.size w3) (.cells #[.int .i64 1] 3)
  refine (repI_any w3.heap.size 0 1 m' 1 _ hn1 (by omega) (rd_of_blk hw1 (by simp [fl, encI]))).mono ?_
  rintro e w4 ⟨S, rfl, hS, hown4, hb4⟩
  have hfs : FS w4 S m' m' (fun x => ((mRun m' cc g1 0).s x : Int)) := by
    have h1 := owns_mono hown4 (Nat.zero_le _)
    rw [rep_map m' (mRun m' cc g1 0).s (fun x hx => if_pos hx)] at h1
    exact h1
  have hb34 := bl_trans hba hb4
  have HB4 := Lib.hid (bl_trans HB3.out hb34)
  have hSg : Hid (w3.heap.size ≤ S) := Nat.le_trans hba.size hS
  have HB34 := Lib.hid hb34
  have hbz := But.refl S w4
  have hmS : m' ≤ M := by rw [← HM.out]; exact Nat.le_mul_of_pos_left _ hn1
  clear hb34 hb4 hba hown4 hw1 hS
  go_wp2_with fail
  go_loopw [67, 14, 15] (fun x _ _ wr => ∃ k : Nat, k ≤ NK ∧ x = .int .i64 k ∧ FS wr S m' m' (fun x => ((mRun m' cc g1 k).s x : Int)) ∧ But S w4 wr) (fun x _ _ _ => NK - (intOf x).toNat)
  case atStart => exact ⟨0, by omega, rfl, hfs, hbz⟩
  case round =>
    obtain ⟨k, hk, rfl, hfk, hbk⟩ := hrel
    clear hfs hbz
    by_cases hlt : k < NK
    · obtain ⟨p1, p2, p3, p4⟩ := HST.out.pick (show k + 1 < m' by omega)
      have hat := mRun_at (n := m') (c := cc) (g := g1) (show k < m' - 1 by omega)
      rw [HLL.out] at hat
      obtain ⟨a1, a2, a3, a4, a5⟩ := hat
      obtain ⟨b1, o1, hma, hb1l, hcm⟩ := rdMg (HMG3.out.past HB34.out hbk hSg.out) (by rw [HLlen.out]; omega)
      obtain ⟨G0, G1, G2, G3, G4⟩ := hcm k (by rw [HLlen.out]; exact hlt)
      rw [a1] at G0
      rw [a2] at G1
      rw [a3] at G2
      rw [a4] at G3
      rw [a5] at G4
      obtain ⟨b2, o2, hja, hb2l, hcj⟩ := rdFr (HJ.out.past HB34.out hbk hSg.out) (by rw [jnL_len, HM.out]; omega)
      have hix := sq_lt (show mA' m' cc g1 k < m' by omega) p2
      obtain ⟨J0, J1⟩ := hcj (mA' m' cc g1 k * m' + mB' m' cc g1 k) (by rw [jnL_len]; exact hix)
      have hjp := HST.out.jpair (k := k) (by omega)
      unfold jR at hjp
      rw [HLL.out] at hjp
      obtain ⟨e1, e2⟩ := jnL_at L (m' - 1) (show mA' m' cc g1 k < m' by omega) p2
      rw [e1, hjp] at J0
      rw [e2, hjp] at J1
      have S0 := FS.cell hfk (mA' m' cc g1 k) (by omega)
      have S1 := FS.cell hfk (mB' m' cc g1 k) p2
      have f0 := FS.free hfk (mA' m' cc g1 k)
      have f1 := FS.free hfk (mB' m' cc g1 k)
      have hbd := HST.out.hbd (k := k) (by omega)
      have hlow := low_bd (hP m' cc g1 k) (hQ m' cc g1 k) (HST.out.qpos (by omega))
      have HNX : Hid (∀ w Z, FS w S m' m' (fun x => ((mRun m' cc g1 k).s x : Int)) → (mRun m' cc g1 k).s (mA' m' cc g1 k) + (mRun m' cc g1 k).s (mB' m' cc g1 k) = Z → FS ((w.setCell ⟨S, mA' m' cc g1 k, none⟩ (.int .i64 Z)).setCell ⟨S, mB' m' cc g1 k, none⟩ (.int .i64 0)) S m' m' (fun x => ((mRun m' cc g1 (k + 1)).s x : Int))) := fun w Z h hZ => sizes_next h p1 hZ
      have HLS : Hid (0 < k → ∃ pp pq : Nat, mN L (k - 1) = (pp : Int) ∧ mD L (k - 1) = (pq : Int) ∧ ∀ W, Calls Tryd.prog 25 #[.agg #[.int .i64 (lowN ((hP m' cc g1 k : Int), (hQ m' cc g1 k : Int))), .int .i64 (lowD ((hP m' cc g1 k : Int), (hQ m' cc g1 k : Int)))], .agg #[.int .i64 pp, .int .i64 pq]] W fun e w' => e = .returned (.bool false) ∧ Below W.heap.size W w') := fun h0 => by
        have hat := mRun_at (n := m') (c := cc) (g := g1) (show k - 1 < m' - 1 by omega)
        rw [HLL.out] at hat
        obtain ⟨_, _, c3, c4, _⟩ := hat
        refine ⟨_, _, c3, c4, fun W => ?_⟩
        have hbd2 := HST.out.hbd (k := k - 1) (by omega)
        have hlow2 := low_bd (hP m' cc g1 (k - 1)) (hQ m' cc g1 (k - 1)) (HST.out.qpos (by omega))
        have m1 : lowN ((hP m' cc g1 k : Int), (hQ m' cc g1 k : Int)) * lowD ((hP m' cc g1 (k - 1) : Int), (hQ m' cc g1 (k - 1) : Int)) ≤ 1048560 * 576 * (576 * 16) := Nat.mul_le_mul (by omega) (by omega)
        have m2 : lowN ((hP m' cc g1 (k - 1) : Int), (hQ m' cc g1 (k - 1) : Int)) * lowD ((hP m' cc g1 k : Int), (hQ m' cc g1 k : Int)) ≤ 1048560 * 576 * (576 * 16) := Nat.mul_le_mul (by omega) (by omega)
        have h1 := less_any (lowN ((hP m' cc g1 k : Int), (hQ m' cc g1 k : Int))) (lowD ((hP m' cc g1 k : Int), (hQ m' cc g1 k : Int))) (lowN ((hP m' cc g1 (k - 1) : Int), (hQ m' cc g1 (k - 1) : Int))) (lowD ((hP m' cc g1 (k - 1) : Int), (hQ m' cc g1 (k - 1) : Int))) W (by omega) (by omega) (by omega) (by omega) (by omega) (by omega)
        rw [decide_eq_false] at h1
        · exact h1
        · rw [low_cross (HST.out.qpos (by omega)) (HST.out.qpos (by omega))]
          have hr := HST.out.rise (k := k - 1) (by omega)
          rw [show k - 1 + 1 = k by omega] at hr
          omega
      have HCM := Lib.hid hcm
      have HFK := Lib.hid hfk
      clear hcj hjp e1 e2 a1 a2 a3 a4 a5 hcm hfk
      generalize mA' m' cc g1 k = A at *
      generalize mB' m' cc g1 k = B at *
      generalize lowN ((hP m' cc g1 k : Int), (hQ m' cc g1 k : Int)) = p at *
      generalize lowD ((hP m' cc g1 k : Int), (hQ m' cc g1 k : Int)) = q at *
      obtain ⟨sA, hsA⟩ : ∃ sA, (mRun m' cc g1 k).s A = sA := ⟨_, rfl⟩
      obtain ⟨sB, hsB⟩ : ∃ sB, (mRun m' cc g1 k).s B = sB := ⟨_, rfl⟩
      have hsz := (mRun_inv (c := cc) hn2 HST.out.bd k (by omega))
      have hszA := hsz.le A
      have hszB := hsz.le B
      have HNXT := Lib.hid (fun w Z h hZ => HNX.out w Z h hZ)
      rw [hsA] at p3 hszA S0 G4
      rw [hsB] at p4 hszB S1 G4
      obtain ⟨Z, hZ⟩ : ∃ Z, sA + sB = Z := ⟨_, rfl⟩
      rw [hZ] at G4
      obtain ⟨t1, ht1⟩ : ∃ t, A * m' = t := ⟨_, rfl⟩
      rw [ht1] at hix J0 J1
      rw [HM.out] at hix
      obtain ⟨i1, hi1⟩ : ∃ i, t1 + B = i := ⟨_, rfl⟩
      rw [hi1] at hix J0 J1
      have wt := wrap_nat ((A : Int) * (m' : Int)) t1 (by rw [← ht1]; simp) (by omega)
      have wi := wrap_nat ((t1 : Int) + (B : Int)) i1 (by omega) (by omega)
      have wz := wrap_nat ((sA : Int) + (sB : Int)) Z (by omega) (by omega)
      have d1 : decide ((A : Int) < 0) = false := by simp
      have d2 : decide ((B : Int) ≤ (A : Int)) = false := by simp; omega
      have d2n : decide (B ≤ A) = false := by simp; omega
      have d3 : decide ((m' : Int) ≤ (B : Int)) = false := by simp; omega
      have d3n : decide (m' ≤ B) = false := by simp; omega
      have z1 : ((sA : Int) == 0) = false := by simp; omega
      have z2 : ((sB : Int) == 0) = false := by simp; omega
      have d4 : decide ((q : Int) < 1) = false := by simp; omega
      have hg' := guardFr
      have hq := neqFr (p : Int) p q q
      simp only [decide_true, Bool.and_self, Bool.not_true] at hq
      have HSUM := Lib.hid (And.intro hsA (And.intro hsB hZ))
      have HTT := Lib.hid (And.intro ht1 hi1)
      have HBK := Lib.hid hbk
      have HMA := Lib.hid hma
      have HJA := Lib.hid hja
      clear HNX hsz hsA hsB hZ ht1 hi1 hbk
      subst hma hja
      rcases Nat.eq_zero_or_pos k with hk0 | hk0
      · as_aux_lemma =>
          have d5 : decide (0 < (k : Int)) = false := by simp; omega
          have d5n : decide (0 < k) = false := by simp; omega
          have HK0 := Lib.hid hk0
          clear hk0
          go_upto_region 11 with fail
          have hx := Blk.new wr #[.int .i64 A, .int .i64 B, .int .i64 p, .int .i64 q, .int .i64 Z] 42
          have hba := bl_alloc (Below.refl wr.heap.size wr) (.cells #[.int .i64 A, .int .i64 B, .int .i64 p, .int .i64 q, .int .i64 Z] 42)
          have hSX0 := FS.lt HFK.out
          have hb1w : b1 < wr.heap.size := World.block_lt_of_cell? wr _ G0
          have hb2w : b2 < wr.heap.size := World.block_lt_of_cell? wr _ J0
          obtain ⟨X, hX⟩ : ∃ X, X = wr.heap.size := ⟨_, rfl⟩
          obtain ⟨wx, hwx⟩ : ∃ wx, wx = wr.alloc (.cells #[.int .i64 A, .int .i64 B, .int .i64 p, .int .i64 q, .int .i64 Z] 42) := ⟨_, rfl⟩
          rw [← hwx] at hx hba ⊢
          rw [← hX] at hx hSX0 ⊢
          have x0 : wx.cell? ⟨X, 0, none⟩ = some (.int .i64 A) := hx.cell 0
          have x1 : wx.cell? ⟨X, 1, none⟩ = some (.int .i64 B) := hx.cell 1
          have x2 : wx.cell? ⟨X, 2, none⟩ = some (.int .i64 p) := hx.cell 2
          have x3 : wx.cell? ⟨X, 3, none⟩ = some (.int .i64 q) := hx.cell 3
          have x4 : wx.cell? ⟨X, 4, none⟩ = some (.int .i64 Z) := hx.cell 4
          have s0 := (hba.cell (p := ⟨S, A, none⟩) (by rw [← hX]; exact hSX0)).trans S0
          have s1 := (hba.cell (p := ⟨S, B, none⟩) (by rw [← hX]; exact hSX0)).trans S1
          have j0 := (hba.cell (p := ⟨b2, o2 + i1 * 2, none⟩) hb2w).trans J0
          have j1 := (hba.cell (p := ⟨b2, o2 + i1 * 2 + 1, none⟩) hb2w).trans J1
          have HX := Lib.hid hx
          have HBA := Lib.hid hba
          have HSX := Lib.hid hSX0
          clear G0 G1 G2 G3 G4 S0 S1 J0 J1 hx hba hwx hX f0 f1 hSX0
          try simp only [List.append_eq, List.cons_append, List.nil_append]
          go_quiet (fail)
          have hb6 := bl_drewN (Below.refl wx.heap.size wx) nq
          obtain ⟨w6, hw6⟩ : ∃ w6, w6 = wx.drewN nq := ⟨_, rfl⟩
          rw [← hw6] at hb6 ⊢
          clear hw6 x0 x1 x2 x3 x4 s0 s1 j0 j1
          have HFK6 := Lib.hid (FS.below (FS.below HFK.out HBA.out) hb6)
          have HBT := Lib.hid ((HBK.out.trans (But.of_below HBA.out)).trans (But.of_below hb6))
          have HX6 := Lib.hid (HX.out.below hb6)
          have x0 : w6.cell? ⟨X, 0, none⟩ = some (.int .i64 A) := HX6.out.cell 0
          have x1 : w6.cell? ⟨X, 1, none⟩ = some (.int .i64 B) := HX6.out.cell 1
          have x4 : w6.cell? ⟨X, 4, none⟩ = some (.int .i64 Z) := HX6.out.cell 4
          have s0 := FS.cell HFK6.out A (by omega)
          have s1 := FS.cell HFK6.out B (by omega)
          have f0 := FS.free HFK6.out A
          have f1 := FS.free HFK6.out B
          have n1 : ¬ (X = S) := by have := HSX.out; omega
          have n2 : ¬ (S = X) := by have := HSX.out; omega
          have n3 : ¬ (A = B) := by omega
          have n4 : ¬ (B = A) := by omega
          clear hb6
          go_upto_region 13 with fail
          go_region
          go_wp2_with fail
          go_roundw
          case rel => exact ⟨k + 1, by omega, by go_num, (HNXT.out w6 Z HFK6.out (by rw [HSUM.out.1, HSUM.out.2.1]; exact HSUM.out.2.2)).drewN 1, ((HBT.out.set A _).set B _).drewN 1⟩
          case measure => simp [intOf]; omega
      · as_aux_lemma =>
          have d5 : decide (0 < (k : Int)) = true := by simp; omega
          have d5n : decide (0 < k) = true := by simp; omega
          obtain ⟨pp, pq, m1, m2, HL1⟩ := HLS.out hk0
          obtain ⟨_, _, G5, G6, _⟩ := HCM.out (k - 1) (by rw [HLlen.out]; omega)
          rw [m1] at G5
          rw [m2] at G6
          have wk := wrap_nat ((k : Int) - 1) (k - 1) (by omega) (by omega)
          have HL2 := Lib.hid HL1
          clear m1 m2 HL1
          go_upto_region 11 with fail
          have hx := Blk.new wr #[.int .i64 A, .int .i64 B, .int .i64 p, .int .i64 q, .int .i64 Z] 42
          have hba := bl_alloc (Below.refl wr.heap.size wr) (.cells #[.int .i64 A, .int .i64 B, .int .i64 p, .int .i64 q, .int .i64 Z] 42)
          have hSX0 := FS.lt HFK.out
          have hb1w : b1 < wr.heap.size := World.block_lt_of_cell? wr _ G0
          have hb2w : b2 < wr.heap.size := World.block_lt_of_cell? wr _ J0
          obtain ⟨X, hX⟩ : ∃ X, X = wr.heap.size := ⟨_, rfl⟩
          obtain ⟨wx, hwx⟩ : ∃ wx, wx = wr.alloc (.cells #[.int .i64 A, .int .i64 B, .int .i64 p, .int .i64 q, .int .i64 Z] 42) := ⟨_, rfl⟩
          rw [← hwx] at hx hba ⊢
          rw [← hX] at hx hSX0 ⊢
          have x0 : wx.cell? ⟨X, 0, none⟩ = some (.int .i64 A) := hx.cell 0
          have x1 : wx.cell? ⟨X, 1, none⟩ = some (.int .i64 B) := hx.cell 1
          have x2 : wx.cell? ⟨X, 2, none⟩ = some (.int .i64 p) := hx.cell 2
          have x3 : wx.cell? ⟨X, 3, none⟩ = some (.int .i64 q) := hx.cell 3
          have x4 : wx.cell? ⟨X, 4, none⟩ = some (.int .i64 Z) := hx.cell 4
          have s0 := (hba.cell (p := ⟨S, A, none⟩) (by rw [← hX]; exact hSX0)).trans S0
          have s1 := (hba.cell (p := ⟨S, B, none⟩) (by rw [← hX]; exact hSX0)).trans S1
          have j0 := (hba.cell (p := ⟨b2, o2 + i1 * 2, none⟩) hb2w).trans J0
          have j1 := (hba.cell (p := ⟨b2, o2 + i1 * 2 + 1, none⟩) hb2w).trans J1
          have g5 := (hba.cell (p := ⟨b1, o1 + (k - 1) * 5 + 2, none⟩) hb1w).trans G5
          have g6 := (hba.cell (p := ⟨b1, o1 + (k - 1) * 5 + 3, none⟩) hb1w).trans G6
          have y0 := wb_cell x0 (World.block_lt_of_cell? wx _ x0)
          have y1 := wb_cell x1 (World.block_lt_of_cell? wx _ x1)
          have y2 := wb_cell x2 (World.block_lt_of_cell? wx _ x2)
          have y3 := wb_cell x3 (World.block_lt_of_cell? wx _ x3)
          have y4 := wb_cell x4 (World.block_lt_of_cell? wx _ x4)
          have y5 := wb_cell s0 (World.block_lt_of_cell? wx _ s0)
          have y6 := wb_cell s1 (World.block_lt_of_cell? wx _ s1)
          have y7 := wb_cell j0 (World.block_lt_of_cell? wx _ j0)
          have y8 := wb_cell j1 (World.block_lt_of_cell? wx _ j1)
          have y9 := wb_cell g5 (World.block_lt_of_cell? wx _ g5)
          have y10 := wb_cell g6 (World.block_lt_of_cell? wx _ g6)
          have HX := Lib.hid hx
          have HBA := Lib.hid hba
          have HSX := Lib.hid hSX0
          clear G0 G1 G2 G3 G4 S0 S1 J0 J1 hx hba hwx hX f0 f1 hSX0 G5 G6 x0 x1 x2 x3 x4 s0 s1 j0 j1 g5 g6
          try simp only [List.append_eq, List.cons_append, List.nil_append]
          refine wp_quiet_wb (by kernel_rfl) (by kernel_rfl) ?_
          repeat (go_big_quiet_step ((go_at_call 25; exact quiet_of_wb (HL2.out _))))
          refine wpQuiet_nil ?_
          rintro _ ⟨⟨wq, hb6⟩, rfl⟩
          rename_i w6
          clear y0 y1 y2 y3 y4 y5 y6 y7 y8 y9 y10
          have HFK6 := Lib.hid (FS.below (FS.below HFK.out HBA.out) hb6)
          have HBT := Lib.hid ((HBK.out.trans (But.of_below HBA.out)).trans (But.of_below hb6))
          have HX6 := Lib.hid (HX.out.below hb6)
          have x0 : w6.cell? ⟨X, 0, none⟩ = some (.int .i64 A) := HX6.out.cell 0
          have x1 : w6.cell? ⟨X, 1, none⟩ = some (.int .i64 B) := HX6.out.cell 1
          have x4 : w6.cell? ⟨X, 4, none⟩ = some (.int .i64 Z) := HX6.out.cell 4
          have s0 := FS.cell HFK6.out A (by omega)
          have s1 := FS.cell HFK6.out B (by omega)
          have f0 := FS.free HFK6.out A
          have f1 := FS.free HFK6.out B
          have n1 : ¬ (X = S) := by have := HSX.out; omega
          have n2 : ¬ (S = X) := by have := HSX.out; omega
          have n3 : ¬ (A = B) := by omega
          have n4 : ¬ (B = A) := by omega
          clear hb6
          go_upto_region 13 with fail
          go_region
          go_wp2_with fail
          go_roundw
          case rel => exact ⟨k + 1, by omega, by go_num, (HNXT.out w6 Z HFK6.out (by rw [HSUM.out.1, HSUM.out.2.1]; exact HSUM.out.2.2)).drewN 1, ((HBT.out.set A _).set B _).drewN 1⟩
          case measure => simp [intOf]; omega
    · have HSZ0 := Lib.hid (show (mRun m' cc g1 k).s 0 = m' by
        have h1 := HST.out.endS.1
        rw [show m' - 1 = k by have := HK.out; omega] at h1
        exact h1)
      have S0 := FS.cell hfk 0 (by omega)
      rw [HSZ0.out] at S0
      obtain ⟨b2, o2, hja, hb2l, hcj⟩ := rdFr (HJ.out.past HB34.out hbk hSg.out) (by rw [jnL_len, HM.out]; omega)
      have HMG5 := Lib.hid (HMG3.out.past HB34.out hbk hSg.out)
      have hrd5 := Lib.hid (hrd3.out.past HB34.out hbk hSg.out)
      have HB5 := Lib.hid (HB4.out.trans (hbk.below HB4.out.size (Nat.le_trans HB3.out.size hSg.out)))
      have HCJ : Hid (∀ a b, a < m' → b < m' → ∀ wq, Below wr.heap.size wr wq → ∃ p q : Nat, jR m' cc g1 a b = ((p : Int), (q : Int)) ∧ p ≤ G * 576 ∧ 1 ≤ q ∧ q ≤ 576 * cc ∧ wq.cell? ⟨b2, o2 + (a * m' + b) * 2, none⟩ = some (.int .i64 p) ∧ wq.cell? ⟨b2, o2 + (a * m' + b) * 2 + 1, none⟩ = some (.int .i64 q)) := fun a b ha hb' wq hbq => by
        obtain ⟨p, q, h1, h2, h3, h4⟩ := HST.out.jbd a b
        obtain ⟨J0, J1⟩ := hcj (a * m' + b) (by rw [jnL_len]; exact sq_lt ha hb')
        obtain ⟨e1, e2⟩ := jnL_at L (m' - 1) ha hb'
        have hjp : jnK L (m' - 1) a b = ((p : Int), (q : Int)) := by
          have h5 := h1
          unfold jR at h5
          rw [HLL.out] at h5
          exact h5
        rw [e1, hjp] at J0
        rw [e2, hjp] at J1
        exact ⟨p, q, h1, h2, h3, h4, (hbq.cell hb2l).trans J0, (hbq.cell hb2l).trans J1⟩
      have HU : Hid (∀ a b x, a < m' → b < m' → x < m' → ∀ p q p1 q1 p2 q2 : Nat, jR m' cc g1 a b = ((p : Int), (q : Int)) → jR m' cc g1 a x = ((p1 : Int), (q1 : Int)) → jR m' cc g1 b x = ((p2 : Int), (q2 : Int)) → p1 * q < p * q1 → p2 * q < p * q2 → False) := fun a b x ha hb' hx p q p1 q1 p2 q2 e0 e1 e2 l1 l2 => by
        refine HST.out.ultra ha hb' hx ⟨?_, ?_⟩
        · rw [e0, e1]; unfold ltF; simp only [← Int.natCast_mul]; omega
        · rw [e0, e2]; unfold ltF; simp only [← Int.natCast_mul]; omega
      clear hcj hfk hbk HMG3 hrd3 HJ HB34 hSg
      subst hja
      obtain ⟨w5, rfl⟩ : ∃ w5 : World, w5 = wr := ⟨_, rfl⟩
      have hbz := Below.refl w5.heap.size w5
      go_wp2_with fail
      go_loopw [173, 16] (fun x _ wr => ∃ a : Nat, a ≤ m' ∧ x = .int .i64 a ∧ Below w5.heap.size w5 wr) (fun x _ _ => m' - (intOf x).toNat)
      case atStart => exact ⟨0, by omega, rfl, hbz⟩
      case round =>
        obtain ⟨a, ha, rfl, hba⟩ := hrel
        clear hbz S0
        by_cases hlt2 : a < m'
        · as_aux_lemma =>
            obtain ⟨p, q, ej, _, _, _, J0, J1⟩ := HCJ.out a a hlt2 hlt2 wr hba
            rw [HST.out.jdiag a] at ej
            have ep : ((p : Nat) : Int) = 0 := (congrArg Prod.fst ej).symm
            have eq : ((q : Nat) : Int) = 1 := (congrArg Prod.snd ej).symm
            rw [ep] at J0
            rw [eq] at J1
            have hix := sq_lt hlt2 hlt2
            rw [HM.out] at hix
            obtain ⟨t1, ht1⟩ : ∃ t, a * m' = t := ⟨_, rfl⟩
            rw [ht1] at J0 J1 hix
            obtain ⟨i1, hi1⟩ : ∃ i, t1 + a = i := ⟨_, rfl⟩
            rw [hi1] at J0 J1 hix
            have wt := wrap_nat ((a : Int) * (m' : Int)) t1 (by rw [← ht1]; simp) (by omega)
            have wi := wrap_nat ((t1 : Int) + (a : Int)) i1 (by omega) (by omega)
            have hg' := guardFr
            have hq := neqFr 0 0 1 1
            simp only [decide_true, Bool.and_self, Bool.not_true] at hq
            clear ej ep eq ht1 hi1
            obtain ⟨w6, rfl⟩ : ∃ w6 : World, w6 = wr := ⟨_, rfl⟩
            go_wp2_with fail
            clear J0 J1 wt wi hq hix
            go_loopw [187, 17] (fun x _ wr => ∃ b : Nat, b ≤ a ∧ x = .int .i64 b ∧ Below w5.heap.size w5 wr) (fun x _ _ => a - (intOf x).toNat)
            case atStart => exact ⟨0, by omega, rfl, hba⟩
            case round =>
              clear hba
              obtain ⟨b, hb', rfl, hbb⟩ := hrel
              by_cases hlt3 : b < a
              · obtain ⟨p, q, ej, hp, hq1, hq2, J0, J1⟩ := HCJ.out a b hlt2 (by omega) wr hbb
                obtain ⟨p', q', ej', _, _, _, J2, J3⟩ := HCJ.out b a (by omega) hlt2 wr hbb
                rw [jR_comm, ej] at ej'
                obtain rfl : p' = p := by have := congrArg Prod.fst ej'; simp at this; omega
                obtain rfl : q' = q := by have := congrArg Prod.snd ej'; simp at this; omega
                have hix := sq_lt hlt2 (show b < m' by omega)
                have hiy := sq_lt (show b < m' by omega) hlt2
                rw [HM.out] at hix hiy
                obtain ⟨t1, ht1⟩ : ∃ t, a * m' = t := ⟨_, rfl⟩
                obtain ⟨t2, ht2⟩ : ∃ t, b * m' = t := ⟨_, rfl⟩
                rw [ht1] at J0 J1 hix
                rw [ht2] at J2 J3 hiy
                obtain ⟨i1, hi1⟩ : ∃ i, t1 + b = i := ⟨_, rfl⟩
                obtain ⟨i2, hi2⟩ : ∃ i, t2 + a = i := ⟨_, rfl⟩
                rw [hi1] at J0 J1 hix
                rw [hi2] at J2 J3 hiy
                have wt := wrap_nat ((a : Int) * (m' : Int)) t1 (by rw [← ht1]; simp) (by omega)
                have wu := wrap_nat ((b : Int) * (m' : Int)) t2 (by rw [← ht2]; simp) (by omega)
                have wi := wrap_nat ((t1 : Int) + (b : Int)) i1 (by omega) (by omega)
                have wj := wrap_nat ((t2 : Int) + (a : Int)) i2 (by omega) (by omega)
                have hg' := guardFr
                have hq := neqFr (p' : Int) p' q' q'
                simp only [decide_true, Bool.and_self, Bool.not_true] at hq
                have HT := Lib.hid (And.intro ht1 (And.intro ht2 (And.intro hi1 hi2)))
                have HEJ := Lib.hid ej
                clear ej ej' ht1 ht2 hi1 hi2
                go_upto_region 25 with fail
                go_quiet (fail)
                obtain ⟨w7, hw7⟩ : ∃ w7, w7 = wr.drewN nq := ⟨_, rfl⟩
                have hb7 : Below w5.heap.size w5 w7 := by rw [hw7]; exact bl_drewN hbb nq
                rw [← hw7]
                clear hw7 J0 J1 J2 J3 hq wj hbb
                go_wp2_with fail
                go_loopw [208, 18] (fun x _ wr => ∃ z : Nat, z ≤ m' ∧ x = .int .i64 z ∧ Below w5.heap.size w5 wr) (fun x _ _ => m' - (intOf x).toNat)
                case atStart => exact ⟨0, by omega, rfl, hb7⟩
                case round =>
                  clear hb7
                  obtain ⟨z, hz, rfl, hbz⟩ := hrel
                  by_cases hlt4 : z < m'
                  · obtain ⟨px, qx, ej, _, _, _, J0, J1⟩ := HCJ.out a b hlt2 (by omega) wr hbz
                    rw [HEJ.out] at ej
                    obtain rfl : p' = px := by have := congrArg Prod.fst ej; simp at this; omega
                    obtain rfl : q' = qx := by have := congrArg Prod.snd ej; simp at this; omega
                    obtain ⟨p1, q1, ej1, h11, h12, h13, J2, J3⟩ := HCJ.out a z hlt2 hlt4 wr hbz
                    obtain ⟨p2, q2, ej2, h21, h22, h23, J4, J5⟩ := HCJ.out b z (by omega) hlt4 wr hbz
                    have HNO := Lib.hid (HU.out a b z hlt2 (by omega) hlt4 p' q' p1 q1 p2 q2 HEJ.out ej1 ej2)
                    have hiz := sq_lt hlt2 hlt4
                    have hiw := sq_lt (show b < m' by omega) hlt4
                    rw [HM.out] at hiz hiw
                    rw [HT.out.1] at J0 J1 J2 J3 hiz
                    rw [HT.out.2.1] at J4 J5 hiw
                    rw [HT.out.2.2.1] at J0 J1
                    obtain ⟨i3, hi3⟩ : ∃ i, t1 + z = i := ⟨_, rfl⟩
                    obtain ⟨i4, hi4⟩ : ∃ i, t2 + z = i := ⟨_, rfl⟩
                    rw [hi3] at J2 J3 hiz
                    rw [hi4] at J4 J5 hiw
                    have wj := wrap_nat ((t1 : Int) + (z : Int)) i3 (by omega) (by omega)
                    have wk := wrap_nat ((t2 : Int) + (z : Int)) i4 (by omega) (by omega)
                    have l1 : p1 * q' ≤ 1048560 * 576 * (576 * 16) := Nat.mul_le_mul (by omega) (by omega)
                    have l2 : p' * q1 ≤ 1048560 * 576 * (576 * 16) := Nat.mul_le_mul (by omega) (by omega)
                    have l3 : p2 * q' ≤ 1048560 * 576 * (576 * 16) := Nat.mul_le_mul (by omega) (by omega)
                    have l4 : p' * q2 ≤ 1048560 * 576 * (576 * 16) := Nat.mul_le_mul (by omega) (by omega)
                    have hl1 := fun W => less_any p1 q1 p' q' W (by omega) (by omega) (by omega) (by omega) (by omega) (by omega)
                    have hl2 := fun W => less_any p2 q2 p' q' W (by omega) (by omega) (by omega) (by omega) (by omega) (by omega)
                    have y0 := wb_cell J0 (World.block_lt_of_cell? wr _ J0)
                    have y1 := wb_cell J1 (World.block_lt_of_cell? wr _ J1)
                    have y2 := wb_cell J2 (World.block_lt_of_cell? wr _ J2)
                    have y3 := wb_cell J3 (World.block_lt_of_cell? wr _ J3)
                    have y4 := wb_cell J4 (World.block_lt_of_cell? wr _ J4)
                    have y5 := wb_cell J5 (World.block_lt_of_cell? wr _ J5)
                    have HY := Lib.hid (And.intro y0 (And.intro y1 (And.intro y2 (And.intro y3 (And.intro y4 y5)))))
                    have HL1 := Lib.hid hl1
                    have HL2 := Lib.hid hl2
                    clear ej ej1 ej2 hi3 hi4 l1 l2 l3 l4 hl1 hl2 J0 J1 J2 J3 J4 J5 y0 y1 y2 y3 y4 y5
                    by_cases hc1' : p1 * q' < p' * q1
                    · have HLT : Hid (∀ W, Calls Tryd.prog 25 #[.agg #[.int .i64 p1, .int .i64 q1], .agg #[.int .i64 p', .int .i64 q']] W fun e w' => e = .returned (.bool true) ∧ Below W.heap.size W w') := fun W => by
                        have h2 := HL1.out W
                        rw [decide_eq_true hc1'] at h2
                        exact h2
                      have HLF : Hid (∀ W, Calls Tryd.prog 25 #[.agg #[.int .i64 p2, .int .i64 q2], .agg #[.int .i64 p', .int .i64 q']] W fun e w' => e = .returned (.bool false) ∧ Below W.heap.size W w') := fun W => by
                        have h2 := HL2.out W
                        rw [decide_eq_false (fun h => HNO.out hc1' h)] at h2
                        exact h2
                      clear hc1'
                      go_upto_region 30 with fail
                      obtain ⟨y0, y1, y2, y3, y4, y5⟩ := HY.out
                      refine wp_quiet_wb (by kernel_rfl) (by kernel_rfl) ?_
                      repeat (go_big_quiet_step (fail))
                      go_big_quiet_step ((go_at_call 25; exact quiet_of_wb (HLT.out _)))
                      repeat (go_big_quiet_step ((go_at_call 25; exact quiet_of_wb (HLF.out _))))
                      refine wpQuiet_nil ?_
                      rintro _ ⟨⟨wq, hbq⟩, rfl⟩
                      have hb8 := hbz.trans (hbq.mono hbz.size)
                      clear y0 y1 y2 y3 y4 y5
                      go_wp2_with fail
                      go_roundw
                      case rel => exact ⟨z + 1, by omega, by go_num, hb8⟩
                      case measure => simp [intOf]; omega
                    · have HLF : Hid (∀ W, Calls Tryd.prog 25 #[.agg #[.int .i64 p1, .int .i64 q1], .agg #[.int .i64 p', .int .i64 q']] W fun e w' => e = .returned (.bool false) ∧ Below W.heap.size W w') := fun W => by
                        have h2 := HL1.out W
                        rw [decide_eq_false hc1'] at h2
                        exact h2
                      clear hc1'
                      go_upto_region 30 with fail
                      obtain ⟨y0, y1, y2, y3, y4, y5⟩ := HY.out
                      refine wp_quiet_wb (by kernel_rfl) (by kernel_rfl) ?_
                      repeat (go_big_quiet_step ((go_at_call 25; exact quiet_of_wb (HLF.out _))))
                      refine wpQuiet_nil ?_
                      rintro _ ⟨⟨wq, hbq⟩, rfl⟩
                      have hb8 := hbz.trans (hbq.mono hbz.size)
                      clear y0 y1 y2 y3 y4 y5
                      go_wp2_with fail
                      go_roundw
                      case rel => exact ⟨z + 1, by omega, by go_num, hb8⟩
                      case measure => simp [intOf]; omega
                  · go_wp2_with fail
                    go_roundw
                    case rel => exact ⟨b + 1, by omega, by go_num, hbz⟩
                    case measure => simp [intOf]; omega
              · go_wp2_with fail
                go_roundw
                case rel => exact ⟨a + 1, by omega, by go_num, hbb⟩
                case measure => simp [intOf]; omega
        · as_aux_lemma =>
            have HB6 := Lib.hid (HB5.out.trans (hba.mono HB5.out.size))
            obtain ⟨w6, rfl⟩ : ∃ w6 : World, w6 = wr := ⟨_, rfl⟩
            have hbz6 := Below.refl w6.heap.size w6
            by_cases h1 : 1 < m'
            · have q1 : decide (1 < (m' : Int)) = true := by simp; omega
              have q1n : decide (1 < m') = true := by simp; omega
              have hat := mRun_at (n := m') (c := cc) (g := g1) (show 0 < m' - 1 by omega)
              rw [HLL.out] at hat
              obtain ⟨_, _, a3, a4, _⟩ := hat
              obtain ⟨b1, o1, hma, hb1l, hcm⟩ := rdMg (HMG5.out.bl hba) (by rw [HLlen.out]; omega)
              obtain ⟨_, _, G2, G3, _⟩ := hcm 0 (by rw [HLlen.out]; omega)
              rw [a3] at G2
              rw [a4] at G3
              simp only [Nat.zero_mul, Nat.add_zero] at G2 G3
              have hlow := low_bd (hP m' cc g1 0) (hQ m' cc g1 0) (HST.out.qpos (by omega))
              have hbd := HST.out.hbd (k := 0) (by omega)
              have HFI : Hid (∀ i j, i < m' → j < m' → i ≠ j → ∀ x y : Nat, (fN d (i * m' + j)) = (x : Int) → fD d (i * m' + j) = (y : Int) → ¬ x * lowD ((hP m' cc g1 0 : Int), (hQ m' cc g1 0 : Int)) < lowN ((hP m' cc g1 0 : Int), (hQ m' cc g1 0 : Int)) * y) := fun i j hi hj hij x y ex ey => by
                have f1 := HST.out.first h1 hi hj hij
                rw [HG1.out i j hi hj] at f1
                have f2 := HS.out.2 _ (sq_lt hi hj)
                rw [ex, ey, Int.toNat_natCast, Int.toNat_natCast] at f2
                exact first_low (HST.out.qpos (by omega)) hcp1 f1 f2
              have HRD6 := Lib.hid (hrd5.out.bl hba)
              clear a3 a4 hcm hba
              generalize lowN ((hP m' cc g1 0 : Int), (hQ m' cc g1 0 : Int)) = p at *
              generalize lowD ((hP m' cc g1 0 : Int), (hQ m' cc g1 0 : Int)) = q at *
              subst hma
              go_wp2_with fail
              go_loopw [253, 19] (fun x _ wr => ∃ a : Nat, a ≤ m' ∧ x = .int .i64 a ∧ Below w6.heap.size w6 wr) (fun x _ _ => m' - (intOf x).toNat)
              case atStart => exact ⟨0, by omega, rfl, hbz6⟩
              case round =>
                clear hbz6
                obtain ⟨a, ha, rfl, hba⟩ := hrel
                by_cases hlt2 : a < m'
                · go_wp2_with fail
                  go_loopw [257, 20] (fun x _ wr => ∃ b : Nat, b ≤ a ∧ x = .int .i64 b ∧ Below w6.heap.size w6 wr) (fun x _ _ => a - (intOf x).toNat)
                  case atStart => exact ⟨0, by omega, rfl, hba⟩
                  case round =>
                    clear hba
                    obtain ⟨b, hb', rfl, hbb⟩ := hrel
                    by_cases hlt3 : b < a
                    · have hix := sq_lt hlt2 (show b < m' by omega)
                      obtain ⟨gb, go, ge, _, gc⟩ := rdFr (HRD6.out.bl hbb) (by rw [hlen.out, HM.out]; omega)
                      simp only [Option.some.injEq, Addr.mk.injEq, and_true] at ge
                      obtain ⟨rfl, rfl⟩ := ge
                      obtain ⟨J0, J1⟩ := gc (a * m' + b) (by rw [hlen.out]; exact hix)
                      have hnum := hgood.out.num _ hix
                      have hden := hgood.out.den _ hix
                      have hone := hgood.out.one
                      have HX := Lib.hid (HFI.out a b hlt2 (by omega) (by omega))
                      rw [Nat.zero_add] at J0 J1
                      obtain ⟨x, hx⟩ : ∃ x : Nat, fN d (a * m' + b) = x := ⟨(fN d (a * m' + b)).toNat, by omega⟩
                      obtain ⟨y, hy⟩ : ∃ y : Nat, fD d (a * m' + b) = y := ⟨(fD d (a * m' + b)).toNat, by omega⟩
                      have hno := HX.out x y hx hy
                      rw [hx] at J0 hnum
                      rw [hy] at J1 hden
                      obtain ⟨t1, ht1⟩ : ∃ t, a * m' = t := ⟨_, rfl⟩
                      rw [HM.out] at hix
                      rw [ht1] at J0 J1 hix
                      obtain ⟨i1, hi1⟩ : ∃ i, t1 + b = i := ⟨_, rfl⟩
                      rw [hi1] at J0 J1 hix
                      have wt := wrap_nat ((a : Int) * (m' : Int)) t1 (by rw [← ht1]; simp) (by omega)
                      have wi := wrap_nat ((t1 : Int) + (b : Int)) i1 (by omega) (by omega)
                      have l1 : x * q ≤ 65535 * (576 * 16) := Nat.mul_le_mul (by omega) (by omega)
                      have l2 : p * y ≤ 1048560 * 576 * 16 := Nat.mul_le_mul (by omega) (by omega)
                      have HLF : Hid (∀ W, Calls Tryd.prog 25 #[.agg #[.int .i64 x, .int .i64 y], .agg #[.int .i64 p, .int .i64 q]] W fun e w' => e = .returned (.bool false) ∧ Below W.heap.size W w') := fun W => by
                        have h2 := less_any x y p q W (by omega) (by omega) (by omega) (by omega) (by omega) (by omega)
                        rw [decide_eq_false hno] at h2
                        exact h2
                      have g2 := (hbb.cell (p := ⟨b1, o1 + 2, none⟩) hb1l).trans G2
                      have g3 := (hbb.cell (p := ⟨b1, o1 + 3, none⟩) hb1l).trans G3
                      have y0 := wb_cell J0 (World.block_lt_of_cell? wr _ J0)
                      have y1 := wb_cell J1 (World.block_lt_of_cell? wr _ J1)
                      have y2 := wb_cell g2 (World.block_lt_of_cell? wr _ g2)
                      have y3 := wb_cell g3 (World.block_lt_of_cell? wr _ g3)
                      have HY := Lib.hid (And.intro y0 (And.intro y1 (And.intro y2 y3)))
                      clear gc hx hy ht1 hi1 hno l1 l2 g2 g3 J0 J1 y0 y1 y2 y3 hnum hden
                      go_upto_region 42 with fail
                      obtain ⟨y0, y1, y2, y3⟩ := HY.out
                      refine wp_quiet_wb (by kernel_rfl) (by kernel_rfl) ?_
                      repeat (go_big_quiet_step ((go_at_call 25; exact quiet_of_wb (HLF.out _))))
                      refine wpQuiet_nil ?_
                      rintro _ ⟨⟨wq, hbq⟩, rfl⟩
                      have hb8 := hbb.trans (hbq.mono hbb.size)
                      clear y0 y1 y2 y3
                      go_wp2_with fail
                      go_roundw
                      case rel => exact ⟨b + 1, by omega, by go_num, hb8⟩
                      case measure => simp [intOf]; omega
                    · go_wp2_with fail
                      go_roundw
                      case rel => exact ⟨a + 1, by omega, by go_num, hbb⟩
                      case measure => simp [intOf]; omega
                · go_wp2_with fail
                  refine (works_any _).mono ?_
                  rintro e w12 ⟨rfl, hb12⟩
                  have HB12 := Lib.hid ((HB6.out.trans (hba.mono HB6.out.size)).trans (hb12.mono (Nat.le_trans HB6.out.size hba.size)))
                  clear hb12 hba
                  go_wp2_with fail
                  go_ret
                  exact ⟨rfl, HB12.out⟩
            · have q1 : decide (1 < (m' : Int)) = false := by simp; omega
              have q1n : decide (1 < m') = false := by simp; omega
              go_wp2_with fail
              refine (works_any _).mono ?_
              rintro e w12 ⟨rfl, hb12⟩
              have HB12 := Lib.hid (HB6.out.trans (hb12.mono HB6.out.size))
              clear hb12 hba
              go_wp2_with fail
              go_ret
              exact ⟨rfl, HB12.out⟩
end Go.Proofs.YtahgffjkkdbjeaaDoor
