/- The body of the statement GlottoRanks, at every input. -/
import Derived.Test.YtahgffjkkdbjeaaDoorZC
import Derived.Test.YtahgffjkkdbjeaaDoorZD
namespace Go.Proofs.YtahgffjkkdbjeaaDoor
open Go.RowKit
/-- A slice of bools of the call's own: a block known whole. -/
def seenC (s : Nat → Bool) (i : Nat) : Value := .bool (s i)
def updB (s : Nat → Bool) (p : Nat) : Nat → Bool := fun q => if q = p then true else s q
theorem seen_set {w : World} {B n : Nat} {s : Nat → Bool} (h : Blk w B (ofF n (seenC s)) 4) (p : Nat) : Blk (w.setCell ⟨B, p, none⟩ (.bool true)) B (ofF n (seenC (updB s p))) 4 := by
  have := h.setF p (.bool true)
  rw [ofF_congr (g' := seenC (updB s p))] at this
  · exact this
  · intro i _
    unfold seenC updB
    by_cases e : i = p
    · rw [if_pos e, if_pos e]
    · rw [if_neg e, if_neg e]
theorem seen_made (n : Nat) : madeCells #[Value.bool false] n = ofF n (seenC fun _ => false) := by
  apply Array.ext
  · simp [madeCells, ofF]
  · intro i h1 h2
    simp [madeCells, ofF, seenC, Nat.mod_one]
theorem ff_rd {w : World} {base g N : Nat} {F : Nat → Fr} (h : FF w base g N N F) : Rd w (some ⟨g, 0, none⟩) (fl encFr ((List.range N).map F)) := rd_of_owns h
theorem info4 : (Tryd.prog.info? 4).map (fun i => (i.zero, i.size, i.bytes)) = some (some (.bool false), 1, 1) := by kernel_rfl
theorem ltK_irr2 {K : Nat → Nat} {x y : Nat} (h : ltK K x y) (k : ltK K y x) : False := by unfold ltK at *; omega
theorem ltK_self2 {K : Nat → Nat} {x : Nat} (h : ltK K x x) : False := by unfold ltK at *; omega
/-- There is one sorted row. -/
theorem RkRow.uniq2 {d : List Fr} {c m y : Nat} {f g : Nat → Nat} (hf : RkRow d c m y f) (hg : RkRow d c m y g) : ∀ p, p < m → f p = g p := by
  intro p
  induction p using Nat.strongRecOn with
  | _ p ih =>
    intro hp
    have hr : ∃ r, r < m ∧ g r = f p := by
      have h1 := (hf.same.2 (f p)).1 ⟨p, ⟨Nat.zero_le _, hp⟩, rfl⟩
      obtain ⟨r, hr, e⟩ := (hg.same.2 (f p)).2 h1
      exact ⟨r, hr.2, e⟩
    have hs : ∃ s, s < m ∧ f s = g p := by
      have h1 := (hg.same.2 (g p)).1 ⟨p, ⟨Nat.zero_le _, hp⟩, rfl⟩
      obtain ⟨r, hr, e⟩ := (hf.same.2 (g p)).2 h1
      exact ⟨r, hr.2, e⟩
    obtain ⟨r, hr, er⟩ := hr
    obtain ⟨s, hs, es⟩ := hs
    have hrp : p ≤ r := by
      rcases Nat.lt_or_ge r p with h | h
      · have := hf.srt r p (Nat.zero_le _) h hp
        rw [ih r h hr, er] at this
        exact (ltK_self2 this).elim
      · exact h
    have hsp : p ≤ s := by
      rcases Nat.lt_or_ge s p with h | h
      · have := hg.srt s p (Nat.zero_le _) h hp
        rw [← ih s h hs, es] at this
        exact (ltK_self2 this).elim
      · exact h
    rcases Nat.lt_or_ge p r with h | h
    · have h1 := hg.srt p r (Nat.zero_le _) h hr
      rw [er] at h1
      rcases Nat.lt_or_ge p s with h2 | h2
      · have h3 := hf.srt p s (Nat.zero_le _) h2 hs
        rw [es] at h3
        exact (ltK_irr2 h1 h3).elim
      · obtain rfl : s = p := by omega
        rw [es] at h1
        exact (ltK_self2 h1).elim
    · obtain rfl : r = p := by omega
      exact er.symm
def seenS (f : Nat → Nat) (i y : Nat) : Bool := (List.range i).any fun j => f j == y
theorem seenS_next (f : Nat → Nat) (i : Nat) : updB (seenS f i) (f i) = seenS f (i + 1) := by
  funext y
  unfold updB seenS
  rw [List.range_succ, List.any_append]
  by_cases e : y = f i
  · subst e; simp
  · have e2 : ¬ f i = y := fun h => e h.symm
    simp [e, e2]
theorem seenS_no {f : Nat → Nat} {i : Nat} (h : ∀ j, j < i → f j ≠ f i) : seenS f i (f i) = false := by
  unfold seenS
  rw [List.any_eq_false]
  intro j hj
  have := h j (List.mem_range.1 hj)
  simpa using this
set_option maxRecDepth 100000 in
set_option maxHeartbeats 4000000 in
theorem ranks_any (N c : Nat) (ct u fr : Int) (la : Option Addr) (l : List Int) (w : World) (hc0 : 0 ≤ ct) (hc1 : ct ≤ 255) (hu0 : 0 ≤ u) (hu1 : u ≤ 255) (hf0 : 0 ≤ fr) (hf1 : fr ≤ 255) (hl : l.length = N) (hN : N ≤ 9223372036854775807) (hA : Rd w la (fl encU l)) (hb : ∀ i, i < N → 0 ≤ uA l i ∧ uA l i ≤ 65535) :
    Calls Tryd.prog 5 #[.int .u8 ct, .slice la N c, .int .u8 u, .int .u8 fr] w fun e w' => e = .returned (.bool true) ∧ Below w.heap.size w w' := by
  obtain ⟨n, hn⟩ : ∃ n : Nat, 1 + ct % 24 = n := ⟨(1 + ct % 24).toNat, by omega⟩
  have hn1 : 1 ≤ n := by omega
  have hn2 : n ≤ 24 := by omega
  obtain ⟨a, ha⟩ : ∃ a : Nat, fr % (n : Int) = a := ⟨(fr % (n : Int)).toNat, by have := Int.emod_nonneg fr (b := (n : Int)) (by omega); omega⟩
  have han : a < n := by have := Int.emod_lt_of_pos fr (b := (n : Int)) (by omega); omega
  have hgood := Lib.hid (far_good (l := l) (by rw [hl]; exact hb) hu0 hn1 hn2)
  have HF := Lib.hid (fun w1 => far_any n N c la l u w1 hn1 (by omega) hl hN hu0 hu1)
  have HA := Lib.hid hA
  have HB := Lib.hid hb
  clear hl hA hb
  obtain ⟨i0, hi0, hz0, hz1, hz2⟩ := info_parts info4
  have HI := Lib.hid (And.intro hi0 (And.intro hz0 (And.intro hz1 hz2)))
  clear hi0 hz0 hz1 hz2
  go_enter Tryd.func5, Tryd.ntmps5
  go_wp2_with fail
  refine (HF.out _ HA.out HB.out).mono ?_
  rintro e w1 ⟨g, rfl, hg, hff, hb1⟩
  obtain ⟨M, hM⟩ : ∃ M, n * n = M := ⟨_, rfl⟩
  rw [hM] at hff ⊢
  have HM := Lib.hid hM
  have hM2 : M ≤ 576 := by rw [← hM]; exact Nat.mul_le_mul hn2 hn2
  clear hM
  have hrd := Lib.hid (show Rd w1 (some ⟨g, 0, none⟩) (fl encFr (farL l u n)) by have := ff_rd hff; rw [← HM.out] at this; exact this)
  have hlen := Lib.hid (show (farL l u n).length = M by rw [farL_len, HM.out])
  go_wp2_with fail
  refine (rank_any (some ⟨g, 0, none⟩) n a M M (farL l u n) w1 (by omega) (by omega) (by omega) (by omega) hlen.out (by omega) hrd.out hgood.out.fit).mono ?_
  obtain ⟨cc, hok, hcp, hc16, hsc⟩ := hgood.out.ok
  rintro e w2 ⟨hb2, ⟨k, hk, _⟩ | ⟨m, c', y, B, cap, f, hm, hy, hym, hm24, hc', rfl, hBw, hFN, hrow⟩⟩
  · rw [rankE_ok hok (by omega) (by omega)] at hk; cases hk
  · obtain rfl : m = n := by omega
    obtain rfl : y = a := by omega
    rw [rankE_ok hok (by omega) (by omega)] at hc'
    obtain rfl : cc = c' := by injection hc'
    have hq : ((m : Int) != (m : Int)) = false := by simp
    have HR := Lib.hid (And.intro hok (And.intro hcp (And.intro hc16 (And.intro hsc hrow))))
    have hrd2 := Lib.hid (hrd.out.bl hb2)
    have HB2 := Lib.hid (bl_trans hb1 hb2)
    obtain ⟨hi0, hz0, hz1, hz2⟩ := HI.out
    have hmk := run_make (P := Tryd.prog) w2 45 4 i0 _ Tryd.underlying45 hi0 hz0 .i64 .i64 (m : Int) (m : Int) (by omega) (by omega) (by rw [hz2]; omega) (by omega)
    rw [hz1] at hmk
    simp only [Int.toNat_natCast, Nat.mul_one] at hmk
    clear hi0 hz0 hz1 hz2
    have hsb : Blk (w2.alloc (.cells (madeCells #[Value.bool false] m) 4)) w2.heap.size (ofF m (seenC (seenS f 0))) 4 := by
      rw [show seenS f 0 = fun _ => false from rfl, ← seen_made]
      exact Blk.new w2 _ 4
    have hbt : But w2.heap.size (w2.alloc (.cells (madeCells #[Value.bool false] m) 4)) (w2.alloc (.cells (madeCells #[Value.bool false] m) 4)) := But.refl _ _
    have hFN3 : FN (w2.alloc (.cells (madeCells #[Value.bool false] m) 4)) B cap m f := owns_below hFN (bl_alloc (Below.refl _ _) _)
    have hB3 := bl_alloc (Below.refl _ w2) (.cells (madeCells #[Value.bool false] m) 4)
    have hBlt : B < w2.heap.size := (World.ownsRow.lt hFN B rfl).2
    have hglt : g < w2.heap.size := Nat.lt_of_lt_of_le (World.ownsRow.lt hff g rfl).2 hb2.size
    go_wp2_with fail
    clear hmk hFN hff hb1 hb2
    obtain ⟨w3, hw3⟩ : ∃ w3, w3 = w2.alloc (.cells (madeCells #[Value.bool false] m) 4) := ⟨_, rfl⟩
    rw [← hw3] at hsb hbt hFN3 hB3 ⊢
    clear hw3
    have HB3 := Lib.hid (bl_trans HB2.out hB3)
    have hrd3 := Lib.hid (hrd2.out.bl hB3)
    obtain ⟨S, hS⟩ : ∃ S, S = w2.heap.size := ⟨_, rfl⟩
    rw [← hS] at hsb hbt hBlt hglt ⊢
    have hSw : Hid (w.heap.size ≤ S) := by show _ ≤ _; rw [hS]; exact HB2.out.size
    clear hS hB3
    go_loopw [51, 15, 16] (fun x _ _ wr => ∃ i : Nat, i ≤ m ∧ x = .int .i64 i ∧ Blk wr S (ofF m (seenC (seenS f i))) 4 ∧ But S w3 wr) (fun x _ _ _ => m - (intOf x).toNat)
    case atStart => exact ⟨0, by omega, rfl, hsb, hbt⟩
    case round =>
      obtain ⟨i, hi, rfl, hsk, hbk⟩ := hrel
      clear hsb hbt
      by_cases hlt : i < m
      · have hfi : f i < m := hrow.lt hlt
        have e1 : wr.cell? ⟨B, i, none⟩ = some (.int .i64 (f i)) := (hbk.cell (World.block_lt_of_cell? w3 _ (FS.cell hFN3 i hlt)) (Nat.ne_of_lt hBlt)).trans (FS.cell hFN3 i hlt)
        have hno : seenS f i (f i) = false := seenS_no fun j hj => hrow.ne hj hlt
        have e2 : wr.cell? ⟨S, f i, none⟩ = some (.bool false) := by
          have := hsk.getF (f i) hfi
          rw [seenC, hno] at this
          exact this
        have e3 := hsk.free (f i)
        have hsk2 : Blk (wr.setCell ⟨S, f i, none⟩ (.bool true)) S (ofF m (seenC (seenS f (i + 1)))) 4 := by
          have := seen_set hsk (f i)
          rw [seenS_next] at this
          exact this
        have hbk2 := hbk.set (f i) (.bool true)
        have d1 : decide ((f i : Int) < 0) = false := by simp
        have d2 : decide ((m : Int) ≤ (f i : Int)) = false := by simp; omega
        have d2n : decide (m ≤ f i) = false := by simp; omega
        have HQ := Lib.hid (And.intro hsk2 hbk2)
        clear hno hsk2 hbk2
        by_cases hi0 : i = 0
        · subst hi0
          have d0 : decide ((0 : Int) < 0) = false := by simp
          go_wp2_with fail
          go_quiet (fail)
          go_wp2_with fail
          go_roundw
          case rel => exact ⟨1, by omega, by go_num, HQ.out.1.drewN nq, HQ.out.2.drewN nq⟩
          case measure => simp [intOf]; omega
        · have hpf : f (i - 1) < m := hrow.lt (p := i - 1) (by omega)
          have hlk := hrow.srt (i - 1) i (by omega) (by omega) hlt
          obtain ⟨m1, hm1⟩ : ∃ m1, y * m = m1 := ⟨_, rfl⟩
          have hk1 : m1 + f i < M := by rw [← hm1, ← HM.out]; exact idxLt hym hfi
          have hk2 : m1 + f (i - 1) < M := by rw [← hm1, ← HM.out]; exact idxLt hym hpf
          have wa := wrap_nat ((y : Int) * (m : Int)) m1 (by rw [← hm1]; simp) (by omega)
          have hd1 : dist (farL l u m) cc m y (f i) = scK (farL l u m) cc (m1 + f i) := by rw [dist, hm1]
          have hd2 : dist (farL l u m) cc m y (f (i - 1)) = scK (farL l u m) cc (m1 + f (i - 1)) := by rw [dist, hm1]
          simp only [ltK] at hlk
          rw [hd1, hd2] at hlk
          obtain ⟨bn, hbn⟩ : ∃ bn, f i = bn := ⟨_, rfl⟩
          obtain ⟨pn, hpn⟩ : ∃ pn, f (i - 1) = pn := ⟨_, rfl⟩
          obtain ⟨k1, hkk1⟩ : ∃ k1, m1 + bn = k1 := ⟨_, rfl⟩
          obtain ⟨k2, hkk2⟩ : ∃ k2, m1 + pn = k2 := ⟨_, rfl⟩
          have e4 : wr.cell? ⟨B, i - 1, none⟩ = some (.int .i64 pn) := by
            rw [← hpn]
            exact (hbk.cell (World.block_lt_of_cell? w3 _ (FS.cell hFN3 (i - 1) (by omega))) (Nat.ne_of_lt hBlt)).trans (FS.cell hFN3 (i - 1) (by omega))
          rw [hbn] at hk1 hlk e1 e2 e3 HQ d1 d2 d2n hfi
          rw [hpn] at hk2 hlk hpf
          rw [hkk1] at hk1 hlk
          rw [hkk2] at hk2 hlk
          have wb1 := wrap_nat ((m1 : Int) + (bn : Int)) k1 (by omega) (by omega)
          have wb2 := wrap_nat ((m1 : Int) + (pn : Int)) k2 (by omega) (by omega)
          have wb3 := wrap_nat ((i : Int) - 1) (i - 1) (by omega) (by omega)
          have hn1' := hgood.out.num k1 (by rw [HM.out]; exact hk1)
          have hn2' := hgood.out.num k2 (by rw [HM.out]; exact hk2)
          have hq1' := hgood.out.den k1 (by rw [HM.out]; exact hk1)
          have hq2' := hgood.out.den k2 (by rw [HM.out]; exact hk2)
          have ho := hgood.out.one
          have hs1 := hsc k1 (by rw [HM.out]; exact hk1)
          have hs2 := hsc k2 (by rw [HM.out]; exact hk2)
          obtain ⟨p1, hp1⟩ : ∃ p1 : Nat, fN (farL l u m) k1 = p1 := ⟨(fN (farL l u m) k1).toNat, by omega⟩
          obtain ⟨p2, hp2⟩ : ∃ p2 : Nat, fN (farL l u m) k2 = p2 := ⟨(fN (farL l u m) k2).toNat, by omega⟩
          obtain ⟨q1, hqq1⟩ : ∃ q1 : Nat, fD (farL l u m) k1 = q1 := ⟨(fD (farL l u m) k1).toNat, by omega⟩
          obtain ⟨q2, hqq2⟩ : ∃ q2 : Nat, fD (farL l u m) k2 = q2 := ⟨(fD (farL l u m) k2).toNat, by omega⟩
          rw [hp1] at hn1' hs1
          rw [hp2] at hn2' hs2
          rw [hqq1] at hq1' hs1
          rw [hqq2] at hq2' hs2
          simp only [Int.toNat_natCast] at hs1 hs2
          obtain ⟨gb, go, ge, _, gc⟩ := rdFr (hrd3.out.but hbk (Nat.ne_of_lt hglt)) (by rw [hlen.out]; omega)
          simp only [Option.some.injEq, Addr.mk.injEq, and_true] at ge
          obtain ⟨rfl, rfl⟩ := ge
          obtain ⟨c1, c2⟩ := gc k1 (by rw [hlen.out]; exact hk1)
          obtain ⟨c3, c4⟩ := gc k2 (by rw [hlen.out]; exact hk2)
          rw [hp1] at c1
          rw [hqq1] at c2
          rw [hp2] at c3
          rw [hqq2] at c4
          rw [Nat.zero_add] at c1 c2 c3 c4
          have l1 : p1 * q2 ≤ 65535 * 16 := Nat.mul_le_mul (by omega) (by omega)
          have l2 : p2 * q1 ≤ 65535 * 16 := Nat.mul_le_mul (by omega) (by omega)
          have hless := fun W => less_any p1 q1 p2 q2 W (by omega) (by omega) (by omega) (by omega) (by omega) (by omega)
          have hequ := fun W => equal_any p1 q1 p2 q2 W (by omega) (by omega) (by omega) (by omega) (by omega) (by omega)
          have hlf : decide (p1 * q2 < p2 * q1) = false := by
            rw [decide_eq_false_iff_not, frac_lt hcp (by omega) (by omega) hs1 hs2]
            omega
          rw [hlf] at hless
          have HLS := Lib.hid hless
          have HBN := Lib.hid (And.intro hbn hpn)
          have HRW := Lib.hid hrow
          have di : decide (0 < (i : Int)) = true := by simp; omega
          have di2 : decide (0 < i) = true := by simp; omega
          obtain ⟨wx, hwx⟩ : ∃ wx, wx = wr.setCell ⟨S, bn, none⟩ (.bool true) := ⟨_, rfl⟩
          have hbw : But S wr wx := by rw [hwx]; exact (But.refl _ _).set _ _
          have x1 := (hbw.cell (World.block_lt_of_cell? wr _ c1) (Nat.ne_of_lt hglt)).trans c1
          have x2 := (hbw.cell (World.block_lt_of_cell? wr _ c2) (Nat.ne_of_lt hglt)).trans c2
          have x3 := (hbw.cell (World.block_lt_of_cell? wr _ c3) (Nat.ne_of_lt hglt)).trans c3
          have x4 := (hbw.cell (World.block_lt_of_cell? wr _ c4) (Nat.ne_of_lt hglt)).trans c4
          have x5 := (hbw.cell (World.block_lt_of_cell? wr _ e4) (Nat.ne_of_lt hBlt)).trans e4
          have y1 := wb_cell x1 (World.block_lt_of_cell? wx _ x1)
          have y2 := wb_cell x2 (World.block_lt_of_cell? wx _ x2)
          have y3 := wb_cell x3 (World.block_lt_of_cell? wx _ x3)
          have y4 := wb_cell x4 (World.block_lt_of_cell? wx _ x4)
          have y5 := wb_cell x5 (World.block_lt_of_cell? wx _ x5)
          rw [← hwx] at HQ
          have HY := Lib.hid (And.intro y1 (And.intro y2 (And.intro y3 (And.intro y4 y5))))
          have HWX := Lib.hid hwx
          have HEQ := Lib.hid hequ
          have HSS := Lib.hid (And.intro hs1 (And.intro hs2 hlk))
          clear hm1 hd1 hd2 hbn hpn hkk1 hkk2 hp1 hp2 hqq1 hqq2 hs1 hs2 gc c1 c2 c3 c4 e4 hless hequ hlf hrow x1 x2 x3 x4 x5 y1 y2 y3 y4 y5 hwx hlk hbw hsc
          by_cases hse : scK (farL l u m) cc k2 = scK (farL l u m) cc k1
          · have HEQ2 : Hid (∀ W, Calls Tryd.prog 24 #[.agg #[.int .i64 p1, .int .i64 q1], .agg #[.int .i64 p2, .int .i64 q2]] W fun e w' => e = .returned (.bool true) ∧ Below W.heap.size W w') := fun W => by
              have h2 := HEQ.out W
              rw [decide_eq_true ((frac_eq hcp (by omega) (by omega) HSS.out.1 HSS.out.2.1).2 hse.symm)] at h2
              exact h2
            have hbp : pn < bn := by have := HSS.out.2.2; omega
            have dbp : decide ((bn : Int) < (pn : Int)) = false := by simp; omega
            have dbpn : decide (bn < pn) = false := by simp; omega
            clear hse
            go_upto_region 14 with fail
            rw [← HWX.out]
            obtain ⟨y1, y2, y3, y4, y5⟩ := HY.out
            refine wp_quiet_wb (by kernel_rfl) (by kernel_rfl) ?_
            repeat (go_big_quiet_step ((first | (go_at_call 25; exact quiet_of_wb (HLS.out _)) | (go_at_call 24; exact quiet_of_wb (HEQ2.out _)))))
            refine wpQuiet_nil ?_
            rintro _ ⟨⟨wq, hbq⟩, rfl⟩
            have hq1 := HQ.out.1.below hbq
            have hq2 := HQ.out.2.trans (But.of_below hbq)
            clear y1 y2 y3 y4 y5
            go_wp2_with fail
            go_roundw
            case rel => exact ⟨i + 1, by omega, by go_num, hq1, hq2⟩
            case measure => simp [intOf]; omega
          · have HEQ2 : Hid (∀ W, Calls Tryd.prog 24 #[.agg #[.int .i64 p1, .int .i64 q1], .agg #[.int .i64 p2, .int .i64 q2]] W fun e w' => e = .returned (.bool false) ∧ Below W.heap.size W w') := fun W => by
              have h2 := HEQ.out W
              rw [decide_eq_false (fun h => hse ((frac_eq hcp (by omega) (by omega) HSS.out.1 HSS.out.2.1).1 h).symm)] at h2
              exact h2
            clear hse
            go_upto_region 14 with fail
            rw [← HWX.out]
            obtain ⟨y1, y2, y3, y4, y5⟩ := HY.out
            refine wp_quiet_wb (by kernel_rfl) (by kernel_rfl) ?_
            repeat (go_big_quiet_step ((first | (go_at_call 25; exact quiet_of_wb (HLS.out _)) | (go_at_call 24; exact quiet_of_wb (HEQ2.out _)))))
            refine wpQuiet_nil ?_
            rintro _ ⟨⟨wq, hbq⟩, rfl⟩
            have hq1 := HQ.out.1.below hbq
            have hq2 := HQ.out.2.trans (But.of_below hbq)
            clear y1 y2 y3 y4 y5
            go_wp2_with fail
            go_roundw
            case rel => exact ⟨i + 1, by omega, by go_num, hq1, hq2⟩
            case measure => simp [intOf]; omega
      · have HB4 := Lib.hid (HB3.out.trans (hbk.below HB3.out.size hSw.out))
        have hrd4 := Lib.hid (show Rd wr (some ⟨g, 0, none⟩) (fl encFr (farL l u m)) from hrd3.out.but hbk (Nat.ne_of_lt hglt))
        have hFN4 : FN wr B cap m f := owns_but hFN3 hbk (by simp [Value.ownBlock]; omega)
        have HRW := Lib.hid hrow
        clear hbk hsk hFN3 hrow
        go_wp2_with fail
        refine (near_any (some ⟨g, 0, none⟩) m y M M (farL l u m) wr (by omega) (by omega) (by omega) (by omega) hlen.out (by omega) hrd4.out hgood.out.fit).mono ?_
        rintro e w5 ⟨hb5, ⟨k, hk, _⟩ | ⟨m', c', y', f', hm', hy', hym', hc', rfl, hrow'⟩⟩
        · rw [rankE_ok hok (by omega) (by omega)] at hk; cases hk
        · obtain rfl : m' = m := by omega
          obtain rfl : y' = y := by omega
          rw [rankE_ok hok (by omega) (by omega)] at hc'
          obtain rfl : cc = c' := by injection hc'
          have hnv : nearV f' m' y' = nearV f m' y' := by
            unfold nearV
            by_cases h1 : m' = 1
            · rw [if_pos h1, if_pos h1]
            · rw [if_neg h1, if_neg h1]
              have hu : ∀ p, p < m' → f' p = f p := fun p hp => RkRow.uniq2 hrow' HRW.out p hp
              rw [hu 0 (by omega), hu 1 (by omega)]
          rw [hnv]
          have HB5 := Lib.hid (bl_trans HB4.out hb5)
          have hFN5 : FN w5 B cap m' f := owns_below hFN4 hb5
          clear hnv hb5 hFN4 hrow'
          by_cases h1 : m' = 1
          · have b1 : ((m' : Int) == 1) = true := by simp; omega
            have v1 : nearV f m' y' = 0 := by rw [nearV, if_pos h1]
            have v2 : nearE m' = 5 := by rw [nearE, if_pos h1]
            rw [v1, v2]
            have H1 := Lib.hid h1
            clear h1 v1 v2
            go_wp2_with fail
            refine (works_any _).mono ?_
            rintro e w6 ⟨rfl, hb6⟩
            have HB6 := Lib.hid (bl_trans HB5.out hb6)
            clear hb6
            go_wp2_with fail
            go_ret
            exact ⟨rfl, HB6.out⟩
          · have b1 : ((m' : Int) == 1) = false := by simp; omega
            have v2 : nearE m' = 0 := by rw [nearE, if_neg h1]
            have e0 : w5.cell? ⟨B, 0, none⟩ = some (.int .i64 (f 0)) := FS.cell hFN5 0 (by omega)
            have e1 : w5.cell? ⟨B, 1, none⟩ = some (.int .i64 (f 1)) := FS.cell hFN5 1 (by omega)
            have hm2 : 1 < m' := by omega
            have hm0 : 0 < m' := by omega
            by_cases h0 : f 0 = y'
            · have v1 : nearV f m' y' = f 1 := by rw [nearV, if_neg h1, if_pos h0]
              have b0 : ((f 0 : Int) == (y' : Int)) = true := by simp; omega
              rw [v1, v2]
              clear h0 h1 v1 v2
              generalize f 0 = z0 at *
              generalize f 1 = z1 at *
              go_wp2_with fail
              refine (works_any _).mono ?_
              rintro e w6 ⟨rfl, hb6⟩
              have HB6 := Lib.hid (bl_trans HB5.out hb6)
              clear hb6
              go_wp2_with fail
              go_ret
              exact ⟨rfl, HB6.out⟩
            · have v1 : nearV f m' y' = f 0 := by rw [nearV, if_neg h1, if_neg h0]
              have b0 : ((f 0 : Int) == (y' : Int)) = false := by simp; omega
              rw [v1, v2]
              clear h0 h1 v1 v2
              generalize f 0 = z0 at *
              generalize f 1 = z1 at *
              go_wp2_with fail
              refine (works_any _).mono ?_
              rintro e w6 ⟨rfl, hb6⟩
              have HB6 := Lib.hid (bl_trans HB5.out hb6)
              clear hb6
              go_wp2_with fail
              go_ret
              exact ⟨rfl, HB6.out⟩
end Go.Proofs.YtahgffjkkdbjeaaDoor
