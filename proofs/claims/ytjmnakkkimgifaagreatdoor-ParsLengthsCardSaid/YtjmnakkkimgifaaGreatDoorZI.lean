/- ParsClimbs: the walk of the statement. ParsAll and ParsNears: the walks of the statements. ParsNears: the walk of the statement. A region that draws its order, in which each operation leaves a value that is good whatever came before it (no program in sight). A region that draws its order, in which each of the first n operations leaves something good whatever came before it, and the others are forced (no program in sight); a list that is appended to an empty row. ParsLengths: the walk of the statement. -/
import Derived.Test.YtjmnakkkimgifaaGreatDoorZH
import Derived.Deep.QuietTactic
import Derived.BigQuiet
import Derived.Test.YtjmnakkkimgifaaGreatDoorZF
import Derived.Test.YtjmnakkkimgifaaGreatDoorZA
import Derived.Test.YtjmnakkkimgifaaGreatDoorZD
import Derived.Deep.AppendSrc
import Derived.Deep.Upon
import Derived.StillTail
import Derived.Test.YtjmnakkkimgifaaGreatDoorZG
namespace Go.Proofs.YtjmnakkkimgifaaGreatDoor
open Go Go.RowKit Go.Shelf
theorem rd_takeR {w : World} {a : Option Addr} {l : List Nat} (k : Nat) (h : Rd w a (fl encV l)) : Rd w a (fl encV (l.take k)) := by
  intro h0
  have hl : ∀ l : List Nat, (fl encV l).length = l.length := fun l => by rw [fl_length encV_len, Nat.mul_one]
  rw [hl, List.length_take] at h0
  obtain ⟨b, o, e, hb, hc⟩ := h (by rw [hl]; omega)
  refine ⟨b, o, e, hb, fun i hi => ?_⟩
  rw [hl, List.length_take] at hi
  have h1 := hc i (by rw [hl]; omega)
  rw [h1]
  have e2 : fl encV (l.take k) = (fl encV l).take k := by
    have key : ∀ (l : List Nat) k, fl encV (l.take k) = (fl encV l).take k := by
      intro l
      induction l with
      | nil => intro k; simp [fl]
      | cons x l ih =>
        intro k
        cases k with
        | zero => simp [fl]
        | succ k =>
          have e : ∀ (l : List Nat), fl encV (x :: l) = .int .u64 (x : Int) :: fl encV l := fun l => by simp [fl, encV]
          rw [List.take_succ_cons, e, e, List.take_succ_cons, ih]
    exact key l k
  rw [e2, List.getD_eq_getElem?_getD, List.getD_eq_getElem?_getD, List.getElem?_take, if_pos (by omega)]
theorem top_cl {L : Int} {l : List Nat} {n : Nat} : ∀ (f : Nat) (t : List Nd), lenS L l t < f → ClT t n → ClT (topL L l t) n := by
  intro f
  induction f with
  | zero => intro t h; omega
  | succ f ih =>
    intro t h hT
    by_cases e : stopB L l t = true
    · rw [topL_stop e]; exact hT
    · have e' : stopB L l t = false := by simpa using e
      obtain ⟨h1, h2⟩ := topL_step e'
      rw [h1]
      refine ih _ (by omega) ?_
      unfold stopB at e'
      rw [Bool.or_eq_false_iff, decide_eq_false_iff_not, decide_eq_false_iff_not, hT.1] at e'
      unfold stpL
      rw [hT.1]
      exact hT.near (minI_lt _ _ (by omega))
theorem cl_le (L : Int) (l : List Nat) (t : List Nd) : (if clbE L l t = 0 then topL L l t else []).length ≤ 1000 := by
  by_cases q : clbE L l t = 0
  · rw [if_pos q]
    unfold clbE at q
    by_cases q2 : chkP L l t = 0
    · rw [if_neg (fun e => e q2)] at q
      obtain ⟨_, hok, _⟩ := chkP_ok q2
      have hb : binB t t.length = true := by
        by_cases q3 : binB t t.length = true
        · exact q3
        · rw [if_neg q3] at q; cases q
      have hT : ClT t t.length := ⟨rfl, hok, binB_iff.1 hb⟩
      have h := top_cl (L := L) (l := l) _ t (Nat.lt_succ_self _) hT
      have := hok.2.1
      rw [h.1]; omega
    · rw [if_pos q2] at q; exact absurd q q2
  · rw [if_neg q]; simp
set_option maxRecDepth 100000 in
set_option maxHeartbeats 4000000 in
theorem cllaw33_any (L : Int) (a : Option Addr) (N c : Nat) (l : List Nat) (b : Option Addr) (n d : Nat) (t : List Nd) (w : World) (hl : l.length = N) (hN : N ≤ 1152921504606846976) (hNc : N ≤ c) (hc : c ≤ 9223372036854775807) (hA : Rd w a (fl encV l)) (hF : FitV l)
    (ht : t.length = n) (hn : n ≤ 1152921504606846976) (hB : Rd w b (fl encNd t)) (hS : ∀ v, v < n → (nS t v).size ≤ 9223372036854775807) :
    Calls Tryz.prog 7 #[.agg #[.int .i64 L, .slice a N c], .slice b n d] w fun e w' => e = .returned (.bool true) ∧ Below w.heap.size w w' := by
  have hb0 := bl_alloc (Below.refl _ w) (.cells #[.int .i64 L, .slice a N c] 24)
  have HX := Lib.hid (Blk.new w #[.int .i64 L, .slice a N c] 24)
  have HB0 := Lib.hid hb0
  have HP := Lib.hid (fun (W : World) (N' : Nat) (l' : List Nat) (hW : Below w.heap.size w W) (h1 : l'.length = N') (h2 : N' ≤ 1152921504606846976) (h3 : Rd W a (fl encV l')) (h4 : FitV l') => climb_any L a N' c l' b n d t W h1 h2 h3 h4 ht hn (hB.bl hW) hS)
  have HQ := Lib.hid (fun (W : World) (N' : Nat) (l' : List Nat) (hW : Below w.heap.size w W) (h1 : l'.length = N') (h2 : N' ≤ 1152921504606846976) (h3 : Rd W a (fl encV l')) (h4 : FitV l') => rclimb_any L a N' c l' b n d t W h1 h2 h3 h4 ht hn (hB.bl hW) hS)
  have HLG := Lib.hid (light_any L a N c b n d)
  have HW := Lib.hid works_any
  have HL := Lib.hid hl
  have HF := Lib.hid hF
  have HA := Lib.hid (fun (W : World) (hW : Below w.heap.size w W) => hA.bl hW)
  clear hl hA hF hb0 ht hB hS
  obtain ⟨X, hX⟩ : ∃ x, x = w.heap.size := ⟨_, rfl⟩
  have HXE := Lib.hid hX
  rw [← hX] at HX
  obtain ⟨w1, hw1⟩ : ∃ y, y = w.alloc (.cells #[.int .i64 L, .slice a N c] 24) := ⟨_, rfl⟩
  rw [← hw1] at HX HB0
  go_enter Tryz.func7, Tryz.ntmps7
  go_upto_region 1 with fail
  rw [← hw1, ← hX]
  clear hw1 hX
  have x0 : w1.cell? ⟨X, 0, none⟩ = some (.int .i64 L) := HX.out.cell 0
  have x1 : w1.cell? ⟨X, 1, none⟩ = some (.slice a N c) := HX.out.cell 1
  go_wp2_with fail
  refine (HLG.out w1).mono ?_
  rintro e w2 ⟨rfl, hb2⟩
  have HX2 := Lib.hid (HX.out.below hb2)
  have HB2 := Lib.hid (bl_trans HB0.out hb2)
  clear hb2 x0 x1 HX HB0 HLG
  by_cases hlt : N ≤ 70 ∧ n ≤ 70
  · obtain ⟨hl1, hl2⟩ := hlt
    have e : decide (N ≤ 70 ∧ n ≤ 70) = true := decide_eq_true ⟨hl1, hl2⟩
    rw [e]
    clear e
    have x0 : w2.cell? ⟨X, 0, none⟩ = some (.int .i64 L) := HX2.out.cell 0
    have x1 : w2.cell? ⟨X, 1, none⟩ = some (.slice a N c) := HX2.out.cell 1
    have f1 : w2.frozen? ⟨X, 1, none⟩ = false := HX2.out.free 1
    obtain ⟨B, hBv⟩ : ∃ B, B = decide (21 < n ∧ 1 < N ∧ N ≤ 64) := ⟨_, rfl⟩
    have HBV := Lib.hid hBv
    clear hBv
    go_upto_region 3 with fail
    go_cut [30] (fun s wx => s = .bool B ∧ wx = w2)
    case first =>
      by_cases q1 : 21 < n
      · have q1' : (21 : Int) < (n : Int) := by omega
        by_cases q2 : 1 < N
        · have q2' : (1 : Int) < (N : Int) := by omega
          by_cases q3 : N ≤ 64
          · have q3' : (N : Int) ≤ 64 := by omega
            have e : Hid (B = true) := by show _ = _; rw [HBV.out]; exact decide_eq_true ⟨q1, q2, q3⟩
            go_wp2_with fail
            go_meet
            exact ⟨by rw [e.out], rfl⟩
          · have q3' : ¬ ((N : Int) ≤ 64) := by omega
            have e : Hid (B = false) := by show _ = _; rw [HBV.out]; exact decide_eq_false (fun h => q3 h.2.2)
            go_wp2_with fail
            go_meet
            exact ⟨by rw [e.out], rfl⟩
        · have q2' : ¬ ((1 : Int) < (N : Int)) := by omega
          have e : Hid (B = false) := by show _ = _; rw [HBV.out]; exact decide_eq_false (fun h => q2 h.2.1)
          go_wp2_with fail
          go_meet
          exact ⟨by rw [e.out], rfl⟩
      · have q1' : ¬ ((21 : Int) < (n : Int)) := by omega
        have e : Hid (B = false) := by show _ = _; rw [HBV.out]; exact decide_eq_false (fun h => q1 h.1)
        go_wp2_with fail
        go_meet
        exact ⟨by rw [e.out], rfl⟩
    case rest =>
    obtain ⟨rfl, rfl⟩ := hcut
    go_upto_if 30 with fail
    go_cut [4] (fun s wx => s = .bool false ∧ ∃ (N' : Nat) (l' : List Nat), N' ≤ 70 ∧ Hid (l'.length = N') ∧ Hid (FitV l') ∧ Hid (Rd wx a (fl encV l')) ∧ Hid (Blk wx X #[.int .i64 L, .slice a N' c] 24) ∧ Hid (Below w.heap.size w wx))
    case first =>
      have HR2 := Lib.hid (HA.out wc HB2.out)
      have HCT : Hid (∀ v, Below w.heap.size w (wc.setCell ⟨X, 1, none⟩ v)) := fun v => bl_set HB2.out _ _ _ _ (by rw [HXE.out]; exact Nat.le_refl _)
      cases B with
      | true =>
        have hq := of_decide_eq_true HBV.out.symm
        have HRA : Hid (Rd (wc.setCell ⟨X, 1, none⟩ (.slice a 1 c)) a (fl encV (l.take 1))) := rd_takeR 1 (HA.out _ (HCT.out _))
        have HLL : Hid ((l.take 1).length = 1) := by show _ = _; rw [List.length_take, HL.out]; omega
        have HFF : Hid (FitV (l.take 1)) := fun i hi => by
          have h1 : (l.take 1).length = 1 := HLL.out
          rw [h1] at hi
          obtain rfl : i = 0 := by omega
          have h := HF.out 0 (by rw [HL.out]; omega)
          have e : vA (l.take 1) 0 = vA l 0 := by unfold vA; rw [List.getD_eq_getElem?_getD, List.getD_eq_getElem?_getD, List.getElem?_take]; rfl
          rw [e]; exact h
        have HXX : Hid (Blk (wc.setCell ⟨X, 1, none⟩ (.slice a 1 c)) X #[.int .i64 L, .slice a 1 c] 24) := HX2.out.set 1 _
        have HBX := Lib.hid (HCT.out (.slice a 1 c))
        have hN2 : 1 < N := hq.2.1
        clear hq
        go_wp2_with fail
        go_meet
        exact ⟨rfl, 1, l.take 1, by omega, HLL, HFF, HRA, HXX, HBX⟩
      | false =>
        go_wp2_with fail
        go_meet
        exact ⟨rfl, N, l, hl1, HL, HF, HR2, HX2, HB2⟩
    case rest =>
      obtain ⟨rfl, N', l', hN', hl', hF', hR', hX', hB'⟩ := hcut
      clear x0 x1 f1 HX2 HB2 HL HF
      have HA' := Lib.hid (fun (W : World) (hW : Below wc.heap.size wc W) => hR'.out.bl hW)
      have HP' := Lib.hid (HP.out wc N' l' hB'.out hl'.out (by omega) hR'.out hF'.out)
      have HQ' := Lib.hid (fun (W : World) (hW : Below wc.heap.size wc W) => HQ.out W N' l' (bl_trans hB'.out hW) hl'.out (by omega) (HA'.out W hW) hF'.out)
      have HLE := Lib.hid (cl_le L l' t)
      have x0 : wc.cell? ⟨X, 0, none⟩ = some (.int .i64 L) := hX'.out.cell 0
      have x1 : wc.cell? ⟨X, 1, none⟩ = some (.slice a N' c) := hX'.out.cell 1
      clear HP HQ HA
      go_wp2_with fail
      refine HP'.out.mono ?_
      rintro e w3 h
      obtain ⟨A1, n1, c1, t1, rfl, ht1, hn1, hr1, hb1⟩ := clPost_rd h
      have HR1 := Lib.hid hr1
      have HB1 := Lib.hid (bl_trans hB'.out hb1)
      have HT1 := Lib.hid ht1
      have HN1 := Lib.hid hn1
      have y0 : w3.cell? ⟨X, 0, none⟩ = some (.int .i64 L) := (hX'.out.below hb1).cell 0
      have y1 : w3.cell? ⟨X, 1, none⟩ = some (.slice a N' c) := (hX'.out.below hb1).cell 1
      have HQ2 := Lib.hid (HQ'.out w3 hb1)
      clear h ht1 hn1 hr1 hb1 x0 x1 HP' HQ'
      obtain ⟨z, hz⟩ : ∃ z, z = (if clbE L l' t = 0 then lenS L l' (topL L l' t) else 0) := ⟨_, rfl⟩
      obtain ⟨E, hE⟩ : ∃ E, E = clbE L l' t := ⟨_, rfl⟩
      rw [← hz, ← hE]
      have HZ := Lib.hid hz
      have HE := Lib.hid hE
      clear hz hE
      go_wp2_with fail
      refine HQ2.out.mono ?_
      rintro e w4 h
      obtain ⟨A2, n2, c2, t2, rfl, ht2, hn2, hr2, hb2⟩ := clPost_rd h
      rw [← HT1.out] at ht2
      subst ht2
      rw [← HN1.out] at hn2
      subst hn2
      rw [← HZ.out, ← HE.out]
      have hle : t2.length ≤ 1000 := by rw [HT1.out]; exact HLE.out
      have HR1' := Lib.hid (HR1.out.bl hb2)
      have HR2 := Lib.hid hr2
      have HB2 := Lib.hid (bl_trans HB1.out hb2)
      clear h hr2 hb2 HQ2 HR1 y0 y1 HB1
      have hb4 := bl_alloc (bl_alloc (Below.refl _ w4) (.cells #[.slice A1 n2 c1] 25)) (.cells #[.slice A2 n2 c2] 25)
      have HS := Lib.hid (rsame_any (.slice (some ⟨w4.heap.size, 0, none⟩) 1 1) (.slice (some ⟨w4.heap.size + 1, 0, none⟩) 1 1) 1 (fun _ => t2) _ _ ((w4.alloc (.cells #[.slice A1 n2 c1] 25)).alloc (.cells #[.slice A2 n2 c2] 25)) (by omega)
        (rsW_one ((Blk.new w4 _ _).alloc _) (HR1'.out.bl hb4) HN1.out.symm) (rsW_one (Blk.new2 w4 _ _ _) (HR2.out.bl hb4) HN1.out.symm) (fun i _ => by omega))
      have HB4 := Lib.hid (bl_trans HB2.out hb4)
      have t5 : (z == z) = true := by simp
      have t6 : (E == E) = true := by simp
      clear hb4
      go_wp2_with fail
      refine HS.out.mono ?_
      rintro e w5 ⟨rfl, q, rfl⟩
      go_wp2_with fail
      refine (HW.out _).mono ?_
      rintro e w6 ⟨rfl, hb6⟩
      go_wp2_with fail
      go_ret
      exact ⟨rfl, bl_trans (bl_drewN HB4.out q) hb6⟩
  · have e : decide (N ≤ 70 ∧ n ≤ 70) = false := decide_eq_false hlt
    rw [e]
    clear e hlt
    go_wp2_with fail
    refine (HW.out _).mono ?_
    rintro e w3 ⟨rfl, hb3⟩
    go_wp2_with fail
    go_ret
    exact ⟨rfl, bl_trans HB2.out hb3⟩
end Go.Proofs.YtjmnakkkimgifaaGreatDoor
namespace Go.Proofs.YtjmnakkkimgifaaGreatDoor
open Go Go.RowKit Go.Shelf
theorem fl_nd_setPar (t : List Nd) (j : Nat) (p : Int) : (fl encNd t).set (j * 2) (.int .i64 p) = fl encNd (t.set j (p, nS t j)) := by
  induction t generalizing j with
  | nil => simp [fl]
  | cons x t ih =>
    have e : ∀ (x : Nd) l, fl encNd (x :: l) = .int .i64 x.1 :: .string x.2 :: fl encNd l := fun x l => by simp [fl, encNd]
    cases j with
    | zero =>
      rw [Nat.zero_mul, e, List.set_cons_zero, List.set_cons_zero, e]
      rfl
    | succ j =>
      rw [show (j + 1) * 2 = (j * 2) + 1 + 1 by omega, e, List.set_cons_succ, List.set_cons_succ, List.set_cons_succ, ih, e]
      rfl
theorem TsW.setPar {w : World} {base n : Nat} {v : Value} {T : Nat → List Nd} {rs : Nat → Rw} (h : TsW w base v n T rs) {i j b c : Nat} (hi : i < n) (hx : rs i = (some ⟨b, 0, none⟩, (T i).length, c)) (p : Int) :
    TsW (w.setCell ⟨b, j * 2, none⟩ (.int .i64 p)) base v n (fun r => if r = i then (T i).set j (p, nS (T i) j) else T r) rs := by
  have hob : (slR (rs i)).ownBlock = some b := by rw [hx]; rfl
  refine ⟨?_, fun r hr => ?_, fun r hr => ?_, h.dis, h.far⟩
  · refine ownsRow_setCell_other (a := ⟨b, j * 2, none⟩) h.rows (fun e => ?_) _
    rcases h.far i hi with q | q
    · rw [hob] at q; cases q
    · exact q (by rw [hob, e])
  · by_cases e : r = i
    · subst e
      simp only [if_pos, List.length_set]
      have h1 := h.row r hr
      rw [hx] at h1 ⊢
      have h2 := (World.ownsRow.stored h1 (j * 2) (.int .i64 p)).1
      rw [fl_nd_setPar] at h2
      exact h2
    · simp only [if_neg e]
      refine ownsRow_setCell_other (a := ⟨b, j * 2, none⟩) (h.row r hr) (fun e2 => ?_) _
      rcases h.dis r i hr hi e with h1 | h1
      · rw [h1] at e2; cases e2
      · exact h1 (by rw [hob]; exact e2)
  · by_cases e : r = i
    · subst e
      simp only [if_pos, List.length_set]; exact h.len r hr
    · simp only [if_neg e]; exact h.len r hr
/-- A node of a row may be overwritten. -/
theorem ov_at {w : World} {base n : Nat} {v : Value} {T : Nat → List Nd} {rs : Nat → Rw} (h : TsW w base v n T rs) {i k : Nat} (hi : i < n) (hk : k < (rs i).2.1) : ∃ (b c : Nat) (p : Int) (s : ByteArray), rs i = (some ⟨b, 0, none⟩, (rs i).2.1, c) ∧ base ≤ b ∧ w.cell? ⟨b, k * 2, none⟩ = some (.int .i64 p) ∧ w.cell? ⟨b, k * 2 + 1, none⟩ = some (.string s) ∧
    w.frozen? ⟨b, k * 2, none⟩ = false ∧ w.frozen? ⟨b, k * 2 + 1, none⟩ = false ∧ ∀ (p' : Int) (s' : ByteArray), ∃ T', TsW ((w.setCell ⟨b, k * 2, none⟩ (.int .i64 p')).setCell ⟨b, k * 2 + 1, none⟩ (.string s')) base v n T' rs := by
  have hl := h.len i hi
  rw [hl] at hk
  obtain ⟨b, c, e, hb, _⟩ := h.at hi (by omega)
  have hrow := h.row i hi
  rw [e] at hrow
  obtain ⟨A, c', e2, hr⟩ := h.rd hi
  rw [e] at e2
  have eA : A = some ⟨b, 0, none⟩ := (congrArg Prod.fst e2).symm
  subst eA
  obtain ⟨b', o', e3, _, hc⟩ := rdNd hr (by omega)
  cases e3
  obtain ⟨c0, c1⟩ := hc k hk
  rw [Nat.zero_add] at c0 c1
  refine ⟨b, c, _, _, by rw [e], hb, c0, c1, World.ownsRow.frozenAt hrow _, World.ownsRow.frozenAt hrow _, fun p' s' => ?_⟩
  have h1 := h.setPar (j := k) hi e p'
  have h2 := h1.setS (i := i) (j := k) (b := b) (c := c) hi (by rw [e]; simp) s'
  exact ⟨_, h2⟩
theorem trL_le (n : Int) : (trL n).length ≤ 105 := by
  by_cases h : trE n = 0
  · unfold trE at h
    by_cases q : 1 ≤ n ∧ n ≤ 5
    · obtain ⟨M, rfl⟩ : ∃ M : Nat, n = ((M + 1 : Nat) : Int) := ⟨(n - 1).toNat, by omega⟩
      rw [(trL_in (N := M) (by omega)).2, List.length_map, soP_len M (by omega)]
      exact (trP_len M (by omega)).2
    · rw [if_neg q] at h; cases h
  · have : trL n = [] := by
      unfold trL
      unfold trE at h
      by_cases q : 1 ≤ n ∧ n ≤ 5
      · rw [if_pos q] at h; exact absurd rfl h
      · rw [if_neg q]
    rw [this]; simp
set_option maxRecDepth 100000 in
set_option maxHeartbeats 4000000 in
theorem allaw33_any (n : Int) (w : World) (hn1 : -9223372036854775808 ≤ n) (hn2 : n ≤ 9223372036854775807) :
    Calls Tryz.prog 5 #[.int .i64 n] w fun e w' => e = .returned (.bool true) ∧ Below w.heap.size w w' := by
  have HW := Lib.hid works_any
  have HT1 := Lib.hid (fun W => trees_any n W hn1 hn2)
  have HQ := Lib.hid (rTrees_any n w)
  have hM : (trL n).length ≤ 105 := trL_le n
  have HSM : Hid (∀ k, k < (trL n).length → (vT (trL n) k).length ≤ 1000) := fun k hk => by
    obtain ⟨_, _, h3, _⟩ := trL_tree hk
    omega
  obtain ⟨M, hMe⟩ : ∃ M, M = (trL n).length := ⟨_, rfl⟩
  rw [← hMe] at hM HSM
  have HME := Lib.hid hMe
  obtain ⟨E, hE⟩ : ∃ E, E = trE n := ⟨_, rfl⟩
  have HEE := Lib.hid hE
  have t0 : (E != E) = false := by simp
  have t1 : (E == E) = true := by simp
  clear hMe hE
  go_enter Tryz.func5, Tryz.ntmps5
  go_wp2_with fail
  refine HQ.out.mono ?_
  rintro e w1 ⟨v1, rs1, rfl, hT1, hb1⟩
  rw [← HME.out] at hT1
  rw [← HEE.out]
  have HTW := Lib.hid hT1
  have HB1 := Lib.hid hb1
  clear hT1 hb1 HQ
  go_wp2_with fail
  go_loopw [14] (fun x wr => ∃ q : Nat, q ≤ 2 ∧ x = .int .i64 q ∧ Hid (TsW wr w.heap.size v1 M (vT (trL n)) rs1) ∧ Hid (Below w.heap.size w wr)) (fun x _ => 2 - (intOf x).toNat)
  case atStart => exact ⟨0, by omega, rfl, HTW, HB1⟩
  case round =>
    clear HTW HB1
    obtain ⟨q, hq, rfl, hTW, hBW⟩ := hrel
    by_cases hlt : q < 2
    · go_wp2_with fail
      refine (HT1.out wr).mono ?_
      rintro e w2 ⟨v2, rs2, rfl, hT2, hb2⟩
      rw [← HME.out] at hT2
      rw [← HEE.out]
      have HT2 := Lib.hid hT2
      have HTW2 := Lib.hid (hTW.out.bl hb2)
      have HB2 := Lib.hid (bl_trans hBW.out hb2)
      have HSA := Lib.hid (fun m => rsame_any v2 v1 M (vT (trL n)) rs2 rs1 (w2.drewN m) (by omega) (hT2.bl (bl_drewN (Below.refl _ _) m)).rsW ((hTW.out.bl hb2).bl (bl_drewN (Below.refl _ _) m)).rsW (fun i hi => by have := HSM.out i hi; omega))
      have HBR := Lib.hid hb2
      obtain ⟨A2, c2, rfl, _⟩ := owns_slice hT2.rows
      obtain ⟨B0, hB0⟩ : ∃ B, B = wr.heap.size := ⟨_, rfl⟩
      have hB0w : B0 ≤ w2.heap.size := by rw [hB0]; exact hb2.size
      have hB0v : w.heap.size ≤ B0 := by rw [hB0]; exact hBW.out.size
      rw [← hB0] at HT2 HBR
      have HTR : Hid (TsW w2 w.heap.size v1 M (vT (trL n)) rs1) := HTW2.out
      have HTL : Hid (∀ W, Below B0 w2 W → TsW W w.heap.size v1 M (vT (trL n)) rs1) := fun W hW => by
        have h0 := hTW.out.bl (w' := W) (by rw [← hB0]; exact HBR.out.trans hW)
        exact h0
      have HBL : Hid (∀ W, Below B0 w2 W → Below w.heap.size w W) := fun W hW => HB2.out.trans (hW.mono hB0v)
      have HSA0 := HSA.out 0
      have HSA0 : Calls Tryz.prog 17 #[.slice A2 M c2, v1] w2 fun e w' => e = .returned (.bool true) ∧ ∃ n, w' = w2.drewN n := HSA0
      have HSZ := Lib.hid HSA0
      clear hT2 hb2 hTW hBW HSA HSA0 hB0 HTR HTW2 HB2
      go_wp2_with fail
      refine HSZ.out.mono ?_
      rintro e w3 ⟨rfl, m, rfl⟩
      obtain ⟨wS, hwS⟩ : ∃ x, x = w2.drewN m := ⟨_, rfl⟩
      have HOV : Hid (∃ T', TsW wS B0 (.slice A2 M c2) M T' rs2) := ⟨_, by rw [hwS]; exact HT2.out.bl (bl_drewN (Below.refl _ _) m)⟩
      have HLB : Hid (∀ i, i < M → (rs2 i).2.1 ≤ 1152921504606846976) := fun i hi => by
        have h1 := HT2.out.len i hi
        have h2 := HSM.out i hi
        omega
      have HSW : Hid (Below B0 w2 wS) := by show Below _ _ _; rw [hwS]; exact bl_drewN (Below.refl _ _) m |>.mono hB0w
      rw [← hwS]
      clear hwS HT2 HSZ HBR
      go_wp2_with fail
      go_loopw [7] (fun x wx => ∃ i : Nat, i ≤ M ∧ x = .int .i64 i ∧ Hid (∃ T', TsW wx B0 (.slice A2 M c2) M T' rs2) ∧ Hid (Below B0 wS wx)) (fun x _ => M - (intOf x).toNat)
      case atStart => exact ⟨0, by omega, rfl, HOV, Below.refl _ _⟩
      case round =>
        clear HOV
        obtain ⟨i, hi, rfl, hT, hB⟩ := hrel
        by_cases hlt3 : i < M
        · obtain ⟨m3, hm3⟩ : ∃ m, m = (rs2 i).2.1 := ⟨_, rfl⟩
          have HM3 := Lib.hid hm3
          have hm3b : m3 ≤ 1152921504606846976 := by rw [hm3]; exact HLB.out i hlt3
          clear hm3
          go_wp2_with fail
          go_loopw [8] (fun x wx => ∃ k : Nat, k ≤ m3 ∧ x = .int .i64 k ∧ Hid (∃ T', TsW wx B0 (.slice A2 M c2) M T' rs2) ∧ Hid (Below B0 wS wx)) (fun x _ => m3 - (intOf x).toNat)
          case atStart => exact ⟨0, by omega, rfl, hT, hB⟩
          case round =>
            clear hT hB
            obtain ⟨k, hk, rfl, hT, hB⟩ := hrel
            obtain ⟨T4, hT4⟩ := hT.out
            obtain ⟨g4, cap4, e4, _, _, hc4⟩ := hT4.cell (show 0 < M by omega)
            cases e4
            have G4 := hc4 i hlt3
            obtain ⟨rA4, rN4, rC4, hr4⟩ : ∃ a n c, rs2 i = (a, n, c) := ⟨_, _, _, rfl⟩
            have hN4 : rN4 = m3 := by rw [HM3.out, hr4]
            subst hN4
            rw [hr4] at G4
            unfold slR at G4
            dsimp only at G4
            by_cases hlt4 : k < rN4
            · obtain ⟨b5, c5, p5, s5, e5, hb5, c50, c51, f50, f51, hput⟩ := ov_at hT4 hlt3 (k := k) (by rw [hr4]; exact hlt4)
              rw [hr4] at e5
              have eA : rA4 = some ⟨b5, 0, none⟩ := congrArg Prod.fst e5
              subst eA
              have HPT := Lib.hid (hput 77 ⟨#[63]⟩)
              have HBP : Hid (Below B0 wS ((wr.setCell ⟨b5, k * 2, none⟩ (.int .i64 77)).setCell ⟨b5, k * 2 + 1, none⟩ (.string ⟨#[63]⟩))) := (hB.out.setCell (p := ⟨b5, k * 2, none⟩) hb5 _).setCell (p := ⟨b5, k * 2 + 1, none⟩) hb5 _
              clear hT4 hc4 hr4 hput e5 hT hB
              go_wp2_with fail
              go_roundw
              case rel => exact ⟨k + 1, by omega, by go_num, HPT, HBP⟩
              case measure => simp [intOf]; omega
            · clear hT4 hc4 hr4
              go_wp2_with fail
              go_roundw
              case rel => exact ⟨i + 1, by omega, by go_num, hT, hB⟩
              case measure => simp [intOf]; omega
        · obtain rfl : i = M := by omega
          have HT9 : Hid (TsW wr w.heap.size v1 i (vT (trL n)) rs1) := HTL.out _ (HSW.out.trans hB.out)
          have HB9 : Hid (Below w.heap.size w wr) := HBL.out _ (HSW.out.trans hB.out)
          clear hT hB HTL HBL
          go_wp2_with fail
          go_roundw
          case rel => exact ⟨q + 1, by omega, by go_num, HT9, HB9⟩
          case measure => simp [intOf]; omega
    · obtain rfl : q = 2 := by omega
      go_wp2_with fail
      refine (HW.out _).mono ?_
      rintro e w2 ⟨rfl, hb2⟩
      go_wp2_with fail
      go_ret
      exact ⟨rfl, bl_trans hBW.out hb2⟩
end Go.Proofs.YtjmnakkkimgifaaGreatDoor
namespace Go.Proofs.YtjmnakkkimgifaaGreatDoor
open Go Go.RowKit Go.Shelf
theorem nearT_le (t : List Nd) : (nearT t).length ≤ 100 ∧ ∀ k, k < (nearT t).length → (vT (nearT t) k).length ≤ 1000 := by
  by_cases h : nearE t = 0
  · have h1 := nearE_zero h
    have hT : ClT t t.length := ⟨rfl, h1.1, h1.2⟩
    have e : nearT t = nearL t t.length := by unfold nearT; rw [if_pos h]
    have h63 := h1.1.2.1
    rw [e]
    refine ⟨by rw [near_len rfl h1.1 h1.2]; omega, fun k hk => ?_⟩
    rw [(hT.near hk).1]; omega
  · have e : nearT t = [] := by unfold nearT; rw [if_neg h]
    rw [e]
    exact ⟨by simp, fun k hk => absurd hk (by simp)⟩
set_option maxRecDepth 100000 in
set_option maxHeartbeats 4000000 in
theorem nrlaw33_any (a : Option Addr) (n d : Nat) (t : List Nd) (w : World) (hn : t.length = n) (hN : n ≤ 1152921504606846976) (hA : Rd w a (fl encNd t)) (hS : ∀ v, v < n → (nS t v).size ≤ 9223372036854775807) :
    Calls Tryz.prog 4 #[.slice a n d] w fun e w' => e = .returned (.bool true) ∧ Below w.heap.size w w' := by
  have HW := Lib.hid works_any
  have HN := Lib.hid hn
  have HA := Lib.hid (fun W (hW : Below w.heap.size w W) => hA.bl hW)
  have HS := Lib.hid hS
  have HA0 : Hid (a = none → n = 0) := fun e => by
    rcases Nat.eq_zero_or_pos n with h | h
    · exact h
    · obtain ⟨b, o, e2, _⟩ := rdNd hA (by rw [hn]; exact h)
      rw [e] at e2; cases e2
  clear hn hA hS
  by_cases h70 : 70 < n
  · have h70' : (70 : Int) < (n : Int) := by omega
    go_enter Tryz.func4, Tryz.ntmps4
    go_wp2_with fail
    refine (HW.out w).mono ?_
    rintro e w2 ⟨rfl, hb2⟩
    go_wp2_with fail
    go_ret
    exact ⟨rfl, hb2⟩
  · have h70' : ¬ ((70 : Int) < (n : Int)) := by omega
    obtain ⟨hM, hSM⟩ := nearT_le t
    obtain ⟨M, hMe⟩ : ∃ M, M = (nearT t).length := ⟨_, rfl⟩
    rw [← hMe] at hM hSM
    have HSM := Lib.hid hSM
    have HME := Lib.hid hMe
    obtain ⟨E, hE⟩ : ∃ E, E = nearE t := ⟨_, rfl⟩
    have HEE := Lib.hid hE
    have t0 : (E != E) = false := by simp
    have t1 : (E == E) = true := by simp
    have hown0 : (w.alloc (.cells #[] 46)).ownsRow w.heap.size 46 2 (.slice (some ⟨w.heap.size, 0, none⟩) 0 0) 0 (fl encNd []) := by
      have := owns_made (w := w) (base := w.heap.size) (e := 46) (k := 2) (n := 0) (cs := #[]) (Nat.le_refl _) (by simp) (by omega)
      exact this
    have HO0 := Lib.hid hown0
    have HB6 := Lib.hid (bl_alloc (Below.refl w.heap.size w) (.cells #[] 46))
    clear hMe hE hSM hown0
    go_enter Tryz.func4, Tryz.ntmps4
    go_upto_region 4 with (at_builtin; refine wpList_pushs (enc := encNd) (k := 2) (bytes := 24) rfl encNd_len (by decide) encNd_oneR (base := w.heap.size) Tryz.underlying25 info_Nd rfl (.tmp 14) (.tmp 15) rfl (.slice (some ⟨w.heap.size, 0, none⟩) 0 0) ([] : List Nd) 0 rfl rfl HO0.out a n d t HN.out.symm rfl (HA.out _ HB6.out) HA0.out (by omega) (by decide) HB6.out.size ?_; intro v7 w7 h71 h72 h73; rw [Nat.zero_add, List.nil_append] at h71; obtain ⟨A7, c7, rfl, ha7⟩ := owns_slice h71; have H71 := Lib.hid h71; have hb7 : Below w.heap.size w w7 := HB6.out.grown h72 HB6.out.size (fun r e => (HO0.out.lt r e).1); have HB7 := Lib.hid hb7; clear h71 h72 h73 hb7 ha7)
    have HQ := Lib.hid (rNear_any a n d t w7 HN.out hN (HA.out w7 HB7.out) HS.out)
    go_wp2_with fail
    refine HQ.out.mono ?_
    rintro e w1 ⟨v1, rs1, rfl, hT1, hb1⟩
    rw [← HME.out] at hT1
    rw [← HEE.out]
    have HTW := Lib.hid hT1
    have HB1 := Lib.hid (bl_trans HB7.out hb1)
    have HND := Lib.hid (owns_below H71.out hb1)
    clear hT1 hb1 HQ HB7 H71 HO0 HB6
    obtain ⟨B7, hB7⟩ : ∃ B, B = w7.heap.size := ⟨_, rfl⟩
    rw [← hB7] at HTW
    clear hB7
    go_wp2_with fail
    go_loopw [22] (fun x wr => ∃ q : Nat, q ≤ 2 ∧ x = .int .i64 q ∧ Hid (TsW wr B7 v1 M (vT (nearT t)) rs1) ∧ Hid (wr.ownsRow w.heap.size 46 2 (.slice A7 n c7) n (fl encNd t)) ∧ Hid (Below w.heap.size w wr)) (fun x _ => 2 - (intOf x).toNat)
    case atStart => exact ⟨0, by omega, rfl, HTW, HND, HB1⟩
    case round =>
      clear HTW HB1 HND
      obtain ⟨q, hq, rfl, hTW, hND, hBW⟩ := hrel
      by_cases hlt : q < 2
      · have HT1 := Lib.hid (near_any A7 n c7 t wr HN.out hN (rd_of_owns hND.out) HS.out)
        go_wp2_with fail
        refine HT1.out.mono ?_
        rintro e w2 ⟨v2, rs2, rfl, hT2, hb2⟩
        rw [← HME.out] at hT2
        rw [← HEE.out]
        have HT2 := Lib.hid hT2
        have HB2 := Lib.hid (bl_trans hBW.out hb2)
        have HSA := Lib.hid (fun m => rsame_any v2 v1 M (vT (nearT t)) rs2 rs1 (w2.drewN m) (by omega) (hT2.bl (bl_drewN (Below.refl _ _) m)).rsW ((hTW.out.bl hb2).bl (bl_drewN (Below.refl _ _) m)).rsW (fun i hi => by have := HSM.out i hi; omega))
        have HBR := Lib.hid hb2
        obtain ⟨A2, c2, rfl, _⟩ := owns_slice hT2.rows
        obtain ⟨B0, hB0⟩ : ∃ B, B = wr.heap.size := ⟨_, rfl⟩
        have hB0w : B0 ≤ w2.heap.size := by rw [hB0]; exact hb2.size
        have hB0v : w.heap.size ≤ B0 := by rw [hB0]; exact hBW.out.size
        rw [← hB0] at HT2 HBR
        have HTL : Hid (∀ W, Below B0 w2 W → TsW W B7 v1 M (vT (nearT t)) rs1 ∧ W.ownsRow w.heap.size 46 2 (.slice A7 n c7) n (fl encNd t)) := fun W hW => by
          have h0 : Below wr.heap.size wr W := by rw [← hB0]; exact HBR.out.trans hW
          exact ⟨hTW.out.bl h0, owns_below hND.out h0⟩
        have HBL : Hid (∀ W, Below B0 w2 W → Below w.heap.size w W) := fun W hW => HB2.out.trans (hW.mono hB0v)
        have HSA0 := HSA.out 0
        have HSA0 : Calls Tryz.prog 17 #[.slice A2 M c2, v1] w2 fun e w' => e = .returned (.bool true) ∧ ∃ n, w' = w2.drewN n := HSA0
        have HSZ := Lib.hid HSA0
        clear hT2 hb2 hTW hND hBW HSA HSA0 hB0 HB2 HT1
        go_wp2_with fail
        refine HSZ.out.mono ?_
        rintro e w3 ⟨rfl, m, rfl⟩
        obtain ⟨wS, hwS⟩ : ∃ x, x = w2.drewN m := ⟨_, rfl⟩
        have HOV : Hid (∃ T', TsW wS B0 (.slice A2 M c2) M T' rs2) := ⟨_, by rw [hwS]; exact HT2.out.bl (bl_drewN (Below.refl _ _) m)⟩
        have HLB : Hid (∀ i, i < M → (rs2 i).2.1 ≤ 1152921504606846976) := fun i hi => by
          have h1 := HT2.out.len i hi
          have h2 := HSM.out i hi
          omega
        have HSW : Hid (Below B0 w2 wS) := by show Below _ _ _; rw [hwS]; exact bl_drewN (Below.refl _ _) m |>.mono hB0w
        rw [← hwS]
        clear hwS HT2 HSZ HBR
        go_wp2_with fail
        go_loopw [8] (fun x wx => ∃ i : Nat, i ≤ M ∧ x = .int .i64 i ∧ Hid (∃ T', TsW wx B0 (.slice A2 M c2) M T' rs2) ∧ Hid (Below B0 wS wx)) (fun x _ => M - (intOf x).toNat)
        case atStart => exact ⟨0, by omega, rfl, HOV, Below.refl _ _⟩
        case round =>
          clear HOV
          obtain ⟨i, hi, rfl, hT, hB⟩ := hrel
          by_cases hlt3 : i < M
          · obtain ⟨m3, hm3⟩ : ∃ m, m = (rs2 i).2.1 := ⟨_, rfl⟩
            have HM3 := Lib.hid hm3
            have hm3b : m3 ≤ 1152921504606846976 := by rw [hm3]; exact HLB.out i hlt3
            clear hm3
            go_wp2_with fail
            go_loopw [9] (fun x wx => ∃ k : Nat, k ≤ m3 ∧ x = .int .i64 k ∧ Hid (∃ T', TsW wx B0 (.slice A2 M c2) M T' rs2) ∧ Hid (Below B0 wS wx)) (fun x _ => m3 - (intOf x).toNat)
            case atStart => exact ⟨0, by omega, rfl, hT, hB⟩
            case round =>
              clear hT hB
              obtain ⟨k, hk, rfl, hT, hB⟩ := hrel
              obtain ⟨T4, hT4⟩ := hT.out
              obtain ⟨g4, cap4, e4, _, _, hc4⟩ := hT4.cell (show 0 < M by omega)
              cases e4
              have G4 := hc4 i hlt3
              obtain ⟨rA4, rN4, rC4, hr4⟩ : ∃ a n c, rs2 i = (a, n, c) := ⟨_, _, _, rfl⟩
              have hN4 : rN4 = m3 := by rw [HM3.out, hr4]
              subst hN4
              rw [hr4] at G4
              unfold slR at G4
              dsimp only at G4
              by_cases hlt4 : k < rN4
              · obtain ⟨b5, c5, p5, s5, e5, hb5, c50, c51, f50, f51, hput⟩ := ov_at hT4 hlt3 (k := k) (by rw [hr4]; exact hlt4)
                rw [hr4] at e5
                have eA : rA4 = some ⟨b5, 0, none⟩ := congrArg Prod.fst e5
                subst eA
                have HPT := Lib.hid (hput 77 ⟨#[63]⟩)
                have HBP : Hid (Below B0 wS ((wr.setCell ⟨b5, k * 2, none⟩ (.int .i64 77)).setCell ⟨b5, k * 2 + 1, none⟩ (.string ⟨#[63]⟩))) := (hB.out.setCell (p := ⟨b5, k * 2, none⟩) hb5 _).setCell (p := ⟨b5, k * 2 + 1, none⟩) hb5 _
                clear hT4 hc4 hr4 hput e5 hT hB
                go_wp2_with fail
                go_roundw
                case rel => exact ⟨k + 1, by omega, by go_num, HPT, HBP⟩
                case measure => simp [intOf]; omega
              · clear hT4 hc4 hr4
                go_wp2_with fail
                go_roundw
                case rel => exact ⟨i + 1, by omega, by go_num, hT, hB⟩
                case measure => simp [intOf]; omega
          · obtain rfl : i = M := by omega
            obtain ⟨ht9, hn9⟩ := HTL.out _ (HSW.out.trans hB.out)
            have HT9 := Lib.hid ht9
            have HN9 := Lib.hid hn9
            have HB9 : Hid (Below w.heap.size w wr) := HBL.out _ (HSW.out.trans hB.out)
            clear hT hB HTL HBL ht9 hn9
            go_wp2_with fail
            go_roundw
            case rel => exact ⟨q + 1, by omega, by go_num, HT9, HN9, HB9⟩
            case measure => simp [intOf]; omega
      · obtain rfl : q = 2 := by omega
        have hb4 := bl_alloc (bl_alloc (Below.refl _ wr) (.cells #[.slice A7 n c7] 25)) (.cells #[.slice a n d] 25)
        have HS9 := Lib.hid (rsame_any (.slice (some ⟨wr.heap.size, 0, none⟩) 1 1) (.slice (some ⟨wr.heap.size + 1, 0, none⟩) 1 1) 1 (fun _ => t) _ _ ((wr.alloc (.cells #[.slice A7 n c7] 25)).alloc (.cells #[.slice a n d] 25)) (by omega)
          (rsW_one ((Blk.new wr _ _).alloc _) ((rd_of_owns hND.out).bl hb4) HN.out) (rsW_one (Blk.new2 wr _ _ _) ((HA.out _ hBW.out).bl hb4) HN.out) (fun i _ => by have := HN.out; omega))
        have HB4 := Lib.hid (bl_trans hBW.out hb4)
        clear hb4
        go_wp2_with fail
        refine HS9.out.mono ?_
        rintro e w5 ⟨rfl, q, rfl⟩
        go_wp2_with fail
        refine (HW.out _).mono ?_
        rintro e w6 ⟨rfl, hb6⟩
        go_wp2_with fail
        go_ret
        exact ⟨rfl, bl_trans (bl_drewN HB4.out q) hb6⟩
end Go.Proofs.YtjmnakkkimgifaaGreatDoor
namespace Go.Proofs.YtjmnakkkimgifaaGreatDoor
open Go Go.RowKit Go.Shelf
def updV (u : Nat → Value) (d : Nat) (v : Value) : Nat → Value := fun i => if i = d then v else u i
/-- The frame in which the slots ds hold u. -/
def frmV (a : Act) (u : Nat → Value) : List Nat → Act
  | [] => a
  | d :: ds => (frmV a u ds).put (some d) (u d)
theorem frmV_size (a : Act) (u : Nat → Value) : ∀ ds, (frmV a u ds).tmps.size = a.tmps.size
  | [] => rfl
  | d :: ds => by
    show ((frmV a u ds).tmps.setIfInBounds d (u d)).size = _
    rw [Array.size_setIfInBounds, frmV_size a u ds]
theorem frmV_get {a : Act} {u : Nat → Value} {t : Nat} (ht : t < a.tmps.size) : ∀ ds, (frmV a u ds).tmps.getD t undef = if t ∈ ds then u t else a.tmps.getD t undef
  | [] => rfl
  | d :: ds => by
    have ih := frmV_get (u := u) ht ds
    have hs := frmV_size a u ds
    show ((frmV a u ds).tmps.setIfInBounds d (u d)).getD t undef = _
    by_cases e : d = t
    · subst e
      rw [if_pos (List.mem_cons_self ..)]
      simp [Array.getD_eq_getD_getElem?, hs, ht]
    · have h1 : ((frmV a u ds).tmps.setIfInBounds d (u d)).getD t undef = (frmV a u ds).tmps.getD t undef := by
        simp [Array.getD_eq_getD_getElem?, e]
      rw [h1, ih]
      by_cases q : t ∈ ds
      · rw [if_pos q, if_pos (List.mem_cons_of_mem _ q)]
      · rw [if_neg q, if_neg (fun h => by
          rcases List.mem_cons.1 h with h | h
          · exact e h.symm
          · exact q h)]
theorem frmV_def (a : Act) (u : Nat → Value) : ∀ ds, (frmV a u ds).defers = a.defers
  | [] => rfl
  | _ :: ds => frmV_def a u ds
theorem act_ext {a b : Act} (hd : a.defers = b.defers) (hs : a.tmps.size = b.tmps.size) (h : ∀ t, t < a.tmps.size → a.tmps.getD t undef = b.tmps.getD t undef) : a = b := by
  cases a; cases b
  congr
  apply Array.ext hs
  intro i h1 h2
  have h3 := h i h1
  simpa [Array.getD_eq_getD_getElem?, h1, h2] using h3
/-- A slot of ds is laid anew. -/
theorem frmV_put {a : Act} {u : Nat → Value} {ds : List Nat} {d : Nat} (hd : d ∈ ds) (v : Value) : (frmV a u ds).put (some d) v = frmV a (updV u d v) ds := by
  have hs := frmV_size a u ds
  have hs2 := frmV_size a (updV u d v) ds
  refine act_ext ?_ ?_ ?_
  · rw [frmV_def]; exact frmV_def a u ds
  · show ((frmV a u ds).tmps.setIfInBounds d v).size = _
    rw [Array.size_setIfInBounds, hs, hs2]
  · intro t ht
    have ht' : t < a.tmps.size := by
      have : ((frmV a u ds).tmps.setIfInBounds d v).size = a.tmps.size := by rw [Array.size_setIfInBounds, hs]
      have ht2 : t < ((frmV a u ds).tmps.setIfInBounds d v).size := ht
      omega
    rw [frmV_get ht']
    show ((frmV a u ds).tmps.setIfInBounds d v).getD t undef = _
    by_cases e : d = t
    · subst e
      rw [if_pos hd]
      simp [Array.getD_eq_getD_getElem?, hs, ht', updV]
    · have h1 : ((frmV a u ds).tmps.setIfInBounds d v).getD t undef = (frmV a u ds).tmps.getD t undef := by
        simp [Array.getD_eq_getD_getElem?, e]
      rw [h1, frmV_get ht']
      by_cases q : t ∈ ds
      · rw [if_pos q, if_pos q]; unfold updV; rw [if_neg (fun h => e h.symm)]
      · rw [if_neg q, if_neg q]
theorem frmV_self (a : Act) (ds : List Nat) : a = frmV a (fun t => a.tmps.getD t undef) ds := by
  refine act_ext (frmV_def a _ ds).symm (frmV_size a _ ds).symm fun t ht => ?_
  rw [frmV_get ht]
  by_cases q : t ∈ ds
  · rw [if_pos q]
  · rw [if_neg q]
theorem getD_set_ne {l : Array Bool} {i k : Nat} (h : i ≠ k) : (l.setIfInBounds i true).getD k true = l.getD k true := by
  simp [Array.getD_eq_getD_getElem?, h]
section
variable {P : Program} {ops : Array Oper} {Q : Exit → Act → World → Prop} {md : Region.Mode}
/-- Each operation waits for earlier ones alone. -/
def backB (l : List Oper) : Bool := (List.range l.length).all fun k => match l[k]? with
  | some o => o.after.all fun e => decide (e.on < k)
  | none => true
theorem ready_all {ops : Array Oper} {listed : Array Bool} (hs : listed.size = ops.size) (hb : ∀ (k : Nat) (o : Oper), ops[k]? = some o → ∀ e ∈ o.after, e.on < k) (hr : Region.ready md ops listed = []) : ∀ k, k < ops.size → listed.getD k true = true := by
  intro k
  induction k using Nat.strongRecOn with
  | ind k ih =>
    intro hk
    by_cases q : listed.getD k true = true
    · exact q
    · exfalso
      have q' : listed.getD k true = false := by simpa using q
      have hm : k ∈ Region.ready md ops listed := by
        unfold Region.ready
        rw [List.mem_filter]
        refine ⟨List.mem_range.2 hk, ?_⟩
        rw [q', Array.getElem?_eq_getElem hk]
        simp only [Bool.not_false, Bool.true_and, Option.map_some, Option.getD_some]
        rw [Array.all_eq_true']
        intro e he
        have h1 := hb k _ (Array.getElem?_eq_getElem hk) e he
        have h2 := ih e.on h1 (by omega)
        have h3 : listed.getD e.on false = true := by
          have : e.on < listed.size := by omega
          simpa [Array.getD_eq_getD_getElem?, this] using h2
        rw [h3, Bool.or_true]
      rw [hr] at hm
      cases hm
theorem wpAny_good {ops : Array Oper} (F : (Nat → Value) → Act) (dst : Nat → Nat) (Good : Nat → Value → World → Prop) (R : World → World → Prop) (w0 : World)
    (hb : ∀ (k : Nat) (o : Oper), ops[k]? = some o → ∀ e ∈ o.after, e.on < k)
    (hinj : ∀ j k, j < ops.size → k < ops.size → dst j = dst k → j = k)
    (hR : ∀ a b c, R a b → R b c → R a c) (hmono : ∀ k v w w', Good k v w → R w w' → Good k v w')
    (hstep : ∀ (k : Nat) (o : Oper), ops[k]? = some o → ∀ u w, R w0 w → (∀ e ∈ o.after, Region.binds md e = true → Good e.on (u (dst e.on)) w) →
      wpOp P ops Q k (fun a' w' => ∃ v, a' = F (updV u (dst k) v) ∧ Good k v w' ∧ R w w') (F u) w)
    (hend : ∀ u w, R w0 w → (∀ k, k < ops.size → Good k (u (dst k)) w) → Q .normal (F u) w) :
    ∀ (f : Nat) (listed : Array Bool) (u : Nat → Value) (w : World), listed.size = ops.size → R w0 w → (∀ k, k < ops.size → listed.getD k true = true → Good k (u (dst k)) w) →
      ((List.range ops.size).filter fun k => !listed.getD k true).length ≤ f → wpAny P md ops Q f listed (F u) w := by
  have fin : ∀ (listed : Array Bool) (u : Nat → Value) (w : World), listed.size = ops.size → R w0 w → (∀ k, k < ops.size → listed.getD k true = true → Good k (u (dst k)) w) → Region.ready md ops listed = [] → Q .normal (F u) w := fun listed u w hs hw hg hr =>
    hend u w hw fun k hk => hg k hk (ready_all hs hb hr k hk)
  intro f
  induction f with
  | zero =>
    intro listed u w hs hw hg hf
    have hr : Region.ready md ops listed = [] := by
      have h0 : ((List.range ops.size).filter fun k => !listed.getD k true) = [] := List.eq_nil_of_length_eq_zero (by omega)
      rw [List.filter_eq_nil_iff] at h0
      unfold Region.ready
      rw [List.filter_eq_nil_iff]
      intro i hi
      have := h0 i hi
      simp only [Bool.not_eq_true'] at this
      simp only [Bool.and_eq_true, Bool.not_eq_true']
      exact fun h => this h.1
    exact ⟨hr, fin listed u w hs hw hg hr⟩
  | succ f ih =>
    intro listed u w hs hw hg hf
    refine ⟨fin listed u w hs hw hg, fun i hi => ?_⟩
    have hi2 := hi
    unfold Region.ready at hi2
    rw [List.mem_filter, List.mem_range, Bool.and_eq_true] at hi2
    obtain ⟨hin, hnl, haf⟩ := hi2
    have hnl' : listed.getD i true = false := by simpa using hnl
    rw [Array.getElem?_eq_getElem hin] at haf
    simp only [Option.map_some, Option.getD_some] at haf
    rw [Array.all_eq_true'] at haf
    refine wpOp_mono ?_ (hstep i _ (Array.getElem?_eq_getElem hin) u w hw fun e he hbi => ?_)
    · rintro a' w' ⟨v, rfl, hgv, hr⟩
      refine ih _ _ _ (by rw [Array.size_setIfInBounds, hs]) (hR _ _ _ hw hr) (fun k hk hl => ?_) ?_
      · by_cases e : k = i
        · subst e
          unfold updV
          rw [if_pos rfl]; exact hgv
        · have hl' : listed.getD k true = true := by
            rw [← getD_set_ne (fun h => e h.symm)]; exact hl
          have hne : dst k ≠ dst i := fun h => e (hinj k i hk hin h)
          unfold updV
          rw [if_neg hne]
          exact hmono _ _ _ _ (hg k hk hl') hr
      · have hlt : ((List.range ops.size).filter fun k => !(listed.setIfInBounds i true).getD k true).length < ((List.range ops.size).filter fun k => !listed.getD k true).length := by
          have he : ((List.range ops.size).filter fun k => !(listed.setIfInBounds i true).getD k true) = (((List.range ops.size).filter fun k => !listed.getD k true).filter fun k => decide (k ≠ i)) := by
            rw [List.filter_filter]
            refine List.filter_congr fun k hk => ?_
            by_cases e : k = i
            · subst e
              have : k < listed.size := by omega
              simp [Array.getD_eq_getD_getElem?, this]
            · rw [getD_set_ne (fun h => e h.symm), decide_eq_true e, Bool.true_and]
          rw [he]
          refine List.length_filter_lt_length_iff_exists.2 ⟨i, List.mem_filter.2 ⟨List.mem_range.2 hin, by rw [hnl']; rfl⟩, by simp⟩
        omega
    · have h1 := haf e he
      rw [hbi] at h1
      have h3 : listed.getD e.on false = true := by simpa using h1
      have hlt := hb i _ (Array.getElem?_eq_getElem hin) e he
      refine hg e.on (by omega) ?_
      have : e.on < listed.size := by omega
      simpa [Array.getD_eq_getD_getElem?, this] using h3
/-- What an operation waits for. -/
def depsL (o : Oper) : List Nat := (o.after.toList.filter fun e => Region.binds .any e).map (·.on)
/-- Each operation of the list, run where what it waits for is good, leaves something good. -/
def StepsG (P : Program) (ops : Array Oper) (Q : Exit → Act → World → Prop) (a : Act) (ds : List Nat) (Good : Nat → Value → World → Prop) (R : World → World → Prop) (w0 : World) : List Oper → Nat → Prop
  | [], _ => True
  | o :: r, k => (∀ u w, R w0 w → (∀ j ∈ depsL o, Good j (u (ds.getD j 0)) w) → wpOp P ops Q k (fun a' w' => ∃ v, a' = frmV a (updV u (ds.getD k 0) v) ds ∧ Good k v w' ∧ R w w') (frmV a u ds) w) ∧ StepsG P ops Q a ds Good R w0 r (k + 1)
theorem stepsG_at {ops : Array Oper} {a : Act} {ds : List Nat} {Good : Nat → Value → World → Prop} {R : World → World → Prop} {w0 : World} (l : List Oper) : ∀ (k0 : Nat), StepsG P ops Q a ds Good R w0 l k0 → ∀ k (o : Oper), l[k]? = some o →
    ∀ u w, R w0 w → (∀ j ∈ depsL o, Good j (u (ds.getD j 0)) w) → wpOp P ops Q (k0 + k) (fun a' w' => ∃ v, a' = frmV a (updV u (ds.getD (k0 + k) 0) v) ds ∧ Good (k0 + k) v w' ∧ R w w') (frmV a u ds) w := by
  induction l with
  | nil => intro k0 _ k o ho; simp at ho
  | cons o r ih =>
    intro k0 h k o' ho u w hw hg
    cases k with
    | zero =>
      obtain rfl : o = o' := by simpa using ho
      exact h.1 u w hw hg
    | succ k =>
      have h1 := ih (k0 + 1) h.2 k o' (by simpa using ho) u w hw hg
      rw [show k0 + 1 + k = k0 + (k + 1) by omega] at h1
      exact h1
/-- The closed facts that the law wants. -/
def goodB (l : List Oper) (ds : List Nat) : Bool := backB l && decide (ds.length = l.length) && decide ds.Nodup
/-- The region: in whatever order, what is left is good. -/
theorem wp_region_good {id : Nat} {a : Act} {w : World} {l : List Oper} (ds : List Nat) (Good : Nat → Value → World → Prop) (R : World → World → Prop) (hm : P.follows .mixedOrders = true) (hB : goodB l ds = true)
    (h0 : R w.drew w.drew) (hR : ∀ a b c, R a b → R b c → R a c) (hmono : ∀ k v w w', Good k v w → R w w' → Good k v w')
    (hs : ∀ (a0 : Act) (ops0 : Array Oper), a0 = a → ops0 = l.toArray → StepsG P ops0 Q a0 ds Good R w.drew l 0)
    (hend : ∀ u w', R w.drew w' → (∀ k, k < l.length → Good k (u (ds.getD k 0)) w') → Q .normal (frmV a u ds) w') : (Code.region id l.toArray true).wp P Q a w := by
  unfold goodB at hB
  rw [Bool.and_eq_true, Bool.and_eq_true, decide_eq_true_eq, decide_eq_true_eq] at hB
  obtain ⟨⟨hb, hl⟩, hnd⟩ := hB
  refine wp_region_any hm ?_
  have hself := frmV_self a ds
  have hgo := wpAny_good (P := P) (ops := l.toArray) (Q := Q) (md := .any) (fun u => frmV a u ds) (fun k => ds.getD k 0) Good R w.drew
    (fun k o ho e he => by
      unfold backB at hb
      rw [List.all_eq_true] at hb
      have hk : k < l.length := by
        have := (Array.getElem?_eq_some_iff.1 ho).1
        simpa using this
      have h1 := hb k (List.mem_range.2 hk)
      have ho' : l[k]? = some o := by simpa using ho
      rw [ho'] at h1
      have h2 : (o.after.all fun e => decide (e.on < k)) = true := h1
      rw [Array.all_eq_true'] at h2
      simpa using h2 e he)
    (fun j k hj hk e => by
      have hj' : j < ds.length := by rw [hl]; simpa using hj
      have hk' : k < ds.length := by rw [hl]; simpa using hk
      have e' : ds[j] = ds[k] := by
        simpa [List.getD_eq_getElem?_getD, hj', hk'] using e
      exact (List.getElem_inj hnd).1 e')
    hR hmono
    (fun k o ho u w' hw hg => by
      have ho' : l[k]? = some o := by simpa using ho
      have h1 := stepsG_at l 0 (hs a l.toArray rfl rfl) k o ho' u w' hw (fun j hj => by
        unfold depsL at hj
        rw [List.mem_map] at hj
        obtain ⟨e, he, rfl⟩ := hj
        rw [List.mem_filter] at he
        exact hg e (by simpa using he.1) he.2)
      rw [Nat.zero_add] at h1
      exact h1)
    (fun u w' hw hg => hend u w' hw (fun k hk => hg k (by simpa using hk)))
    l.toArray.size (Array.replicate l.toArray.size false) (fun t => a.tmps.getD t undef) w.drew (by simp) h0
    (fun k hk hl => by
      have : k < (Array.replicate l.toArray.size false).size := by simpa using hk
      rw [getD_in this (getD_replicate_false _ _)] at hl
      cases hl)
    (Nat.le_trans (List.length_filter_le _ _) (by simp))
  have hself2 : frmV a (fun t => a.tmps.getD t undef) ds = a := hself.symm
  simp only [hself2] at hgo
  exact hgo
theorem frmV_in {a : Act} {u : Nat → Value} {ds : List Nat} {t : Nat} (ht : t < a.tmps.size) (h : ds.contains t = true) : (frmV a u ds).eval (.tmp t) = u t := by
  have := frmV_get (u := u) ht ds
  rw [if_pos (by simpa using h)] at this
  exact this
theorem frmV_out {a : Act} {u : Nat → Value} {ds : List Nat} {t : Nat} (ht : t < a.tmps.size) (h : ds.contains t = false) : (frmV a u ds).eval (.tmp t) = a.tmps.getD t undef := by
  have := frmV_get (u := u) ht ds
  rw [if_neg (by simpa using h)] at this
  exact this
/-- A step that yields a value. -/
theorem good_run {ops : Array Oper} {a : Act} {ds : List Nat} {Good : Nat → Value → World → Prop} {R : World → World → Prop} {k d : Nat} {o : Oper} {u : Nat → Value} {w w' : World} {v : Value} (ho : ops[k]? = some o) (hg : o.guard = none) (hd : o.dst = some d) (hk : ds.getD k 0 = d) (hin : ds.contains d = true)
    (hrun : (execOp (frmV a u ds).eval o).run P w = .ok (.value v) w') (h : Good k v w' ∧ R w w') : wpOp P ops Q k (fun a' w' => ∃ v, a' = frmV a (updV u (ds.getD k 0) v) ds ∧ Good k v w' ∧ R w w') (frmV a u ds) w := by
  unfold wpOp
  simp only [ho]
  have hw : Region.wanted o (yielded ops (frmV a u ds).tmps) = true := by unfold Region.wanted; rw [hg]
  rw [if_pos hw]
  refine .inl ?_
  unfold Oper.wp
  rw [hrun]
  show ∃ v', (frmV a u ds).put o.dst v = _ ∧ _
  refine ⟨v, ?_, h⟩
  rw [hd, hk]
  exact frmV_put (by simpa using hin) v
/-- A step that calls. -/
theorem good_call {ops : Array Oper} {a : Act} {ds : List Nat} {Good : Nat → Value → World → Prop} {R : World → World → Prop} {k d f : Nat} {o : Oper} {u : Nat → Value} {w : World} {args : Array Value} (ho : ops[k]? = some o) (hg : o.guard = none) (hd : o.dst = some d) (hk : ds.getD k 0 = d) (hin : ds.contains d = true)
    (hrun : (execOp (frmV a u ds).eval o).run P w = .ok (.enter f args) w) (h : Calls P f args w fun e w' => ∃ v, e = .returned v ∧ Good k v w' ∧ R w w') : wpOp P ops Q k (fun a' w' => ∃ v, a' = frmV a (updV u (ds.getD k 0) v) ds ∧ Good k v w' ∧ R w w') (frmV a u ds) w := by
  unfold wpOp
  simp only [ho]
  have hw : Region.wanted o (yielded ops (frmV a u ds).tmps) = true := by unfold Region.wanted; rw [hg]
  rw [if_pos hw]
  refine .inl ?_
  unfold Oper.wp
  rw [hrun]
  refine Calls.mono h ?_
  rintro e w' ⟨v, rfl, hg2⟩
  show ∃ v', (frmV a u ds).put o.dst v = _ ∧ _
  refine ⟨v, ?_, hg2⟩
  rw [hd, hk]
  exact frmV_put (by simpa using hin) v
end
end Go.Proofs.YtjmnakkkimgifaaGreatDoor
namespace Go.Proofs.YtjmnakkkimgifaaGreatDoor
open Go Go.RowKit Go.Shelf
section
variable {P : Program} {ops : Array Oper} {Q : Exit → Act → World → Prop} {md : Region.Mode}
/-- The listing in which just the first n are listed. -/
def fullA (n m : Nat) : Array Bool := ((List.replicate n true) ++ (List.replicate (m - n) false)).toArray
theorem full_of {n : Nat} {listed : Array Bool} (hn : n ≤ ops.size) (inv : HeadInv md ops n listed) (h : ∀ k, k < n → listed.getD k true = true) : listed = fullA n ops.size := by
  have hs := inv.size
  apply Array.ext
  · simp [fullA, hs]; omega
  · intro i h1 h2
    have hi : i < ops.size := by omega
    have e1 : listed[i] = listed.getD i true := by simp [Array.getD_eq_getD_getElem?, h1]
    rw [e1]
    simp only [fullA, List.getElem_toArray]
    by_cases q : i < n
    · rw [h i q, List.getElem_append_left (by simpa using q)]; simp
    · rw [inv.tail i (by omega) hi, List.getElem_append_right (by simpa using q)]; simp
def unlC (n : Nat) (listed : Array Bool) : Nat := ((List.range n).filter fun k => !listed.getD k true).length
theorem wpAny_goodT {n : Nat} (F : (Nat → Value) → Act) (dst : Nat → Nat) (Good : Nat → Value → World → Prop) (R : World → World → Prop) (w0 : World) (l : List Oper) (hl : l.toArray = ops)
    (hb : ∀ (k : Nat) (o : Oper), ops[k]? = some o → ∀ e ∈ o.after, e.on < k)
    (hs : Region.sinkB md ops n = true) (hc : Region.chainB md ops n = true) (hn : n < ops.size) (hseq : Region.seqB md ops (ops.size - n) n (fullA n ops.size) = true)
    (hinj : ∀ j k, j < n → k < n → dst j = dst k → j = k)
    (hR : ∀ a b c, R a b → R b c → R a c) (hmono : ∀ k v w w', Good k v w → R w w' → Good k v w')
    (hstep : ∀ (k : Nat) (o : Oper), k < n → ops[k]? = some o → ∀ u w, R w0 w → (∀ e ∈ o.after, Region.binds md e = true → Good e.on (u (dst e.on)) w) →
      wpOp P ops Q k (fun a' w' => ∃ v, a' = F (updV u (dst k) v) ∧ Good k v w' ∧ R w w') (F u) w)
    (hend : ∀ u w, R w0 w → (∀ k, k < n → Good k (u (dst k)) w) → wpList P ops Q (l.drop n) (F u) w) :
    ∀ (f : Nat) (listed : Array Bool) (u : Nat → Value) (w : World), HeadInv md ops n listed → R w0 w → (∀ k, k < n → listed.getD k true = true → Good k (u (dst k)) w) →
      unlC n listed = f → wpAny P md ops Q (f + (ops.size - n)) listed (F u) w := by
  have hsz : l.length = ops.size := by rw [← hl]; simp
  intro f
  induction f with
  | zero =>
    intro listed u w inv hw hg hf
    have hall : ∀ k, k < n → listed.getD k true = true := fun k hk => by
      have h0 : ((List.range n).filter fun k => !listed.getD k true) = [] := List.eq_nil_of_length_eq_zero hf
      rw [List.filter_eq_nil_iff] at h0
      have := h0 k (List.mem_range.2 hk)
      simpa using this
    have e := full_of (by omega) inv hall
    have h1 := wpAny_of_seq (md := md) (Q' := Q) (P := P) (ops := ops) (l.drop n) n listed (F u) w (fun j => by rw [← hl]; simp [List.getElem?_drop]) (by
      rw [List.length_drop, hsz, e]; exact hseq) (hend u w hw fun k hk => hg k hk (hall k hk))
    rw [List.length_drop, hsz] at h1
    rw [Nat.zero_add]; exact h1
  | succ f ih =>
    intro listed u w inv hw hg hf
    have hex : ∃ i0, i0 < n ∧ listed.getD i0 true = false := by
      have h0 : 0 < ((List.range n).filter fun k => !listed.getD k true).length := by unfold unlC at hf; omega
      obtain ⟨i0, hi0⟩ := List.exists_mem_of_length_pos h0
      rw [List.mem_filter, List.mem_range] at hi0
      exact ⟨i0, hi0.1, by simpa using hi0.2⟩
    obtain ⟨i0, hi0, hu0⟩ := hex
    rw [show f + 1 + (ops.size - n) = (f + (ops.size - n)) + 1 by omega]
    refine ⟨fun hr => ?_, fun i hi => ?_⟩
    · have := ready_all inv.size hb hr i0 (by omega)
      rw [this] at hu0; cases hu0
    have hin : i < n := by
      rcases Nat.lt_or_ge i n with h | h
      · exact h
      · exact absurd hi (tail_waits hs hc hn inv _ i0 rfl hi0 hu0 i h)
    obtain ⟨hnl, oi, hoi, hall⟩ := mem_ready.1 hi
    refine wpOp_mono ?_ (hstep i oi hin hoi u w hw fun e he hbi => ?_)
    · rintro a' w' ⟨v, rfl, hgv, hr⟩
      refine ih _ _ _ (inv.set hi hin) (hR _ _ _ hw hr) (fun k hk hl2 => ?_) ?_
      · by_cases e : k = i
        · subst e
          unfold updV
          rw [if_pos rfl]; exact hgv
        · have hl' : listed.getD k true = true := by
            rw [← getD_set_ne (fun h => e h.symm)]; exact hl2
          have hne : dst k ≠ dst i := fun h => e (hinj k i hk hin h)
          unfold updV
          rw [if_neg hne]
          exact hmono _ _ _ _ (hg k hk hl') hr
      · have key : ∀ m, i < m → ((List.range m).filter fun k => !(listed.setIfInBounds i true).getD k true).length + 1 = ((List.range m).filter fun k => !listed.getD k true).length := by
          intro m
          induction m with
          | zero => intro h; omega
          | succ m ihm =>
            intro h
            rw [List.range_succ, List.filter_append, List.filter_append, List.length_append, List.length_append]
            by_cases e : m = i
            · subst e
              have e1 : ((List.range m).filter fun k => !(listed.setIfInBounds m true).getD k true) = ((List.range m).filter fun k => !listed.getD k true) := List.filter_congr fun k hk => by
                have := List.mem_range.1 hk
                rw [getD_set_ne (by omega)]
              have hlt : m < listed.size := by have := inv.size; omega
              have e2 : (listed.setIfInBounds m true).getD m true = true := by simp [Array.getD_eq_getD_getElem?, hlt]
              have e3 : (List.filter (fun k => !listed.getD k true) [m]) = [m] := by rw [List.filter_cons, if_pos (by rw [hnl]; rfl)]; rfl
              have e4 : (List.filter (fun k => !(listed.setIfInBounds m true).getD k true) [m]) = [] := by rw [List.filter_cons, if_neg (by rw [e2]; simp)]; rfl
              rw [e1, e3, e4]; rfl
            · have e2 : (listed.setIfInBounds i true).getD m true = listed.getD m true := getD_set_ne (fun h => e h.symm)
              have h3 := ihm (by omega)
              have e3 : (List.filter (fun k => !(listed.setIfInBounds i true).getD k true) [m]).length = (List.filter (fun k => !listed.getD k true) [m]).length := by
                simp only [List.filter_cons, e2, List.filter_nil]
              rw [e3]; omega
        have h4 := key n hin
        unfold unlC at hf ⊢
        omega
    · have h3 := hall e he hbi
      have hlt := hb i _ hoi e he
      refine hg e.on (by omega) ?_
      have : e.on < listed.size := by have := inv.size; omega
      simpa [Array.getD_eq_getD_getElem?, this] using h3
/-- The closed facts that the law wants. -/
def goodTB (l : List Oper) (n : Nat) (ds : List Nat) : Bool := backB l && decide (ds.length = n) && decide ds.Nodup && Region.sinkB .any l.toArray n && Region.chainB .any l.toArray n && decide (n < l.length) && Region.seqB .any l.toArray (l.length - n) n (fullA n l.length)
/-- The region: in whatever order the first n come, what is left is good; then the others. -/
theorem wp_region_goodT {id : Nat} {a : Act} {w : World} {l : List Oper} (n : Nat) (ds : List Nat) (Good : Nat → Value → World → Prop) (R : World → World → Prop) (hm : P.follows .mixedOrders = true) (hB : goodTB l n ds = true)
    (h0 : R w.drew w.drew) (hR : ∀ a b c, R a b → R b c → R a c) (hmono : ∀ k v w w', Good k v w → R w w' → Good k v w')
    (hs : ∀ (a0 : Act) (ops0 : Array Oper), a0 = a → ops0 = l.toArray → StepsG P ops0 (NoPanic Q) a0 ds Good R w.drew (l.take n) 0)
    (hend : ∀ u w', R w.drew w' → (∀ k, k < n → Good k (u (ds.getD k 0)) w') → wpList P l.toArray (NoPanic Q) (l.drop n) (frmV a u ds) w') : (Code.region id l.toArray true).wp P Q a w := by
  unfold goodTB at hB
  simp only [Bool.and_eq_true, decide_eq_true_eq] at hB
  obtain ⟨⟨⟨⟨⟨⟨hb, hl⟩, hnd⟩, hsk⟩, hch⟩, hn⟩, hsq⟩ := hB
  refine wp_region_noPanic (wp_region_any hm ?_)
  have hself := frmV_self a ds
  have hsz : l.toArray.size = l.length := by simp
  have inv0 : HeadInv .any l.toArray n (Array.replicate l.toArray.size false) :=
    ⟨by simp, fun j oj _ hl => (by rw [getD_replicate_false] at hl; cases hl), fun t _ ht => getD_in (by simpa using ht) (getD_replicate_false _ _)⟩
  have hgo := wpAny_goodT (P := P) (ops := l.toArray) (Q := NoPanic Q) (md := .any) (n := n) (fun u => frmV a u ds) (fun k => ds.getD k 0) Good R w.drew l rfl
    (fun k o ho e he => by
      unfold backB at hb
      rw [List.all_eq_true] at hb
      have hk : k < l.length := by
        have := (Array.getElem?_eq_some_iff.1 ho).1
        simpa using this
      have h1 := hb k (List.mem_range.2 hk)
      have ho' : l[k]? = some o := by simpa using ho
      rw [ho'] at h1
      have h2 : (o.after.all fun e => decide (e.on < k)) = true := h1
      rw [Array.all_eq_true'] at h2
      simpa using h2 e he)
    hsk hch (by rw [hsz]; exact hn) (by rw [hsz]; exact hsq)
    (fun j k hj hk e => by
      have hj' : j < ds.length := by omega
      have hk' : k < ds.length := by omega
      have e' : ds[j] = ds[k] := by
        simpa [List.getD_eq_getElem?_getD, hj', hk'] using e
      exact (List.getElem_inj hnd).1 e')
    hR hmono
    (fun k o hk ho u w' hw hg => by
      have ho' : (l.take n)[k]? = some o := by rw [List.getElem?_take, if_pos hk]; simpa using ho
      have h1 := stepsG_at (l.take n) 0 (hs a l.toArray rfl rfl) k o ho' u w' hw (fun j hj => by
        unfold depsL at hj
        rw [List.mem_map] at hj
        obtain ⟨e, he, rfl⟩ := hj
        rw [List.mem_filter] at he
        exact hg e (by simpa using he.1) he.2)
      rw [Nat.zero_add] at h1
      exact h1)
    hend
    (unlC n (Array.replicate l.toArray.size false)) (Array.replicate l.toArray.size false) (fun t => a.tmps.getD t undef) w.drew inv0 h0
    (fun k hk hl => by
      have : k < (Array.replicate l.toArray.size false).size := by simp; omega
      rw [getD_in this (getD_replicate_false _ _)] at hl
      cases hl)
    rfl
  have hself2 : frmV a (fun t => a.tmps.getD t undef) ds = a := hself.symm
  simp only [hself2] at hgo
  have hcnt : unlC n (Array.replicate l.toArray.size false) = n := by
    unfold unlC
    have : ((List.range n).filter fun k => !(Array.replicate l.toArray.size false).getD k true) = List.range n := List.filter_eq_self.2 fun k hk => by
      have := List.mem_range.1 hk
      rw [getD_in (by simp; omega) (getD_replicate_false _ _)]; rfl
    rw [this, List.length_range]
  rw [hcnt, hsz, show n + (l.length - n) = l.length by omega] at hgo
  rw [hsz]
  exact hgo
end
section
variable {α : Type} {enc : α → List Value}
/-- A list is appended to an empty row: nothing that lay there changes. -/
theorem run_pushs0 {w : World} {k bytes : Nat} (hk : ∀ x, (enc x).length = k) (hk0 : 0 < k) (h1 : ∀ x, ∀ u ∈ enc x, u.oneCell' = true) {base : Nat} {t ty e : TypeId} {z : Value} (ht : Tryz.prog.underlying t = some (.slice e))
    (hinfo : (Tryz.prog.info? e).map (fun i => (i.zero, i.size, i.bytes)) = some (some z, k, bytes)) (hzs : z.cells.size = k) (D : Nat) (hown : w.ownsRow base e k (.slice (some ⟨D, 0, none⟩) 0 0) 0 [])
    (A : Option Addr) (m c : Nat) (l2 : List α) (hm : m = l2.length) (hA : Rd w A (fl enc l2)) (hA0 : A = none → m = 0) (hlen : m < 1048576) (hbytes : bytes ≤ 1048576) (hbase : base ≤ w.heap.size) :
    ∃ v' w', (Builtin.append_ #[t, t] ty #[.slice (some ⟨D, 0, none⟩) 0 0, .slice A m c]).run Tryz.prog w = .ok v' w' ∧ w'.ownsRow base e k v' m (fl enc l2) ∧ Below w.heap.size w w' := by
  obtain ⟨v', w', hrun, h2, h3, _⟩ := run_pushs (ty := ty) hk hk0 h1 ht hinfo hzs (.slice (some ⟨D, 0, none⟩) 0 0) ([] : List α) 0 rfl hown A m c l2 hm hA hA0 (by omega) hbytes hbase
  rw [Nat.zero_add, List.nil_append] at h2
  refine ⟨v', w', hrun, h2, ?_⟩
  obtain ⟨i0, hi, hz0, hz1, hz2⟩ := info_parts hinfo
  rcases Nat.eq_zero_or_pos m with h0 | h0
  · subst h0
    have e : l2 = [] := List.eq_nil_of_length_eq_zero hm.symm
    subst e
    have hsrc : Src Tryz.prog i0.size t (.slice A 0 c) 0 [] w := by
      cases A with
      | none => exact Src.ofNil w ht c
      | some ad => exact Src.ofSlice w ht ad 0 c [] (by simp) (fun j u h => by simp at h) (fun u h => by cases h)
    have hr := run_append_nothing w t t ty e i0 ht hi (some ⟨D, 0, none⟩) 0 0 (Nat.le_refl _) (.slice A 0 c) hsrc
    rw [hrun] at hr
    injection hr with e1 e2
    rw [e2]; exact Below.refl _ _
  · obtain ⟨b, o, rfl, hb, hc⟩ := hA (by rw [fl_length hk, ← hm]; exact Nat.mul_pos h0 hk0)
    have hcells : ∀ j u, (fl enc l2)[j]? = some u → w.cell? (Addr.add ⟨b, o, none⟩ j) = some u := by
      intro j u hu
      have hj : j < (fl enc l2).length := by
        rcases Nat.lt_or_ge j (fl enc l2).length with h | h
        · exact h
        · rw [List.getElem?_eq_none h] at hu; cases hu
      have h7 := hc j hj
      rw [List.getD_eq_getElem?_getD, hu] at h7
      by_cases ej : j = 0
      · subst ej; simpa [Addr.add] using h7
      · simpa [Addr.add, ej] using h7
    have hsrc : Src Tryz.prog i0.size t (.slice (some ⟨b, o, none⟩) m c) m (fl enc l2) w :=
      Src.ofSlice w ht ⟨b, o, none⟩ m c (fl enc l2) (by rw [fl_length hk, hm, hz1]) hcells (fun u hu => by
        obtain ⟨x, _, hx⟩ := List.mem_flatMap.1 hu
        exact h1 x u hx)
    have hmul : m * bytes ≤ 1048576 * 1048576 := Nat.mul_le_mul (Nat.le_of_lt hlen) hbytes
    have hr := run_append_grow_src w t t ty e i0 z ht hi hz0 (some ⟨D, 0, none⟩) 0 0 [] (run_firstCells_some w.drew i0.size 0 ⟨D, 0, none⟩ 0 0 [] (by simp) (fun j u h => by simp at h)) (.slice (some ⟨b, o, none⟩) m c) m (fl enc l2) hsrc (by omega) (by omega) (by
      have : Builtin.nextslicecap (0 + m) 0 = m := by
        unfold Builtin.nextslicecap
        simp [h0]
      rw [this, hz2]; omega)
    rw [hrun] at hr
    injection hr with e1 e2
    rw [e2]
    exact bl_alloc (bl_drewN (Below.refl _ w) 1) _
end
end Go.Proofs.YtjmnakkkimgifaaGreatDoor
namespace Go.Proofs.YtjmnakkkimgifaaGreatDoor
open Go Go.RowKit Go.Shelf
section
variable {α : Type} {enc : α → List Value}
theorem good_pushs0 {ops : Array Oper} {a : Act} {ds : List Nat} {Good : Nat → Value → World → Prop} {R : World → World → Prop} {Q : Exit → Act → World → Prop} {j d : Nat} {o : Oper} {u : Nat → Value} {w : World} (ho : ops[j]? = some o) (hg : o.guard = none) (hd : o.dst = some d) (hj : ds.getD j 0 = d) (hin : ds.contains d = true)
    {k bytes : Nat} (hk : ∀ x, (enc x).length = k) (hk0 : 0 < k) (h1 : ∀ x, ∀ u ∈ enc x, u.oneCell' = true) {base : Nat} {t e : TypeId} {z : Value} (ht : Tryz.prog.underlying t = some (.slice e))
    (hinfo : (Tryz.prog.info? e).map (fun i => (i.zero, i.size, i.bytes)) = some (some z, k, bytes)) (hzs : z.cells.size = k) (s x : Operand) (hop : o.op = .call { callee := .builtin .append, args := #[s, x], argTypes := #[t, t] }) (D : Nat)
    (hs : (frmV a u ds).eval s = .slice (some ⟨D, 0, none⟩) 0 0) (hown : w.ownsRow base e k (.slice (some ⟨D, 0, none⟩) 0 0) 0 [])
    (A : Option Addr) (m c : Nat) (l2 : List α) (hm : m = l2.length) (hx : (frmV a u ds).eval x = .slice A m c) (hA : Rd w A (fl enc l2)) (hA0 : A = none → m = 0) (hlen : m < 1048576) (hbytes : bytes ≤ 1048576) (hbase : base ≤ w.heap.size)
    (h : ∀ v' w', w'.ownsRow base e k v' m (fl enc l2) → Below w.heap.size w w' → Good j v' w' ∧ R w w') : wpOp Tryz.prog ops Q j (fun a' w' => ∃ v, a' = frmV a (updV u (ds.getD j 0) v) ds ∧ Good j v w' ∧ R w w') (frmV a u ds) w := by
  obtain ⟨v', w', hrun, h2, h3⟩ := run_pushs0 (ty := o.type) hk hk0 h1 ht hinfo hzs D hown A m c l2 hm hA hA0 hlen hbytes hbase
  refine good_run ho hg hd hj hin (v := v') (w' := w') ?_ (h v' w' h2 h3)
  unfold execOp
  simp only [hop, resolve, invoke, builtin, Sem.run_bind, Sem.run_pure, Result.andThen_ok, List.map_toArray, List.map_cons, List.map_nil, hs, hx, hrun]
end
end Go.Proofs.YtjmnakkkimgifaaGreatDoor
namespace Go.Proofs.YtjmnakkkimgifaaGreatDoor
open Go Go.RowKit Go.Shelf
theorem encV_oneR : ∀ x : Nat, ∀ u ∈ encV x, u.oneCell' = true := by
  intro x u hu
  simp only [encV, List.mem_cons, List.not_mem_nil, or_false] at hu
  rcases hu with rfl; rfl
def dsL : List Nat := [26, 27, 28, 29, 30, 31, 32, 33, 34, 35, 5]
/-- What each operation of the copies leaves. -/
def GdL (X B : Nat) (L : Int) (a : Option Addr) (N c : Nat) (l : List Nat) (b : Option Addr) (n d : Nat) (t : List Nd) : Nat → Value → World → Prop
  | 0, v, _ => v = .pointer (some ⟨X, 0, none⟩)
  | 1, v, _ => v = .int .i64 L
  | 2, v, W => ∃ D, v = .slice (some ⟨D, 0, none⟩) 0 0 ∧ W.ownsRow B 39 1 (.slice (some ⟨D, 0, none⟩) 0 0) 0 []
  | 3, v, _ => v = .pointer (some ⟨X, 1, none⟩)
  | 4, v, _ => v = .slice a N c
  | 5, v, W => W.ownsRow B 39 1 v N (fl encV l)
  | 6, v, W => ∃ v5, v = .agg #[.int .i64 L, v5] ∧ W.ownsRow B 39 1 v5 N (fl encV l)
  | 7, v, W => ∃ D, v = .slice (some ⟨D, 0, none⟩) 0 0 ∧ W.ownsRow B 46 2 (.slice (some ⟨D, 0, none⟩) 0 0) 0 []
  | 8, v, _ => v = .slice b n d
  | 9, v, W => W.ownsRow B 46 2 v n (fl encNd t)
  | 10, v, W => ∃ X5, v = .pointer (some ⟨X5, 0, none⟩) ∧ Blk W X5 #[.int .i64 0, .slice none 0 0] 24 ∧ B ≤ X5
  | _, _, _ => True
theorem GdL.bl {X B : Nat} {L : Int} {a : Option Addr} {N c : Nat} {l : List Nat} {b : Option Addr} {n d : Nat} {t : List Nd} : ∀ (k : Nat) (v : Value) (W W' : World), GdL X B L a N c l b n d t k v W → Below W.heap.size W W' → GdL X B L a N c l b n d t k v W'
  | 0, _, _, _, h, _ => h
  | 1, _, _, _, h, _ => h
  | 2, _, _, _, ⟨D, e, h⟩, hb => ⟨D, e, owns_below h hb⟩
  | 3, _, _, _, h, _ => h
  | 4, _, _, _, h, _ => h
  | 5, _, _, _, h, hb => owns_below (show World.ownsRow _ _ _ _ _ _ _ from h) hb
  | 6, _, _, _, ⟨v5, e, h⟩, hb => ⟨v5, e, owns_below h hb⟩
  | 7, _, _, _, ⟨D, e, h⟩, hb => ⟨D, e, owns_below h hb⟩
  | 8, _, _, _, h, _ => h
  | 9, _, _, _, h, hb => owns_below (show World.ownsRow _ _ _ _ _ _ _ from h) hb
  | 10, _, _, _, ⟨X5, e, h, h2⟩, hb => ⟨X5, e, h.below hb, h2⟩
  | _ + 11, _, _, _, h, _ => h
theorem owns_empty (W : World) {B : Nat} (hB : B ≤ W.heap.size) (e k : Nat) : (W.alloc (.cells #[] e)).ownsRow B e k (.slice (some ⟨W.heap.size, 0, none⟩) 0 0) 0 [] := by
  have := owns_made (w := W) (base := B) (e := e) (k := k) (n := 0) (cs := #[]) hB (by simp) (by omega)
  exact this
theorem own_ne_blkR {W : World} {base e k n B : Nat} {v : Value} {xs : List Value} {cs : Array Value} {t : TypeId} (hv : W.ownsRow base e k v n xs) (hB : Blk W B cs t) (he : t ≠ e) : v.ownBlock ≠ some B := fun e' => by
  rcases hv.2 with ⟨rfl, _⟩ | ⟨g, cap, cur, rfl, _, hgb, _⟩
  · cases e'
  · have : g = B := Option.some.inj e'
    subst this
    unfold Blk at hB
    rw [hB] at hgb
    cases hgb
    exact he rfl
/-- What lies while the answers are asked for. -/
structure LnK (w : World) (X X5 X7 B : Nat) (L : Int) (a : Option Addr) (N c : Nat) (l : List Nat) (A5 : Option Addr) (c5 n : Nat) (t : List Nd) (A9 : Option Addr) (c9 : Nat) (W : World) : Prop where
  bx : Blk W X #[.int .i64 L, .slice a N c] 24
  b5 : Blk W X5 #[.int .i64 L, .slice A5 N c5] 24
  b7 : Blk W X7 #[.int .i64 L, .slice a N c] 28
  o5 : W.ownsRow B 39 1 (.slice A5 N c5) N (fl encV l)
  o9 : W.ownsRow B 46 2 (.slice A9 n c9) n (fl encNd t)
  bel : Below w.heap.size w W
theorem LnK.bl {w : World} {X X5 X7 B : Nat} {L : Int} {a : Option Addr} {N c : Nat} {l : List Nat} {A5 : Option Addr} {c5 n : Nat} {t : List Nd} {A9 : Option Addr} {c9 : Nat} {W W' : World} (h : LnK w X X5 X7 B L a N c l A5 c5 n t A9 c9 W) (hb : Below W.heap.size W W') : LnK w X X5 X7 B L a N c l A5 c5 n t A9 c9 W' :=
  ⟨h.bx.below hb, h.b5.below hb, h.b7.below hb, owns_below h.o5 hb, owns_below h.o9 hb, bl_trans h.bel hb⟩
set_option maxRecDepth 100000 in
set_option maxHeartbeats 4000000 in
theorem lnlaw33_any (L : Int) (a : Option Addr) (N c : Nat) (l : List Nat) (b : Option Addr) (n d : Nat) (t : List Nd) (w : World) (hl : l.length = N) (hN : N ≤ 1152921504606846976) (hA : Rd w a (fl encV l)) (hF : FitV l)
    (ht : t.length = n) (hn : n ≤ 1152921504606846976) (hB : Rd w b (fl encNd t)) (hS : ∀ v, v < n → (nS t v).size ≤ 9223372036854775807) :
    Calls Tryz.prog 3 #[.agg #[.int .i64 L, .slice a N c], .slice b n d] w fun e w' => e = .returned (.bool true) ∧ Below w.heap.size w w' := by
  have hb0 := bl_alloc (Below.refl _ w) (.cells #[.int .i64 L, .slice a N c] 24)
  have HX := Lib.hid (Blk.new w #[.int .i64 L, .slice a N c] 24)
  have HB0 := Lib.hid hb0
  have HLG := Lib.hid (light_any L a N c b n d)
  have HW := Lib.hid works_any
  have HL := Lib.hid hl
  have HF := Lib.hid hF
  have HT := Lib.hid ht
  have HS := Lib.hid hS
  have HA := Lib.hid (fun (W : World) (hW : Below w.heap.size w W) => hA.bl hW)
  have HB := Lib.hid (fun (W : World) (hW : Below w.heap.size w W) => hB.bl hW)
  have HA0 : Hid (a = none → N = 0) := fun e => by
    rcases Nat.eq_zero_or_pos N with h | h
    · exact h
    · obtain ⟨b, o, e2, _⟩ := rdV hA (by rw [hl]; exact h)
      rw [e] at e2; cases e2
  have HBN0 : Hid (b = none → n = 0) := fun e => by
    rcases Nat.eq_zero_or_pos n with h | h
    · exact h
    · obtain ⟨b, o, e2, _⟩ := rdNd hB (by rw [ht]; exact h)
      rw [e] at e2; cases e2
  clear hl hA hF hb0 ht hB hS
  obtain ⟨X, hX⟩ : ∃ x, x = w.heap.size := ⟨_, rfl⟩
  rw [← hX] at HX
  obtain ⟨w1, hw1⟩ : ∃ y, y = w.alloc (.cells #[.int .i64 L, .slice a N c] 24) := ⟨_, rfl⟩
  rw [← hw1] at HX HB0
  go_enter Tryz.func3, Tryz.ntmps3
  go_upto_region 1 with fail
  rw [← hw1, ← hX]
  clear hw1 hX
  have x0 : w1.cell? ⟨X, 0, none⟩ = some (.int .i64 L) := HX.out.cell 0
  have x1 : w1.cell? ⟨X, 1, none⟩ = some (.slice a N c) := HX.out.cell 1
  go_wp2_with fail
  refine (HLG.out w1).mono ?_
  rintro e w2 ⟨rfl, hb2⟩
  have HX2 := Lib.hid (HX.out.below hb2)
  have HB2 := Lib.hid (bl_trans HB0.out hb2)
  clear hb2 x0 x1 HX HB0 HLG
  by_cases hlt : N ≤ 70 ∧ n ≤ 70
  · obtain ⟨hl1, hl2⟩ := hlt
    have e : decide (N ≤ 70 ∧ n ≤ 70) = true := decide_eq_true ⟨hl1, hl2⟩
    rw [e]
    clear e
    go_upto_region 3 with fail
    have hbd : Below w2.heap.size w2 w2.drew := bl_drewN (Below.refl _ w2) 1
    have HBD := Lib.hid (bl_trans HB2.out hbd)
    have HXD := Lib.hid (HX2.out.below hbd)
    have hXl : X < w2.drew.heap.size := HXD.out.lt
    refine wp_region_goodT 11 dsL (GdL X w2.drew.heap.size L a N c l b n d t) (fun a b => Below a.heap.size a b) rfl (by kernel_rfl) (Below.refl _ _) (fun a b c => bl_trans) (fun k v W W' h hb => GdL.bl k v W W' h hb) ?_ ?_
    · intro a0 ops0 ha0 ho
      have z : a0.tmps.size = 131 := by rw [ha0]; rfl
      have z1 : a0.tmps.getD 1 undef = .slice b n d := by rw [ha0]; rfl
      have z2 : a0.tmps.getD 2 undef = .pointer (some ⟨X, 0, none⟩) := by rw [ha0]; rfl
      clear ha0
      refine ⟨fun u W hW hg => ?_, ?_⟩
      · refine good_run (d := 26) (v := .pointer (some ⟨X, 0, none⟩)) (w' := W) (by rw [ho]; rfl) rfl rfl rfl rfl ?_ ⟨rfl, Below.refl _ _⟩
        have q1 : (frmV a0 u dsL).eval (.tmp 2) = a0.tmps.getD 2 undef := frmV_out (by rw [z]; decide) rfl
        rw [z2] at q1
        revert q1
        generalize (frmV a0 u dsL).eval = ρ
        intro q1
        simp [execOp, go_sem, q1]
      refine ⟨fun u W hW hg => ?_, ?_⟩
      · have G : u 26 = .pointer (some ⟨X, 0, none⟩) := hg 0 (by decide)
        have g1 : W.cell? ⟨X, 0, none⟩ = some (.int .i64 L) := (hW.cell (p := ⟨X, 0, none⟩) hXl).trans (HXD.out.cell 0)
        refine good_run (d := 27) (v := .int .i64 L) (w' := W) (by rw [ho]; rfl) rfl rfl rfl rfl ?_ ⟨rfl, Below.refl _ _⟩
        have q1 : (frmV a0 u dsL).eval (.tmp 26) = u 26 := frmV_in (by rw [z]; decide) rfl
        rw [G] at q1
        revert q1
        generalize (frmV a0 u dsL).eval = ρ
        intro q1
        simp [execOp, go_sem, q1, g1]
      refine ⟨fun u W hW hg => ?_, ?_⟩
      · refine good_run (d := 28) (v := .slice (some ⟨W.heap.size, 0, none⟩) 0 0) (w' := W.alloc (.cells #[] 39)) (by rw [ho]; rfl) rfl rfl rfl rfl ?_ ⟨⟨W.heap.size, rfl, owns_empty W hW.size _ _⟩, bl_alloc (Below.refl _ W) _⟩
        simp [execOp, go_sem]
      refine ⟨fun u W hW hg => ?_, ?_⟩
      · refine good_run (d := 29) (v := .pointer (some ⟨X, 1, none⟩)) (w' := W) (by rw [ho]; rfl) rfl rfl rfl rfl ?_ ⟨rfl, Below.refl _ _⟩
        have q1 : (frmV a0 u dsL).eval (.tmp 2) = a0.tmps.getD 2 undef := frmV_out (by rw [z]; decide) rfl
        rw [z2] at q1
        revert q1
        generalize (frmV a0 u dsL).eval = ρ
        intro q1
        simp [execOp, go_sem, q1]
      refine ⟨fun u W hW hg => ?_, ?_⟩
      · have G : u 29 = .pointer (some ⟨X, 1, none⟩) := hg 3 (by decide)
        have g1 : W.cell? ⟨X, 1, none⟩ = some (.slice a N c) := (hW.cell (p := ⟨X, 1, none⟩) hXl).trans (HXD.out.cell 1)
        refine good_run (d := 30) (v := .slice a N c) (w' := W) (by rw [ho]; rfl) rfl rfl rfl rfl ?_ ⟨rfl, Below.refl _ _⟩
        have q1 : (frmV a0 u dsL).eval (.tmp 29) = u 29 := frmV_in (by rw [z]; decide) rfl
        rw [G] at q1
        revert q1
        generalize (frmV a0 u dsL).eval = ρ
        intro q1
        simp [execOp, go_sem, q1, g1]
      refine ⟨fun u W hW hg => ?_, ?_⟩
      · obtain ⟨D, e2, hO⟩ : ∃ D, u 28 = .slice (some ⟨D, 0, none⟩) 0 0 ∧ W.ownsRow w2.drew.heap.size 39 1 (.slice (some ⟨D, 0, none⟩) 0 0) 0 [] := hg 2 (by decide)
        have G4 : u 30 = .slice a N c := hg 4 (by decide)
        have q1 : (frmV a0 u dsL).eval (.tmp 28) = u 28 := frmV_in (by rw [z]; decide) rfl
        have q2 : (frmV a0 u dsL).eval (.tmp 30) = u 30 := frmV_in (by rw [z]; decide) rfl
        exact good_pushs0 (d := 31) (by rw [ho]; rfl) rfl rfl rfl rfl encV_len (by decide) encV_oneR (base := w2.drew.heap.size) Tryz.underlying22 info_V rfl (.tmp 28) (.tmp 30) rfl D (q1.trans e2) hO a N c l HL.out.symm (q2.trans G4) (HA.out W (bl_trans HBD.out hW)) HA0.out (by omega) (by decide) hW.size (fun v' w' h1 h2 => ⟨h1, h2⟩)
      refine ⟨fun u W hW hg => ?_, ?_⟩
      · have G1 : u 27 = .int .i64 L := hg 1 (by decide)
        have G5 : W.ownsRow w2.drew.heap.size 39 1 (u 31) N (fl encV l) := hg 5 (by decide)
        obtain ⟨A5, c5, e5, _⟩ := owns_slice G5
        refine good_run (d := 32) (v := .agg #[.int .i64 L, u 31]) (w' := W) (by rw [ho]; rfl) rfl rfl rfl rfl ?_ ⟨⟨_, rfl, G5⟩, Below.refl _ _⟩
        have q1 : (frmV a0 u dsL).eval (.tmp 27) = u 27 := frmV_in (by rw [z]; decide) rfl
        have q2 : (frmV a0 u dsL).eval (.tmp 31) = u 31 := frmV_in (by rw [z]; decide) rfl
        rw [G1] at q1
        rw [e5] at q2 ⊢
        revert q1 q2
        generalize (frmV a0 u dsL).eval = ρ
        intro q1 q2
        simp [execOp, go_sem, q1, q2]
      refine ⟨fun u W hW hg => ?_, ?_⟩
      · refine good_run (d := 33) (v := .slice (some ⟨W.heap.size, 0, none⟩) 0 0) (w' := W.alloc (.cells #[] 46)) (by rw [ho]; rfl) rfl rfl rfl rfl ?_ ⟨⟨W.heap.size, rfl, owns_empty W hW.size _ _⟩, bl_alloc (Below.refl _ W) _⟩
        simp [execOp, go_sem]
      refine ⟨fun u W hW hg => ?_, ?_⟩
      · refine good_run (d := 34) (v := .slice b n d) (w' := W) (by rw [ho]; rfl) rfl rfl rfl rfl ?_ ⟨rfl, Below.refl _ _⟩
        show (pure (.value ((frmV a0 u dsL).eval (.tmp 1))) : Sem Next).run _ W = _
        rw [frmV_out (by rw [z]; decide) rfl, z1]; rfl
      refine ⟨fun u W hW hg => ?_, ?_⟩
      · obtain ⟨D, e2, hO⟩ : ∃ D, u 33 = .slice (some ⟨D, 0, none⟩) 0 0 ∧ W.ownsRow w2.drew.heap.size 46 2 (.slice (some ⟨D, 0, none⟩) 0 0) 0 [] := hg 7 (by decide)
        have G4 : u 34 = .slice b n d := hg 8 (by decide)
        have q1 : (frmV a0 u dsL).eval (.tmp 33) = u 33 := frmV_in (by rw [z]; decide) rfl
        have q2 : (frmV a0 u dsL).eval (.tmp 34) = u 34 := frmV_in (by rw [z]; decide) rfl
        exact good_pushs0 (d := 35) (by rw [ho]; rfl) rfl rfl rfl rfl encNd_len (by decide) encNd_oneR (base := w2.drew.heap.size) Tryz.underlying25 info_Nd rfl (.tmp 33) (.tmp 34) rfl D (q1.trans e2) hO b n d t HT.out.symm (q2.trans G4) (HB.out W (bl_trans HBD.out hW)) HBN0.out (by omega) (by decide) hW.size (fun v' w' h1 h2 => ⟨h1, h2⟩)
      refine ⟨fun u W hW hg => ?_, trivial⟩
      refine good_run (d := 5) (v := .pointer (some ⟨W.heap.size, 0, none⟩)) (w' := W.alloc (.cells #[.int .i64 0, .slice none 0 0] 24)) (by rw [ho]; rfl) rfl rfl rfl rfl ?_ ⟨⟨W.heap.size, rfl, Blk.new W _ _, hW.size⟩, bl_alloc (Below.refl _ W) _⟩
      simp [execOp, go_sem]
    · intro u W hW hg
      obtain ⟨X5, e10, hX5, hX5b⟩ : ∃ X5, u 5 = .pointer (some ⟨X5, 0, none⟩) ∧ Blk W X5 #[.int .i64 0, .slice none 0 0] 24 ∧ w2.drew.heap.size ≤ X5 := hg 10 (by decide)
      obtain ⟨v5, e6, hO5⟩ : ∃ v5, u 32 = .agg #[.int .i64 L, v5] ∧ W.ownsRow w2.drew.heap.size 39 1 v5 N (fl encV l) := hg 6 (by decide)
      have hO9 : W.ownsRow w2.drew.heap.size 46 2 (u 35) n (fl encNd t) := hg 9 (by decide)
      obtain ⟨A5, c5, rfl, _⟩ := owns_slice hO5
      obtain ⟨A9, c9, e9, _⟩ := owns_slice hO9
      rw [e9] at hO9
      have HXW := Lib.hid (HXD.out.below hW)
      have HBW := Lib.hid (bl_trans HBD.out hW)
      have HX5 := Lib.hid hX5
      have HO5 := Lib.hid hO5
      have HO9 := Lib.hid hO9
      have hXX5 : X ≠ X5 := by omega
      have hBX5 : w.heap.size ≤ X5 := by have := HBD.out.size; omega
      have x50 : W.cell? ⟨X5, 0, none⟩ = some (.int .i64 0) := hX5.cell 0
      have x51 : W.cell? ⟨X5, 1, none⟩ = some (.slice none 0 0) := hX5.cell 1
      have f50 : W.frozen? ⟨X5, 0, none⟩ = false := hX5.free 0
      have f51 : W.frozen? ⟨X5, 1, none⟩ = false := hX5.free 1
      have HB6 : Hid (Below w.heap.size w ((W.setCell ⟨X5, 0, none⟩ (.int .i64 L)).setCell ⟨X5, 1, none⟩ (.slice A5 N c5))) := bl_set (bl_set HBW.out _ _ _ _ hBX5) _ _ _ _ hBX5
      have HX6 : Hid (Blk ((W.setCell ⟨X5, 0, none⟩ (.int .i64 L)).setCell ⟨X5, 1, none⟩ (.slice A5 N c5)) X #[.int .i64 L, .slice a N c] 24) := (HXW.out.other hXX5 _ _).other hXX5 _ _
      have HX56 : Hid (Blk ((W.setCell ⟨X5, 0, none⟩ (.int .i64 L)).setCell ⟨X5, 1, none⟩ (.slice A5 N c5)) X5 #[.int .i64 L, .slice A5 N c5] 24) := (hX5.set 0 (.int .i64 L)).set 1 (.slice A5 N c5)
      have hne5 := own_ne_blkR hO5 hX5 (by decide)
      have hne9 := own_ne_blkR hO9 hX5 (by decide)
      have HO56 : Hid (((W.setCell ⟨X5, 0, none⟩ (.int .i64 L)).setCell ⟨X5, 1, none⟩ (.slice A5 N c5)).ownsRow w2.drew.heap.size 39 1 (.slice A5 N c5) N (fl encV l)) := (hO5.kept (grown_set W X5 0 _) (.inr hne5)).kept (grown_set _ X5 1 _) (.inr hne5)
      have HO96 : Hid (((W.setCell ⟨X5, 0, none⟩ (.int .i64 L)).setCell ⟨X5, 1, none⟩ (.slice A5 N c5)).ownsRow w2.drew.heap.size 46 2 (.slice A9 n c9) n (fl encNd t)) := (hO9.kept (grown_set W X5 0 _) (.inr hne9)).kept (grown_set _ X5 1 _) (.inr hne9)
      clear hg hX5 hO5 hO9 hW hne5 hne9 HXD HBD HXW HBW HX2 HB2
      simp only [dsL, frmV, Act.put, List.setIfInBounds_toArray, List.set_cons_zero, List.set_cons_succ]
      rw [e10, e6, e9]
      clear e10 e6 e9
      simp only [List.drop_succ_cons, List.drop_zero]
      go_wp2_with fail
      refine NoPanic.normal ?_
      obtain ⟨w4, hw4⟩ : ∃ x, x = (W.setCell ⟨X5, 0, none⟩ (.int .i64 L)).setCell ⟨X5, 1, none⟩ (.slice A5 N c5) := ⟨_, rfl⟩
      rw [← hw4] at HB6 HX6 HX56 HO56 HO96 ⊢
      obtain ⟨BB, hBB⟩ : ∃ x, x = w2.drew.heap.size := ⟨_, rfl⟩
      rw [← hBB] at HO56 HO96
      clear hw4 x50 x51 f50 f51 hBB hX5b hXl
      have x0 : w4.cell? ⟨X, 0, none⟩ = some (.int .i64 L) := HX6.out.cell 0
      have x1 : w4.cell? ⟨X, 1, none⟩ = some (.slice a N c) := HX6.out.cell 1
      go_upto_region 5 with fail
      have hb4 := bl_alloc (Below.refl _ w4) (.cells #[.int .i64 L, .slice a N c] 28)
      have hK : LnK w X X5 w4.heap.size BB L a N c l A5 c5 n t A9 c9 (w4.alloc (.cells #[.int .i64 L, .slice a N c] 28)) :=
        ⟨HX6.out.below hb4, HX56.out.below hb4, Blk.new w4 _ _, owns_below HO56.out hb4, owns_below HO96.out hb4, bl_trans HB6.out hb4⟩
      obtain ⟨X7, hX7⟩ : ∃ x, x = w4.heap.size := ⟨_, rfl⟩
      obtain ⟨w5, hw5⟩ : ∃ x, x = w4.alloc (.cells #[.int .i64 L, .slice a N c] 28) := ⟨_, rfl⟩
      rw [← hX7, ← hw5] at hK
      rw [← hX7, ← hw5]
      have K5 := Lib.hid hK
      clear hb4 hK hX7 hw5 HX6 HX56 HO56 HO96 HB6 x0 x1
      obtain ⟨q, hq⟩ : ∃ q, q = (lenL L l t).length := ⟨_, rfl⟩
      have hq64 : q ≤ 2048 := by rw [hq]; have := (lenL_le L l t).1; omega
      obtain ⟨M, hM⟩ : ∃ M, M = iN (lenL L l t) := ⟨_, rfl⟩
      have HML : Hid (M.length = q) := by show _ = _; rw [hM, iN_len, hq]
      obtain ⟨E, hE⟩ : ∃ E, E = chkP L l t := ⟨_, rfl⟩
      obtain ⟨S, hSe⟩ : ∃ S, S = lenS L l t := ⟨_, rfl⟩
      obtain ⟨E2, hE2⟩ : ∃ E, E = chkE t := ⟨_, rfl⟩
      obtain ⟨P2, hP2⟩ : ∃ E, E = binP t := ⟨_, rfl⟩
      have C1 : Hid (∀ W, LnK w X X5 X7 BB L a N c l A5 c5 n t A9 c9 W → Calls Tryz.prog 10 #[.agg #[.int .i64 L, .slice A5 N c5], .slice A9 n c9] W fun e w' => ∃ (A : Option Addr) (k : Nat), e = .returned (.tuple #[.slice A q k, .int .i64 E]) ∧ Rd w' A (fl encI M) ∧ Below W.heap.size W w') := fun W hK => by
        refine (lengths_any L A5 N c5 l A9 n c9 t W HL.out hN (rd_of_owns hK.o5) HF.out HT.out hn (rd_of_owns hK.o9) HS.out).mono ?_
        rintro e w' ⟨v, rfl, ho, hb⟩
        obtain ⟨A, k, rfl, _⟩ := owns_slice ho
        exact ⟨A, k, by rw [hq, hE], by rw [hM]; exact rd_of_owns ho, hb⟩
      have C2 : Hid (∀ W, LnK w X X5 X7 BB L a N c l A5 c5 n t A9 c9 W → Calls Tryz.prog 11 #[.agg #[.int .i64 L, .slice a N c], .slice b n d] W fun e w' => ∃ (A : Option Addr) (k : Nat), e = .returned (.tuple #[.slice A q k, .int .i64 E]) ∧ Rd w' A (fl encI M) ∧ Below W.heap.size W w') := fun W hK => by
        refine (rlengths_any L a N c l b n d t W HL.out hN (HA.out W hK.bel) HF.out HT.out hn (HB.out W hK.bel) HS.out).mono ?_
        rintro e w' ⟨v, rfl, ho, hb⟩
        obtain ⟨A, k, rfl, _⟩ := owns_slice ho
        exact ⟨A, k, by rw [hq, hE], by rw [hM]; exact rd_of_owns ho, hb⟩
      have C3 : Hid (∀ W, LnK w X X5 X7 BB L a N c l A5 c5 n t A9 c9 W → Calls Tryz.prog 12 #[.agg #[.int .i64 L, .slice A5 N c5], .slice A9 n c9] W fun e w' => e = .returned (.tuple #[.int .i64 (S : Nat), .int .i64 E]) ∧ Below W.heap.size W w') := fun W hK => by
        rw [hSe, hE]; exact length_any L A5 N c5 l A9 n c9 t W HL.out hN (rd_of_owns hK.o5) HF.out HT.out hn (rd_of_owns hK.o9) HS.out
      have C4 : Hid (∀ W, LnK w X X5 X7 BB L a N c l A5 c5 n t A9 c9 W → Calls Tryz.prog 13 #[.agg #[.int .i64 L, .slice a N c], .slice b n d] W fun e w' => e = .returned (.tuple #[.int .i64 (S : Nat), .int .i64 E]) ∧ Below W.heap.size W w') := fun W hK => by
        rw [hSe, hE]; exact rlength_any L a N c l b n d t W HL.out hN (HA.out W hK.bel) HF.out HT.out hn (HB.out W hK.bel) HS.out
      have C5 : Hid (∀ W, LnK w X X5 X7 BB L a N c l A5 c5 n t A9 c9 W → Calls Tryz.prog 14 #[.slice A9 n c9] W fun e w' => e = .returned (.tuple #[.bool P2, .int .i64 E2]) ∧ Below W.heap.size W w') := fun W hK => by
        rw [hP2, hE2]; exact binary_any A9 n c9 t W HT.out hn (rd_of_owns hK.o9) HS.out
      have C6 : Hid (∀ W, LnK w X X5 X7 BB L a N c l A5 c5 n t A9 c9 W → Calls Tryz.prog 15 #[.slice b n d] W fun e w' => e = .returned (.tuple #[.bool P2, .int .i64 E2]) ∧ Below W.heap.size W w') := fun W hK => by
        rw [hP2, hE2]; exact rbinary_any b n d t W HT.out hn (HB.out W hK.bel) HS.out
      have CX : Hid (∀ W, LnK w X X5 X7 BB L a N c l A5 c5 n t A9 c9 W → W.cell? ⟨X5, 0, none⟩ = some (.int .i64 L) ∧ W.cell? ⟨X5, 1, none⟩ = some (.slice A5 N c5) ∧ W.cell? ⟨X7, 0, none⟩ = some (.int .i64 L) ∧ W.cell? ⟨X7, 1, none⟩ = some (.slice a N c)) := fun W hK => ⟨hK.b5.cell 0, hK.b5.cell 1, hK.b7.cell 0, hK.b7.cell 1⟩
      clear hq hM hE hSe hE2 hP2
      obtain ⟨g1, g2, g3, g4⟩ := CX.out w5 K5.out
      go_wp2_with fail
      refine (C1.out w5 K5.out).mono ?_
      rintro e w6 ⟨A1, k1, rfl, hr1, hb6⟩
      have K6 := Lib.hid (K5.out.bl hb6)
      have R1 := Lib.hid hr1
      clear hr1 hb6 g1 g2 g3 g4 K5
      obtain ⟨g1, g2, g3, g4⟩ := CX.out w6 K6.out
      go_wp2_with fail
      refine (C2.out w6 K6.out).mono ?_
      rintro e w7 ⟨A2, k2, rfl, hr2, hb7⟩
      have K7 := Lib.hid (K6.out.bl hb7)
      have R1 := Lib.hid (R1.out.bl hb7)
      have R2 := Lib.hid hr2
      clear hr2 hb7 g1 g2 g3 g4 K6
      obtain ⟨g1, g2, g3, g4⟩ := CX.out w7 K7.out
      go_wp2_with fail
      refine (C3.out w7 K7.out).mono ?_
      rintro e w8 ⟨rfl, hb8⟩
      have K8 := Lib.hid (K7.out.bl hb8)
      have R1 := Lib.hid (R1.out.bl hb8)
      have R2 := Lib.hid (R2.out.bl hb8)
      clear hb8 g1 g2 g3 g4 K7
      obtain ⟨g1, g2, g3, g4⟩ := CX.out w8 K8.out
      go_wp2_with fail
      refine (C4.out w8 K8.out).mono ?_
      rintro e w9 ⟨rfl, hb9⟩
      have K9 := Lib.hid (K8.out.bl hb9)
      have R1 := Lib.hid (R1.out.bl hb9)
      have R2 := Lib.hid (R2.out.bl hb9)
      clear hb9 g1 g2 g3 g4 K8
      go_wp2_with fail
      refine (C5.out w9 K9.out).mono ?_
      rintro e w10 ⟨rfl, hb10⟩
      have K10 := Lib.hid (K9.out.bl hb10)
      have R1 := Lib.hid (R1.out.bl hb10)
      have R2 := Lib.hid (R2.out.bl hb10)
      clear hb10 K9
      go_wp2_with fail
      refine (C6.out w10 K10.out).mono ?_
      rintro e w11 ⟨rfl, hb11⟩
      have K11 := Lib.hid (K10.out.bl hb11)
      have R1 := Lib.hid (R1.out.bl hb11)
      have R2 := Lib.hid (R2.out.bl hb11)
      clear hb11 K10 C1 C2 C3 C4 C5 C6
      go_wp2_with fail
      go_loopw [20] (fun x wr => ∃ i m : Nat, i ≤ N ∧ x = .int .i64 i ∧ wr = w11.drewN m) (fun x _ => N - (intOf x).toNat)
      case atStart => exact ⟨0, 0, by omega, rfl, rfl⟩
      case round =>
        obtain ⟨i, m, hi, rfl, rfl⟩ := hrel
        obtain ⟨wo, hwo⟩ : ∃ x, x = w11.drewN m := ⟨_, rfl⟩
        have HWO := Lib.hid hwo
        have KO : Hid (LnK w X X5 X7 BB L a N c l A5 c5 n t A9 c9 wo) := by show LnK _ _ _ _ _ _ _ _ _ _ _ _ _ _ _ _ _; rw [hwo]; exact K11.out.bl (bl_drewN (Below.refl _ _) m)
        have RO1 : Hid (Rd wo A1 (fl encI M)) := by show Rd _ _ _; rw [hwo]; exact R1.out.drewN m
        have RO2 : Hid (Rd wo A2 (fl encI M)) := by show Rd _ _ _; rw [hwo]; exact R2.out.drewN m
        have y1 : wo.cell? ⟨X, 1, none⟩ = some (.slice a N c) := KO.out.bx.cell 1
        have y5 : wo.cell? ⟨X5, 1, none⟩ = some (.slice A5 N c5) := KO.out.b5.cell 1
        rw [← hwo]
        clear hwo
        by_cases hlt : i < N
        · obtain ⟨b5, o5, rfl, _, hc5⟩ := rdV (rd_of_owns KO.out.o5) (by rw [HL.out]; omega)
          obtain ⟨ba, oa, rfl, _, hca⟩ := rdV (HA.out wo KO.out.bel) (by rw [HL.out]; omega)
          have G5 := hc5 i (by rw [HL.out]; exact hlt)
          have Ga := hca i (by rw [HL.out]; exact hlt)
          generalize vA l i = y at *
          have t1 : (y != y) = false := by simp
          have t2 : ((y : Int) != (y : Int)) = false := by simp
          clear hc5 hca
          go_wp2_with fail
          go_quiet (fail)
          go_wp2_with fail
          go_roundw
          case rel => exact ⟨i + 1, m + nq, by omega, by go_num, by rw [HWO.out]; simp⟩
          case measure => simp [intOf]; omega
        · have HEQ := Lib.hid (equal_any A1 A2 q q k1 k2 M M wo HML.out HML.out (by omega) (by omega) RO1.out RO2.out)
          have e : decide (M = M) = true := decide_eq_true rfl
          rw [e] at HEQ
          have t1 : (E == E) = true := by simp
          have t2 : (S == S) = true := by simp
          have t3 : (E2 == E2) = true := by simp
          have t4 : (P2 == P2) = true := by simp
          clear e
          go_wp2_with fail
          refine HEQ.out.mono ?_
          rintro e w12 ⟨rfl, m2, rfl⟩
          obtain ⟨w13, hw13⟩ : ∃ x, x = wo.drewN m2 := ⟨_, rfl⟩
          have K13 : Hid (LnK w X X5 X7 BB L a N c l A5 c5 n t A9 c9 w13) := by show LnK _ _ _ _ _ _ _ _ _ _ _ _ _ _ _ _ _; rw [hw13]; exact KO.out.bl (bl_drewN (Below.refl _ _) m2)
          rw [← hw13]
          clear hw13 HEQ y1 y5
          have hb14 := bl_alloc (bl_alloc (Below.refl _ w13) (.cells #[.slice A9 n c9] 25)) (.cells #[.slice b n d] 25)
          have HS9 := Lib.hid (rsame_any (.slice (some ⟨w13.heap.size, 0, none⟩) 1 1) (.slice (some ⟨w13.heap.size + 1, 0, none⟩) 1 1) 1 (fun _ => t) _ _ ((w13.alloc (.cells #[.slice A9 n c9] 25)).alloc (.cells #[.slice b n d] 25)) (by omega)
            (rsW_one ((Blk.new w13 _ _).alloc _) ((rd_of_owns K13.out.o9).bl hb14) HT.out) (rsW_one (Blk.new2 w13 _ _ _) ((HB.out _ K13.out.bel).bl hb14) HT.out) (fun i _ => by have := HT.out; omega))
          have HB14 := Lib.hid (bl_trans K13.out.bel hb14)
          clear hb14
          go_wp2_with fail
          refine HS9.out.mono ?_
          rintro e w15 ⟨rfl, m3, rfl⟩
          go_wp2_with fail
          refine (HW.out _).mono ?_
          rintro e w16 ⟨rfl, hb16⟩
          go_wp2_with fail
          go_ret
          exact ⟨rfl, bl_trans (bl_drewN HB14.out m3) hb16⟩
  · have e : decide (N ≤ 70 ∧ n ≤ 70) = false := decide_eq_false hlt
    rw [e]
    clear e hlt
    go_wp2_with fail
    refine (HW.out _).mono ?_
    rintro e w3 ⟨rfl, hb3⟩
    go_wp2_with fail
    go_ret
    exact ⟨rfl, bl_trans HB2.out hb3⟩
end Go.Proofs.YtjmnakkkimgifaaGreatDoor
