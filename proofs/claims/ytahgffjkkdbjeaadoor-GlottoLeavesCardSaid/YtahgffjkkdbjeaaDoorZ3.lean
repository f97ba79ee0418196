/- ablautref35.scaled: the same distances, as a list; or the same error. glotto.Ultra and the reference's: whether distances are those of a clock. -/
import Derived.Test.YtahgffjkkdbjeaaDoorZ2
import Derived.Deep.RegionHeld3
import Derived.Deep.RegionWith
import Derived.Test.YtahgffjkkdbjeaaDoorZ1
namespace Go.Proofs.YtahgffjkkdbjeaaDoor
open Go.RowKit
def RsPost (w : World) (n : Nat) (d : List Fr) (e : Ending) (w' : World) : Prop :=
  Below w.heap.size w w' ∧ ((∃ k, scaledS n d = .error k ∧ e = .returned (.tuple #[.slice none 0 0, .int .i64 0, .int .i64 k])) ∨
    ∃ (c : Nat) (v : Value), scaledS n d = .ok c ∧ e = .returned (.tuple #[v, .int .i64 c, .int .i64 0]) ∧ w'.ownsRow w.heap.size 2 1 v (n * n) (fl encI ((List.range (n * n)).map fun k => (scK d c k : Int))))
theorem rs_err {w w' : World} {n : Nat} {d : List Fr} {k : Int} (hb : Below w.heap.size w w') (h : scaledS n d = .error k) : RsPost w n d (.returned (.tuple #[.slice none 0 0, .int .i64 0, .int .i64 k])) w' := ⟨hb, .inl ⟨k, h, rfl⟩⟩
theorem rlow_q {p q qn qd : Nat} {w : World} (hn : qn = p / Nat.gcd p q) (hd : qd = q / Nat.gcd p q) (hp : p ≤ 9223372036854775807) (hq : q ≤ 9223372036854775807) (h0 : 0 < q) :
    Calls Tryd.prog 65 #[.int .i64 p, .int .i64 q] w fun e w' => e = .returned (.agg #[.int .i64 qn, .int .i64 qd]) ∧ Below w.heap.size w w' := by rw [hn, hd]; exact rlow_any p q w hp hq h0
theorem rdiv_g {a b g : Nat} {w : World} (hg : Nat.gcd a b = g) (ha : a ≤ 9223372036854775807) (hb : b ≤ 9223372036854775807) :
    Calls Tryd.prog 87 #[.int .i64 a, .int .i64 b] w fun e w' => e = .returned (.int .i64 g) ∧ ∃ n, w' = w.drewN n := by rw [← hg]; exact rdiv_any a b w ha hb
theorem low_zero {p q : Nat} (hq : 0 < q) : p / Nat.gcd p q = 0 ↔ p = 0 := by
  have hg : 0 < Nat.gcd p q := Nat.gcd_pos_of_pos_right _ hq
  constructor
  · intro h
    rcases (Nat.div_eq_zero_iff).1 h with h | h
    · omega
    · rcases Nat.eq_zero_or_pos p with h0 | h0
      · exact h0
      · have := Nat.gcd_le_left q h0; omega
  · intro h; subst h; simp
theorem sc_sym' {n : Nat} {d : List Fr} (hn1 : 1 ≤ n) (hn2 : n ≤ 24) (hd : d.length = n * n) (hb : d.any badFr = false) {a b : Nat} (ha : a < n) (hb2 : b < n) (h : ¬ SymP d n a b) : scaledS n d = .error 2 := by
  by_cases hab : b < a + 1
  · exact sc_sym hn1 hn2 hd hb ha hab h
  · refine sc_sym hn1 hn2 hd hb hb2 (b := a) (by omega) fun h2 => h ?_
    exact ⟨⟨h2.1.1.symm, h2.1.2.symm⟩, fun e => by omega⟩

set_option maxRecDepth 100000 in
set_option maxHeartbeats 6000000 in
theorem rscaled_in (a : Option Addr) (n c : Nat) (d : List Fr) (w : World) (hn1 : 1 ≤ n) (hn2 : n ≤ 24) (hd : d.length = n * n) (hA : Rd w a (fl encFr d)) (hok : FitFr d) (hbad : d.any badFr = false) :
    Calls Tryd.prog 49 #[.int .i64 n, .slice a (n * n) c] w (RsPost w n d) := by
  have hnn : n * n ≤ 576 := by have := Nat.mul_le_mul hn2 hn2; omega
  have HS := Lib.hid (fun a b ha hb h => sc_sym' (a := a) (b := b) hn1 hn2 hd hbad ha hb h)
  have HB := Lib.hid hbad
  have HD := Lib.hid hd
  clear hd hbad
  generalize hN : n * n = N at *
  have HN := Lib.hid hN
  have hw1 : IntKind.i64.wrap ((n : Int) * (n : Int)) = (N : Int) := wrap_nat _ _ (by rw [← hN]; simp) (by omega)
  clear hN
  go_enter Tryd.func49, Tryd.ntmps49
  go_upto_block 0 with fail
  go_cut [7] (fun _ wx => ∃ n, wx = w.drewN n)
  case first =>
    go_wp2_with fail
    go_loopw [7] (fun x wr => ∃ k : Nat, k ≤ N ∧ x = .int .i64 k ∧ ∃ n, wr = w.drewN n) (fun x _ => N - (intOf x).toNat)
    case atStart => exact ⟨0, by omega, rfl, 0, rfl⟩
    case round =>
      obtain ⟨k, hk, rfl, m, rfl⟩ := hrel
      by_cases hlt : k < N
      · obtain ⟨b, o, rfl, hb, hc⟩ := rdFr hA (by rw [HD.out]; omega)
        obtain ⟨g0, g1⟩ := hc k (by rw [HD.out]; omega)
        obtain ⟨p, q, hp, hq, hp2, hq1, hq2, hp3, hq3⟩ := fr_nats HB.out hok k (by rw [HD.out]; omega)
        rw [hp] at g0
        rw [hq] at g1
        have hq4 : decide ((q : Int) < 1) = false := by simp; omega
        have hp4 : decide ((p : Int) < 0) = false := by simp
        clear hc hp hq hp3 hq3
        go_wp2_with fail
        go_roundw
        case rel => exact ⟨k + 1, by omega, by go_num, m, rfl⟩
        case measure => simp [intOf]; omega
      · go_wp2_with fail
        go_meet
        exact ⟨m, rfl⟩
  case rest =>
    obtain ⟨m, rfl⟩ := hcut
    go_upto_block 2 with fail
    go_cut [8] (fun _ wx => Hid (SymOk d n) ∧ Below w.heap.size w wx)
    case first =>
      go_wp2_with fail
      go_loopw [8, 9] (fun x _ wr => ∃ k : Nat, k ≤ n ∧ x = .int .i64 k ∧ Hid (∀ a, a < k → ∀ b, b < a + 1 → SymP d n a b) ∧ Below w.heap.size w wr) (fun x _ _ => n - (intOf x).toNat)
      case atStart => exact ⟨0, by omega, rfl, fun a h => absurd h (by omega), bl_drewN (Below.refl _ _) _⟩
      case round =>
        obtain ⟨k, hk, rfl, hsy, hbl⟩ := hrel
        by_cases hlt : k < n
        · obtain ⟨wo, rfl⟩ : ∃ wo : World, wo = wr := ⟨_, rfl⟩
          go_wp2_with fail
          go_loopw [9] (fun x wr => ∃ j : Nat, j ≤ n ∧ x = .int .i64 j ∧ Hid (∀ b, b < j → SymP d n k b) ∧ Below w.heap.size w wr) (fun x _ => n - (intOf x).toNat)
          case atStart => exact ⟨0, by omega, rfl, fun b h => absurd h (by omega), hbl⟩
          case round =>
            obtain ⟨j, hj, rfl, hsj, hbl2⟩ := hrel
            clear hbl
            by_cases hjk : j < n
            · obtain ⟨m1, m2, k1, k2, hm1, hm2, hk1, hk2, b1, b2⟩ := idx_two (n := n) (N := N) (a := k) (b := j) HN.out (by omega) (by omega) (by omega)
              have w1 := wrap_nat ((k : Int) * (n : Int)) m1 (by rw [← hm1]; simp) (by omega)
              have w2 := wrap_nat ((j : Int) * (n : Int)) m2 (by rw [← hm2]; simp) (by omega)
              have w3 := wrap_nat ((m1 : Int) + (j : Int)) k1 (by omega) (by omega)
              have w4 := wrap_nat ((m2 : Int) + (k : Int)) k2 (by omega) (by omega)
              obtain ⟨b, o, rfl, hb, hc⟩ := rdFr (hA.bl hbl2) (by rw [HD.out]; omega)
              obtain ⟨g0, g1⟩ := hc k1 (by rw [HD.out]; omega)
              obtain ⟨g2, g3⟩ := hc k2 (by rw [HD.out]; omega)
              obtain ⟨p1, q1, hp1, hq1, bp1, zq1, bq1, en1, ed1⟩ := fr_nats HB.out hok k1 (by rw [HD.out]; omega)
              obtain ⟨p2, q2, hp2, hq2, bp2, zq2, bq2, en2, ed2⟩ := fr_nats HB.out hok k2 (by rw [HD.out]; omega)
              rw [hp1] at g0
              rw [hq1] at g1
              rw [hp2] at g2
              rw [hq2] at g3
              have HK1 := Lib.hid (show k * n + j = k1 by omega)
              have HK2 := Lib.hid (show j * n + k = k2 by omega)
              have EN1 := Lib.hid en1
              have ED1 := Lib.hid ed1
              have EN2 := Lib.hid en2
              have ED2 := Lib.hid ed2
              have HP1 := Lib.hid hp1
              have HZ : Hid (qN d k1 = 0 ↔ p1 = 0) := by rw [en1]; exact low_zero zq1
              clear hm1 hm2 hk1 hk2 hc hp1 hq1 hp2 hq2 en1 en2 ed1 ed2
              go_upto_region 16 with fail
              go_cut [10, 11] (fun s10 s11 wx => ∃ x1 x2, s10 = .pointer (some ⟨x1, 0, none⟩) ∧ s11 = .pointer (some ⟨x2, 0, none⟩) ∧ Blk wx x1 #[.int .i64 p1, .int .i64 q1] 40 ∧ Blk wx x2 #[.int .i64 p2, .int .i64 q2] 40 ∧ Below w.heap.size w wx)
              case first =>
                go_region_held3 (fun w' => w'.cell? ⟨b, o + k1 * 2, none⟩ = some (.int .i64 p1) ∧ w'.cell? ⟨b, o + k1 * 2 + 1, none⟩ = some (.int .i64 q1) ∧ w'.cell? ⟨b, o + k2 * 2, none⟩ = some (.int .i64 p2) ∧ w'.cell? ⟨b, o + k2 * 2 + 1, none⟩ = some (.int .i64 q2)) (go_keep) (fail)
                · go_wp2_with fail
                  go_meet
                  exact ⟨_, _, rfl, rfl, ((Blk.new wr _ 40).alloc _), Blk.new2 wr _ _ 40, bl_drewN (bl_alloc (bl_alloc hbl2 _) _) 1⟩
                · go_wp2_with fail
                  go_meet
                  exact ⟨_, _, rfl, rfl, Blk.new2 wr _ _ 40, ((Blk.new wr _ 40).alloc _), bl_drewN (bl_alloc (bl_alloc hbl2 _) _) 1⟩
              case rest =>
                obtain ⟨x1, x2, rfl, rfl, hx1, hx2, hbl3⟩ := hcut
                clear g0 g1 g2 g3 w1 w2 w3 w4
                have c0 := wb_cell (hx1.cell 0 : wc.cell? ⟨x1, 0, none⟩ = some (.int .i64 p1)) hx1.lt
                have c1 := wb_cell (hx1.cell 1 : wc.cell? ⟨x1, 1, none⟩ = some (.int .i64 q1)) hx1.lt
                have c2 := wb_cell (hx2.cell 0 : wc.cell? ⟨x2, 0, none⟩ = some (.int .i64 p2)) hx2.lt
                have c3 := wb_cell (hx2.cell 1 : wc.cell? ⟨x2, 1, none⟩ = some (.int .i64 q2)) hx2.lt
                clear hx1 hx2
                have hg := guardFr
                have hq := neqFr (qN d k1) (qN d k2) (qD d k1) (qD d k2)
                by_cases hsame : qN d k1 = qN d k2 ∧ qD d k1 = qD d k2
                · rw [decide_eq_true (by omega), decide_eq_true (by omega)] at hq
                  simp only [Bool.and_self, Bool.not_true] at hq
                  have HSA := Lib.hid hsame
                  clear hsame
                  by_cases hkj : k = j
                  · have hkb : ((k : Int) == (j : Int)) = true := by simp; omega
                    have HKJ := Lib.hid hkj
                    clear hkj
                    by_cases h0 : p1 = 0
                    · have h0b : ((p1 : Int) != 0) = false := by simp [h0]
                      have H0 := Lib.hid h0
                      clear h0
                      go_upto_region 17 with fail
                      refine wp_quiet_wb (by kernel_rfl) (by kernel_rfl) ?_
                      repeat (go_big_quiet_step ((first | (go_at_call_of 65 (Value.int IntKind.i64 ↑p1); exact quiet_of_wb (rlow_q EN1.out ED1.out bp1 bq1 zq1)) | exact quiet_of_wb (rlow_q EN2.out ED2.out bp2 bq2 zq2))))
                      refine wpQuiet_nil ?_
                      rintro _ ⟨⟨wq, hbq⟩, rfl⟩
                      have hB6 := bl_trans hbl3 hbq
                      go_wp2_with fail
                      go_roundw
                      case rel => exact ⟨j + 1, by omega, by go_num, sym_next hsj (by rw [SymP, HK1.out, HK2.out]; exact ⟨HSA.out, fun _ => HZ.out.2 H0.out⟩), hB6⟩
                      case measure => simp [intOf]; omega
                    · have h0b : ((p1 : Int) != 0) = true := by simp [h0]
                      have hs := Lib.hid (HS.out k j hlt hjk (by rw [SymP, HK1.out, HK2.out]; exact fun h => h0 (HZ.out.1 (h.2 HKJ.out))))
                      clear h0
                      go_upto_region 17 with fail
                      refine wp_quiet_wb (by kernel_rfl) (by kernel_rfl) ?_
                      repeat (go_big_quiet_step ((first | (go_at_call_of 65 (Value.int IntKind.i64 ↑p1); exact quiet_of_wb (rlow_q EN1.out ED1.out bp1 bq1 zq1)) | exact quiet_of_wb (rlow_q EN2.out ED2.out bp2 bq2 zq2))))
                      refine wpQuiet_nil ?_
                      rintro _ ⟨⟨wq, hbq⟩, rfl⟩
                      have hB6 := bl_trans hbl3 hbq
                      go_wp2_with fail
                      go_ret3
                      exact rs_err hB6 hs.out
                  · have hkb : ((k : Int) == (j : Int)) = false := by simp; omega
                    have HKJ := Lib.hid hkj
                    clear hkj
                    go_upto_region 17 with fail
                    refine wp_quiet_wb (by kernel_rfl) (by kernel_rfl) ?_
                    repeat (go_big_quiet_step ((first | (go_at_call_of 65 (Value.int IntKind.i64 ↑p1); exact quiet_of_wb (rlow_q EN1.out ED1.out bp1 bq1 zq1)) | exact quiet_of_wb (rlow_q EN2.out ED2.out bp2 bq2 zq2))))
                    refine wpQuiet_nil ?_
                    rintro _ ⟨⟨wq, hbq⟩, rfl⟩
                    have hB6 := bl_trans hbl3 hbq
                    go_wp2_with fail
                    go_roundw
                    case rel => exact ⟨j + 1, by omega, by go_num, sym_next hsj (by rw [SymP, HK1.out, HK2.out]; exact ⟨HSA.out, fun h => absurd h HKJ.out⟩), hB6⟩
                    case measure => simp [intOf]; omega
                · have hs := Lib.hid (HS.out k j hlt hjk (by rw [SymP, HK1.out, HK2.out]; exact fun h => hsame h.1))
                  have hd2 : (!(decide (((qN d k1 : Nat) : Int) = ((qN d k2 : Nat) : Int)) && decide (((qD d k1 : Nat) : Int) = ((qD d k2 : Nat) : Int)))) = true := by simp; omega
                  rw [hd2] at hq
                  clear hsame hd2
                  go_upto_region 17 with fail
                  refine wp_quiet_wb (by kernel_rfl) (by kernel_rfl) ?_
                  repeat (go_big_quiet_step ((first | (go_at_call_of 65 (Value.int IntKind.i64 ↑p1); exact quiet_of_wb (rlow_q EN1.out ED1.out bp1 bq1 zq1)) | exact quiet_of_wb (rlow_q EN2.out ED2.out bp2 bq2 zq2))))
                  refine wpQuiet_nil ?_
                  rintro _ ⟨⟨wq, hbq⟩, rfl⟩
                  have hB6 := bl_trans hbl3 hbq
                  go_wp2_with fail
                  go_ret3
                  exact rs_err hB6 hs.out
            · go_wp2_with fail
              go_roundw
              case rel => exact ⟨k + 1, by omega, by go_num, sym_row hsy hsj (by omega), hbl2⟩
              case measure => simp [intOf]; omega
        · go_wp2_with fail
          go_meet
          have : k = n := by omega
          subst this
          exact ⟨hsy, hbl⟩
    case rest =>
      obtain ⟨hsy, hbl⟩ := hcut
      go_upto_block 6 with fail
      go_cut [12, 13] (fun s12 _ wx => ∃ cm : Nat, s12 = .int .i64 cm ∧ Hid (cmA d N = some cm) ∧ Below w.heap.size w wx)
      case first =>
        go_wp2_with fail
        go_loopw [12, 13, 14] (fun s12 x _ wr => ∃ k cm : Nat, k ≤ N ∧ x = .int .i64 k ∧ s12 = .int .i64 cm ∧ Hid (cmA d k = some cm) ∧ Below w.heap.size w wr) (fun _ x _ _ => N - (intOf x).toNat)
        case atStart => exact ⟨0, 1, by omega, rfl, rfl, rfl, hbl⟩
        case round =>
          obtain ⟨k, cm, hk, rfl, rfl, hcm, hbl⟩ := hrel
          by_cases hlt : k < N
          · obtain ⟨b, o, rfl, hb, hc⟩ := rdFr (hA.bl hbl) (by rw [HD.out]; omega)
            obtain ⟨g0, g1⟩ := hc k (by rw [HD.out]; omega)
            obtain ⟨p, q, hp, hq, bp, zq, bq, en, ed⟩ := fr_nats HB.out hok k (by rw [HD.out]; omega)
            obtain ⟨q1, q2, q3⟩ := q_bounds HB.out hok k (by rw [HD.out]; exact hlt)
            obtain ⟨c1, c2, _⟩ := cmA_some (fun i hi => (q_bounds HB.out hok i hi).2.1) (by rw [HD.out]; omega) hcm.out
            rw [hp] at g0
            rw [hq] at g1
            have EN := Lib.hid en
            have ED := Lib.hid ed
            clear hc hp hq en ed
            go_upto_region 23 with fail
            have hcl : Hid (∀ W, Below wr.heap.size wr W → W.cell? ⟨b, o + k * 2, none⟩ = some (.int .i64 p) ∧ W.cell? ⟨b, o + k * 2 + 1, none⟩ = some (.int .i64 q)) := fun W hW => ⟨(hW.cell (p := ⟨b, o + k * 2, none⟩) hb).trans g0, (hW.cell (p := ⟨b, o + k * 2 + 1, none⟩) hb).trans g1⟩
            go_cut [14] (fun s wx => ∃ x, s = .pointer (some ⟨x, 0, none⟩) ∧ wr.heap.size ≤ x ∧ Blk wx x #[.int .i64 (qN d k), .int .i64 (qD d k)] 40 ∧ Below wr.heap.size wr wx)
            case first =>
              go_region_held3 (fun w' => w'.cell? ⟨b, o + k * 2, none⟩ = some (.int .i64 p) ∧ w'.cell? ⟨b, o + k * 2 + 1, none⟩ = some (.int .i64 q)) (first | go_keep | exact hcl.out _ (bl_sets2 (by assumption) _ _)) ((go_at_call 65; refine (rlow_q EN.out ED.out bp bq zq).mono ?_; rintro e w5 ⟨rfl, hb5⟩; have hB5 := bl_trans (a := wr) (by first | exact bl_drewN (Below.refl _ _) 1 | exact bl_drewN (bl_alloc (Below.refl _ _) _) 1) hb5; obtain ⟨j0, j1⟩ := hcl.out _ hB5; (first | (have hN := Blk.below (w := (wr.alloc (.cells #[.int .i64 0, .int .i64 0] 40)).drew) (B := wr.heap.size) (cs := #[.int .i64 0, .int .i64 0]) (t := 40) (Blk.new wr _ _) hb5; have n0 : w5.cell? ⟨wr.heap.size, 0, none⟩ = some (.int .i64 0) := hN.cell 0; have n1 : w5.cell? ⟨wr.heap.size, 1, none⟩ = some (.int .i64 0) := hN.cell 1; have f0 := hN.free 0; have f1 := hN.free 1; have l5 := hN.lt) | skip)))
              all_goals go_wp2_with fail
              all_goals go_meet
              all_goals first
                | exact ⟨_, rfl, by simp, blk_stored2 hN, bl_sets2 hB5 _ _⟩
                | exact ⟨_, rfl, hB5.size, Blk.new w5 _ _, bl_alloc hB5 _⟩
            case rest =>
              obtain ⟨x, rfl, hxw, hx, hbx⟩ := hcut
              have hbl2 := bl_trans hbl hbx
              clear hcl hbl hbx
              obtain ⟨q0, hq0⟩ : ∃ q, q = qD d k := ⟨_, rfl⟩
              rw [← hq0] at hx q2 q3
              have HX := Lib.hid hq0
              clear hq0 g0 g1
              have e1 : wc.cell? ⟨x, 1, none⟩ = some (.int .i64 q0) := hx.cell 1
              by_cases hx1 : 1073741824 < q0
              · have hs := Lib.hid (sc_over hn1 hn2 (by rw [HD.out, HN.out]) HB.out hsy.out (k := k + 1) (by rw [HD.out]; omega) (by rw [cmA, hcm.out]; simp only [Option.bind_some]; rw [← HX.out, cmStep, if_pos hx1]))
                go_wp2_with fail
                go_ret3
                exact rs_err hbl2 hs.out
              · obtain ⟨g, hg⟩ : ∃ g, Nat.gcd cm q0 = g := ⟨_, rfl⟩
                have hg1 : 1 ≤ g := by rw [← hg]; exact Nat.gcd_pos_of_pos_right _ q2
                obtain ⟨t, ht⟩ : ∃ t, cm / g = t := ⟨_, rfl⟩
                have ht1 : t ≤ cm := by rw [← ht]; exact Nat.div_le_self _ _
                have hct : t * q0 ≤ 1073741824 * 1073741824 := Nat.mul_le_mul (by omega) (by omega)
                obtain ⟨cm2, hcm2⟩ : ∃ c, t * q0 = c := ⟨_, rfl⟩
                rw [hcm2] at hct
                have w1 := wrap_nat ((cm : Int) / (g : Int)) t (by rw [← ht]; simp) (by omega)
                have w2 := wrap_nat ((t : Int) * (q0 : Int)) cm2 (by rw [← hcm2]; simp) (by omega)
                have HG := Lib.hid hg
                have HST : Hid (cmStep cm q0 = if 1073741824 < cm2 then none else some cm2) := by
                  rw [cmStep, if_neg hx1, gcd_quot, hg, ht, hcm2]; exact rfl
                clear hg ht hcm2
                go_wp2_with fail
                go_quiet ((go_at_call 87; exact Calls.quiet_of (rdiv_g HG.out (by omega) (by omega))))
                by_cases hc2 : 1073741824 < cm2
                · have hs := Lib.hid (sc_over hn1 hn2 (by rw [HD.out, HN.out]) HB.out hsy.out (k := k + 1) (by rw [HD.out]; omega) (by rw [cmA, hcm.out]; simp only [Option.bind_some]; rw [← HX.out, HST.out, if_pos hc2]))
                  go_wp2_with fail
                  go_ret3
                  exact rs_err (bl_drewN hbl2 _) hs.out
                · have hs := Lib.hid (show cmA d (k + 1) = some cm2 by rw [cmA, hcm.out]; simp only [Option.bind_some]; rw [← HX.out, HST.out, if_neg hc2])
                  go_wp2_with fail
                  go_roundw
                  case rel => exact ⟨k + 1, cm2, by omega, by go_num, rfl, hs, bl_drewN hbl2 _⟩
                  case measure => simp [intOf]; omega
          · go_wp2_with fail
            go_meet
            have : k = N := by omega
            subst this
            exact ⟨cm, rfl, hcm, hbl⟩
      case rest =>
        obtain ⟨cm, rfl, hcm, hbl⟩ := hcut
        go_upto_block 8 with fail
        go_cut [15, 16] (fun s15 _ wx => Hid (scaledS n d = .ok cm) ∧ wx.ownsRow w.heap.size 2 1 s15 N (fl encI ((List.range N).map fun k => (scK d cm k : Int))) ∧ Below w.heap.size w wx)
        case first =>
          go_wp2_with fail
          go_loopw [15, 16, 17] (fun s15 x _ wr => ∃ k : Nat, k ≤ N ∧ x = .int .i64 k ∧ Hid (∀ i, i < k → overK d cm i = false) ∧ wr.ownsRow w.heap.size 2 1 s15 k (fl encI ((List.range k).map fun k => (scK d cm k : Int))) ∧ Below w.heap.size w wr) (fun _ x _ _ => N - (intOf x).toNat)
          case atStart => exact ⟨0, by omega, rfl, fun i h => absurd h (by omega), World.ownsRow_nil _ _ _ _, hbl⟩
          case round =>
            obtain ⟨k, hk, rfl, hov, hown, hbl⟩ := hrel
            by_cases hlt : k < N
            · obtain ⟨b, o, rfl, hb, hc⟩ := rdFr (hA.bl hbl) (by rw [HD.out]; omega)
              obtain ⟨g0, g1⟩ := hc k (by rw [HD.out]; omega)
              obtain ⟨p, q, hp, hq, bp, zq, bq, en, ed⟩ := fr_nats HB.out hok k (by rw [HD.out]; omega)
              obtain ⟨q1, q2, q3⟩ := q_bounds HB.out hok k (by rw [HD.out]; exact hlt)
              obtain ⟨c1, c2, c3⟩ := cmA_some (fun i hi => (q_bounds HB.out hok i hi).2.1) (by rw [HD.out]; omega) hcm.out
              obtain ⟨c4, c5⟩ := c3 k hlt
              rw [hp] at g0
              rw [hq] at g1
              have EN := Lib.hid en
              have ED := Lib.hid ed
              clear hc hp hq en ed c3
              have hcl : Hid (∀ W, Below wr.heap.size wr W → W.cell? ⟨b, o + k * 2, none⟩ = some (.int .i64 p) ∧ W.cell? ⟨b, o + k * 2 + 1, none⟩ = some (.int .i64 q)) := fun W hW => ⟨(hW.cell (p := ⟨b, o + k * 2, none⟩) hb).trans g0, (hW.cell (p := ⟨b, o + k * 2 + 1, none⟩) hb).trans g1⟩
              go_upto_region 33 with fail
              go_cut [17] (fun s wx => ∃ x, s = .pointer (some ⟨x, 0, none⟩) ∧ wr.heap.size ≤ x ∧ Blk wx x #[.int .i64 (qN d k), .int .i64 (qD d k)] 40 ∧ Below wr.heap.size wr wx)
              case first =>
                go_region_held3 (fun w' => w'.cell? ⟨b, o + k * 2, none⟩ = some (.int .i64 p) ∧ w'.cell? ⟨b, o + k * 2 + 1, none⟩ = some (.int .i64 q)) (first | go_keep | exact hcl.out _ (bl_sets2 (by assumption) _ _)) ((go_at_call 65; refine (rlow_q EN.out ED.out bp bq zq).mono ?_; rintro e w5 ⟨rfl, hb5⟩; have hB5 := bl_trans (a := wr) (by first | exact bl_drewN (Below.refl _ _) 1 | exact bl_drewN (bl_alloc (Below.refl _ _) _) 1) hb5; obtain ⟨j0, j1⟩ := hcl.out _ hB5; (first | (have hN := Blk.below (w := (wr.alloc (.cells #[.int .i64 0, .int .i64 0] 40)).drew) (B := wr.heap.size) (cs := #[.int .i64 0, .int .i64 0]) (t := 40) (Blk.new wr _ _) hb5; have n0 : w5.cell? ⟨wr.heap.size, 0, none⟩ = some (.int .i64 0) := hN.cell 0; have n1 : w5.cell? ⟨wr.heap.size, 1, none⟩ = some (.int .i64 0) := hN.cell 1; have f0 := hN.free 0; have f1 := hN.free 1; have l5 := hN.lt) | skip)))
                all_goals go_wp2_with fail
                all_goals go_meet
                all_goals first
                  | exact ⟨_, rfl, by simp, blk_stored2 hN, bl_sets2 hB5 _ _⟩
                  | exact ⟨_, rfl, hB5.size, Blk.new w5 _ _, bl_alloc hB5 _⟩
              case rest =>
                obtain ⟨x, rfl, hxw, hx, hbx⟩ := hcut
                have hbl2 := bl_trans hbl hbx
                have hown2 := owns_below hown hbx
                have hxne : Hid (u15.ownBlock ≠ some x) := fun e => by have := (hown.lt x e).2; omega
                clear hcl hbl hbx g0 g1
                obtain ⟨q0, hq0⟩ : ∃ q, q = qD d k := ⟨_, rfl⟩
                obtain ⟨z, hz⟩ : ∃ z, z = qN d k := ⟨_, rfl⟩
                rw [← hq0] at hx q2 q3 c4 c5
                rw [← hz] at hx q1
                obtain ⟨y, hy⟩ : ∃ y, cm / q0 = y := ⟨_, rfl⟩
                have hy1 : 1 ≤ y := by rw [← hy]; exact Nat.div_pos (Nat.le_of_dvd c1 c4) q2
                have hy2 : y ≤ cm := by rw [← hy]; exact Nat.div_le_self _ _
                obtain ⟨lim, hlim⟩ : ∃ m, 1073741824 / y = m := ⟨_, rfl⟩
                have hlim2 : lim ≤ 1073741824 := by rw [← hlim]; exact Nat.div_le_self _ _
                have w1 := wrap_nat ((cm : Int) / (q0 : Int)) y (by rw [← hy]; simp) (by omega)
                have w2 := wrap_nat ((1073741824 : Int) / (y : Int)) lim (by rw [← hlim]; simp) (by omega)
                have w2' : (1073741824 : Int) / (y : Int) = (lim : Int) := by rw [← hlim]; simp
                have HO : Hid (overK d cm k = decide (lim < z) ∧ scK d cm k = z * y) := by
                  show _ ∧ _
                  rw [overK, scK, ← hq0, ← hz, hy, hlim]; exact ⟨rfl, rfl⟩
                have HL := Lib.hid hlim
                have HY := Lib.hid hy
                clear hq0 hz hy hlim
                have e0 : wc.cell? ⟨x, 0, none⟩ = some (.int .i64 z) := hx.cell 0
                have e1 : wc.cell? ⟨x, 1, none⟩ = some (.int .i64 q0) := hx.cell 1
                go_wp2_with fail
                by_cases hz1 : lim < z
                · have hs := Lib.hid (sc_over2 hn1 hn2 (by rw [HD.out, HN.out]) HB.out hsy.out (k := k) (by rw [HD.out]; omega) (by rw [HD.out]; exact hcm.out) (by rw [HO.out.1]; exact decide_eq_true hz1))
                  go_quiet (fail)
                  go_wp2_with fail
                  go_ret3
                  exact rs_err (bl_drewN hbl2 _) hs.out
                · have hzy : z * y ≤ 1073741824 := by
                    have h1 : z * y ≤ lim * y := Nat.mul_le_mul_right _ (by omega)
                    have h2 : lim * y ≤ 1073741824 := by rw [← HL.out]; exact Nat.div_mul_le_self _ _
                    omega
                  go_quiet (fail)
                  obtain ⟨v, hv⟩ : ∃ v, z * y = v := ⟨_, rfl⟩
                  rw [hv] at hzy
                  have w3 := wrap_nat ((z : Int) * (y : Int)) v (by rw [← hv]; simp) (by omega)
                  have HV := Lib.hid hv
                  clear hv
                  go_upto_region 36 with fail
                  have hlx := hx.lt
                  have w1' : (cm : Int) / (q0 : Int) = (y : Int) := by rw [← HY.out]; simp
                  have hqb : ¬ (q0 = 0) := by omega
                  have w4 := wrap_nat (y : Int) y rfl (by omega)
                  go_region_held3 (fun w' => w'.cell? ⟨x, 0, none⟩ = some (.int .i64 z) ∧ w'.cell? ⟨x, 1, none⟩ = some (.int .i64 q0)) (go_keep) ((refine spush_L (by rfl) (.tmp 153) (.tmp 161) (by rfl) w.heap.size u15 ((List.range k).map fun k => (scK d cm k : Int)) k (by simp) (by rfl) (by exact hown2.alloc _) wc.heap.size 1 (v : Int) (by rfl) (by exact Blk.new wc _ _) (by omega) (by have := hbl2.size; simp; omega) ?_; intro g cap w7 h1 h2 h3 h4; have kb := Below.grown (B := w.heap.size) (a := w) (w := wc.alloc (.cells #[.int .i64 v] 2)) (bl_alloc hbl2 _) ⟨h2.os, h2.tape, h2.output, h2.size, h2.block⟩ (by have := hbl2.size; simp; omega) (fun r hr => (hown2.lt r hr).1); have k0 : w7.cell? ⟨x, 0, none⟩ = some (.int .i64 z) := (h2.cell_far ⟨x, 0, none⟩ (by simp; omega) (fun e => hxne.out e.symm)).trans ((Below.alloc (Below.refl wc.heap.size wc) (Nat.le_refl _) _).cell (p := ⟨x, 0, none⟩) hlx |>.trans e0); have k1 : w7.cell? ⟨x, 1, none⟩ = some (.int .i64 q0) := (h2.cell_far ⟨x, 1, none⟩ (by simp; omega) (fun e => hxne.out e.symm)).trans ((Below.alloc (Below.refl wc.heap.size wc) (Nat.le_refl _) _).cell (p := ⟨x, 1, none⟩) hlx |>.trans e1)))
                  have hr : (List.range (k + 1)).map (fun k => (scK d cm k : Int)) = (List.range k).map (fun k => (scK d cm k : Int)) ++ [(v : Int)] := by
                    rw [List.range_succ, List.map_append, List.map_singleton, HO.out.2, HV.out]
                  rw [← hr] at h1
                  have hov2 : Hid (∀ i, i < k + 1 → overK d cm i = false) := fun i' hi' => by
                    by_cases e : i' = k
                    · rw [e, HO.out.1]; exact decide_eq_false hz1
                    · exact hov.out i' (by omega)
                  clear hr
                  go_wp2_with fail
                  go_roundw
                  case rel => exact ⟨k + 1, by omega, by go_num, hov2, h1, kb⟩
                  case measure => simp [intOf]; omega
            · go_wp2_with fail
              go_meet
              have : k = N := by omega
              subst this
              exact ⟨sc_fine hn1 hn2 (by rw [HD.out, HN.out]) HB.out hsy.out (by rw [HD.out]; exact hcm.out) (by rw [HD.out]; exact hov.out), hown, hbl⟩
        case rest =>
          obtain ⟨hs, hown, hbl⟩ := hcut
          go_wp2_with fail
          go_ret3
          exact ⟨hbl, .inr ⟨cm, _, hs.out, rfl, by rw [HN.out]; exact hown⟩⟩

/-- What the reference's scaled does, at every n and d. -/
def RsRes (w : World) (n : Int) (d : List Fr) (e : Ending) (w' : World) : Prop :=
  Below w.heap.size w w' ∧ ((∃ k, scaledS n d = .error k ∧ e = .returned (.tuple #[.slice none 0 0, .int .i64 0, .int .i64 k])) ∨
    ∃ (m c : Nat) (v : Value), n = (m : Int) ∧ 1 ≤ m ∧ m ≤ 24 ∧ d.length = m * m ∧ scaledS n d = .ok c ∧ e = .returned (.tuple #[v, .int .i64 c, .int .i64 0]) ∧ w'.ownsRow w.heap.size 2 1 v (m * m) (fl encI ((List.range (m * m)).map fun k => (scK d c k : Int))))
theorem rs_res_err {w w' : World} {n : Int} {d : List Fr} {k : Int} (hb : Below w.heap.size w w') (h : scaledS n d = .error k) : RsRes w n d (.returned (.tuple #[.slice none 0 0, .int .i64 0, .int .i64 k])) w' := ⟨hb, .inl ⟨k, h, rfl⟩⟩
theorem badFr_false {x : Fr} (h : badFr x = false) : decide (x.2 < 1) = false ∧ decide (x.1 < 0) = false := by
  simpa [badFr] using h

set_option maxRecDepth 100000 in
set_option maxHeartbeats 2000000 in
theorem rscaled_bad (a : Option Addr) (n c : Nat) (d : List Fr) (w : World) (hn1 : 1 ≤ n) (hn2 : n ≤ 24) (hd : d.length = n * n) (hA : Rd w a (fl encFr d)) (hbad : d.any badFr = true) :
    Calls Tryd.prog 49 #[.int .i64 n, .slice a (n * n) c] w (RsRes w n d) := by
  have hnn : n * n ≤ 576 := by have := Nat.mul_le_mul hn2 hn2; omega
  have hs := Lib.hid (show scaledS n d = .error 2 by rw [scaledS, if_neg (by omega), if_pos (.inr hbad)])
  have HB := Lib.hid hbad
  have HD := Lib.hid hd
  clear hd hbad
  generalize hN : n * n = N at *
  have hw1 : IntKind.i64.wrap ((n : Int) * (n : Int)) = (N : Int) := wrap_nat _ _ (by rw [← hN]; simp) (by omega)
  clear hN
  go_enter Tryd.func49, Tryd.ntmps49
  go_wp2_with fail
  go_loopw [7] (fun x wr => ∃ k : Nat, k ≤ N ∧ x = .int .i64 k ∧ NoneBefore badFr d k ∧ ∃ n, wr = w.drewN n) (fun x _ => N - (intOf x).toNat)
  case atStart => exact ⟨0, by omega, rfl, NoneBefore.zero _ _, 0, rfl⟩
  case round =>
    obtain ⟨k, hk, rfl, hnb, m, rfl⟩ := hrel
    by_cases hlt : k < N
    · have hkd : Hid (k < d.length) := by rw [HD.out]; exact hlt
      obtain ⟨b, o, rfl, hb, hc⟩ := rdFr hA (by have := hkd.out; omega)
      obtain ⟨g0, g1⟩ := hc k hkd.out
      have hat : Hid (d[k]'hkd.out = (fN d k, fD d k)) := by have := hkd.out; simp [fN, fD, this, Hid]
      clear hc
      by_cases h1 : fD d k < 1
      · go_wp2_with fail
        go_ret3
        exact rs_res_err (bl_drewN (Below.refl _ _) _) hs.out
      · have h1b : decide (fD d k < 1) = false := by simpa using h1
        by_cases h2 : fN d k < 0
        · go_wp2_with fail
          go_ret3
          exact rs_res_err (bl_drewN (Below.refl _ _) _) hs.out
        · have h2b : decide (fN d k < 0) = false := by simpa using h2
          have hnx := hnb.next hkd.out (by rw [hat.out]; simp only [badFr]; rw [h1b, h2b]; rfl)
          clear h1 h2
          go_wp2_with fail
          go_roundw
          case rel => exact ⟨k + 1, by omega, by go_num, hnx, m, rfl⟩
          case measure => simp [intOf]; omega
    · have := hnb.any (by rw [HD.out]; omega)
      rw [HB.out] at this
      cases this
set_option maxRecDepth 100000 in
set_option maxHeartbeats 1000000 in
theorem rscaled_any (a : Option Addr) (n : Int) (N c : Nat) (d : List Fr) (w : World) (hn1 : -9223372036854775808 ≤ n) (hn2 : n ≤ 9223372036854775807) (hd : d.length = N) (hN : N ≤ 1152921504606846976) (hA : Rd w a (fl encFr d)) (hok : FitFr d) :
    Calls Tryd.prog 49 #[.int .i64 n, .slice a N c] w (RsRes w n d) := by
  by_cases h1 : n < 1
  · have hs := Lib.hid (show scaledS n d = .error 3 by rw [scaledS, if_pos (.inl h1)])
    go_enter Tryd.func49, Tryd.ntmps49
    go_wp2_with fail
    go_ret3
    exact rs_res_err (Below.refl _ _) hs.out
  · by_cases h2 : 24 < n
    · have hs := Lib.hid (show scaledS n d = .error 3 by rw [scaledS, if_pos (.inr h2)])
      go_enter Tryd.func49, Tryd.ntmps49
      go_wp2_with fail
      go_ret3
      exact rs_res_err (Below.refl _ _) hs.out
    · obtain ⟨m, rfl⟩ : ∃ m : Nat, n = m := ⟨n.toNat, by omega⟩
      by_cases h3 : N = m * m
      · subst h3
        by_cases h4 : d.any badFr = true
        · exact rscaled_bad a m c d w (by omega) (by omega) hd hA h4
        · refine (rscaled_in a m c d w (by omega) (by omega) hd hA hok (by simpa using h4)).mono ?_
          rintro e w' ⟨hb, hr⟩
          refine ⟨hb, hr.imp id ?_⟩
          rintro ⟨c, v, h⟩
          exact ⟨m, c, v, rfl, by omega, by omega, hd, h⟩
      · have hs := Lib.hid (show scaledS m d = .error 2 by
          rw [scaledS, if_neg (by omega), if_pos]
          left
          rw [hd, ← Int.natCast_mul]
          omega)
        have hmm : m * m ≤ 576 := by have := Nat.mul_le_mul (show m ≤ 24 by omega) (show m ≤ 24 by omega); omega
        obtain ⟨M, hM⟩ : ∃ M, M = m * m := ⟨_, rfl⟩
        have hw1 : IntKind.i64.wrap ((m : Int) * (m : Int)) = (M : Int) := wrap_nat _ _ (by rw [hM]; simp) (by omega)
        have hne : ((N : Int) != (M : Int)) = true := by simp; omega
        clear hM h3 hmm
        go_enter Tryd.func49, Tryd.ntmps49
        go_wp2_with fail
        go_ret3
        exact rs_res_err (Below.refl _ _) hs.out
end Go.Proofs.YtahgffjkkdbjeaaDoor
namespace Go.Proofs.YtahgffjkkdbjeaaDoor
open Go.RowKit
def UlPost (w : World) (n : Int) (d : List Fr) (e : Ending) (w' : World) : Prop := e = .returned (.tuple #[.bool (ultraS n d).1, .int .i64 (ultraS n d).2]) ∧ Below w.heap.size w w'
theorem ul_post {w w' : World} {n : Int} {d : List Fr} {b : Bool} {k : Int} (h : ultraS n d = (b, k)) (hb : Below w.heap.size w w') : UlPost w n d (.returned (.tuple #[.bool b, .int .i64 k])) w' := ⟨by rw [h], hb⟩
theorem ul_err {n : Int} {d : List Fr} {k : Int} (h : scaledS n d = .error k) : ultraS n d = (false, k) := by rw [ultraS, h]
theorem ul_no {n : Nat} {d : List Fr} {c : Nat} (h : scaledS n d = .ok c) {a b x : Nat} (ha : a < n) (hb : b < n) (hx : x < n) (hn : ¬ dist d c n a b ≤ max (dist d c n a x) (dist d c n b x)) : ultraS n d = (false, 0) := by
  rw [ultraS, h]
  exact Prod.ext (decide_eq_false fun hu => hn (hu a ha b hb x hx)) rfl
theorem ul_yes {n : Nat} {d : List Fr} {c : Nat} (h : scaledS n d = .ok c) (hu : UltraP d c n) : ultraS n d = (true, 0) := by
  rw [ultraS, h]
  exact Prod.ext (decide_eq_true hu) rfl
theorem scaled_err_ne {n : Int} {d : List Fr} {k : Int} (h : scaledS n d = .error k) : (k != 0) = true := by
  rw [scaledS] at h
  repeat' split at h
  all_goals (first | (cases h; rfl) | (cases h))

set_option maxRecDepth 100000 in
set_option maxHeartbeats 2000000 in
theorem ultra_any (a : Option Addr) (n : Int) (N c : Nat) (d : List Fr) (w : World) (hn1 : -9223372036854775808 ≤ n) (hn2 : n ≤ 9223372036854775807) (hd : d.length = N) (hN : N ≤ 1152921504606846976) (hA : Rd w a (fl encFr d)) (hok : FitFr d) :
    Calls Tryd.prog 15 #[.int .i64 n, .slice a N c] w (UlPost w n d) := by
  have HD := Lib.hid hd
  clear hd
  go_enter Tryd.func15, Tryd.ntmps15
  go_wp2_with fail
  refine (scaled_any a n N c d w hn1 hn2 HD.out hN hA hok).mono ?_
  rintro e w1 ⟨hb1, ⟨k, hk, rfl⟩ | ⟨m, cm, B, g, rfl, hm1, hm2, hl, hs, rfl, hB, hblk, hg⟩⟩
  · have hs := Lib.hid (ul_err hk)
    have hk0 := scaled_err_ne hk
    clear hk
    go_wp2_with fail
    go_ret2
    exact ul_post hs.out hb1
  · have HG := Lib.hid hg
    have HS := Lib.hid hs
    have HL := Lib.hid hl
    have hle : Hid (∀ i j, i < m → j < m → g (i * 24 + j) = dist d cm m i j ∧ dist d cm m i j ≤ 1073741824) := fun i j hi hj => ⟨hg i j hi hj, dist_le hs hok hi hj⟩
    clear hg hs hl
    go_wp2_with fail
    go_loopw [21, 8, 9, 25, 10, 29] (fun x _ _ _ _ _ wr => ∃ i : Nat, i ≤ m ∧ x = .int .i64 i ∧ Hid (∀ a, a < i → ∀ b, b < a → ∀ x, x < m → dist d cm m a b ≤ max (dist d cm m a x) (dist d cm m b x)) ∧ ∃ nq, wr = w1.drewN nq) (fun x _ _ _ _ _ _ => m - (intOf x).toNat)
    case atStart => exact ⟨0, by omega, rfl, fun a h => absurd h (by omega), 0, rfl⟩
    case round =>
      obtain ⟨i, hi, rfl, h1, nq1, rfl⟩ := hrel
      by_cases hlt : i < m
      · go_wp2_with fail
        go_loopw [25, 9, 10, 29] (fun x _ _ _ wr => ∃ j : Nat, j ≤ i ∧ x = .int .i64 j ∧ Hid (∀ b, b < j → ∀ x, x < m → dist d cm m i b ≤ max (dist d cm m i x) (dist d cm m b x)) ∧ ∃ nq, wr = w1.drewN nq) (fun x _ _ _ _ => i - (intOf x).toNat)
        case atStart => exact ⟨0, by omega, rfl, fun a h => absurd h (by omega), nq1, rfl⟩
        case round =>
          obtain ⟨j, hj, rfl, h2, nq2, rfl⟩ := hrel
          by_cases hjt : j < i
          · go_wp2_with fail
            go_loopw [29, 10] (fun x _ wr => ∃ l : Nat, l ≤ m ∧ x = .int .i64 l ∧ Hid (∀ x, x < l → dist d cm m i j ≤ max (dist d cm m i x) (dist d cm m j x)) ∧ ∃ nq, wr = w1.drewN nq) (fun x _ _ => m - (intOf x).toNat)
            case atStart => exact ⟨0, by omega, rfl, fun a h => absurd h (by omega), nq2, rfl⟩
            case round =>
              obtain ⟨l, hl, rfl, h3, nq3, rfl⟩ := hrel
              by_cases hlt3 : l < m
              · obtain ⟨g1, b1⟩ := hle.out i j hlt (by omega)
                obtain ⟨g2, b2⟩ := hle.out i l hlt hlt3
                obtain ⟨g3, b3⟩ := hle.out j l (by omega) hlt3
                have e1 := hblk.getF (2 + i * 24 + j) (by omega)
                have e2 := hblk.getF (2 + i * 24 + l) (by omega)
                have e3 := hblk.getF (2 + j * 24 + l) (by omega)
                have d1 : dg m cm g (2 + i * 24 + j) = .int .i64 (dist d cm m i j) := by rw [← g1, dg, if_neg (by omega), if_neg (by omega), show 2 + i * 24 + j - 2 = i * 24 + j by omega]
                have d2 : dg m cm g (2 + i * 24 + l) = .int .i64 (dist d cm m i l) := by rw [← g2, dg, if_neg (by omega), if_neg (by omega), show 2 + i * 24 + l - 2 = i * 24 + l by omega]
                have d3 : dg m cm g (2 + j * 24 + l) = .int .i64 (dist d cm m j l) := by rw [← g3, dg, if_neg (by omega), if_neg (by omega), show 2 + j * 24 + l - 2 = j * 24 + l by omega]
                rw [d1] at e1
                rw [d2] at e2
                rw [d3] at e3
                clear g1 g2 g3 d1 d2 d3
                obtain ⟨x1, hx1⟩ : ∃ x, x = dist d cm m i j := ⟨_, rfl⟩
                obtain ⟨x2, hx2⟩ : ∃ x, x = dist d cm m i l := ⟨_, rfl⟩
                obtain ⟨x3, hx3⟩ : ∃ x, x = dist d cm m j l := ⟨_, rfl⟩
                rw [← hx1] at e1 b1
                rw [← hx2] at e2 b2
                rw [← hx3] at e3 b3
                have HX := Lib.hid (And.intro hx1 (And.intro hx2 hx3))
                clear hx1 hx2 hx3
                by_cases hc : x1 ≤ max x2 x3
                · have h4 : Hid (∀ x, x < l + 1 → dist d cm m i j ≤ max (dist d cm m i x) (dist d cm m j x)) := fun x hx => by
                    by_cases e : x = l
                    · rw [e, ← HX.out.1, ← HX.out.2.1, ← HX.out.2.2]; exact hc
                    · exact h3.out x (by omega)
                  by_cases hm : x2 < x3
                  all_goals
                    have hc2 : x1 ≤ x2 ∨ x1 ≤ x3 := by omega
                    first
                      | have hc3 : ¬ (x3 < x1) := by omega
                      | have hc3 : ¬ (x2 < x1) := by omega
                    clear hc hc2
                    go_wp2_with fail
                    go_quiet (fail)
                    go_wp2_with fail
                    go_roundw
                    case rel => exact ⟨l + 1, by omega, by go_num, h4, _, rfl⟩
                    case measure => simp [intOf]; omega
                · have hs := Lib.hid (ul_no HS.out hlt (show j < m by omega) hlt3 (by rw [← HX.out.1, ← HX.out.2.1, ← HX.out.2.2]; exact hc))
                  by_cases hm : x2 < x3
                  all_goals
                    have hc3 : x3 < x1 := by omega
                    have hc4 : x2 < x1 := by omega
                    clear hc
                    go_wp2_with fail
                    go_quiet (fail)
                    go_wp2_with fail
                    go_ret2
                    exact ul_post hs.out (bl_drewN (bl_drewN hb1 _) _)
              · go_wp2_with fail
                go_roundw
                case rel => exact ⟨j + 1, by omega, by go_num, fun b hb x hx => by
                    by_cases e : b = j
                    · rw [e]; exact h3.out x (by omega)
                    · exact h2.out b (by omega) x hx, nq3, rfl⟩
                case measure => simp [intOf]; omega
          · go_wp2_with fail
            go_roundw
            case rel => exact ⟨i + 1, by omega, by go_num, fun a ha b hb x hx => by
                by_cases e : a = i
                · rw [e]; exact h2.out b (by omega) x hx
                · exact h1.out a (by omega) b hb x hx, nq2, rfl⟩
            case measure => simp [intOf]; omega
      · go_wp2_with fail
        go_ret2
        have : i = m := by omega
        subst this
        exact ul_post (ul_yes HS.out (ultra_of_low (scaled_ok_parts HS.out).2.2.2.2.1 h1.out)) (bl_drewN hb1 _)

theorem scK_cells {w : World} {base : Nat} {a : Option Addr} {cap m : Nat} {d : List Fr} {c : Nat} (h : w.ownsRow base 2 1 (.slice a (m * m) cap) (m * m) (fl encI ((List.range (m * m)).map fun k => (scK d c k : Int)))) (hm : 1 ≤ m) :
    ∃ g o, a = some ⟨g, o, none⟩ ∧ g < w.heap.size ∧ ∀ k, k < m * m → w.cell? ⟨g, o + k, none⟩ = some (.int .i64 (scK d c k)) := by
  have hl : ((List.range (m * m)).map fun k => (scK d c k : Int)).length = m * m := by simp
  have h1 : 0 < m * m := Nat.mul_pos hm hm
  obtain ⟨b, o, e, hb, hc⟩ := rdI (rd_of_owns h) (by rw [hl]; exact h1)
  refine ⟨b, o, e, hb, fun k hk => ?_⟩
  rw [hc k (by rw [hl]; exact hk)]
  simp [iA, hk]
set_option maxRecDepth 100000 in
set_option maxHeartbeats 4000000 in
theorem rultra_any (a : Option Addr) (n : Int) (N c : Nat) (d : List Fr) (w : World) (hn1 : -9223372036854775808 ≤ n) (hn2 : n ≤ 9223372036854775807) (hd : d.length = N) (hN : N ≤ 1152921504606846976) (hA : Rd w a (fl encFr d)) (hok : FitFr d) :
    Calls Tryd.prog 16 #[.int .i64 n, .slice a N c] w (UlPost w n d) := by
  have HD := Lib.hid hd
  clear hd
  go_enter Tryd.func16, Tryd.ntmps16
  go_wp2_with fail
  refine (rscaled_any a n N c d w hn1 hn2 HD.out hN hA hok).mono ?_
  rintro e w1 ⟨hb1, ⟨k, hk, rfl⟩ | ⟨m, cm, v, rfl, hm1, hm2, hl, hs, rfl, hown⟩⟩
  · have hs := Lib.hid (ul_err hk)
    have hk0 := scaled_err_ne hk
    clear hk
    go_wp2_with fail
    go_ret2
    exact ul_post hs.out hb1
  · have HS := Lib.hid hs
    obtain ⟨ga, gcap, rfl, _⟩ := owns_slice hown
    obtain ⟨g, o, rfl, hgl, hcell⟩ := scK_cells hown hm1
    have hmm : m * m ≤ 576 := by have := Nat.mul_le_mul hm2 hm2; omega
    have hle : Hid (∀ i j, i < m → j < m → w1.cell? ⟨g, o + (i * m + j), none⟩ = some (.int .i64 (dist d cm m i j)) ∧ dist d cm m i j ≤ 1073741824) := fun i j hi hj => ⟨hcell _ (idx_lt rfl hi hj), dist_le hs hok hi hj⟩
    clear hcell hs hl hown
    obtain ⟨M, hM⟩ : ∃ M, M = m * m := ⟨_, rfl⟩
    rw [← hM] at hmm ⊢
    have HM := Lib.hid hM.symm
    clear hM
    go_wp2_with fail
    go_loopw [9, 10, 11] (fun x _ _ wr => ∃ i : Nat, i ≤ m ∧ x = .int .i64 i ∧ Hid (∀ a, a < i → ∀ b, b < m → ∀ x, x < m → dist d cm m a b ≤ max (dist d cm m a x) (dist d cm m b x)) ∧ ∃ nq, wr = w1.drewN nq) (fun x _ _ _ => m - (intOf x).toNat)
    case atStart => exact ⟨0, by omega, rfl, fun a h => absurd h (by omega), 0, rfl⟩
    case round =>
      obtain ⟨i, hi, rfl, h1, nq1, rfl⟩ := hrel
      by_cases hlt : i < m
      · go_wp2_with fail
        go_loopw [10, 11] (fun x _ wr => ∃ j : Nat, j ≤ m ∧ x = .int .i64 j ∧ Hid (∀ b, b < j → ∀ x, x < m → dist d cm m i b ≤ max (dist d cm m i x) (dist d cm m b x)) ∧ ∃ nq, wr = w1.drewN nq) (fun x _ _ => m - (intOf x).toNat)
        case atStart => exact ⟨0, by omega, rfl, fun a h => absurd h (by omega), nq1, rfl⟩
        case round =>
          obtain ⟨j, hj, rfl, h2, nq2, rfl⟩ := hrel
          by_cases hjt : j < m
          · go_wp2_with fail
            go_loopw [11] (fun x wr => ∃ l : Nat, l ≤ m ∧ x = .int .i64 l ∧ Hid (∀ x, x < l → dist d cm m i j ≤ max (dist d cm m i x) (dist d cm m j x)) ∧ ∃ nq, wr = w1.drewN nq) (fun x _ => m - (intOf x).toNat)
            case atStart => exact ⟨0, by omega, rfl, fun a h => absurd h (by omega), nq2, rfl⟩
            case round =>
              obtain ⟨l, hl, rfl, h3, nq3, rfl⟩ := hrel
              by_cases hlt3 : l < m
              · obtain ⟨e1, b1⟩ := hle.out i j hlt hjt
                obtain ⟨e2, b2⟩ := hle.out i l hlt hlt3
                obtain ⟨e3, b3⟩ := hle.out j l hjt hlt3
                obtain ⟨m1, m2, k1, _, hm1', hm2', hk1, _, c1, _⟩ := idx_two (n := m) (N := M) (a := i) (b := j) HM.out (by omega) (by omega) (by omega)
                obtain ⟨k2, hk2⟩ : ∃ k, m1 + l = k := ⟨_, rfl⟩
                obtain ⟨k3, hk3⟩ : ∃ k, m2 + l = k := ⟨_, rfl⟩
                have c2 : k2 < M := by rw [← hk2, ← hm1']; exact idx_lt HM.out hlt hlt3
                have c3 : k3 < M := by rw [← hk3, ← hm2']; exact idx_lt HM.out hjt hlt3
                rw [hm1', hk1] at e1
                rw [hm1', hk2] at e2
                rw [hm2', hk3] at e3
                have w1 := wrap_nat ((i : Int) * (m : Int)) m1 (by rw [← hm1']; simp) (by omega)
                have w2 := wrap_nat ((j : Int) * (m : Int)) m2 (by rw [← hm2']; simp) (by omega)
                have w3 := wrap_nat ((m1 : Int) + (j : Int)) k1 (by omega) (by omega)
                have w4 := wrap_nat ((m1 : Int) + (l : Int)) k2 (by omega) (by omega)
                have w5 := wrap_nat ((m2 : Int) + (l : Int)) k3 (by omega) (by omega)
                clear hm1' hm2' hk1 hk2 hk3
                obtain ⟨x1, hx1⟩ : ∃ x, x = dist d cm m i j := ⟨_, rfl⟩
                obtain ⟨x2, hx2⟩ : ∃ x, x = dist d cm m i l := ⟨_, rfl⟩
                obtain ⟨x3, hx3⟩ : ∃ x, x = dist d cm m j l := ⟨_, rfl⟩
                rw [← hx1] at e1 b1
                rw [← hx2] at e2 b2
                rw [← hx3] at e3 b3
                have HX := Lib.hid (And.intro hx1 (And.intro hx2 hx3))
                clear hx1 hx2 hx3
                by_cases hc : x1 ≤ max x2 x3
                · have h4 : Hid (∀ x, x < l + 1 → dist d cm m i j ≤ max (dist d cm m i x) (dist d cm m j x)) := fun x hx => by
                    by_cases e : x = l
                    · rw [e, ← HX.out.1, ← HX.out.2.1, ← HX.out.2.2]; exact hc
                    · exact h3.out x (by omega)
                  by_cases hm : x2 < x3
                  all_goals
                    have hc2 : x1 ≤ x2 ∨ x1 ≤ x3 := by omega
                    first
                      | have hc3 : ¬ (x3 < x1) := by omega
                      | have hc3 : ¬ (x2 < x1) := by omega
                    clear hc hc2
                    go_wp2_with fail
                    go_quiet (fail)
                    go_wp2_with fail
                    go_roundw
                    case rel => exact ⟨l + 1, by omega, by go_num, h4, _, rfl⟩
                    case measure => simp [intOf]; omega
                · have hs := Lib.hid (ul_no HS.out hlt hjt hlt3 (by rw [← HX.out.1, ← HX.out.2.1, ← HX.out.2.2]; exact hc))
                  by_cases hm : x2 < x3
                  all_goals
                    have hc3 : x3 < x1 := by omega
                    have hc4 : x2 < x1 := by omega
                    clear hc
                    go_wp2_with fail
                    go_quiet (fail)
                    go_wp2_with fail
                    go_ret2
                    exact ul_post hs.out (bl_drewN (bl_drewN hb1 _) _)
              · go_wp2_with fail
                go_roundw
                case rel => exact ⟨j + 1, by omega, by go_num, fun b hb x hx => by
                    by_cases e : b = j
                    · rw [e]; exact h3.out x (by omega)
                    · exact h2.out b (by omega) x hx, nq3, rfl⟩
                case measure => simp [intOf]; omega
          · go_wp2_with fail
            go_roundw
            case rel => exact ⟨i + 1, by omega, by go_num, fun a ha b hb x hx => by
                by_cases e : a = i
                · rw [e]; exact h2.out b (by omega) x hx
                · exact h1.out a (by omega) b hb x hx, nq2, rfl⟩
            case measure => simp [intOf]; omega
      · go_wp2_with fail
        go_ret2
        have : i = m := by omega
        subst this
        exact ul_post (ul_yes HS.out h1.out) (bl_drewN hb1 _)
end Go.Proofs.YtahgffjkkdbjeaaDoor
