/- Parts of the statement GlottoGreat: each case, walked. -/
import Derived.Test.YtahgffjkkdbjeaaDoorGB
namespace Go.Proofs.YtahgffjkkdbjeaaDoor
open Go.RowKit
theorem good_merges {d : List Fr} {n q m : Nat} (h : GoodD d n q m) (a : Option Addr) (w : World) (hA : Rd w a (fl encFr d)) :
    Calls Tryd.prog 23 #[.int .i64 n, .slice a (n * n) (n * n)] w fun e w' => (∃ v, e = .returned (.tuple #[v, .int .i64 0])) ∧ Below w.heap.size w w' := by
  have h1 := h.one
  have hnn : n * n ≤ 24 * 24 := Nat.mul_le_mul h1.2.1 h1.2.1
  obtain ⟨c, hok, _⟩ := h.ok
  refine (merges_any a n (n * n) (n * n) d w (by omega) (by omega) h.len (by omega) hA h.fit).mono ?_
  rintro e w2 ⟨hb, ⟨x, hx, _⟩ | ⟨m, c', v, g1, hm, hm1, hm24, hc', rfl, _⟩⟩
  · rw [hok] at hx; cases hx
  · exact ⟨⟨v, rfl⟩, hb⟩
theorem good_rank {d : List Fr} {n q m : Nat} (h : GoodD d n q m) (a : Option Addr) (w : World) (hA : Rd w a (fl encFr d)) :
    Calls Tryd.prog 19 #[.int .i64 n, .slice a (n * n) (n * n), .int .i64 0] w fun e w' => (∃ B cap, e = .returned (.tuple #[.slice (some ⟨B, 0, none⟩) n cap, .int .i64 0])) ∧ Below w.heap.size w w' := by
  have h1 := h.one
  have hnn : n * n ≤ 24 * 24 := Nat.mul_le_mul h1.2.1 h1.2.1
  obtain ⟨c, hok, _⟩ := h.ok
  refine (rank_any a n 0 (n * n) (n * n) d w (by omega) (by omega) (by omega) (by omega) h.len (by omega) hA h.fit).mono ?_
  rintro e w2 ⟨hb, ⟨x, hx, _⟩ | ⟨m, c', y, B, cap, f, hm, hy, _, _, _, rfl, _⟩⟩
  · rw [rankE_ok hok (by omega) (by omega)] at hx; cases hx
  · obtain rfl : m = n := by omega
    exact ⟨⟨B, cap, rfl⟩, hb⟩
theorem many_merges {d : List Fr} {n N : Nat} (h : 24 < n) (hn : n ≤ 30) (hN : d.length = N) (hN2 : N ≤ 900) (a : Option Addr) (w : World) (hA : Rd w a (fl encFr d)) (hf : FitFr d) :
    Calls Tryd.prog 23 #[.int .i64 n, .slice a N N] w fun e w' => e = .returned (.tuple #[.slice none 0 0, .int .i64 3]) ∧ Below w.heap.size w w' := by
  have hs : scaledS n d = .error 3 := by unfold scaledS; exact if_pos (by omega)
  refine (merges_any a n N N d w (by omega) (by omega) hN (by omega) hA hf).mono ?_
  rintro e w2 ⟨hb, ⟨x, hx, rfl⟩ | ⟨m, c', v, g1, hm, hm1, hm24, hc', rfl, _⟩⟩
  · rw [hs] at hx
    injection hx with hx
    rw [← hx]
    exact ⟨rfl, hb⟩
  · omega
theorem many_rank {d : List Fr} {n N : Nat} (h : 24 < n) (hn : n ≤ 30) (hN : d.length = N) (hN2 : N ≤ 900) (a : Option Addr) (w : World) (hA : Rd w a (fl encFr d)) (hf : FitFr d) :
    Calls Tryd.prog 19 #[.int .i64 n, .slice a N N, .int .i64 0] w fun e w' => e = .returned (.tuple #[.slice none 0 0, .int .i64 3]) ∧ Below w.heap.size w w' := by
  have hs : scaledS n d = .error 3 := by unfold scaledS; exact if_pos (by omega)
  refine (rank_any a n 0 N N d w (by omega) (by omega) (by omega) (by omega) hN (by omega) hA hf).mono ?_
  rintro e w2 ⟨hb, ⟨x, hx, rfl⟩ | ⟨m, c', y, B, cap, f, hm, hy, _, hm24, _, rfl, _⟩⟩
  · rw [rankE_err hs] at hx
    injection hx with hx
    rw [← hx]
    exact ⟨rfl, hb⟩
  · omega
theorem nil_joined {n : Nat} {k : Int} (hn : n ≤ 30) (h : joinE n [] = .error k) (w : World) :
    Calls Tryd.prog 40 #[.int .i64 n, .slice none 0 0] w fun e w' => e = .returned (.tuple #[.slice none 0 0, .int .i64 k]) ∧ Below w.heap.size w w' := by
  refine (joined_any none n 0 0 [] w (by omega) (by omega) rfl (by omega) (Rd.nil _ _) (fun i hi => absurd hi (by simp))).mono ?_
  rintro e w2 ⟨hb, ⟨x, hx, rfl⟩ | ⟨m, v, hm, hc, _⟩⟩
  · rw [h] at hx
    injection hx with hx
    rw [← hx]
    exact ⟨rfl, hb⟩
  · rw [h] at hc; cases hc
def l123 : List Int := [1, 2, 3]
theorem b123 : ∀ i, i < 3 → 0 ≤ uA l123 i ∧ uA l123 i ≤ 65535 := by decide
theorem far123 (n : Nat) (a : Option Addr) (w : World) (h1 : 1 ≤ n) (h2 : n ≤ 30) (hA : Rd w a (fl encU l123)) :
    Calls Tryd.prog 22 #[.int .i64 n, .slice a 3 3, .int .u8 3] w fun e w' => ∃ g, e = .returned (.slice (some ⟨g, 0, none⟩) (n * n) (n * n)) ∧ Rd w' (some ⟨g, 0, none⟩) (fl encFr (farL l123 3 n)) ∧ Below w.heap.size w w' :=
  (far_any n 3 3 a l123 3 w h1 h2 rfl (by omega) (by omega) (by omega) hA b123).mono fun e w' ⟨g, he, _, hff, hb⟩ => ⟨g, he, ff_rd hff, hb⟩
theorem good123 {n : Nat} (h1 : 1 ≤ n) (h2 : n ≤ 24) : GoodD (farL l123 3 n) n 4 65535 := far_good (l := l123) b123 (by omega) h1 h2
theorem fit123 {n : Nat} (h : n ≤ 30) : FitFr (farL l123 3 n) := fun i hi => by
  rw [farL_len] at hi
  obtain ⟨e1, e2⟩ := farL_get l123 3 n i hi
  rw [e1, e2]
  have key : ∀ a b, (farD l123 3 a b).1 ≤ 65535 ∧ (farD l123 3 a b).2 ≤ 4 := fun a b => by
    have hv : ∀ a b, farV l123 a b ≤ 65535 := fun a b => by
      unfold farV
      rw [if_neg (by decide)]
      exact (b123 _ (Nat.mod_lt _ (by decide))).2
    unfold farD farX
    have h1 := hv a b
    have h2 := hv b a
    split
    · exact ⟨h1, by show (1 : Int) + 3 % 16 ≤ 4; omega⟩
    · split
      · exact ⟨h2, by show (1 : Int) + 3 % 16 ≤ 4; omega⟩
      · exact ⟨by show (0 : Int) ≤ _; omega, by show (1 : Int) ≤ _; omega⟩
  have := key (i / n) (i % n)
  omega
theorem rows_rep {w : World} {a b : Option Addr} {m n c : Nat} {x : Int} (hR : Rd w a (fl encR (List.replicate m (b, n, c)))) (hb : Rd w b (fl encI (List.replicate n x))) (hn : n ≤ 1152921504606846976) : Rows w a (List.replicate m (b, n, c)) (List.replicate m (List.replicate n x)) := by
  refine ⟨hR, by simp, fun i hi => ?_⟩
  rw [List.length_replicate] at hi
  have e1 : rwk (List.replicate m (List.replicate n x)) i = List.replicate n x := by simp [rwk, hi]
  have e2 : rA (List.replicate m (b, n, c)) i = b := by simp [rA, hi]
  have e3 : rN (List.replicate m (b, n, c)) i = n := by simp [rN, hi]
  rw [e1, e2, e3, List.length_replicate]
  exact ⟨hb, rfl, hn⟩
theorem rep_shares {a b : Option Addr} {m n c cap : Nat} {x : Int} {w : World} (hR : Rd w a (fl encR (List.replicate m (b, n, c)))) (hb : Rd w b (fl encI (List.replicate n x))) (hx : 0 ≤ x) (hm1 : 1 ≤ m) (hm : m ≤ 256) (hn1 : 1 < n) (hn : n ≤ 24) :
    Calls Tryd.prog 26 #[.slice a m cap] w fun e w' => Below w.heap.size w w' ∧ ∃ g cap', e = .returned (.tuple #[.slice (some ⟨g, 0, none⟩) (n * n) cap', .int .i64 0]) ∧ w'.cell? ⟨g, 2, none⟩ = some (.int .i64 1) ∧ w'.cell? ⟨g, 3, none⟩ = some (.int .i64 1) := by
  refine (shares_any a m cap _ _ w (by simp) (by omega) (rows_rep hR hb (by omega))).mono ?_
  rintro e w2 ⟨hb, ⟨k, hk, _⟩ | ⟨n', v, hok, hn', rfl, _, hown⟩⟩
  · rw [same_ok hx hm1 hm hn] at hk; cases hk
  · rw [same_ok hx hm1 hm hn] at hok
    injection hok with hok
    subst hok
    have hnn : 1 < n * n := Nat.lt_of_lt_of_le hn1 (Nat.le_mul_of_pos_left _ (by omega))
    obtain ⟨sa, sc, rfl, h0⟩ := owns_slice hown
    rcases h0 with h0 | ⟨g, _, _, rfl⟩
    · omega
    refine ⟨hb, g, sc, rfl, ?_⟩
    obtain ⟨gb, go, ge, _, gc⟩ := rdFr (rd_of_owns hown) (by simp [shL]; omega)
    simp only [Option.some.injEq, Addr.mk.injEq, and_true] at ge
    obtain ⟨rfl, rfl⟩ := ge
    obtain ⟨g0, g1⟩ := gc 1 (by simp [shL]; omega)
    have e1 : fN (shL (List.replicate m (List.replicate n x)) n) 1 = 1 ∧ fD (shL (List.replicate m (List.replicate n x)) n) 1 = 1 := by
      unfold fN fD shL
      simp only [List.getD_eq_getElem?_getD, List.getElem?_map, List.getElem?_range hnn, Option.map_some, Option.getD_some]
      rw [Nat.div_eq_of_lt hn1, Nat.mod_eq_of_lt hn1, same_share hx hm1 (by omega) hn1]
      exact ⟨rfl, rfl⟩
    rw [e1.1] at g0
    rw [e1.2] at g1
    exact ⟨g0, g1⟩
theorem rep_many {a b : Option Addr} {m n c cap : Nat} {x : Int} {w : World} (hR : Rd w a (fl encR (List.replicate m (b, n, c)))) (hb : Rd w b (fl encI (List.replicate n x))) (hm : m ≤ 1000) (hn : n ≤ 1000) (h : 256 < m ∨ (0 < m ∧ 24 < n)) :
    Calls Tryd.prog 26 #[.slice a m cap] w fun e w' => e = .returned (.tuple #[.slice none 0 0, .int .i64 12]) ∧ Below w.heap.size w w' := by
  refine (shares_any a m cap _ _ w (by simp) (by omega) (rows_rep hR hb (by omega))).mono ?_
  rintro e w2 ⟨hb, ⟨k, hk, rfl⟩ | ⟨n', v, hok, hn', rfl, _, hown⟩⟩
  · rw [same_many h] at hk
    injection hk with hk
    rw [← hk]
    exact ⟨rfl, hb⟩
  · rw [same_many h] at hok; cases hok
set_option maxRecDepth 100000 in
set_option maxHeartbeats 1000000 in
theorem great_0_0 (mo wh : Int) (w : World) (a0 : 0 ≤ mo) (a1 : mo ≤ 255) (b0 : 0 ≤ wh) (b1 : wh ≤ 255) (hr : mo % 4 = 0) (hc : wh % 6 = 0) :
    Calls Tryd.prog 13 #[.int .u8 mo, .int .u8 wh] w fun e w' => e = .returned (.bool true) ∧ Below w.heap.size w w' := by
  have hs := Lib.hid (show scaledS 2 (twoL 1 1073741822) = .ok 1073741822 by kernel_rfl)
  have hp := Lib.hid (show lowN ((scK (twoL 1 1073741822) 1073741822 1 : Int), ((1073741822 : Nat) : Int)) = 1 by kernel_rfl)
  have hq := Lib.hid (show lowD ((scK (twoL 1 1073741822) 1073741822 1 : Int), ((1073741822 : Nat) : Int)) = 1073741822 by kernel_rfl)
  have hg := guardFr
  have he := eqlFr 1 1 1073741822 1073741822
  simp only [decide_true, Bool.and_self] at he
  go_enter Tryd.func13, Tryd.ntmps13
  go_wp2_with fail
  refine (two_any 1 1073741822 _).mono ?_
  rintro e w1 ⟨g, rfl, hA, hb1⟩
  have HB1 := Lib.hid hb1
  clear hb1
  go_wp2_with fail
  refine (two_merges hs.out (by omega) (by omega) hp.out hq.out _ _ hA).mono ?_
  rintro e w2 ⟨hb2, b, cap, rfl, c0, c1⟩
  have HB2 := Lib.hid (bl_trans HB1.out hb2)
  clear hb2 hA
  go_wp2_with fail
  refine (works_any _).mono ?_
  rintro e w12 ⟨rfl, hb12⟩
  have HB12 := Lib.hid (bl_trans HB2.out hb12)
  clear hb12
  go_wp2_with fail
  go_ret
  exact ⟨rfl, HB12.out⟩
set_option maxRecDepth 100000 in
set_option maxHeartbeats 1000000 in
theorem great_0_1 (mo wh : Int) (w : World) (a0 : 0 ≤ mo) (a1 : mo ≤ 255) (b0 : 0 ≤ wh) (b1 : wh ≤ 255) (hr : mo % 4 = 1) (hc : wh % 6 = 0) :
    Calls Tryd.prog 13 #[.int .u8 mo, .int .u8 wh] w fun e w' => e = .returned (.bool true) ∧ Below w.heap.size w w' := by
  have hs := Lib.hid (show scaledS 2 (twoL 1 1073741823) = .ok 1073741823 by kernel_rfl)
  have hp := Lib.hid (show lowN ((scK (twoL 1 1073741823) 1073741823 1 : Int), ((1073741823 : Nat) : Int)) = 1 by kernel_rfl)
  have hq := Lib.hid (show lowD ((scK (twoL 1 1073741823) 1073741823 1 : Int), ((1073741823 : Nat) : Int)) = 1073741823 by kernel_rfl)
  have hg := guardFr
  have he := eqlFr 1 1 1073741823 1073741823
  simp only [decide_true, Bool.and_self] at he
  go_enter Tryd.func13, Tryd.ntmps13
  go_wp2_with fail
  refine (two_any 1 1073741823 _).mono ?_
  rintro e w1 ⟨g, rfl, hA, hb1⟩
  have HB1 := Lib.hid hb1
  clear hb1
  go_wp2_with fail
  refine (two_merges hs.out (by omega) (by omega) hp.out hq.out _ _ hA).mono ?_
  rintro e w2 ⟨hb2, b, cap, rfl, c0, c1⟩
  have HB2 := Lib.hid (bl_trans HB1.out hb2)
  clear hb2 hA
  go_wp2_with fail
  refine (works_any _).mono ?_
  rintro e w12 ⟨rfl, hb12⟩
  have HB12 := Lib.hid (bl_trans HB2.out hb12)
  clear hb12
  go_wp2_with fail
  go_ret
  exact ⟨rfl, HB12.out⟩
set_option maxRecDepth 100000 in
set_option maxHeartbeats 1000000 in
theorem great_0_2 (mo wh : Int) (w : World) (a0 : 0 ≤ mo) (a1 : mo ≤ 255) (b0 : 0 ≤ wh) (b1 : wh ≤ 255) (hr : mo % 4 = 2) (hc : wh % 6 = 0) :
    Calls Tryd.prog 13 #[.int .u8 mo, .int .u8 wh] w fun e w' => e = .returned (.bool true) ∧ Below w.heap.size w w' := by
  have hs := Lib.hid (show scaledS 2 (twoL 1 1073741824) = .ok 1073741824 by kernel_rfl)
  have hp := Lib.hid (show lowN ((scK (twoL 1 1073741824) 1073741824 1 : Int), ((1073741824 : Nat) : Int)) = 1 by kernel_rfl)
  have hq := Lib.hid (show lowD ((scK (twoL 1 1073741824) 1073741824 1 : Int), ((1073741824 : Nat) : Int)) = 1073741824 by kernel_rfl)
  have hg := guardFr
  have he := eqlFr 1 1 1073741824 1073741824
  simp only [decide_true, Bool.and_self] at he
  go_enter Tryd.func13, Tryd.ntmps13
  go_wp2_with fail
  refine (two_any 1 1073741824 _).mono ?_
  rintro e w1 ⟨g, rfl, hA, hb1⟩
  have HB1 := Lib.hid hb1
  clear hb1
  go_wp2_with fail
  refine (two_merges hs.out (by omega) (by omega) hp.out hq.out _ _ hA).mono ?_
  rintro e w2 ⟨hb2, b, cap, rfl, c0, c1⟩
  have HB2 := Lib.hid (bl_trans HB1.out hb2)
  clear hb2 hA
  go_wp2_with fail
  refine (works_any _).mono ?_
  rintro e w12 ⟨rfl, hb12⟩
  have HB12 := Lib.hid (bl_trans HB2.out hb12)
  clear hb12
  go_wp2_with fail
  go_ret
  exact ⟨rfl, HB12.out⟩
set_option maxRecDepth 100000 in
set_option maxHeartbeats 1000000 in
theorem great_0_3 (mo wh : Int) (w : World) (a0 : 0 ≤ mo) (a1 : mo ≤ 255) (b0 : 0 ≤ wh) (b1 : wh ≤ 255) (hr : mo % 4 = 3) (hc : wh % 6 = 0) :
    Calls Tryd.prog 13 #[.int .u8 mo, .int .u8 wh] w fun e w' => e = .returned (.bool true) ∧ Below w.heap.size w w' := by
  have hs := Lib.hid (show scaledS 2 (twoL 1 1073741825) = .error 7 by kernel_rfl)
  go_enter Tryd.func13, Tryd.ntmps13
  go_wp2_with fail
  refine (two_any 1 1073741825 _).mono ?_
  rintro e w1 ⟨g, rfl, hA, hb1⟩
  have HB1 := Lib.hid hb1
  clear hb1
  go_wp2_with fail
  refine (two_over hs.out (by omega) (by omega) _ _ hA).mono ?_
  rintro e w2 ⟨hb2, rfl⟩
  have HB2 := Lib.hid (bl_trans HB1.out hb2)
  clear hb2 hA
  go_wp2_with fail
  refine (works_any _).mono ?_
  rintro e w12 ⟨rfl, hb12⟩
  have HB12 := Lib.hid (bl_trans HB2.out hb12)
  clear hb12
  go_wp2_with fail
  go_ret
  exact ⟨rfl, HB12.out⟩
set_option maxRecDepth 100000 in
set_option maxHeartbeats 1000000 in
theorem great_1_0 (mo wh : Int) (w : World) (a0 : 0 ≤ mo) (a1 : mo ≤ 255) (b0 : 0 ≤ wh) (b1 : wh ≤ 255) (hr : mo % 4 = 0) (hc : wh % 6 = 1) :
    Calls Tryd.prog 13 #[.int .u8 mo, .int .u8 wh] w fun e w' => e = .returned (.bool true) ∧ Below w.heap.size w w' := by
  have hs := Lib.hid (show scaledS 2 (twoL 7516192754 7) = .ok 1 by kernel_rfl)
  have hp := Lib.hid (show lowN ((scK (twoL 7516192754 7) 1 1 : Int), ((1 : Nat) : Int)) = 1073741822 by kernel_rfl)
  have hq := Lib.hid (show lowD ((scK (twoL 7516192754 7) 1 1 : Int), ((1 : Nat) : Int)) = 1 by kernel_rfl)
  have hg := guardFr
  have he := eqlFr 1073741822 1073741822 1 1
  simp only [decide_true, Bool.and_self] at he
  go_enter Tryd.func13, Tryd.ntmps13
  go_wp2_with fail
  refine (two_any 7516192754 7 _).mono ?_
  rintro e w1 ⟨g, rfl, hA, hb1⟩
  have HB1 := Lib.hid hb1
  clear hb1
  go_wp2_with fail
  refine (two_merges hs.out (by omega) (by omega) hp.out hq.out _ _ hA).mono ?_
  rintro e w2 ⟨hb2, b, cap, rfl, c0, c1⟩
  have HB2 := Lib.hid (bl_trans HB1.out hb2)
  clear hb2 hA
  go_wp2_with fail
  refine (works_any _).mono ?_
  rintro e w12 ⟨rfl, hb12⟩
  have HB12 := Lib.hid (bl_trans HB2.out hb12)
  clear hb12
  go_wp2_with fail
  go_ret
  exact ⟨rfl, HB12.out⟩
set_option maxRecDepth 100000 in
set_option maxHeartbeats 1000000 in
theorem great_1_1 (mo wh : Int) (w : World) (a0 : 0 ≤ mo) (a1 : mo ≤ 255) (b0 : 0 ≤ wh) (b1 : wh ≤ 255) (hr : mo % 4 = 1) (hc : wh % 6 = 1) :
    Calls Tryd.prog 13 #[.int .u8 mo, .int .u8 wh] w fun e w' => e = .returned (.bool true) ∧ Below w.heap.size w w' := by
  have hs := Lib.hid (show scaledS 2 (twoL 7516192761 7) = .ok 1 by kernel_rfl)
  have hp := Lib.hid (show lowN ((scK (twoL 7516192761 7) 1 1 : Int), ((1 : Nat) : Int)) = 1073741823 by kernel_rfl)
  have hq := Lib.hid (show lowD ((scK (twoL 7516192761 7) 1 1 : Int), ((1 : Nat) : Int)) = 1 by kernel_rfl)
  have hg := guardFr
  have he := eqlFr 1073741823 1073741823 1 1
  simp only [decide_true, Bool.and_self] at he
  go_enter Tryd.func13, Tryd.ntmps13
  go_wp2_with fail
  refine (two_any 7516192761 7 _).mono ?_
  rintro e w1 ⟨g, rfl, hA, hb1⟩
  have HB1 := Lib.hid hb1
  clear hb1
  go_wp2_with fail
  refine (two_merges hs.out (by omega) (by omega) hp.out hq.out _ _ hA).mono ?_
  rintro e w2 ⟨hb2, b, cap, rfl, c0, c1⟩
  have HB2 := Lib.hid (bl_trans HB1.out hb2)
  clear hb2 hA
  go_wp2_with fail
  refine (works_any _).mono ?_
  rintro e w12 ⟨rfl, hb12⟩
  have HB12 := Lib.hid (bl_trans HB2.out hb12)
  clear hb12
  go_wp2_with fail
  go_ret
  exact ⟨rfl, HB12.out⟩
set_option maxRecDepth 100000 in
set_option maxHeartbeats 1000000 in
theorem great_1_2 (mo wh : Int) (w : World) (a0 : 0 ≤ mo) (a1 : mo ≤ 255) (b0 : 0 ≤ wh) (b1 : wh ≤ 255) (hr : mo % 4 = 2) (hc : wh % 6 = 1) :
    Calls Tryd.prog 13 #[.int .u8 mo, .int .u8 wh] w fun e w' => e = .returned (.bool true) ∧ Below w.heap.size w w' := by
  have hs := Lib.hid (show scaledS 2 (twoL 7516192768 7) = .ok 1 by kernel_rfl)
  have hp := Lib.hid (show lowN ((scK (twoL 7516192768 7) 1 1 : Int), ((1 : Nat) : Int)) = 1073741824 by kernel_rfl)
  have hq := Lib.hid (show lowD ((scK (twoL 7516192768 7) 1 1 : Int), ((1 : Nat) : Int)) = 1 by kernel_rfl)
  have hg := guardFr
  have he := eqlFr 1073741824 1073741824 1 1
  simp only [decide_true, Bool.and_self] at he
  go_enter Tryd.func13, Tryd.ntmps13
  go_wp2_with fail
  refine (two_any 7516192768 7 _).mono ?_
  rintro e w1 ⟨g, rfl, hA, hb1⟩
  have HB1 := Lib.hid hb1
  clear hb1
  go_wp2_with fail
  refine (two_merges hs.out (by omega) (by omega) hp.out hq.out _ _ hA).mono ?_
  rintro e w2 ⟨hb2, b, cap, rfl, c0, c1⟩
  have HB2 := Lib.hid (bl_trans HB1.out hb2)
  clear hb2 hA
  go_wp2_with fail
  refine (works_any _).mono ?_
  rintro e w12 ⟨rfl, hb12⟩
  have HB12 := Lib.hid (bl_trans HB2.out hb12)
  clear hb12
  go_wp2_with fail
  go_ret
  exact ⟨rfl, HB12.out⟩
set_option maxRecDepth 100000 in
set_option maxHeartbeats 1000000 in
theorem great_1_3 (mo wh : Int) (w : World) (a0 : 0 ≤ mo) (a1 : mo ≤ 255) (b0 : 0 ≤ wh) (b1 : wh ≤ 255) (hr : mo % 4 = 3) (hc : wh % 6 = 1) :
    Calls Tryd.prog 13 #[.int .u8 mo, .int .u8 wh] w fun e w' => e = .returned (.bool true) ∧ Below w.heap.size w w' := by
  have hs := Lib.hid (show scaledS 2 (twoL 7516192775 7) = .error 7 by kernel_rfl)
  go_enter Tryd.func13, Tryd.ntmps13
  go_wp2_with fail
  refine (two_any 7516192775 7 _).mono ?_
  rintro e w1 ⟨g, rfl, hA, hb1⟩
  have HB1 := Lib.hid hb1
  clear hb1
  go_wp2_with fail
  refine (two_over hs.out (by omega) (by omega) _ _ hA).mono ?_
  rintro e w2 ⟨hb2, rfl⟩
  have HB2 := Lib.hid (bl_trans HB1.out hb2)
  clear hb2 hA
  go_wp2_with fail
  refine (works_any _).mono ?_
  rintro e w12 ⟨rfl, hb12⟩
  have HB12 := Lib.hid (bl_trans HB2.out hb12)
  clear hb12
  go_wp2_with fail
  go_ret
  exact ⟨rfl, HB12.out⟩
set_option maxRecDepth 100000 in
set_option maxHeartbeats 1000000 in
theorem great_2_0 (mo wh : Int) (w : World) (a0 : 0 ≤ mo) (a1 : mo ≤ 255) (b0 : 0 ≤ wh) (b1 : wh ≤ 255) (hr : mo % 4 = 0) (hc : wh % 6 = 2) :
    Calls Tryd.prog 13 #[.int .u8 mo, .int .u8 wh] w fun e w' => e = .returned (.bool true) ∧ Below w.heap.size w w' := by
  have hs := Lib.hid (show scaledS 2 (twoL 0 9223372036854775807) = .ok 1 by kernel_rfl)
  have hu := Lib.hid (show UltraP (twoL 0 9223372036854775807) 1 2 from of_decide_eq_true (by kernel_rfl))
  go_enter Tryd.func13, Tryd.ntmps13
  go_wp2_with fail
  refine (two_any 0 9223372036854775807 _).mono ?_
  rintro e w1 ⟨g, rfl, hA, hb1⟩
  have HB1 := Lib.hid hb1
  clear hb1
  go_wp2_with fail
  refine (two_ultra hs.out hu.out (by omega) (by omega) _ _ hA).mono ?_
  rintro e w2 ⟨rfl, hb2⟩
  have HB2 := Lib.hid (bl_trans HB1.out hb2)
  clear hb2 hA
  go_wp2_with fail
  refine (nine_rank _ _ (rd_of_blkG (Blk.new w2 _ 40) rfl)).mono ?_
  rintro e w3 ⟨rfl, hb3⟩
  have HB3 := Lib.hid (HB2.out.trans ((bl_alloc (Below.refl _ _) _).trans (hb3.mono (by simp)) |>.mono HB2.out.size))
  clear hb3
  go_wp2_with fail
  refine (works_any _).mono ?_
  rintro e w12 ⟨rfl, hb12⟩
  have HB12 := Lib.hid (bl_trans HB3.out hb12)
  clear hb12
  go_wp2_with fail
  go_ret
  exact ⟨rfl, HB12.out⟩
set_option maxRecDepth 100000 in
set_option maxHeartbeats 1000000 in
theorem great_2_1 (mo wh : Int) (w : World) (a0 : 0 ≤ mo) (a1 : mo ≤ 255) (b0 : 0 ≤ wh) (b1 : wh ≤ 255) (hr : mo % 4 = 1) (hc : wh % 6 = 2) :
    Calls Tryd.prog 13 #[.int .u8 mo, .int .u8 wh] w fun e w' => e = .returned (.bool true) ∧ Below w.heap.size w w' := by
  have hs := Lib.hid (show scaledS 2 (twoL 0 9223372036854775807) = .ok 1 by kernel_rfl)
  have hu := Lib.hid (show UltraP (twoL 0 9223372036854775807) 1 2 from of_decide_eq_true (by kernel_rfl))
  go_enter Tryd.func13, Tryd.ntmps13
  go_wp2_with fail
  refine (two_any 0 9223372036854775807 _).mono ?_
  rintro e w1 ⟨g, rfl, hA, hb1⟩
  have HB1 := Lib.hid hb1
  clear hb1
  go_wp2_with fail
  refine (two_ultra hs.out hu.out (by omega) (by omega) _ _ hA).mono ?_
  rintro e w2 ⟨rfl, hb2⟩
  have HB2 := Lib.hid (bl_trans HB1.out hb2)
  clear hb2 hA
  go_wp2_with fail
  refine (nine_rank _ _ (rd_of_blkG (Blk.new w2 _ 40) rfl)).mono ?_
  rintro e w3 ⟨rfl, hb3⟩
  have HB3 := Lib.hid (HB2.out.trans ((bl_alloc (Below.refl _ _) _).trans (hb3.mono (by simp)) |>.mono HB2.out.size))
  clear hb3
  go_wp2_with fail
  refine (works_any _).mono ?_
  rintro e w12 ⟨rfl, hb12⟩
  have HB12 := Lib.hid (bl_trans HB3.out hb12)
  clear hb12
  go_wp2_with fail
  go_ret
  exact ⟨rfl, HB12.out⟩
set_option maxRecDepth 100000 in
set_option maxHeartbeats 1000000 in
theorem great_2_2 (mo wh : Int) (w : World) (a0 : 0 ≤ mo) (a1 : mo ≤ 255) (b0 : 0 ≤ wh) (b1 : wh ≤ 255) (hr : mo % 4 = 2) (hc : wh % 6 = 2) :
    Calls Tryd.prog 13 #[.int .u8 mo, .int .u8 wh] w fun e w' => e = .returned (.bool true) ∧ Below w.heap.size w w' := by
  have hs := Lib.hid (show scaledS 2 (twoL 0 9223372036854775807) = .ok 1 by kernel_rfl)
  have hu := Lib.hid (show UltraP (twoL 0 9223372036854775807) 1 2 from of_decide_eq_true (by kernel_rfl))
  go_enter Tryd.func13, Tryd.ntmps13
  go_wp2_with fail
  refine (two_any 0 9223372036854775807 _).mono ?_
  rintro e w1 ⟨g, rfl, hA, hb1⟩
  have HB1 := Lib.hid hb1
  clear hb1
  go_wp2_with fail
  refine (two_ultra hs.out hu.out (by omega) (by omega) _ _ hA).mono ?_
  rintro e w2 ⟨rfl, hb2⟩
  have HB2 := Lib.hid (bl_trans HB1.out hb2)
  clear hb2 hA
  go_wp2_with fail
  refine (nine_rank _ _ (rd_of_blkG (Blk.new w2 _ 40) rfl)).mono ?_
  rintro e w3 ⟨rfl, hb3⟩
  have HB3 := Lib.hid (HB2.out.trans ((bl_alloc (Below.refl _ _) _).trans (hb3.mono (by simp)) |>.mono HB2.out.size))
  clear hb3
  go_wp2_with fail
  refine (works_any _).mono ?_
  rintro e w12 ⟨rfl, hb12⟩
  have HB12 := Lib.hid (bl_trans HB3.out hb12)
  clear hb12
  go_wp2_with fail
  go_ret
  exact ⟨rfl, HB12.out⟩
set_option maxRecDepth 100000 in
set_option maxHeartbeats 1000000 in
theorem great_2_3 (mo wh : Int) (w : World) (a0 : 0 ≤ mo) (a1 : mo ≤ 255) (b0 : 0 ≤ wh) (b1 : wh ≤ 255) (hr : mo % 4 = 3) (hc : wh % 6 = 2) :
    Calls Tryd.prog 13 #[.int .u8 mo, .int .u8 wh] w fun e w' => e = .returned (.bool true) ∧ Below w.heap.size w w' := by
  have hs := Lib.hid (show scaledS 2 (twoL 0 9223372036854775807) = .ok 1 by kernel_rfl)
  have hu := Lib.hid (show UltraP (twoL 0 9223372036854775807) 1 2 from of_decide_eq_true (by kernel_rfl))
  go_enter Tryd.func13, Tryd.ntmps13
  go_wp2_with fail
  refine (two_any 0 9223372036854775807 _).mono ?_
  rintro e w1 ⟨g, rfl, hA, hb1⟩
  have HB1 := Lib.hid hb1
  clear hb1
  go_wp2_with fail
  refine (two_ultra hs.out hu.out (by omega) (by omega) _ _ hA).mono ?_
  rintro e w2 ⟨rfl, hb2⟩
  have HB2 := Lib.hid (bl_trans HB1.out hb2)
  clear hb2 hA
  go_wp2_with fail
  refine (nine_rank _ _ (rd_of_blkG (Blk.new w2 _ 40) rfl)).mono ?_
  rintro e w3 ⟨rfl, hb3⟩
  have HB3 := Lib.hid (HB2.out.trans ((bl_alloc (Below.refl _ _) _).trans (hb3.mono (by simp)) |>.mono HB2.out.size))
  clear hb3
  go_wp2_with fail
  refine (works_any _).mono ?_
  rintro e w12 ⟨rfl, hb12⟩
  have HB12 := Lib.hid (bl_trans HB3.out hb12)
  clear hb12
  go_wp2_with fail
  go_ret
  exact ⟨rfl, HB12.out⟩
set_option maxRecDepth 100000 in
set_option maxHeartbeats 1000000 in
theorem great_3_0 (mo wh : Int) (w : World) (a0 : 0 ≤ mo) (a1 : mo ≤ 255) (b0 : 0 ≤ wh) (b1 : wh ≤ 255) (hr : mo % 4 = 0) (hc : wh % 6 = 3) :
    Calls Tryd.prog 13 #[.int .u8 mo, .int .u8 wh] w fun e w' => e = .returned (.bool true) ∧ Below w.heap.size w w' := by
  have hj := Lib.hid (show joinE (22 : Nat) [] = .error 2 by kernel_rfl)
  go_enter Tryd.func13, Tryd.ntmps13
  go_wp2_with fail
  refine (far123 22 _ _ (by omega) (by omega) (rd_of_blkG (Blk.new w #[.int .u16 1, .int .u16 2, .int .u16 3] 48) rfl)).mono ?_
  rintro e w1 ⟨g, rfl, hA, hb1⟩
  have HB1 := Lib.hid (bl_trans (bl_alloc (Below.refl _ _) _) hb1)
  clear hb1
  go_wp2_with fail
  refine (good_merges (good123 (n := 22) (by omega) (by omega)) _ _ hA).mono ?_
  rintro e w2 ⟨⟨v, rfl⟩, hb2⟩
  have HB2 := Lib.hid (bl_trans HB1.out hb2)
  clear hb2 hA
  go_wp2_with fail
  refine (far123 22 _ _ (by omega) (by omega) (rd_of_blkG (Blk.new w2 #[.int .u16 1, .int .u16 2, .int .u16 3] 48) rfl)).mono ?_
  rintro e w3 ⟨g3, rfl, hA, hb3⟩
  have HB3 := Lib.hid (bl_trans HB2.out (bl_trans (bl_alloc (Below.refl _ _) _) hb3))
  clear hb3
  go_wp2_with fail
  refine (good_rank (good123 (n := 22) (by omega) (by omega)) _ _ hA).mono ?_
  rintro e w4 ⟨⟨B, cap, rfl⟩, hb4⟩
  have HB4 := Lib.hid (bl_trans HB3.out hb4)
  clear hb4 hA
  go_wp2_with fail
  refine (nil_joined (n := 22) (by omega) hj.out _).mono ?_
  rintro e w5 ⟨rfl, hb5⟩
  have HB5 := Lib.hid (bl_trans HB4.out hb5)
  clear hb5
  go_wp2_with fail
  refine (works_any _).mono ?_
  rintro e w12 ⟨rfl, hb12⟩
  have HB12 := Lib.hid (bl_trans HB5.out hb12)
  clear hb12
  go_wp2_with fail
  go_ret
  exact ⟨rfl, HB12.out⟩
set_option maxRecDepth 100000 in
set_option maxHeartbeats 1000000 in
theorem great_3_1 (mo wh : Int) (w : World) (a0 : 0 ≤ mo) (a1 : mo ≤ 255) (b0 : 0 ≤ wh) (b1 : wh ≤ 255) (hr : mo % 4 = 1) (hc : wh % 6 = 3) :
    Calls Tryd.prog 13 #[.int .u8 mo, .int .u8 wh] w fun e w' => e = .returned (.bool true) ∧ Below w.heap.size w w' := by
  have hj := Lib.hid (show joinE (23 : Nat) [] = .error 2 by kernel_rfl)
  go_enter Tryd.func13, Tryd.ntmps13
  go_wp2_with fail
  refine (far123 23 _ _ (by omega) (by omega) (rd_of_blkG (Blk.new w #[.int .u16 1, .int .u16 2, .int .u16 3] 48) rfl)).mono ?_
  rintro e w1 ⟨g, rfl, hA, hb1⟩
  have HB1 := Lib.hid (bl_trans (bl_alloc (Below.refl _ _) _) hb1)
  clear hb1
  go_wp2_with fail
  refine (good_merges (good123 (n := 23) (by omega) (by omega)) _ _ hA).mono ?_
  rintro e w2 ⟨⟨v, rfl⟩, hb2⟩
  have HB2 := Lib.hid (bl_trans HB1.out hb2)
  clear hb2 hA
  go_wp2_with fail
  refine (far123 23 _ _ (by omega) (by omega) (rd_of_blkG (Blk.new w2 #[.int .u16 1, .int .u16 2, .int .u16 3] 48) rfl)).mono ?_
  rintro e w3 ⟨g3, rfl, hA, hb3⟩
  have HB3 := Lib.hid (bl_trans HB2.out (bl_trans (bl_alloc (Below.refl _ _) _) hb3))
  clear hb3
  go_wp2_with fail
  refine (good_rank (good123 (n := 23) (by omega) (by omega)) _ _ hA).mono ?_
  rintro e w4 ⟨⟨B, cap, rfl⟩, hb4⟩
  have HB4 := Lib.hid (bl_trans HB3.out hb4)
  clear hb4 hA
  go_wp2_with fail
  refine (nil_joined (n := 23) (by omega) hj.out _).mono ?_
  rintro e w5 ⟨rfl, hb5⟩
  have HB5 := Lib.hid (bl_trans HB4.out hb5)
  clear hb5
  go_wp2_with fail
  refine (works_any _).mono ?_
  rintro e w12 ⟨rfl, hb12⟩
  have HB12 := Lib.hid (bl_trans HB5.out hb12)
  clear hb12
  go_wp2_with fail
  go_ret
  exact ⟨rfl, HB12.out⟩
set_option maxRecDepth 100000 in
set_option maxHeartbeats 1000000 in
theorem great_3_2 (mo wh : Int) (w : World) (a0 : 0 ≤ mo) (a1 : mo ≤ 255) (b0 : 0 ≤ wh) (b1 : wh ≤ 255) (hr : mo % 4 = 2) (hc : wh % 6 = 3) :
    Calls Tryd.prog 13 #[.int .u8 mo, .int .u8 wh] w fun e w' => e = .returned (.bool true) ∧ Below w.heap.size w w' := by
  have hj := Lib.hid (show joinE (24 : Nat) [] = .error 2 by kernel_rfl)
  go_enter Tryd.func13, Tryd.ntmps13
  go_wp2_with fail
  refine (far123 24 _ _ (by omega) (by omega) (rd_of_blkG (Blk.new w #[.int .u16 1, .int .u16 2, .int .u16 3] 48) rfl)).mono ?_
  rintro e w1 ⟨g, rfl, hA, hb1⟩
  have HB1 := Lib.hid (bl_trans (bl_alloc (Below.refl _ _) _) hb1)
  clear hb1
  go_wp2_with fail
  refine (good_merges (good123 (n := 24) (by omega) (by omega)) _ _ hA).mono ?_
  rintro e w2 ⟨⟨v, rfl⟩, hb2⟩
  have HB2 := Lib.hid (bl_trans HB1.out hb2)
  clear hb2 hA
  go_wp2_with fail
  refine (far123 24 _ _ (by omega) (by omega) (rd_of_blkG (Blk.new w2 #[.int .u16 1, .int .u16 2, .int .u16 3] 48) rfl)).mono ?_
  rintro e w3 ⟨g3, rfl, hA, hb3⟩
  have HB3 := Lib.hid (bl_trans HB2.out (bl_trans (bl_alloc (Below.refl _ _) _) hb3))
  clear hb3
  go_wp2_with fail
  refine (good_rank (good123 (n := 24) (by omega) (by omega)) _ _ hA).mono ?_
  rintro e w4 ⟨⟨B, cap, rfl⟩, hb4⟩
  have HB4 := Lib.hid (bl_trans HB3.out hb4)
  clear hb4 hA
  go_wp2_with fail
  refine (nil_joined (n := 24) (by omega) hj.out _).mono ?_
  rintro e w5 ⟨rfl, hb5⟩
  have HB5 := Lib.hid (bl_trans HB4.out hb5)
  clear hb5
  go_wp2_with fail
  refine (works_any _).mono ?_
  rintro e w12 ⟨rfl, hb12⟩
  have HB12 := Lib.hid (bl_trans HB5.out hb12)
  clear hb12
  go_wp2_with fail
  go_ret
  exact ⟨rfl, HB12.out⟩
set_option maxRecDepth 100000 in
set_option maxHeartbeats 1000000 in
theorem great_3_3 (mo wh : Int) (w : World) (a0 : 0 ≤ mo) (a1 : mo ≤ 255) (b0 : 0 ≤ wh) (b1 : wh ≤ 255) (hr : mo % 4 = 3) (hc : wh % 6 = 3) :
    Calls Tryd.prog 13 #[.int .u8 mo, .int .u8 wh] w fun e w' => e = .returned (.bool true) ∧ Below w.heap.size w w' := by
  have hj := Lib.hid (show joinE (25 : Nat) [] = .error 3 by kernel_rfl)
  go_enter Tryd.func13, Tryd.ntmps13
  go_wp2_with fail
  refine (far123 25 _ _ (by omega) (by omega) (rd_of_blkG (Blk.new w #[.int .u16 1, .int .u16 2, .int .u16 3] 48) rfl)).mono ?_
  rintro e w1 ⟨g, rfl, hA, hb1⟩
  have HB1 := Lib.hid (bl_trans (bl_alloc (Below.refl _ _) _) hb1)
  clear hb1
  go_wp2_with fail
  refine (many_merges (n := 25) (by omega) (by omega) (farL_len _ _ _) (by omega) _ _ hA (fit123 (by omega))).mono ?_
  rintro e w2 ⟨rfl, hb2⟩
  have HB2 := Lib.hid (bl_trans HB1.out hb2)
  clear hb2 hA
  go_wp2_with fail
  refine (far123 25 _ _ (by omega) (by omega) (rd_of_blkG (Blk.new w2 #[.int .u16 1, .int .u16 2, .int .u16 3] 48) rfl)).mono ?_
  rintro e w3 ⟨g3, rfl, hA, hb3⟩
  have HB3 := Lib.hid (bl_trans HB2.out (bl_trans (bl_alloc (Below.refl _ _) _) hb3))
  clear hb3
  go_wp2_with fail
  refine (many_rank (n := 25) (by omega) (by omega) (farL_len _ _ _) (by omega) _ _ hA (fit123 (by omega))).mono ?_
  rintro e w4 ⟨rfl, hb4⟩
  have HB4 := Lib.hid (bl_trans HB3.out hb4)
  clear hb4 hA
  go_wp2_with fail
  refine (nil_joined (n := 25) (by omega) hj.out _).mono ?_
  rintro e w5 ⟨rfl, hb5⟩
  have HB5 := Lib.hid (bl_trans HB4.out hb5)
  clear hb5
  go_wp2_with fail
  refine (works_any _).mono ?_
  rintro e w12 ⟨rfl, hb12⟩
  have HB12 := Lib.hid (bl_trans HB5.out hb12)
  clear hb12
  go_wp2_with fail
  go_ret
  exact ⟨rfl, HB12.out⟩
set_option maxRecDepth 100000 in
set_option maxHeartbeats 1000000 in
theorem great_4_0 (mo wh : Int) (w : World) (a0 : 0 ≤ mo) (a1 : mo ≤ 255) (b0 : 0 ≤ wh) (b1 : wh ≤ 255) (hr : mo % 4 = 0) (hc : wh % 6 = 4) :
    Calls Tryd.prog 13 #[.int .u8 mo, .int .u8 wh] w fun e w' => e = .returned (.bool true) ∧ Below w.heap.size w w' := by
  have hg := guardFr
  have he := eqlFr 1 1 1 1
  simp only [decide_true, Bool.and_self] at he
  go_enter Tryd.func13, Tryd.ntmps13
  go_wp2_with fail
  have hk1 := Blk.new w #[.int .i64 1, .int .i64 1] 3
  have hk2 := Blk.new (w.alloc (.cells #[.int .i64 1, .int .i64 1] 3)) #[.slice (some ⟨w.heap.size, 0, none⟩) 2 2] 29
  have HR1 := Lib.hid (show Rd _ (some ⟨w.heap.size, 0, none⟩) (fl encI (List.replicate 2 1)) from rd_of_blkG (hk1.alloc (.cells #[.slice (some ⟨w.heap.size, 0, none⟩) 2 2] 29)) rfl)
  have HBA := Lib.hid (bl_alloc (bl_alloc (Below.refl _ w) (.cells #[.int .i64 1, .int .i64 1] 3)) (.cells #[.slice (some ⟨w.heap.size, 0, none⟩) 2 2] 29))
  refine (repR_any (w.heap.size + 1) 0 1 254 (some ⟨w.heap.size, 0, none⟩, 2, 2) _ (by omega) (by omega) (rd_of_blkG (Blk.new2 w _ _ 29) rfl)).mono ?_
  clear hk1 hk2
  rintro e w1 ⟨g, rfl, hg1, hown, hb1⟩
  have HR2 := Lib.hid (HR1.out.bl hb1)
  have HRW := Lib.hid (rd_of_owns hown)
  have HB1 := Lib.hid (bl_trans HBA.out hb1)
  clear hb1 hown
  go_wp2_with fail
  refine (rep_shares HRW.out HR2.out (by omega) (by omega) (by omega) (by omega) (by omega)).mono ?_
  rintro e w2 ⟨hb2, g2, cap, rfl, c0, c1⟩
  have HB2 := Lib.hid (bl_trans HB1.out hb2)
  clear hb2
  go_wp2_with fail
  refine (works_any _).mono ?_
  rintro e w12 ⟨rfl, hb12⟩
  have HB12 := Lib.hid (bl_trans HB2.out hb12)
  clear hb12
  go_wp2_with fail
  go_ret
  exact ⟨rfl, HB12.out⟩
set_option maxRecDepth 100000 in
set_option maxHeartbeats 1000000 in
theorem great_4_1 (mo wh : Int) (w : World) (a0 : 0 ≤ mo) (a1 : mo ≤ 255) (b0 : 0 ≤ wh) (b1 : wh ≤ 255) (hr : mo % 4 = 1) (hc : wh % 6 = 4) :
    Calls Tryd.prog 13 #[.int .u8 mo, .int .u8 wh] w fun e w' => e = .returned (.bool true) ∧ Below w.heap.size w w' := by
  have hg := guardFr
  have he := eqlFr 1 1 1 1
  simp only [decide_true, Bool.and_self] at he
  go_enter Tryd.func13, Tryd.ntmps13
  go_wp2_with fail
  have hk1 := Blk.new w #[.int .i64 1, .int .i64 1] 3
  have hk2 := Blk.new (w.alloc (.cells #[.int .i64 1, .int .i64 1] 3)) #[.slice (some ⟨w.heap.size, 0, none⟩) 2 2] 29
  have HR1 := Lib.hid (show Rd _ (some ⟨w.heap.size, 0, none⟩) (fl encI (List.replicate 2 1)) from rd_of_blkG (hk1.alloc (.cells #[.slice (some ⟨w.heap.size, 0, none⟩) 2 2] 29)) rfl)
  have HBA := Lib.hid (bl_alloc (bl_alloc (Below.refl _ w) (.cells #[.int .i64 1, .int .i64 1] 3)) (.cells #[.slice (some ⟨w.heap.size, 0, none⟩) 2 2] 29))
  refine (repR_any (w.heap.size + 1) 0 1 255 (some ⟨w.heap.size, 0, none⟩, 2, 2) _ (by omega) (by omega) (rd_of_blkG (Blk.new2 w _ _ 29) rfl)).mono ?_
  clear hk1 hk2
  rintro e w1 ⟨g, rfl, hg1, hown, hb1⟩
  have HR2 := Lib.hid (HR1.out.bl hb1)
  have HRW := Lib.hid (rd_of_owns hown)
  have HB1 := Lib.hid (bl_trans HBA.out hb1)
  clear hb1 hown
  go_wp2_with fail
  refine (rep_shares HRW.out HR2.out (by omega) (by omega) (by omega) (by omega) (by omega)).mono ?_
  rintro e w2 ⟨hb2, g2, cap, rfl, c0, c1⟩
  have HB2 := Lib.hid (bl_trans HB1.out hb2)
  clear hb2
  go_wp2_with fail
  refine (works_any _).mono ?_
  rintro e w12 ⟨rfl, hb12⟩
  have HB12 := Lib.hid (bl_trans HB2.out hb12)
  clear hb12
  go_wp2_with fail
  go_ret
  exact ⟨rfl, HB12.out⟩
set_option maxRecDepth 100000 in
set_option maxHeartbeats 1000000 in
theorem great_4_2 (mo wh : Int) (w : World) (a0 : 0 ≤ mo) (a1 : mo ≤ 255) (b0 : 0 ≤ wh) (b1 : wh ≤ 255) (hr : mo % 4 = 2) (hc : wh % 6 = 4) :
    Calls Tryd.prog 13 #[.int .u8 mo, .int .u8 wh] w fun e w' => e = .returned (.bool true) ∧ Below w.heap.size w w' := by
  have hg := guardFr
  have he := eqlFr 1 1 1 1
  simp only [decide_true, Bool.and_self] at he
  go_enter Tryd.func13, Tryd.ntmps13
  go_wp2_with fail
  have hk1 := Blk.new w #[.int .i64 1, .int .i64 1] 3
  have hk2 := Blk.new (w.alloc (.cells #[.int .i64 1, .int .i64 1] 3)) #[.slice (some ⟨w.heap.size, 0, none⟩) 2 2] 29
  have HR1 := Lib.hid (show Rd _ (some ⟨w.heap.size, 0, none⟩) (fl encI (List.replicate 2 1)) from rd_of_blkG (hk1.alloc (.cells #[.slice (some ⟨w.heap.size, 0, none⟩) 2 2] 29)) rfl)
  have HBA := Lib.hid (bl_alloc (bl_alloc (Below.refl _ w) (.cells #[.int .i64 1, .int .i64 1] 3)) (.cells #[.slice (some ⟨w.heap.size, 0, none⟩) 2 2] 29))
  refine (repR_any (w.heap.size + 1) 0 1 256 (some ⟨w.heap.size, 0, none⟩, 2, 2) _ (by omega) (by omega) (rd_of_blkG (Blk.new2 w _ _ 29) rfl)).mono ?_
  clear hk1 hk2
  rintro e w1 ⟨g, rfl, hg1, hown, hb1⟩
  have HR2 := Lib.hid (HR1.out.bl hb1)
  have HRW := Lib.hid (rd_of_owns hown)
  have HB1 := Lib.hid (bl_trans HBA.out hb1)
  clear hb1 hown
  go_wp2_with fail
  refine (rep_shares HRW.out HR2.out (by omega) (by omega) (by omega) (by omega) (by omega)).mono ?_
  rintro e w2 ⟨hb2, g2, cap, rfl, c0, c1⟩
  have HB2 := Lib.hid (bl_trans HB1.out hb2)
  clear hb2
  go_wp2_with fail
  refine (works_any _).mono ?_
  rintro e w12 ⟨rfl, hb12⟩
  have HB12 := Lib.hid (bl_trans HB2.out hb12)
  clear hb12
  go_wp2_with fail
  go_ret
  exact ⟨rfl, HB12.out⟩
set_option maxRecDepth 100000 in
set_option maxHeartbeats 1000000 in
theorem great_4_3 (mo wh : Int) (w : World) (a0 : 0 ≤ mo) (a1 : mo ≤ 255) (b0 : 0 ≤ wh) (b1 : wh ≤ 255) (hr : mo % 4 = 3) (hc : wh % 6 = 4) :
    Calls Tryd.prog 13 #[.int .u8 mo, .int .u8 wh] w fun e w' => e = .returned (.bool true) ∧ Below w.heap.size w w' := by
  have hg := guardFr
  have he := eqlFr 1 1 1 1
  simp only [decide_true, Bool.and_self] at he
  go_enter Tryd.func13, Tryd.ntmps13
  go_wp2_with fail
  have hk1 := Blk.new w #[.int .i64 1, .int .i64 1] 3
  have hk2 := Blk.new (w.alloc (.cells #[.int .i64 1, .int .i64 1] 3)) #[.slice (some ⟨w.heap.size, 0, none⟩) 2 2] 29
  have HR1 := Lib.hid (show Rd _ (some ⟨w.heap.size, 0, none⟩) (fl encI (List.replicate 2 1)) from rd_of_blkG (hk1.alloc (.cells #[.slice (some ⟨w.heap.size, 0, none⟩) 2 2] 29)) rfl)
  have HBA := Lib.hid (bl_alloc (bl_alloc (Below.refl _ w) (.cells #[.int .i64 1, .int .i64 1] 3)) (.cells #[.slice (some ⟨w.heap.size, 0, none⟩) 2 2] 29))
  refine (repR_any (w.heap.size + 1) 0 1 257 (some ⟨w.heap.size, 0, none⟩, 2, 2) _ (by omega) (by omega) (rd_of_blkG (Blk.new2 w _ _ 29) rfl)).mono ?_
  clear hk1 hk2
  rintro e w1 ⟨g, rfl, hg1, hown, hb1⟩
  have HR2 := Lib.hid (HR1.out.bl hb1)
  have HRW := Lib.hid (rd_of_owns hown)
  have HB1 := Lib.hid (bl_trans HBA.out hb1)
  clear hb1 hown
  go_wp2_with fail
  refine (rep_many HRW.out HR2.out (by omega) (by omega) (.inl (by omega))).mono ?_
  rintro e w2 ⟨rfl, hb2⟩
  have HB2 := Lib.hid (bl_trans HB1.out hb2)
  clear hb2
  go_wp2_with fail
  refine (works_any _).mono ?_
  rintro e w12 ⟨rfl, hb12⟩
  have HB12 := Lib.hid (bl_trans HB2.out hb12)
  clear hb12
  go_wp2_with fail
  go_ret
  exact ⟨rfl, HB12.out⟩
set_option maxRecDepth 100000 in
set_option maxHeartbeats 1000000 in
theorem great_5_0 (mo wh : Int) (w : World) (a0 : 0 ≤ mo) (a1 : mo ≤ 255) (b0 : 0 ≤ wh) (b1 : wh ≤ 255) (hr : mo % 4 = 0) (hc : wh % 6 = 5) :
    Calls Tryd.prog 13 #[.int .u8 mo, .int .u8 wh] w fun e w' => e = .returned (.bool true) ∧ Below w.heap.size w w' := by
  go_enter Tryd.func13, Tryd.ntmps13
  go_wp2_with fail
  refine (repI_any w.heap.size 0 1 22 3 _ (by omega) (by omega) (rd_of_blkG (Blk.new w #[.int .i64 3] 3) rfl)).mono ?_
  rintro e w1 ⟨g, rfl, hg1, hown, hb1⟩
  have HR2 := Lib.hid (rd_of_owns hown)
  have HB1 := Lib.hid (bl_trans (bl_alloc (Below.refl _ w) _) hb1)
  clear hb1 hown
  go_wp2_with fail
  have HRW := Lib.hid (show Rd _ (some ⟨w1.heap.size, 0, none⟩) (fl encR (List.replicate 1 (some ⟨g, 0, none⟩, 22, 22))) from rd_of_blkG (Blk.new w1 #[.slice (some ⟨g, 0, none⟩) 22 22] 29) rfl)
  have HR3 := Lib.hid (HR2.out.bl (bl_alloc (Below.refl _ w1) (.cells #[.slice (some ⟨g, 0, none⟩) 22 22] 29)))
  have HBA := Lib.hid (HB1.out.trans ((bl_alloc (Below.refl _ w1) (.cells #[.slice (some ⟨g, 0, none⟩) 22 22] 29)).mono HB1.out.size))
  refine (rep_shares HRW.out HR3.out (by omega) (by omega) (by omega) (by omega) (by omega)).mono ?_
  rintro e w2 ⟨hb2, g2, cap, rfl, c0, c1⟩
  clear c0 c1
  have HB2 := Lib.hid (bl_trans HBA.out hb2)
  clear hb2
  go_wp2_with fail
  refine (works_any _).mono ?_
  rintro e w12 ⟨rfl, hb12⟩
  have HB12 := Lib.hid (bl_trans HB2.out hb12)
  clear hb12
  go_wp2_with fail
  go_ret
  exact ⟨rfl, HB12.out⟩
set_option maxRecDepth 100000 in
set_option maxHeartbeats 1000000 in
theorem great_5_1 (mo wh : Int) (w : World) (a0 : 0 ≤ mo) (a1 : mo ≤ 255) (b0 : 0 ≤ wh) (b1 : wh ≤ 255) (hr : mo % 4 = 1) (hc : wh % 6 = 5) :
    Calls Tryd.prog 13 #[.int .u8 mo, .int .u8 wh] w fun e w' => e = .returned (.bool true) ∧ Below w.heap.size w w' := by
  go_enter Tryd.func13, Tryd.ntmps13
  go_wp2_with fail
  refine (repI_any w.heap.size 0 1 23 3 _ (by omega) (by omega) (rd_of_blkG (Blk.new w #[.int .i64 3] 3) rfl)).mono ?_
  rintro e w1 ⟨g, rfl, hg1, hown, hb1⟩
  have HR2 := Lib.hid (rd_of_owns hown)
  have HB1 := Lib.hid (bl_trans (bl_alloc (Below.refl _ w) _) hb1)
  clear hb1 hown
  go_wp2_with fail
  have HRW := Lib.hid (show Rd _ (some ⟨w1.heap.size, 0, none⟩) (fl encR (List.replicate 1 (some ⟨g, 0, none⟩, 23, 23))) from rd_of_blkG (Blk.new w1 #[.slice (some ⟨g, 0, none⟩) 23 23] 29) rfl)
  have HR3 := Lib.hid (HR2.out.bl (bl_alloc (Below.refl _ w1) (.cells #[.slice (some ⟨g, 0, none⟩) 23 23] 29)))
  have HBA := Lib.hid (HB1.out.trans ((bl_alloc (Below.refl _ w1) (.cells #[.slice (some ⟨g, 0, none⟩) 23 23] 29)).mono HB1.out.size))
  refine (rep_shares HRW.out HR3.out (by omega) (by omega) (by omega) (by omega) (by omega)).mono ?_
  rintro e w2 ⟨hb2, g2, cap, rfl, c0, c1⟩
  clear c0 c1
  have HB2 := Lib.hid (bl_trans HBA.out hb2)
  clear hb2
  go_wp2_with fail
  refine (works_any _).mono ?_
  rintro e w12 ⟨rfl, hb12⟩
  have HB12 := Lib.hid (bl_trans HB2.out hb12)
  clear hb12
  go_wp2_with fail
  go_ret
  exact ⟨rfl, HB12.out⟩
set_option maxRecDepth 100000 in
set_option maxHeartbeats 1000000 in
theorem great_5_2 (mo wh : Int) (w : World) (a0 : 0 ≤ mo) (a1 : mo ≤ 255) (b0 : 0 ≤ wh) (b1 : wh ≤ 255) (hr : mo % 4 = 2) (hc : wh % 6 = 5) :
    Calls Tryd.prog 13 #[.int .u8 mo, .int .u8 wh] w fun e w' => e = .returned (.bool true) ∧ Below w.heap.size w w' := by
  go_enter Tryd.func13, Tryd.ntmps13
  go_wp2_with fail
  refine (repI_any w.heap.size 0 1 24 3 _ (by omega) (by omega) (rd_of_blkG (Blk.new w #[.int .i64 3] 3) rfl)).mono ?_
  rintro e w1 ⟨g, rfl, hg1, hown, hb1⟩
  have HR2 := Lib.hid (rd_of_owns hown)
  have HB1 := Lib.hid (bl_trans (bl_alloc (Below.refl _ w) _) hb1)
  clear hb1 hown
  go_wp2_with fail
  have HRW := Lib.hid (show Rd _ (some ⟨w1.heap.size, 0, none⟩) (fl encR (List.replicate 1 (some ⟨g, 0, none⟩, 24, 24))) from rd_of_blkG (Blk.new w1 #[.slice (some ⟨g, 0, none⟩) 24 24] 29) rfl)
  have HR3 := Lib.hid (HR2.out.bl (bl_alloc (Below.refl _ w1) (.cells #[.slice (some ⟨g, 0, none⟩) 24 24] 29)))
  have HBA := Lib.hid (HB1.out.trans ((bl_alloc (Below.refl _ w1) (.cells #[.slice (some ⟨g, 0, none⟩) 24 24] 29)).mono HB1.out.size))
  refine (rep_shares HRW.out HR3.out (by omega) (by omega) (by omega) (by omega) (by omega)).mono ?_
  rintro e w2 ⟨hb2, g2, cap, rfl, c0, c1⟩
  clear c0 c1
  have HB2 := Lib.hid (bl_trans HBA.out hb2)
  clear hb2
  go_wp2_with fail
  refine (works_any _).mono ?_
  rintro e w12 ⟨rfl, hb12⟩
  have HB12 := Lib.hid (bl_trans HB2.out hb12)
  clear hb12
  go_wp2_with fail
  go_ret
  exact ⟨rfl, HB12.out⟩
set_option maxRecDepth 100000 in
set_option maxHeartbeats 1000000 in
theorem great_5_3 (mo wh : Int) (w : World) (a0 : 0 ≤ mo) (a1 : mo ≤ 255) (b0 : 0 ≤ wh) (b1 : wh ≤ 255) (hr : mo % 4 = 3) (hc : wh % 6 = 5) :
    Calls Tryd.prog 13 #[.int .u8 mo, .int .u8 wh] w fun e w' => e = .returned (.bool true) ∧ Below w.heap.size w w' := by
  go_enter Tryd.func13, Tryd.ntmps13
  go_wp2_with fail
  refine (repI_any w.heap.size 0 1 25 3 _ (by omega) (by omega) (rd_of_blkG (Blk.new w #[.int .i64 3] 3) rfl)).mono ?_
  rintro e w1 ⟨g, rfl, hg1, hown, hb1⟩
  have HR2 := Lib.hid (rd_of_owns hown)
  have HB1 := Lib.hid (bl_trans (bl_alloc (Below.refl _ w) _) hb1)
  clear hb1 hown
  go_wp2_with fail
  have HRW := Lib.hid (show Rd _ (some ⟨w1.heap.size, 0, none⟩) (fl encR (List.replicate 1 (some ⟨g, 0, none⟩, 25, 25))) from rd_of_blkG (Blk.new w1 #[.slice (some ⟨g, 0, none⟩) 25 25] 29) rfl)
  have HR3 := Lib.hid (HR2.out.bl (bl_alloc (Below.refl _ w1) (.cells #[.slice (some ⟨g, 0, none⟩) 25 25] 29)))
  have HBA := Lib.hid (HB1.out.trans ((bl_alloc (Below.refl _ w1) (.cells #[.slice (some ⟨g, 0, none⟩) 25 25] 29)).mono HB1.out.size))
  refine (rep_many HRW.out HR3.out (by omega) (by omega) (.inr ⟨by omega, by omega⟩)).mono ?_
  rintro e w2 ⟨rfl, hb2⟩
  have HB2 := Lib.hid (bl_trans HBA.out hb2)
  clear hb2
  go_wp2_with fail
  refine (works_any _).mono ?_
  rintro e w12 ⟨rfl, hb12⟩
  have HB12 := Lib.hid (bl_trans HB2.out hb12)
  clear hb12
  go_wp2_with fail
  go_ret
  exact ⟨rfl, HB12.out⟩
theorem great_any (mo wh : Int) (w : World) (a0 : 0 ≤ mo) (a1 : mo ≤ 255) (b0 : 0 ≤ wh) (b1 : wh ≤ 255) :
    Calls Tryd.prog 13 #[.int .u8 mo, .int .u8 wh] w fun e w' => e = .returned (.bool true) ∧ Below w.heap.size w w' := by
  have hr : mo % 4 = 0 ∨ mo % 4 = 1 ∨ mo % 4 = 2 ∨ mo % 4 = 3 := by omega
  have hc : wh % 6 = 0 ∨ wh % 6 = 1 ∨ wh % 6 = 2 ∨ wh % 6 = 3 ∨ wh % 6 = 4 ∨ wh % 6 = 5 := by omega
  rcases hc with hc | hc | hc | hc | hc | hc
  · rcases hr with hr | hr | hr | hr
    · exact great_0_0 mo wh w a0 a1 b0 b1 hr hc
    · exact great_0_1 mo wh w a0 a1 b0 b1 hr hc
    · exact great_0_2 mo wh w a0 a1 b0 b1 hr hc
    · exact great_0_3 mo wh w a0 a1 b0 b1 hr hc
  · rcases hr with hr | hr | hr | hr
    · exact great_1_0 mo wh w a0 a1 b0 b1 hr hc
    · exact great_1_1 mo wh w a0 a1 b0 b1 hr hc
    · exact great_1_2 mo wh w a0 a1 b0 b1 hr hc
    · exact great_1_3 mo wh w a0 a1 b0 b1 hr hc
  · rcases hr with hr | hr | hr | hr
    · exact great_2_0 mo wh w a0 a1 b0 b1 hr hc
    · exact great_2_1 mo wh w a0 a1 b0 b1 hr hc
    · exact great_2_2 mo wh w a0 a1 b0 b1 hr hc
    · exact great_2_3 mo wh w a0 a1 b0 b1 hr hc
  · rcases hr with hr | hr | hr | hr
    · exact great_3_0 mo wh w a0 a1 b0 b1 hr hc
    · exact great_3_1 mo wh w a0 a1 b0 b1 hr hc
    · exact great_3_2 mo wh w a0 a1 b0 b1 hr hc
    · exact great_3_3 mo wh w a0 a1 b0 b1 hr hc
  · rcases hr with hr | hr | hr | hr
    · exact great_4_0 mo wh w a0 a1 b0 b1 hr hc
    · exact great_4_1 mo wh w a0 a1 b0 b1 hr hc
    · exact great_4_2 mo wh w a0 a1 b0 b1 hr hc
    · exact great_4_3 mo wh w a0 a1 b0 b1 hr hc
  · rcases hr with hr | hr | hr | hr
    · exact great_5_0 mo wh w a0 a1 b0 b1 hr hc
    · exact great_5_1 mo wh w a0 a1 b0 b1 hr hc
    · exact great_5_2 mo wh w a0 a1 b0 b1 hr hc
    · exact great_5_3 mo wh w a0 a1 b0 b1 hr hc
end Go.Proofs.YtahgffjkkdbjeaaDoor
