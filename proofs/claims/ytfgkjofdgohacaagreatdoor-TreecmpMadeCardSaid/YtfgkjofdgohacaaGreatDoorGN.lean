/- tree.Children of a valid tree; pairs of bytes in a list. Law TreecmpMade: the walk. Lists of strings, of numbers, of pairs of bytes that came in. -/
import Derived.Test.YtfgkjofdgohacaaGreatDoorGA
import Derived.Test.YtfgkjofdgohacaaGreatDoorGK
import Derived.Test.YtfgkjofdgohacaaGreatDoorGL
import Derived.Test.YtfgkjofdgohacaaGreatDoorGM
import Derived.Test.YtfgkjofdgohacaaGreatDoorGI
import Derived.Laws.IdiomArrays
namespace Go.Proofs.YtfgkjofdgohacaaGreatDoor
open Go Go.RowKit Go.Shelf
set_option maxRecDepth 100000 in
set_option maxHeartbeats 2000000 in
theorem children_any (a : Option Addr) (n c v : Nat) (t : List Nd) (w : World) (hn : t.length = n) (hok : TreeOk t) (hv : v < n) (hA : Rd w a (fl encNd t)) (hS : ∀ v, v < n → (nS t v).size ≤ 9223372036854775807) :
    Calls Tryz.prog 41 #[.slice a n c, .int .i64 v] w fun e w' => ∃ A cp, e = .returned (.tuple #[.slice A (famL t n v).length cp, .int .i64 0]) ∧ Below w.heap.size w w' := by
  have hn63 : n ≤ 63 := by have := hok.2.1; omega
  have hCN : chkN t v = 0 := by unfold chkN; rw [if_neg (fun h => h (chkE_good hok)), hn, if_pos (by omega)]
  have hb0 := bl_alloc (Below.refl _ w) (.cells #[.int .i64 v] 3)
  have HC := Lib.hid (tcheck_any a n c t (some ⟨w.heap.size, 0, none⟩) 1 v (w.alloc (.cells #[.int .i64 v] 3)) hn (by omega) (hA.bl hb0) (by
    have hb := Blk.new w #[.int .i64 v] 3
    intro _
    refine ⟨w.heap.size, 0, rfl, hb.lt, fun i hi => ?_⟩
    obtain rfl : i = 0 := by simp [fl, encI] at hi; omega
    exact hb.cell 0) hS)
  rw [hCN] at HC
  have HF : Hid (∀ W, Below w.heap.size w W → _) := fun W hb => families_any a n c t W hn (by omega) (hA.bl hb) (fun v h1 h2 => by
    have := tree_par hok v h1 (by rw [hn]; exact h2)
    omega)
  have HB0 := Lib.hid hb0
  clear hCN hb0 hA hS hok hn
  go_enter Tryz.func41, Tryz.ntmps41
  go_wp2_with fail
  refine HC.out.mono ?_
  rintro e w1 ⟨rfl, hb1⟩
  have HB1 := Lib.hid (bl_trans HB0.out hb1)
  clear hb1 HC
  go_wp2_with fail
  refine (HF.out _ HB1.out).mono ?_
  rintro e w2 ⟨g, rs, rfl, hF, hb2⟩
  have HB2 := Lib.hid (bl_trans HB1.out hb2)
  have G := hF.cell hv
  have hlen := hF.len v hv
  obtain ⟨⟨A, m, cp⟩, hx⟩ : ∃ x, x = rs v := ⟨_, rfl⟩
  rw [← hx] at G hlen
  have G' : w2.cell? ⟨g, v, none⟩ = some (.slice A m cp) := G
  have hm : m = (famL t n v).length := hlen
  have HM := Lib.hid hm
  clear G hlen hx hm hF hb2 HF
  go_wp2_with fail
  go_ret2
  exact ⟨A, cp, (by rw [← HM.out]; rfl), HB2.out⟩
/-- Two bytes. -/
abbrev Bp2 := Nat × Nat
def enc2B (x : Bp2) : List Value := [.int .u8 (x.1 : Int), .int .u8 (x.2 : Int)]
theorem enc2B_len (x : Bp2) : (enc2B x).length = 2 := rfl
def p2A (l : List Bp2) (i : Nat) : Bp2 := l.getD i (0, 0)
theorem rd2B {l : List Bp2} {w : World} {a : Option Addr} (h : Rd w a (fl enc2B l)) (h0 : 0 < l.length) : ∃ b off, a = some ⟨b, off, none⟩ ∧ b < w.heap.size ∧ ∀ i, i < l.length → w.cell? ⟨b, off + i * 2, none⟩ = some (.int .u8 ((p2A l i).1 : Int)) ∧ w.cell? ⟨b, off + i * 2 + 1, none⟩ = some (.int .u8 ((p2A l i).2 : Int)) := by
  obtain ⟨b, off, e, hb, hc⟩ := rd_elem enc2B_len h (by omega) h0
  refine ⟨b, off, e, hb, fun i hi => ⟨?_, ?_⟩⟩
  · have := hc i hi 0 (by omega); simpa [enc2B, p2A, hi, ← Nat.add_assoc] using this
  · have := hc i hi 1 (by omega); simpa [enc2B, p2A, hi, ← Nat.add_assoc] using this
end Go.Proofs.YtfgkjofdgohacaaGreatDoor
namespace Go.Proofs.YtfgkjofdgohacaaGreatDoor
open Go Go.RowKit Go.Shelf Go.Maps
/-- The sets cut so far. -/
structure MdL (L : Nat) (l : List Nat) : Prop where
  ok : ∀ x, x ∈ l → x ≠ 0 ∧ x < 2 ^ L
  fit : ∀ x y, x ∈ l → y ∈ l → fitB x y = true
theorem MdL.nil (L : Nat) : MdL L [] := ⟨fun x h => by simp at h, fun x y h => by simp at h⟩
theorem MdL.snoc {L : Nat} {l : List Nat} (h : MdL L l) {x : Nat} (hx : x ≠ 0 ∧ x < 2 ^ L) (hf : (l.all fun y => fitB x y) = true) : MdL L (l ++ [x]) := by
  rw [List.all_eq_true] at hf
  refine ⟨fun y hy => ?_, fun y z hy hz => ?_⟩
  · rcases List.mem_append.1 hy with hy | hy
    · exact h.ok y hy
    · rw [List.mem_singleton.1 hy]; exact hx
  · rcases List.mem_append.1 hy with hy | hy <;> rcases List.mem_append.1 hz with hz | hz
    · exact h.fit y z hy hz
    · rw [List.mem_singleton.1 hz, fitB_comm]; exact hf y hy
    · rw [List.mem_singleton.1 hy]; exact hf z hz
    · rw [List.mem_singleton.1 hy, List.mem_singleton.1 hz]; exact fitB_self _
/-- What the law on made trees looks at. -/
structure MaOk (nm : List ByteArray) (l : List Nat) (B : List Nd) : Prop where
  bd : bldE nm l = 0
  eq : bldT (srtB nm) (bdF nm.length l) = B
  ok : TreeOk B
  cls : clsL B = bdF nm.length l
  nms : nmsL B = srtB nm
  len : (clsL B).length = B.length
  kid : ∀ v, v < B.length → (famL B B.length v).length ≠ 1
theorem ma_ok {nm : List ByteArray} {l : List Nat} (h32 : nm.length ≤ 32) (h1 : 1 ≤ nm.length) (hok : ∀ s, s ∈ nm → nmB s = true) (hnd : nm.Nodup) (hl : MdL nm.length l) : ∃ B, MaOk nm l B := by
  have hin := bd_of h32 h1 hok hnd hl.ok hl.fit
  refine ⟨_, ?_, rfl, hin.tok, hin.cls, hin.nml, by rw [hin.cls, hin.tlen, hin.plen], fun v hv => hin.two (by rw [← hin.tlen]; exact hv)⟩
  unfold bldE
  rw [if_neg (by omega), if_neg (by omega), if_neg (by rw [bnE_of hok hnd _ (Nat.le_refl _)]; decide)]
  exact bsE_of hl.ok hl.fit _ (Nat.le_refl _)
set_option maxRecDepth 100000 in
set_option maxHeartbeats 5000000 in
theorem made34_any (a b : Option Addr) (n c m d : Nat) (nm : List ByteArray) (ct : List Bp2) (w : World) (hn : nm.length = n) (hm : ct.length = m) (hN : n ≤ 1152921504606846976) (hM : m ≤ 1152921504606846976) (hA : Rd w a (fl encS nm)) (hB : Rd w b (fl enc2B ct)) (hS : ∀ i, i < n → (sA nm i).size ≤ 9223372036854775807) (hP : ∀ t ∈ ct, t.1 < 256 ∧ t.2 < 256) (hZ : TzG w) :
    Calls Tryz.prog 12 #[.slice a n c, .slice b m d] w fun e w' => e = .returned (.bool true) ∧ Below w.heap.size w w' := by
  have ENDW : Hid (∀ W, Below w.heap.size w W → Calls Tryz.prog 14 #[] W fun e w' => e = .returned (.bool true) ∧ Below w.heap.size w w') := fun W hb => (works_any W (hZ.bl hb)).mono fun e w' h => ⟨h.1, bl_trans hb h.2⟩
  by_cases q1 : n = 0 ∨ 32 < n ∨ 100 < m
  · have KEY : Hid (∀ r1 r2 r3 : Bool, ((n : Int) == 0) = r1 → decide (32 < (n : Int)) = r2 → decide (100 < (m : Int)) = r3 → Calls Tryz.prog 12 #[.slice a n c, .slice b m d] w fun e w' => e = .returned (.bool true) ∧ Below w.heap.size w w') := by
      intro r1 r2 r3 d1 d2 d3
      clear hA hB hS hP hZ hn hm
      go_enter Tryz.func12, Tryz.ntmps12
      cases r1 <;> cases r2 <;> cases r3 <;> first
        | (exfalso; simp only [decide_eq_true_eq, decide_eq_false_iff_not, beq_eq_false_iff_ne, beq_iff_eq] at d1 d2 d3; omega)
        | (go_wp2_with fail
           refine (ENDW.out _ (Below.refl _ _)).mono ?_
           rintro e w3 ⟨rfl, hb3⟩
           go_wp2_with fail
           go_ret
           exact ⟨rfl, hb3⟩)
    exact KEY.out _ _ _ rfl rfl rfl
  have hn1 : 1 ≤ n := by omega
  have hn32 : n ≤ 32 := by omega
  have hm100 : m ≤ 100 := by omega
  have d1 : ((n : Int) == 0) = false := by rw [beq_eq_false_iff_ne]; omega
  have d2 : decide (32 < (n : Int)) = false := decide_eq_false (by omega)
  have d3 : decide (100 < (m : Int)) = false := decide_eq_false (by omega)
  have HN := Lib.hid hn
  have HM := Lib.hid hm
  have HA := Lib.hid hA
  have HB := Lib.hid hB
  have HS := Lib.hid hS
  have HZ := Lib.hid hZ
  have HPP : Hid (∀ i, i < m → (p2A ct i).1 < 256 ∧ (p2A ct i).2 < 256) := fun i hi => by
    have e : p2A ct i = ct[i]'(by omega) := by simp [p2A, hm ▸ hi]
    rw [e]; exact hP _ (List.getElem_mem _)
  clear q1 hn hm hA hB hS hP hZ hN hM
  go_enter Tryz.func12, Tryz.ntmps12
  go_wp2_with fail
  clear d1 d2 d3
  go_loopw [6, 5] (fun y z wr => ∃ (i cA : Nat) (A : Option Addr) (l : List Nat), i ≤ m ∧ y = .int .i64 i ∧ z = .slice A l.length cA ∧ Hid (l.length ≤ i) ∧ Hid (MdL n l) ∧ Hid (wr.ownsRow w.heap.size 41 1 (.slice A l.length cA) l.length (fl encV l)) ∧ Hid (Below w.heap.size w wr)) (fun y _ _ => m - (intOf y).toNat)
  case atStart => exact ⟨0, 0, none, [], by omega, rfl, rfl, Nat.le_refl _, MdL.nil n, World.ownsRow_nil _ _ _ _, Below.refl _ _⟩
  case round =>
    obtain ⟨i, cA, A, l, hi, rfl, rfl, HLI, HML, HV, HBW⟩ := hrel
    by_cases hlt : i < m
    · obtain ⟨bB, oB, rfl, _, hc⟩ := rd2B (HB.out.bl HBW.out) (by rw [HM.out]; omega)
      obtain ⟨c1, c2⟩ := hc i (by rw [HM.out]; exact hlt)
      clear hc
      obtain ⟨hp1, hp2⟩ := HPP.out i hlt
      generalize p2A ct i = pr at *
      obtain ⟨x1, x2⟩ := pr
      dsimp only at c1 c2 hp1 hp2
      obtain ⟨g1, hg1⟩ : ∃ g, g = x1 % n := ⟨_, rfl⟩
      obtain ⟨g2, hg2⟩ : ∃ g, g = x2 % n := ⟨_, rfl⟩
      have hgl1 : g1 < n := by rw [hg1]; exact Nat.mod_lt _ hn1
      have hgl2 : g2 < n := by rw [hg2]; exact Nat.mod_lt _ hn1
      have hnz : ¬ n = 0 := by omega
      obtain ⟨ll, hll⟩ : ∃ y, y = l.length := ⟨_, rfl⟩
      rw [← hll] at HLI HV ⊢
      have HLL := Lib.hid hll.symm
      clear hll
      have hr1 : (x1 : Int) % (n : Int) = (g1 : Int) := by rw [hg1]; rfl
      have hr2 : (x2 : Int) % (n : Int) = (g2 : Int) := by rw [hg2]; rfl
      go_upto_region 7 with fail
      go_quiet (fail)
      try rw [hr1, hr2]
      obtain ⟨w2, hw2⟩ : ∃ y, y = wr.drewN nq := ⟨_, rfl⟩
      have HB2 : Hid (Below w.heap.size w w2) := by show Below _ _ _; rw [hw2]; exact bl_drewN HBW.out nq
      have HV2 : Hid (w2.ownsRow w.heap.size 41 1 (.slice A ll cA) ll (fl encV l)) := by show World.ownsRow _ _ _ _ _ _ _; rw [hw2]; exact HV.out
      rw [← hw2]
      clear hw2 hr1 hr2 hg1 hg2 c1 c2 HV HBW
      obtain ⟨mn, hmn0⟩ : ∃ y, y = min g1 g2 := ⟨_, rfl⟩
      obtain ⟨mx, hmx0⟩ : ∃ y, y = max g1 g2 := ⟨_, rfl⟩
      have hmn : min (g1 : Int) (g2 : Int) = (mn : Int) := by omega
      have hmx : max (g1 : Int) (g2 : Int) = (mx : Int) := by omega
      have hmni : (if (g2 : Int) < (g1 : Int) then (g2 : Int) else (g1 : Int)) = (mn : Int) := by split <;> omega
      have hmxi : (if (g1 : Int) < (g2 : Int) then (g2 : Int) else (g1 : Int)) = (mx : Int) := by split <;> omega
      have hmnx : mn ≤ mx ∧ mx < n := by omega
      clear hmn0 hmx0
      go_wp2_with fail
      try rw [hmn]
      try rw [hmni]
      clear hmn hmni
      go_loopw [10, 9] (fun y z wr2 => ∃ k x : Nat, mn ≤ k ∧ k ≤ mx + 1 ∧ y = .int .i64 k ∧ z = .int .u64 (x : Nat) ∧ Hid (x < 2 ^ n) ∧ Hid (mn < k → x ≠ 0) ∧ wr2 = w2) (fun y _ _ => mx + 1 - (intOf y).toNat)
      case atStart => exact ⟨mn, 0, by omega, by omega, rfl, rfl, Nat.two_pow_pos n, fun h => absurd h (by omega), rfl⟩
      case round =>
        obtain ⟨k, x, hk1, hk2, rfl, rfl, HXL, HX0, rfl⟩ := hrel
        have hxb : x < 18446744073709551616 := by
          have h1 := HXL.out
          have h2 : 2 ^ n ≤ 2 ^ 32 := Nat.pow_le_pow_right (by omega) hn32
          omega
        by_cases hlt2 : k ≤ mx
        · have dk : decide ((k : Int) ≤ (mx : Int)) = true := decide_eq_true (by omega)
          have hpw := pow64 (p := k) (by omega)
          have hp2 : 2 ^ k < 18446744073709551616 := by
            have h64 : 2 ^ k ≤ 2 ^ 63 := Nat.pow_le_pow_right (by omega) (by omega)
            omega
          have hor := bits_or hxb hp2
          have HXN : Hid (x ||| 2 ^ k < 2 ^ n ∧ x ||| 2 ^ k ≠ 0) := by
            refine ⟨Nat.or_lt_two_pow HXL.out (Nat.pow_lt_pow_right (by omega) (by omega)), fun e => ?_⟩
            have h := congrArg (fun y => y.testBit k) e
            simp only [Nat.testBit_or, Nat.testBit_two_pow_self, Bool.or_true, Nat.zero_testBit] at h
            cases h
          have hk64 : k < 64 := by omega
          obtain ⟨y, hy⟩ : ∃ y, y = 2 ^ k := ⟨_, rfl⟩
          rw [← hy] at hor hpw HXN
          obtain ⟨z, hz⟩ : ∃ z, z = x ||| y := ⟨_, rfl⟩
          rw [← hz] at hor HXN
          clear hy hz hp2 HXL HX0
          go_wp2_with fail
          exact ⟨⟨k + 1, z, by omega, by omega, by go_num, rfl, HXN.out.1, fun _ => HXN.out.2, trivial⟩, by simp [intOf]; omega⟩
        · have dk : decide ((k : Int) ≤ (mx : Int)) = false := decide_eq_false (by omega)
          have hll100 : ll ≤ 100 := by have := HLI.out; omega
          have HX : Hid (x ≠ 0 ∧ x < 2 ^ n) := ⟨HX0.out (by omega), HXL.out⟩
          clear HX0 HXL
          go_wp2_with fail
          go_loopw [12, 11] (fun y z wr3 => ∃ q : Nat, q ≤ ll ∧ y = .int .i64 q ∧ z = .bool ((l.take q).all fun y => fitB x y) ∧ wr3 = wr) (fun y _ _ => ll - (intOf y).toNat)
          case atStart => exact ⟨0, by omega, rfl, rfl, rfl⟩
          case round =>
            obtain ⟨q, hq, rfl, rfl, rfl⟩ := hrel
            by_cases hlt3 : q < ll
            · have HTK : Hid (((l.take (q + 1)).all fun y => fitB x y) = (((l.take q).all fun y => fitB x y) && fitB x (vA l q))) := by
                show _ = _
                rw [take_snocV (by rw [HLL.out]; exact hlt3), List.all_append]; simp
              have hvb : vA l q < 18446744073709551616 := by
                have h1 := (HML.out.ok _ (vA_mem4 (show q < l.length by rw [HLL.out]; exact hlt3))).2
                have h2 : 2 ^ n ≤ 2 ^ 32 := Nat.pow_le_pow_right (by omega) hn32
                omega
              obtain ⟨bV, oV, rfl, _, hcv⟩ := rdV (rd_of_owns HV2.out) (by rw [HLL.out]; omega)
              have c3 := hcv q (by rw [HLL.out]; exact hlt3)
              clear hcv
              have HFF := Lib.hid (lfit4_any x (vA l q) wr hxb hvb)
              generalize vA l q = v at *
              cases hal : ((l.take q).all fun y => fitB x y)
              · rw [hal] at HTK
                clear hal
                go_wp2_with fail
                exact ⟨⟨q + 1, by omega, by go_num, by rw [HTK.out]; rfl, trivial⟩, by simp [intOf]; omega⟩
              · rw [hal] at HTK
                clear hal
                go_wp2_with fail
                refine HFF.out.mono ?_
                rintro e w4 ⟨rfl, rfl⟩
                go_wp2_with fail
                exact ⟨⟨q + 1, by omega, by go_num, by rw [HTK.out]; rfl, trivial⟩, by simp [intOf]; omega⟩
            · obtain rfl : q = ll := by omega
              have hta : l.take q = l := List.take_of_length_le (by rw [HLL.out]; exact Nat.le_refl _)
              rw [hta]
              cases hal : (l.all fun y => fitB x y)
              · go_wp2_with fail
                exact ⟨⟨i + 1, cA, A, l, by omega, by go_num, by rw [HLL.out], by show l.length ≤ _; rw [HLL.out]; have := HLI.out; omega, HML, by show World.ownsRow _ _ _ _ _ _ _; rw [HLL.out]; exact HV2.out, HB2⟩, by simp [intOf]; omega⟩
              · have HML2 := Lib.hid (HML.out.snoc HX.out hal)
                have hsz1 : w.heap.size ≤ (wr.alloc (.cells #[.int .u64 (x : Int)] 41)).heap.size := (bl_alloc HB2.out _).size
                go_wp2_with (at_builtin; refine push_V rfl (.tmp 97) (.tmp 99) rfl w.heap.size (.slice A q cA) l q HLL.out.symm rfl (HV2.out.alloc _) _ _ x rfl (Blk.new _ _ _) (by omega) hsz1 ?_; intro g cap w8 h1 h2 h3 h4; have H81 := Lib.hid h1; have H82 := Lib.hid (bl_grown (bl_alloc HB2.out _) h2 (fun r e => (HV2.out.lt r e).1)); clear h1 h2 h3 h4)
                exact ⟨⟨i + 1, cap, some ⟨g, 0, none⟩, l ++ [x], by omega, by go_num, by simp [HLL.out], by show (l ++ [x]).length ≤ _; have := HLI.out; simp [HLL.out]; omega, HML2, by show World.ownsRow _ _ _ _ _ _ _; rw [show (l ++ [x]).length = q + 1 by simp [HLL.out]]; exact H81.out, H82⟩, by simp [intOf]; omega⟩
    · obtain rfl : i = m := by omega
      obtain ⟨ll, hll⟩ : ∃ y, y = l.length := ⟨_, rfl⟩
      rw [← hll] at HLI HV ⊢
      have HLL := Lib.hid hll.symm
      have hll100 : ll ≤ 100 := by have := HLI.out; omega
      clear hll HLI HB HPP
      obtain ⟨wJ, hwJ⟩ : ∃ y, y = wr := ⟨_, rfl⟩
      rw [← hwJ] at HV HBW ⊢
      clear hwJ
      go_wp2_with fail
      go_loopw [13] (fun y wr2 => ∃ j : Nat, j ≤ n ∧ y = .int .i64 j ∧ Hid (bnE nm j = 0) ∧ Hid (Below wJ.heap.size wJ wr2)) (fun y _ => n - (intOf y).toNat)
      case atStart => exact ⟨0, by omega, rfl, rfl, Below.refl _ _⟩
      case round =>
        obtain ⟨j, hj, rfl, HE0, HBJ⟩ := hrel
        have HBW2 := Lib.hid (bl_trans HBW.out HBJ.out)
        by_cases hlt2 : j < n
        · obtain ⟨bA, oA, rfl, _, hc⟩ := rdS (HA.out.bl HBW2.out) (by rw [HN.out]; omega)
          have c1 := hc j (by rw [HN.out]; exact hlt2)
          have hsz := HS.out j hlt2
          have HNX := Lib.hid (bnE_next HE0.out)
          clear hc
          obtain ⟨s, hs⟩ : ∃ s, s = sA nm j := ⟨_, rfl⟩
          rw [← hs] at c1 hsz HNX
          have HSE := Lib.hid hs
          clear hs
          by_cases q24 : 24 < s.size
          · have d24 : decide (24 < (s.size : Int)) = true := decide_eq_true (by omega)
            clear HNX HSE
            go_wp2_with fail
            refine (ENDW.out _ HBW2.out).mono ?_
            rintro e w3 ⟨rfl, hb3⟩
            go_wp2_with fail
            go_ret
            exact ⟨rfl, hb3⟩
          have d24 : decide (24 < (s.size : Int)) = false := decide_eq_false (by omega)
          have HBN := Lib.hid (bl_alloc (Below.refl _ wr) (.cells #[.int .i64 (-1), .string s] 56))
          have HCK := Lib.hid (check_any (some ⟨wr.heap.size, 0, none⟩) 1 1 [(-1, s)] (wr.alloc (.cells #[.int .i64 (-1), .string s] 56)) rfl (by omega) (rd_of_blk4 (cs := fl encNd [(-1, s)]) (Blk.new wr _ _)) (fun v hv => one_lt (P := fun v => (nS [(-1, s)] v).size ≤ 9223372036854775807) hsz v hv))
          rw [chk_one] at HCK
          by_cases q : nmB s = true
          case neg =>
            rw [if_neg q] at HCK
            clear q HNX HSE
            go_wp2_with fail
            refine HCK.out.mono ?_
            rintro e w3 ⟨rfl, hb3⟩
            have HB3 := Lib.hid (bl_trans HBW2.out (bl_trans HBN.out hb3))
            clear hb3 HCK
            go_wp2_with fail
            refine (ENDW.out _ HB3.out).mono ?_
            rintro e w4 ⟨rfl, hb4⟩
            go_wp2_with fail
            go_ret
            exact ⟨rfl, hb4⟩
          rw [if_pos q] at HCK
          rw [if_neg (show ¬ nmB s = false by rw [q]; decide)] at HNX
          clear q q24
          go_wp2_with fail
          refine HCK.out.mono ?_
          rintro e w3 ⟨rfl, hb3⟩
          have HBJ3 := Lib.hid (bl_trans HBJ.out (bl_trans HBN.out hb3))
          have HB3 := Lib.hid (bl_trans HBW2.out (bl_trans HBN.out hb3))
          clear hb3 HCK c1 d24 HBN HBW2 HBJ
          go_wp2_with fail
          go_loopw [14] (fun y wr3 => ∃ k : Nat, k ≤ j ∧ y = .int .i64 k ∧ Hid (∀ q, q < k → sA nm q ≠ s) ∧ ∃ q, wr3 = w3.drewN q) (fun y _ => j - (intOf y).toNat)
          case atStart => exact ⟨0, by omega, rfl, fun q hq => absurd hq (by omega), 0, rfl⟩
          case round =>
            obtain ⟨k, hk, rfl, HNE, q, hq⟩ := hrel
            have HQ := Lib.hid hq
            by_cases hlt3 : k < j
            · have HAr : Hid (Rd wr (some ⟨bA, oA, none⟩) (fl encS nm)) := by show Rd _ _ _; rw [hq]; exact (HA.out.bl HB3.out).drewN q
              obtain ⟨b2, o2, e2, _, hc⟩ := rdS HAr.out (by rw [HN.out]; omega)
              obtain ⟨rfl, rfl⟩ : bA = b2 ∧ oA = o2 := by injection e2 with e2; injection e2 with e2 e3; exact ⟨e2, e3⟩
              have c1 := hc k (by rw [HN.out]; omega)
              have c2 := hc j (by rw [HN.out]; omega)
              rw [← HSE.out] at c2
              have hkn : k < n := by omega
              have HBr : Hid (Below w.heap.size w wr) := by show Below _ _ _; rw [hq]; exact bl_drewN HB3.out q
              clear hc e2 hq HAr
              obtain ⟨u, hu⟩ : ∃ u, u = sA nm k := ⟨_, rfl⟩
              rw [← hu] at c1
              have HU := Lib.hid hu
              clear hu
              by_cases e : u = s
              · have t1 : (u.toList == s.toList) = true := by simp [e]
                clear e HNE HNX
                go_wp2_with fail
                go_quiet (fail)
                go_wp2_with fail
                refine (ENDW.out _ (bl_drewN HBr.out _)).mono ?_
                rintro e w4 ⟨rfl, hb4⟩
                go_wp2_with fail
                go_ret
                exact ⟨rfl, hb4⟩
              · have t1 : (u.toList == s.toList) = false := by simp [ba_inj, e]
                have HNE2 : Hid (∀ q, q < k + 1 → sA nm q ≠ s) := fun q hq => by
                  by_cases e2 : q < k
                  · exact HNE.out q e2
                  · obtain rfl : q = k := by omega
                    rw [← HU.out]; exact e
                clear e HNE
                go_wp2_with fail
                go_quiet (fail)
                go_wp2_with fail
                exact ⟨⟨k + 1, by omega, by go_num, HNE2, q + nq, by rw [HQ.out, drewN_add]⟩, by simp [intOf]; omega⟩
            · obtain rfl : k = j := by omega
              have HE1 : Hid (bnE nm (k + 1) = 0) := by
                have h := HNX.out
                rw [if_neg] at h
                · exact h
                · intro hm
                  obtain ⟨q, hq2, e⟩ := List.getElem_of_mem hm
                  rw [List.getElem_take] at e
                  rw [List.length_take] at hq2
                  refine HNE.out q (by omega) ?_
                  rw [← e]
                  simp [sA, show q < nm.length by omega]
              have HBJr : Hid (Below wJ.heap.size wJ wr) := by show Below _ _ _; rw [hq]; exact bl_drewN HBJ3.out q
              clear hq HNE HNX
              go_wp2_with fail
              exact ⟨⟨k + 1, by omega, by go_num, HE1, HBJr⟩, by simp [intOf]; omega⟩
        · obtain rfl : j = n := by omega
          have HVr := Lib.hid (rd_of_owns (owns_below HV.out HBJ.out))
          obtain ⟨hok, hnd⟩ := bnE_ok j (by rw [HN.out]; exact Nat.le_refl _) HE0.out
          have htk : nm.take j = nm := List.take_of_length_le (by rw [HN.out]; exact Nat.le_refl _)
          rw [htk] at hok hnd
          obtain ⟨B, hMA⟩ := ma_ok (nm := nm) (l := l) (by rw [HN.out]; exact hn32) (by rw [HN.out]; exact hn1) hok hnd (by rw [HN.out]; exact HML.out)
          have HMA := Lib.hid hMA
          have h32 : 2 ^ j ≤ 2 ^ 32 := Nat.pow_le_pow_right (by omega) hn32
          have hvb : ∀ i, i < ll → vA l i < 18446744073709551616 := fun i hi => by
            have h1 := (HML.out.ok _ (vA_mem4 (show i < l.length by rw [HLL.out]; exact hi))).2
            omega
          have HBD := Lib.hid (build_any a A j c ll cA nm l wr HN.out HLL.out (by omega) (by omega) (HA.out.bl HBW2.out) HVr.out HS.out hvb (HZ.out.bl HBW2.out))
          have hB63 : B.length ≤ 63 := hMA.ok.2.1
          have hcB : (clsL B).length = B.length := hMA.len
          have hLB : (lvT B).length = j := by rw [← nmsL_len, hMA.nms, srtB_len, HN.out]
          have hinX : ∀ i, i < ll → decide (vA l i ∈ clsL B) = true := fun i hi => decide_eq_true (by
            rw [hMA.cls, bdF_mem]
            exact .inr (.inr (vA_mem4 (by rw [HLL.out]; exact hi))))
          have HINX := Lib.hid hinX
          have HXM : Hid (∀ x, x ∈ clsL B → x ∈ l ∨ x = 2 ^ j - 1 ∨ ∃ k, k < j ∧ x = 2 ^ k) := fun x hx => by
            rw [hMA.cls, bdF_mem, HN.out] at hx
            rcases hx with h | h | h
            · exact .inr (.inl h)
            · exact .inr (.inr h)
            · exact .inl h
          have HXB : Hid (∀ i, i < (clsL B).length → vA (clsL B) i < 18446744073709551616 ∧ vA (clsL B) i ∈ clsL B ∧ vA (clsL B) i ≠ 0) := fun i hi => by
            have hm := vA_mem4 hi
            refine ⟨cls_b64 hMA.ok i hi, hm, (cls_hier (t := B) rfl hMA.ok).ne _ hm⟩
          have HNB : Hid (∀ s, s ∈ nmsL B ↔ s ∈ nm) := fun s => by rw [hMA.nms]; exact srtB_mem s nm
          have HNL : Hid ((nmsL B).length = j) := by show _ = _; rw [nmsL_len, hLB]
          have HKID := Lib.hid hMA.kid
          have HSB := Lib.hid (tok_sz hMA.ok)
          clear hMA htk hok hnd hvb h32 hinX HV HML HE0
          go_wp2_with fail
          refine HBD.out.mono ?_
          rintro e w3 ⟨hb3, ⟨hz, _⟩ | ⟨_, v3, rfl, ho3⟩⟩
          · exact absurd HMA.out.bd hz
          rw [HMA.out.eq] at ho3
          obtain ⟨a3, c3, rfl⟩ := owns_sl ho3
          have HU3 := Lib.hid (rd_of_owns ho3)
          have HL3 := Lib.hid (HVr.out.bl hb3)
          have HB3 := Lib.hid (bl_trans HBW2.out hb3)
          clear ho3 hb3 HBD HVr
          have C1 := Lib.hid (clades_any a3 B.length c3 B w3 rfl (by omega) HU3.out HSB.out)
          rw [chkE_good HMA.out.ok, clsE_ok HMA.out.ok, hcB] at C1
          go_wp2_with fail
          refine C1.out.mono ?_
          rintro e w4 ⟨v4, rfl, ho4, hb4⟩
          obtain ⟨a4, c4, rfl⟩ := owns_sl ho4
          have HC4 := Lib.hid (rd_of_owns ho4)
          have HU4 := Lib.hid (HU3.out.bl hb4)
          have HL4 := Lib.hid (HL3.out.bl hb4)
          have HB4 := Lib.hid (bl_trans HB3.out hb4)
          have HOKB := Lib.hid HMA.out.ok
          obtain ⟨X, hX⟩ : ∃ X, X = clsL B := ⟨_, rfl⟩
          rw [← hX] at HINX HXM HXB HC4 hcB
          obtain ⟨p, hp⟩ : ∃ p, p = B.length := ⟨_, rfl⟩
          rw [hcB] at HXB
          rw [← hp] at HXB hcB hB63 HSB ⊢
          have HPX := Lib.hid hcB
          have HPB := Lib.hid hp.symm
          have hXl : ∀ i, i < p → i < X.length := fun i hi => by rw [HPX.out]; exact hi
          clear ho4 hb4 C1 HMA hX hp hcB HL3 HU3 HB3
          go_wp2_with fail
          have hpa := pow_all63 (L := j) (by omega)
          have hj64 : j < 64 := by omega
          go_upto_region 35 with fail
          rw [hpa]
          obtain ⟨AL, hAL⟩ : ∃ y, y = 2 ^ j - 1 := ⟨_, rfl⟩
          rw [← hAL] at HXM ⊢
          clear hpa hAL
          go_wp2_with fail
          go_loopw [20] (fun y wr2 => ∃ k : Nat, k ≤ ll ∧ y = .int .i64 k ∧ wr2 = w4) (fun y _ => ll - (intOf y).toNat)
          case atStart => exact ⟨0, by omega, rfl, rfl⟩
          case round =>
            obtain ⟨k, hk, rfl, rfl⟩ := hrel
            by_cases hlt3 : k < ll
            · obtain ⟨b1, o1, rfl, _, hc1⟩ := rdV HL4.out (by rw [HLL.out]; omega)
              have c1 := hc1 k (by rw [HLL.out]; exact hlt3)
              have HM1 := Lib.hid (HINX.out k hlt3)
              have HH := Lib.hid (fun x => lhas_any a4 p c4 x X wr HPX.out (by omega) HC4.out)
              clear hc1
              generalize vA l k = x at *
              go_wp2_with fail
              refine (HH.out x).mono ?_
              rintro e w8 ⟨rfl, rfl⟩
              rw [HM1.out]
              go_wp2_with fail
              exact ⟨⟨k + 1, by omega, by go_num, trivial⟩, by simp [intOf]; omega⟩
            obtain rfl : k = ll := by omega
            clear HINX
            go_wp2_with fail
            go_loopw [21] (fun y wr2 => ∃ i : Nat, i ≤ p ∧ y = .int .i64 i ∧ ∃ q, wr2 = wr.drewN q) (fun y _ => p - (intOf y).toNat)
            case atStart => exact ⟨0, by omega, rfl, 0, rfl⟩
            case round =>
              obtain ⟨i2, hi2, rfl, q, rfl⟩ := hrel
              by_cases hlt4 : i2 < p
              · obtain ⟨hx64, hxm, hx0⟩ := HXB.out i2 hlt4
                obtain ⟨b1, o1, rfl, _, hc1⟩ := rdV (HC4.out.drewN q) (by rw [HPX.out]; omega)
                have c1 := hc1 i2 (by rw [HPX.out]; exact hlt4)
                have hcase := HXM.out _ hxm
                have HH := Lib.hid (fun (W : World) (hR : Rd W A (fl encV l)) => lhas_any A k cA (vA X i2) l W HLL.out (by omega) hR)
                have HLR := Lib.hid (HL4.out.drewN q)
                generalize hwq : World.drewN _ q = wq at *
                have HWQ := Lib.hid hwq
                have HHQ := Lib.hid (fun r => HH.out (wq.drewN r) (HLR.out.drewN r))
                clear hc1 hwq HH
                generalize vA X i2 = x at *
                by_cases hl : x ∈ l
                · rw [decide_eq_true hl] at HHQ
                  have HHQ2 : Hid (∀ r, Calls Tryz.prog 27 #[.slice A k cA, .int .u64 (x : Int)] (wq.drewN r) fun e w'' => e = .returned (.bool true) ∧ ∃ n, w'' = wq.drewN n) := fun r => (HHQ.out r).mono fun e w' h => ⟨h.1, r, h.2⟩
                  clear HHQ hcase hl hxm
                  go_wp2_with fail
                  go_quiet ((go_at_call 27; exact HHQ2.out _))
                  go_wp2_with fail
                  exact ⟨⟨i2 + 1, by omega, by go_num, q + nq, by rw [← HWQ.out, drewN_add]⟩, by simp [intOf]; omega⟩
                · rw [decide_eq_false hl] at HHQ
                  have HHQ2 : Hid (∀ r, Calls Tryz.prog 27 #[.slice A k cA, .int .u64 (x : Int)] (wq.drewN r) fun e w'' => e = .returned (.bool false) ∧ ∃ n, w'' = wq.drewN n) := fun r => (HHQ.out r).mono fun e w' h => ⟨h.1, r, h.2⟩
                  by_cases ha : x = AL
                  · subst ha
                    clear HHQ hcase hl hxm
                    go_wp2_with fail
                    go_quiet ((go_at_call 27; exact HHQ2.out _))
                    go_wp2_with fail
                    exact ⟨⟨i2 + 1, by omega, by go_num, q + nq, by rw [← HWQ.out, drewN_add]⟩, by simp [intOf]; omega⟩
                  · obtain ⟨e2, he2, hxe⟩ : ∃ e2, e2 < j ∧ x = 2 ^ e2 := by
                      rcases hcase with h | h | h
                      · exact absurd h hl
                      · exact absurd h ha
                      · exact h
                    have t1 : ((x : Int) == (AL : Int)) = false := by rw [beq_eq_false_iff_ne]; omega
                    have n1 : ((x : Int) != (AL : Int)) = true := by unfold bne; rw [t1]; rfl
                    have hw1 : IntKind.u64.wrap ((x : Int) - 1) = ((x - 1 : Nat) : Int) := by
                      rw [IntKind.wrap_u64]; omega
                    have hba : bits BinOp.and IntKind.u64 (x : Int) ((x - 1 : Nat) : Int) = 0 := by
                      rw [bits_and hx64 (by omega), hxe, Nat.and_two_pow_sub_one_eq_mod, Nat.mod_self]; rfl
                    clear HHQ hcase hl hxm ha hxe
                    obtain ⟨x1, hx1⟩ : ∃ y, y = x - 1 := ⟨_, rfl⟩
                    rw [← hx1] at hw1 hba
                    clear hx1
                    go_wp2_with fail
                    go_quiet ((go_at_call 27; exact HHQ2.out _))
                    go_wp2_with fail
                    exact ⟨⟨i2 + 1, by omega, by go_num, q + nq, by rw [← HWQ.out, drewN_add]⟩, by simp [intOf]; omega⟩
              obtain rfl : i2 = p := by omega
              have HB5 : Hid (Below w.heap.size w (wr.drewN q)) := bl_drewN HB4.out q
              have HU5 : Hid (Rd (wr.drewN q) a3 (fl encNd B)) := HU4.out.drewN q
              generalize hw5 : World.drewN _ q = w5 at *
              have HLV := Lib.hid (wleaves_any a3 i2 c3 B w5 HPB.out HU5.out HSB.out HOKB.out)
              rw [hLB] at HLV
              clear hw5 HC4 HL4 HXM HXB
              go_wp2_with fail
              refine HLV.out.mono ?_
              rintro e w6 ⟨v6, rfl, ho6, hb6⟩
              obtain ⟨a6, c6, rfl⟩ := owns_sl ho6
              have HG6 := Lib.hid (rd_of_owns ho6)
              have HB6 := Lib.hid (bl_trans HB5.out hb6)
              have HU6 := Lib.hid (HU5.out.bl hb6)
              have HA6 := Lib.hid (HA.out.bl HB6.out)
              clear ho6 hb6 HLV HB5 HU5
              go_wp2_with fail
              go_loopw [23] (fun y wr2 => ∃ i : Nat, i ≤ j ∧ y = .int .i64 i ∧ ∃ q, wr2 = w6.drewN q) (fun y _ => j - (intOf y).toNat)
              case atStart => exact ⟨0, by omega, rfl, 0, rfl⟩
              case round =>
                obtain ⟨i3, hi3, rfl, q2, hq2⟩ := hrel
                have HQ2 := Lib.hid hq2
                clear hq2
                by_cases hlt5 : i3 < j
                · obtain ⟨s, hs⟩ : ∃ s, s = sA nm i3 := ⟨_, rfl⟩
                  have HSE := Lib.hid hs
                  have HANY : Hid ((((nmsL B).take j).any fun u => decide (u = s)) = true) := by
                    show _ = _
                    rw [List.take_of_length_le (by rw [HNL.out]; exact Nat.le_refl _), List.any_eq_true]
                    exact ⟨s, (HNB.out s).2 (by rw [hs]; exact sA_mem (by rw [HN.out]; exact hlt5)), by simp⟩
                  clear hs
                  go_wp2_with fail
                  go_loopw [25, 24] (fun y z wr2 => ∃ k : Nat, k ≤ j ∧ y = .int .i64 k ∧ z = .bool (((nmsL B).take k).any fun u => decide (u = s)) ∧ ∃ q, wr2 = w6.drewN q) (fun y _ _ => j - (intOf y).toNat)
                  case atStart => exact ⟨0, by omega, rfl, rfl, q2, HQ2.out⟩
                  case round =>
                    obtain ⟨k, hk, rfl, rfl, q3, hq3⟩ := hrel
                    have HQ3 := Lib.hid hq3
                    by_cases hlt6 : k < j
                    · have HGr : Hid (Rd wr a6 (fl encS (nmsL B))) := by show Rd _ _ _; rw [hq3]; exact HG6.out.drewN q3
                      have HAr : Hid (Rd wr a (fl encS nm)) := by show Rd _ _ _; rw [hq3]; exact HA6.out.drewN q3
                      obtain ⟨b1, o1, rfl, _, hc1⟩ := rdS HGr.out (by rw [HNL.out]; omega)
                      obtain ⟨b2, o2, rfl, _, hc2⟩ := rdS HAr.out (by rw [HN.out]; omega)
                      have c1 := hc1 k (by rw [HNL.out]; exact hlt6)
                      have c2 := hc2 i3 (by rw [HN.out]; exact hlt5)
                      rw [← HSE.out] at c2
                      have HTK : Hid ((((nmsL B).take (k + 1)).any fun u => decide (u = s)) = ((((nmsL B).take k).any fun u => decide (u = s)) || decide (sA (nmsL B) k = s))) := by
                        show _ = _
                        rw [take_snocN (by rw [HNL.out]; exact hlt6), List.any_append]; simp
                      clear hc1 hc2 hq3 HGr HAr HANY
                      generalize sA (nmsL B) k = u at *
                      cases hal : (((nmsL B).take k).any fun u => decide (u = s))
                      · rw [hal] at HTK
                        clear hal
                        by_cases e : u = s
                        · have t1 : (u.toList == s.toList) = true := by simp [e]
                          rw [decide_eq_true e] at HTK
                          clear e
                          go_wp2_with fail
                          go_quiet (fail)
                          go_wp2_with fail
                          exact ⟨⟨k + 1, by omega, by go_num, by rw [HTK.out]; rfl, q3 + nq, by rw [HQ3.out, drewN_add]⟩, by simp [intOf]; omega⟩
                        · have t1 : (u.toList == s.toList) = false := by simp [ba_inj, e]
                          rw [decide_eq_false e] at HTK
                          clear e
                          go_wp2_with fail
                          go_quiet (fail)
                          go_wp2_with fail
                          exact ⟨⟨k + 1, by omega, by go_num, by rw [HTK.out]; rfl, q3 + nq, by rw [HQ3.out, drewN_add]⟩, by simp [intOf]; omega⟩
                      · rw [hal] at HTK
                        clear hal
                        go_wp2_with fail
                        go_quiet (fail)
                        go_wp2_with fail
                        exact ⟨⟨k + 1, by omega, by go_num, by rw [HTK.out]; rfl, q3 + nq, by rw [HQ3.out, drewN_add]⟩, by simp [intOf]; omega⟩
                    · obtain rfl : k = j := by omega
                      rw [HANY.out]
                      clear hq3 HANY
                      go_wp2_with fail
                      exact ⟨⟨i3 + 1, by omega, by go_num, q3, HQ3.out⟩, by simp [intOf]; omega⟩
                · obtain rfl : i3 = j := by omega
                  have HB7 : Hid (Below w.heap.size w wr) := by show Below _ _ _; rw [HQ2.out]; exact bl_drewN HB6.out q2
                  have HU7 : Hid (Rd wr a3 (fl encNd B)) := by show Rd _ _ _; rw [HQ2.out]; exact HU6.out.drewN q2
                  obtain ⟨w7, hw7⟩ : ∃ y, y = wr := ⟨_, rfl⟩
                  rw [← hw7] at HB7 HU7 ⊢
                  clear hw7
                  go_wp2_with fail
                  go_loopw [26] (fun y wr2 => ∃ v : Nat, v ≤ i2 ∧ y = .int .i64 v ∧ Hid (Below w7.heap.size w7 wr2)) (fun y _ => i2 - (intOf y).toNat)
                  case atStart => exact ⟨0, by omega, rfl, Below.refl _ _⟩
                  case round =>
                    obtain ⟨v, hv, rfl, HBV⟩ := hrel
                    by_cases hlt7 : v < i2
                    · have HCH := Lib.hid (children_any a3 i2 c3 v B wr HPB.out HOKB.out hlt7 (HU7.out.bl HBV.out) HSB.out)
                      have hkd := HKID.out v (by rw [HPB.out]; exact hlt7)
                      rw [HPB.out] at hkd
                      have hkl := famL_le B i2 v
                      generalize (famL B i2 v).length = f at *
                      have t1 : ((f : Int) == 1) = false := by rw [beq_eq_false_iff_ne]; omega
                      go_wp2_with fail
                      refine HCH.out.mono ?_
                      rintro e w8 ⟨A8, c8, rfl, hb8⟩
                      have HBV8 := Lib.hid (bl_trans HBV.out hb8)
                      clear hb8 HCH
                      go_wp2_with fail
                      exact ⟨⟨v + 1, by omega, by go_num, HBV8⟩, by simp [intOf]; omega⟩
                    · obtain rfl : v = i2 := by omega
                      go_wp2_with fail
                      refine (ENDW.out _ (bl_trans HB7.out HBV.out)).mono ?_
                      rintro e w9 ⟨rfl, hb9⟩
                      go_wp2_with fail
                      go_ret
                      exact ⟨rfl, hb9⟩
end Go.Proofs.YtfgkjofdgohacaaGreatDoor
namespace Go.Proofs.YtfgkjofdgohacaaGreatDoor
open Go.ChangeShapes Go.WideShapes Go.RowKit Go.Deep
theorem cells2u : Tryz.prog.cellsOf 59 = 2 := by kernel_rfl
theorem cells1u4 : Tryz.prog.cellsOf 5 = 1 := by kernel_rfl
theorem bytes2u : Tryz.prog.bytesOf 59 = 2 := by kernel_rfl
theorem bytesSt : Tryz.prog.bytesOf 9 = 16 := by kernel_rfl
theorem list_two4 {cs : List Value} (h : cs.length = 2) : ∃ c0 c1, cs = [c0, c1] := by
  match cs, h with
  | [c0, c1], _ => exact ⟨c0, c1, rfl⟩
theorem trod_pair4 {H : Type} {enc : TypeId × Value → H} {P : Program} {w : World} {base : Nat} {spare : Nat → Bool} {held : Bool} {t e : TypeId} {fuel : Nat} {c0 c1 : Value} {x : DataW H × List MemPlace} (ht : P.underlying t = some (.array 2 e)) (hce : P.cellsOf e = 1)
    (h : DataW.trod enc P w base spare held fuel t [c0, c1] = some x) :
    ∃ y0 y1 n, DataW.trod enc P w base spare held n e [c0] = some y0 ∧ DataW.trod enc P w base spare held n e [c1] = some y1 := by
  cases fuel with
  | zero => simp [DataW.trod] at h
  | succ n =>
    unfold DataW.trod at h
    rw [ht] at h
    have r2 : List.range 2 = [0, 1] := rfl
    simp [r2, hce] at h
    obtain ⟨_, h⟩ := h
    cases h0 : DataW.trod enc P w base spare held n e [c0] with
    | none => simp [h0] at h
    | some y0 =>
      cases h1 : DataW.trod enc P w base spare held n e [c1] with
      | none => simp [h0, h1] at h
      | some y1 => exact ⟨y0, y1, n, h0, h1⟩
def Bp2Ok (t : Bp2) : Prop := t.1 < 256 ∧ t.2 < 256
theorem rd_p2 {H : Type} {enc : TypeId × Value → H} {W : World} (n : Nat) (cs : List Value) (x : DataW H × List MemPlace) (h : DataW.trod enc Tryz.prog W 0 (fun _ => true) true n 59 cs = some x) (_ : ∀ y ∈ x.1.weights Tryz.prog 59, y ≤ reachBytes) : ∃ a : Bp2, cs = enc2B a ∧ Bp2Ok a := by
  have h' := h
  obtain ⟨xs, m, _, _, hlen, _, _⟩ := DataW.trod_array Tryz.underlying59 h'
  rw [cells2u] at hlen
  obtain ⟨c0, c1, rfl⟩ := list_two4 hlen
  obtain ⟨y0, y1, m2, h0, h1⟩ := trod_pair4 Tryz.underlying59 cells1u4 h
  obtain ⟨z0, e0, _, w0⟩ := DataW.trod_int Tryz.underlying5 h0
  obtain ⟨z1, e1, _, w1⟩ := DataW.trod_int Tryz.underlying5 h1
  have b0 := bounds_u8 w0
  have b1 := bounds_u8 w1
  simp at e0 e1
  subst e0 e1
  refine ⟨(z0.toNat, z1.toNat), ?_, ?_⟩
  · show _ = [Value.int .u8 ((z0.toNat : Nat) : Int), Value.int .u8 ((z1.toNat : Nat) : Int)]
    rw [Int.toNat_of_nonneg b0.1, Int.toNat_of_nonneg b1.1]
  · exact ⟨by show z0.toNat < 256; omega, by show z1.toNat < 256; omega⟩
set_option maxRecDepth 100000 in
theorem open_cuts {H : Type} {enc : TypeId × Value → H} {W : World} {r : Reach} {b0 : Nat} {v : Value} {d : DataW H} {ps : List MemPlace} (hv : Value.okWide Tryz.prog W r b0 58 v) (h : DataW.Trod enc Tryz.prog W 0 (fun _ => true) true 58 v d ps) (hsz : ∀ y ∈ d.weights Tryz.prog 58, y ≤ reachBytes) :
    ∃ (a : Option Addr) (n c : Nat) (l : List Bp2), v = .slice a n c ∧ l.length = n ∧ n ≤ 1152921504606846976 ∧ Rd W a (fl enc2B l) ∧ ∀ t ∈ l, t.1 < 256 ∧ t.2 < 256 := by
  obtain ⟨a, n, c, l, h1, h2, h3, h4, h5, h6, h7, h8⟩ := rd_openS enc2B_len (by omega) (good := Bp2Ok) Tryz.underlying58 cells2u rd_p2 hv h hsz
  rw [bytes2u] at h5
  refine ⟨a, n, c, l, h1, h2, by unfold reachBytes at h5; omega, h7, fun t ht => ?_⟩
  obtain ⟨i, hi, rfl⟩ := List.getElem_of_mem ht
  exact h8 i hi
def StOk (s : ByteArray) : Prop := s.size ≤ 140737488355328
theorem rd_st {H : Type} {enc : TypeId × Value → H} {W : World} (n : Nat) (cs : List Value) (x : DataW H × List MemPlace) (h : DataW.trod enc Tryz.prog W 0 (fun _ => true) true n 9 cs = some x) (hsz : ∀ y ∈ x.1.weights Tryz.prog 9, y ≤ reachBytes) : ∃ a : ByteArray, cs = encS a ∧ StOk a := by
  obtain ⟨z1, e1, e11, w1⟩ := DataW.trod_string Tryz.underlying9 h
  refine ⟨z1, e1, ?_⟩
  have h2 : z1.data.toList.length ≤ reachBytes := hsz z1.data.toList.length (by
    rw [e11]
    simp only [DataW.weights]
    simp)
  have h3 : z1.data.toList.length = z1.size := Array.length_toList
  rw [h3] at h2
  unfold reachBytes at h2
  have h4 : z1.size ≤ 140737488351232 := h2
  show z1.size ≤ _
  omega
set_option maxRecDepth 100000 in
theorem open_sts {H : Type} {enc : TypeId × Value → H} {W : World} {r : Reach} {b0 : Nat} {v : Value} {d : DataW H} {ps : List MemPlace} (hv : Value.okWide Tryz.prog W r b0 46 v) (h : DataW.Trod enc Tryz.prog W 0 (fun _ => true) true 46 v d ps) (hsz : ∀ y ∈ d.weights Tryz.prog 46, y ≤ reachBytes) :
    ∃ (a : Option Addr) (n c : Nat) (l : List ByteArray), v = .slice a n c ∧ l.length = n ∧ n ≤ 1152921504606846976 ∧ (a = none → n = 0) ∧ Rd W a (fl encS l) ∧ ∀ i, i < n → (sA l i).size ≤ 9223372036854775807 := by
  obtain ⟨a, n, c, l, h1, h2, h3, h4, h5, h6, h7, h8⟩ := rd_openS encS_len (by omega) (good := StOk) Tryz.underlying46 cellsStr rd_st hv h hsz
  rw [bytesSt] at h5
  refine ⟨a, n, c, l, h1, h2, by unfold reachBytes at h5; omega, fun e => (h6 e).1, h7, fun i hi => ?_⟩
  have h9 : StOk (l[i]'(by omega)) := h8 i (by omega)
  have e : sA l i = l[i]'(by omega) := by simp [sA, h2 ▸ hi]
  rw [e]
  have h10 : (l[i]'(by omega)).size ≤ 140737488355328 := h9
  omega
set_option maxRecDepth 100000 in
theorem open_us {H : Type} {enc : TypeId × Value → H} {W : World} {r : Reach} {b0 : Nat} {v : Value} {d : DataW H} {ps : List MemPlace} (hv : Value.okWide Tryz.prog W r b0 37 v) (h : DataW.Trod enc Tryz.prog W 0 (fun _ => true) true 37 v d ps) (hsz : ∀ y ∈ d.weights Tryz.prog 37, y ≤ reachBytes) :
    ∃ (a : Option Addr) (n c : Nat) (l : List Nat), v = .slice a n c ∧ l.length = n ∧ n ≤ 1152921504606846976 ∧ (a = none → n = 0) ∧ Rd W a (fl encV l) ∧ ∀ i, i < n → vA l i < 18446744073709551616 := by
  obtain ⟨a, n, c, l, h1, h2, h3, h4, h5, h6, h7, h8⟩ := rd_openS encV_len (by omega) (good := VOk) Tryz.underlying37 cellsU64 rd_u64s hv h hsz
  rw [bytesU64] at h5
  refine ⟨a, n, c, l, h1, h2, by unfold reachBytes at h5; omega, fun e => (h6 e).1, h7, fun i hi => ?_⟩
  rw [vA_get (by omega)]
  exact h8 i (by omega)
end Go.Proofs.YtfgkjofdgohacaaGreatDoor
