/- The document's Largest at every table. -/
import Derived.Test.YtnabbmdhhddfbaaDoorB7
import Derived.Test.YtnabbmdhhddfbaaDoorA4
namespace Go.Proofs.YtnabbmdhhddfbaaDoor
open Go Go.RowKit Go.Shelf
theorem bitsL_snoc (n x k : Nat) : bitsL n x (k + 1) = bitsL n x k ++ (if x.testBit (n - 1 - k) then [k] else []) := by
  unfold bitsL
  rw [List.range_succ, List.filter_append]
  congr 1
  by_cases q : x.testBit (n - 1 - k) <;> simp [q]
theorem bitsL_le (n x k : Nat) : (bitsL n x k).length ≤ k := by
  have := List.length_filter_le (fun i => x.testBit (n - 1 - i)) (List.range k)
  simpa [bitsL] using this
theorem bitsL_lt (n x k : Nat) : ∀ y, y ∈ bitsL n x k → y < k := fun y hy => List.mem_range.1 (List.mem_filter.1 hy).1
/-- The first i of them have no conflict; the i-th none with the first k. -/
def cmpR (has l : List Nat) (i : Nat) : Bool := (List.range i).all fun i => (List.range i).all fun k => fitB (vA has (vA l i)) (vA has (vA l k))
def cmpC (has l : List Nat) (i k : Nat) : Bool := (List.range k).all fun k => fitB (vA has (vA l i)) (vA has (vA l k))
theorem cmpR_succ (has l : List Nat) (i : Nat) : cmpR has l (i + 1) = (cmpR has l i && cmpC has l i i) := by
  unfold cmpR cmpC
  rw [List.range_succ, List.all_append]; simp
theorem cmpC_succ (has l : List Nat) (i k : Nat) : cmpC has l i (k + 1) = (cmpC has l i k && fitB (vA has (vA l i)) (vA has (vA l k))) := by
  unfold cmpC
  rw [List.range_succ, List.all_append]; simp
theorem in_bitsI {y k : Nat} (hy : y < 9223372036854775808) : bits .and .i64 ((y : Int) / 2 ^ k) 1 = ((y / 2 ^ k % 2 : Nat) : Int) := by
  have e : ((y : Int) / 2 ^ k) = ((y / 2 ^ k : Nat) : Int) := by simp
  have h := Nat.lt_of_le_of_lt (Nat.div_le_self y (2 ^ k)) hy
  rw [e]
  generalize y / 2 ^ k = z at *
  show IntKind.i64.wrap ((BitVec.ofInt 64 (z : Int) &&& BitVec.ofInt 64 ((1 : Nat) : Int)).toNat : Int) = _
  rw [BitVec.toNat_and, bv64 (by omega), bv64 (by decide), Nat.and_one_is_mod]
  exact i64w (by omega)
set_option maxRecDepth 100000 in
set_option maxHeartbeats 4000000 in
theorem rlargest_any (L : Int) (a : Option Addr) (N c : Nat) (l : List Nat) (w : World) (hl : l.length = N) (hN : N ≤ 1152921504606846976) (hA : Rd w a (fl encV l)) (hF : FitV l) :
    Calls Tryd.prog 22 #[.agg #[.int .i64 L, .slice a N c]] w (LgPost w L l) := by
  have hb0 := bl_alloc (Below.refl _ w) (.cells #[.int .i64 L, .slice a N c] 32)
  have hB := Blk.new w #[.int .i64 L, .slice a N c] 32
  have HL := Lib.hid hl
  have HF := Lib.hid hF
  have HC := Lib.hid (rtchk_any L a N c l (w.alloc (.cells #[.int .i64 L, .slice a N c] 32)) hl hN (hA.bl hb0) hF)
  have HA := Lib.hid (hA.bl hb0)
  clear hl hA hF
  obtain ⟨X, hX⟩ : ∃ X, X = w.heap.size := ⟨_, rfl⟩
  go_enter Tryd.func22, Tryd.ntmps22
  go_wp2_with fail
  refine HC.out.mono ?_
  rintro e w2 ⟨rfl, hb2⟩
  have hb3 := bl_trans hb0 hb2
  have hB2 := hB.below hb2
  have HA2 := Lib.hid (HA.out.bl hb2)
  rw [← hX] at hB2 ⊢
  have HB3 := Lib.hid hb3
  have e1 : w2.cell? ⟨X, 1, none⟩ = some (.slice a N c) := hB2.cell 1
  have HBX := Lib.hid hB2
  have HX := Lib.hid hX
  clear hX hB2 hb3 hB hb0 hb2 HA HC
  by_cases h0 : chkT L l = 0
  · have HE : Hid (lgE L l = if 12 < l.length then 12 else 0) := if_neg (fun h => h h0)
    obtain ⟨M, rfl⟩ : ∃ M : Nat, L = M := by
      refine ⟨L.toNat, ?_⟩
      unfold chkT at h0
      by_cases q : L < 0 ∨ 32 < L
      · rw [if_pos q] at h0; omega
      · omega
    rw [h0]
    clear h0
    by_cases h12 : 12 < N
    · have d1 : decide (12 < N) = true := by simpa using h12
      have hE : Hid (lgE (M : Int) l = 12) := by show _ = _; rw [HE.out, if_pos (by rw [HL.out]; exact h12)]
      clear HE
      go_wp2_with fail
      exact bodyPost_ret (v := .tuple #[.slice none 0 0, .int .i64 12]) (by simp [results, Tryd.results22, go_sem]) rfl (lgPost_nil hE.out (by omega) HB3.out)
    · have d1 : decide (12 < N) = false := by simpa using h12
      have hE : Hid (lgE (M : Int) l = 0) := by show _ = _; rw [HE.out, if_neg (by rw [HL.out]; exact h12)]
      have hLL : Hid (lgL (M : Int) l = bigL l) := if_pos hE.out
      have hN12 : N ≤ 12 := by omega
      have hp : 2 ^ N ≤ 4096 := Nat.pow_le_pow_right (n := 2) (by omega) (show N ≤ 12 by omega)
      have hp0 : 0 < 2 ^ N := Nat.two_pow_pos N
      have HFI : Hid (docD l (2 ^ N - 1) [] = bigL l) := by have h := docD_big l; rw [HL.out] at h; exact h
      clear HE h12
      have hw : wrap64 (wrap64 (2 ^ N) - 1) = ((2 ^ N - 1 : Nat) : Int) := by
        have e : ((2 : Int) ^ N) = ((2 ^ N : Nat) : Int) := by simp
        have e1 : wrap64 ((2 ^ N : Nat) : Int) = ((2 ^ N : Nat) : Int) := IntWalk.wrap64_in _ ⟨by omega, by omega⟩
        rw [e, e1, show ((2 ^ N : Nat) : Int) - 1 = ((2 ^ N - 1 : Nat) : Int) by omega, IntWalk.wrap64_in _ ⟨by omega, by omega⟩]
      have HW := Lib.hid hw
      clear hw
      go_upto_region 9 with fail
      rw [HW.out]
      obtain ⟨P, hP⟩ : ∃ P, P = 2 ^ N - 1 := ⟨_, rfl⟩
      rw [← hP] at HFI ⊢
      have hP4 : P < 4096 := by omega
      clear hP hp hp0 HW e1
      go_loopw [7, 5] (fun x v wr => ∃ (y : Nat) (best : List Nat), y ≤ P ∧ x = .int .i64 y ∧ Hid (docD l y best = bigL l) ∧ best.length ≤ 12 ∧ Hid (wr.ownsRow w2.heap.size 3 1 v best.length (fl encI (iN best))) ∧ Hid (Below w2.heap.size w2 wr)) (fun x _ _ => (intOf x).toNat)
      case atStart => exact ⟨P, [], Nat.le_refl _, rfl, HFI, by simp, World.ownsRow_nil _ _ _ _, Below.refl _ _⟩
      case round =>
        obtain ⟨y, best, hy, rfl, hD, hb12, how, hbl⟩ := hrel
        obtain ⟨A5, c5, rfl, _⟩ := owns_slice how.out
        have HBXr := Lib.hid (HBX.out.below hbl.out)
        have HR := Lib.hid (HA2.out.bl hbl.out)
        by_cases hy0 : 0 < y
        · have d2 : decide (0 < y) = true := by simpa using hy0
          obtain ⟨wo, rfl⟩ : ∃ x : World, x = wr := ⟨_, rfl⟩
          obtain ⟨nb, hnb⟩ : ∃ n, n = best.length := ⟨_, rfl⟩
          rw [← hnb] at how hb12 ⊢
          have HNB := Lib.hid hnb
          clear hnb
          go_upto_region 13 with fail
          go_loopw [9, 8] (fun x v wx => ∃ k : Nat, k ≤ N ∧ x = .int .i64 k ∧ Hid (wx.ownsRow wo.heap.size 3 1 v (bitsL N y k).length (fl encI (iN (bitsL N y k)))) ∧ Hid (Below wo.heap.size wo wx)) (fun x _ _ => N - (intOf x).toNat)
          case atStart => exact ⟨0, by omega, rfl, World.ownsRow_nil _ _ _ _, Below.refl _ _⟩
          case round =>
            obtain ⟨k, hk, rfl, ho, hb⟩ := hrel
            by_cases hkn : k < N
            · have hsn := Lib.hid (bitsL_snoc N y k)
              have htb := Lib.hid (Nat.testBit_eq_decide_div_mod_eq (x := y) (i := N - 1 - k))
              have hib := in_bitsI (y := y) (k := N - 1 - k) (by omega)
              have hle := bitsL_le N y k
              obtain ⟨q, hq⟩ : ∃ q, q = (bitsL N y k).length := ⟨_, rfl⟩
              rw [← hq] at ho hle
              have HQ := Lib.hid hq
              clear hq
              obtain ⟨tb, ht⟩ : ∃ b, y.testBit (N - 1 - k) = b := ⟨_, rfl⟩
              rw [ht] at hsn htb
              clear ht
              cases tb with
              | true =>
                have hm : y / 2 ^ (N - 1 - k) % 2 = 1 := of_decide_eq_true htb.out.symm
                rw [hm] at hib
                have t1 : (bits .and .i64 ((y : Int) / 2 ^ (N - 1 - k)) 1 == 1) = true := by rw [hib]; rfl
                have t2 : decide (bits .and .i64 ((y : Int) / 2 ^ (N - 1 - k)) 1 = 1) = true := by simpa using t1
                have hs : Hid (bitsL N y (k + 1) = bitsL N y k ++ [k]) := by show _ = _; rw [hsn.out]; rfl
                have hbase : wo.heap.size ≤ (wr.alloc (.cells #[.int .i64 k] 3)).heap.size := (bl_alloc hb.out _).size
                clear hib hm htb hsn
                go_wp2_with (at_builtin; refine push_I rfl (.tmp 45) (.tmp 47) rfl wo.heap.size u8 (iN (bitsL N y k)) q (by rw [iN_len]; exact HQ.out) rfl (ho.out.alloc _) _ _ (k : Int) rfl (Blk.new _ _ _) (by omega) hbase ?_; intro g2 cap w8 h81 h82 h83 h84; rw [← iN_snoc, ← hs.out] at h81; have H81 := Lib.hid h81; have H82 := Lib.hid h82; clear h81 h82 h83)
                have hlen2 : Hid ((bitsL N y (k + 1)).length = q + 1) := by show _ = _; rw [hs.out, List.length_append, HQ.out]; rfl
                have HB8 := Lib.hid (bl_grown (bl_alloc hb.out (.cells #[.int .i64 k] 3)) H82.out (fun x e => (ho.out.lt x e).1))
                go_roundw
                case rel => exact ⟨k + 1, by omega, by go_num, by rw [hlen2.out]; exact H81, HB8⟩
                case measure => simp [intOf]; omega
              | false =>
                have hm : ¬ (y / 2 ^ (N - 1 - k) % 2 = 1) := of_decide_eq_false htb.out.symm
                have hm0 : y / 2 ^ (N - 1 - k) % 2 = 0 := by omega
                rw [hm0] at hib
                have t1 : (bits .and .i64 ((y : Int) / 2 ^ (N - 1 - k)) 1 == 1) = false := by rw [hib]; rfl
                have t2 : decide (bits .and .i64 ((y : Int) / 2 ^ (N - 1 - k)) 1 = 1) = false := by simpa using t1
                have hs : Hid (bitsL N y (k + 1) = bitsL N y k) := by show _ = _; rw [hsn.out]; simp
                clear hib hm hm0 htb hsn
                go_wp2_with fail
                go_roundw
                case rel => exact ⟨k + 1, by omega, by go_num, by rw [hs.out, ← HQ.out]; exact ho, hb⟩
                case measure => simp [intOf]; omega
            · obtain rfl : N = k := by omega
              obtain ⟨y', rfl⟩ : ∃ y', y = y' + 1 := ⟨y - 1, by omega⟩
              have HDB : Hid (docD l y' (docB l (y' + 1) best) = bigL l) := hD.out
              have HDC : Hid (docB l (y' + 1) best = if cmpR l (bitsL N (y' + 1) N) (bitsL N (y' + 1) N).length then updL best (bitsL N (y' + 1) N) else best) := by
                show _ = _
                unfold docB
                rw [HL.out]; rfl
              have hlb := bitsL_lt N (y' + 1) N
              have hlen := bitsL_le N (y' + 1) N
              obtain ⟨ll, hll⟩ : ∃ x, x = bitsL N (y' + 1) N := ⟨_, rfl⟩
              rw [← hll] at ho HDC hlb hlen
              have HLB := Lib.hid hlb
              obtain ⟨q, hq⟩ : ∃ q, q = ll.length := ⟨_, rfl⟩
              rw [← hq] at ho HDC hlen
              have HQ := Lib.hid hq
              obtain ⟨A8, c8, rfl, _⟩ := owns_slice ho.out
              have HR8 := Lib.hid (rd_of_owns ho.out)
              have HRA := Lib.hid (HR.out.bl hb.out)
              have hbx := HBXr.out.below hb.out
              have x1 : wr.cell? ⟨X, 1, none⟩ = some (.slice a N c) := hbx.cell 1
              have HOW := Lib.hid (owns_below how.out hb.out)
              have HB9 := Lib.hid (bl_trans hbl.out hb.out)
              clear hlb hll hq hD hbx
              go_upto_region 19 with fail
              obtain ⟨wp, rfl⟩ : ∃ x : World, x = wr := ⟨_, rfl⟩
              go_loopw [11, 10] (fun x v wx => ∃ i : Nat, i ≤ q ∧ x = .int .i64 i ∧ v = .bool (cmpR l ll i) ∧ ∃ m, wx = wp.drewN m) (fun x _ _ => q - (intOf x).toNat)
              case atStart => exact ⟨0, by omega, rfl, rfl, 0, rfl⟩
              case round =>
                obtain ⟨i, hi, rfl, rfl, m, rfl⟩ := hrel
                by_cases hiq : i < q
                · have HRS := Lib.hid (cmpR_succ l ll i)
                  go_upto_region 22 with fail
                  go_loopw [12, 10] (fun x v wx => ∃ k : Nat, k ≤ i ∧ x = .int .i64 k ∧ v = .bool (cmpR l ll i && cmpC l ll i k) ∧ ∃ m, wx = wp.drewN m) (fun x _ _ => i - (intOf x).toNat)
                  case atStart => exact ⟨0, by omega, rfl, by rw [show cmpC l ll i 0 = true from rfl, Bool.and_true], m, rfl⟩
                  case round =>
                    obtain ⟨k, hk, rfl, rfl, m2, rfl⟩ := hrel
                    by_cases hki : k < i
                    · have HCS := Lib.hid (cmpC_succ l ll i k)
                      have hkq : k < q := by omega
                      obtain ⟨b8, o8, rfl, _, hc8⟩ := rdI HR8.out (by rw [iN_len, ← HQ.out]; omega)
                      have g1 := hc8 i (by rw [iN_len, ← HQ.out]; exact hiq)
                      have g2 := hc8 k (by rw [iN_len, ← HQ.out]; omega)
                      rw [iN_get] at g1 g2
                      have n1 : vA ll i < N := HLB.out _ (by rw [vA_get (by rw [← HQ.out]; exact hiq)]; exact List.getElem_mem _)
                      have n2 : vA ll k < N := HLB.out _ (by rw [vA_get (by rw [← HQ.out]; omega)]; exact List.getElem_mem _)
                      obtain ⟨ba, oa, rfl, _, hca⟩ := rdV HRA.out (by rw [HL.out]; omega)
                      generalize vA ll i = u1 at *
                      generalize vA ll k = u2 at *
                      have g3 := hca u1 (by rw [HL.out]; exact n1)
                      have g4 := hca u2 (by rw [HL.out]; exact n2)
                      have z1 := HF.out u1 (by rw [HL.out]; exact n1)
                      have z2 := HF.out u2 (by rw [HL.out]; exact n2)
                      clear hc8 hca
                      generalize vA l u1 = x1' at *
                      generalize vA l u2 = x2' at *
                      have HFT := Lib.hid (fun W => rfit_any x1' x2' W z1 z2)
                      clear z1 z2
                      obtain ⟨fb, hfb⟩ : ∃ b, fitB x1' x2' = b := ⟨_, rfl⟩
                      rw [hfb] at HFT HCS
                      clear hfb
                      obtain ⟨ok, hok⟩ : ∃ b, (cmpR l ll i && cmpC l ll i k) = b := ⟨_, rfl⟩
                      have HN2 : Hid ((cmpR l ll i && cmpC l ll i (k + 1)) = (ok && fb)) := by show _ = _; rw [HCS.out, ← Bool.and_assoc, hok]
                      rw [hok]
                      clear hok HCS
                      cases ok with
                      | true =>
                        obtain ⟨wz, hwz⟩ : ∃ x, x = wp.drewN m2 := ⟨_, rfl⟩
                        have z1' : wz.cell? ⟨X, 1, none⟩ = some (.slice (some ⟨ba, oa, none⟩) N c) := by rw [hwz]; exact x1
                        have g1' : wz.cell? ⟨b8, o8 + i, none⟩ = some (.int .i64 u1) := by rw [hwz]; exact g1
                        have g2' : wz.cell? ⟨b8, o8 + k, none⟩ = some (.int .i64 u2) := by rw [hwz]; exact g2
                        have g3' : wz.cell? ⟨ba, oa + u1, none⟩ = some (.int .u64 x1') := by rw [hwz]; exact g3
                        have g4' : wz.cell? ⟨ba, oa + u2, none⟩ = some (.int .u64 x2') := by rw [hwz]; exact g4
                        rw [← hwz]
                        have HWZ := Lib.hid hwz
                        clear hwz
                        go_upto_region 24 with fail
                        go_quiet ((exact Calls.quiet_of_same (HFT.out _)))
                        go_wp2_with fail
                        go_roundw
                        case rel => exact ⟨k + 1, by omega, by go_num, by rw [HN2.out]; rfl, m2 + nq, by rw [HWZ.out]; simp⟩
                        case measure => simp [intOf]; omega
                      | false =>
                        go_upto_region 24 with fail
                        go_quiet (fail)
                        go_wp2_with fail
                        go_roundw
                        case rel => exact ⟨k + 1, by omega, by go_num, by rw [HN2.out]; rfl, m2 + nq, by simp⟩
                        case measure => simp [intOf]; omega
                    · obtain rfl : k = i := by omega
                      have HN3 : Hid ((cmpR l ll k && cmpC l ll k k) = cmpR l ll (k + 1)) := HRS.out.symm
                      rw [HN3.out]
                      go_wp2_with fail
                      go_roundw
                      case rel => exact ⟨k + 1, by omega, by go_num, rfl, m2, rfl⟩
                      case measure => simp [intOf]; omega
                · obtain rfl : q = i := by omega
                  have hlb8 : ll.length ≤ 12 := by rw [← HQ.out]; omega
                  have HO8 := Lib.hid (owns_mono ho.out hbl.out.size)
                  obtain ⟨ok, hok⟩ : ∃ b, cmpR l ll q = b := ⟨_, rfl⟩
                  rw [hok] at HDC ⊢
                  clear hok
                  cases ok with
                  | true =>
                    by_cases hlt : nb < q
                    · have d3 : decide (nb < q) = true := by simpa using hlt
                      have HN5 : Hid (docB l (y' + 1) best = ll) := by
                        show _ = _
                        rw [HDC.out, if_pos rfl, updL, if_pos (by rw [← HNB.out, ← HQ.out]; exact hlt)]
                      have HDN : Hid (docD l y' ll = bigL l) := by show _ = _; rw [← HDB.out, HN5.out]
                      go_wp2_with fail
                      go_roundw
                      case rel => exact ⟨y', ll, by omega, rfl, HDN, hlb8, by rw [← HQ.out]; exact HO8, bl_drewN HB9.out m⟩
                      case measure => simp [intOf]
                    · have d3 : decide (nb < q) = false := by simpa using hlt
                      have HN5 : Hid (docB l (y' + 1) best = best) := by
                        show _ = _
                        rw [HDC.out, if_pos rfl, updL, if_neg (by rw [← HNB.out, ← HQ.out]; exact hlt)]
                      have HDN : Hid (docD l y' best = bigL l) := by show _ = _; rw [← HDB.out, HN5.out]
                      go_wp2_with fail
                      go_roundw
                      case rel => exact ⟨y', best, by omega, rfl, HDN, by rw [← HNB.out]; exact hb12, by rw [← HNB.out]; exact HOW, bl_drewN HB9.out m⟩
                      case measure => simp [intOf]
                  | false =>
                    have HN5 : Hid (docB l (y' + 1) best = best) := HDC.out
                    have HDN : Hid (docD l y' best = bigL l) := by show _ = _; rw [← HDB.out, HN5.out]
                    go_wp2_with fail
                    go_roundw
                    case rel => exact ⟨y', best, by omega, rfl, HDN, by rw [← HNB.out]; exact hb12, by rw [← HNB.out]; exact HOW, bl_drewN HB9.out m⟩
                    case measure => simp [intOf]
        · have hy0' : y = 0 := by omega
          have HBB : Hid (best = bigL l) := by have h := hD.out; rw [hy0'] at h; exact h
          have d2 : decide (0 < y) = false := by simpa using hy0
          have HO9 := Lib.hid (owns_mono how.out HB3.out.size)
          rw [HBB.out] at HO9 ⊢
          obtain ⟨z, hz⟩ : ∃ z, z = (bigL l).length := ⟨_, rfl⟩
          rw [← hz] at HO9 ⊢
          have HZ := Lib.hid hz
          have HB9 := Lib.hid (bl_trans HB3.out hbl.out)
          clear hy0' hD how hbl hz hb12
          go_wp2_with fail
          exact bodyPost_ret (v := .tuple #[.slice A5 z c5, .int .i64 0]) (by simp [results, Tryd.results22, go_sem]) rfl ⟨_, by rw [hE.out], by rw [hLL.out, ← HZ.out]; exact HO9.out, HB9.out⟩
  · have hE : Hid (lgE L l = chkT L l) := if_pos h0
    obtain ⟨E, hEE⟩ : ∃ E, chkT L l = E := ⟨_, rfl⟩
    rw [hEE] at hE h0 ⊢
    have d0 : (E == 0) = false := by simp [h0]
    have d1 : (E != 0) = true := by simp [h0]
    have h00 := Lib.hid h0
    clear hEE h0
    go_wp2_with fail
    exact bodyPost_ret (v := .tuple #[.slice none 0 0, .int .i64 E]) (by simp [results, Tryd.results22, go_sem]) rfl (lgPost_nil hE.out h00.out HB3.out)
end Go.Proofs.YtnabbmdhhddfbaaDoor
