/- line: the ultrametric distances that a statement makes of a list of numbers. -/
import Derived.Test.YtahgffjkkdbjeaaDoorCL
namespace Go.Proofs.YtahgffjkkdbjeaaDoor
open Go.RowKit
theorem line_set {w w0 : World} {g M n a b k1 k2 : Nat} {p q : Int} {l : List Int} {u : Int} (h1 : a * n + b = k1) (h2 : b * n + a = k2) (hF : lineX l u a b = (p, q)) (hb' : b < n) (ha : a < b) (hf : FF w w0.heap.size g M M (lineF l u n a b)) (hg : w0.heap.size ≤ g) (hb : Below w0.heap.size w0 w) :
    FF (((((w.setCell ⟨g, k1 * 2, none⟩ (.int .i64 p)).setCell ⟨g, k1 * 2 + 1, none⟩ (.int .i64 q)).setCell ⟨g, k2 * 2, none⟩ (.int .i64 p)).setCell ⟨g, k2 * 2 + 1, none⟩ (.int .i64 q)).drew) w0.heap.size g M M (lineF l u n a (b + 1)) ∧
      Below w0.heap.size w0 (((((w.setCell ⟨g, k1 * 2, none⟩ (.int .i64 p)).setCell ⟨g, k1 * 2 + 1, none⟩ (.int .i64 q)).setCell ⟨g, k2 * 2, none⟩ (.int .i64 p)).setCell ⟨g, k2 * 2 + 1, none⟩ (.int .i64 q)).drew) := by
  have h := FF.set (FF.set hf k1 p q) k2 p q
  refine ⟨FF.drewN (h.congr fun x _ => ?_) 1, bl_drewN (bl_set (bl_set (bl_set (bl_set hb _ _ _ _ hg) _ _ _ _ hg) _ _ _ _ hg) _ _ _ _ hg) 1⟩
  rw [← hF, ← h1, ← h2]
  exact lineF_next l u hb' ha x
theorem rd_of_blkL {w : World} {B : Nat} {cs : Array Value} {t : TypeId} {l : List Value} (h : Blk w B cs t) (e : cs.toList = l) : Rd w (some ⟨B, 0, none⟩) l := fun _ => ⟨B, 0, rfl, h.lt, fun i hi => by
  rw [Nat.zero_add, h.cell, ← Array.getElem?_toList, e, List.getD_eq_getElem?_getD, List.getElem?_eq_getElem hi]; rfl⟩
theorem lnX_next (l : List Int) (u : Int) {a b N t : Nat} (hl : l.length = N) (hN : N ≠ 0) (hab : a < b) (ht : t = b % N) : lnM l a (b - a) = max (lnM l a (b - a - 1)) (uA l t) := by
  obtain ⟨k, rfl⟩ : ∃ k, b = a + 1 + k := ⟨b - a - 1, by omega⟩
  rw [show a + 1 + k - a = k + 1 by omega, show k + 1 - 1 = k by omega, ht, ← hl]
  show (if l.length = 0 then _ else max (lnM l a k) (uA l ((a + 1 + k) % l.length))) = _
  rw [if_neg (by omega)]
set_option maxRecDepth 100000 in
set_option maxHeartbeats 4000000 in
theorem line_any (n N c : Nat) (la : Option Addr) (l : List Int) (u : Int) (w : World) (hn1 : 1 ≤ n) (hn : n ≤ 24) (hl : l.length = N) (hN : N ≤ 9223372036854775807) (hu0 : 0 ≤ u) (hu1 : u ≤ 255) (hA : Rd w la (fl encU l)) (hb : ∀ i, i < N → 0 ≤ uA l i ∧ uA l i ≤ 65535) :
    Calls Tryd.prog 44 #[.int .i64 n, .slice la N c, .int .u8 u] w fun e w' => ∃ g, e = .returned (.slice (some ⟨g, 0, none⟩) (n * n) (n * n)) ∧ w.heap.size ≤ g ∧ FF w' w.heap.size g (n * n) (n * n) (fun p => lineD l u (p / n) (p % n)) ∧ Below w.heap.size w w' := by
  have HH := Lib.hid (And.intro hl (And.intro hA hb))
  have HBD := Lib.hid (fun a k => lnM_bd (l := l) (by rw [hl]; exact hb) a k)
  clear hl hA hb
  obtain ⟨M, hM⟩ : ∃ M, n * n = M := ⟨_, rfl⟩
  have hM2 : M ≤ 576 := by rw [← hM]; exact Nat.mul_le_mul hn hn
  rw [hM]
  have HMM := Lib.hid hM
  clear hM
  have HF := Lib.hid (far_any n 1 1 (some ⟨w.heap.size, 0, none⟩) [0] 0 (w.alloc (.cells #[.int .u16 0] 48)) hn1 (by omega) rfl (by omega) (by omega) (by omega) (rd_of_blkL (Blk.new w #[.int .u16 0] 48) (by simp [fl, encU])) (fun i hi => by rw [show i = 0 by omega]; exact ⟨by decide, by decide⟩))
  have hbl0 := bl_alloc (Below.refl _ w) (.cells #[.int .u16 0] 48)
  go_enter Tryd.func44, Tryd.ntmps44
  go_wp2_with fail
  refine HF.out.mono ?_
  rintro e w5 ⟨g, rfl, hg, hff, hb5⟩
  rw [HMM.out] at hff ⊢
  have hgw : w.heap.size ≤ g := Nat.le_trans hbl0.size hg
  have hff0 : FF w5 w.heap.size g M M (lineF l u n 0 0) := owns_mono (hff.congr fun p _ => by rw [far_none, lineF_zero]) hbl0.size
  have hbl5 := bl_trans hbl0 hb5
  clear hff hbl0 hb5 hg HF
  go_wp2_with fail
  go_loopw [16, 8, 9, 10, 11] (fun x _ _ _ _ wr => ∃ a : Nat, a ≤ n ∧ x = .int .i64 a ∧ FF wr w.heap.size g M M (lineF l u n a 0) ∧ Below w.heap.size w wr) (fun x _ _ _ _ _ => n - (intOf x).toNat)
  case atStart => exact ⟨0, by omega, rfl, hff0, hbl5⟩
  case round =>
    obtain ⟨a, ha, rfl, hff, hbl⟩ := hrel
    clear hff0 hbl5
    by_cases hlt : a < n
    · obtain ⟨wo, rfl⟩ : ∃ wo : World, wo = wr := ⟨_, rfl⟩
      have hff1 : FF wo w.heap.size g M M (lineF l u n a (a + 1)) := hff.congr fun p _ => lineF_head l u n a p
      clear hff
      go_wp2_with fail
      go_loopw [10, 9, 11] (fun y z _ wr => ∃ b : Nat, a < b ∧ b ≤ n ∧ y = .int .i64 b ∧ z = .int .i64 (lnM l a (b - a - 1)) ∧ FF wr w.heap.size g M M (lineF l u n a b) ∧ Below w.heap.size w wr) (fun y _ _ _ => n - (intOf y).toNat)
      case atStart => exact ⟨a + 1, by omega, by omega, by go_num, by rw [show a + 1 - a - 1 = 0 by omega]; rfl, hff1, hbl⟩
      case round =>
        obtain ⟨b, hab, hb, rfl, rfl, hff2, hbl2⟩ := hrel
        clear hff1 hbl
        obtain ⟨Z, hZ⟩ : ∃ Z, lnM l a (b - a - 1) = Z := ⟨_, rfl⟩
        have hZ0 := HBD.out a (b - a - 1)
        rw [hZ] at hZ0 ⊢
        have HZ := Lib.hid hZ
        clear hZ
        by_cases hbt : b < n
        · obtain ⟨m1, m2, k1, k2, hm1, hm2, hk1, hk2, c1, c2⟩ := idx_far (n := n) (N := M) (a := a) (b := b) HMM.out hlt (by omega)
          have wa1 := wrap_nat ((a : Int) * (n : Int)) m1 (by rw [← hm1]; simp) (by omega)
          have wa2 := wrap_nat ((b : Int) * (n : Int)) m2 (by rw [← hm2]; simp) (by omega)
          have wa3 := wrap_nat ((m1 : Int) + (b : Int)) k1 (by omega) (by omega)
          have wa4 := wrap_nat ((m2 : Int) + (a : Int)) k2 (by omega) (by omega)
          have HK1 := Lib.hid (show a * n + b = k1 by omega)
          have HK2 := Lib.hid (show b * n + a = k2 by omega)
          have hk : ¬ (k1 = k2) := fun e => by
            have := div_mod_uniq (n := n) (i := a) (j := b) (i' := b) (j' := a) (by omega) (by omega) (by rw [HK1.out, HK2.out, e])
            omega
          clear hm1 hm2 hk1 hk2
          have hq1 : 0 ≤ u % 16 := by omega
          have hq2 : u % 16 < 16 := by omega
          by_cases hN0 : N = 0
          · have HF : Hid (lnM l a (b - a) = Z) := by
              show _ = _
              rw [← HZ.out]
              obtain ⟨k, rfl⟩ : ∃ k, b = a + 1 + k := ⟨b - a - 1, by omega⟩
              rw [show a + 1 + k - a = k + 1 by omega, show k + 1 - 1 = k by omega]
              exact if_pos (by rw [HH.out.1]; exact hN0)
            have hd : decide (0 < (N : Int)) = false := by simp; omega
            have hd2 : decide (0 < N) = false := by simp; omega
            go_upto_region 12 with fail
            have hff8 : FF (wr.alloc (.cells #[.int .i64 Z, .int .i64 (1 + u % 16)] 40)) w.heap.size g M M (lineF l u n a b) := World.ownsRow.alloc hff2 _
            have hbl8 := bl_alloc hbl2 (.cells #[.int .i64 Z, .int .i64 (1 + u % 16)] 40)
            have hx8 := Blk.new wr #[.int .i64 Z, .int .i64 (1 + u % 16)] 40
            have e0 := hx8.cell 0
            have e1 := hx8.cell 1
            have hgX : g < wr.heap.size := (World.ownsRow.lt hff2 g rfl).2
            obtain ⟨⟨u1, v1⟩, u2, v2⟩ := hff8.cell k1 c1
            obtain ⟨⟨u3, v3⟩, u4, v4⟩ := hff8.cell k2 c2
            have f1 := World.ownsRow.frozenAt hff8 (k1 * 2)
            have f2 := World.ownsRow.frozenAt hff8 (k1 * 2 + 1)
            have f3 := World.ownsRow.frozenAt hff8 (k2 * 2)
            have f4 := World.ownsRow.frozenAt hff8 (k2 * 2 + 1)
            obtain ⟨w8, hw8⟩ : ∃ w8, w8 = wr.alloc (.cells #[.int .i64 Z, .int .i64 (1 + u % 16)] 40) := ⟨_, rfl⟩
            obtain ⟨X, hX⟩ : ∃ X, X = wr.heap.size := ⟨_, rfl⟩
            rw [← hw8] at hff8 hbl8 e0 e1 v1 v2 v3 v4 f1 f2 f3 f4 ⊢
            rw [← hX] at e0 e1 hgX ⊢
            have e0' : w8.cell? ⟨X, 0, none⟩ = some (.int .i64 Z) := e0
            have e1' : w8.cell? ⟨X, 1, none⟩ = some (.int .i64 (1 + u % 16)) := e1
            clear hw8 hX hx8 e0 e1 hff2 hbl2
            have HREL := Lib.hid (line_set HK1.out HK2.out (show lineX l u a b = (Z, 1 + u % 16) by unfold lineX; rw [HF.out]) hbt hab hff8 hgw hbl8)
            go_region
            go_wp2_with fail
            go_roundw
            case rel => exact ⟨b + 1, by omega, by omega, by go_num, by rw [show b + 1 - a - 1 = b - a by omega, HF.out], HREL.out⟩
            case measure => simp [intOf]; omega
          · obtain ⟨lb, lo, rfl, hlb, hlc⟩ := rdU HH.out.2.1 (by rw [HH.out.1]; omega)
            have hd : decide (0 < (N : Int)) = true := by simp; omega
            have hd2 : decide (0 < N) = true := by simp; omega
            obtain ⟨t, ht3⟩ : ∃ t, t = b % N := ⟨_, rfl⟩
            have htN : t < N := by rw [ht3]; exact Nat.mod_lt _ (by omega)
            have g0 := (hbl2.cell (p := ⟨lb, lo + t, none⟩) hlb).trans (hlc t (by rw [HH.out.1]; exact htN))
            obtain ⟨z0, z1⟩ := HH.out.2.2 t htN
            have hrem : (b : Int) % (N : Int) = (t : Int) := by rw [ht3]; simp
            have HF0 := Lib.hid (lnX_next l u HH.out.1 hN0 hab ht3)
            have HN0 := Lib.hid hN0
            clear hlc ht3 hN0
            generalize uA l t = y at *
            obtain ⟨Y, hY⟩ : ∃ Y, max Z y = Y := ⟨_, rfl⟩
            have hY0 : 0 ≤ Y ∧ Y ≤ 65535 := by omega
            have HF : Hid (lnM l a (b - a) = Y) := by show _ = _; rw [HF0.out, HZ.out, hY]
            have HY := Lib.hid hY
            clear hY
            go_upto_region 12 with fail
            rw [show (if Z < y then y else Z) = Y by rw [← HY.out]; split <;> omega]
            have hff8 : FF (wr.alloc (.cells #[.int .i64 Y, .int .i64 (1 + u % 16)] 40)) w.heap.size g M M (lineF l u n a b) := World.ownsRow.alloc hff2 _
            have hbl8 := bl_alloc hbl2 (.cells #[.int .i64 Y, .int .i64 (1 + u % 16)] 40)
            have hx8 := Blk.new wr #[.int .i64 Y, .int .i64 (1 + u % 16)] 40
            have e0 := hx8.cell 0
            have e1 := hx8.cell 1
            have hgX : g < wr.heap.size := (World.ownsRow.lt hff2 g rfl).2
            obtain ⟨⟨u1, v1⟩, u2, v2⟩ := hff8.cell k1 c1
            obtain ⟨⟨u3, v3⟩, u4, v4⟩ := hff8.cell k2 c2
            have f1 := World.ownsRow.frozenAt hff8 (k1 * 2)
            have f2 := World.ownsRow.frozenAt hff8 (k1 * 2 + 1)
            have f3 := World.ownsRow.frozenAt hff8 (k2 * 2)
            have f4 := World.ownsRow.frozenAt hff8 (k2 * 2 + 1)
            obtain ⟨w8, hw8⟩ : ∃ w8, w8 = wr.alloc (.cells #[.int .i64 Y, .int .i64 (1 + u % 16)] 40) := ⟨_, rfl⟩
            obtain ⟨X, hX⟩ : ∃ X, X = wr.heap.size := ⟨_, rfl⟩
            rw [← hw8] at hff8 hbl8 e0 e1 v1 v2 v3 v4 f1 f2 f3 f4 ⊢
            rw [← hX] at e0 e1 hgX ⊢
            have e0' : w8.cell? ⟨X, 0, none⟩ = some (.int .i64 Y) := e0
            have e1' : w8.cell? ⟨X, 1, none⟩ = some (.int .i64 (1 + u % 16)) := e1
            clear hw8 hX hx8 e0 e1 hff2 hbl2
            have HREL := Lib.hid (line_set HK1.out HK2.out (show lineX l u a b = (Y, 1 + u % 16) by unfold lineX; rw [HF.out]) hbt hab hff8 hgw hbl8)
            go_region
            go_wp2_with fail
            go_roundw
            case rel => exact ⟨b + 1, by omega, by omega, by go_num, by rw [show b + 1 - a - 1 = b - a by omega, HF.out], HREL.out⟩
            case measure => simp [intOf]; omega
        · have e : b = n := by omega
          have hff3 : FF wr w.heap.size g M M (lineF l u n (a + 1) 0) := hff2.congr fun p hp => by rw [e]; exact lineF_row l u (by rw [HMM.out]; exact hp)
          clear hff2 e
          go_wp2_with fail
          go_roundw
          case rel => exact ⟨a + 1, by omega, by go_num, hff3, hbl2⟩
          case measure => simp [intOf]; omega
    · have e : a = n := by omega
      have hfin : FF wr w.heap.size g M M (fun p => lineD l u (p / n) (p % n)) := hff.congr fun p hp => by rw [e]; exact lineF_all l u n p (by rw [HMM.out]; exact hp)
      clear hff e
      go_wp2_with fail
      go_ret
      exact ⟨g, rfl, hgw, hfin, hbl⟩
end Go.Proofs.YtahgffjkkdbjeaaDoor
