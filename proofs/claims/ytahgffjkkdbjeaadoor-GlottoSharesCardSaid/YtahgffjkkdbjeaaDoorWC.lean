/- glotto.Rank at every input: the errors, or the row of all, sorted by their distances. -/
import Derived.Test.YtahgffjkkdbjeaaDoorWA
import Derived.Test.YtahgffjkkdbjeaaDoorWB
namespace Go.Proofs.YtahgffjkkdbjeaaDoor
open Go.RowKit
theorem sortStable_any (g cap N : Nat) (K : Nat → Nat) (c1 c2 : Value) (w : World) (hN : N ≤ 24) (hF : FN w g cap N fun p => p) (hc : CmpOk c1 c2 K N g w) :
    Calls Tryd.prog 50 #[.slice (some ⟨g, 0, none⟩) N cap, .func (.func 51) #[] #[c1, c2]] w (InsPost w g cap N 0 N K fun p => p) := by
  have HC := Lib.hid hc
  clear hc
  go_enter Tryd.func50, Tryd.ntmps50
  go_wp2_with fail
  refine (stable_any g cap N K c1 c2 _ hN hF HC.out).mono ?_
  rintro e w' ⟨rfl, h⟩
  go_wp2_with fail
  go_end0
  exact ⟨rfl, h⟩
/-- The errors of Rank. -/
def rankE (n : Int) (d : List Fr) (x : Int) : Except Int Nat := match scaledS n d with
  | .error k => .error k
  | .ok c => if x < 0 ∨ n ≤ x then .error 3 else .ok c
theorem rankE_err {n : Int} {d : List Fr} {x k : Int} (h : scaledS n d = .error k) : rankE n d x = .error k := by rw [rankE, h]
theorem rankE_out {n : Int} {d : List Fr} {x : Int} {c : Nat} (h : scaledS n d = .ok c) (hx : x < 0 ∨ n ≤ x) : rankE n d x = .error 3 := by rw [rankE, h]; exact if_pos hx
theorem rankE_ok {n : Int} {d : List Fr} {x : Int} {c : Nat} (h : scaledS n d = .ok c) (hx : 0 ≤ x) (hx2 : x < n) : rankE n d x = .ok c := by rw [rankE, h]; exact if_neg (by omega)
/-- The row of all, by their distances to x. -/
structure RkRow (d : List Fr) (c m x : Nat) (f : Nat → Nat) : Prop where
  srt : Srt (fun y => dist d c m x y) f 0 m
  same : Same (fun p => p) f 0 m
def RkPost (w : World) (n : Int) (d : List Fr) (x : Int) (e : Ending) (w' : World) : Prop :=
  Below w.heap.size w w' ∧ ((∃ k, rankE n d x = .error k ∧ e = .returned (.tuple #[.slice none 0 0, .int .i64 k])) ∨
    ∃ (m c y B cap : Nat) (f : Nat → Nat), n = (m : Int) ∧ x = (y : Int) ∧ y < m ∧ m ≤ 24 ∧ rankE n d x = .ok c ∧ e = .returned (.tuple #[.slice (some ⟨B, 0, none⟩) m cap, .int .i64 0]) ∧ w.heap.size ≤ B ∧ FN w' B cap m f ∧ RkRow d c m y f)
set_option maxRecDepth 100000 in
set_option maxHeartbeats 4000000 in
theorem rank_any (a : Option Addr) (n x : Int) (N c : Nat) (d : List Fr) (w : World) (hn1 : -9223372036854775808 ≤ n) (hn2 : n ≤ 9223372036854775807) (hx1 : -9223372036854775808 ≤ x) (hx2 : x ≤ 9223372036854775807) (hd : d.length = N) (hN : N ≤ 1152921504606846976) (hA : Rd w a (fl encFr d)) (hok : FitFr d) :
    Calls Tryd.prog 19 #[.int .i64 n, .slice a N c, .int .i64 x] w (RkPost w n d x) := by
  have HD := Lib.hid hd
  have HK := Lib.hid hok
  clear hd hok
  go_enter Tryd.func19, Tryd.ntmps19
  go_wp2_with fail
  refine (scaled_any a n N c d _ hn1 hn2 HD.out hN (hA.bl (bl_alloc (Below.refl _ _) _)) HK.out).mono ?_
  rintro e w1 ⟨hb1, ⟨k, hk, rfl⟩ | ⟨m, cm, B, g, rfl, hm1, hm2, hl, hs, rfl, hB, hblk, hg⟩⟩
  all_goals
    have hb0 : Below w.heap.size w w1 := (bl_alloc (Below.refl _ _) _).trans (hb1.mono (by rw [World.size_alloc]; exact Nat.le_succ _))
    have hxb : Blk w1 w.heap.size #[.int .i64 x] 3 := (Blk.new w _ 3).below hb1
    have hB1 : w.heap.size + 1 ≤ w1.heap.size := by have := hb1.size; rw [World.size_alloc] at this; exact this
    clear hb1
  · have hs := Lib.hid (rankE_err (x := x) hk)
    have hk0 := scaled_err_ne hk
    clear hk
    go_wp2_with fail
    go_ret2
    exact ⟨bl_alloc hb0 _, .inl ⟨k, hs.out, rfl⟩⟩
  · have HS := Lib.hid hs
    have HG := Lib.hid hg
    have HL := Lib.hid hl
    clear hs hg hl
    have hb2 := bl_alloc hb0 (.cells #[.pointer (some ⟨B, 0, none⟩)] 82)
    have hxb2 := hxb.alloc (.cells #[.pointer (some ⟨B, 0, none⟩)] 82)
    have hab2 := Blk.new w1 #[.pointer (some ⟨B, 0, none⟩)] 82
    have hbk2 := hblk.alloc (.cells #[.pointer (some ⟨B, 0, none⟩)] 82)
    have hxc := (hxb2.cell 0).trans (show _ = some (.int .i64 x) from rfl)
    by_cases c1 : x < 0
    · have hs := Lib.hid (rankE_out HS.out (.inl c1))
      go_wp2_with fail
      go_ret2
      exact ⟨hb2, .inl ⟨3, hs.out, rfl⟩⟩
    · by_cases c2 : (m : Int) ≤ x
      · have hs := Lib.hid (rankE_out HS.out (.inr c2))
        go_wp2_with fail
        go_ret2
        exact ⟨hb2, .inl ⟨3, hs.out, rfl⟩⟩
      · obtain ⟨y, rfl⟩ : ∃ y : Nat, x = y := ⟨x.toNat, by omega⟩
        have hs := Lib.hid (rankE_ok HS.out (show (0 : Int) ≤ y by omega) (by omega))
        have hym : y < m := by omega
        obtain ⟨i0, hi, hz0, hz1, hz2⟩ := info_parts info3
        have hmk := run_make (P := Tryd.prog) (w1.alloc (.cells #[.pointer (some ⟨B, 0, none⟩)] 82)) 29 3 i0 _ Tryd.underlying29 hi hz0 .i64 .i64 (m : Int) (m : Int) (by omega) (by omega) (by rw [hz2]; omega) (by omega)
        rw [hz1] at hmk
        simp only [Int.toNat_natCast] at hmk
        go_upto_block 0 with fail
        obtain ⟨w2, hw2⟩ : ∃ w2, w2 = w1.alloc (.cells #[.pointer (some ⟨B, 0, none⟩)] 82) := ⟨_, rfl⟩
        rw [← hw2] at hb2 hxb2 hab2 hbk2
        have hown0 : FN ((w2).alloc (.cells (madeCells #[Value.int .i64 0] m) 3)) w2.heap.size m m (fun p => if p < 0 then p else 0) := by
          have := owns_made (w := w2) (base := 0) (e := 3) (k := 1) (n := m) (cs := madeCells (encI 0).toArray (m * 1)) (Nat.zero_le _) (size_madeCells _ _) (by unfold maxLen; omega)
          rw [made_cells encI 1 encI_len (by omega), Nat.mul_one] at this
          have e : (List.range m).map (fun p => ((if p < 0 then p else 0 : Nat) : Int)) = List.replicate m 0 := by
            rw [List.eq_replicate_iff]
            simp
          unfold FN FS
          rw [e]
          exact this
        have hb3 := bl_alloc hb2 (.cells (madeCells #[Value.int .i64 0] m) 3)
        have hxb3 := hxb2.alloc (.cells (madeCells #[Value.int .i64 0] m) 3)
        have hab3 := hab2.alloc (.cells (madeCells #[Value.int .i64 0] m) 3)
        have hbk3 := hbk2.alloc (.cells (madeCells #[Value.int .i64 0] m) 3)
        have l1 := hxb2.lt
        have l2 := hab2.lt
        have l3 := hbk2.lt
        have l4 := hb2.size
        rw [← hw2]
        obtain ⟨w3, hw3⟩ : ∃ w3, w3 = (w2).alloc (.cells (madeCells #[Value.int .i64 0] m) 3) := ⟨_, rfl⟩
        rw [← hw3] at hb3 hxb3 hab3 hbk3 hown0 ⊢
        obtain ⟨Bl, hBl⟩ : ∃ Bl, Bl = w1.heap.size + 1 := ⟨_, rfl⟩
        have hBl2 : w2.heap.size = Bl := by rw [hw2, World.size_alloc, hBl]
        rw [hBl2] at hown0 l1 l2 l3 l4
        rw [← hBl]
        have HW := Lib.hid (And.intro hw2 (And.intro hw3 hBl))
        clear hw2 hw3 hBl hBl2 hmk hxb2 hab2 hbk2 hb2 hxc hblk hxb hb0
        go_wp2_with fail
        go_loopw [32, 11] (fun x _ wr => ∃ k : Nat, k ≤ m ∧ x = .int .i64 k ∧ FN wr Bl m m (fun p => if p < k then p else 0) ∧ But Bl w3 wr) (fun x _ _ => m - (intOf x).toNat)
        case atStart => exact ⟨0, by omega, rfl, hown0, But.refl _ _⟩
        case round =>
          obtain ⟨k, hk, rfl, hfk, hbut⟩ := hrel
          clear hown0
          by_cases hkt : k < m
          · have ck := hfk.cell k hkt
            have fk := hfk.free k
            have hst := hfk.set k (k : Int)
            have hst2 : FN _ Bl m m (fun p => if p < k + 1 then p else 0) := hst.congr fun p hp => by
              unfold upd
              show (if p = k then (k : Int) else ((if p < k then p else 0 : Nat) : Int)) = ((if p < k + 1 then p else 0 : Nat) : Int)
              by_cases e1 : p = k
              · subst e1; rw [if_pos rfl, if_pos (by omega)]
              · by_cases e2 : p < k
                · rw [if_neg e1, if_pos e2, if_pos (by omega)]
                · rw [if_neg e1, if_neg e2, if_neg (by omega)]
            clear hst
            go_wp2_with fail
            go_roundw
            case rel => exact ⟨k + 1, by omega, by go_num, hst2, hbut.set _ _⟩
            case measure => simp [intOf]; omega
          · have e : k = m := by omega
            subst e
            have hfm : FN wr Bl k k (fun p => p) := hfk.congr fun p hp => by
              show ((if p < k then p else 0 : Nat) : Int) = (p : Int)
              rw [if_pos hp]
            clear hfk
            have hcok : CmpOk (.pointer (some ⟨w1.heap.size, 0, none⟩)) (.pointer (some ⟨w.heap.size, 0, none⟩)) (fun p => dist d cm k y p) k Bl wr := by
              intro W p q hW hp hq
              have b1 := (hbut.trans hW).blk hab3 (show w1.heap.size ≠ Bl by omega)
              have b2 := (hbut.trans hW).blk hxb3 (show w.heap.size ≠ Bl by omega)
              have b3 := (hbut.trans hW).blk hbk3 (show B ≠ Bl by omega)
              have h := rankCmp_any y p q k cm B w1.heap.size w.heap.size g W (by omega) (by omega) (by omega) b3 (b1.cell 0) (b2.cell 0)
              rw [HG.out y p hym hp, HG.out y q hym hq] at h
              exact h
            go_wp2_with fail
            refine (sortStable_any Bl k k _ _ _ wr hm2 hfm hcok).mono ?_
            rintro e w4 ⟨rfl, hbut4, f4, hf4, hs4, hm4⟩
            have hb4 : Below w.heap.size w w4 := hb3.trans ((hbut.trans hbut4).below (B := w.heap.size) hb3.size (by omega))
            go_wp2_with fail
            go_ret2
            exact ⟨hb4, .inr ⟨k, cm, y, Bl, k, f4, rfl, rfl, hym, hm2, hs.out, rfl, by omega, hf4, ⟨hs4, hm4⟩⟩⟩
end Go.Proofs.YtahgffjkkdbjeaaDoor
