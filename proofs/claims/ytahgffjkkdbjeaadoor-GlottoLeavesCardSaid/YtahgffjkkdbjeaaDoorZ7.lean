/- slices.stableCmpFunc and SortStableFunc over the row of the first N numbers, N at most 24. glotto.Rank at every input: the errors, or the row of all, sorted by their distances. glotto.Nearest at every input. ablautref35.Rank: insertions, one language after the other. ablautref35.Nearest. -/
import Derived.Test.YtahgffjkkdbjeaaDoorZ6
import Derived.Test.YtahgffjkkdbjeaaDoorZ5
import Derived.Test.YtahgffjkkdbjeaaDoorZ3
import Derived.Test.YtahgffjkkdbjeaaDoorZ1
namespace Go.Proofs.YtahgffjkkdbjeaaDoor
open Go.RowKit
/-- What the stable sort has done before its last insertion: nothing, or the first twenty. -/
def StA (K f1 : Nat → Nat) (a : Nat) : Prop := (a = 0 ∧ ∀ p, f1 p = p) ∨ (a = 20 ∧ Srt K f1 0 20 ∧ Same (fun p => p) f1 0 20)
theorem StA.tie {K f1 : Nat → Nat} {a : Nat} (h : StA K f1 a) : ∀ p q, a ≤ p → p < q → f1 p < f1 q := by
  intro p q h1 h2
  rcases h with ⟨rfl, e⟩ | ⟨rfl, e1, e2⟩
  · rw [e, e]; exact h2
  · rw [e2.1 p (by omega), e2.1 q (by omega)]; exact h2
theorem StA.bound {K f1 : Nat → Nat} {a N : Nat} (h : StA K f1 a) (ha : a ≤ N) : ∀ p, p < N → f1 p < N := by
  intro p hp
  rcases h with ⟨rfl, e⟩ | ⟨rfl, e1, e2⟩
  · rw [e]; exact hp
  · exact e2.bound ha (fun _ h => h) p hp
theorem Srt.congr' {K f f' : Nat → Nat} {N : Nat} (h : Srt K f 0 20) (hN : N = 20) (e : ∀ p, p < 20 → f' p = f p) : Srt K f' 0 N := by subst hN; exact h.congr fun p _ h2 => e p h2
theorem StA.ends {K f1 f2 : Nat → Nat} {a N : Nat} (h : StA K f1 a) (ha : a ≤ N) (hs : Srt K f2 a N) (hm : Same f1 f2 a N) : (N ≤ 20 → Srt K f2 0 N) ∧ (a = 20 → 20 < N → MergePre K f2 0 20 N) ∧ Same (fun p => p) f2 0 N := by
  rcases h with ⟨rfl, e⟩ | ⟨rfl, e1, e2⟩
  · have : f1 = fun p => p := funext e
    subst this
    exact ⟨fun _ => hs, fun h => by omega, hm⟩
  · refine ⟨fun h => e1.congr' (show N = 20 by omega) fun p h2 => hm.1 p (by omega), fun _ h20 => ⟨by omega, h20, e1.congr fun p _ h2 => hm.1 p (by omega), hs, fun p q _ h1 h2 h3 _ => ?_⟩, (e2.wide (Nat.le_refl 0) ha).trans (hm.wide (by omega) (Nat.le_refl N))⟩
    obtain ⟨p', hp', e3⟩ := (e2.2 _).1 ⟨p, ⟨by omega, h1⟩, rfl⟩
    obtain ⟨q', hq', e4⟩ := (hm.2 _).1 ⟨q, ⟨h2, h3⟩, rfl⟩
    rw [e2.1 q' (by omega)] at e4
    rw [hm.1 p (by omega), ← e3, ← e4]
    show p' < q'
    omega

set_option maxRecDepth 100000 in
set_option maxHeartbeats 8000000 in
theorem stable_any (g cap N : Nat) (K : Nat → Nat) (c1 c2 : Value) (w : World) (hN : N ≤ 24) (hF : FN w g cap N fun p => p) (hc : CmpOk c1 c2 K N g w) :
    Calls Tryd.prog 88 #[.slice (some ⟨g, 0, none⟩) N cap, .int .i64 N, .func (.func 51) #[] #[c1, c2]] w (InsPost w g cap N 0 N K fun p => p) := by
  have HC := Lib.hid hc
  clear hc
  have hN2 : N ≤ 1152921504606846976 := by omega
  go_enter Tryd.func88, Tryd.ntmps88
  go_wp2_with fail
  go_loopw [7, 8] (fun x y wr => ∃ a : Nat, a ≤ N ∧ (a = 20 ∨ a = 0) ∧ x = .int .i64 a ∧ y = .int .i64 (a + 20) ∧ But g w wr ∧ ∃ f1, FN wr g cap N f1 ∧ Hid (StA K f1 a)) (fun x _ _ => 24 - (intOf x).toNat)
  case atStart => exact ⟨0, by omega, by omega, rfl, rfl, But.refl _ _, _, hF, .inl ⟨rfl, fun _ => rfl⟩⟩
  case round =>
    obtain ⟨a, ha, ha2, rfl, rfl, hbut, f1, hF1, hst⟩ := hrel
    clear hF
    by_cases hlt : a + 20 ≤ N
    · have e : a = 0 := by omega
      subst e
      have h20 : 20 ≤ N := by omega
      clear hlt ha2
      go_wp2_with fail
      refine (insSort_any g cap N 0 20 N K f1 c1 c2 _ hN2 (by omega) h20 hF1 (hst.out.bound ha) (fun p q h1 h2 _ _ => hst.out.tie p q h1 h2) (HC.out.but hbut)).mono ?_
      rintro e w' ⟨rfl, hbut2, f2, hF2, hs2, hm2⟩
      have hst2 : Hid (StA K f2 20) := by
        refine .inr ⟨rfl, hs2, ?_⟩
        rcases hst.out with ⟨_, e⟩ | ⟨e, _⟩
        · have : f1 = fun p => p := funext e
          rw [← this]; exact hm2
        · omega
      clear hs2 hm2
      go_wp2_with fail
      go_roundw
      case rel => exact ⟨20, h20, .inl rfl, rfl, rfl, hbut.trans hbut2, f2, hF2, hst2⟩
      case measure => simp [intOf]
    · have h21' : 20 < N → a = 20 := by omega
      go_wp2_with fail
      refine (insSort_any g cap N a N N K f1 c1 c2 _ hN2 ha (Nat.le_refl _) hF1 (hst.out.bound ha) (fun p q h1 h2 _ _ => hst.out.tie p q h1 h2) (HC.out.but hbut)).mono ?_
      rintro e w' ⟨rfl, hbut2, f2, hF2, hs2, hm2⟩
      have hE := Lib.hid (hst.out.ends ha hs2 hm2)
      have hb := hbut.trans hbut2
      clear hs2 hm2 hst hF1 hbut hbut2 ha2
      by_cases h21 : 20 < N
      · have e := h21' h21
        subst e
        clear h21' hlt
        go_wp2_with fail
        go_loopw [6, 7, 8, 9] (fun x _ _ _ wr => But g w wr ∧ ∃ f3, FN wr g cap N f3 ∧ Hid (Same (fun p => p) f3 0 N) ∧ ((x = .int .i64 20 ∧ Hid (MergePre K f3 0 20 N)) ∨ (x = .int .i64 40 ∧ Hid (Srt K f3 0 N)))) (fun x _ _ _ _ => 40 - (intOf x).toNat)
        case atStart => exact ⟨hb, f2, hF2, hE.out.2.2, .inl ⟨rfl, hE.out.2.1 (by trivial) h21⟩⟩
        case round =>
          obtain ⟨hb3, f3, hF3, hm3, ⟨rfl, hp3⟩ | ⟨rfl, hs3⟩⟩ := hrel
          · obtain ⟨wo, rfl⟩ : ∃ wo : World, wo = wr := ⟨_, rfl⟩
            go_wp2_with fail
            go_loopw [7, 8] (fun x y wi => x = .int .i64 0 ∧ y = .int .i64 40 ∧ wi = wo) (fun _ _ _ => 0)
            case atStart => exact ⟨rfl, rfl, rfl⟩
            case round =>
              obtain ⟨rfl, rfl, rfl⟩ := hrel
              have h40 : ¬ (40 ≤ N) := by omega
              go_wp2_with fail
              refine (symM N g cap N 0 20 N N K f3 c1 c2 _ (by omega) hN2 (Nat.le_refl _) hF3 (hm3.out.bound (Nat.le_refl _) fun _ h => h) hp3.out (HC.out.but hb3)).mono ?_
              rintro e w' ⟨rfl, hbut4, f4, hF4, hs4, hm4⟩
              go_wp2_with fail
              go_roundw
              case rel => exact ⟨hb3.trans hbut4, f4, hF4, hm3.out.trans hm4, .inr ⟨rfl, hs4⟩⟩
              case measure => simp [intOf]
          · have h40 : ¬ (40 < N) := by omega
            go_wp2_with fail
            go_end0
            exact ⟨rfl, hb3, f3, hF3, hs3.out, hm3.out⟩
      · have hs := Lib.hid (hE.out.1 (by omega))
        clear h21'
        have hnl : ¬ (20 < N) := h21
        go_wp2_with fail
        go_loopw [6, 7, 8, 9] (fun x _ _ _ wr => x = .int .i64 20 ∧ FN wr g cap N f2 ∧ But g w wr) (fun _ _ _ _ _ => 0)
        case atStart => exact ⟨rfl, hF2, hb⟩
        case round =>
          obtain ⟨rfl, hF3, hb3⟩ := hrel
          go_wp2_with fail
          go_end0
          exact ⟨rfl, hb3, f2, hF3, hs.out, hE.out.2.2⟩
end Go.Proofs.YtahgffjkkdbjeaaDoor
namespace Go.Proofs.YtahgffjkkdbjeaaDoor
open Go.RowKit
set_option maxHeartbeats 1000000 in
theorem nan_any (x : Int) (w : World) : Calls Tryd.prog 89 #[.int .i64 x] w fun e w' => e = .returned (.bool false) ∧ w' = w := by
  have hx : (x != x) = false := by simp
  go_enter Tryd.func89, Tryd.ntmps89
  go_wp2_with fail
  go_ret
  exact ⟨rfl, rfl⟩
set_option maxHeartbeats 1000000 in
theorem cmp_any (x y : Nat) (w : World) : Calls Tryd.prog 52 #[.int .i64 x, .int .i64 y] w fun e w' => e = .returned (.int .i64 (cmp3 x y)) ∧ w' = w := by
  go_enter Tryd.func52, Tryd.ntmps52
  go_wp2_with fail
  refine (nan_any _ _).mono ?_
  rintro e w1 ⟨rfl, rfl⟩
  go_wp2_with fail
  refine (nan_any _ _).mono ?_
  rintro e w1 ⟨rfl, rfl⟩
  rcases Nat.lt_trichotomy x y with h | h | h
  · have e : cmp3 x y = -1 := by unfold cmp3; rw [if_pos h]
    go_wp2_with fail
    go_ret
    exact ⟨by rw [e]; rfl, rfl⟩
  · subst h
    have e : cmp3 x x = 0 := by unfold cmp3; rw [if_neg (by omega), if_neg (by omega)]
    have : ¬ ((x : Int) < x) := by omega
    go_wp2_with fail
    go_ret
    exact ⟨by rw [e]; rfl, rfl⟩
  · have e : cmp3 x y = 1 := by unfold cmp3; rw [if_neg (by omega), if_pos h]
    have : ¬ ((x : Int) < y) := by omega
    go_wp2_with fail
    go_ret
    exact ⟨by rw [e]; rfl, rfl⟩
set_option maxHeartbeats 2000000 in
theorem rankCmp_any (x y z m cm Bo b1 b2 : Nat) (f : Nat → Nat) (w : World) (hx : x < 24) (hy : y < 24) (hz : z < 24) (hblk : Blk w Bo (ofF 578 (dg m cm f)) 89)
    (h1 : w.cell? ⟨b1, 0, none⟩ = some (.pointer (some ⟨Bo, 0, none⟩))) (h2 : w.cell? ⟨b2, 0, none⟩ = some (.int .i64 x)) :
    Calls Tryd.prog 51 #[.int .i64 y, .int .i64 z, .pointer (some ⟨b1, 0, none⟩), .pointer (some ⟨b2, 0, none⟩)] w fun e w' => e = .returned (.int .i64 (cmp3 (f (x * 24 + y)) (f (x * 24 + z)))) ∧ ∃ n, w' = w.drewN n := by
  have e1 := hblk.getF (2 + x * 24 + y) (by omega)
  have e2 := hblk.getF (2 + x * 24 + z) (by omega)
  have d1 : dg m cm f (2 + x * 24 + y) = .int .i64 (f (x * 24 + y)) := by rw [dg, if_neg (by omega), if_neg (by omega), show 2 + x * 24 + y - 2 = x * 24 + y by omega]
  have d2 : dg m cm f (2 + x * 24 + z) = .int .i64 (f (x * 24 + z)) := by rw [dg, if_neg (by omega), if_neg (by omega), show 2 + x * 24 + z - 2 = x * 24 + z by omega]
  rw [d1] at e1
  rw [d2] at e2
  clear d1 d2
  generalize f (x * 24 + y) = p at e1 ⊢
  generalize f (x * 24 + z) = q at e2 ⊢
  go_enter Tryd.func51, Tryd.ntmps51
  go_wp2_with fail
  go_quiet (exact Calls.quiet_of ((cmp_any p q _).mono fun _ _ h => ⟨h.1, 0, h.2⟩))
  go_wp2_with fail
  go_ret
  exact ⟨rfl, _, rfl⟩
end Go.Proofs.YtahgffjkkdbjeaaDoor
namespace Go.Proofs.YtahgffjkkdbjeaaDoor
open Go.RowKit
theorem sortStable_any (g cap N : Nat) (K : Nat → Nat) (c1 c2 : Value) (w : World) (hN : N ≤ 24) (hF : FN w g cap N fun p => p) (hc : CmpOk c1 c2 K N g w) :
    Calls Tryd.prog 50 #[.slice (some ⟨g, 0, none⟩) N cap, .func (.func 51) #[] #[c1, c2]] w (InsPost w g cap N 0 N K fun p => p) := by
  have HC := Lib.hid hc
  clear hc
  go_enter Tryd.func50, Tryd.ntmps50
  go_wp2_with fail
  refine (stable_any g cap N K c1 c2 _ hN hF HC.out).mono ?_
  rintro e w' ⟨rfl, h⟩
  go_wp2_with fail
  go_end0
  exact ⟨rfl, h⟩
/-- The errors of Rank. -/
def rankE (n : Int) (d : List Fr) (x : Int) : Except Int Nat := match scaledS n d with
  | .error k => .error k
  | .ok c => if x < 0 ∨ n ≤ x then .error 3 else .ok c
theorem rankE_err {n : Int} {d : List Fr} {x k : Int} (h : scaledS n d = .error k) : rankE n d x = .error k := by rw [rankE, h]
theorem rankE_out {n : Int} {d : List Fr} {x : Int} {c : Nat} (h : scaledS n d = .ok c) (hx : x < 0 ∨ n ≤ x) : rankE n d x = .error 3 := by rw [rankE, h]; exact if_pos hx
theorem rankE_ok {n : Int} {d : List Fr} {x : Int} {c : Nat} (h : scaledS n d = .ok c) (hx : 0 ≤ x) (hx2 : x < n) : rankE n d x = .ok c := by rw [rankE, h]; exact if_neg (by omega)
/-- The row of all, by their distances to x. -/
structure RkRow (d : List Fr) (c m x : Nat) (f : Nat → Nat) : Prop where
  srt : Srt (fun y => dist d c m x y) f 0 m
  same : Same (fun p => p) f 0 m
def RkPost (w : World) (n : Int) (d : List Fr) (x : Int) (e : Ending) (w' : World) : Prop :=
  Below w.heap.size w w' ∧ ((∃ k, rankE n d x = .error k ∧ e = .returned (.tuple #[.slice none 0 0, .int .i64 k])) ∨
    ∃ (m c y B cap : Nat) (f : Nat → Nat), n = (m : Int) ∧ x = (y : Int) ∧ y < m ∧ m ≤ 24 ∧ rankE n d x = .ok c ∧ e = .returned (.tuple #[.slice (some ⟨B, 0, none⟩) m cap, .int .i64 0]) ∧ w.heap.size ≤ B ∧ FN w' B cap m f ∧ RkRow d c m y f)
set_option maxRecDepth 100000 in
set_option maxHeartbeats 4000000 in
theorem rank_any (a : Option Addr) (n x : Int) (N c : Nat) (d : List Fr) (w : World) (hn1 : -9223372036854775808 ≤ n) (hn2 : n ≤ 9223372036854775807) (hx1 : -9223372036854775808 ≤ x) (hx2 : x ≤ 9223372036854775807) (hd : d.length = N) (hN : N ≤ 1152921504606846976) (hA : Rd w a (fl encFr d)) (hok : FitFr d) :
    Calls Tryd.prog 19 #[.int .i64 n, .slice a N c, .int .i64 x] w (RkPost w n d x) := by
  have HD := Lib.hid hd
  have HK := Lib.hid hok
  clear hd hok
  go_enter Tryd.func19, Tryd.ntmps19
  go_wp2_with fail
  refine (scaled_any a n N c d _ hn1 hn2 HD.out hN (hA.bl (bl_alloc (Below.refl _ _) _)) HK.out).mono ?_
  rintro e w1 ⟨hb1, ⟨k, hk, rfl⟩ | ⟨m, cm, B, g, rfl, hm1, hm2, hl, hs, rfl, hB, hblk, hg⟩⟩
  all_goals
    have hb0 : Below w.heap.size w w1 := (bl_alloc (Below.refl _ _) _).trans (hb1.mono (by rw [World.size_alloc]; exact Nat.le_succ _))
    have hxb : Blk w1 w.heap.size #[.int .i64 x] 3 := (Blk.new w _ 3).below hb1
    have hB1 : w.heap.size + 1 ≤ w1.heap.size := by have := hb1.size; rw [World.size_alloc] at this; exact this
    clear hb1
  · have hs := Lib.hid (rankE_err (x := x) hk)
    have hk0 := scaled_err_ne hk
    clear hk
    go_wp2_with fail
    go_ret2
    exact ⟨bl_alloc hb0 _, .inl ⟨k, hs.out, rfl⟩⟩
  · have HS := Lib.hid hs
    have HG := Lib.hid hg
    have HL := Lib.hid hl
    clear hs hg hl
    have hb2 := bl_alloc hb0 (.cells #[.pointer (some ⟨B, 0, none⟩)] 82)
    have hxb2 := hxb.alloc (.cells #[.pointer (some ⟨B, 0, none⟩)] 82)
    have hab2 := Blk.new w1 #[.pointer (some ⟨B, 0, none⟩)] 82
    have hbk2 := hblk.alloc (.cells #[.pointer (some ⟨B, 0, none⟩)] 82)
    have hxc := (hxb2.cell 0).trans (show _ = some (.int .i64 x) from rfl)
    by_cases c1 : x < 0
    · have hs := Lib.hid (rankE_out HS.out (.inl c1))
      go_wp2_with fail
      go_ret2
      exact ⟨hb2, .inl ⟨3, hs.out, rfl⟩⟩
    · by_cases c2 : (m : Int) ≤ x
      · have hs := Lib.hid (rankE_out HS.out (.inr c2))
        go_wp2_with fail
        go_ret2
        exact ⟨hb2, .inl ⟨3, hs.out, rfl⟩⟩
      · obtain ⟨y, rfl⟩ : ∃ y : Nat, x = y := ⟨x.toNat, by omega⟩
        have hs := Lib.hid (rankE_ok HS.out (show (0 : Int) ≤ y by omega) (by omega))
        have hym : y < m := by omega
        obtain ⟨i0, hi, hz0, hz1, hz2⟩ := info_parts info3
        have hmk := run_make (P := Tryd.prog) (w1.alloc (.cells #[.pointer (some ⟨B, 0, none⟩)] 82)) 29 3 i0 _ Tryd.underlying29 hi hz0 .i64 .i64 (m : Int) (m : Int) (by omega) (by omega) (by rw [hz2]; omega) (by omega)
        rw [hz1] at hmk
        simp only [Int.toNat_natCast] at hmk
        go_upto_block 0 with fail
        obtain ⟨w2, hw2⟩ : ∃ w2, w2 = w1.alloc (.cells #[.pointer (some ⟨B, 0, none⟩)] 82) := ⟨_, rfl⟩
        rw [← hw2] at hb2 hxb2 hab2 hbk2
        have hown0 : FN ((w2).alloc (.cells (madeCells #[Value.int .i64 0] m) 3)) w2.heap.size m m (fun p => if p < 0 then p else 0) := by
          have := owns_made (w := w2) (base := 0) (e := 3) (k := 1) (n := m) (cs := madeCells (encI 0).toArray (m * 1)) (Nat.zero_le _) (size_madeCells _ _) (by unfold maxLen; omega)
          rw [made_cells encI 1 encI_len (by omega), Nat.mul_one] at this
          have e : (List.range m).map (fun p => ((if p < 0 then p else 0 : Nat) : Int)) = List.replicate m 0 := by
            rw [List.eq_replicate_iff]
            simp
          unfold FN FS
          rw [e]
          exact this
        have hb3 := bl_alloc hb2 (.cells (madeCells #[Value.int .i64 0] m) 3)
        have hxb3 := hxb2.alloc (.cells (madeCells #[Value.int .i64 0] m) 3)
        have hab3 := hab2.alloc (.cells (madeCells #[Value.int .i64 0] m) 3)
        have hbk3 := hbk2.alloc (.cells (madeCells #[Value.int .i64 0] m) 3)
        have l1 := hxb2.lt
        have l2 := hab2.lt
        have l3 := hbk2.lt
        have l4 := hb2.size
        rw [← hw2]
        obtain ⟨w3, hw3⟩ : ∃ w3, w3 = (w2).alloc (.cells (madeCells #[Value.int .i64 0] m) 3) := ⟨_, rfl⟩
        rw [← hw3] at hb3 hxb3 hab3 hbk3 hown0 ⊢
        obtain ⟨Bl, hBl⟩ : ∃ Bl, Bl = w1.heap.size + 1 := ⟨_, rfl⟩
        have hBl2 : w2.heap.size = Bl := by rw [hw2, World.size_alloc, hBl]
        rw [hBl2] at hown0 l1 l2 l3 l4
        rw [← hBl]
        have HW := Lib.hid (And.intro hw2 (And.intro hw3 hBl))
        clear hw2 hw3 hBl hBl2 hmk hxb2 hab2 hbk2 hb2 hxc hblk hxb hb0
        go_wp2_with fail
        go_loopw [32, 11] (fun x _ wr => ∃ k : Nat, k ≤ m ∧ x = .int .i64 k ∧ FN wr Bl m m (fun p => if p < k then p else 0) ∧ But Bl w3 wr) (fun x _ _ => m - (intOf x).toNat)
        case atStart => exact ⟨0, by omega, rfl, hown0, But.refl _ _⟩
        case round =>
          obtain ⟨k, hk, rfl, hfk, hbut⟩ := hrel
          clear hown0
          by_cases hkt : k < m
          · have ck := hfk.cell k hkt
            have fk := hfk.free k
            have hst := hfk.set k (k : Int)
            have hst2 : FN _ Bl m m (fun p => if p < k + 1 then p else 0) := hst.congr fun p hp => by
              unfold upd
              show (if p = k then (k : Int) else ((if p < k then p else 0 : Nat) : Int)) = ((if p < k + 1 then p else 0 : Nat) : Int)
              by_cases e1 : p = k
              · subst e1; rw [if_pos rfl, if_pos (by omega)]
              · by_cases e2 : p < k
                · rw [if_neg e1, if_pos e2, if_pos (by omega)]
                · rw [if_neg e1, if_neg e2, if_neg (by omega)]
            clear hst
            go_wp2_with fail
            go_roundw
            case rel => exact ⟨k + 1, by omega, by go_num, hst2, hbut.set _ _⟩
            case measure => simp [intOf]; omega
          · have e : k = m := by omega
            subst e
            have hfm : FN wr Bl k k (fun p => p) := hfk.congr fun p hp => by
              show ((if p < k then p else 0 : Nat) : Int) = (p : Int)
              rw [if_pos hp]
            clear hfk
            have hcok : CmpOk (.pointer (some ⟨w1.heap.size, 0, none⟩)) (.pointer (some ⟨w.heap.size, 0, none⟩)) (fun p => dist d cm k y p) k Bl wr := by
              intro W p q hW hp hq
              have b1 := (hbut.trans hW).blk hab3 (show w1.heap.size ≠ Bl by omega)
              have b2 := (hbut.trans hW).blk hxb3 (show w.heap.size ≠ Bl by omega)
              have b3 := (hbut.trans hW).blk hbk3 (show B ≠ Bl by omega)
              have h := rankCmp_any y p q k cm B w1.heap.size w.heap.size g W (by omega) (by omega) (by omega) b3 (b1.cell 0) (b2.cell 0)
              rw [HG.out y p hym hp, HG.out y q hym hq] at h
              exact h
            go_wp2_with fail
            refine (sortStable_any Bl k k _ _ _ wr hm2 hfm hcok).mono ?_
            rintro e w4 ⟨rfl, hbut4, f4, hf4, hs4, hm4⟩
            have hb4 : Below w.heap.size w w4 := hb3.trans ((hbut.trans hbut4).below (B := w.heap.size) hb3.size (by omega))
            go_wp2_with fail
            go_ret2
            exact ⟨hb4, .inr ⟨k, cm, y, Bl, k, f4, rfl, rfl, hym, hm2, hs.out, rfl, by omega, hf4, ⟨hs4, hm4⟩⟩⟩
end Go.Proofs.YtahgffjkkdbjeaaDoor
namespace Go.Proofs.YtahgffjkkdbjeaaDoor
open Go.RowKit
/-- The nearest of a row of all. -/
def nearV (f : Nat → Nat) (m y : Nat) : Nat := if m = 1 then 0 else if f 0 = y then f 1 else f 0
def nearE (m : Nat) : Int := if m = 1 then 5 else 0
theorem RkRow.lt {d : List Fr} {c m y : Nat} {f : Nat → Nat} (h : RkRow d c m y f) {p : Nat} (hp : p < m) : f p < m := h.same.bound (Nat.le_refl m) (fun _ h => h) p hp
theorem RkRow.ne {d : List Fr} {c m y : Nat} {f : Nat → Nat} (h : RkRow d c m y f) {p q : Nat} (hp : p < q) (hq : q < m) : f p ≠ f q := by
  intro e
  have := h.srt p q (Nat.zero_le _) hp hq
  unfold ltK at this
  rw [e] at this
  omega
def NrPost (w : World) (n : Int) (d : List Fr) (x : Int) (e : Ending) (w' : World) : Prop :=
  Below w.heap.size w w' ∧ ((∃ k, rankE n d x = .error k ∧ e = .returned (.tuple #[.int .i64 0, .int .i64 k])) ∨
    ∃ (m c y : Nat) (f : Nat → Nat), n = (m : Int) ∧ x = (y : Int) ∧ y < m ∧ rankE n d x = .ok c ∧ e = .returned (.tuple #[.int .i64 (nearV f m y), .int .i64 (nearE m)]) ∧ RkRow d c m y f)
theorem rankE_ne {n : Int} {d : List Fr} {x k : Int} (h : rankE n d x = .error k) : (k != 0) = true := by
  unfold rankE at h
  split at h
  · rename_i h2; simp only [Except.error.injEq] at h; subst h; exact scaled_err_ne h2
  · split at h
    · simp only [Except.error.injEq] at h; subst h; rfl
    · cases h
set_option maxRecDepth 100000 in
set_option maxHeartbeats 4000000 in
theorem near_any (a : Option Addr) (n x : Int) (N c : Nat) (d : List Fr) (w : World) (hn1 : -9223372036854775808 ≤ n) (hn2 : n ≤ 9223372036854775807) (hx1 : -9223372036854775808 ≤ x) (hx2 : x ≤ 9223372036854775807) (hd : d.length = N) (hN : N ≤ 1152921504606846976) (hA : Rd w a (fl encFr d)) (hok : FitFr d) :
    Calls Tryd.prog 17 #[.int .i64 n, .slice a N c, .int .i64 x] w (NrPost w n d x) := by
  have HD := Lib.hid hd
  have HK := Lib.hid hok
  clear hd hok
  go_enter Tryd.func17, Tryd.ntmps17
  go_wp2_with fail
  refine (rank_any a n x N c d _ hn1 hn2 hx1 hx2 HD.out hN hA HK.out).mono ?_
  rintro e w1 ⟨hb1, ⟨k, hk, rfl⟩ | ⟨m, cm, y, B, cap, f, rfl, rfl, hy, hm2, hs, rfl, hB, hf, hr⟩⟩
  · have hs := Lib.hid hk
    have hk0 := rankE_ne hk
    clear hk
    go_wp2_with fail
    go_ret2
    exact ⟨hb1, .inl ⟨k, hs.out, rfl⟩⟩
  · have HS := Lib.hid hs
    have HR := Lib.hid hr
    clear hs hr
    go_wp2_with fail
    go_loopw [24, 11] (fun x _ wr => ∃ k : Nat, k ≤ m ∧ (k = 0 ∨ k = 1) ∧ Hid (k = 1 → f 0 = y) ∧ x = .int .i64 k ∧ wr = w1) (fun x _ _ => m - (intOf x).toNat)
    case atStart => exact ⟨0, by omega, .inl rfl, (fun h => by omega), rfl, rfl⟩
    case round =>
      obtain ⟨k, hk, hk1, hk0, rfl, rfl⟩ := hrel
      by_cases hkt : k < m
      · have ck := hf.cell k hkt
        by_cases e : f k = y
        · have ek : k = 0 := by
            rcases hk1 with h | h
            · exact h
            · subst h; exact absurd ((hk0.out rfl).trans e.symm) (HR.out.ne (by omega) hkt)
          subst ek
          have hne : ((f 0 : Int) != (y : Int)) = false := by simp; omega
          have HE := Lib.hid e
          clear e
          go_wp2_with fail
          go_roundw
          case rel => exact ⟨1, by omega, .inr rfl, fun _ => HE.out, by go_num, by trivial⟩
          case measure => simp [intOf]; omega
        · have hne : ((f k : Int) != (y : Int)) = true := by simp; omega
          have hv : Hid (nearV f m y = f k ∧ nearE m = 0) := by
            have l0 := HR.out.lt (show 0 < m by omega)
            rcases hk1 with rfl | rfl
            · have : m ≠ 1 := by omega
              exact ⟨by rw [nearV, if_neg this, if_neg e], by rw [nearE, if_neg this]⟩
            · have : m ≠ 1 := by omega
              exact ⟨by rw [nearV, if_neg this, if_pos (hk0.out rfl)], by rw [nearE, if_neg this]⟩
          clear e
          go_wp2_with fail
          go_ret2
          refine ⟨hb1, .inr ⟨m, cm, y, f, rfl, rfl, hy, HS.out, ?_, HR.out⟩⟩
          rw [hv.out.1, hv.out.2]; rfl
      · have e1 : m = 1 := by omega
        subst e1
        go_wp2_with fail
        go_ret2
        exact ⟨hb1, .inr ⟨1, cm, y, f, rfl, rfl, hy, HS.out, rfl, HR.out⟩⟩
end Go.Proofs.YtahgffjkkdbjeaaDoor
namespace Go.Proofs.YtahgffjkkdbjeaaDoor
open Go.RowKit
theorem owns_cap {w : World} {base e k : Nat} {a : Option Addr} {n cap : Nat} {cs : List Value} (h : w.ownsRow base e k (.slice a n cap) n cs) : n ≤ cap := by
  rcases h.2 with ⟨h1, rfl⟩ | ⟨g, cap', cur, h1, _, _, h2, _⟩
  · exact Nat.zero_le _
  · simp only [Value.slice.injEq] at h1; obtain ⟨_, _, rfl⟩ := h1; exact h2
theorem owns_some {w : World} {base e k : Nat} {a : Option Addr} {n cap : Nat} {cs : List Value} (h : w.ownsRow base e k (.slice a n cap) n cs) (hc : 0 < cap) : ∃ g, a = some ⟨g, 0, none⟩ := by
  rcases h.2 with ⟨h1, rfl⟩ | ⟨g, cap', cur, h1, _, _, h2, _⟩
  · simp only [Value.slice.injEq] at h1; omega
  · simp only [Value.slice.injEq] at h1; exact ⟨g, h1.1⟩
theorem encI_one : ∀ x : Int, ∀ u ∈ encI x, u.oneCell' = true := by
  intro x u hu
  simp only [encI, List.mem_singleton] at hu
  subst hu
  rfl
def RrPost (w : World) (n : Int) (d : List Fr) (x : Int) (e : Ending) (w' : World) : Prop :=
  Below w.heap.size w w' ∧ ((∃ k, rankE n d x = .error k ∧ e = .returned (.tuple #[.slice none 0 0, .int .i64 k])) ∨
    ∃ (m c y : Nat) (v : Value) (f : Nat → Nat), n = (m : Int) ∧ x = (y : Int) ∧ y < m ∧ m ≤ 24 ∧ rankE n d x = .ok c ∧ e = .returned (.tuple #[v, .int .i64 0]) ∧ w'.ownsRow w.heap.size 3 1 v m (fl encI (rowL f m)) ∧ RkRow d c m y f)
set_option maxRecDepth 100000 in
set_option maxHeartbeats 4000000 in
theorem rrank_any (a : Option Addr) (n x : Int) (N c : Nat) (d : List Fr) (w : World) (hn1 : -9223372036854775808 ≤ n) (hn2 : n ≤ 9223372036854775807) (hx1 : -9223372036854775808 ≤ x) (hx2 : x ≤ 9223372036854775807) (hd : d.length = N) (hN : N ≤ 1152921504606846976) (hA : Rd w a (fl encFr d)) (hok : FitFr d) :
    Calls Tryd.prog 20 #[.int .i64 n, .slice a N c, .int .i64 x] w (RrPost w n d x) := by
  have HD := Lib.hid hd
  have HK := Lib.hid hok
  clear hd hok
  go_enter Tryd.func20, Tryd.ntmps20
  go_wp2_with fail
  refine (rscaled_any a n N c d _ hn1 hn2 HD.out hN hA HK.out).mono ?_
  rintro e w1 ⟨hb1, ⟨k, hk, rfl⟩ | ⟨m, cm, v, rfl, hm1, hm2, hl, hs, rfl, hown⟩⟩
  · have hs := Lib.hid (rankE_err (x := x) hk)
    have hk0 := scaled_err_ne hk
    clear hk
    go_wp2_with fail
    go_ret2
    exact ⟨hb1, .inl ⟨k, hs.out, rfl⟩⟩
  · have HS := Lib.hid hs
    obtain ⟨ga, gcap, rfl, _⟩ := owns_slice hown
    obtain ⟨g, o, rfl, hgl, hcell⟩ := scK_cells hown hm1
    have hmm : m * m ≤ 576 := by have := Nat.mul_le_mul hm2 hm2; omega
    have hle : Hid (∀ i j, i < m → j < m → w1.cell? ⟨g, o + (i * m + j), none⟩ = some (.int .i64 (dist d cm m i j)) ∧ dist d cm m i j ≤ 1073741824) := fun i j hi hj => ⟨hcell _ (idx_lt rfl hi hj), dist_le hs HK.out hi hj⟩
    clear hcell hs hl hown
    obtain ⟨M, hM⟩ : ∃ M, M = m * m := ⟨_, rfl⟩
    rw [← hM] at hmm ⊢
    have HM := Lib.hid hM.symm
    clear hM
    by_cases c1 : x < 0
    · have hs := Lib.hid (rankE_out HS.out (.inl c1))
      go_wp2_with fail
      go_ret2
      exact ⟨hb1, .inl ⟨3, hs.out, rfl⟩⟩
    · by_cases c2 : (m : Int) ≤ x
      · have hs := Lib.hid (rankE_out HS.out (.inr c2))
        go_wp2_with fail
        go_ret2
        exact ⟨hb1, .inl ⟨3, hs.out, rfl⟩⟩
      · obtain ⟨y, rfl⟩ : ∃ y : Nat, x = y := ⟨x.toNat, by omega⟩
        have hs := Lib.hid (rankE_ok HS.out (show (0 : Int) ≤ y by omega) (by omega))
        have hym : y < m := by omega
        have cb1 : decide ((y : Int) < 0) = false := by simp
        have cb2 : decide (m ≤ y) = false := by simp; omega
        clear c1 c2
        go_wp2_with fail
        go_loopw [12, 11, 13, 14] (fun x v _ _ wr => ∃ (b : Nat) (f : Nat → Nat), b ≤ m ∧ x = .int .i64 b ∧ wr.ownsRow w1.heap.size 3 1 v b (fl encI (rowL f b)) ∧ Hid (Srt (fun p => dist d cm m y p) f 0 b) ∧ Hid (Same (fun p => p) f 0 b) ∧ Below w1.heap.size w1 wr) (fun x _ _ _ _ => m - (intOf x).toNat)
        case atStart => exact ⟨0, fun p => p, by omega, rfl, World.ownsRow_nil _ _ _ _, fun p q _ _ h => absurd h (by omega), Same.refl _ _ _, Below.refl _ _⟩
        case round =>
          obtain ⟨b, f, hb, rfl, hown, hsr, hsm, hbl⟩ := hrel
          by_cases hlt : b < m
          · obtain ⟨oa, ocap, rfl, hoa⟩ := owns_slice hown
            have hgk : ∀ i j, i < m → j < m → wr.cell? ⟨g, o + (i * m + j), none⟩ = some (.int .i64 (dist d cm m i j)) := fun i j hi hj => (hbl.cell (p := ⟨g, o + (i * m + j), none⟩) hgl).trans (hle.out i j hi hj).1
            have HGK := Lib.hid hgk
            clear hgk
            obtain ⟨X, hX⟩ : ∃ X, X = dist d cm m y b := ⟨_, rfl⟩
            have hXb : X ≤ 1073741824 := by rw [hX]; exact (hle.out y b hym hlt).2
            obtain ⟨m1, m2, k1, _, hm1', hm2', hk1, _, c1', _⟩ := idx_two (n := m) (N := M) (a := y) (b := b) HM.out (by omega) (by omega) (by omega)
            have e1 := HGK.out y b hym hlt
            rw [hm1', hk1, ← hX] at e1
            have w1' := wrap_nat ((y : Int) * (m : Int)) m1 (by rw [← hm1']; simp) (by omega)
            have w3 := wrap_nat ((m1 : Int) + (b : Int)) k1 (by omega) (by omega)
            have HX := Lib.hid hX
            have HM1 := Lib.hid hm1'
            clear hX hm1' hm2' hk1
            go_upto_block 2 with fail
            go_cut [13] (fun s wx => ∃ t : Nat, s = .int .i64 t ∧ t ≤ b ∧ Hid (∀ p, p < t → dist d cm m y (f p) ≤ dist d cm m y b) ∧ Hid (t < b → dist d cm m y b < dist d cm m y (f t)) ∧ ∃ nq, wx = wr.drewN nq)
            case first =>
              go_wp2_with fail
              go_loopw [13] (fun s wx => ∃ t : Nat, s = .int .i64 t ∧ t ≤ b ∧ Hid (∀ p, p < t → dist d cm m y (f p) ≤ dist d cm m y b) ∧ ∃ nq, wx = wr.drewN nq) (fun s _ => b - (intOf s).toNat)
              case atStart => exact ⟨0, rfl, by omega, fun p h => absurd h (by omega), 0, rfl⟩
              case round =>
                obtain ⟨t, rfl, ht, hp, nq0, rfl⟩ := hrel
                by_cases htb : t < b
                · obtain ⟨g', hg1, hg2, rfl⟩ := hoa.resolve_left (by omega)
                  have hft : f t < m := Nat.lt_of_lt_of_le (same_lt hsm.out htb) hb
                  have ec : wr.cell? ⟨g', t, none⟩ = some (.int .i64 (f t : Int)) := by
                    obtain ⟨b2, o2, e2, _, hc2⟩ := rdI (rd_of_owns hown) (by rw [rowL_len]; omega)
                    have e2 := Option.some.inj e2
                    have h2 := hc2 t (by rw [rowL_len]; exact htb)
                    rw [rowL_at f htb] at h2
                    have h3 : (⟨b2, o2 + t, none⟩ : Addr) = ⟨g', t, none⟩ := by
                      have e3 := congrArg Addr.block e2
                      have e4 := congrArg Addr.off e2
                      simp only at e3 e4
                      rw [← e3, ← e4, Nat.zero_add]
                    rw [← h3]; exact h2
                  have e2 := HGK.out y (f t) hym hft
                  have hYb := (hle.out y (f t) hym hft).2
                  rw [HM1.out] at e2
                  have HE : Hid (f t = f t) := rfl
                  obtain ⟨Y, hY⟩ : ∃ Y, Y = dist d cm m y (f t) := ⟨_, rfl⟩
                  rw [← hY] at e2 hYb
                  have HY := Lib.hid hY
                  obtain ⟨z, hz⟩ : ∃ z, z = f t := ⟨_, rfl⟩
                  rw [← hz] at e2 ec hft
                  have HZ := Lib.hid hz
                  obtain ⟨k2, hk2⟩ : ∃ k, m1 + z = k := ⟨_, rfl⟩
                  have hk2b : k2 < M := by rw [← hk2, ← HM1.out]; exact idx_lt HM.out hym hft
                  rw [hk2] at e2
                  have w4 := wrap_nat ((m1 : Int) + (z : Int)) k2 (by omega) (by omega)
                  clear hY hz hk2
                  by_cases hc : Y ≤ X
                  · have hp2 : Hid (∀ p, p < t + 1 → dist d cm m y (f p) ≤ dist d cm m y b) := fun p hp' => by
                      by_cases e : p = t
                      · rw [e, ← HY.out, ← HX.out]; exact hc
                      · exact hp.out p (by omega)
                    go_wp2_with fail
                    go_quiet (fail)
                    go_wp2_with fail
                    go_roundw
                    case rel => exact ⟨t + 1, by go_num, by omega, hp2, nq0 + nq, by simp⟩
                    case measure => simp [intOf]; omega
                  · have hp2 : Hid (t < b → dist d cm m y b < dist d cm m y (f t)) := fun _ => by rw [← HY.out, ← HX.out]; omega
                    go_wp2_with fail
                    go_quiet (fail)
                    go_wp2_with fail
                    go_meet
                    exact ⟨t, rfl, by omega, hp, hp2, nq0 + nq, by simp⟩
                · have e : t = b := by omega
                  subst e
                  have hd1 : decide (t < t) = false := by simp
                  go_wp2_with fail
                  go_quiet (fail)
                  go_wp2_with fail
                  go_meet
                  exact ⟨t, rfl, by omega, hp, fun h => absurd h (by omega), nq0 + nq, by simp⟩
            case rest =>
              obtain ⟨t, rfl, ht, hp1, hp2, nq, rfl⟩ := hcut
              have hcap := owns_cap hown
              have hown : (wr.drewN nq).ownsRow w1.heap.size 3 1 _ b (fl encI (rowL f b)) := hown
              clear HGK e1 w1' w3 hXb
              have r1 : Rd (wr.drewN nq) oa (fl encI ((rowL f b).take t)) := Rd.take1 (f := Value.int .i64) (rd_of_owns hown) t
              have r0 : oa = none → t = 0 := fun e => by
                rcases hoa with h | ⟨_, _, _, h⟩
                · omega
                · rw [h] at e; cases e
              have lt1 : Hid (((rowL f b).take t).length = t) := by show _ = _; rw [List.length_take, rowL_len]; omega
              have R0 := Lib.hid r0
              have hsz : w1.heap.size ≤ (wr.drewN nq).heap.size := hbl.size
              clear r0
              go_upto_region 15 with (at_builtin; refine wpList_pushs (enc := encI) (k := 1) (bytes := 8) rfl (fun _ => rfl) (by decide) encI_one (base := w1.heap.size) Tryd.underlying29 info3 rfl (.tmp 65) (.tmp 68) rfl (.slice none 0 0) ([] : List Int) 0 rfl rfl (World.ownsRow_nil _ _ _ _) oa t ocap ((rowL f b).take t) lt1.out.symm rfl r1 R0.out (by omega) (by decide) hsz ?_; intro v1 w2 hw1 hw2 hw3)
              simp only [Nat.zero_add, List.nil_append] at hw1
              have hown2 := hown.kept hw2 (by cases (Value.slice oa b ocap).ownBlock <;> simp [Value.ownBlock])
              have hbl2 : Below w1.heap.size w1 w2 := Below.grown (bl_drewN hbl nq) hw2 hsz (fun r hr => by simp [Value.ownBlock] at hr)
              have hne1 : Hid ((Value.slice oa b ocap).ownBlock = none ∨ (Value.slice oa b ocap).ownBlock ≠ v1.ownBlock) := by
                show _ ∨ _
                cases ho : (Value.slice oa b ocap).ownBlock with
                | none => exact .inl rfl
                | some r =>
                  right
                  have h1 := (hown.lt r ho).2
                  rcases hw3 with h | h
                  · rw [h]; simp [Value.ownBlock]
                  · rw [h]; intro e; have := Option.some.inj e; omega
              have hlt1 : ∀ r, v1.ownBlock = some r → w1.heap.size ≤ r := fun r hr => (hw1.lt r hr).1
              have HL1 := Lib.hid hlt1
              have hsz2 := hbl2.size
              clear hw2 hw3 hlt1 hown hbl hsz r1
              go_upto_region 16 with (at_builtin; refine push_I rfl (.tmp 70) (.tmp 72) rfl w1.heap.size v1 ((rowL f b).take t) t lt1.out.symm rfl (hw1.alloc _) w2.heap.size 1 (b : Int) rfl (Blk.new w2 _ _) (by omega) (by simp; omega) ?_; intro g5 cap5 w3 hw4 hw5 hw6 hw7)
              have hown3 := (hown2.alloc (.cells #[.int .i64 b] 3)).kept hw5 hne1.out
              have hbl3 : Below w1.heap.size w1 w3 := Below.grown (hbl2.alloc hsz2 _) hw5 (by simp; omega) (fun r hr => HL1.out r hr)
              have hsz3 := hbl3.size
              clear hw5 hw6 hown2 hbl2 hsz2 hw1
              have hdone : Hid (rowL (insF f t b) (b + 1) = (rowL f b).take t ++ [(b : Int)] ++ (rowL f b).drop t) := rowL_ins f ht
              have hS2 : Hid (Srt (fun p => dist d cm m y p) (insF f t b) 0 (b + 1)) := insF_srt hsr.out hsm.out ht hp1.out hp2.out
              have hM2 : Hid (Same (fun p => p) (insF f t b) 0 (b + 1)) := insF_same hsm.out ht
              have l5 : ((rowL f b).take t ++ [(b : Int)]).length = t + 1 := by rw [List.length_append, lt1.out]; rfl
              have L5 := Lib.hid l5
              have l6 : ((rowL f b).drop t).length = b - t := by rw [List.length_drop, rowL_len]
              have L6 := Lib.hid l6
              clear l5 l6
              by_cases hto : t < ocap
              · obtain ⟨g', rfl⟩ := owns_some hown3 (by omega)
                have r3 := Rd.drop1 (f := Value.int .i64) (rd_of_owns hown3) t
                rw [Nat.zero_add] at r3
                have hto2 : ¬ (ocap = t) := by omega
                go_wp2_with (at_builtin; refine wpList_pushs (enc := encI) (k := 1) (bytes := 8) rfl (fun _ => rfl) (by decide) encI_one (base := w1.heap.size) Tryd.underlying29 info3 rfl (.tmp 74) (.tmp 77) rfl (.slice (some ⟨g5, 0, none⟩) (t + 1) cap5) ((rowL f b).take t ++ [(b : Int)]) (t + 1) L5.out.symm rfl hw4 (some ⟨g', t, none⟩) (b - t) (ocap - t) ((rowL f b).drop t) L6.out.symm rfl r3 (fun e => by cases e) (by omega) (by decide) hsz3 ?_; intro v6 w6 hw8 hw9 hw10)
                rw [← hdone.out, show t + 1 + (b - t) = b + 1 by omega] at hw8
                have hbl6 := Below.grown hbl3 hw9 hsz3 (fun r hr => (hw4.lt r hr).1)
                go_wp2_with fail
                go_roundw
                case rel => exact ⟨b + 1, _, by omega, by go_num, hw8, hS2, hM2, hbl6⟩
                case measure => simp [intOf]; omega
              · obtain rfl : t = b := by omega
                obtain rfl : ocap = t := by omega
                have L7 : Hid ((rowL f ocap).drop ocap = []) := by show _ = _; rw [List.drop_eq_nil_iff, rowL_len]; exact Nat.le_refl _
                go_wp2_with (at_builtin; refine wpList_pushs (enc := encI) (k := 1) (bytes := 8) rfl (fun _ => rfl) (by decide) encI_one (base := w1.heap.size) Tryd.underlying29 info3 rfl (.tmp 74) (.tmp 77) rfl (.slice (some ⟨g5, 0, none⟩) (ocap + 1) cap5) ((rowL f ocap).take ocap ++ [(ocap : Int)]) (ocap + 1) L5.out.symm rfl hw4 oa 0 0 [] rfl rfl (Rd.nil _ _) (fun _ => rfl) (by omega) (by decide) hsz3 ?_; intro v6 w6 hw8 hw9 hw10)
                have hd2 := hdone.out
                rw [L7.out] at hd2
                rw [← hd2, show ocap + 1 + 0 = ocap + 1 by omega] at hw8
                clear hd2
                have hbl6 := Below.grown hbl3 hw9 hsz3 (fun r hr => (hw4.lt r hr).1)
                go_wp2_with fail
                go_roundw
                case rel => exact ⟨ocap + 1, _, by omega, by go_num, hw8, hS2, hM2, hbl6⟩
                case measure => simp [intOf]; omega
          · have e : b = m := by omega
            subst e
            go_wp2_with fail
            go_ret2
            exact ⟨hb1.trans (hbl.mono hb1.size), .inr ⟨b, cm, y, _, f, rfl, rfl, hym, hm2, hs.out, rfl, owns_mono hown hb1.size, ⟨hsr.out, hsm.out⟩⟩⟩
end Go.Proofs.YtahgffjkkdbjeaaDoor
namespace Go.Proofs.YtahgffjkkdbjeaaDoor
open Go.RowKit
/-- The cells of a row of numbers of the call's own. -/
theorem rowL_cells {w : World} {base : Nat} {v : Value} {m : Nat} {f : Nat → Nat} (h : w.ownsRow base 3 1 v m (fl encI (rowL f m))) (hm : 1 ≤ m) : ∃ g cap, v = .slice (some ⟨g, 0, none⟩) m cap ∧ base ≤ g ∧ g < w.heap.size ∧ ∀ k, k < m → w.cell? ⟨g, k, none⟩ = some (.int .i64 (f k : Int)) := by
  obtain ⟨a, cap, rfl, h0 | ⟨g, h1, h2, rfl⟩⟩ := owns_slice h
  · omega
  · refine ⟨g, cap, rfl, h1, h2, fun k hk => ?_⟩
    obtain ⟨b2, o2, e2, _, hc2⟩ := rdI (rd_of_owns h) (by rw [rowL_len]; omega)
    have e2 := Option.some.inj e2
    have h2 := hc2 k (by rw [rowL_len]; exact hk)
    rw [rowL_at f hk] at h2
    have h3 : (⟨b2, o2 + k, none⟩ : Addr) = ⟨g, k, none⟩ := by
      have e3 := congrArg Addr.block e2
      have e4 := congrArg Addr.off e2
      simp only at e3 e4
      rw [← e3, ← e4, Nat.zero_add]
    rw [← h3]; exact h2
set_option maxRecDepth 100000 in
set_option maxHeartbeats 4000000 in
theorem rnear_any (a : Option Addr) (n x : Int) (N c : Nat) (d : List Fr) (w : World) (hn1 : -9223372036854775808 ≤ n) (hn2 : n ≤ 9223372036854775807) (hx1 : -9223372036854775808 ≤ x) (hx2 : x ≤ 9223372036854775807) (hd : d.length = N) (hN : N ≤ 1152921504606846976) (hA : Rd w a (fl encFr d)) (hok : FitFr d) :
    Calls Tryd.prog 18 #[.int .i64 n, .slice a N c, .int .i64 x] w (NrPost w n d x) := by
  have HD := Lib.hid hd
  have HK := Lib.hid hok
  clear hd hok
  go_enter Tryd.func18, Tryd.ntmps18
  go_wp2_with fail
  refine (rrank_any a n x N c d _ hn1 hn2 hx1 hx2 HD.out hN hA HK.out).mono ?_
  rintro e w1 ⟨hb1, ⟨k, hk, rfl⟩ | ⟨m, cm, y, v, f, rfl, rfl, hy, hm2, hs, rfl, hown, hr⟩⟩
  · have hs := Lib.hid hk
    have hk0 := rankE_ne hk
    clear hk
    go_wp2_with fail
    go_ret2
    exact ⟨hb1, .inl ⟨k, hs.out, rfl⟩⟩
  · have HS := Lib.hid hs
    have HR := Lib.hid hr
    obtain ⟨g, cap, rfl, _, _, hc⟩ := rowL_cells hown (by omega)
    have c0 := hc 0 (by omega)
    have hpost : Hid (∀ z t : Int, z = nearV f m y → t = nearE m → NrPost w m d y (.returned (.tuple #[.int .i64 z, .int .i64 t])) w1) := fun z t hz ht => ⟨hb1, .inr ⟨m, cm, y, f, rfl, rfl, hy, HS.out, by rw [hz, ht], HR.out⟩⟩
    clear hs hr hown
    by_cases e1 : m = 1
    · have hm : ((m : Int) == 1) = true := by simp; omega
      have h := Lib.hid (hpost.out 0 5 (by rw [nearV, if_pos e1]; rfl) (by rw [nearE, if_pos e1]))
      clear e1 hc c0
      go_wp2_with fail
      go_ret2
      exact h.out
    · have hm : ((m : Int) == 1) = false := by simp; omega
      have c1 := hc 1 (by omega)
      clear hc
      by_cases e2 : f 0 = y
      · have hq : ((f 0 : Int) == (y : Int)) = true := by simp; omega
        have h := Lib.hid (hpost.out (f 1) 0 (by rw [nearV, if_neg e1, if_pos e2]) (by rw [nearE, if_neg e1]))
        generalize f 0 = z0 at *
        generalize f 1 = z1 at *
        clear e2
        go_wp2_with fail
        go_ret2
        exact h.out
      · have hq : ((f 0 : Int) == (y : Int)) = false := by simp; omega
        have h := Lib.hid (hpost.out (f 0) 0 (by rw [nearV, if_neg e1, if_neg e2]) (by rw [nearE, if_neg e1]))
        generalize f 0 = z0 at *
        clear e2
        go_wp2_with fail
        go_ret2
        exact h.out
end Go.Proofs.YtahgffjkkdbjeaaDoor
