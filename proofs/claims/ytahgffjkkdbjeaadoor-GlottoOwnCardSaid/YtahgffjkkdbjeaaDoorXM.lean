/- The statement GlottoOwn's walk. -/
import Derived.Test.YtahgffjkkdbjeaaDoorXMA
import Derived.Deep.MidRow
namespace Go.Proofs.YtahgffjkkdbjeaaDoor
open Go.RowKit
/-- What Shares answers of a table that GlottoOwn builds. -/
theorem own_ans {f : Nat → Nat → Int} {m n kk q : Nat} (hkk : (if m = 0 then 0 else n) = kk) (hq : kk * kk = q) (hm : m ≤ 40) (hn : n ≤ 24) (hf : ∀ i a, -1 ≤ f i a) {w : World} {e : Ending} {w' : World} (h : ShPost w (otab f m n) e w') :
    ∃ a' c', e = .returned (.tuple #[.slice a' q c', .int .i64 0]) ∧ Rd w' a' (fl encFr (shL (otab f m n) kk)) ∧ Below w.heap.size w w' := by
  obtain ⟨hb, ⟨k', h1, rfl⟩ | ⟨n', v, h1, h2, rfl, h4, h5⟩⟩ := h
  · rw [otab_ok hm hn hf] at h1; cases h1
  · rw [otab_ok hm hn hf, hkk] at h1
    cases h1
    rw [hq] at h5
    obtain ⟨a', c', rfl, _⟩ := owns_slice h5
    exact ⟨a', c', rfl, rd_of_owns h5, hb⟩
theorem shL_at (L : List (List Int)) {n a b : Nat} (ha : a < n) (hb : b < n) : a * n + b < n * n ∧ fN (shL L n) (a * n + b) = (shareF L a b).1 ∧ fD (shL L n) (a * n + b) = (shareF L a b).2 := by
  have h1 : a * n + b < n * n := Nat.lt_of_lt_of_le (by rw [Nat.succ_mul]; omega : a * n + b < (a + 1) * n) (Nat.mul_le_mul_right n ha)
  have d1 : (a * n + b) / n = a := by rw [Nat.mul_comm, Nat.mul_add_div (by omega), Nat.div_eq_of_lt hb, Nat.add_zero]
  have d2 : (a * n + b) % n = b := by rw [Nat.mul_comm, Nat.mul_add_mod, Nat.mod_eq_of_lt hb]
  refine ⟨h1, ?_, ?_⟩ <;> simp [fN, fD, shL, h1, d1, d2]
theorem info50 (f : Nat → Int) : (Tryd.prog.info? 50).map (·.size) = some (encA f).length := by rw [encA_len]; kernel_rfl
theorem encA_one (f : Nat → Int) : (encA f).toArray.all (·.oneCell') = true := all_oneCell_toArray fun v hv => by
  obtain ⟨t, _, rfl⟩ := List.mem_map.1 hv
  rfl
/-- A row of 24 is stored into a new variable. -/
theorem store24 (w : World) (f : Nat → Int) : Sem.run Tryd.prog (storeCells ⟨w.heap.size, 0, none⟩ (encA f)) (w.alloc (.cells #[.int .u8 0, .int .u8 0, .int .u8 0, .int .u8 0, .int .u8 0, .int .u8 0, .int .u8 0, .int .u8 0, .int .u8 0, .int .u8 0, .int .u8 0, .int .u8 0, .int .u8 0, .int .u8 0, .int .u8 0, .int .u8 0, .int .u8 0, .int .u8 0, .int .u8 0, .int .u8 0, .int .u8 0, .int .u8 0, .int .u8 0, .int .u8 0] 50)) = .ok () ((w.alloc (.cells #[.int .u8 0, .int .u8 0, .int .u8 0, .int .u8 0, .int .u8 0, .int .u8 0, .int .u8 0, .int .u8 0, .int .u8 0, .int .u8 0, .int .u8 0, .int .u8 0, .int .u8 0, .int .u8 0, .int .u8 0, .int .u8 0, .int .u8 0, .int .u8 0, .int .u8 0, .int .u8 0, .int .u8 0, .int .u8 0, .int .u8 0, .int .u8 0] 50)).setCells w.heap.size 0 (encA f)) ∧
    (∀ j, j < 24 → ((w.alloc (.cells #[.int .u8 0, .int .u8 0, .int .u8 0, .int .u8 0, .int .u8 0, .int .u8 0, .int .u8 0, .int .u8 0, .int .u8 0, .int .u8 0, .int .u8 0, .int .u8 0, .int .u8 0, .int .u8 0, .int .u8 0, .int .u8 0, .int .u8 0, .int .u8 0, .int .u8 0, .int .u8 0, .int .u8 0, .int .u8 0, .int .u8 0, .int .u8 0] 50)).setCells w.heap.size 0 (encA f)).cell? ⟨w.heap.size, j, none⟩ = some (.int .u8 (f j))) ∧ Below w.heap.size w ((w.alloc (.cells #[.int .u8 0, .int .u8 0, .int .u8 0, .int .u8 0, .int .u8 0, .int .u8 0, .int .u8 0, .int .u8 0, .int .u8 0, .int .u8 0, .int .u8 0, .int .u8 0, .int .u8 0, .int .u8 0, .int .u8 0, .int .u8 0, .int .u8 0, .int .u8 0, .int .u8 0, .int .u8 0, .int .u8 0, .int .u8 0, .int .u8 0, .int .u8 0] 50)).setCells w.heap.size 0 (encA f)) := by
  have hB := Blk.new w #[.int .u8 0, .int .u8 0, .int .u8 0, .int .u8 0, .int .u8 0, .int .u8 0, .int .u8 0, .int .u8 0, .int .u8 0, .int .u8 0, .int .u8 0, .int .u8 0, .int .u8 0, .int .u8 0, .int .u8 0, .int .u8 0, .int .u8 0, .int .u8 0, .int .u8 0, .int .u8 0, .int .u8 0, .int .u8 0, .int .u8 0, .int .u8 0] 50
  have ht : (w.alloc (.cells #[.int .u8 0, .int .u8 0, .int .u8 0, .int .u8 0, .int .u8 0, .int .u8 0, .int .u8 0, .int .u8 0, .int .u8 0, .int .u8 0, .int .u8 0, .int .u8 0, .int .u8 0, .int .u8 0, .int .u8 0, .int .u8 0, .int .u8 0, .int .u8 0, .int .u8 0, .int .u8 0, .int .u8 0, .int .u8 0, .int .u8 0, .int .u8 0] 50)).there w.heap.size 0 (encA f).length := fun j hj => by
    rw [encA_len] at hj
    refine ⟨?_, hB.free _⟩
    rw [hB.cell, Nat.zero_add, Array.getElem?_eq_getElem (by simpa using hj)]
    rfl
  refine ⟨?_, fun j hj => ?_, ?_⟩
  · have := run_storeCells_cells (P := Tryd.prog) w.heap.size 0 (encA f) 0 (w.alloc (.cells #[.int .u8 0, .int .u8 0, .int .u8 0, .int .u8 0, .int .u8 0, .int .u8 0, .int .u8 0, .int .u8 0, .int .u8 0, .int .u8 0, .int .u8 0, .int .u8 0, .int .u8 0, .int .u8 0, .int .u8 0, .int .u8 0, .int .u8 0, .int .u8 0, .int .u8 0, .int .u8 0, .int .u8 0, .int .u8 0, .int .u8 0, .int .u8 0] 50)) (fun j hj => (ht j hj).1) (fun j hj => (ht j hj).2) (fun v hv => by
      obtain ⟨t, _, rfl⟩ := List.mem_map.1 hv
      rfl)
    simpa using this
  · have := World.rangeAt_setCells_same _ _ _ _ ht j (.int .u8 (f j)) (by simp [encA, hj])
    simpa using this
  · exact (But.setCells (g := w.heap.size) (encA f) 0 (But.refl _ (w.alloc (.cells #[.int .u8 0, .int .u8 0, .int .u8 0, .int .u8 0, .int .u8 0, .int .u8 0, .int .u8 0, .int .u8 0, .int .u8 0, .int .u8 0, .int .u8 0, .int .u8 0, .int .u8 0, .int .u8 0, .int .u8 0, .int .u8 0, .int .u8 0, .int .u8 0, .int .u8 0, .int .u8 0, .int .u8 0, .int .u8 0, .int .u8 0, .int .u8 0] 50)))).below (B := w.heap.size) (bl_alloc (Below.refl _ _) _).size (Nat.le_refl _) |> fun h => (bl_alloc (Below.refl _ w) _).trans h
set_option maxRecDepth 100000 in
set_option maxHeartbeats 4000000 in
theorem own_any (a : Option Addr) (N c : Nat) (l : List (Nat → Int)) (ct u : Int) (w : World) (hl : l.length = N) (hN : N ≤ 9223372036854775807) (hNc : N ≤ c) (h0 : a = none → N = 0 ∧ c = 0) (hA : Rd w a (fl encA l)) (hc0 : 0 ≤ ct) (hc1 : ct ≤ 255) (hu0 : 0 ≤ u) (hu1 : u ≤ 65535) (hx : ∀ i j, 0 ≤ xA l i j ∧ xA l i j ≤ 255) :
    Calls Tryd.prog 6 #[.slice a N c, .int .u8 ct, .int .u16 u] w fun e w' => e = .returned (.bool true) ∧ Below w.heap.size w w' := by
  obtain ⟨n, hn⟩ : ∃ n : Nat, ct % 25 = n := ⟨(ct % 25).toNat, by omega⟩
  have hn2 : n ≤ 24 := by omega
  obtain ⟨m, hm⟩ : ∃ m : Nat, min N 40 = m := ⟨_, rfl⟩
  have HL := Lib.hid hl
  have HA := Lib.hid hA
  have HX := Lib.hid hx
  clear hl hA hx
  obtain ⟨i0, hi0, hz0, hz1, hz2⟩ := info_parts info4b
  have hmk := run_make (P := Tryd.prog) w 45 4 i0 _ Tryd.underlying45 hi0 hz0 .i64 .i64 (n : Int) (n : Int) (by omega) (by omega) (by rw [hz2]; omega) (by omega)
  rw [hz1] at hmk
  simp only [Int.toNat_natCast, Nat.mul_one] at hmk
  clear hi0 hz0 hz1 hz2
  go_enter Tryd.func6, Tryd.ntmps6
  go_wp2_with fail
  have hmi : min (N : Int) 40 = (m : Int) := by omega
  have hmx : max (m : Int) 0 = (m : Int) := by omega
  rw [hmi, hn, hmx, Int.toNat_natCast]
  have hmN : m ≤ N := by omega
  have hm40 : m ≤ 40 := by omega
  obtain ⟨X, hX⟩ : ∃ X : Nat → Nat → Int, X = xA l := ⟨_, rfl⟩
  have hout : OwnOut w.heap.size (w.alloc (.cells (madeCells #[Value.bool false] n) 4)) w.heap.size n 0 (ownK X) (ownM X u) (.slice none 0 0) (.slice none 0 0) [] [] := by
    refine ⟨by rw [bits_made (ownK X) n]; exact Blk.new _ _ _, World.ownsRow_nil _ _ _ _, World.ownsRow_nil _ _ _ _, ⟨rfl, fun j h => absurd h (by omega)⟩, ⟨rfl, fun j h => absurd h (by omega)⟩, ?_, ?_, ?_⟩ <;> simp [Value.ownBlock]
  have hbs := bl_alloc (Below.refl w.heap.size w) (.cells (madeCells #[Value.bool false] n) 4)
  obtain ⟨ws, hws⟩ : ∃ ws, ws = w.alloc (.cells (madeCells #[Value.bool false] n) 4) := ⟨_, rfl⟩
  obtain ⟨sb, hsb⟩ : ∃ sb, sb = w.heap.size := ⟨_, rfl⟩
  rw [← hws] at hout hbs ⊢
  rw [← hsb] at hout ⊢
  have HSB := Lib.hid hsb
  clear hmk hws hsb
  go_loopw [37, 8, 9] (fun x y z wr => ∃ (i : Nat) (r8 r9 : List Rw), i ≤ m ∧ x = .int .i64 i ∧ OwnOut sb wr sb n i (ownK X) (ownM X u) y z r8 r9 ∧ Below w.heap.size w wr) (fun x _ _ _ => m - (intOf x).toNat)
  case atStart => exact ⟨0, [], [], by omega, rfl, hout, hbs⟩
  case round =>
    obtain ⟨i, r8, r9, hi, rfl, hout, hbl⟩ := hrel
    have HO := Lib.hid hout
    clear hout hbs
    by_cases hlt : i < m
    · obtain ⟨b, o, rfl, hbw, hcx⟩ := rdX (HA.out.bl hbl) (by rw [HL.out]; omega)
      have hra : wr.rangeAt b (o + i * 24) (encA (X i)) := by
        intro j v hj
        have hj2 : j < 24 := by have := (List.getElem?_eq_some_iff.1 hj).1; rw [encA_len] at this; exact this
        rw [hcx i (by rw [HL.out]; omega) j hj2, ← hj, hX]
        simp [encA, hj2]
      have HRA := Lib.hid hra
      clear hra hcx
      obtain ⟨hst, hst2, hst3⟩ := store24 wr (X i)
      have HST := Lib.hid (And.intro hst2 hst3)
      have HXX := Lib.hid hX
      clear hst2 hst3 hX
      go_upto_region 6 with fail
      go_cut [12] (fun s wx => ∃ x, s = .pointer (some ⟨x, 0, none⟩) ∧ (∀ j, j < 24 → wx.cell? ⟨x, j, none⟩ = some (.int .u8 (X i j))) ∧ wr.heap.size ≤ x ∧ Below wr.heap.size wr wx)
      case first =>
        go_wp2_with (first
          | (refine wpList_load_mid rfl 50 (.tmp 39) rfl b (o + i * 24) rfl (encA (X i)) _ HRA.out Tryd.underlying50 rfl (info50 _) ?_)
          | fail)
        go_meet
        exact ⟨_, rfl, HST.out.1, Nat.le_refl _, HST.out.2⟩
      case rest =>
        obtain ⟨x, rfl, hxc, hxs, hb6⟩ := hcut
        obtain ⟨w6, hw6⟩ : ∃ w6, w6 = wc := ⟨_, rfl⟩
        rw [← hw6] at hxc hb6 ⊢
        clear hw6
        clear hst
        have hbits := HO.out.bits
        have hsbl : sb < w6.heap.size := Nat.lt_of_lt_of_le hbits.lt hb6.size
        have hxl : x < w6.heap.size := World.block_lt_of_cell? w6 _ (hxc 0 (by omega))
        have hxsb : x ≠ sb := by have := hbits.lt; omega
        have hin : OwnIn w6 w6 sb n i 0 0 0 (ownK X) (ownM X u) (.slice none 0 0) (.slice none 0 0) :=
          ⟨by rw [someP_zero]; exact hbits.below hb6, World.ownsRow_nil _ _ _ _, World.ownsRow_nil _ _ _ _, by simp [Value.ownBlock], But.refl _ _⟩
        have HXC := Lib.hid hxc
        have HB6 := Lib.hid hb6
        clear hxc hb6 hbits
        go_wp2_with fail
        go_loopw [42, 13, 14] (fun x y z wr => ∃ (k : Nat), k ≤ n ∧ x = .int .i64 k ∧ OwnIn w6 wr sb n i k k k (ownK X) (ownM X u) y z) (fun x _ _ _ => n - (intOf x).toNat)
        case atStart => exact ⟨0, by omega, rfl, hin⟩
        case round =>
          obtain ⟨k, hk, rfl, hin2⟩ := hrel
          clear hin
          have HI := Lib.hid hin2
          clear hin2
          by_cases hlk : k < n
          · have g1 := (HI.out.but.cell (o := k) hxl hxsb).trans (HXC.out k (by omega))
            have g2 := HI.out.bits.getF k hlk
            have g3 := HI.out.bits.free k
            rw [bitC, someP, if_neg (by omega)] at g2
            have hz := HX.out i k
            rw [← HXX.out] at hz
            obtain ⟨hz0, hz1⟩ := hz
            obtain ⟨q, hq⟩ : ∃ q : Int, ownK X i k = q := ⟨_, rfl⟩
            have HQ := Lib.hid hq
            have hq2 : X i k % 5 - 1 = q := hq
            clear hq
            generalize X i k = Z at *
            have hset := fun v (hv : v = (someB (ownK X) i k || decide (0 ≤ ownK X i k))) => HI.out.set hsbl hv
            rw [HQ.out] at hset
            obtain ⟨sv, hsv⟩ : ∃ sv : Bool, someB (ownK X) i k = sv := ⟨_, rfl⟩
            rw [hsv] at g2 hset
            have HSET := Lib.hid hset
            clear hset hsv
            go_upto_region 12 with fail
            go_cut [] (fun wx => OwnIn w6 wx sb n i (k + 1) k k (ownK X) (ownM X u) u13 u14)
            case first =>
              by_cases hq0 : 0 ≤ q
              · rcases sv with _ | _
                · go_wp2_with fail
                  go_meet
                  exact HSET.out _ (by simp [hq0])
                · go_wp2_with fail
                  go_meet
                  exact HSET.out _ (by simp)
              · rcases sv with _ | _
                · go_wp2_with fail
                  go_meet
                  exact HSET.out _ (by simp [hq0])
                · go_wp2_with fail
                  go_meet
                  exact HSET.out _ (by simp)
            case rest =>
              have hq3 : q ≤ 3 := by omega
              have hq4 : -1 ≤ q := by omega
              have HC := Lib.hid hcut
              have hbase : w6.heap.size ≤ wc.heap.size := hcut.but.size
              clear hcut g1 g2 g3 hz0 hz1 hq2
              by_cases hq0 : 0 ≤ q
              · have hM : ownM X u i k = 3 * q + u := by unfold ownM; rw [HQ.out, if_pos hq0]
                have HM := Lib.hid hM
                clear hM
                go_wp2_with (first
                  | (at_builtin; refine push_I rfl (.tmp 62) (.tmp 64) rfl w6.heap.size _ (rowF (ownK X i) k) k (rowF_len _ _).symm rfl ((HC.out.alloc _).row) _ _ q rfl (Blk.new _ _ _) (by omega) (Nat.le_trans hbase (bl_alloc (Below.refl _ _) _).size) ?_; intro p1 cap1 w7 h71 h72 h73 h74; rw [← HQ.out] at h71; have HC7 := Lib.hid ((HC.out.alloc _).pushRow hsbl h71 h72 h73))
                  | (at_builtin; refine push_I rfl (.tmp 73) (.tmp 75) rfl w6.heap.size _ (rowF (ownM X u i) k) k (rowF_len _ _).symm rfl ((HC7.out.alloc _).nxt) _ _ (3 * q + u) rfl (Blk.new _ _ _) (by omega) (Nat.le_trans HC7.out.but.size (bl_alloc (Below.refl _ _) _).size) ?_; intro p2 cap2 w8 h81 h82 h83 h84; rw [← HM.out] at h81; have HC8 := Lib.hid ((HC7.out.alloc _).pushNxt hsbl h81 h82 h83)))
                go_roundw
                case rel => exact ⟨k + 1, by omega, by go_num, HC8.out⟩
                case measure => simp [intOf]; omega
              · have hM : ownM X u i k = q := by unfold ownM; rw [HQ.out, if_neg hq0]
                have HM := Lib.hid hM
                clear hM
                go_wp2_with (first
                  | (at_builtin; refine push_I rfl (.tmp 62) (.tmp 64) rfl w6.heap.size _ (rowF (ownK X i) k) k (rowF_len _ _).symm rfl ((HC.out.alloc _).row) _ _ q rfl (Blk.new _ _ _) (by omega) (Nat.le_trans hbase (bl_alloc (Below.refl _ _) _).size) ?_; intro p1 cap1 w7 h71 h72 h73 h74; rw [← HQ.out] at h71; have HC7 := Lib.hid ((HC.out.alloc _).pushRow hsbl h71 h72 h73))
                  | (at_builtin; refine push_I rfl (.tmp 73) (.tmp 75) rfl w6.heap.size _ (rowF (ownM X u i) k) k (rowF_len _ _).symm rfl ((HC7.out.alloc _).nxt) _ _ q rfl (Blk.new _ _ _) (by omega) (Nat.le_trans HC7.out.but.size (bl_alloc (Below.refl _ _) _).size) ?_; intro p2 cap2 w8 h81 h82 h83 h84; rw [← HM.out] at h81; have HC8 := Lib.hid ((HC7.out.alloc _).pushNxt hsbl h81 h82 h83)))
                go_roundw
                case rel => exact ⟨k + 1, by omega, by go_num, HC8.out⟩
                case measure => simp [intOf]; omega
          · obtain rfl : n = k := by omega
            obtain ⟨a13, c13, e13, _⟩ := owns_slice HI.out.row
            obtain ⟨a14, c14, e14, _⟩ := owns_slice HI.out.nxt
            have HIN := Lib.hid (HO.out.inner HB6.out HI.out.but)
            subst e13
            subst e14
            have hkp : u9.ownBlock = none ∨ u9.ownBlock ≠ u8.ownBlock := by
              rcases h9 : u9.ownBlock with _ | b9
              · exact .inl rfl
              · exact .inr fun e => HO.out.ne b9 e.symm h9
            have hbs : sb ≤ wr.heap.size := Nat.le_trans (Nat.le_of_lt hsbl) HI.out.but.size
            go_wp2_with (first
              | (at_builtin; refine push_R rfl (.tmp 78) (.tmp 80) rfl sb _ r8 i HO.out.g8.1.symm rfl (owns_below HIN.out.1 (bl_alloc (Below.refl _ _) _)) _ _ (a13, n, c13) rfl (Blk.new _ _ _) (by omega) (Nat.le_trans hbs (bl_alloc (Below.refl _ _) _).size) ?_; intro p1 cap1 w7 h71 h72 h73 h74)
              | (at_builtin; refine push_R rfl (.tmp 82) (.tmp 84) rfl sb _ r9 i HO.out.g9.1.symm rfl (owns_below ((owns_below HIN.out.2 (bl_alloc (Below.refl _ _) _)).kept h72 hkp) (bl_alloc (Below.refl _ _) _)) _ _ (a14, n, c14) rfl (Blk.new _ _ _) (by omega) (Nat.le_trans (h71.lt p1 rfl).1 (Nat.le_of_lt (Nat.lt_of_lt_of_le h74 (bl_alloc (Below.refl _ _) _).size))) ?_; intro p2 cap2 w8 h81 h82 h83 h84))
            have hw1 : Below w.heap.size w wr := (bl_trans hbl HB6.out).trans (HI.out.but.below (B := w.heap.size) (by rw [← HSB.out]; omega) (by rw [← HSB.out]; omega))
            have hw2 := (bl_alloc hw1 (.cells #[.slice a13 n c13] 29)).grown h72 (Nat.le_trans hw1.size (bl_alloc (Below.refl _ _) _).size) (fun j hj => by rw [← HSB.out]; exact (HO.out.o8.lt j hj).1)
            have hw3 := (bl_alloc hw2 (.cells #[.slice a14 n c14] 29)).grown h82 (Nat.le_trans hw2.size (bl_alloc (Below.refl _ _) _).size) (fun j hj => by rw [← HSB.out]; exact (HO.out.o9.lt j hj).1)
            have HW3 := Lib.hid hw3
            clear hw1 hw2 hw3
            go_roundw
            case rel => exact ⟨i + 1, _, _, by omega, by go_num, HO.out.next HB6.out HI.out rfl rfl h71 h72 h73 h81 h82 h83, HW3.out⟩
            case measure => simp [intOf]; omega
    · obtain rfl : m = i := by omega
      obtain ⟨a8, c8, e8, _⟩ := owns_slice HO.out.o8
      obtain ⟨a9, c9, e9, _⟩ := owns_slice HO.out.o9
      subst e8
      subst e9
      have HR8 := Lib.hid (HO.out.g8.rows HO.out.o8 hn2)
      have HR9 := Lib.hid (HO.out.g9.rows HO.out.o9 hn2)
      obtain ⟨kk, hkk⟩ : ∃ kk : Nat, (if m = 0 then 0 else n) = kk := ⟨_, rfl⟩
      obtain ⟨qq, hqq⟩ : ∃ qq : Nat, kk * kk = qq := ⟨_, rfl⟩
      have HKK := Lib.hid (And.intro hkk hqq)
      clear hkk hqq
      have HSH : Hid (shL (otab (ownK X) m n) kk = shL (otab (ownM X u) m n) kk) := by
        have h := HKK.out.1
        by_cases e : m = 0
        · rw [if_pos e] at h
          subst h
          simp [Hid, shL]
        · rw [if_neg e] at h
          rw [← h]
          exact shL_alike (own_alike (X := X) hu0).1 (own_alike (X := X) hu0).2
      have HK1 : Hid (∀ i a, -1 ≤ ownK X i a) := fun i a => by unfold ownK; omega
      have HK2 : Hid (∀ i a, -1 ≤ ownM X u i a) := fun i a => by have := HK1.out i a; unfold ownM; split <;> omega
      have HBITS := Lib.hid HO.out.bits
      clear HO
      go_wp2_with fail
      refine (shares_any a8 m c8 r8 (otab (ownK X) m n) _ (by simp [otab]) (by omega) HR8.out).mono ?_
      intro e1 w1 hp1
      obtain ⟨a1, c1, rfl, hr1, hb1⟩ := own_ans HKK.out.1 HKK.out.2 hm40 hn2 HK1.out hp1
      have HRD1 := Lib.hid hr1
      have HB1 := Lib.hid hb1
      clear hp1 hr1 hb1
      go_wp2_with fail
      refine (shares_any a9 m c9 r9 (otab (ownM X u) m n) _ (by simp [otab]) (by omega) (HR9.out.bl HB1.out)).mono ?_
      intro e2 w2 hp2
      obtain ⟨a2, c2, rfl, hr2, hb2⟩ := own_ans HKK.out.1 HKK.out.2 hm40 hn2 HK2.out hp2
      have hlq : (shL (otab (ownK X) m n) kk).length = qq := by rw [← HKK.out.2]; simp [shL]
      have hqle : qq ≤ 576 := by
        rw [← HKK.out.2, ← HKK.out.1]
        split
        · omega
        · exact Nat.mul_le_mul hn2 hn2
      rw [← HSH.out] at hr2
      have HE := Lib.hid ((eqFr_any a1 a2 qq qq c1 c2 (shL (otab (ownK X) m n) kk) (shL (otab (ownK X) m n) kk) w2 hlq hlq (by omega) (by omega) (HRD1.out.bl hb2) hr2).mono fun e w' (h : e = .returned (.bool (decide (shL (otab (ownK X) m n) kk = shL (otab (ownK X) m n) kk))) ∧ ∃ n, w' = w2.drewN n) => (⟨by rw [h.1, decide_eq_true rfl], h.2⟩ : e = .returned (.bool true) ∧ ∃ n, w' = w2.drewN n))
      have HRD := Lib.hid (HRD1.out.bl hb2)
      have HB2 := Lib.hid (bl_trans HB1.out hb2)
      have HLQ := Lib.hid hlq
      clear hp2 hr2 hb2 hlq HRD1 HB1
      by_cases hm0 : m = 0
      · have hqq0 : qq = 0 := by rw [← HKK.out.2, ← HKK.out.1, if_pos hm0]
        subst hqq0
        have HBL := Lib.hid (bl_trans hbl HB2.out)
        go_wp2_with (first
          | (go_at_call 27; refine HE.out.mono ?_; rintro e w3 ⟨rfl, n3, rfl⟩)
          | (go_at_call 14; refine (works_any _).mono ?_; rintro e w5 ⟨rfl, hb5⟩))
        go_ret
        exact ⟨rfl, bl_trans (bl_drewN HBL.out n3) hb5⟩
      · have hk0 : n = kk := by rw [← HKK.out.1, if_neg hm0]
        subst hk0
        have hqq := HKK.out.2
        have hw1 := wrap_nat ((n : Int) * (n : Int)) qq (by rw [← hqq]; simp) (by omega)
        have hqi : (n : Int) * (n : Int) = (qq : Int) := by rw [← hqq]; simp
        have HBL := Lib.hid (bl_trans hbl HB2.out)
        have HBT := Lib.hid (HBITS.out.below HB2.out)
        clear hqq
        have hmq : ((m : Int) == 0) = false := by simp; omega
        go_wp2_with (first
          | (go_at_call 27; refine HE.out.mono ?_; rintro e w3 ⟨rfl, n3, rfl⟩))
        obtain ⟨w4, hw4⟩ : ∃ w4, w4 = w2.drewN n3 := ⟨_, rfl⟩
        have HR4 := Lib.hid (show Rd w4 a1 (fl encFr (shL (otab (ownK X) m n) n)) by rw [hw4]; exact HRD.out.drewN n3)
        have HB4 := Lib.hid (show Below w.heap.size w w4 by rw [hw4]; exact bl_drewN HBL.out n3)
        have HT4 := Lib.hid (show Blk w4 sb (ofF n (bitC (someB (ownK X) m))) 4 by rw [hw4]; exact HBT.out)
        rw [← hw4]
        clear hw4
        have HM0 := Lib.hid hm0
        clear hm0
        clear HE HRD HB2 HBL HBT HBITS HSH HR8 HR9 hout hbl
        go_loopw [125, 21, 22] (fun x _ _ wr => ∃ j : Nat, j ≤ n ∧ x = .int .i64 j ∧ Below w4.heap.size w4 wr) (fun x _ _ _ => n - (intOf x).toNat)
        case atStart => exact ⟨0, by omega, rfl, Below.refl _ _⟩
        case round =>
          obtain ⟨j, hj, rfl, hbj⟩ := hrel
          by_cases hjn : j < n
          · obtain ⟨hlt, hN1, hD1⟩ := shL_at (otab (ownK X) m n) hjn hjn
            obtain ⟨b1, o1, rfl, hb1l, hfr⟩ := rdFr (HR4.out.bl hbj) (by rw [HLQ.out]; omega)
            obtain ⟨G0, G1⟩ := hfr (j * n + j) (by rw [HLQ.out, ← HKK.out.2]; exact hlt)
            have hbit := (HT4.out.below hbj).getF j hjn
            rw [bitC] at hbit
            rw [hN1] at G0
            rw [hD1] at G1
            rw [share_own _ hjn] at G0 G1
            have hsl : sb < wr.heap.size := (HT4.out.below hbj).lt
            obtain ⟨t, ht⟩ : ∃ t, j * n = t := ⟨_, rfl⟩
            rw [ht] at G0 G1 hlt
            have hw5 := wrap_nat ((j : Int) * (n : Int)) t (by rw [← ht]; simp) (by omega)
            have hti : (j : Int) * (n : Int) = (t : Int) := by rw [← ht]; simp
            have htq : t + j < qq := by rw [← HKK.out.2]; exact hlt
            clear hfr hN1 hD1 hlt
            obtain ⟨bv, hbv⟩ : ∃ bv, someB (ownK X) m j = bv := ⟨_, rfl⟩
            rw [hbv] at G0 G1 hbit
            obtain ⟨z, hz⟩ : ∃ z : Int, (if bv = true then ((1 : Int), (1 : Int)) else (0, 1)).1 = z := ⟨_, rfl⟩
            have hz1 : (if bv = true then ((1 : Int), (1 : Int)) else (0, 1)).2 = 1 := by split <;> rfl
            rw [hz] at G0
            rw [hz1] at G1
            have HZ := Lib.hid hz
            clear hbv hz hz1
            obtain ⟨wo, hwo⟩ : ∃ wo : World, wo = wr := ⟨_, rfl⟩
            rw [← hwo] at G0 G1 hbit hsl hb1l hbj ⊢
            clear hwo
            go_upto_if 132 with fail
            go_cut [22] (fun s wx => ∃ x, s = .pointer (some ⟨x, 0, none⟩) ∧ wo.heap.size ≤ x ∧ Blk wx x #[.int .i64 (if bv = true then ((1 : Int), (1 : Int)) else (0, 1)).1, .int .i64 1] 40 ∧ Below wo.heap.size wo wx)
            case first =>
              have hN0 := Blk.new wo #[.int .i64 0, .int .i64 1] 40
              rcases bv with _ | _
              · go_wp2_with fail
                go_meet
                exact ⟨_, rfl, Nat.le_refl _, hN0, bl_alloc (Below.refl _ _) _⟩
              · go_wp2_with fail
                go_meet
                exact ⟨_, rfl, Nat.le_refl _, Blk.new wo #[.int .i64 1, .int .i64 1] 40, bl_alloc (Below.refl _ _) _⟩
            case rest =>
              obtain ⟨x, rfl, hx0, hx, hbx⟩ := hcut
              rw [HZ.out] at hx
              have G0' := (hbx.cell (p := ⟨b1, o1 + (t + j) * 2, none⟩) hb1l).trans G0
              have G1' := (hbx.cell (p := ⟨b1, o1 + (t + j) * 2 + 1, none⟩) hb1l).trans G1
              have c0 : wc.cell? ⟨x, 0, none⟩ = some (.int .i64 z) := hx.cell 0
              have c1' : wc.cell? ⟨x, 1, none⟩ = some (.int .i64 1) := hx.cell 1
              have hg := guardFr
              have hq := neqFr z z 1 1
              simp only [decide_true, Bool.and_self, Bool.not_true] at hq
              have HBX := Lib.hid (bl_trans hbj hbx)
              clear hx hbx hbj G0 G1 hbit hsl
              go_upto_region 34 with fail
              go_quiet (fail)
              obtain ⟨w6, hw6⟩ : ∃ w6, w6 = wc.drewN nq := ⟨_, rfl⟩
              have HB6 : Hid (Below w4.heap.size w4 w6) := by rw [hw6]; exact bl_drewN HBX.out nq
              rw [← hw6]
              clear hw6 G0' G1' c0 c1' hq HBX
              go_wp2_with fail
              go_loopw [145, 23, 24, 25] (fun x _ _ _ wr => ∃ k : Nat, k ≤ n ∧ x = .int .i64 k ∧ Below w4.heap.size w4 wr) (fun x _ _ _ _ => n - (intOf x).toNat)
              case atStart => exact ⟨0, by omega, rfl, HB6.out⟩
              case round =>
                obtain ⟨k, hk, rfl, hbk⟩ := hrel
                by_cases hkn : k < n
                · obtain ⟨p, q, hpq, hp1, hp2, hp3, hp4⟩ := share_bd (otab (ownK X) m n) (a := j) (b := k) (by simp [otab]; omega)
                  obtain ⟨hlt1, hN1, hD1⟩ := shL_at (otab (ownK X) m n) hjn hkn
                  obtain ⟨hlt2, hN2, hD2⟩ := shL_at (otab (ownK X) m n) hkn hjn
                  rw [shareF_comm _ k j] at hN2 hD2
                  rw [hpq] at hN1 hD1 hN2 hD2
                  obtain ⟨b3, o3, hbo, hb3l, hfr⟩ := rdFr (HR4.out.bl hbk) (by rw [HLQ.out]; omega)
                  obtain ⟨G0, G1⟩ := hfr (j * n + k) (by rw [HLQ.out, ← HKK.out.2]; exact hlt1)
                  obtain ⟨G2, G3⟩ := hfr (k * n + j) (by rw [HLQ.out, ← HKK.out.2]; exact hlt2)
                  rw [hN1] at G0
                  rw [hD1] at G1
                  rw [hN2] at G2
                  rw [hD2] at G3
                  simp at hbo
                  obtain ⟨rfl, rfl⟩ := hbo
                  rw [ht] at G0 G1 hlt1
                  obtain ⟨t2, ht2⟩ : ∃ t, k * n = t := ⟨_, rfl⟩
                  rw [ht2] at G2 G3 hlt2
                  rw [HKK.out.2] at hlt1 hlt2
                  have w7 := wrap_nat ((k : Int) * (n : Int)) t2 (by rw [← ht2]; simp) (by omega)
                  obtain ⟨i1, hi1⟩ : ∃ i, t + k = i := ⟨_, rfl⟩
                  obtain ⟨i2, hi2⟩ : ∃ i, t2 + j = i := ⟨_, rfl⟩
                  rw [hi1] at G0 G1 hlt1
                  rw [hi2] at G2 G3 hlt2
                  have w8 := wrap_nat ((t : Int) + (k : Int)) i1 (by omega) (by omega)
                  have w9 := wrap_nat ((t2 : Int) + (j : Int)) i2 (by omega) (by omega)
                  have d1 : decide ((p : Int) < 0) = false := by simp
                  have d2 : decide ((q : Int) < (p : Int)) = false := by simp; omega
                  have d3 : decide ((q : Int) < 1) = false := by simp; omega
                  have d4 : decide (40 < (q : Int)) = false := by simp; omega
                  have hg := guardFr
                  have hq := neqFr (p : Int) p q q
                  simp only [decide_true, Bool.and_self, Bool.not_true] at hq
                  have HCOP := Lib.hid hp4
                  have HPQ := Lib.hid hpq
                  clear hfr hN1 hD1 hN2 hD2 ht2 hp4 hpq hi1 hi2
                  go_upto_region 40 with fail
                  have hBn := Blk.new wr #[.int .i64 p, .int .i64 q] 40
                  have c0 : (wr.alloc (.cells #[.int .i64 p, .int .i64 q] 40)).cell? ⟨wr.heap.size, 0, none⟩ = some (.int .i64 p) := hBn.cell 0
                  have c1' : (wr.alloc (.cells #[.int .i64 p, .int .i64 q] 40)).cell? ⟨wr.heap.size, 1, none⟩ = some (.int .i64 q) := hBn.cell 1
                  have hba := bl_alloc (Below.refl wr.heap.size wr) (.cells #[.int .i64 p, .int .i64 q] 40)
                  have G2' := (hba.cell (p := ⟨b1, o1 + i2 * 2, none⟩) hb3l).trans G2
                  have G3' := (hba.cell (p := ⟨b1, o1 + i2 * 2 + 1, none⟩) hb3l).trans G3
                  have hbk2 := bl_alloc hbk (.cells #[.int .i64 p, .int .i64 q] 40)
                  obtain ⟨x, hx⟩ : ∃ x, x = wr.heap.size := ⟨_, rfl⟩
                  obtain ⟨w7, hw7⟩ : ∃ w7, w7 = wr.alloc (.cells #[.int .i64 p, .int .i64 q] 40) := ⟨_, rfl⟩
                  rw [← hw7, ← hx] at c0 c1' hBn
                  rw [← hw7] at G2' G3' hbk2 ⊢
                  rw [← hx]
                  have HBN := Lib.hid hBn
                  have HBK2 := Lib.hid hbk2
                  clear hx hw7 hba G0 G1 G2 G3 hbk hBn hbk2
                  go_quiet (fail)
                  obtain ⟨w8, hw8⟩ : ∃ w8, w8 = w7.drewN nq := ⟨_, rfl⟩
                  have c2 : w8.cell? ⟨x, 0, none⟩ = some (.int .i64 p) := by rw [hw8]; exact c0
                  have c3 : w8.cell? ⟨x, 1, none⟩ = some (.int .i64 q) := by rw [hw8]; exact c1'
                  have HB8 : Hid (Below w4.heap.size w4 w8) := by rw [hw8]; exact bl_drewN HBK2.out nq
                  rw [← hw8]
                  clear hw8 c0 c1' hq G2' G3'
                  go_wp2_with fail
                  go_loopw [25] (fun s wr => ∃ r : Nat, 2 ≤ r ∧ r ≤ q + 1 + 1 ∧ s = .int .i64 r ∧ wr = w8) (fun s _ => q + 2 - (intOf s).toNat)
                  case atStart => exact ⟨2, by omega, by omega, rfl, rfl⟩
                  case round =>
                    obtain ⟨r, hr, hr2, rfl, rfl⟩ := hrel
                    by_cases hrq : r ≤ q
                    · have hcop := cop_not HCOP.out hr
                      obtain ⟨p1, hp1'⟩ : ∃ x, p % r = x := ⟨_, rfl⟩
                      obtain ⟨q1, hq1'⟩ : ∃ x, q % r = x := ⟨_, rfl⟩
                      have r1 : (p : Int).tmod (r : Int) = (p1 : Int) := by rw [← hp1']; rfl
                      have r2 : (q : Int).tmod (r : Int) = (q1 : Int) := by rw [← hq1']; rfl
                      have r3 : ¬ (r = 0) := by omega
                      rw [hp1', hq1'] at hcop
                      have r4 : (p : Int) % (r : Int) = (p1 : Int) := by rw [← hp1']; rfl
                      have r5 : (q : Int) % (r : Int) = (q1 : Int) := by rw [← hq1']; rfl
                      have r6 : p1 ≤ p := by rw [← hp1']; exact Nat.mod_le _ _
                      have r7 : q1 ≤ q := by rw [← hq1']; exact Nat.mod_le _ _
                      clear hp1' hq1'
                      by_cases hz : p1 = 0
                      · have hq0 : ¬ (q1 = 0) := fun h => hcop ⟨hz, h⟩
                        have t1 : ((p1 : Int) == 0) = true := by simp; omega
                        have t2 : ((q1 : Int) == 0) = false := by simp; omega
                        clear hcop
                        go_wp2_with fail
                        go_roundw
                        case rel => exact ⟨r + 1, by omega, by omega, by go_num, by trivial⟩
                        case measure => simp [intOf]; omega
                      · have t1 : ((p1 : Int) == 0) = false := by simp; omega
                        clear hcop
                        go_wp2_with fail
                        go_roundw
                        case rel => exact ⟨r + 1, by omega, by omega, by go_num, by trivial⟩
                        case measure => simp [intOf]; omega
                    · go_wp2_with fail
                      go_roundw
                      case rel => exact ⟨k + 1, by omega, by go_num, HB8.out⟩
                      case measure => simp [intOf]; omega
                · go_wp2_with fail
                  go_roundw
                  case rel => exact ⟨j + 1, by omega, by go_num, hbk⟩
                  case measure => simp [intOf]; omega
          · go_wp2_with (go_at_call 14; refine (works_any _).mono ?_; rintro e w5 ⟨rfl, hb5⟩)
            go_ret
            exact ⟨rfl, bl_trans (HB4.out.trans (hbj.mono HB4.out.size)) hb5⟩
end Go.Proofs.YtahgffjkkdbjeaaDoor
