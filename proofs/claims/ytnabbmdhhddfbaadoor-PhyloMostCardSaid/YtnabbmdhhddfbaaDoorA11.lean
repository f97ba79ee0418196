/- phylo.groups: the walk. -/
import Derived.Test.YtnabbmdhhddfbaaDoorA14
namespace Go.Proofs.YtnabbmdhhddfbaaDoor
open Go.RowKit Go.Shelf Go.Sort
theorem bl_grown {a w w' : World} {row : Option Nat} (h : Below a.heap.size a w) (hg : w.grownBy w' row) (hr : ∀ k, row = some k → a.heap.size ≤ k) : Below a.heap.size a w' :=
  ⟨hg.os.trans h.os, hg.tape.trans h.tape, hg.output.trans h.output, Nat.le_trans h.size hg.size, fun k hk => (hg.block k (by have := h.size; omega) (fun e => by have := hr k e.symm; omega)).trans (h.block k hk)⟩
/-- The groups in order, each once. -/
def grpsU (L : Nat) (l : List Nat) : List U64 := cmpU (srtU (toU (grpL L l l.length)).toArray)
theorem grpsU_nil {L : Nat} {l : List Nat} (h : grpL L l l.length = []) : grpsU L l = [] := by
  unfold grpsU
  rw [h]
  have h1 := cmpU_le (srtU (toU []).toArray)
  rw [srtU_size] at h1
  exact List.eq_nil_of_length_eq_zero (Nat.le_zero.1 h1)
theorem grpL_lt {L : Nat} {l : List Nat} (hF : ∀ i, i < l.length → vA l i < 18446744073709551616) (k : Nat) : ∀ x, x ∈ grpL L l k → x < 18446744073709551616 := by
  intro x hx
  have h1 : x ∈ l := List.mem_of_mem_take (List.mem_filter.1 hx).1
  obtain ⟨i, hi, rfl⟩ := List.mem_iff_getElem.1 h1
  have := hF i hi
  rwa [vA_get hi] at this
set_option maxHeartbeats 1000000 in
theorem compact_none (p : Option Addr) (cap : Nat) (w : World) :
    Calls Tryd.prog 65 #[.slice p 0 cap] w fun e w' => e = .returned (.slice p 0 cap) ∧ w' = w := by
  go_enter Tryd.func65, Tryd.ntmps65
  go_wp2_with fail
  go_ret
  exact ⟨rfl, rfl⟩
set_option maxRecDepth 100000 in
set_option maxHeartbeats 2000000 in
theorem groups_any (L : Nat) (a : Option Addr) (N c : Nat) (l : List Nat) (w : World) (hl : l.length = N) (hN : N ≤ 64) (hL : L ≤ 32) (hA : Rd w a (fl encV l)) (hF : ∀ i, i < l.length → vA l i < 18446744073709551616) :
    Calls Tryd.prog 36 #[.agg #[.int .i64 L, .slice a N c]] w fun e w' => ∃ v', e = .returned v' ∧ w'.ownsRow w.heap.size 61 1 v' (grpsU L l).length ((grpsU L l).map encU) ∧ Below w.heap.size w w' := by
  have HL := Lib.hid hl
  have HF := Lib.hid hF
  have HW := Lib.hid (wrap_all hL)
  have hB := Blk.new w #[.int .i64 L, .slice a N c] 24
  have hb0 : Below w.heap.size w (w.alloc (.cells #[.int .i64 L, .slice a N c] 24)) := bl_alloc (Below.refl _ _) _
  have e0 := hB.cell 0
  have e1 := hB.cell 1
  obtain ⟨X, hX⟩ : ∃ X, X = w.heap.size := ⟨_, rfl⟩
  obtain ⟨w1, hw1⟩ : ∃ w1, w1 = w.alloc (.cells #[.int .i64 L, .slice a N c] 24) := ⟨_, rfl⟩
  rw [← hw1] at e0 e1 hb0 hB
  have HA1 := Lib.hid (hA.bl hb0)
  rw [← hX] at e0 e1 hB
  have e0' : w1.cell? ⟨X, 0, none⟩ = some (.int .i64 L) := e0
  have e1' : w1.cell? ⟨X, 1, none⟩ = some (.slice a N c) := e1
  have HBX := Lib.hid hB
  have HB0 := Lib.hid hb0
  clear hB e0 e1 hb0 hl hF hA
  go_enter Tryd.func36, Tryd.ntmps36
  go_upto_region 1 with fail
  rw [← hw1, ← hX]
  clear hw1
  have HXS := Lib.hid hX
  clear hX
  go_upto_region 2 with fail
  rw [HW.out]
  go_wp2_with fail
  go_loopw [15, 4] (fun x v wr => ∃ k : Nat, k ≤ N ∧ x = .int .i64 k ∧ wr.ownsRow w1.heap.size 61 1 v (grpL L l k).length (fl encV (grpL L l k)) ∧ Below w1.heap.size w1 wr) (fun x _ _ => N - (intOf x).toNat)
  case atStart => exact ⟨0, by omega, rfl, World.ownsRow_nil _ _ _ _, Below.refl _ _⟩
  case round =>
    obtain ⟨k, hk, rfl, how, hbw⟩ := hrel
    by_cases hlt : k < N
    · obtain ⟨b, o, rfl, hb, hc⟩ := rdV (HA1.out.bl hbw) (by rw [HL.out]; omega)
      have hkl : k < l.length := by rw [HL.out]; exact hlt
      have G1 := hc k hkl
      have hxb := HF.out k hkl
      have HSN := Lib.hid (grpL_snoc L l k hkl)
      have HLB := Lib.hid (lowOff_bits hxb)
      have hdef : Hid (grpB L l (vA l k) = ((!decide (lowOff (vA l k) = 0) && !decide (vA l k = 2 ^ L - 1)) && !(l.any fun o => !fitB (vA l k) o))) := rfl
      have HOW := Lib.hid how
      have HBW := Lib.hid hbw
      have hBXr := HBX.out.below hbw
      have f0 : wr.cell? ⟨X, 0, none⟩ = some (.int .i64 L) := hBXr.cell 0
      have f1 : wr.cell? ⟨X, 1, none⟩ = some (.slice (some ⟨b, o, none⟩) N c) := hBXr.cell 1
      clear hc hkl how hbw hBXr e0' e1'
      generalize vA l k = z at *
      have HBz := Lib.hid (Blk.new wr #[.int .u64 z] 61)
      have HRz := Lib.hid ((HA1.out.bl HBW.out).bl (bl_alloc (Below.refl wr.heap.size wr) (.cells #[.int .u64 z] 61)))
      have HC := Lib.hid (containsF_any 62 (enters_of Tryd.func62 (by kernel_rfl) rfl) #[.pointer (some ⟨wr.heap.size, 0, none⟩)] (fun o => !fitB z o) (some ⟨b, o, none⟩) N c l (wr.alloc (.cells #[.int .u64 z] 61)) HL.out (by omega) HRz.out (fun i hi W hW => (grp1_any z (vA l i) wr.heap.size W hxb (HF.out i (by rw [HL.out]; exact hi)) (HBz.out.below hW)).mono fun e w' hh => ⟨hh.1, by rw [hh.2]; exact Below.refl _ _⟩))
      have HBN := Lib.hid (bl_alloc HBW.out (.cells #[.int .u64 z] 61))
      have HON := Lib.hid (HOW.out.alloc (.cells #[.int .u64 z] 61))
      by_cases q1 : lowOff z = 0
      · have hg : Hid (grpL L l (k + 1) = grpL L l k) := by show _ = _; rw [HSN.out, hdef.out, decide_eq_true q1]; simp
        have h0 : bits .and .u64 (z : Int) (IntKind.u64.wrap ((z : Int) - 1)) = 0 := by rw [HLB.out, q1]; rfl
        clear q1
        go_wp2_with fail
        go_roundw
        case rel => exact ⟨k + 1, by omega, by go_num, by rw [hg.out]; exact HON.out, HBN.out⟩
        case measure => simp [intOf]; omega
      · have hq1 := decide_eq_false q1
        have h0 : ¬ (bits .and .u64 (z : Int) (IntKind.u64.wrap ((z : Int) - 1)) = 0) := by rw [HLB.out]; omega
        have HQ1 := Lib.hid hq1
        clear q1 hq1
        by_cases q2 : z = 2 ^ L - 1
        · have hg : Hid (grpL L l (k + 1) = grpL L l k) := by show _ = _; rw [HSN.out, hdef.out, HQ1.out, decide_eq_true q2]; simp
          obtain ⟨al, hal⟩ : ∃ al, 2 ^ L - 1 = al := ⟨_, rfl⟩
          rw [hal] at q2
          rw [hal]
          clear hal hdef
          subst q2
          go_wp2_with fail
          go_roundw
          case rel => exact ⟨k + 1, by omega, by go_num, by rw [hg.out]; exact HON.out, HBN.out⟩
          case measure => simp [intOf]; omega
        · obtain ⟨al, hal⟩ : ∃ al, 2 ^ L - 1 = al := ⟨_, rfl⟩
          rw [hal] at q2 hdef
          rw [hal]
          have h1 : ¬ ((z : Int) = (al : Int)) := by omega
          have hq2 := Lib.hid (decide_eq_false q2)
          have b1 : (bits .and .u64 (z : Int) (IntKind.u64.wrap ((z : Int) - 1)) != 0) = true := bne_iff_ne.2 h0
          have b2 : ((z : Int) != (al : Int)) = true := bne_iff_ne.2 h1
          have f1' : (wr.alloc (.cells #[.int .u64 z] 61)).cell? ⟨X, 1, none⟩ = some (.slice (some ⟨b, o, none⟩) N c) := (HBX.out.below HBN.out).cell 1
          have fz : (wr.alloc (.cells #[.int .u64 z] 61)).cell? ⟨wr.heap.size, 0, none⟩ = some (.int .u64 z) := HBz.out.cell 0
          clear h0 h1
          clear hal q2
          cases hs : l.any (fun o => !fitB z o) with
          | true =>
            have hg : Hid (grpL L l (k + 1) = grpL L l k) := by show _ = _; rw [HSN.out, hdef.out, hs]; simp
            rw [hs] at HC
            clear hs
            go_wp2_with fail
            refine (HC.out).mono ?_
            rintro e w' ⟨rfl, hw'⟩
            have HBM := bl_trans HBN.out hw'
            have HOM := owns_below HON.out hw'
            go_wp2_with fail
            go_roundw
            case rel => exact ⟨k + 1, by omega, by go_num, by rw [hg.out]; exact HOM, HBM⟩
            case measure => simp [intOf]; omega
          | false =>
            have hg : Hid (grpL L l (k + 1) = grpL L l k ++ [z]) := by show _ = _; rw [HSN.out, hdef.out, hs, HQ1.out, hq2.out]; simp
            have hlen : (grpL L l k).length < 8796093022208 := by
              have : (grpL L l k).length ≤ (l.take k).length := List.length_filter_le _ _
              rw [List.length_take] at this; omega
            rw [hs] at HC
            clear hs
            go_wp2_with fail
            refine (HC.out).mono ?_
            rintro e w' ⟨rfl, hw'⟩
            have HBM := Lib.hid (bl_trans HBN.out hw')
            have HOM := Lib.hid (owns_below HON.out hw')
            have fz' : w'.cell? ⟨wr.heap.size, 0, none⟩ = some (.int .u64 z) := (HBz.out.below hw').cell 0
            clear fz f1'
            have hbase : w1.heap.size ≤ (w'.alloc (.cells #[.int .u64 z] 61)).heap.size := (bl_alloc HBM.out _).size
            obtain ⟨n, hn⟩ : ∃ n, n = (grpL L l k).length := ⟨_, rfl⟩
            rw [← hn] at HOM hlen
            have HN := Lib.hid hn
            clear hn
            go_wp2_with (at_builtin; refine push_G rfl (.tmp 37) (.tmp 39) rfl w1.heap.size u4 (grpL L l k) n HN.out rfl (HOM.out.alloc _) _ _ z rfl (Blk.new _ _ _) hlen hbase ?_; intro g cap w8 h81 h82 h83 h84; rw [← hg.out] at h81; have H81 := Lib.hid h81; have H82 := Lib.hid h82; have H83 := Lib.hid h83; clear h81 h82 h83)
            have hlen2 : Hid ((grpL L l (k + 1)).length = n + 1) := by show _ = _; rw [hg.out, List.length_append, HN.out]; rfl
            have HB8 := Lib.hid (bl_grown (bl_alloc HBM.out (.cells #[.int .u64 z] 61)) H82.out (fun x e => (HOM.out.lt x e).1))
            go_roundw
            case rel => exact ⟨k + 1, by omega, by go_num, by rw [hlen2.out]; exact H81.out, HB8.out⟩
            case measure => simp [intOf]; omega
    · have e : k = N := by omega
      subst e
      have hlt' := grpL_lt (L := L) HF.out k
      have henc := toU_enc hlt'
      have hk0 : Hid (grpsU L l = cmpU (srtU (toU (grpL L l k)).toArray)) := by show _ = _; unfold grpsU; rw [HL.out]
      have hnil : Hid (grpL L l k = [] → grpsU L l = []) := fun h => grpsU_nil (by rw [HL.out]; exact h)
      have hle : (grpL L l k).length < 4611686018427387904 := by
        have : (grpL L l k).length ≤ (l.take k).length := List.length_filter_le _ _
        rw [List.length_take] at this; omega
      have hsz0 := HB0.out.size
      obtain ⟨A, cap, rfl, hAc⟩ := owns_slice how
      by_cases h0 : (grpL L l k).length = 0
      · have hz : Hid (grpsU L l = []) := hnil.out (List.eq_nil_of_length_eq_zero h0)
        have HOW := Lib.hid how
        rw [h0] at HOW ⊢
        clear hAc how h0 henc hlt'
        go_wp2_with fail
        refine (sort_none _ _ _ _).mono ?_
        rintro e w' ⟨rfl, rfl⟩
        go_wp2_with fail
        refine (compact_none _ _ _).mono ?_
        rintro e w' ⟨rfl, rfl⟩
        go_wp2_with fail
        go_ret
        refine ⟨_, rfl, ?_, bl_trans HB0.out hbw⟩
        rw [hz.out]
        have h3 := owns_mono HOW.out hsz0
        exact ⟨rfl, h3.2.imp (fun h => h) (fun ⟨g, cp, cur, a1, a2, a3, a4, a5, a6, a7⟩ => ⟨g, cp, cur, a1, a2, a3, a4, a5, a6, by simp⟩)⟩
      · obtain ⟨g, hg1, hg2, rfl⟩ := hAc.resolve_left h0
        obtain ⟨d, hd⟩ : ∃ d, (toU (grpL L l k)).toArray = d := ⟨_, rfl⟩
        have hds : (grpL L l k).length = d.size := by rw [← hd]; simp [toU]
        have hdl : toU (grpL L l k) = d.toList := by rw [← hd]
        rw [← henc, hdl, hds] at how
        rw [hd] at hk0
        rw [hds] at hle ⊢
        have HS := Lib.hid (sortRow_any d how hg2 hle)
        have HKK := hk0
        clear henc hlt' hAc h0 how hd hds hdl hnil
        have hle2 : d.size ≤ 9223372036854775807 := by omega
        go_wp2_with fail
        refine (HS.out).mono ?_
        rintro e w2 ⟨rfl, ho2, hb2, hg3⟩
        have HO2 := Lib.hid ho2
        have HB2 := Lib.hid (hb2 w1 hbw hg1)
        clear ho2 hb2
        have hss := srtU_size d
        obtain ⟨ds, hds⟩ : ∃ ds, srtU d = ds := ⟨_, rfl⟩
        rw [hds] at HO2 HKK hss
        rw [← hss] at HO2 hle2 ⊢
        have HC := Lib.hid (compactRow_any ds HO2.out hle2)
        clear hds hss hle
        go_wp2_with fail
        refine (HC.out).mono ?_
        rintro e w3 ⟨rfl, ho3, hb3⟩
        have HO3 := Lib.hid ho3
        have HB3 := Lib.hid (hb3 w1 HB2.out hg1)
        clear ho3 hb3
        go_wp2_with fail
        go_ret
        refine ⟨_, rfl, ?_, bl_trans HB0.out HB3.out⟩
        rw [HKK.out]
        exact owns_mono HO3.out hsz0
end Go.Proofs.YtnabbmdhhddfbaaDoor
