/- glotto.Shares at every input. -/
import Derived.Test.YtahgffjkkdbjeaaDoorP7
import Derived.Test.YtahgffjkkdbjeaaDoorWG
namespace Go.Proofs.YtahgffjkkdbjeaaDoor
open Go.RowKit
theorem anyLong_at (l : List Rw) (k : Nat) (h : k < l.length) : l[k] = (rA l k, rN l k, rC l k) := by simp [rA, rN, rC, h]
set_option maxHeartbeats 400000 in
theorem anyLong_idx (a : Option Addr) (n c : Nat) (l : List Rw) (w : World) (hn : l.length = n) (hm : n ≤ 1152921504606846976) (hA : Rd w a (fl encR l)) (hb0 : ∀ i, i < n → rN l i ≤ 1152921504606846976) :
    Calls Tryd.prog 91 #[.slice a n c, .func (.func 60) #[] #[]] w fun e w' => e = .returned (.int .i64 (idxF longR l)) ∧ Below w.heap.size w w' := by
  have HN := Lib.hid hn; clear hn
  have HB0 := Lib.hid hb0; clear hb0
  go_enter Tryd.func91, Tryd.ntmps91
  go_wp2
  go_loopw [8, 5] (fun x _ wr => ∃ k : Nat, k ≤ n ∧ x = .int .i64 k ∧ NoneBefore longR l k ∧ Below w.heap.size w wr) (fun x _ _ => n - (intOf x).toNat)
  case atStart => exact ⟨0, by omega, rfl, NoneBefore.zero _ _, Below.refl _ _⟩
  case round =>
    obtain ⟨k, hk, rfl, hnb, hbl⟩ := hrel
    by_cases hlt : k < n
    · obtain ⟨b, o, rfl, _, hc⟩ := rdR (hA.bl hbl) (by rw [HN.out]; omega)
      have G := hc k (by rw [HN.out]; omega)
      clear hc hA
      have hkl : Hid (k < l.length) := by rw [HN.out]; exact hlt
      have hat := Lib.hid (anyLong_at l k hkl.out)
      go_wp2_with fail
      refine (long_cl (rA l k) (rN l k) (rC l k) _ (HB0.out k hlt)).mono ?_
      rintro e w' ⟨rfl, hb2⟩
      have hlr : Hid (decide (24 < rN l k) = longR (rA l k, rN l k, rC l k)) := rfl
      rcases Bool.eq_false_or_eq_true (decide (24 < rN l k)) with hp | hp
      · have HP := Lib.hid hp
        rw [hp]
        clear hp
        go_wp2
        go_ret
        exact ⟨ret_i (by rw [hnb.found hkl.out (by rw [hat.out, ← hlr.out]; exact HP.out)]), bl_trans hbl hb2⟩
      · have HP := Lib.hid hp
        rw [hp]
        clear hp
        go_wp2
        go_roundw
        case rel => exact ⟨k + 1, by omega, by go_num, hnb.next hkl.out (by rw [hat.out, ← hlr.out]; exact HP.out), bl_trans hbl hb2⟩
        case measure => simp [intOf]; omega
    · go_wp2
      go_ret
      exact ⟨ret_i (by rw [hnb.none (by rw [HN.out]; omega)]), hbl⟩
set_option maxHeartbeats 400000 in
theorem anyLong_any (a : Option Addr) (n c : Nat) (l : List Rw) (w : World) (hn : l.length = n) (hm : n ≤ 1152921504606846976) (hA : Rd w a (fl encR l)) (hb0 : ∀ i, i < n → rN l i ≤ 1152921504606846976) :
    Calls Tryd.prog 59 #[.slice a n c, .func (.func 60) #[] #[]] w fun e w' => e = .returned (.bool (l.any longR)) ∧ Below w.heap.size w w' := by
  have HB0 := Lib.hid hb0; clear hb0
  go_enter Tryd.func59, Tryd.ntmps59
  go_wp2_with fail
  refine (anyLong_idx a n c l _ hn hm hA HB0.out).mono ?_
  rintro e w' ⟨rfl, hb⟩
  have hi := idxF_ge longR l
  rcases Bool.eq_false_or_eq_true (l.any longR) with hp | hp
  · have HP := Lib.hid hp
    rw [hp] at hi
    clear hp
    go_wp2
    go_ret
    exact ⟨ret_b (by rw [HP.out]), hb⟩
  · have HP := Lib.hid hp
    rw [hp] at hi
    clear hp
    go_wp2
    go_ret
    exact ⟨ret_b (by rw [HP.out]), hb⟩
/-- The fractions h 0 .. h (N - 1), in block g. -/
def FF (w : World) (base g cap N : Nat) (h : Nat → Fr) : Prop := w.ownsRow base 40 2 (.slice (some ⟨g, 0, none⟩) N cap) N (fl encFr ((List.range N).map h))
theorem FF.set {w : World} {base g cap N : Nat} {h : Nat → Fr} (hf : FF w base g cap N h) (p : Nat) (u v : Int) : FF ((w.setCell ⟨g, p * 2, none⟩ (.int .i64 u)).setCell ⟨g, p * 2 + 1, none⟩ (.int .i64 v)) base g cap N (updF h p (u, v)) := by
  unfold FF
  rw [map_updF]
  exact owns_setFr hf p u v
theorem FF.cell {w : World} {base g cap N : Nat} {h : Nat → Fr} (hf : FF w base g cap N h) (p : Nat) (hp : p < N) : (∃ u, w.cell? ⟨g, p * 2, none⟩ = some u) ∧ ∃ u, w.cell? ⟨g, p * 2 + 1, none⟩ = some u := ⟨owns_cell hf (p * 2) (by omega), owns_cell hf (p * 2 + 1) (by omega)⟩
theorem FF.congr {w : World} {base g cap N : Nat} {h h' : Nat → Fr} (hf : FF w base g cap N h) (e : ∀ p, p < N → h p = h' p) : FF w base g cap N h' := by
  unfold FF at *
  rw [show (List.range N).map h' = (List.range N).map h from List.map_congr_left fun p hp => (e p (by simpa using hp)).symm]
  exact hf
theorem FF.drewN {w : World} {base g cap N : Nat} {h : Nat → Fr} (hf : FF w base g cap N h) (n : Nat) : FF (w.drewN n) base g cap N h := hf
theorem shP_zero (L : List (List Int)) (n M : Nat) : (List.range M).map (shP L n 0 0) = List.replicate M (0, 0) := by
  rw [List.eq_replicate_iff]
  refine ⟨by simp, fun x hx => ?_⟩
  obtain ⟨k, _, rfl⟩ := List.mem_map.1 hx
  unfold shP
  generalize k / n = i
  generalize k % n = j
  exact if_neg (by omega)
theorem sh_set {w w0 : World} {g M n a c k1 k2 ln ld : Nat} {L : List (List Int)} (h1 : a * n + c = k1) (h2 : c * n + a = k2) (hF : shareF L a c = ((ln : Int), (ld : Int))) (ha : a < n) (hc : c ≤ a) (hf : FF w w0.heap.size g M M (shP L n a c)) (hg : w0.heap.size ≤ g) (hb : Below w0.heap.size w0 w) :
    FF (((((w.setCell ⟨g, k1 * 2, none⟩ (.int .i64 ln)).setCell ⟨g, k1 * 2 + 1, none⟩ (.int .i64 ld)).setCell ⟨g, k2 * 2, none⟩ (.int .i64 ln)).setCell ⟨g, k2 * 2 + 1, none⟩ (.int .i64 ld)).drew) w0.heap.size g M M (shP L n a (c + 1)) ∧ Below w0.heap.size w0 (((((w.setCell ⟨g, k1 * 2, none⟩ (.int .i64 ln)).setCell ⟨g, k1 * 2 + 1, none⟩ (.int .i64 ld)).setCell ⟨g, k2 * 2, none⟩ (.int .i64 ln)).setCell ⟨g, k2 * 2 + 1, none⟩ (.int .i64 ld)).drew) := by
  have h := FF.set (FF.set hf k1 ln ld) k2 ln ld
  refine ⟨FF.drewN (h.congr fun p _ => ?_) 1, bl_drewN (bl_set (bl_set (bl_set (bl_set hb _ _ _ _ hg) _ _ _ _ hg) _ _ _ _ hg) _ _ _ _ hg) 1⟩
  rw [← hF, ← h1, ← h2]
  exact shP_next L ha hc p
def ShPost (w : World) (L : List (List Int)) (e : Ending) (w' : World) : Prop :=
  Below w.heap.size w w' ∧ ((∃ k, sharesE L = .error k ∧ e = .returned (.tuple #[.slice none 0 0, .int .i64 k])) ∨
    ∃ (n : Nat) (v : Value), sharesE L = .ok n ∧ n ≤ 24 ∧ e = .returned (.tuple #[v, .int .i64 0]) ∧ (L = [] → n = 0 ∧ v = .slice none 0 0) ∧ w'.ownsRow w.heap.size 40 2 v (n * n) (fl encFr (shL L n)))
set_option maxRecDepth 100000 in
set_option maxHeartbeats 4000000 in
theorem shares_any (a : Option Addr) (N c : Nat) (rs : List Rw) (L : List (List Int)) (w : World) (hn : L.length = N) (hN : N ≤ 1152921504606846976) (hR : Rows w a rs L) :
    Calls Tryd.prog 26 #[.slice a N c] w (ShPost w L) := by
  have HR := Lib.hid hR
  have HN := Lib.hid hn
  have hlr := hR.len
  have hb0 : Hid (∀ i, i < N → rN rs i ≤ 1152921504606846976) := fun i hi => (hR.row i (by rw [hn]; exact hi)).2.2
  have hlong := Lib.hid (hR.long)
  have hA := hR.rd
  rw [hn] at hlr
  have HLR := Lib.hid hlr
  clear hR hn hlr
  by_cases h1 : 256 < N
  · have hs := Lib.hid (show sharesE L = .error 12 by rw [sharesE, if_pos (.inl (by rw [HN.out]; exact h1))])
    go_enter Tryd.func26, Tryd.ntmps26
    go_wp2_with fail
    go_ret2
    exact ⟨Below.refl _ _, .inl ⟨12, hs.out, rfl⟩⟩
  · have hd1 : decide (256 < N) = false := by simpa using h1
    have h1' : N ≤ 256 := by omega
    by_cases h2 : L.any longL = true
    · have hs := Lib.hid (show sharesE L = .error 12 by rw [sharesE, if_pos (.inr h2)])
      have HL : Hid (rs.any longR = true) := by show _ = _; rw [hlong.out, h2]
      clear h2 h1
      go_enter Tryd.func26, Tryd.ntmps26
      go_wp2_with (go_at_call 59; refine (anyLong_any a N c rs _ HLR.out (by omega) hA hb0.out).mono ?_; rintro e w1 ⟨rfl, hb1⟩; rw [HL.out])
      go_ret2
      exact ⟨hb1, .inl ⟨12, hs.out, rfl⟩⟩
    · have HL : Hid (rs.any longR = false) := by show _ = _; rw [hlong.out]; simpa using h2
      have H2 := Lib.hid h2
      have HE2 : Hid (∀ k, k < N → ¬ RowOk L k → sharesE L = .error 2) := fun k hk h => by
        rw [sharesE, if_neg (by rw [HN.out]; rintro (h | h); exact h1 h; exact h2 h), if_pos (fun h3 => h (h3 k (by rw [HN.out]; exact hk)))]
      have HEO : Hid ((∀ i, i < N → RowOk L i) → sharesE L = .ok (rwk L 0).length) := fun h => by
        rw [sharesE, if_neg (by rw [HN.out]; rintro (h | h); exact h1 h; exact h2 h), if_neg (fun h3 => h3 fun i hi => h i (by rw [← HN.out]; exact hi))]
      have H24 : Hid (∀ i, i < N → rN rs i ≤ 24) := fun i hi => by
        have hi2 : i < L.length := by rw [HN.out]; exact hi
        rw [(HR.out.row i hi2).2.1]
        have h3 := List.any_eq_false.1 (by simpa using h2 : L.any longL = false) L[i] (List.getElem_mem hi2)
        simp only [longL, decide_eq_true_eq] at h3
        have : rwk L i = L[i] := by simp [rwk, hi2]
        rw [this]
        omega
      clear h2 h1
      go_enter Tryd.func26, Tryd.ntmps26
      go_upto_block 0 with (go_at_call 59; refine (anyLong_any a N c rs _ HLR.out (by omega) hA hb0.out).mono ?_; rintro e w1 ⟨rfl, hb1⟩; rw [HL.out])
      go_cut [] (fun wx => Hid (∀ i, i < N → RowOk L i) ∧ Below w.heap.size w wx)
      case first =>
        go_wp2_with fail
        go_loopw [24, 5] (fun x _ wr => ∃ k : Nat, k ≤ N ∧ x = .int .i64 k ∧ Hid (∀ i, i < k → RowOk L i) ∧ Below w.heap.size w wr) (fun x _ _ => N - (intOf x).toNat)
        case atStart => exact ⟨0, by omega, rfl, fun i h => absurd h (by omega), hb1⟩
        case round =>
          obtain ⟨k, hk, rfl, hok, hbl⟩ := hrel
          by_cases hlt : k < N
          · obtain ⟨b, o, rfl, _, hc⟩ := rdR (hA.bl hbl) (by rw [HLR.out]; omega)
            have G := hc k (by rw [HLR.out]; omega)
            have G0 := hc 0 (by rw [HLR.out]; omega)
            rw [Nat.add_zero] at G0
            obtain ⟨hr1, hr2, hr3⟩ := HR.out.row k (by rw [HN.out]; exact hlt)
            obtain ⟨_, hz2, _⟩ := HR.out.row 0 (by rw [HN.out]; omega)
            have HE := Lib.hid (HE2.out k hlt)
            have HNX : Hid (RowOk L k → ∀ i, i < k + 1 → RowOk L i) := fun h i hi => by
              by_cases e : i = k
              · rw [e]; exact h
              · exact hok.out i (by omega)
            have q1 := H24.out k hlt
            have q0 := H24.out 0 (by omega)
            have HR1 := Lib.hid (hr1.bl hbl)
            have HR2 := Lib.hid hr2
            have HRO : Hid (RowOk L k ↔ rN rs k = rN rs 0 ∧ (rwk L k).any under = false) := by show _ ↔ _; rw [hr2, hz2]; rfl
            clear hc hr1 hr2 hr3 hz2
            generalize rN rs k = n1 at *
            generalize rN rs 0 = n0 at *
            by_cases e : n1 = n0
            · have hq : ((n1 : Int) != (n0 : Int)) = false := by simp; omega
              have EN := Lib.hid e
              clear e
              rcases Bool.eq_false_or_eq_true ((rwk L k).any under) with hp | hp
              · have HP := Lib.hid hp
                have hs := Lib.hid (HE.out (fun h => by have := (HRO.out.1 h).2; rw [hp] at this; cases this))
                clear hp
                go_wp2_with (go_at_call 61; refine (anyUnder_any (rA rs k) n1 (rC rs k) (rwk L k) _ HR2.out.symm (by omega) HR1.out).mono ?_; rintro e w2 ⟨rfl, hb2⟩; rw [HP.out])
                go_ret2
                exact ⟨bl_trans hbl hb2, .inl ⟨2, hs.out, rfl⟩⟩
              · have HP := Lib.hid hp
                have hnx := Lib.hid (HNX.out (HRO.out.2 ⟨EN.out, hp⟩))
                clear hp
                go_wp2_with (go_at_call 61; refine (anyUnder_any (rA rs k) n1 (rC rs k) (rwk L k) _ HR2.out.symm (by omega) HR1.out).mono ?_; rintro e w2 ⟨rfl, hb2⟩; rw [HP.out])
                go_roundw
                case rel => exact ⟨k + 1, by omega, by go_num, hnx, bl_trans hbl hb2⟩
                case measure => simp [intOf]; omega
            · have hq : ((n1 : Int) != (n0 : Int)) = true := by simp; omega
              have hs := Lib.hid (HE.out (fun h => e (HRO.out.1 h).1))
              clear e
              go_wp2_with fail
              go_ret2
              exact ⟨hbl, .inl ⟨2, hs.out, rfl⟩⟩
          · go_wp2_with fail
            go_meet
            have : k = N := by omega
            subst this
            exact ⟨hok, hbl⟩
      case rest =>
        obtain ⟨hok, hbl⟩ := hcut
        have hs := Lib.hid (HEO.out hok.out)
        by_cases hN0 : N = 0
        · have hL0 : L = [] := List.eq_nil_of_length_eq_zero (by rw [HN.out]; exact hN0)
          have hq : ((N : Int) == 0) = true := by simp; omega
          have HL0 := Lib.hid hL0
          have HN0 := Lib.hid hN0
          clear hL0 hN0
          go_wp2_with fail
          go_ret2
          refine ⟨hbl, .inr ⟨0, _, by rw [hs.out, HL0.out]; rfl, by omega, rfl, fun _ => ⟨rfl, rfl⟩, World.ownsRow_nil _ _ _ _⟩⟩
        · have hq : ((N : Int) == 0) = false := by simp; omega
          have hN1 : 0 < N := by omega
          clear hN0
          obtain ⟨b, o, rfl, hbw, hc⟩ := rdR hA (by rw [HLR.out]; omega)
          have hcr : Hid (∀ wr, Below w.heap.size w wr → ∀ i, i < N → wr.cell? ⟨b, o + i, none⟩ = some (.slice (rA rs i) (rN rs i) (rC rs i))) := fun wr h i hi => (h.cell (p := ⟨b, o + i, none⟩) hbw).trans (hc i (by rw [HLR.out]; exact hi))
          have G0 := hcr.out _ hbl 0 (by omega)
          rw [Nat.add_zero] at G0
          obtain ⟨n, hn⟩ : ∃ n, n = rN rs 0 := ⟨_, rfl⟩
          have hn24 := H24.out 0 hN1
          rw [← hn] at G0 hn24
          have hlen : Hid (∀ i, i < N → rN rs i = n) := fun i hi => by
            rw [hn, (HR.out.row i (by rw [HN.out]; exact hi)).2.1, (HR.out.row 0 (by rw [HN.out]; omega)).2.1]
            exact (hok.out i hi).1
          have hsn : Hid (sharesE L = .ok n) := by show _ = _; rw [hs.out, hn, (HR.out.row 0 (by rw [HN.out]; omega)).2.1]
          obtain ⟨M, hM⟩ : ∃ M, n * n = M := ⟨_, rfl⟩
          have hM2 : M ≤ 576 := by rw [← hM]; exact Nat.mul_le_mul hn24 hn24
          have wM := wrap_nat ((n : Int) * (n : Int)) M (by rw [← hM]; simp) (by omega)
          have HMM := Lib.hid hM
          clear hn hM hc hs
          obtain ⟨i0, hi, hz0, hz1, hz2⟩ := info_parts info40
          have hmk := run_make (P := Tryd.prog) wc 22 40 i0 _ Tryd.underlying22 hi hz0 .i64 .i64 (M : Int) (M : Int) (by omega) (by omega) (by rw [hz2]; omega) (by omega)
          rw [hz1] at hmk
          simp only [Int.toNat_natCast] at hmk
          have hown0 : FF (wc.alloc (.cells (madeCells #[Value.int .i64 0, Value.int .i64 0] (M * 2)) 40)) w.heap.size wc.heap.size M M (shP L n 0 0) := by
            have := owns_made (w := wc) (base := w.heap.size) (e := 40) (k := 2) (n := M) (cs := madeCells (encFr (0, 0)).toArray (M * 2)) hbl.size (size_madeCells _ _) (by unfold maxLen; omega)
            rw [made_cells encFr 2 encFr_len (by omega)] at this
            unfold FF
            rw [shP_zero]
            exact this
          have hbl0 := bl_alloc hbl (.cells (madeCells #[Value.int .i64 0, Value.int .i64 0] (M * 2)) 40)
          obtain ⟨g, hg⟩ : ∃ g, g = wc.heap.size := ⟨_, rfl⟩
          have hgw : w.heap.size ≤ g := by rw [hg]; exact hbl.size
          go_wp2_with fail
          rw [← hg] at hown0 ⊢
          clear hg hmk G0 hbl
          obtain ⟨w5, hw5⟩ : ∃ w5, w5 = wc.alloc (.cells (madeCells #[Value.int .i64 0, Value.int .i64 0] (M * 2)) 40) := ⟨_, rfl⟩
          rw [← hw5] at hown0 hbl0 ⊢
          clear hw5
          go_loopw [52, 8, 57, 9, 62, 10, 11, 13, 14] (fun x _ _ _ _ _ _ _ _ wr => ∃ a : Nat, a ≤ n ∧ x = .int .i64 a ∧ FF wr w.heap.size g M M (shP L n a 0) ∧ Below w.heap.size w wr) (fun x _ _ _ _ _ _ _ _ _ => n - (intOf x).toNat)
          case atStart => exact ⟨0, by omega, rfl, hown0, hbl0⟩
          case round =>
            obtain ⟨a, ha, rfl, hff, hbl⟩ := hrel
            clear hown0 hbl0
            by_cases hlt : a < n
            · obtain ⟨wo, rfl⟩ : ∃ wo : World, wo = wr := ⟨_, rfl⟩
              go_wp2_with fail
              go_loopw [57, 9, 62, 10, 11, 13, 14] (fun x _ _ _ _ _ _ wr => ∃ b : Nat, b ≤ a + 1 ∧ x = .int .i64 b ∧ FF wr w.heap.size g M M (shP L n a b) ∧ Below w.heap.size w wr) (fun x _ _ _ _ _ _ _ => a + 1 - (intOf x).toNat)
              case atStart => exact ⟨0, by omega, rfl, hff, hbl⟩
              case round =>
                obtain ⟨c, hc, rfl, hff2, hbl2⟩ := hrel
                clear hff hbl
                by_cases hct : c < a + 1
                · obtain ⟨wo2, rfl⟩ : ∃ wo : World, wo = wr := ⟨_, rfl⟩
                  go_upto_block 6 with fail
                  go_cut [10, 11] (fun s1 s2 wx => s1 = .int .i64 (sameK L a c N) ∧ s2 = .int .i64 (bothK L a c N) ∧ ∃ nq, wx = wo2.drewN nq)
                  case first =>
                    go_wp2_with fail
                    go_loopw [62, 10, 11, 13] (fun x s1 s2 _ wr => ∃ k : Nat, k ≤ N ∧ x = .int .i64 k ∧ s1 = .int .i64 (sameK L a c k) ∧ s2 = .int .i64 (bothK L a c k) ∧ ∃ nq, wr = wo2.drewN nq) (fun x _ _ _ _ => N - (intOf x).toNat)
                    case atStart => exact ⟨0, by omega, rfl, rfl, rfl, 0, rfl⟩
                    case round =>
                      obtain ⟨k, hk, rfl, rfl, rfl, nq0, rfl⟩ := hrel
                      by_cases hkt : k < N
                      · have G := hcr.out _ hbl2 k hkt
                        obtain ⟨r1, r2, _⟩ := HR.out.row k (by rw [HN.out]; exact hkt)
                        have hl := hlen.out k hkt
                        rw [hl] at G r2
                        obtain ⟨rb, ro, hra, hrb, hrc⟩ := rdI r1 (by omega)
                        have X1 := hbl2.cell (p := ⟨rb, ro + a, none⟩) hrb |>.trans (hrc a (by omega))
                        have X2 := hbl2.cell (p := ⟨rb, ro + c, none⟩) hrb |>.trans (hrc c (by omega))
                        rw [hra] at G
                        have b1 := bothK_le L a c k
                        have b2 := sameK_le L a c k
                        have HB : Hid (bothK L a c (k + 1) = bothK L a c k + if bothR L a c k then 1 else 0) := rfl
                        have HS : Hid (sameK L a c (k + 1) = sameK L a c k + if bothR L a c k ∧ iA (rwk L k) a = iA (rwk L k) c then 1 else 0) := rfl
                        have HBR : Hid (bothR L a c k ↔ 0 ≤ iA (rwk L k) a ∧ 0 ≤ iA (rwk L k) c) := Iff.rfl
                        clear r1 r2 hl hra hrb hrc
                        generalize iA (rwk L k) a = x at *
                        generalize iA (rwk L k) c = y at *
                        by_cases hx : 0 ≤ x
                        · have hxd : decide (0 ≤ x) = true := by simpa using hx
                          by_cases hy : 0 ≤ y
                          · have hyd : decide (0 ≤ y) = true := by simpa using hy
                            have hbr : Hid (bothR L a c k) := HBR.out.2 ⟨hx, hy⟩
                            have e1 := Lib.hid (show bothK L a c (k + 1) = bothK L a c k + 1 by rw [HB.out, if_pos hbr.out])
                            by_cases hxy : x = y
                            · have hq : (x == y) = true := by simp [hxy]
                              have e2 := Lib.hid (show sameK L a c (k + 1) = sameK L a c k + 1 by rw [HS.out, if_pos ⟨hbr.out, hxy⟩])
                              clear hxy
                              go_wp2_with fail
                              go_quiet (fail)
                              go_wp2_with fail
                              go_roundw
                              case rel => exact ⟨k + 1, by omega, by go_num, by rw [e2.out]; go_num, by rw [e1.out]; go_num, nq0 + nq, by simp⟩
                              case measure => simp [intOf]; omega
                            · have hq : (x == y) = false := by simp [hxy]
                              have e2 := Lib.hid (show sameK L a c (k + 1) = sameK L a c k by rw [HS.out, if_neg (fun h => hxy h.2)]; rfl)
                              clear hxy
                              go_wp2_with fail
                              go_quiet (fail)
                              go_wp2_with fail
                              go_roundw
                              case rel => exact ⟨k + 1, by omega, by go_num, by rw [e2.out], by rw [e1.out]; go_num, nq0 + nq, by simp⟩
                              case measure => simp [intOf]; omega
                          · have hyd : decide (0 ≤ y) = false := by simpa using hy
                            have hbr : Hid (¬ bothR L a c k) := fun h => hy (HBR.out.1 h).2
                            have e1 := Lib.hid (show bothK L a c (k + 1) = bothK L a c k by rw [HB.out, if_neg hbr.out]; rfl)
                            have e2 := Lib.hid (show sameK L a c (k + 1) = sameK L a c k by rw [HS.out, if_neg (fun h => hbr.out h.1)]; rfl)
                            go_wp2_with fail
                            go_roundw
                            case rel => exact ⟨k + 1, by omega, by go_num, by rw [e2.out], by rw [e1.out], nq0, rfl⟩
                            case measure => simp [intOf]; omega
                        · have hxd : decide (0 ≤ x) = false := by simpa using hx
                          have hbr : Hid (¬ bothR L a c k) := fun h => hx (HBR.out.1 h).1
                          have e1 := Lib.hid (show bothK L a c (k + 1) = bothK L a c k by rw [HB.out, if_neg hbr.out]; rfl)
                          have e2 := Lib.hid (show sameK L a c (k + 1) = sameK L a c k by rw [HS.out, if_neg (fun h => hbr.out h.1)]; rfl)
                          go_wp2_with fail
                          go_roundw
                          case rel => exact ⟨k + 1, by omega, by go_num, by rw [e2.out], by rw [e1.out], nq0, rfl⟩
                          case measure => simp [intOf]; omega
                      · go_wp2_with fail
                        go_meet
                        have : k = N := by omega
                        subst this
                        exact ⟨rfl, rfl, nq0, rfl⟩
                  case rest =>
                    obtain ⟨rfl, rfl, nq0, rfl⟩ := hcut
                    have b1 := bothK_le L a c N
                    have b2 := sameK_le L a c N
                    obtain ⟨sm, hsm⟩ : ∃ x, x = sameK L a c N := ⟨_, rfl⟩
                    obtain ⟨bo, hbo⟩ : ∃ x, x = bothK L a c N := ⟨_, rfl⟩
                    obtain ⟨mx, hmx⟩ : ∃ x, x = max bo 1 := ⟨_, rfl⟩
                    obtain ⟨ln, hln⟩ : ∃ x, x = sm / Nat.gcd sm mx := ⟨_, rfl⟩
                    obtain ⟨ld, hld⟩ : ∃ x, x = mx / Nat.gcd sm mx := ⟨_, rfl⟩
                    have HF : Hid (shareF L a c = ((ln : Int), (ld : Int))) := by
                      show _ = _
                      unfold shareF
                      rw [HN.out, ← hsm, ← hbo, ← hmx, hln, hld]
                      simp [lowF, lowN, lowD]
                    rw [← hsm] at b2 ⊢
                    rw [← hbo] at b1 b2 ⊢
                    have H57 : Hid (∀ W3 (z : Int), z = mx → Calls Tryd.prog 57 #[.int .i64 sm, .int .i64 z] W3 fun e w' => e = .returned (.agg #[.int .i64 ln, .int .i64 ld]) ∧ Below W3.heap.size W3 w') := fun W3 z hz => by
                      rw [hz, hln, hld]; exact low_any sm mx W3 (by omega) (by omega) (by omega)
                    obtain ⟨m1, m2, k1, k2, hm1, hm2, hk1, hk2, c1, c2⟩ := idx_two (n := n) (N := M) (a := a) (b := c) HMM.out (by omega) (by omega) (by omega)
                    have wa1 := wrap_nat ((a : Int) * (n : Int)) m1 (by rw [← hm1]; simp) (by omega)
                    have wa2 := wrap_nat ((c : Int) * (n : Int)) m2 (by rw [← hm2]; simp) (by omega)
                    have wa3 := wrap_nat ((m1 : Int) + (c : Int)) k1 (by omega) (by omega)
                    have wa4 := wrap_nat ((m2 : Int) + (a : Int)) k2 (by omega) (by omega)
                    have HK1 := Lib.hid (show a * n + c = k1 by omega)
                    have HK2 := Lib.hid (show c * n + a = k2 by omega)
                    have hff3 := FF.drewN hff2 nq0
                    have hblx := bl_drewN hbl2 nq0
                    have HMX : Hid (mx = max bo 1) := hmx
                    clear hsm hbo hmx hln hld hm1 hm2 hk1 hk2 hff2 hbl2
                    have hlow : bo < 1 ∨ 1 ≤ bo := by omega
                    rcases hlow with hb1 | hb1
                    all_goals
                      go_wp2_with fail
                      refine (H57.out _ _ (by have := HMX.out; omega)).mono ?_
                      rintro e w7 ⟨rfl, hb7⟩
                      have hff8 : FF (w7.alloc (.cells #[.int .i64 ln, .int .i64 ld] 40)) w.heap.size g M M (shP L n a c) := World.ownsRow.alloc (owns_below hff3 hb7) _
                      have hbl8 := bl_alloc (bl_trans hblx hb7) (.cells #[.int .i64 ln, .int .i64 ld] 40)
                      have hx8 := Blk.new w7 #[.int .i64 ln, .int .i64 ld] 40
                      have e0 := hx8.cell 0
                      have e1 := hx8.cell 1
                      have hgX : g < w7.heap.size := (World.ownsRow.lt (owns_below hff3 hb7) g rfl).2
                      obtain ⟨⟨u1, v1⟩, u2, v2⟩ := hff8.cell k1 c1
                      obtain ⟨⟨u3, v3⟩, u4, v4⟩ := hff8.cell k2 c2
                      have f1 := World.ownsRow.frozenAt hff8 (k1 * 2)
                      have f2 := World.ownsRow.frozenAt hff8 (k1 * 2 + 1)
                      have f3 := World.ownsRow.frozenAt hff8 (k2 * 2)
                      have f4 := World.ownsRow.frozenAt hff8 (k2 * 2 + 1)
                      go_upto_region 29 with fail
                      obtain ⟨w8, hw8⟩ : ∃ w8, w8 = w7.alloc (.cells #[.int .i64 ln, .int .i64 ld] 40) := ⟨_, rfl⟩
                      obtain ⟨X, hX⟩ : ∃ X, X = w7.heap.size := ⟨_, rfl⟩
                      rw [← hw8] at hff8 hbl8 e0 e1 v1 v2 v3 v4 f1 f2 f3 f4 ⊢
                      rw [← hX] at e0 e1 hgX ⊢
                      have e0' : w8.cell? ⟨X, 0, none⟩ = some (.int .i64 ln) := e0
                      have e1' : w8.cell? ⟨X, 1, none⟩ = some (.int .i64 ld) := e1
                      clear hw8 hX hx8 e0 e1 hff3 hblx hb7
                      by_cases hac : c = a
                      · have hk : k2 = k1 := by rw [← HK1.out, ← HK2.out, hac]
                        have HAC := Lib.hid hac
                        have HKK := Lib.hid hk
                        subst hk
                        have HREL := Lib.hid (sh_set HK1.out HK2.out HF.out hlt (by omega) hff8 hgw hbl8)
                        clear hac u3 u4 v3 v4 f3 f4
                        go_region
                        go_wp2_with fail
                        go_roundw
                        case rel => exact ⟨c + 1, by omega, by go_num, HREL.out⟩
                        case measure => simp [intOf]; omega
                      · have hk : ¬ (k1 = k2) := fun e => by
                          have := div_mod_uniq (n := n) (i := a) (j := c) (i' := c) (j' := a) (by omega) (by omega) (by rw [HK1.out, HK2.out, e])
                          exact hac this.2
                        have HAC := Lib.hid hac
                        have HREL := Lib.hid (sh_set HK1.out HK2.out HF.out hlt (by omega) hff8 hgw hbl8)
                        clear hac
                        go_region
                        go_wp2_with fail
                        go_roundw
                        case rel => exact ⟨c + 1, by omega, by go_num, HREL.out⟩
                        case measure => simp [intOf]; omega
                · go_wp2_with fail
                  go_roundw
                  have e : c = a + 1 := by omega
                  case rel => exact ⟨a + 1, by omega, by go_num, hff2.congr fun p _ => by rw [e]; exact shP_row L n a p, hbl2⟩
                  case measure => simp [intOf]; omega
            · have e : a = n := by omega
              subst e
              go_wp2_with fail
              go_ret2
              have hfin : FF wr w.heap.size g M M (fun k => shareF L (k / a) (k % a)) := FF.congr hff fun p hp => shP_all L a p (by rw [HMM.out]; exact hp)
              refine ⟨hbl, .inr ⟨a, _, hsn.out, hn24, rfl, fun h => ?_, ?_⟩⟩
              · have h2 := HN.out
                rw [h] at h2
                simp at h2
                omega
              · unfold FF at hfin
                unfold shL
                rw [HMM.out]
                exact hfin
end Go.Proofs.YtahgffjkkdbjeaaDoor
