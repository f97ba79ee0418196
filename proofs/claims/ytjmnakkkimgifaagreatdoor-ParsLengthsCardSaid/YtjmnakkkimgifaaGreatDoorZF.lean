/- pars.Trees: the walk. pars.Trees at every number; slices.Values of rows of trees; pars.Best. The helper of the statements that makes a tree of its parents. The examples of the statements: what they come to (plain). works: the example of all statements of package 33. The document's tree: children. The document's tree: Leaves, node. The document's check of a table; of a table and a tree. The document's tree: node, at a node of a tree. The document's children of a node, and which leaf a node is. The document's changes of an innovation. The document's Lengths and Length, binary and Binary. -/
import Derived.Test.YtjmnakkkimgifaaGreatDoorZE
import Derived.Test.YtjmnakkkimgifaaGreatDoorZA
import Derived.Test.YtjmnakkkimgifaaGreatDoorZB
import Derived.Deep.QuietTactic
import Derived.BigQuiet
import Derived.Test.YtjmnakkkimgifaaGreatDoorZC
import Derived.Test.YtjmnakkkimgifaaGreatDoorZD
namespace Go.Proofs.YtjmnakkkimgifaaGreatDoor
open Go Go.RowKit Go.Shelf
/-- The trees of k + 1 leaves, without names. -/
def TrN (k i : Nat) : List Nd := mkN ((trP k).getD i [])
theorem TrN_ok {k i : Nat} (h : k < 4) (hi : i < (trP k).length) : (TrN k i).length = 2 * k + 1 ∧ okP (TrN k i) = true ∧ ∀ v, v < 2 * k + 1 → okG (TrN k i) v = true := by
  obtain ⟨h1, h2, h3⟩ := okS_at (trP_ok k h) hi
  exact ⟨by unfold TrN mkN; rw [List.length_map, h1], h2, h3⟩
theorem TrN_next {k : Nat} (h : k < 4) : (trP (k + 1)).length = (trP k).length * (2 * k + 1) ∧ ∀ i v, i < (trP k).length → v < 2 * k + 1 → TrN (k + 1) (i * (2 * k + 1) + v) = grownL (TrN k i) v := okS_next (trP_ok k h)
set_option maxRecDepth 100000 in
set_option maxHeartbeats 4000000 in
theorem trees_in (N : Nat) (hN : N < 5) (w : World) :
    Calls Tryz.prog 21 #[.int .i64 ((N + 1 : Nat) : Int)] w fun e w' => ∃ v rs T, e = .returned (.tuple #[v, .int .i64 0]) ∧ TsW w' w.heap.size v (trP N).length T rs ∧ (∀ k, k < (trP N).length → T k = nmT (N + 1) ((soP (N + 1)).getD k [])) ∧ Below w.heap.size w w' := by
  have hb1 := bl_alloc (Below.refl _ w) (.cells #[.int .i64 (-1), .string ByteArray.empty] 46)
  have hb2 := bl_alloc hb1 (.cells #[.slice (some ⟨w.heap.size, 0, none⟩) 1 1] 25)
  have ho0 := owns_made (w := w) (base := w.heap.size) (e := 46) (k := 2) (n := 1) (cs := #[.int .i64 (-1), .string ByteArray.empty]) (Nat.le_refl _) rfl (by decide)
  have ho1 := owns_made (w := w.alloc (.cells #[.int .i64 (-1), .string ByteArray.empty] 46)) (base := w.heap.size) (e := 25) (k := 1) (n := 1) (cs := #[.slice (some ⟨w.heap.size, 0, none⟩) 1 1]) hb1.size rfl (by decide)
  rw [World.size_alloc] at ho1
  have HT0 : Hid (TsW ((w.alloc (.cells #[.int .i64 (-1), .string ByteArray.empty] 46)).alloc (.cells #[.slice (some ⟨w.heap.size, 0, none⟩) 1 1] 25)) w.heap.size (.slice (some ⟨w.heap.size + 1, 0, none⟩) 1 1) (trP 0).length (TrN 0) (fun _ => (some ⟨w.heap.size, 0, none⟩, 1, 1))) := by
    refine ⟨ho1, fun i hi => ?_, fun i hi => ?_, fun i j hi hj hij => ?_, fun i hi => ?_⟩
    · obtain rfl : i = 0 := by have : (trP 0).length = 1 := rfl; omega
      exact owns_below ho0 (bl_alloc (Below.refl _ _) _)
    · obtain rfl : i = 0 := by have : (trP 0).length = 1 := rfl; omega
      rfl
    · have : (trP 0).length = 1 := rfl
      omega
    · right
      intro e
      have := Option.some.inj (show some w.heap.size = some (w.heap.size + 1) from e)
      omega
  have HB0 := Lib.hid hb2
  clear hb1 hb2 ho0 ho1
  have d1 : decide (((N + 1 : Nat) : Int) < 1) = false := by simp; omega
  have d2 : decide (5 < ((N + 1 : Nat) : Int)) = false := by simp; omega
  obtain ⟨M, hM⟩ : ∃ M, M = N + 1 := ⟨_, rfl⟩
  rw [← hM] at d1 d2 ⊢
  have hM5 : M ≤ 5 := by omega
  have hM1 : 1 ≤ M := by omega
  have HMN := Lib.hid hM
  clear hM
  go_enter Tryz.func21, Tryz.ntmps21
  go_wp2_with fail
  go_loopw [4, 5] (fun v x wr => ∃ (K : Nat) (rs : Nat → Rw), 1 ≤ K ∧ K ≤ M ∧ x = .int .i64 K ∧ Hid (TsW wr w.heap.size v (trP (K - 1)).length (TrN (K - 1)) rs) ∧ Hid (Below w.heap.size w wr)) (fun _ x _ => M - (intOf x).toNat)
  case atStart => exact ⟨1, _, by omega, by omega, rfl, HT0, HB0⟩
  case round =>
    clear HT0 HB0
    obtain ⟨K, rs, hK1, hK, rfl, hT, hB⟩ := hrel
    have hp0 := trP_len (K - 1) (by omega)
    by_cases hlt : K < M
    · obtain ⟨g, cap, rfl, hg1, hg2, hcell⟩ := hT.out.cell hp0.1
      obtain ⟨z, hz⟩ : ∃ z, z = 2 * (K - 1) + 1 := ⟨_, rfl⟩
      have hz9 : z ≤ 9 := by omega
      have hz1 : 1 ≤ z := by omega
      have hNX := TrN_next (k := K - 1) (by omega)
      rw [show K - 1 + 1 = K by omega, ← hz] at hNX
      have HNX := Lib.hid hNX
      have HOK : Hid (∀ i, i < (trP (K - 1)).length → (TrN (K - 1) i).length = z ∧ okP (TrN (K - 1) i) = true ∧ ∀ v, v < z → okG (TrN (K - 1) i) v = true) := fun i hi => by rw [hz]; exact TrN_ok (by omega) hi
      have HRW : Hid (∀ i, i < (trP K).length → (TrN K i).length = z + 2) := fun i hi => by
        have hb := (trP_row (k := K) (i := i) (by omega) hi).1
        unfold TrN mkN
        rw [List.length_map, hb]; omega
      obtain ⟨p, hp⟩ : ∃ p, p = (trP (K - 1)).length := ⟨_, rfl⟩
      rw [← hp] at hT hp0 hcell HNX HOK ⊢
      obtain ⟨TK, hTK⟩ : ∃ T, T = TrN (K - 1) := ⟨_, rfl⟩
      rw [← hTK] at hT HNX HOK
      have HC := Lib.hid hcell
      clear hcell hp hz hNX hTK
      go_wp2_with fail
      obtain ⟨wo, rfl⟩ : ∃ wo : World, wo = wr := ⟨_, rfl⟩
      go_loopw [6, 29] (fun v x wr => ∃ (i : Nat) (rs6 : Nat → Rw), i ≤ p ∧ x = .int .i64 i ∧ Hid (TsW wr wo.heap.size v (i * z) (TrN K) rs6) ∧ Hid (Below wo.heap.size wo wr)) (fun _ x _ => p - (intOf x).toNat)
      case atStart => exact ⟨0, fun _ => (none, 0, 0), by omega, rfl, by rw [Nat.zero_mul]; exact TsW.zero _ _ _ _, Below.refl _ _⟩
      case round =>
        obtain ⟨i, rs6, hi, rfl, h6, hB6⟩ := hrel
        by_cases hlt2 : i < p
        · obtain ⟨b, c, hri, hb1, hb2⟩ := hT.out.at (i := i) hlt2 (by rw [(HOK.out i hlt2).1]; omega)
          rw [(HOK.out i hlt2).1] at hri
          have e1 : wr.cell? ⟨g, i, none⟩ = some (.slice (some ⟨b, 0, none⟩) z c) := by
            have h := (hB6.out.cell (p := ⟨g, i, none⟩) hg2).trans (HC.out i hlt2)
            rw [hri] at h; exact h
          have HRI := Lib.hid hri
          clear hri
          go_wp2_with fail
          obtain ⟨wp, rfl⟩ : ∃ wp : World, wp = wr := ⟨_, rfl⟩
          go_loopw [6, 35] (fun v x wr => ∃ (u n : Nat) (rs6 : Nat → Rw), u ≤ z ∧ x = .int .i64 u ∧ Hid (n = i * z + u) ∧ Hid (TsW wr wo.heap.size v n (TrN K) rs6) ∧ Hid (Below wo.heap.size wo wr)) (fun _ x _ => z - (intOf x).toNat)
          case atStart => exact ⟨0, i * z, rs6, by omega, rfl, rfl, h6, hB6⟩
          case round =>
            clear h6 hB6 e1
            obtain ⟨u, n, rs6, hu, rfl, hnn, h6, hB6⟩ := hrel
            by_cases hlt3 : u < z
            · have hmul : i * z + z ≤ p * z := by
                have := Nat.mul_le_mul_right z (show i + 1 ≤ p by omega)
                rw [Nat.add_mul, Nat.one_mul] at this
                exact this
              have hpz : p * z ≤ 105 * 9 := Nat.mul_le_mul hp0.2 hz9
              have hcnt : n ≤ 1000 := by have := hnn.out; omega
              have hnK : n < (trP K).length := by rw [HNX.out.1, hnn.out]; omega
              obtain ⟨q1, q2, q3⟩ := HOK.out i hlt2
              have hrd : Rd wr (some ⟨b, 0, none⟩) (fl encNd (TK i)) := by
                obtain ⟨a', c', e', hr⟩ := (hT.out.bl hB6.out).rd hlt2
                rw [HRI.out] at e'
                injection e' with e1 e2
                rw [← e1] at hr
                exact hr
              have HG := Lib.hid (grown_any b 0 z c u (TK i) wr q1 hz1 (by omega) hrd q2 hlt3 (q3 u hlt3))
              have HE : Hid (TrN K n = grownL (TK i) u) := by show _ = _; rw [hnn.out]; exact HNX.out.2 i u hlt2 hlt3
              have HLG : Hid ((grownL (TK i) u).length = z + 2) := by show _ = _; rw [← HE.out]; exact HRW.out n hnK
              clear q1 q2 q3 hrd hmul hpz hnK
              go_wp2_with fail
              refine HG.out.mono ?_
              rintro e w7 ⟨g7, rfl, ho7, hb7⟩
              have hT7 := h6.out.bl hb7
              have hX7 := h6.out.apart (k := z + 2) (x := (some ⟨g7, 0, none⟩, z + 2, z + 2)) ho7 (Nat.le_refl _)
              have hsz7 := hb7.size
              have HO7 := Lib.hid ho7
              have HT7 := Lib.hid hT7
              have HX7 := Lib.hid hX7
              have HB7 := Lib.hid (bl_trans hB6.out hb7)
              have hbs7 := HB7.out.size
              clear ho7 hb7 hT7 HG hX7 hsz7
              obtain ⟨z2, hz2⟩ : ∃ z2, z2 = z + 2 := ⟨_, rfl⟩
              rw [← hz2] at HO7 HLG HX7 ⊢
              have HZ2 := Lib.hid hz2
              obtain ⟨v6, hv6⟩ : ∃ v, v = u6 := ⟨_, rfl⟩
              rw [← hv6] at HT7 HX7 ⊢
              clear hz2 hv6
              go_wp2_with (at_builtin; refine push_T rfl (.tmp 38) (.tmp 42) rfl wo.heap.size v6 ((List.range n).map rs6) n (by simp) rfl (HT7.out.rows.alloc _) _ _ (some ⟨g7, 0, none⟩, z2, z2) rfl (Blk.new _ _ _) (by omega) (by rw [World.size_alloc]; omega) ?_; intro g8 cap8 w8 h81 h82 h83 h84; have H81 := Lib.hid h81; have H82 := Lib.hid h82; have H83 := Lib.hid h83; clear h81 h82 h83)
              have hal := bl_alloc (Below.refl _ w7) (.cells #[.slice (some ⟨g7, 0, none⟩) z2 z2] 25)
              have hp2 := (HT7.out.bl hal).push (v' := .slice (some ⟨g8, 0, none⟩) (n + 1) cap8) (x := (some ⟨g7, 0, none⟩, z2, z2)) (X := grownL (TK i) u) H81.out H82.out
                (by rcases H83.out with h | h
                    · exact .inl h.symm
                    · exact .inr (by rw [h]; rfl))
                (by rw [HLG.out]; exact owns_mono (owns_below HO7.out hal) (by have := hB6.out.size; omega)) HLG.out.symm HX7.out.1 HX7.out.2
              have HT8 : Hid (TsW w8 wo.heap.size (.slice (some ⟨g8, 0, none⟩) (n + 1) cap8) (n + 1) (TrN K) (fun j => if j = n then (some ⟨g7, 0, none⟩, z2, z2) else rs6 j)) := hp2.congr fun j hj => by
                by_cases e : j = n
                · rw [if_pos e, e, HE.out]
                · rw [if_neg e]
              have HB8 : Hid (Below wo.heap.size wo w8) := bl_grown (bl_trans HB7.out hal) H82.out (fun r e => ((HT7.out.lt (B := r)).1 e).1)
              have HNN : Hid (n + 1 = i * z + (u + 1)) := by show _ = _; have := hnn.out; omega
              clear hal hp2 H81 H82 H83 HO7 HT7 HX7 HB7 h6 hB6 hnn
              go_roundw
              case rel => exact ⟨u + 1, n + 1, _, by omega, by go_num, HNN, HT8, HB8⟩
              case measure => simp [intOf]; omega
            · obtain rfl : u = z := by omega
              have HT6 : Hid (TsW wr wo.heap.size u6 ((i + 1) * u) (TrN K) rs6) := by
                have e : (i + 1) * u = n := by rw [hnn.out, Nat.add_mul, Nat.one_mul]
                rw [e]; exact h6.out
              clear h6
              go_wp2_with fail
              go_roundw
              case rel => exact ⟨i + 1, rs6, by omega, by go_num, HT6, hB6⟩
              case measure => simp [intOf]; omega
        · obtain rfl : i = p := by omega
          have HT6 : Hid (TsW wr w.heap.size u6 (trP (K + 1 - 1)).length (TrN (K + 1 - 1)) rs6) := by
            rw [show K + 1 - 1 = K by omega, HNX.out.1]
            exact h6.out.mono hB.out.size
          have HB6 := Lib.hid (bl_trans hB.out hB6.out)
          clear h6
          go_wp2_with fail
          go_roundw
          case rel => exact ⟨K + 1, rs6, by omega, by omega, by go_num, HT6, HB6⟩
          case measure => simp [intOf]; omega
    · obtain rfl : K = M := by omega
      obtain ⟨g, cap, rfl, hg1, hg2, hcell⟩ := hT.out.cell hp0.1
      obtain ⟨z, hz⟩ : ∃ z, z = 2 * (K - 1) + 1 := ⟨_, rfl⟩
      have hz9 : z ≤ 9 := by omega
      have hz1 : 1 ≤ z := by omega
      have HPL : Hid (∀ i, i < (trP (K - 1)).length → ((trP (K - 1)).getD i []).length = z) := fun i hi => by
        have hb := (trP_row (k := K - 1) (i := i) (by omega) hi).1
        rw [hb, hz]
      have HNE : Hid (trP (K - 1) = trP N) := by show _ = _; rw [HMN.out]; rfl
      obtain ⟨p, hp⟩ : ∃ p, p = (trP (K - 1)).length := ⟨_, rfl⟩
      obtain ⟨P, hP⟩ : ∃ P : Nat → List Int, P = fun i => (trP (K - 1)).getD i [] := ⟨_, rfl⟩
      have HTN : Hid (∀ i, TrN (K - 1) i = mkN (P i)) := fun i => by rw [hP]; rfl
      have HP : Hid (∀ i, (trP (K - 1)).getD i [] = P i) := fun i => by rw [hP]
      have HPL2 : Hid (∀ i, i < p → (P i).length = z) := fun i hi => by rw [hP]; exact HPL.out i (by omega)
      rw [← hp] at hT hp0 hcell ⊢
      have HPP := Lib.hid hp
      have HT1 : Hid (TsW wr w.heap.size (.slice (some ⟨g, 0, none⟩) p cap) p (fun j => if j < 0 then nmT K (P j) else mkN (P j)) rs) := hT.out.congr fun j _ => by
        rw [if_neg (by omega), HTN.out]
      have HC := Lib.hid hcell
      clear hcell hp hz hT hP HPL HTN
      go_wp2_with fail
      go_loopw [49] (fun x wr => ∃ (i : Nat), i ≤ p ∧ x = .int .i64 i ∧ Hid (TsW wr w.heap.size (.slice (some ⟨g, 0, none⟩) p cap) p (fun j => if j < i then nmT K (P j) else mkN (P j)) rs) ∧ Hid (Below w.heap.size w wr)) (fun x _ => p - (intOf x).toNat)
      case atStart => exact ⟨0, by omega, rfl, HT1, hB⟩
      case round =>
        clear HT1 hB HC
        obtain ⟨i, hi, rfl, hT, hB⟩ := hrel
        by_cases hlt2 : i < p
        · have hTi : (if i < i then nmT K (P i) else mkN (P i)) = mkN (P i) := if_neg (by omega)
          have hli : (mkN (P i)).length = z := by unfold mkN; rw [List.length_map]; exact HPL2.out i hlt2
          obtain ⟨b, c, hri, hb1, hb2⟩ := hT.out.at (i := i) hlt2 (by simp only [hTi]; rw [hli]; omega)
          simp only [hTi] at hri
          rw [hli] at hri
          obtain ⟨g', cap', he, _, _, hcell⟩ := hT.out.cell (by omega)
          cases he
          have e1 : wr.cell? ⟨g, i, none⟩ = some (.slice (some ⟨b, 0, none⟩) z c) := by
            have h := hcell i hlt2
            rw [hri] at h; exact h
          have HRI := Lib.hid hri
          have HT2 : Hid (TsW wr w.heap.size (.slice (some ⟨g, 0, none⟩) p cap) p (fun j => if j = i then prtT K (P i) 0 else if j < i then nmT K (P j) else mkN (P j)) rs) := hT.out.congr fun j _ => by
            by_cases e : j = i
            · rw [if_pos e, e, if_neg (by omega), prtT_zero]
            · rw [if_neg e]
          clear hri hTi hli hcell hT
          go_wp2_with fail
          obtain ⟨wo, rfl⟩ : ∃ wo : World, wo = wr := ⟨_, rfl⟩
          go_loopw [55] (fun x wr => ∃ (u : Nat), u ≤ z ∧ x = .int .i64 u ∧ Hid (TsW wr w.heap.size (.slice (some ⟨g, 0, none⟩) p cap) p (fun j => if j = i then prtT K (P i) u else if j < i then nmT K (P j) else mkN (P j)) rs) ∧ Hid (Below w.heap.size w wr)) (fun x _ => z - (intOf x).toNat)
          case atStart => exact ⟨0, by omega, rfl, HT2, hB⟩
          case round =>
            clear HT2 hB e1
            obtain ⟨u, hu, rfl, hT, hB⟩ := hrel
            by_cases hlt3 : u < z
            · have hrow := hT.out.row i hlt2
              simp only [if_pos] at hrow
              rw [HRI.out, prtT_len, HPL2.out i hlt2] at hrow
              obtain ⟨b', o', e', _, hcc⟩ := rdNd (rd_of_owns hrow) (by rw [prtT_len, HPL2.out i hlt2]; omega)
              cases e'
              obtain ⟨_, c1⟩ := hcc u (by rw [prtT_len, HPL2.out i hlt2]; exact hlt3)
              have f1 := World.ownsRow.frozenAt hrow (u * 2 + 1)
              rw [Nat.zero_add] at c1
              obtain ⟨y, hy⟩ : ∃ y, y = nS (prtT K (P i) u) u := ⟨_, rfl⟩
              rw [← hy] at c1
              have HI : Hid (∀ W, Calls Tryz.prog 47 #[.int .i64 (u : Int)] W fun e w' => e = .returned (.string (dgB u)) ∧ w' = W) := fun W => Tryz.strconv_Itoa_small u (by omega) W
              have hs1 := dgB_size u (by omega)
              have hT2 : TsW (wr.setCell ⟨b, u * 2 + 1, none⟩ (.string (⟨#[73]⟩ ++ dgB u))) w.heap.size (.slice (some ⟨g, 0, none⟩) p cap) p (fun j => if j = i then (prtT K (P i) u).set u (nP (prtT K (P i) u) u, ⟨#[73]⟩ ++ dgB u) else if j < i then nmT K (P j) else mkN (P j)) rs := (hT.out.setS (i := i) (j := u) hlt2 (by simp only [if_pos]; rw [HRI.out, prtT_len, HPL2.out i hlt2]) (⟨#[73]⟩ ++ dgB u)).congr fun j _ => by
                by_cases e : j = i
                · simp only [if_pos e, if_pos]
                · simp only [if_neg e]
              have hB2 : Below w.heap.size w (wr.setCell ⟨b, u * 2 + 1, none⟩ (.string (⟨#[73]⟩ ++ dgB u))) := bl_set hB.out _ _ _ _ hb1
              have hrow2 := hT2.row i hlt2
              simp only [if_pos] at hrow2
              rw [HRI.out, List.length_set, prtT_len, HPL2.out i hlt2] at hrow2
              have f2 := World.ownsRow.frozenAt hrow2 (u * 2 + 1)
              have HT2 := Lib.hid hT2
              have HB2 := Lib.hid hB2
              clear hrow hcc hy hT2 hB2 hrow2
              by_cases hlf : u + 1 < K
              · have d3 : decide ((K : Int) - 1 ≤ (u : Int)) = false := by simp; omega
                have d4 : decide ((K : Int) ≤ (u : Int) + 1) = false := by simp; omega
                have HNM : Hid (nmV K u = ⟨#[73]⟩ ++ dgB u) := if_pos hlf
                have HT3 : Hid (TsW (wr.setCell ⟨b, u * 2 + 1, none⟩ (.string (⟨#[73]⟩ ++ dgB u))) w.heap.size (.slice (some ⟨g, 0, none⟩) p cap) p (fun j => if j = i then prtT K (P i) (u + 1) else if j < i then nmT K (P j) else mkN (P j)) rs) := HT2.out.congr fun j _ => by
                  by_cases e : j = i
                  · rw [if_pos e, if_pos e, ← HNM.out, prtT_set (by rw [HPL2.out i hlt2]; exact hlt3)]
                  · rw [if_neg e, if_neg e]
                clear HT2 hT hB hlf HNM
                go_wp2_with fail
                refine (HI.out _).mono ?_
                rintro e w5 ⟨rfl, rfl⟩
                go_wp2_with fail
                go_roundw
                case rel => exact ⟨u + 1, by omega, by go_num, HT3, HB2⟩
                case measure => simp [intOf]; omega
              · have d3 : decide ((K : Int) - 1 ≤ (u : Int)) = true := by simp; omega
                have d4 : decide ((K : Int) ≤ (u : Int) + 1) = true := by simp; omega
                have HNM : Hid (nmV K u = ⟨#[76]⟩ ++ dgB (u + 1 - K)) := if_neg hlf
                have hT3 : TsW ((wr.setCell ⟨b, u * 2 + 1, none⟩ (.string (⟨#[73]⟩ ++ dgB u))).setCell ⟨b, u * 2 + 1, none⟩ (.string (⟨#[76]⟩ ++ dgB (u + 1 - K)))) w.heap.size (.slice (some ⟨g, 0, none⟩) p cap) p (fun j => if j = i then prtT K (P i) (u + 1) else if j < i then nmT K (P j) else mkN (P j)) rs := (HT2.out.setS (i := i) (j := u) hlt2 (by simp only [if_pos]; rw [HRI.out, List.length_set, prtT_len, HPL2.out i hlt2]) (⟨#[76]⟩ ++ dgB (u + 1 - K))).congr fun j _ => by
                  by_cases e : j = i
                  · simp only [if_pos e, if_pos]
                    rw [← HNM.out, prtT_set2 (by rw [HPL2.out i hlt2]; exact hlt3)]
                  · simp only [if_neg e]
                have HT3 := Lib.hid hT3
                have hB3 : Below w.heap.size w ((wr.setCell ⟨b, u * 2 + 1, none⟩ (.string (⟨#[73]⟩ ++ dgB u))).setCell ⟨b, u * 2 + 1, none⟩ (.string (⟨#[76]⟩ ++ dgB (u + 1 - K)))) := bl_set HB2.out _ _ _ _ hb1
                have HB3 := Lib.hid hB3
                have HI2 : Hid (∀ W, Calls Tryz.prog 47 #[.int .i64 ((u : Int) - (K : Int) + 1)] W fun e w' => e = .returned (.string (dgB (u + 1 - K))) ∧ w' = W) := fun W => by
                  rw [show (u : Int) - (K : Int) + 1 = ((u + 1 - K : Nat) : Int) by omega]
                  exact Tryz.strconv_Itoa_small (u + 1 - K) (by omega) W
                have hs2 := dgB_size (u + 1 - K) (by omega)
                clear HT2 hT hB HNM hT3 hB3 HB2
                go_wp2_with fail
                refine (HI.out _).mono ?_
                rintro e w5 ⟨rfl, rfl⟩
                go_wp2_with fail
                refine (HI2.out _).mono ?_
                rintro e w6 ⟨rfl, rfl⟩
                go_wp2_with fail
                go_roundw
                case rel => exact ⟨u + 1, by omega, by go_num, HT3, HB3⟩
                case measure => simp [intOf]; omega
            · obtain rfl : u = z := by omega
              have HT3 : Hid (TsW wr w.heap.size (.slice (some ⟨g, 0, none⟩) p cap) p (fun j => if j < i + 1 then nmT K (P j) else mkN (P j)) rs) := hT.out.congr fun j _ => by
                by_cases e : j = i
                · rw [if_pos e, if_pos (by omega), e, prtT_all _ _ (by rw [HPL2.out i hlt2]; exact Nat.le_refl _)]
                · rw [if_neg e]
                  by_cases q : j < i
                  · rw [if_pos q, if_pos (by omega)]
                  · rw [if_neg q, if_neg (by omega)]
              clear hT
              go_wp2_with fail
              go_roundw
              case rel => exact ⟨i + 1, by omega, by go_num, HT3, hB⟩
              case measure => simp [intOf]; omega
        · obtain rfl : i = p := by omega
          obtain ⟨q, rfl⟩ : ∃ q, i = q + 1 := ⟨i - 1, by omega⟩
          have hT2 : TsW wr w.heap.size (.slice (some ⟨g, 0, none⟩) (q + 1) cap) (q + 1) (fun j => nmT K (P j)) rs := hT.out.congr fun j hj => by rw [if_pos hj]
          have hso : (soP (N + 1)).Perm ((List.range (q + 1)).map fun j => parL (nmT K (P j))) := by
            have h1 := List.isPerm_iff.1 (soP_perm N hN)
            refine h1.trans ?_
            have e : (List.range (q + 1)).map (fun j => parL (nmT K (P j))) = trP N := by
              rw [← HNE.out]
              apply List.ext_getElem?
              intro j
              by_cases hj : j < q + 1
              · rw [List.getElem?_map, List.getElem?_range hj, Option.map_some, parL_nmT, ← HP.out, List.getD_eq_getElem?_getD, List.getElem?_eq_getElem (by rw [← HPP.out]; exact hj)]
                rfl
              · rw [List.getElem?_eq_none (by simp; omega), List.getElem?_eq_none (by rw [← HPP.out]; omega)]
            rw [e]
          have HSO := Lib.hid (sortTs_any (m := z) (soP (N + 1)) hT2 (by omega) (fun j hj => by unfold nmT; rw [List.length_map, List.length_range]; exact HPL2.out j hj) (by omega) (fun j hj u hu => by
            rw [nP_of_parL, parL_nmT, ← HP.out]
            have := (trP_row (k := K - 1) (i := j) (by omega) (by rw [← HPP.out]; exact hj)).2 u
            omega) hso (sgn_so N hN))
          clear hT hT2 hso
          go_wp2_with fail
          refine HSO.out.mono ?_
          rintro e w9 ⟨rfl, ⟨rs', T', hT9, hk9⟩, hb9⟩
          have HT9 := Lib.hid hT9
          have HK9 := Lib.hid hk9
          have HB9 := Lib.hid (hb9 w (Nat.le_refl _) hB.out)
          clear hT9 hk9 hb9 HSO
          go_wp2_with fail
          go_ret2
          refine ⟨_, rs', T', rfl, ?_, fun k hk => ?_, HB9.out⟩
          · rw [← HNE.out, ← HPP.out]; exact HT9.out
          · obtain ⟨h1, j, hj, h2⟩ := HK9.out k (by rw [HPP.out, HNE.out]; exact hk)
            rw [h2, parL_nmT] at h1
            rw [h2, h1, HMN.out]
end Go.Proofs.YtjmnakkkimgifaaGreatDoor
namespace Go.Proofs.YtjmnakkkimgifaaGreatDoor
open Go Go.RowKit Go.Shelf
attribute [local go_sem] Oper.semAt_some
theorem soP_len (k : Nat) (h : k < 5) : (soP (k + 1)).length = (trP k).length := (List.isPerm_iff.1 (soP_perm k h)).length_eq
theorem trL_in {N : Nat} (h : N < 5) : trE ((N + 1 : Nat) : Int) = 0 ∧ trL ((N + 1 : Nat) : Int) = (soP (N + 1)).map (nmT (N + 1)) := by
  unfold trE trL
  rw [if_pos (by omega), if_pos (by omega), Int.toNat_natCast]
  exact ⟨rfl, rfl⟩
def TrsPost (n : Int) (w : World) (e : Ending) (w' : World) : Prop := ∃ v rs, e = .returned (.tuple #[v, .int .i64 (trE n)]) ∧ TsW w' w.heap.size v (trL n).length (vT (trL n)) rs ∧ Below w.heap.size w w'
set_option maxRecDepth 100000 in
set_option maxHeartbeats 1000000 in
theorem trees_any (n : Int) (w : World) (h1 : -9223372036854775808 ≤ n) (h2 : n ≤ 9223372036854775807) :
    Calls Tryz.prog 21 #[.int .i64 n] w (TrsPost n w) := by
  by_cases h : 1 ≤ n ∧ n ≤ 5
  · obtain ⟨N, rfl⟩ : ∃ N : Nat, n = ((N + 1 : Nat) : Int) := ⟨(n - 1).toNat, by omega⟩
    obtain ⟨e1, e2⟩ := trL_in (N := N) (by omega)
    refine (trees_in N (by omega) w).mono ?_
    rintro e w' ⟨v, rs, T, rfl, hT, hk, hb⟩
    unfold TrsPost
    rw [e1, e2, List.length_map, soP_len N (by omega)]
    refine ⟨v, rs, rfl, hT.congr fun i hi => ?_, hb⟩
    rw [hk i hi]
    unfold vT
    rw [List.getD_eq_getElem?_getD, List.getD_eq_getElem?_getD, List.getElem?_map, List.getElem?_eq_getElem (show i < (soP (N + 1)).length by rw [soP_len N (by omega)]; exact hi)]
    rfl
  · have hE : Hid (trE n = 3) := if_neg h
    have hL : Hid (trL n = []) := if_neg h
    by_cases h0 : n < 1
    · have d1 : decide (n < 1) = true := by simp; omega
      clear h
      go_enter Tryz.func21, Tryz.ntmps21
      go_wp2_with fail
      go_ret2
      refine ⟨.slice none 0 0, fun _ => (none, 0, 0), by rw [hE.out]; rfl, ?_, Below.refl _ _⟩
      rw [hL.out]; exact TsW.zero _ _ _ _
    · have h5 : 5 < n := by omega
      have d1 : decide (n < 1) = false := by simp; omega
      have d2 : decide (5 < n) = true := by simp; omega
      clear h
      go_enter Tryz.func21, Tryz.ntmps21
      go_wp2_with fail
      go_ret2
      refine ⟨.slice none 0 0, fun _ => (none, 0, 0), by rw [hE.out]; rfl, ?_, Below.refl _ _⟩
      rw [hL.out]; exact TsW.zero _ _ _ _
/-- How an element of the rows stands. -/
def EvN (rs : Nat → Rw) (T : Nat → List Nd) (k : Nat) (O : Nat → Prop) (x : Value) (W : World) : Prop := ∃ b c, rs k = (some ⟨b, 0, none⟩, (T k).length, c) ∧ x = slR (rs k) ∧ ¬ O b ∧ Rd W (some ⟨b, 0, none⟩) (fl encNd (T k))
set_option maxRecDepth 100000 in
set_option maxHeartbeats 4000000 in
theorem values_gives (m n base g cap X : Nat) (T : Nat → List Nd) (rs : Nat → Rw) (w : World) (hm : 1 ≤ m) (hn : n ≤ 1152921504606846976) (h0 : 0 < n) (hX : Blk w X #[.slice (some ⟨g, 0, none⟩) n cap] 42) (hT : TsW w base (.slice (some ⟨g, 0, none⟩) n cap) n T rs) (hl : ∀ i, i < n → 0 < (T i).length) :
    GivesT Fence.wide m Tryz.prog 80 #[.pointer (some ⟨X, 0, none⟩)] (EvN rs T) n (fun B => B = X ∨ B = g ∨ ∃ i, i < n ∧ (slR (rs i)).ownBlock = some B) w := fun l J W O hW hJb hY hO hJ0 => by
  have hR0 : Hid (Rd W (some ⟨g, 0, none⟩) (fl encR ((List.range n).map rs))) := (rd_of_owns hT.rows).bl hW
  have hRR0 : Hid (∀ j, 0 ≤ j → j < n → Rd W (rs j).1 (fl encNd (T j))) := fun j _ hj => by
    obtain ⟨a, c, e, hr⟩ := hT.rd hj
    rw [e]; exact hr.bl hW
  have HRS : Hid (∀ j, j < n → ∃ b c, rs j = (some ⟨b, 0, none⟩, (T j).length, c)) := fun j hj => by
    obtain ⟨b, c, e, _⟩ := hT.at hj (hl j hj)
    exact ⟨b, c, e⟩
  have HDI : Hid (∀ i j, i < n → j < n → i ≠ j → (slR (rs i)).ownBlock ≠ (slR (rs j)).ownBlock) := fun i j hi hj hij => by
    rcases hT.dis i j hi hj hij with q | q
    · obtain ⟨b, c, e, _⟩ := hT.at hi (hl i hi)
      rw [e] at q; cases q
    · exact q
  have HFA : Hid (∀ i, i < n → (slR (rs i)).ownBlock ≠ some g) := fun i hi e => by
    rcases hT.far i hi with q | q
    · rw [q] at e; cases e
    · exact q e
  have HO0 : Hid (∀ B, O B → B < W.heap.size ∧ B ≠ g ∧ ∀ j, 0 ≤ j → j < n → (slR (rs j)).ownBlock ≠ some B) := fun B hB => by
    obtain ⟨h1, h2⟩ := hO B hB
    exact ⟨h1, fun e => h2 (.inr (.inl e)), fun j _ hj e => h2 (.inr (.inr ⟨j, hj, e⟩))⟩
  have HJB := Lib.hid hJb
  have HY := Lib.hid hY
  have HJ0 := Lib.hid hJ0
  have c0 : W.cell? ⟨X, 0, none⟩ = some (.slice (some ⟨g, 0, none⟩) n cap) := (hX.below hW).cell 0
  have hgs : g < W.heap.size := Nat.lt_of_lt_of_le (hT.rows.lt g rfl).2 hW.size
  have HRB : Hid (∀ i, i < n → ∀ B, (slR (rs i)).ownBlock = some B → B < W.heap.size) := fun i hi B e => Nat.lt_of_lt_of_le ((hT.row i hi).lt B e).2 hW.size
  clear hX hT hl hW hJb hY hO hJ0
  refine callsIn_of_wp Tryz.func80 rfl trivial ?_ rfl
  simp only [Tryz.ntmps80, List.size_toArray, List.length_cons, List.length_nil, Nat.reduceAdd, Nat.reduceSub, Array.replicate_succ, Array.replicate_zero, List.push_toArray, List.append_toArray, List.nil_append, List.cons_append]
  gi_wp2
  gi_loopw [7] (fun x wx => ∃ i : Nat, i ≤ n ∧ x = .int .i64 i ∧ Hid (Rd wx (some ⟨g, 0, none⟩) (fl encR ((List.range n).map rs))) ∧ Hid (∀ j, i ≤ j → j < n → Rd wx (rs j).1 (fl encNd (T j))) ∧ W.heap.size ≤ wx.heap.size ∧ ∃ O, Hid (J i O wx) ∧ Hid (∀ B, O B → B < wx.heap.size ∧ B ≠ g ∧ ∀ j, i ≤ j → j < n → (slR (rs j)).ownBlock ≠ some B)) (fun x _ => n - (intOf x).toNat)
  case atStart => exact ⟨0, by omega, rfl, hR0, hRR0, Nat.le_refl _, O, HJ0, HO0⟩
  case round =>
    clear hR0 hRR0 HJ0 HO0 c0
    obtain ⟨i, hi, rfl, hR, hRR, hsz, O2, hJ, hO⟩ := hrel
    by_cases hlt : i < n
    · obtain ⟨b', o', e', _, hc⟩ := rdR hR.out (by simp; omega)
      cases e'
      have c1 := hc i (by simpa using hlt)
      rw [Nat.zero_add] at c1
      simp [rA, rN, rC, hlt] at c1
      obtain ⟨b, c, hrs⟩ := HRS.out i hlt
      rw [hrs] at c1
      have hrd := hRR.out i (Nat.le_refl _) hlt
      rw [hrs] at hrd
      have hob : (slR (rs i)).ownBlock = some b := by rw [hrs]; rfl
      have hE : EvN rs T i O2 (.slice (some ⟨b, 0, none⟩) (T i).length c) wr := ⟨b, c, hrs, by rw [hrs]; rfl, fun h => ((hO.out b h).2.2 i (Nat.le_refl _) hlt) hob, hrd⟩
      obtain ⟨fn, tmps, assign, body, hy, hR2⟩ := HY.out i O2 _ wr hJ.out hlt (fun B hB => (hO.out B hB).1) hE
      have HOB := Lib.hid hob
      clear hc hrs hrd hob hE
      gi_wp2
      refine hR2.mono ?_
      rintro e W3 ⟨rfl, O', hJ3, hst⟩
      have hbl : b < W.heap.size := HRB.out i hlt b HOB.out
      have hgO : ¬ (O2 g ∨ (Value.slice (some ⟨b, 0, none⟩) (T i).length c).ownBlock = some g) := fun h => by
        rcases h with h | h
        · exact (hO.out g h).2.1 rfl
        · exact HFA.out i hlt (by rw [HOB.out]; exact h)
      have HR3 : Hid (Rd W3 (some ⟨g, 0, none⟩) (fl encR ((List.range n).map rs))) := hst.rd hR.out (fun b o e => by cases e; exact hgO)
      have HRR3 : Hid (∀ j, i + 1 ≤ j → j < n → Rd W3 (rs j).1 (fl encNd (T j))) := fun j hj hjn => by
        refine hst.rd (hRR.out j (by omega) hjn) (fun b2 o2 e h => ?_)
        obtain ⟨b3, c3, e3⟩ := HRS.out j hjn
        have hob3 : (slR (rs j)).ownBlock = some b3 := by rw [e3]; rfl
        rw [e3] at e
        cases e
        rcases h with h | h
        · exact (hO.out _ h).2.2 j (by omega) hjn hob3
        · exact HDI.out i j hlt hjn (by omega) (by rw [HOB.out, hob3]; exact h)
      have HS3 : W.heap.size ≤ W3.heap.size := Nat.le_trans hsz hst.size
      have HO3 : Hid (∀ B, O' B → B < W3.heap.size ∧ B ≠ g ∧ ∀ j, i + 1 ≤ j → j < n → (slR (rs j)).ownBlock ≠ some B) := fun B hB => by
        refine ⟨hst.lt B hB, ?_⟩
        rcases hst.old B hB with (h | h) | h
        · exact ⟨(hO.out B h).2.1, fun j hj hjn => (hO.out B h).2.2 j (by omega) hjn⟩
        · have hbB := Option.some.inj (show some b = some B from h)
          refine ⟨fun e => hgO (.inr (by rw [← e]; exact h)), fun j hj hjn e => HDI.out i j hlt hjn (by omega) (by rw [HOB.out, e, hbB])⟩
        · exact ⟨by omega, fun j _ hjn e => by have := HRB.out j hjn B e; omega⟩
      have HJ3 := Lib.hid hJ3
      clear hJ3 hst hy hR2 hR hRR hJ hO hgO
      gi_wp2
      try go_wp2_with fail
      go_roundw
      case rel => exact ⟨i + 1, by omega, by go_num, HR3, HRR3, HS3, O', HJ3, HO3⟩
      case measure => simp [intOf]; omega
    · obtain rfl : i = n := by omega
      gi_wp2
      go_end0
      exact ⟨⟨_, rfl⟩, O2, hJ.out⟩
theorem EvN.put {rs : Nat → Rw} {T : Nat → List Nd} {k : Nat} {O : Nat → Prop} {x : Value} {W : World} {l : Nat} {o o' : Obj} (h : EvN rs T k O x W) (hl : W.heap[l]? = some o) (hc : o.isCells = false) : EvN rs T k O x (W.putObj l o') := by
  obtain ⟨b, c, e, h1, h2, h3⟩ := h
  exact ⟨b, c, e, h1, h2, rd_walk h3 (grownBy_putObj' W l o') (fun r e => by cases e; exact ⟨o, hl, hc⟩)⟩
theorem values_any (a : Option Addr) (n c : Nat) (w : World) :
    Calls Tryz.prog 54 #[.slice a n c] w fun e w' => e = .returned (.func (.func 80) #[] #[.pointer (some ⟨w.heap.size, 0, none⟩)]) ∧ w' = w.alloc (.cells #[.slice a n c] 42) := by
  go_enter Tryz.func54, Tryz.ntmps54
  go_wp2
  go_ret
  exact ⟨rfl, rfl⟩
theorem trL_tree {n : Int} {k : Nat} (hk : k < (trL n).length) : 1 ≤ n ∧ n ≤ 5 ∧ (vT (trL n) k).length = 2 * (n.toNat - 1) + 1 ∧ ∀ v, (nS (vT (trL n) k) v).size ≤ 100 := by
  by_cases h : 1 ≤ n ∧ n ≤ 5
  · obtain ⟨N, rfl⟩ : ∃ N : Nat, n = ((N + 1 : Nat) : Int) := ⟨(n - 1).toNat, by omega⟩
    obtain ⟨e1, e2⟩ := trL_in (N := N) (by omega)
    rw [e2] at hk ⊢
    rw [List.length_map] at hk
    have e3 : vT ((soP (N + 1)).map (nmT (N + 1))) k = nmT (N + 1) ((soP (N + 1)).getD k []) := by
      unfold vT
      rw [List.getD_eq_getElem?_getD, List.getD_eq_getElem?_getD, List.getElem?_map, List.getElem?_eq_getElem hk]
      rfl
    have hlen : ((soP (N + 1)).getD k []).length = 2 * N + 1 := by
      have h1 := soP_asc N (by omega)
      rw [Bool.and_eq_true, List.all_eq_true] at h1
      have h2 := h1.2 ((soP (N + 1)).getD k []) (by rw [List.getD_eq_getElem?_getD, List.getElem?_eq_getElem hk]; exact List.getElem_mem hk)
      simpa using h2
    rw [e3]
    refine ⟨by omega, by omega, by unfold nmT; rw [List.length_map, List.length_range, hlen]; omega, fun v => ?_⟩
    unfold nS nmT
    rw [List.getD_eq_getElem?_getD, List.getElem?_map]
    have hN5 : N < 5 := by omega
    by_cases hv : v < ((soP (N + 1)).getD k []).length
    · rw [List.getElem?_range hv]
      show (nmV (N + 1) v).size ≤ 100
      unfold nmV
      split
      · rw [ByteArray.size_append]
        have := dgB_size v (by rw [hlen] at hv; omega)
        have e : (ByteArray.mk #[73]).size = 1 := rfl
        omega
      · rw [ByteArray.size_append]
        have := dgB_size (v + 1 - (N + 1)) (by rw [hlen] at hv; omega)
        have e : (ByteArray.mk #[76]).size = 1 := rfl
        omega
    · rw [List.getElem?_eq_none (by rw [List.length_range]; omega)]
      show ByteArray.empty.size ≤ 100
      decide
  · have e : trL n = [] := if_neg h
    rw [e] at hk
    exact absurd hk (by simp)
/-- What Best answers. -/
def bstE (L : Int) (l : List Nat) : Int := if chkT L l ≠ 0 then chkT L l else trE L
def bstI (L : Int) (l : List Nat) : Nat := minI (fun k => lenS L l (vT (trL L) k)) (trL L).length
def bstT (L : Int) (l : List Nat) : List Nd := vT (trL L) (bstI L l)
def BsPost (L : Int) (l : List Nat) (w : World) (e : Ending) (w' : World) : Prop :=
  ∃ v, e = .returned (.tuple #[v, .int .i64 (if bstE L l = 0 then lenS L l (bstT L l) else 0 : Nat), .int .i64 (bstE L l)]) ∧ (bstE L l ≠ 0 → v = .slice none 0 0) ∧ (bstE L l = 0 → ∃ b o c, v = .slice (some ⟨b, o, none⟩) (bstT L l).length c ∧ Rd w' (some ⟨b, o, none⟩) (fl encNd (bstT L l))) ∧ Below w.heap.size w w'
set_option maxRecDepth 100000 in
set_option maxHeartbeats 4000000 in
theorem best_any (L : Int) (a : Option Addr) (N c : Nat) (l : List Nat) (w : World) (hL1 : -9223372036854775808 ≤ L) (hL2 : L ≤ 9223372036854775807) (hl : l.length = N) (hN : N ≤ 1152921504606846976) (hA : Rd w a (fl encV l)) (hF : FitV l) :
    Calls Tryz.prog 22 #[.agg #[.int .i64 L, .slice a N c]] w (BsPost L l w) := by
  have hb0 := bl_alloc (Below.refl _ w) (.cells #[.int .i64 L, .slice a N c] 24)
  have hX := Blk.new w #[.int .i64 L, .slice a N c] 24
  have HC := Lib.hid (tchk_any L a N c l (w.alloc (.cells #[.int .i64 L, .slice a N c] 24)) hl hN (hA.bl hb0) hF)
  have HA0 := Lib.hid hA
  have HL := Lib.hid hl
  have HF := Lib.hid hF
  have HX := Lib.hid hX
  have HB0 := Lib.hid hb0
  obtain ⟨X, hXe⟩ : ∃ x, x = w.heap.size := ⟨_, rfl⟩
  have HXE := Lib.hid hXe
  rw [← hXe] at HX
  clear hl hA hF hX hb0 hXe
  go_enter Tryz.func22, Tryz.ntmps22
  go_wp2_with fail
  refine HC.out.mono ?_
  rintro e w2 ⟨rfl, hb2⟩
  have HB2 := Lib.hid (bl_trans HB0.out hb2)
  have HX2 := Lib.hid (HX.out.below hb2)
  clear hb2 HC HX HB0
  rw [← HXE.out]
  by_cases h0 : chkT L l = 0
  · have HE : Hid (bstE L l = trE L) := if_neg (fun e => e h0)
    have e0 : w2.cell? ⟨X, 0, none⟩ = some (.int .i64 L) := HX2.out.cell 0
    rw [h0]
    clear h0
    go_wp2_with fail
    refine (trees_any L w2 hL1 hL2).mono ?_
    rintro e w3 ⟨v, rs, rfl, hT, hb3⟩
    have HB3 := Lib.hid (bl_trans HB2.out hb3)
    have HX3 := Lib.hid (HX2.out.below hb3)
    have HT := Lib.hid hT
    clear hb3 hT HB2 HX2 e0
    by_cases h1 : trE L = 0
    · have hLr : 1 ≤ L ∧ L ≤ 5 := by
        unfold trE at h1
        by_cases q : 1 ≤ L ∧ L ≤ 5
        · exact q
        · rw [if_neg q] at h1; cases h1
      have hlen : 0 < (trL L).length ∧ (trL L).length ≤ 105 := by
        obtain ⟨M, rfl⟩ : ∃ M : Nat, L = ((M + 1 : Nat) : Int) := ⟨(L - 1).toNat, by omega⟩
        rw [(trL_in (N := M) (by omega)).2, List.length_map, soP_len M (by omega)]
        exact trP_len M (by omega)
      have HE0 : Hid (bstE L l = 0) := by show _ = _; rw [HE.out, h1]
      rw [h1]
      obtain ⟨g, cap, rfl, hg1, hg2, _⟩ := HT.out.cell hlen.1
      have HRA : Hid (Rd w3 a (fl encV l)) := HA0.out.bl HB3.out
      obtain ⟨q, hq⟩ : ∃ q, q = (trL L).length := ⟨_, rfl⟩
      rw [← hq] at HT hlen ⊢
      have HQ := Lib.hid hq
      have hb1 : Below w3.heap.size w3 w3.drew := bl_drewN (Below.refl _ w3) 1
      have hb5 := bl_trans hb1 (bl_alloc (Below.refl _ w3.drew) (.cells #[.slice (some ⟨g, 0, none⟩) q cap] 42))
      have HSH := Lib.hid (shortest_any L a N c l 80 (enters_of Tryz.func80 (by kernel_rfl) rfl) #[.pointer (some ⟨w3.drew.heap.size, 0, none⟩)] q (vT (trL L)) _ _ (w3.drew.alloc (.cells #[.slice (some ⟨g, 0, none⟩) q cap] 42)) HL.out hN (HRA.out.bl hb5) HF.out
        (values_gives 9 q w2.heap.size g cap w3.drew.heap.size (vT (trL L)) rs _ (by omega) (by omega) hlen.1 (Blk.new _ _ _) (HT.out.bl hb5) (fun i hi => by
          have := (trL_tree (n := L) (k := i) (by rw [← HQ.out]; exact hi)).2.2.1
          omega))
        (fun B h => by
          have hs := hb5.size
          rcases h with h | h | ⟨i, hi, h⟩
          · rw [h, World.size_alloc]; omega
          · rw [h]; omega
          · have := (HT.out.lt.2 i hi h).2; omega)
        (fun k O x W hk h => by
          obtain ⟨b, c', e, h1, h2, h3⟩ := h
          exact ⟨b, 0, c', by rw [h1, e]; rfl, h2, h3⟩)
        (fun k O x W l o o' h hl hc => h.put hl hc)
        (fun k hk => by
          obtain ⟨_, _, h1, h2⟩ := trL_tree (n := L) (k := k) (by rw [← HQ.out]; exact hk)
          exact ⟨by omega, fun v _ => Nat.le_trans (h2 v) (by omega)⟩))
      have hX5 := HX3.out.below hb5
      have e0 : w3.cell? ⟨X, 0, none⟩ = some (.int .i64 L) := HX3.out.cell 0
      have e1 : w3.cell? ⟨X, 1, none⟩ = some (.slice a N c) := HX3.out.cell 1
      have j0 : (w3.drew.alloc (.cells #[.slice (some ⟨g, 0, none⟩) q cap] 42)).cell? ⟨X, 0, none⟩ = some (.int .i64 L) := hX5.cell 0
      have j1 : (w3.drew.alloc (.cells #[.slice (some ⟨g, 0, none⟩) q cap] 42)).cell? ⟨X, 1, none⟩ = some (.slice a N c) := hX5.cell 1
      have HX5 := Lib.hid hX5
      have HB5 := Lib.hid hb5
      clear hb1 hb5 hX5 h1 hq hLr
      go_upto_region 7 with fail
      go_cut [8, 9] (fun x y wx => y = .int .i64 (minV (fun k => lenS L l (vT (trL L) k)) q : Nat) ∧ Hid (∃ b o c, x = .slice (some ⟨b, o, none⟩) (vT (trL L) (minI (fun k => lenS L l (vT (trL L) k)) q)).length c ∧ Rd wx (some ⟨b, o, none⟩) (fl encNd (vT (trL L) (minI (fun k => lenS L l (vT (trL L) k)) q)))) ∧ Hid (Below w3.heap.size w3 wx))
      case first =>
        go_region_held3 (fun w' => w'.cell? ⟨X, 0, none⟩ = some (.int .i64 L) ∧ w'.cell? ⟨X, 1, none⟩ = some (.slice a N c)) (go_keep) (first | (go_at_call 54; refine (values_any (some ⟨g, 0, none⟩) q cap _).mono ?_; rintro e w5 ⟨rfl, rfl⟩) | (go_at_call 53; refine HSH.out.mono ?_; rintro e w6 ⟨v, rfl, hv0, hv1, hb6⟩; have k0 : w6.cell? ⟨X, 0, none⟩ = some (.int .i64 L) := (HX5.out.below hb6).cell 0; have k1 : w6.cell? ⟨X, 1, none⟩ = some (.slice a N c) := (HX5.out.below hb6).cell 1; have HV1 := Lib.hid (hv1 hlen.1); have HB6 := Lib.hid (bl_trans HB5.out hb6); clear hv0 hv1 hb6))
        all_goals
          go_wp2_with fail
          go_meet
          exact ⟨rfl, HV1, HB6⟩
      case rest =>
        obtain ⟨rfl, hv, hb6⟩ := hcut
        go_wp2_with fail
        go_ret3
        have hI : bstT L l = vT (trL L) (minI (fun k => lenS L l (vT (trL L) k)) q) := by unfold bstT bstI; rw [HQ.out]
        refine ⟨u8, ?_, fun h => absurd HE0.out h, fun _ => ?_, bl_trans HB3.out hb6.out⟩
        · rw [HE0.out, if_pos rfl, hI]
          unfold minV
          rw [if_neg (by omega)]; rfl
        · rw [hI]; exact hv.out
    · have HE1 : Hid (bstE L l ≠ 0) := by show _ ≠ _; rw [HE.out]; exact h1
      obtain ⟨E, hEE⟩ : ∃ E, trE L = E := ⟨_, rfl⟩
      rw [hEE] at HE h1 ⊢
      have d0 : (E == 0) = false := by simp [h1]
      have d1 : (E != 0) = true := by simp [h1]
      clear hEE h1 HT
      go_wp2_with fail
      go_ret3
      exact ⟨.slice none 0 0, by rw [if_neg HE1.out, HE.out]; rfl, fun _ => rfl, fun h => absurd h HE1.out, HB3.out⟩
  · have HE : Hid (bstE L l = chkT L l) := if_pos h0
    obtain ⟨E, hEE⟩ : ∃ E, chkT L l = E := ⟨_, rfl⟩
    rw [hEE] at HE h0 ⊢
    have d0 : (E == 0) = false := by simp [h0]
    have d1 : (E != 0) = true := by simp [h0]
    have HE1 : Hid (bstE L l ≠ 0) := by show _ ≠ _; rw [HE.out]; exact h0
    clear hEE h0
    go_wp2_with fail
    go_ret3
    exact ⟨.slice none 0 0, by rw [if_neg HE1.out, HE.out]; rfl, fun _ => rfl, fun h => absurd h HE1.out, HB2.out⟩
end Go.Proofs.YtjmnakkkimgifaaGreatDoor
namespace Go.Proofs.YtjmnakkkimgifaaGreatDoor
open Go Go.RowKit Go.Shelf
/-- The name of node v of a written tree with m inner nodes. -/
def ndN (m v : Nat) : ByteArray := if v < m then ⟨#[73, UInt8.ofNat (48 + v)]⟩ else ⟨#[76, UInt8.ofNat (48 + (v - m))]⟩
def ndL (m : Nat) (P : List Int) : List Nd := (List.range P.length).map fun v => (iA P v, ndN m v)
theorem ndL_snoc {m : Nat} {P : List Int} {k : Nat} (hk : k < P.length) : ndL m (P.take (k + 1)) = ndL m (P.take k) ++ [(iA P k, ndN m k)] := by
  unfold ndL
  rw [List.length_take, List.length_take, show min (k + 1) P.length = k + 1 by omega, show min k P.length = k by omega, List.range_succ, List.map_append]
  congr 1
  · refine List.map_congr_left fun v hv => ?_
    have := List.mem_range.1 hv
    unfold iA
    rw [List.getD_eq_getElem?_getD, List.getD_eq_getElem?_getD, List.getElem?_take, List.getElem?_take, if_pos (by omega), if_pos (by omega)]
  · show [(iA (P.take (k + 1)) k, ndN m k)] = _
    unfold iA
    rw [List.getD_eq_getElem?_getD, List.getElem?_take, if_pos (by omega)]
    rfl
theorem toNat_dig {i : Nat} (h : i < 10) : (UInt8.ofNat (48 + i)).toNat = 48 + i := by
  rw [UInt8.toNat_ofNat_of_lt']; show 48 + i < 256; omega
theorem run_two (w : World) (a b : UInt8) : (convert 90 9 (.slice (some ⟨w.heap.size, 0, none⟩) 2 2)).run Tryz.prog (w.alloc (.cells #[.int .u8 (a.toNat : Int), .int .u8 (b.toNat : Int)] 5)) = .ok (.string ⟨#[a, b]⟩) (w.alloc (.cells #[.int .u8 (a.toNat : Int), .int .u8 (b.toNat : Int)] 5)) := by
  refine run_convert_bytes_back _ 90 9 5 ⟨w.heap.size, 0, none⟩ 2 [a, b] Tryz.underlying90 Tryz.underlying5 Tryz.underlying9 fun j hj => ?_
  have h1 := (Blk.new w #[.int .u8 (a.toNat : Int), .int .u8 (b.toNat : Int)] 5).cell j
  rcases j with _ | _ | j
  · simp [Addr.add]
  · simp [Addr.add]
  · simp at hj; omega
set_option maxRecDepth 100000 in
set_option maxHeartbeats 4000000 in
theorem nodes_any (m : Nat) (a : Option Addr) (n c : Nat) (P : List Int) (w : World) (hm : m ≤ 10) (hP : P.length = n) (hn : n ≤ 10) (hA : Rd w a (fl encI P)) :
    Calls Tryz.prog 29 #[.int .i64 m, .slice a n c] w fun e w' => ∃ v, e = .returned v ∧ w'.ownsRow w.heap.size 46 2 v n (fl encNd (ndL m P)) ∧ Below w.heap.size w w' := by
  have HP := Lib.hid hP
  have HA := Lib.hid hA
  clear hP hA
  go_enter Tryz.func29, Tryz.ntmps29
  go_wp2_with fail
  go_loopw [5, 6] (fun v x wr => ∃ k : Nat, k ≤ n ∧ x = .int .i64 k ∧ Hid (wr.ownsRow w.heap.size 46 2 v k (fl encNd (ndL m (P.take k)))) ∧ Hid (Below w.heap.size w wr)) (fun _ x _ => n - (intOf x).toNat)
  case atStart => exact ⟨0, by omega, rfl, World.ownsRow_nil _ _ _ _, Below.refl _ _⟩
  case round =>
    obtain ⟨k, hk, rfl, hO, hB⟩ := hrel
    by_cases hlt : k < n
    · have hc := (HA.out.bl hB.out)
      obtain ⟨b, o, rfl, hb, hcc⟩ := rdI hc (by rw [HP.out]; omega)
      have G := hcc k (by rw [HP.out]; exact hlt)
      obtain ⟨p, hp⟩ : ∃ p, p = iA P k := ⟨_, rfl⟩
      rw [← hp] at G
      have HPK := Lib.hid hp
      have HSN : Hid (ndL m (P.take (k + 1)) = ndL m (P.take k) ++ [(p, ndN m k)]) := by show _ = _; rw [hp]; exact ndL_snoc (by rw [HP.out]; exact hlt)
      have HLN : Hid ((ndL m (P.take k)).length = k) := by show _ = _; unfold ndL; rw [List.length_map, List.length_range, List.length_take, HP.out]; omega
      clear hc hcc hp
      have q1 := run_two wr 73 (UInt8.ofNat (48 + k))
      rw [toNat_dig (show k < 10 by omega)] at q1
      have e73 : ((73 : UInt8).toNat : Int) = 73 := rfl
      have e48 : ((48 + k : Nat) : Int) = 48 + (k : Int) := by omega
      rw [e73, e48] at q1
      by_cases hlf : k < m
      · have d1 : decide ((m : Int) ≤ (k : Int)) = false := by simp; omega
        have d2 : decide (m ≤ k) = false := by simp; omega
        have HNM : Hid (ndN m k = ⟨#[73, UInt8.ofNat (48 + k)]⟩) := if_pos hlf
        rw [HNM.out] at HSN
        obtain ⟨s, hs⟩ : ∃ s : ByteArray, s = ⟨#[73, UInt8.ofNat (48 + k)]⟩ := ⟨_, rfl⟩
        rw [← hs] at HSN q1
        have hb1 := bl_alloc (Below.refl _ wr) (.cells #[.int .u8 73, .int .u8 (48 + (k : Int))] 5)
        have HOO := Lib.hid (owns_below hO.out hb1)
        have HBB := Lib.hid (bl_trans hB.out (bl_alloc hb1 (.cells #[.int .i64 p, .string s] 46)))
        have hsz := hB.out.size
        clear hlf e73 e48 HNM hs hb1 hO hB
        go_wp2_with (at_builtin; refine push_Nd rfl (.tmp 29) (.tmp 36) rfl w.heap.size u5 (ndL m (P.take k)) k HLN.out.symm rfl (HOO.out.alloc _) _ _ (p, s) rfl (Blk.new2 _ _ _ _) (by omega) (by simp only [World.size_alloc]; omega) ?_; intro g8 cap8 w8 h81 h82 h83 h84; rw [← HSN.out] at h81; have H81 := Lib.hid h81; have H82 := Lib.hid h82; clear h81 h82 h83)
        have HB8 : Hid (Below w.heap.size w w8) := bl_grown HBB.out H82.out (fun r e => (HOO.out.lt r e).1)
        clear H82 HBB HOO q1
        go_roundw
        case rel => exact ⟨k + 1, by omega, by go_num, H81, HB8⟩
        case measure => simp [intOf]; omega
      · have d1 : decide ((m : Int) ≤ (k : Int)) = true := by simp; omega
        have d2 : decide (m ≤ k) = true := by simp; omega
        have HNM : Hid (ndN m k = ⟨#[76, UInt8.ofNat (48 + (k - m))]⟩) := if_neg hlf
        rw [HNM.out] at HSN
        have hb1 := bl_alloc (Below.refl _ wr) (.cells #[.int .u8 73, .int .u8 (48 + (k : Int))] 5)
        have q2 := run_two (wr.alloc (.cells #[.int .u8 73, .int .u8 (48 + (k : Int))] 5)) 76 (UInt8.ofNat (48 + (k - m)))
        rw [toNat_dig (show k - m < 10 by omega)] at q2
        have e76 : ((76 : UInt8).toNat : Int) = 76 := rfl
        have e49 : ((48 + (k - m) : Nat) : Int) = 48 + ((k : Int) - (m : Int)) := by omega
        rw [e76, e49, World.size_alloc] at q2
        obtain ⟨s0, hs0⟩ : ∃ s : ByteArray, s = ⟨#[73, UInt8.ofNat (48 + k)]⟩ := ⟨_, rfl⟩
        rw [← hs0] at q1
        obtain ⟨s, hs⟩ : ∃ s : ByteArray, s = ⟨#[76, UInt8.ofNat (48 + (k - m))]⟩ := ⟨_, rfl⟩
        rw [← hs] at HSN q2
        have hmk : (m : Int) ≤ (k : Int) := by omega
        have hb2 := bl_alloc hb1 (.cells #[.int .u8 76, .int .u8 (48 + ((k : Int) - (m : Int)))] 5)
        have HOO := Lib.hid (owns_below hO.out hb2)
        have HBB := Lib.hid (bl_trans hB.out (bl_alloc hb2 (.cells #[.int .i64 p, .string s] 46)))
        have hzb := Blk.new ((wr.alloc (.cells #[.int .u8 73, .int .u8 (48 + (k : Int))] 5)).alloc (.cells #[.int .u8 76, .int .u8 (48 + ((k : Int) - (m : Int)))] 5)) #[.int .i64 p, .string s] 46
        simp only [World.size_alloc] at hzb
        have HZB := Lib.hid hzb
        have hsz := hB.out.size
        clear hzb hlf e73 e48 e76 e49 HNM hs hs0 hb1 hb2 hO hB
        go_wp2_with (at_builtin; refine push_Nd rfl (.tmp 29) (.tmp 36) rfl w.heap.size u5 (ndL m (P.take k)) k HLN.out.symm rfl (HOO.out.alloc _) _ _ (p, s) rfl HZB.out (by omega) (by simp only [World.size_alloc]; omega) ?_; intro g8 cap8 w8 h81 h82 h83 h84; rw [← HSN.out] at h81; have H81 := Lib.hid h81; have H82 := Lib.hid h82; clear h81 h82 h83)
        have HB8 : Hid (Below w.heap.size w w8) := bl_grown HBB.out H82.out (fun r e => (HOO.out.lt r e).1)
        clear H82 HBB HOO q1 q2
        go_roundw
        case rel => exact ⟨k + 1, by omega, by go_num, H81, HB8⟩
        case measure => simp [intOf]; omega
    · obtain rfl : k = n := by omega
      have HO2 : Hid (wr.ownsRow w.heap.size 46 2 u5 k (fl encNd (ndL m P))) := by
        have h := hO.out
        rw [List.take_of_length_le (by rw [HP.out]; exact Nat.le_refl _)] at h; exact h
      clear hO
      go_wp2_with fail
      go_ret
      exact ⟨u5, rfl, HO2.out, hB.out⟩
end Go.Proofs.YtjmnakkkimgifaaGreatDoor
namespace Go.Proofs.YtjmnakkkimgifaaGreatDoor
open Go Go.RowKit Go.Shelf
theorem dg_app (c : UInt8) {v : Nat} (h : v < 10) : (⟨#[c]⟩ ++ dgB v : ByteArray) = ⟨#[c, UInt8.ofNat (48 + v)]⟩ := by
  unfold dgB
  rw [Lib.decDigits, dif_pos h]
  rfl
theorem nmV_nd {m v : Nat} (h1 : 1 ≤ m) (h : v < 10) : nmV m v = ndN (m - 1) v := by
  unfold nmV ndN
  by_cases e : v + 1 < m
  · rw [if_pos e, if_pos (by omega), dg_app _ h]
  · rw [if_neg e, if_neg (by omega), dg_app _ (by omega), show v + 1 - m = v - (m - 1) by omega]
theorem nmT_nd {m : Nat} {ps : List Int} (h1 : 1 ≤ m) (h : ps.length ≤ 10) : nmT m ps = ndL (m - 1) ps := by
  unfold nmT ndL
  exact List.map_congr_left fun v hv => by rw [nmV_nd h1 (by have := List.mem_range.1 hv; omega)]
theorem trL_nd {n : Int} : trL n = if 1 ≤ n ∧ n ≤ 5 then (soP n.toNat).map (ndL (n.toNat - 1)) else [] := by
  unfold trL
  by_cases h : 1 ≤ n ∧ n ≤ 5
  · rw [if_pos h, if_pos h]
    obtain ⟨N, rfl⟩ : ∃ N : Nat, n = ((N + 1 : Nat) : Int) := ⟨(n - 1).toNat, by omega⟩
    rw [Int.toNat_natCast]
    refine List.map_congr_left fun ps hp => nmT_nd (by omega) ?_
    have h1 := soP_asc N (by omega)
    rw [Bool.and_eq_true, List.all_eq_true] at h1
    have := h1.2 ps hp
    rw [decide_eq_true_eq] at this
    omega
  · rw [if_neg h, if_neg h]
def exF : List Nd := ndL 3 [-1, 0, 0, 1, 1, 2, 2]
def exC : List Nd := ndL 3 [-1, 0, 1, 2, 2, 1, 0]
theorem exF_ok : TreeOk exF := by decide +kernel
theorem exC_ok : TreeOk exC := by decide +kernel
theorem ex_len : chkP 4 [3, 5, 15] exF = 0 ∧ lenL 4 [3, 5, 15] exF = [1, 2, 0] := by decide +kernel
theorem ex_bin : binB exF exF.length = true ∧ binB exC exC.length = true := by decide +kernel
theorem ex_trees : trL 3 = [ndL 2 [-1, 0, 0, 1, 1], ndL 2 [-1, 0, 1, 0, 1], ndL 2 [-1, 0, 1, 1, 0]] := by
  rw [trL_nd, if_pos (by decide)]
  rfl
theorem ex_best : bstE 4 [3, 5, 5] = 0 ∧ bstT 4 [3, 5, 5] = ndL 3 [-1, 0, 0, 1, 2, 1, 2] ∧ lenS 4 [3, 5, 5] (bstT 4 [3, 5, 5]) = 4 := by
  unfold bstT bstI
  rw [trL_nd]
  decide +kernel
theorem ex_near : nearE exF = 0 ∧ (nearT exF).length = 4 := by
  have h : nearE exF = 0 := by
    unfold nearE
    rw [show chkE exF = 0 from if_pos exF_ok, if_neg (by simp), if_pos ex_bin.1]
  refine ⟨h, ?_⟩
  unfold nearT
  rw [if_pos h, near_len rfl exF_ok (binB_iff.1 ex_bin.1)]
  rfl
set_option maxRecDepth 100000 in
theorem ex_climb : clbE 4 [5] exC = 0 ∧ topL 4 [5] exC = ndL 3 [-1, 0, 1, 2, 1, 2, 0] ∧ lenS 4 [5] (topL 4 [5] exC) = 1 := by decide +kernel
end Go.Proofs.YtjmnakkkimgifaaGreatDoor
namespace Go.Proofs.YtjmnakkkimgifaaGreatDoor
open Go Go.RowKit Go.Shelf
theorem nodes_at (m : Nat) (P : List Int) (B n : Nat) (w : World) (hm : m ≤ 10) (hP : P.length = n) (h0 : 0 < n) (hn : n ≤ 10) (hB : Blk w B (fl encI P).toArray 3) :
    Calls Tryz.prog 29 #[.int .i64 m, .slice (some ⟨B, 0, none⟩) n n] w fun e w' => ∃ g c, e = .returned (.slice (some ⟨g, 0, none⟩) n c) ∧ w'.ownsRow w.heap.size 46 2 (.slice (some ⟨g, 0, none⟩) n c) n (fl encNd (ndL m P)) ∧ n ≤ c ∧ c ≤ 9223372036854775807 ∧ Below w.heap.size w w' := by
  refine (nodes_any m (some ⟨B, 0, none⟩) n n P w hm hP hn (Rd.of_blk hB)).mono ?_
  rintro e w' ⟨v, rfl, ho, hb⟩
  obtain ⟨g, c, rfl, _, _⟩ := ho.form h0
  exact ⟨g, c, rfl, ho, (own_cap ho).1, by have := (own_cap ho).2; unfold maxLen at this; omega, hb⟩
set_option maxHeartbeats 1000000 in
theorem table_any (w : World) : Calls Tryz.prog 26 #[] w fun e w' => ∃ B, e = .returned (.agg #[.int .i64 4, .slice (some ⟨B, 0, none⟩) 3 3]) ∧ Rd w' (some ⟨B, 0, none⟩) (fl encV [3, 5, 15]) ∧ Below w.heap.size w w' := by
  have hb := Blk.new2 w (.cells #[.int .i64 4, .slice (some ⟨w.heap.size + 1, 0, none⟩) 3 3] 24) (fl encV [3, 5, 15]).toArray 39
  have hbl : Below w.heap.size w ((w.alloc (.cells #[.int .i64 4, .slice (some ⟨w.heap.size + 1, 0, none⟩) 3 3] 24)).alloc (.cells (fl encV [3, 5, 15]).toArray 39)) := bl_alloc (bl_alloc (Below.refl _ _) _) _
  have HB := Lib.hid hb
  have HBL := Lib.hid hbl
  clear hb hbl
  go_enter Tryz.func26, Tryz.ntmps26
  go_wp2_with fail
  exact bodyPost_ret (v := .agg #[.int .i64 4, .slice (some ⟨w.heap.size + 1, 0, none⟩) 3 3]) (by simp [results, Tryz.results26, go_sem]) rfl ⟨w.heap.size + 1, rfl, Rd.of_blk HB.out, HBL.out⟩
set_option maxHeartbeats 1000000 in
theorem with_any (a : Option Addr) (n c : Nat) (w : World) : Calls Tryz.prog 28 #[.slice a n c] w fun e w' => e = .returned (.agg #[.int .i64 4, .slice a n c]) ∧ Below w.heap.size w w' := by
  have hbl : Below w.heap.size w (w.alloc (.cells #[.int .i64 4, .slice a n c] 24)) := bl_alloc (Below.refl _ _) _
  have HBL := Lib.hid hbl
  clear hbl
  go_enter Tryz.func28, Tryz.ntmps28
  go_wp2_with fail
  exact bodyPost_ret (v := .agg #[.int .i64 4, .slice a n c]) (by simp [results, Tryz.results28, go_sem]) rfl ⟨rfl, HBL.out⟩
set_option maxHeartbeats 1000000 in
theorem four_any33 (w : World) : Calls Tryz.prog 27 #[] w fun e w' => ∃ g c, e = .returned (.slice (some ⟨g, 0, none⟩) 7 c) ∧ Rd w' (some ⟨g, 0, none⟩) (fl encNd exF) ∧ 7 ≤ c ∧ c ≤ 9223372036854775807 ∧ Below w.heap.size w w' := by
  have HC := Lib.hid (nodes_at 3 [-1, 0, 0, 1, 1, 2, 2] w.heap.size 7 (w.alloc (.cells (fl encI [-1, 0, 0, 1, 1, 2, 2]).toArray 3)) (by omega) rfl (by omega) (by omega) (Blk.new _ _ _))
  have HB := Lib.hid (bl_alloc (Below.refl _ w) (.cells (fl encI [-1, 0, 0, 1, 1, 2, 2]).toArray 3))
  go_enter Tryz.func27, Tryz.ntmps27
  go_wp2_with fail
  refine HC.out.mono ?_
  rintro e w2 ⟨g, c, rfl, ho, hc1, hc2, hb⟩
  have HO := Lib.hid (rd_of_owns ho)
  have HB2 := Lib.hid (bl_trans HB.out hb)
  clear ho hb HC HB
  go_wp2_with fail
  go_ret
  exact ⟨g, c, rfl, HO.out, hc1, hc2, HB2.out⟩
theorem szF {m : Nat} {P : List Int} : ∀ v, (nS (ndL m P) v).size ≤ 9223372036854775807 := fun v => by
  unfold nS ndL
  rw [List.getD_eq_getElem?_getD, List.getElem?_map]
  cases (List.range P.length)[v]? with
  | none => show ByteArray.empty.size ≤ _; decide
  | some u =>
    show (ndN m u).size ≤ _
    unfold ndN
    split
    · show 2 ≤ _; decide
    · show 2 ≤ _; decide
theorem equal_same (a1 a2 : Option Addr) (n1 n2 c1 c2 : Nat) (l : List Int) (w : World) (hn1 : l.length = n1) (hn2 : l.length = n2) (hm1 : n1 ≤ 1152921504606846976) (hm2 : n2 ≤ 1152921504606846976) (hA : Rd w a1 (fl encI l)) (hB : Rd w a2 (fl encI l)) :
    Calls Tryz.prog 16 #[.slice a1 n1 c1, .slice a2 n2 c2] w fun e w' => e = .returned (.bool true) ∧ ∃ n, w' = w.drewN n :=
  (equal_any a1 a2 n1 n2 c1 c2 l l w hn1 hn2 hm1 hm2 hA hB).mono fun e w' h => ⟨by rw [h.1, decide_eq_true rfl], h.2⟩
theorem same_same (a1 a2 : Option Addr) (n1 n2 c1 c2 : Nat) (T : List Nd) (w : World) (hn1 : T.length = n1) (hn2 : T.length = n2) (hm1 : n1 ≤ 1152921504606846976) (hm2 : n2 ≤ 1152921504606846976) (hA : Rd w a1 (fl encNd T)) (hB : Rd w a2 (fl encNd T)) :
    Calls Tryz.prog 30 #[.slice a1 n1 c1, .slice a2 n2 c2] w fun e w' => e = .returned (.bool true) ∧ ∃ n, w' = w.drewN n :=
  (same2_any a1 a2 n1 n2 c1 c2 T T w hn1 hn2 hm1 hm2 hA hB).mono fun e w' h => ⟨by rw [h.1, decide_eq_true rfl], h.2⟩
/-- Three rows in a block of their own. -/
theorem ts_three {w : World} {base g0 g1 g2 c0 c1 c2 n0 n1 n2 : Nat} {T0 T1 T2 : List Nd} (h0 : w.ownsRow base 46 2 (.slice (some ⟨g0, 0, none⟩) n0 c0) n0 (fl encNd T0)) (h1 : w.ownsRow base 46 2 (.slice (some ⟨g1, 0, none⟩) n1 c1) n1 (fl encNd T1)) (h2 : w.ownsRow base 46 2 (.slice (some ⟨g2, 0, none⟩) n2 c2) n2 (fl encNd T2))
    (e0 : T0.length = n0) (e1 : T1.length = n1) (e2 : T2.length = n2) (l0 : g0 < g1) (l1 : g1 < g2) :
    TsW (w.alloc (.cells #[.slice (some ⟨g0, 0, none⟩) n0 c0, .slice (some ⟨g1, 0, none⟩) n1 c1, .slice (some ⟨g2, 0, none⟩) n2 c2] 25)) base (.slice (some ⟨w.heap.size, 0, none⟩) 3 3) 3 (vT [T0, T1, T2]) (fun i => if i = 0 then (some ⟨g0, 0, none⟩, n0, c0) else if i = 1 then (some ⟨g1, 0, none⟩, n1, c1) else (some ⟨g2, 0, none⟩, n2, c2)) := by
  have hb : Below w.heap.size w (w.alloc (.cells #[.slice (some ⟨g0, 0, none⟩) n0 c0, .slice (some ⟨g1, 0, none⟩) n1 c1, .slice (some ⟨g2, 0, none⟩) n2 c2] 25)) := bl_alloc (Below.refl _ _) _
  have q0 := (h0.lt g0 rfl)
  have q1 := (h1.lt g1 rfl)
  have q2 := (h2.lt g2 rfl)
  have ho := owns_made (w := w) (base := base) (e := 25) (k := 1) (n := 3) (cs := #[.slice (some ⟨g0, 0, none⟩) n0 c0, .slice (some ⟨g1, 0, none⟩) n1 c1, .slice (some ⟨g2, 0, none⟩) n2 c2]) (by omega) rfl (by decide)
  subst e0 e1 e2
  have key : ∀ i, i < 3 → i = 0 ∨ i = 1 ∨ i = 2 := fun i hi => by omega
  refine ⟨ho, fun i hi => ?_, fun i hi => ?_, fun i j hi hj hij => ?_, fun i hi => ?_⟩
  · rcases key i hi with rfl | rfl | rfl
    · exact owns_below h0 hb
    · exact owns_below h1 hb
    · exact owns_below h2 hb
  · rcases key i hi with rfl | rfl | rfl <;> rfl
  · right
    intro e
    rcases key i hi with rfl | rfl | rfl <;> rcases key j hj with rfl | rfl | rfl <;> first | omega | (have e' := Option.some.inj (show (some _ : Option Nat) = some _ from e); dsimp only at e'; omega)
  · right
    intro e
    rcases key i hi with rfl | rfl | rfl <;> (have e' := Option.some.inj (show (some _ : Option Nat) = some _ from e); dsimp only at e'; omega)
set_option maxRecDepth 100000 in
set_option maxHeartbeats 8000000 in
theorem works_any (w : World) : Calls Tryz.prog 9 #[] w fun e w' => e = .returned (.bool true) ∧ Below w.heap.size w w' := by
  go_enter Tryz.func9, Tryz.ntmps9
  go_wp2_with fail
  refine (table_any _).mono ?_
  rintro e w1 ⟨B1, rfl, hR1, hb1⟩
  have HR1 := Lib.hid hR1
  have HB1 := Lib.hid hb1
  clear hR1 hb1
  go_wp2_with fail
  refine (four_any33 _).mono ?_
  rintro e w2 ⟨g2, c2, rfl, hR2, hc2, hc2', hb2⟩
  have HL := Lib.hid (lengths_any 4 (some ⟨B1, 0, none⟩) 3 3 [3, 5, 15] (some ⟨g2, 0, none⟩) 7 c2 exF w2 rfl (by omega) (HR1.out.bl hb2) (fun i hi => by
    match i, hi with
    | 0, _ => decide
    | 1, _ => decide
    | 2, _ => decide) rfl (by omega) hR2 (fun v _ => szF v))
  rw [ex_len.1, ex_len.2] at HL
  have HB2 := Lib.hid (bl_trans HB1.out hb2)
  clear hR2 hb2 HB1 HR1
  go_wp2_with fail
  refine HL.out.mono ?_
  rintro e w3 ⟨v3, rfl, ho3, hb3⟩
  obtain ⟨g3, c3, rfl, _, _⟩ := World.ownsRow.form ho3 (by decide)
  have hc3 := own_cap ho3
  unfold maxLen at hc3
  have HR3 := Lib.hid (rd_of_owns ho3)
  have HB3 := Lib.hid (bl_trans HB2.out hb3)
  clear ho3 hb3 HL HB2
  go_wp2_with fail
  refine (trees_any 3 w3 (by omega) (by omega)).mono ?_
  rintro e w4 ⟨v4, rs4, rfl, hT4, hb4⟩
  rw [ex_trees] at hT4
  obtain ⟨g4, c4, rfl, _, _⟩ := hT4.rows.form (by decide)
  have hc4 := own_cap hT4.rows
  unfold maxLen at hc4
  have HT4 := Lib.hid hT4
  have HR4 := Lib.hid (HR3.out.bl hb4)
  have HB4 := Lib.hid (bl_trans HB3.out hb4)
  clear hT4 hb4 HR3 HB3
  have e3 : trE 3 = 0 := rfl
  rw [e3]
  go_wp2_with fail
  have hb5 := bl_alloc (Below.refl _ w4) (.cells (fl encV [3, 5, 5]).toArray 39)
  have HV5 := Lib.hid (Rd.of_blk (Blk.new w4 (fl encV [3, 5, 5]).toArray 39))
  have HT5 := Lib.hid (HT4.out.bl hb5)
  have HR5 := Lib.hid (HR4.out.bl hb5)
  have HB5 := Lib.hid (bl_trans HB4.out hb5)
  clear hb5 HT4 HR4 HB4
  refine (with_any _ _ _ _).mono ?_
  rintro e w6 ⟨rfl, hb6⟩
  have HV6 := Lib.hid (HV5.out.bl hb6)
  have HT6 := Lib.hid (HT5.out.bl hb6)
  have HR6 := Lib.hid (HR5.out.bl hb6)
  have HB6 := Lib.hid (bl_trans HB5.out hb6)
  clear hb6 HT5 HR5 HB5 HV5
  go_wp2_with fail
  refine (best_any 4 _ 3 3 [3, 5, 5] w6 (by omega) (by omega) rfl (by omega) HV6.out (fun i hi => by
    match i, hi with
    | 0, _ => decide
    | 1, _ => decide
    | 2, _ => decide)).mono ?_
  rintro e w7 ⟨v7, rfl, _, hv7, hb7⟩
  obtain ⟨b7, o7, c7, rfl, hr7⟩ := hv7 ex_best.1
  rw [ex_best.1, if_pos rfl, ex_best.2.2]
  rw [ex_best.2.1] at hr7 ⊢
  have hl7 : (ndL 3 [-1, 0, 0, 1, 2, 1, 2]).length = 7 := rfl
  rw [hl7]
  have HR7 := Lib.hid (HR6.out.bl hb7)
  have HT7 := Lib.hid (HT6.out.bl hb7)
  have HB7 := Lib.hid (bl_trans HB6.out hb7)
  have HS7 := Lib.hid hr7
  clear hv7 hr7 hb7 HR6 HT6 HB6 HV6
  go_wp2_with fail
  refine (four_any33 _).mono ?_
  rintro e w8 ⟨g8, c8, rfl, hR8, hc8, hc8', hb8⟩
  have HR8 := Lib.hid (HR7.out.bl hb8)
  have HT8 := Lib.hid (HT7.out.bl hb8)
  have HB8 := Lib.hid (bl_trans HB7.out hb8)
  have HS8 := Lib.hid (HS7.out.bl hb8)
  have HN := Lib.hid (near_any (some ⟨g8, 0, none⟩) 7 c8 exF w8 rfl (by omega) hR8 (fun v _ => szF v))
  rw [ex_near.1, ex_near.2] at HN
  clear hR8 hb8 HR7 HT7 HB7 HS7
  go_wp2_with fail
  refine HN.out.mono ?_
  rintro e w9 ⟨v9, rs9, rfl, hT9, hb9⟩
  obtain ⟨g9, c9, rfl, _, _⟩ := hT9.rows.form (by decide)
  have hc9 := own_cap hT9.rows
  unfold maxLen at hc9
  have HR9 := Lib.hid (HR8.out.bl hb9)
  have HT9 := Lib.hid (HT8.out.bl hb9)
  have HB9 := Lib.hid (bl_trans HB8.out hb9)
  have HS9 := Lib.hid (HS8.out.bl hb9)
  clear hT9 hb9 HN HR8 HT8 HB8 HS8
  go_wp2_with fail
  have hb10 := bl_alloc (Below.refl _ w9) (.cells (fl encV [5]).toArray 39)
  have HV10 := Lib.hid (Rd.of_blk (Blk.new w9 (fl encV [5]).toArray 39))
  have HB10 := Lib.hid (bl_trans HB9.out hb10)
  have HR10 := Lib.hid (HR9.out.bl hb10)
  have HT10 := Lib.hid (HT9.out.bl hb10)
  have HS10 := Lib.hid (HS9.out.bl hb10)
  clear hb10 HB9 HR9 HT9 HS9
  refine (with_any _ _ _ _).mono ?_
  rintro e w11 ⟨rfl, hb11⟩
  have hbI := bl_alloc hb11 (.cells (fl encI [-1, 0, 1, 2, 2, 1, 0]).toArray 3)
  have HN := Lib.hid (nodes_at 3 [-1, 0, 1, 2, 2, 1, 0] w11.heap.size 7 (w11.alloc (.cells (fl encI [-1, 0, 1, 2, 2, 1, 0]).toArray 3)) (by omega) rfl (by omega) (by omega) (Blk.new _ _ _))
  have HV11 := Lib.hid (HV10.out.bl hbI)
  have HB11 := Lib.hid (bl_trans HB10.out hbI)
  have HR11 := Lib.hid (HR10.out.bl hbI)
  have HT11 := Lib.hid (HT10.out.bl hbI)
  have HS11 := Lib.hid (HS10.out.bl hbI)
  clear hb11 hbI HB10 HR10 HT10 HS10 HV10
  go_wp2_with fail
  refine HN.out.mono ?_
  rintro e w12 ⟨g12, c12, rfl, ho12, hc12, hc12', hb12⟩
  have HCL := Lib.hid (climb_any 4 _ 1 1 [5] (some ⟨g12, 0, none⟩) 7 c12 exC w12 rfl (by omega) (HV11.out.bl hb12) (fun i hi => by
    match i, hi with
    | 0, _ => decide) rfl (by omega) (rd_of_owns ho12) (fun v _ => szF v))
  have HB12 := Lib.hid (bl_trans HB11.out hb12)
  have HR12 := Lib.hid (HR11.out.bl hb12)
  have HT12 := Lib.hid (HT11.out.bl hb12)
  have HS12 := Lib.hid (HS11.out.bl hb12)
  clear ho12 hb12 HN HB11 HR11 HT11 HS11 HV11
  go_wp2_with fail
  refine HCL.out.mono ?_
  rintro e w13 ⟨v13, rfl, _, hv13, hb13⟩
  obtain ⟨b13, o13, c13, rfl, hr13⟩ := hv13 ex_climb.1
  rw [ex_climb.1, if_pos rfl, ex_climb.2.2]
  rw [ex_climb.2.1] at hr13 ⊢
  have hl13 : (ndL 3 [-1, 0, 1, 2, 1, 2, 0]).length = 7 := rfl
  rw [hl13]
  have HB13 := Lib.hid (bl_trans HB12.out hb13)
  have HR13 := Lib.hid (HR12.out.bl hb13)
  have HT13 := Lib.hid (HT12.out.bl hb13)
  have HS13 := Lib.hid (HS12.out.bl hb13)
  have HC13 := Lib.hid hr13
  clear hv13 hr13 hb13 HCL HB12 HR12 HT12 HS12
  have hb14 := bl_alloc (Below.refl _ w13) (.cells (fl encI [1, 2, 0]).toArray 3)
  have HE := Lib.hid (equal_same (some ⟨g3, 0, none⟩) (some ⟨w13.heap.size, 0, none⟩) 3 3 c3 3 [1, 2, 0] (w13.alloc (.cells (fl encI [1, 2, 0]).toArray 3)) rfl rfl (by omega) (by omega) (HR13.out.bl hb14) (Rd.of_blk (Blk.new _ _ _)))
  have HB14 := Lib.hid (bl_trans HB13.out hb14)
  have HT14 := Lib.hid (HT13.out.bl hb14)
  have HS14 := Lib.hid (HS13.out.bl hb14)
  have HC14 := Lib.hid (HC13.out.bl hb14)
  clear hb14 HB13 HT13 HS13 HC13 HR13
  go_wp2_with fail
  refine HE.out.mono ?_
  rintro e w15 ⟨rfl, q15, rfl⟩
  obtain ⟨w16, hw16⟩ : ∃ x, x = (w13.alloc (.cells (fl encI [1, 2, 0]).toArray 3)).drewN q15 := ⟨_, rfl⟩
  have hb16 : Below (w13.alloc (.cells (fl encI [1, 2, 0]).toArray 3)).heap.size (w13.alloc (.cells (fl encI [1, 2, 0]).toArray 3)) w16 := by rw [hw16]; exact bl_drewN (Below.refl _ _) q15
  have HB16 := Lib.hid (bl_trans HB14.out hb16)
  have HT16 := Lib.hid (HT14.out.bl hb16)
  have HS16 := Lib.hid (HS14.out.bl hb16)
  have HC16 := Lib.hid (HC14.out.bl hb16)
  rw [← hw16]
  clear hb16 hw16 HB14 HT14 HS14 HC14 HE
  have hbI := bl_alloc (Below.refl _ w16) (.cells (fl encI [-1, 0, 0, 1, 1]).toArray 3)
  have HN := Lib.hid (nodes_at 2 [-1, 0, 0, 1, 1] w16.heap.size 5 (w16.alloc (.cells (fl encI [-1, 0, 0, 1, 1]).toArray 3)) (by omega) rfl (by omega) (by omega) (Blk.new _ _ _))
  go_wp2_with fail
  refine HN.out.mono ?_
  rintro e w17 ⟨g17, c17, rfl, ho17, hc17, hc17', hb17⟩
  have hb17 := bl_trans hbI hb17
  have HO17 := Lib.hid (owns_mono ho17 hbI.size)
  have HB17 := Lib.hid hb17
  clear HN ho17 hb17 hbI
  have hbI := bl_alloc (Below.refl _ w17) (.cells (fl encI [-1, 0, 1, 0, 1]).toArray 3)
  have HN := Lib.hid (nodes_at 2 [-1, 0, 1, 0, 1] w17.heap.size 5 (w17.alloc (.cells (fl encI [-1, 0, 1, 0, 1]).toArray 3)) (by omega) rfl (by omega) (by omega) (Blk.new _ _ _))
  go_wp2_with fail
  refine HN.out.mono ?_
  rintro e w18 ⟨g18, c18, rfl, ho18, hc18, hc18', hb18⟩
  have hb18 := bl_trans hbI hb18
  have HO18 := Lib.hid (owns_mono ho18 hbI.size)
  have HP17 := Lib.hid (owns_below HO17.out hb18)
  have HB18 := Lib.hid (bl_trans HB17.out hb18)
  have hl17 : g17 < g18 := by have := (HO17.out.lt g17 rfl).2; have := (HO18.out.lt g18 rfl).1; omega
  clear HN ho18 hb18 hbI HO17
  have hbI := bl_alloc (Below.refl _ w18) (.cells (fl encI [-1, 0, 1, 1, 0]).toArray 3)
  have HN := Lib.hid (nodes_at 2 [-1, 0, 1, 1, 0] w18.heap.size 5 (w18.alloc (.cells (fl encI [-1, 0, 1, 1, 0]).toArray 3)) (by omega) rfl (by omega) (by omega) (Blk.new _ _ _))
  go_wp2_with fail
  refine HN.out.mono ?_
  rintro e w19 ⟨g19, c19, rfl, ho19, hc19, hc19', hb19⟩
  have hb19 := bl_trans hbI hb19
  have HO19 := Lib.hid (owns_mono ho19 hbI.size)
  have HQ17 := Lib.hid (owns_below HP17.out hb19)
  have HQ18 := Lib.hid (owns_below HO18.out hb19)
  have hl18 : g18 < g19 := by have := (HO18.out.lt g18 rfl).2; have := (HO19.out.lt g19 rfl).1; omega
  have hbs := HB17.out.size
  have hbs2 := HB18.out.size
  have hts := ts_three (base := w16.heap.size) HQ17.out (owns_mono HQ18.out hbs) (owns_mono HO19.out hbs2) rfl rfl rfl hl17 hl18
  have hb20 := bl_alloc (bl_trans HB18.out hb19) (.cells #[.slice (some ⟨g17, 0, none⟩) 5 c17, .slice (some ⟨g18, 0, none⟩) 5 c18, .slice (some ⟨g19, 0, none⟩) 5 c19] 25)
  have HE := Lib.hid (lsame_any _ _ _ _ 3 _ _ _ _ (by omega) (HT16.out.bl hb20) hts (fun i hi => by
    have : i = 0 ∨ i = 1 ∨ i = 2 := by omega
    rcases this with rfl | rfl | rfl <;> (show 5 ≤ _; omega)))
  have HB20 := Lib.hid (bl_trans HB16.out hb20)
  have HS20 := Lib.hid (HS16.out.bl hb20)
  have HC20 := Lib.hid (HC16.out.bl hb20)
  clear HN ho19 hb19 hbI HP17 HO18 HO19 HQ17 HQ18 hts hb20 HB18 HB17 HB16 HT16 HS16 HC16
  go_wp2_with fail
  refine HE.out.mono ?_
  rintro e w21 ⟨rfl, q21, rfl⟩
  obtain ⟨w22, hw22⟩ : ∃ x, x = (w19.alloc (.cells #[.slice (some ⟨g17, 0, none⟩) 5 c17, .slice (some ⟨g18, 0, none⟩) 5 c18, .slice (some ⟨g19, 0, none⟩) 5 c19] 25)).drewN q21 := ⟨_, rfl⟩
  have hb22 : Below (w19.alloc (.cells #[.slice (some ⟨g17, 0, none⟩) 5 c17, .slice (some ⟨g18, 0, none⟩) 5 c18, .slice (some ⟨g19, 0, none⟩) 5 c19] 25)).heap.size (w19.alloc (.cells #[.slice (some ⟨g17, 0, none⟩) 5 c17, .slice (some ⟨g18, 0, none⟩) 5 c18, .slice (some ⟨g19, 0, none⟩) 5 c19] 25)) w22 := by rw [hw22]; exact bl_drewN (Below.refl _ _) q21
  have HB22 := Lib.hid (bl_trans HB20.out hb22)
  have HS22 := Lib.hid (HS20.out.bl hb22)
  have HC22 := Lib.hid (HC20.out.bl hb22)
  rw [← hw22]
  clear hb22 hw22 HB20 HS20 HC20 HE
  have hbI := bl_alloc (Below.refl _ w22) (.cells (fl encI [-1, 0, 0, 1, 2, 1, 2]).toArray 3)
  have HN := Lib.hid (nodes_at 3 [-1, 0, 0, 1, 2, 1, 2] w22.heap.size 7 (w22.alloc (.cells (fl encI [-1, 0, 0, 1, 2, 1, 2]).toArray 3)) (by omega) rfl (by omega) (by omega) (Blk.new _ _ _))
  go_wp2_with fail
  refine HN.out.mono ?_
  rintro e w23 ⟨g23, c23, rfl, ho23, hc23, hc23', hb23⟩
  have hb23 := bl_trans hbI hb23
  have HE := Lib.hid (same_same (some ⟨b7, o7, none⟩) (some ⟨g23, 0, none⟩) 7 7 c7 c23 _ w23 rfl rfl (by omega) (by omega) (HS22.out.bl hb23) (rd_of_owns ho23))
  have HB23 := Lib.hid (bl_trans HB22.out hb23)
  have HC23 := Lib.hid (HC22.out.bl hb23)
  clear HN ho23 hb23 hbI HB22 HS22 HC22
  go_wp2_with fail
  refine HE.out.mono ?_
  rintro e w24 ⟨rfl, q24, rfl⟩
  obtain ⟨w25, hw25⟩ : ∃ x, x = w23.drewN q24 := ⟨_, rfl⟩
  have hb25 : Below w23.heap.size w23 w25 := by rw [hw25]; exact bl_drewN (Below.refl _ _) q24
  have HB25 := Lib.hid (bl_trans HB23.out hb25)
  have HC25 := Lib.hid (HC23.out.bl hb25)
  rw [← hw25]
  clear hb25 hw25 HB23 HC23 HE
  have hbI := bl_alloc (Below.refl _ w25) (.cells (fl encI [-1, 0, 1, 2, 1, 2, 0]).toArray 3)
  have HN := Lib.hid (nodes_at 3 [-1, 0, 1, 2, 1, 2, 0] w25.heap.size 7 (w25.alloc (.cells (fl encI [-1, 0, 1, 2, 1, 2, 0]).toArray 3)) (by omega) rfl (by omega) (by omega) (Blk.new _ _ _))
  go_wp2_with fail
  refine HN.out.mono ?_
  rintro e w26 ⟨g26, c26, rfl, ho26, hc26, hc26', hb26⟩
  have hb26 := bl_trans hbI hb26
  have HE := Lib.hid (same_same (some ⟨b13, o13, none⟩) (some ⟨g26, 0, none⟩) 7 7 c13 c26 _ w26 rfl rfl (by omega) (by omega) (HC25.out.bl hb26) (rd_of_owns ho26))
  have HB26 := Lib.hid (bl_trans HB25.out hb26)
  clear HN ho26 hb26 hbI HB25 HC25
  go_wp2_with fail
  refine HE.out.mono ?_
  rintro e w27 ⟨rfl, q27, rfl⟩
  have HB27 := Lib.hid (bl_drewN HB26.out q27)
  clear HE HB26
  go_wp2_with fail
  go_ret
  exact ⟨rfl, HB27.out⟩
end Go.Proofs.YtjmnakkkimgifaaGreatDoor
namespace Go.Proofs.YtjmnakkkimgifaaGreatDoor
open Go Go.RowKit Go.Shelf
set_option maxRecDepth 100000 in
set_option maxHeartbeats 2000000 in
theorem rkids_any (v : Nat) (a : Option Addr) (n c : Nat) (t : List Nd) (w : World) (hn : t.length = n) (hN : n ≤ 1000) (hA : Rd w a (fl encNd t)) (h0 : nP t 0 < 0) :
    Calls Tryz.prog 82 #[.slice a n c, .int .i64 v] w fun e w' => ∃ x, e = .returned x ∧ w'.ownsRow w.heap.size 3 1 x (famL t n v).length (fl encI (iN (famL t n v))) ∧ Below w.heap.size w w' := by
  have HN := Lib.hid hn
  have HA := Lib.hid hA
  have H0 := Lib.hid h0
  clear hn hA h0
  go_enter Tryz.func82, Tryz.ntmps82
  go_wp2_with fail
  go_loopw [6, 5] (fun x u wr => ∃ k q : Nat, k ≤ n ∧ x = .int .i64 k ∧ q = (famL t k v).length ∧ Hid (wr.ownsRow w.heap.size 3 1 u q (fl encI (iN (famL t k v)))) ∧ Hid (Below w.heap.size w wr)) (fun x _ _ => n - (intOf x).toNat)
  case atStart => exact ⟨0, 0, by omega, rfl, rfl, World.ownsRow_nil _ _ _ _, Below.refl _ _⟩
  case round =>
    obtain ⟨k, q, hk, rfl, hq, how, hbl⟩ := hrel
    obtain ⟨Au, cu, rfl, _⟩ := owns_slice how.out
    have HQ := Lib.hid hq
    by_cases hlt : k < n
    · obtain ⟨b, o, rfl, hb, hc⟩ := rdNd (HA.out.bl hbl.out) (by rw [HN.out]; omega)
      obtain ⟨G1, G2⟩ := hc k (by rw [HN.out]; exact hlt)
      have hql : q ≤ k := by rw [hq]; exact famL_le t k v
      have HST := Lib.hid (famL_snoc t k v)
      have HKB : Hid (kidB t v k = decide (nP t k = (v : Int))) := by
        show _ = _
        unfold kidB
        by_cases e : 0 < k
        · simp [e]
        · obtain rfl : k = 0 := by omega
          have := H0.out
          rw [decide_eq_false (show ¬ nP t 0 = (v : Int) by omega)]; simp
      rw [HKB.out] at HST
      have hsz := hbl.out.size
      clear hc HKB hq
      generalize nP t k = p at *
      by_cases e : p = (v : Int)
      · have d1 : (p == (v : Int)) = true := by simp [e]
        rw [decide_eq_true e, if_pos rfl] at HST
        have hb1 : w.heap.size ≤ (wr.alloc (.cells #[.int .i64 k] 3)).heap.size := (bl_alloc hbl.out _).size
        clear e
        go_wp2_with (at_builtin; refine push_I rfl (.tmp 20) (.tmp 22) rfl w.heap.size (.slice Au q cu) (iN (famL t k v)) q (by rw [iN_len]; exact HQ.out) rfl (how.out.alloc _) _ _ (k : Int) rfl (Blk.new _ _ _) (by omega) hb1 ?_; intro g c6 w6 h1 h2 h3 h4; have H61 := Lib.hid h1; have H62 := Lib.hid h2; clear h1 h2 h3 h4)
        have H7 : Hid (w6.ownsRow w.heap.size 3 1 (.slice (some ⟨g, 0, none⟩) (q + 1) c6) (q + 1) (fl encI (iN (famL t (k + 1) v)))) := by
          rw [HST.out, iN_snoc]; exact H61.out
        have H8 := Lib.hid (bl_grown (bl_alloc hbl.out (.cells #[.int .i64 k] 3)) H62.out (fun r e => (how.out.lt r e).1))
        go_roundw
        case rel => exact ⟨k + 1, q + 1, by omega, by go_num, by rw [HST.out, List.length_append, ← HQ.out]; rfl, H7, H8⟩
        case measure => simp [intOf]; omega
      · have d1 : (p == (v : Int)) = false := by simp [e]
        have d2 : decide (p = (v : Int)) = false := by simp [e]
        rw [d2, if_neg (by simp), List.append_nil] at HST
        clear e
        go_wp2_with fail
        go_roundw
        case rel => exact ⟨k + 1, q, by omega, by go_num, by rw [HST.out]; exact HQ.out, by rw [HST.out]; exact how, hbl⟩
        case measure => simp [intOf]; omega
    · obtain rfl : k = n := by omega
      have HO := Lib.hid how.out
      clear how
      go_wp2_with fail
      go_ret
      exact ⟨_, rfl, by rw [← HQ.out]; exact HO.out, hbl.out⟩
end Go.Proofs.YtjmnakkkimgifaaGreatDoor
namespace Go.Proofs.YtjmnakkkimgifaaGreatDoor
open Go Go.RowKit Go.Shelf
set_option maxRecDepth 100000 in
set_option maxHeartbeats 2000000 in
theorem rLeaves_any (a : Option Addr) (n c : Nat) (t : List Nd) (w : World) (hn : t.length = n) (hN : n ≤ 1152921504606846976) (hA : Rd w a (fl encNd t)) (hS : ∀ v, v < n → (nS t v).size ≤ 9223372036854775807) :
    Calls Tryz.prog 59 #[.slice a n c] w fun e w' => ∃ v, e = .returned (.tuple #[v, .int .i64 (chkE t)]) ∧ w'.ownsRow w.heap.size 3 1 v (lvT t).length (fl encI (iN (lvT t))) ∧ Below w.heap.size w w' := by
  have HC := Lib.hid (rcheck_any a n c t w hn hN hA hS)
  have HN := Lib.hid hn
  have HA := Lib.hid hA
  clear hn hA hS
  go_enter Tryz.func59, Tryz.ntmps59
  go_wp2_with fail
  refine HC.out.mono ?_
  rintro e w1 ⟨rfl, m, rfl⟩
  by_cases hok : TreeOk t
  · have HCE := Lib.hid (chkE_good hok)
    have HLV : Hid (lvT t = lvsL t n) := by show _ = _; unfold lvT; rw [if_pos HCE.out, HN.out]
    have h63 : n ≤ 63 := by have := hok.2.1; have := HN.out; omega
    have HP0 : Hid (nP t 0 < 0) := by have := (hok.2.2 0 (by have := hok.1; omega)).1; exact this
    have HLF : Hid (∀ k, leafB t k = decide ((famL t n k).length = 0)) := fun k => by
      unfold leafB; rw [HN.out, Bool.eq_iff_iff]; simp
    rw [HCE.out]
    clear hok
    go_wp2_with fail
    go_loopw [6, 5] (fun x u wr => ∃ k q : Nat, k ≤ n ∧ x = .int .i64 k ∧ q = (lvsL t k).length ∧ Hid (wr.ownsRow w.heap.size 3 1 u q (fl encI (iN (lvsL t k)))) ∧ Hid (Below w.heap.size w wr)) (fun x _ _ => n - (intOf x).toNat)
    case atStart => exact ⟨0, 0, by omega, rfl, rfl, World.ownsRow_nil _ _ _ _, bl_drewN (Below.refl _ _) m⟩
    case round =>
      obtain ⟨k, q, hk, rfl, hq, how, hbl⟩ := hrel
      obtain ⟨Au, cu, rfl, _⟩ := owns_slice how.out
      have HQ := Lib.hid hq
      by_cases hlt : k < n
      · have hql : q ≤ k := by rw [hq]; exact lvsL_le t k
        have HST := Lib.hid (lvsL_snoc t k)
        rw [HLF.out k] at HST
        have HK := Lib.hid (rkids_any k a n c t wr HN.out (by omega) (HA.out.bl hbl.out) HP0.out)
        clear hq
        go_wp2_with fail
        refine HK.out.mono ?_
        rintro e w3 ⟨x3, rfl, ho3, hb3⟩
        obtain ⟨z, hz⟩ : ∃ z, (famL t n k).length = z := ⟨_, rfl⟩
        rw [hz] at ho3 HST
        obtain ⟨A3, c3, rfl, _⟩ := owns_slice ho3
        have HB3 := Lib.hid (bl_trans hbl.out hb3)
        have HO3 := Lib.hid (owns_below how.out hb3)
        clear ho3 hb3 hz how hbl HK
        by_cases e : z = 0
        · have d1 : ((z : Int) == 0) = true := by simp [e]
          rw [decide_eq_true e, if_pos rfl] at HST
          have hb1 : w.heap.size ≤ (w3.alloc (.cells #[.int .i64 k] 3)).heap.size := (bl_alloc HB3.out _).size
          subst e
          clear d1
          go_wp2_with (at_builtin; refine push_I rfl (.tmp 23) (.tmp 25) rfl w.heap.size (.slice Au q cu) (iN (lvsL t k)) q (by rw [iN_len]; exact HQ.out) rfl (HO3.out.alloc _) _ _ (k : Int) rfl (Blk.new _ _ _) (by omega) hb1 ?_; intro g c6 w6 h1 h2 h3 h4; have H61 := Lib.hid h1; have H62 := Lib.hid h2; clear h1 h2 h3 h4)
          have H7 : Hid (w6.ownsRow w.heap.size 3 1 (.slice (some ⟨g, 0, none⟩) (q + 1) c6) (q + 1) (fl encI (iN (lvsL t (k + 1))))) := by
            rw [HST.out, iN_snoc]; exact H61.out
          have H8 := Lib.hid (bl_grown (bl_alloc HB3.out (.cells #[.int .i64 k] 3)) H62.out (fun r e => (HO3.out.lt r e).1))
          go_roundw
          case rel => exact ⟨k + 1, q + 1, by omega, by go_num, by rw [HST.out, List.length_append, ← HQ.out]; rfl, H7, H8⟩
          case measure => simp [intOf]; omega
        · have d1 : ((z : Int) == 0) = false := by simp [e]
          have d3 : decide (z = 0) = false := by simp [e]
          rw [d3, if_neg (by simp), List.append_nil] at HST
          clear e
          go_wp2_with fail
          go_roundw
          case rel => exact ⟨k + 1, q, by omega, by go_num, by rw [HST.out]; exact HQ.out, by rw [HST.out]; exact HO3, HB3⟩
          case measure => simp [intOf]; omega
      · obtain rfl : k = n := by omega
        have HO := Lib.hid how.out
        clear how
        go_wp2_with fail
        exact bodyPost_ret (v := .tuple #[.slice Au q cu, .int .i64 0]) (by simp [results, Tryz.results59, go_sem]) rfl ⟨_, by rw [HCE.out], by rw [HLV.out, ← HQ.out]; exact HO.out, hbl.out⟩
  · have HCE := Lib.hid (chkE_bad hok)
    have HLV : Hid (lvT t = []) := by show _ = _; unfold lvT; rw [if_neg (by rw [HCE.out]; decide)]
    rw [HCE.out]
    clear hok
    go_wp2_with fail
    exact bodyPost_ret (v := .tuple #[.slice none 0 0, .int .i64 16]) (by simp [results, Tryz.results59, go_sem]) rfl ⟨_, by rw [HCE.out], by rw [HLV.out]; exact World.ownsRow_nil _ _ _ _, bl_drewN (Below.refl _ _) m⟩
end Go.Proofs.YtjmnakkkimgifaaGreatDoor
namespace Go.Proofs.YtjmnakkkimgifaaGreatDoor
open Go Go.RowKit Go.Shelf
set_option maxRecDepth 100000 in
set_option maxHeartbeats 1000000 in
theorem rschk_any (L : Int) (a : Option Addr) (N c : Nat) (l : List Nat) (w : World) (hl : l.length = N) (hN : N ≤ 1152921504606846976) (hA : Rd w a (fl encV l)) (hF : FitV l) :
    Calls Tryz.prog 55 #[.agg #[.int .i64 L, .slice a N c]] w fun e w' => e = .returned (.int .i64 (chkT L l)) ∧ Below w.heap.size w w' := by
  have hb0 := bl_alloc (Below.refl _ w) (.cells #[.int .i64 L, .slice a N c] 28)
  have HL := Lib.hid hl
  have HA := Lib.hid hA
  have HF := Lib.hid hF
  clear hl hA hF
  by_cases h1 : L < 0
  · have he : Hid (chkT L l = 3) := if_pos (.inl h1)
    have d1 : decide (L < 0) = true := by simpa using h1
    go_enter Tryz.func55, Tryz.ntmps55
    go_wp2_with fail
    go_ret
    exact ⟨by rw [he.out]; rfl, hb0⟩
  · have d1 : decide (L < 0) = false := by simpa using h1
    by_cases h2 : 32 < L
    · have he : Hid (chkT L l = 3) := if_pos (.inr h2)
      have d2 : decide (32 < L) = true := by simpa using h2
      go_enter Tryz.func55, Tryz.ntmps55
      go_wp2_with fail
      go_ret
      exact ⟨by rw [he.out]; rfl, hb0⟩
    · have d2 : decide (32 < L) = false := by simpa using h2
      by_cases h3 : 64 < N
      · have he : Hid (chkT L l = 12) := by show _ = _; unfold chkT; rw [if_neg (by omega), if_pos (by rw [HL.out]; exact h3)]
        have d3 : decide (64 < N) = true := by simpa using h3
        go_enter Tryz.func55, Tryz.ntmps55
        go_wp2_with fail
        go_ret
        exact ⟨by rw [he.out]; rfl, hb0⟩
      · have d3 : decide (64 < N) = false := by simpa using h3
        obtain ⟨M, rfl⟩ : ∃ M : Nat, L = M := ⟨L.toNat, by omega⟩
        have hM : M ≤ 32 := by omega
        have he : Hid (chkT (M : Int) l = if l.any (wide M) then 2 else 0) := by show _ = _; unfold chkT; rw [if_neg (by omega), if_neg (by rw [HL.out]; exact h3), Int.toNat_natCast]
        have hB := Blk.new w #[.int .i64 M, .slice a N c] 28
        have e0 := hB.cell 0
        have e1 := hB.cell 1
        obtain ⟨X, hX⟩ : ∃ X, X = w.heap.size := ⟨_, rfl⟩
        obtain ⟨w1, hw1⟩ : ∃ w1, w1 = w.alloc (.cells #[.int .i64 M, .slice a N c] 28) := ⟨_, rfl⟩
        rw [← hw1] at e0 e1 hb0
        have HA1 := Lib.hid (HA.out.bl hb0)
        rw [← hX] at e0 e1
        have e0' : w1.cell? ⟨X, 0, none⟩ = some (.int .i64 M) := e0
        have e1' : w1.cell? ⟨X, 1, none⟩ = some (.slice a N c) := e1
        have HB0 := Lib.hid hb0
        clear hB e0 e1 hb0
        go_enter Tryz.func55, Tryz.ntmps55
        go_upto_region 5 with fail
        rw [← hw1, ← hX]
        clear hw1 hX
        go_wp2_with fail
        go_loopw [3] (fun x wr => ∃ k : Nat, k ≤ N ∧ x = .int .i64 k ∧ Hid (NoneBefore (wide M) l k) ∧ ∃ m, wr = w1.drewN m) (fun x _ => N - (intOf x).toNat)
        case atStart => exact ⟨0, by omega, rfl, NoneBefore.zero _ _, 0, rfl⟩
        case round =>
          obtain ⟨k, hk, rfl, hnb, m, rfl⟩ := hrel
          by_cases hlt : k < N
          · obtain ⟨b, o, rfl, hb, hc⟩ := rdV HA1.out (by rw [HL.out]; omega)
            have hkl : k < l.length := by rw [HL.out]; exact hlt
            have G := hc k hkl
            have HNX : Hid (wide M (vA l k) = false → NoneBefore (wide M) l (k + 1)) := fun e => hnb.out.next hkl (by rw [← vA_get hkl]; exact e)
            have HY : Hid (wide M (vA l k) = true → l.any (wide M) = true) := fun e => any_at hkl e
            clear hc hkl
            generalize vA l k = z at *
            have hsh : ((z : Int) / 2 ^ M) = ((z / 2 ^ M : Nat) : Int) := by rw [Int.natCast_ediv, Int.natCast_pow]; rfl
            have hmn : (0 : Int) ≤ (M : Int) := by omega
            by_cases hz : z < 2 ^ M
            · have h0 : ((z : Int) / 2 ^ M) = 0 := by rw [hsh, Nat.div_eq_of_lt hz]; rfl
              have HN2 := Lib.hid (HNX.out (by unfold wide; simp [hz]))
              clear hsh hz hnb HNX HY
              go_wp2_with fail
              go_quiet (fail)
              go_wp2_with fail
              go_roundw
              case rel => exact ⟨k + 1, by omega, by go_num, HN2, m + nq, by simp⟩
              case measure => simp [intOf]; omega
            · obtain ⟨q, hq⟩ : ∃ q, q = z / 2 ^ M := ⟨_, rfl⟩
              have hq0 : 0 < q := by rw [hq]; exact Nat.div_pos (by omega) (Nat.two_pow_pos M)
              rw [← hq] at hsh
              have t1 : ((q : Int) != 0) = true := by simp; omega
              have t2 : ((q : Int) == 0) = false := by simp; omega
              have hy : Hid (l.any (wide M) = true) := HY.out (by unfold wide; simp [hz])
              have hE : Hid (chkT (M : Int) l = 2) := by show _ = _; rw [he.out, if_pos hy.out]
              clear hz hq hnb HNX HY hy
              go_wp2_with fail
              go_quiet (fail)
              go_wp2_with fail
              go_ret
              exact ⟨by rw [hE.out]; rfl, bl_drewN (bl_drewN HB0.out m) nq⟩
          · have hnone : Hid (l.any (wide M) = false) := hnb.out.any (by rw [HL.out]; omega)
            have hE : Hid (chkT (M : Int) l = 0) := by show _ = _; rw [he.out, hnone.out]; rfl
            clear hnb
            go_wp2_with fail
            go_ret
            exact ⟨by rw [hE.out]; rfl, bl_drewN HB0.out m⟩
set_option maxRecDepth 100000 in
set_option maxHeartbeats 4000000 in
theorem rboth_any (L : Int) (a : Option Addr) (N c : Nat) (l : List Nat) (b : Option Addr) (n d : Nat) (t : List Nd) (w : World) (hl : l.length = N) (hN : N ≤ 1152921504606846976) (hA : Rd w a (fl encV l)) (hF : FitV l)
    (ht : t.length = n) (hn : n ≤ 1152921504606846976) (hB : Rd w b (fl encNd t)) (hS : ∀ v, v < n → (nS t v).size ≤ 9223372036854775807) :
    Calls Tryz.prog 34 #[.agg #[.int .i64 L, .slice a N c], .slice b n d] w fun e w' => e = .returned (.int .i64 (chkP L l t)) ∧ Below w.heap.size w w' := by
  have hb0 := bl_alloc (Below.refl _ w) (.cells #[.int .i64 L, .slice a N c] 28)
  have hX := Blk.new w #[.int .i64 L, .slice a N c] 28
  have HC := Lib.hid (rschk_any L a N c l (w.alloc (.cells #[.int .i64 L, .slice a N c] 28)) hl hN (hA.bl hb0) hF)
  have HB := Lib.hid (hB.bl hb0)
  have HT := Lib.hid ht
  have HS := Lib.hid hS
  clear hl hA hF hB ht hS
  go_enter Tryz.func34, Tryz.ntmps34
  go_wp2_with fail
  refine HC.out.mono ?_
  rintro e w2 ⟨rfl, hb2⟩
  have HB2 := Lib.hid (bl_trans hb0 hb2)
  have HX2 := Lib.hid (hX.below hb2)
  have HR2 := Lib.hid (HB.out.bl hb2)
  clear hb0 hb2 hX HC HB
  by_cases h0 : chkT L l = 0
  · have HE : Hid (chkP L l t = if chkE t ≠ 0 then chkE t else if ((lvT t).length : Int) = L then 0 else 2) := if_neg (fun h => h h0)
    have HCK := Lib.hid (rcheck_any b n d t w2 HT.out hn HR2.out HS.out)
    rw [h0]
    clear h0
    go_wp2_with fail
    refine HCK.out.mono ?_
    rintro e w2' ⟨rfl, m, rfl⟩
    by_cases h1 : chkE t = 0
    · have HCE := Lib.hid h1
      have HC2 := Lib.hid (rLeaves_any b n d t (w2.drewN m) HT.out hn (HR2.out.drewN m) HS.out)
      rw [h1] at HC2 ⊢
      clear h1 HCK
      go_wp2_with fail
      refine HC2.out.mono ?_
      rintro e w3 ⟨v, rfl, ho, hb3⟩
      obtain ⟨A, cp, rfl, _⟩ := owns_slice ho
      have HB3 := Lib.hid (bl_trans (bl_drewN HB2.out m) hb3)
      have hx3 := (HX2.out.drewN m).below hb3
      obtain ⟨X, hXe⟩ : ∃ x, x = w.heap.size := ⟨_, rfl⟩
      rw [← hXe] at hx3 ⊢
      have c0 : w3.cell? ⟨X, 0, none⟩ = some (.int .i64 L) := hx3.cell 0
      obtain ⟨q, hq⟩ : ∃ q, q = (lvT t).length := ⟨_, rfl⟩
      rw [← hq] at HE ⊢
      have hq63 : q ≤ 9223372036854775807 := by
        rcases ho.2 with ⟨_, e⟩ | ⟨g, cp2, cur, e1, _, _, e2, e3, _⟩
        · omega
        · unfold maxLen at e3; omega
      clear ho hb3 hx3 hq hXe HC2
      rw [HCE.out] at HE
      by_cases h2 : (q : Int) = L
      · have hv : Hid (chkP L l t = 0) := by show _ = _; rw [HE.out, if_neg (by simp), if_pos h2]
        have t1 : ((q : Int) != L) = false := by simp [h2]
        have t2 : decide ((q : Int) = L) = true := by simp [h2]
        have t3 : ((q : Int) == L) = true := by simp [h2]
        clear HE h2
        go_wp2_with fail
        go_ret
        exact ⟨by rw [hv.out]; rfl, HB3.out⟩
      · have hv : Hid (chkP L l t = 2) := by show _ = _; rw [HE.out, if_neg (by simp), if_neg h2]
        have t1 : ((q : Int) != L) = true := by simp [h2]
        have t2 : decide ((q : Int) = L) = false := by simp [h2]
        have t3 : ((q : Int) == L) = false := by simp [h2]
        clear HE h2
        go_wp2_with fail
        go_ret
        exact ⟨by rw [hv.out]; rfl, HB3.out⟩
    · have h16 := (chk_tree' h1).1
      have hv : Hid (chkP L l t = 16) := by show _ = _; rw [HE.out, if_pos h1, h16]
      rw [h16]
      clear HE h1 h16 HCK
      go_wp2_with fail
      go_ret
      exact ⟨by rw [hv.out]; rfl, bl_drewN HB2.out m⟩
  · have hE : Hid (chkP L l t = chkT L l) := if_pos h0
    obtain ⟨E, hEE⟩ : ∃ E, chkT L l = E := ⟨_, rfl⟩
    rw [hEE] at hE h0 ⊢
    have d0 : (E == 0) = false := by simp [h0]
    have d1 : (E != 0) = true := by simp [h0]
    clear hEE h0
    go_wp2_with fail
    go_ret
    exact ⟨by rw [hE.out]; rfl, HB2.out⟩
end Go.Proofs.YtjmnakkkimgifaaGreatDoor
namespace Go.Proofs.YtjmnakkkimgifaaGreatDoor
open Go Go.RowKit Go.Shelf
set_option maxHeartbeats 1000000 in
theorem rnode_any (a : Option Addr) (n c v : Nat) (t : List Nd) (w : World) (hn : t.length = n) (hok : TreeOk t) (hv : v < n) (hA : Rd w a (fl encNd t)) (hS : ∀ v, v < n → (nS t v).size ≤ 9223372036854775807) :
    Calls Tryz.prog 85 #[.slice a n c, .int .i64 v] w fun e w' => e = .returned (.int .i64 0) ∧ ∃ m, w' = w.drewN m := by
  have hn63 : n ≤ 63 := by have := hok.2.1; omega
  have HC := Lib.hid (rcheck_any a n c t w hn (by omega) hA hS)
  rw [chkE_good hok] at HC
  have d1 : decide ((v : Int) < 0) = false := decide_eq_false (by omega)
  have d2 : decide ((n : Int) ≤ (v : Int)) = false := decide_eq_false (by omega)
  clear hn hok hA hS
  go_enter Tryz.func85, Tryz.ntmps85
  go_wp2_with fail
  refine HC.out.mono ?_
  rintro e w1 ⟨rfl, m, rfl⟩
  go_wp2_with fail
  go_ret
  exact ⟨rfl, m, rfl⟩
end Go.Proofs.YtjmnakkkimgifaaGreatDoor
namespace Go.Proofs.YtjmnakkkimgifaaGreatDoor
open Go Go.RowKit Go.Shelf
set_option maxHeartbeats 1000000 in
theorem rChildren_any (a : Option Addr) (n c v : Nat) (t : List Nd) (w : World) (hn : t.length = n) (hok : TreeOk t) (hv : v < n) (hA : Rd w a (fl encNd t)) (hS : ∀ v, v < n → (nS t v).size ≤ 9223372036854775807) :
    Calls Tryz.prog 63 #[.slice a n c, .int .i64 v] w fun e w' => ∃ x, e = .returned (.tuple #[x, .int .i64 0]) ∧ w'.ownsRow w.heap.size 3 1 x (famL t n v).length (fl encI (iN (famL t n v))) ∧ Below w.heap.size w w' := by
  have hn63 : n ≤ 63 := by have := hok.2.1; omega
  have HC := Lib.hid (rnode_any a n c v t w hn hok hv hA hS)
  have h0 : nP t 0 < 0 := by
    have h := hok.2.2 0 (by have := hok.1; omega)
    have := h.1
    omega
  have HK := Lib.hid (fun m => rkids_any v a n c t (w.drewN m) hn (by omega) (hA.drewN m) h0)
  clear hn hok hA hS h0
  go_enter Tryz.func63, Tryz.ntmps63
  go_wp2_with fail
  refine HC.out.mono ?_
  rintro e w1 ⟨rfl, m, rfl⟩
  have HK1 := Lib.hid (HK.out m)
  clear HC HK
  go_wp2_with fail
  refine HK1.out.mono ?_
  rintro e w2 ⟨x, rfl, ho, hb⟩
  have HO := Lib.hid ho
  have HB := Lib.hid (bl_trans (bl_drewN (Below.refl _ w) m) hb)
  clear ho hb HK1
  go_wp2_with fail
  go_ret2
  exact ⟨x, rfl, HO.out, HB.out⟩
/-- Which leaf a node is, or -1. -/
def ixL (t : List Nd) (v : Nat) : Int := idxF (fun x => decide (x = v)) (lvT t)
set_option maxRecDepth 100000 in
set_option maxHeartbeats 1000000 in
theorem rindex_any (a : Option Addr) (n c v : Nat) (t : List Nd) (w : World) (hn : t.length = n) (hok : TreeOk t) (hA : Rd w a (fl encNd t)) (hS : ∀ v, v < n → (nS t v).size ≤ 9223372036854775807) :
    Calls Tryz.prog 88 #[.slice a n c, .int .i64 v] w fun e w' => e = .returned (.int .i64 (ixL t v)) ∧ Below w.heap.size w w' := by
  have hn63 : n ≤ 63 := by have := hok.2.1; omega
  have HC := rLeaves_any a n c t w hn (by omega) hA hS
  rw [chkE_good hok] at HC
  have HC := Lib.hid HC
  have hl63 : (lvT t).length ≤ 63 := by
    unfold lvT
    rw [if_pos (chkE_good hok)]
    have := lvsL_le t t.length
    omega
  obtain ⟨m, hm⟩ : ∃ m, m = (lvT t).length := ⟨_, rfl⟩
  have HM := Lib.hid hm
  rw [← hm] at HC hl63
  clear hn hok hA hS hm
  go_enter Tryz.func88, Tryz.ntmps88
  go_wp2_with fail
  refine HC.out.mono ?_
  rintro e w1 ⟨x, rfl, ho, hb⟩
  obtain ⟨A, cp, rfl, _⟩ := owns_slice ho
  have HR := Lib.hid (rd_of_owns ho)
  have HB := Lib.hid hb
  clear ho hb HC
  go_wp2_with fail
  go_loopw [7] (fun x wr => ∃ k : Nat, k ≤ m ∧ x = .int .i64 k ∧ Hid (NoneBefore (fun x => decide (x = v)) (lvT t) k) ∧ wr = w1) (fun x _ => m - (intOf x).toNat)
  case atStart => exact ⟨0, by omega, rfl, NoneBefore.zero _ _, rfl⟩
  case round =>
    obtain ⟨k, hk, rfl, hN, rfl⟩ := hrel
    by_cases hlt : k < m
    · obtain ⟨bl, ol, rfl, hbl, hcl⟩ := rdI HR.out (by rw [iN_len, ← HM.out]; omega)
      have G := hcl k (by rw [iN_len, ← HM.out]; exact hlt)
      rw [iN_get, vA_get (by rw [← HM.out]; exact hlt)] at G
      have hkl : k < (lvT t).length := by rw [← HM.out]; exact hlt
      by_cases e : (lvT t)[k] = v
      · have HF : Hid (ixL t v = (k : Int)) := hN.out.found hkl (decide_eq_true e)
        rw [e] at G
        have t1 : ((v : Int) == (v : Int)) = true := by simp
        clear hcl hkl e hN
        go_wp2_with fail
        go_ret
        exact ⟨ret_i HF.out.symm, HB.out⟩
      · have HN2 := Lib.hid (hN.out.next hkl (decide_eq_false e))
        obtain ⟨y, hy⟩ : ∃ y, y = (lvT t)[k] := ⟨_, rfl⟩
        rw [← hy] at G e
        have t1 : ((y : Int) == (v : Int)) = false := by simp; omega
        have t2 : decide ((y : Int) = (v : Int)) = false := by simp; omega
        clear hcl hkl e hN hy
        go_wp2_with fail
        go_roundw
        case rel => exact ⟨k + 1, by omega, by go_num, HN2, by trivial⟩
        case measure => simp [intOf]; omega
    · have HF : Hid (ixL t v = -1) := hN.out.none (by rw [← HM.out]; omega)
      clear hN
      go_wp2_with fail
      go_ret
      exact ⟨ret_i HF.out.symm, HB.out⟩
end Go.Proofs.YtjmnakkkimgifaaGreatDoor
namespace Go.Proofs.YtjmnakkkimgifaaGreatDoor
open Go Go.RowKit Go.Shelf
/-- What kind b costs at node v when k leaves are done. -/
def i0 (t : List Nd) (x k v : Nat) (b : Bool) : Nat := if c0 t x k (2 * v + (if b then 1 else 0)) = 0 then 0 else 1000
theorem i0_zero (t : List Nd) (x v : Nat) (b : Bool) : i0 t x 0 v b = 0 := by unfold i0; rw [c0_zero, if_pos rfl]
theorem i0_succ {t : List Nd} {n x k v : Nat} {b : Bool} (hk : k < (lvsL t n).length) : i0 t x (k + 1) v b = if v = vA (lvsL t n) k ∧ b = !x.testBit k then 1000 else i0 t x k v b := by
  unfold i0
  rw [c0_succ hk]
  by_cases e : v = vA (lvsL t n) k ∧ b = !x.testBit k
  · have h1 : 2 * v + (if b then 1 else 0) = 2 * vA (lvsL t n) k + (1 - (if x.testBit k then 1 else 0)) := by
      rw [e.1, e.2]
      cases x.testBit k <;> rfl
    rw [if_pos h1, if_pos e, if_neg (by omega)]
  · have h1 : ¬ 2 * v + (if b then 1 else 0) = 2 * vA (lvsL t n) k + (1 - (if x.testBit k then 1 else 0)) := fun h => by
      cases hb : b <;> cases ht : x.testBit k <;> simp [hb, ht] at h e <;> omega
    rw [if_neg h1, if_neg e]
theorem i0_all {t : List Nd} {n x v : Nat} {b : Bool} (hv : v < n) : i0 t x (lvsL t n).length v b = upC 1000 t x 0 v b := by
  unfold i0
  rw [c0_all (by cases b <;> simp <;> omega)]
  unfold cC
  have e1 : (2 * v + (if b then 1 else 0)) / 2 = v := by cases b <;> simp <;> omega
  have e2 : ((2 * v + (if b then 1 else 0)) % 2 == 1) = b := by cases b <;> simp <;> omega
  rw [e1, e2]
  show (if (if offB t x v b then 1048576 else 0) = 0 then 0 else 1000) = if offB t x v b then 1000 else 0
  by_cases q : offB t x v b = true <;> simp [q]
theorem made_ofF (n : Nat) (z : Value) : madeCells #[z] n = ofF n (fun _ => z) := by
  have h := (ofF_congr (n := n) (g := fun _ => z) (g' := fun _ => z) (fun _ _ => rfl))
  apply Array.ext
  · simp [madeCells, ofF]
  · intro i h1 h2
    simp only [madeCells, ofF, Array.getElem_ofFn]
    simp [Nat.mod_one]
/-- Two rows of costs. -/
structure TwoB (w : World) (gw go n : Nat) (f : Nat → Bool → Nat) : Prop where
  ne : gw ≠ go
  wi : Blk w gw (ofF n fun i => .int .i64 (f i true : Nat)) 3
  wo : Blk w go (ofF n fun i => .int .i64 (f i false : Nat)) 3
theorem TwoB.drewN {w : World} {gw go n : Nat} {f : Nat → Bool → Nat} (h : TwoB w gw go n f) (k : Nat) : TwoB (w.drewN k) gw go n f := ⟨h.ne, h.wi.drewN k, h.wo.drewN k⟩
theorem TwoB.setW {w : World} {gw go n : Nat} {f g : Nat → Bool → Nat} (h : TwoB w gw go n f) (u c : Nat) (h1 : ∀ i, i < n → g i true = if i = u then c else f i true) (h2 : ∀ i, i < n → g i false = f i false) : TwoB (w.setCell ⟨gw, u, none⟩ (.int .i64 c)) gw go n g := by
  refine ⟨h.ne, ?_, ?_⟩
  · have h3 := h.wi.setF u (.int .i64 c)
    rw [ofF_congr (g' := fun i => .int .i64 (g i true : Nat)) (fun i hi => by rw [h1 i hi]; by_cases e : i = u <;> simp [e])] at h3
    exact h3
  · have h3 := h.wo.other (fun e => h.ne e.symm) u (.int .i64 c)
    rw [ofF_congr (g' := fun i => .int .i64 (g i false : Nat)) (fun i hi => by rw [h2 i hi])] at h3
    exact h3
theorem TwoB.setO {w : World} {gw go n : Nat} {f g : Nat → Bool → Nat} (h : TwoB w gw go n f) (u c : Nat) (h1 : ∀ i, i < n → g i false = if i = u then c else f i false) (h2 : ∀ i, i < n → g i true = f i true) : TwoB (w.setCell ⟨go, u, none⟩ (.int .i64 c)) gw go n g := by
  refine ⟨h.ne, ?_, ?_⟩
  · have h3 := h.wi.other h.ne u (.int .i64 c)
    rw [ofF_congr (g' := fun i => .int .i64 (g i true : Nat)) (fun i hi => by rw [h2 i hi])] at h3
    exact h3
  · have h3 := h.wo.setF u (.int .i64 c)
    rw [ofF_congr (g' := fun i => .int .i64 (g i false : Nat)) (fun i hi => by rw [h1 i hi]; by_cases e : i = u <;> simp [e])] at h3
    exact h3
set_option maxRecDepth 100000 in
set_option maxHeartbeats 4000000 in
theorem rchanges_any (x : Nat) (a : Option Addr) (n d : Nat) (t : List Nd) (w : World) (hx : x < 18446744073709551616) (hn : t.length = n) (hok : TreeOk t) (hA : Rd w a (fl encNd t)) (hS : ∀ v, v < n → (nS t v).size ≤ 9223372036854775807) :
    Calls Tryz.prog 35 #[.int .u64 x, .slice a n d] w fun e w' => e = .returned (.int .i64 (chg t x)) ∧ Below w.heap.size w w' := by
  have hn63 : n ≤ 63 := by have := hok.2.1; omega
  have h1n : 1 ≤ n := by have := hok.1; omega
  have hP := tok_par hn hok
  have HC := rLeaves_any a n d t w hn (by omega) hA hS
  have hlv : lvT t = lvsL t n := by unfold lvT; rw [if_pos (chkE_good hok), hn]
  rw [chkE_good hok, hlv] at HC
  have HC := Lib.hid HC
  obtain ⟨m, hm⟩ : ∃ m, m = (lvsL t n).length := ⟨_, rfl⟩
  have hm63 : m ≤ 63 := by have := lvsL_le t n; omega
  have HM := Lib.hid hm
  rw [← hm] at HC
  have HA := Lib.hid hA
  have HN := Lib.hid hn
  have HP := Lib.hid hP
  have HE : Hid (min (upC 1000 t x (n - 1) 0 false) (upC 1000 t x (n - 1) 0 true) = chg t x) := by
    have h := chgI_eq (I := 1000) (by omega) (t := t) (by omega) x
    unfold chgI at h
    rw [hn] at h; exact h
  obtain ⟨i8, hi8, hz8, hz81, hz82⟩ := info_parts info_I
  have HMK : Hid (∀ W : World, _) := fun W : World => by
    have hmk := run_make (P := Tryz.prog) W 29 3 i8 _ Tryz.underlying29 hi8 hz8 .i64 .i64 (n : Int) (n : Int) (by omega) (by omega) (by rw [hz82]; omega) (by omega)
    simp only [hz81, Int.toNat_natCast, Nat.mul_one] at hmk
    have e : madeCells (Value.int .i64 0).cells n = ofF n (fun _ => .int .i64 0) := made_ofF n _
    rw [e] at hmk
    exact hmk
  clear hn hok hA hS hP hm hlv hi8 hz8 hz81 hz82
  go_enter Tryz.func35, Tryz.ntmps35
  go_wp2_with fail
  refine HC.out.mono ?_
  rintro e w1 ⟨v1, rfl, ho, hb⟩
  obtain ⟨A, cp, rfl, _⟩ := owns_slice ho
  have HR := Lib.hid (rd_of_owns ho)
  have HB := Lib.hid hb
  clear ho hb HC
  go_upto_region 2 with fail
  go_cut [7, 8] (fun sw so wx => ∃ gw go, sw = .slice (some ⟨gw, 0, none⟩) n n ∧ so = .slice (some ⟨go, 0, none⟩) n n ∧ w1.heap.size ≤ gw ∧ w1.heap.size ≤ go ∧ Hid (TwoB wx gw go n fun _ _ => 0) ∧ Hid (Below w1.heap.size w1 wx))
  case first =>
    have hmk := HMK.out
    go_region_held3 (fun _ => True) (exact trivial) (fail)
    · go_wp2_with fail
      go_meet
      exact ⟨_, _, rfl, rfl, Nat.le_refl _, Nat.le_succ _, ⟨by omega, ((Blk.new w1 _ _).alloc _).drewN 1, (Blk.new2 w1 _ _ _).drewN 1⟩, bl_drewN (bl_alloc (bl_alloc (Below.refl _ _) _) _) 1⟩
    · go_wp2_with fail
      go_meet
      exact ⟨_, _, rfl, rfl, Nat.le_succ _, Nat.le_refl _, ⟨by omega, (Blk.new2 w1 _ _ _).drewN 1, ((Blk.new w1 _ _).alloc _).drewN 1⟩, bl_drewN (bl_alloc (bl_alloc (Below.refl _ _) _) _) 1⟩
  case rest =>
    obtain ⟨gw, go, rfl, rfl, hgw, hgo, hT, hBl⟩ := hcut
    have HT0 : Hid (TwoB wc gw go n (i0 t x 0)) := by
      show TwoB _ _ _ _ _
      have : i0 t x 0 = fun _ _ => 0 := by funext v b; exact i0_zero t x v b
      rw [this]; exact hT.out
    clear hT HMK
    go_wp2_with fail
    go_loopw [9] (fun y wr => ∃ k : Nat, k ≤ m ∧ y = .int .i64 k ∧ Hid (TwoB wr gw go n (i0 t x k)) ∧ Hid (Below w1.heap.size w1 wr)) (fun y _ => m - (intOf y).toNat)
    case atStart => exact ⟨0, by omega, rfl, HT0, hBl⟩
    case round =>
      clear HT0 hBl
      obtain ⟨k, hk, rfl, hT, hB⟩ := hrel
      by_cases hlt : k < m
      · obtain ⟨bl, ol, rfl, hbl, hcl⟩ := rdI HR.out (by rw [iN_len, ← HM.out]; omega)
        have G := hcl k (by rw [iN_len, ← HM.out]; exact hlt)
        rw [iN_get] at G
        have G' := (hB.out.cell (p := ⟨bl, ol + k, none⟩) hbl).trans G
        obtain ⟨l1, l2, l3⟩ := lvs_at t n k (by rw [← HM.out]; exact hlt)
        have HSN : Hid (∀ v b, i0 t x (k + 1) v b = if v = vA (lvsL t n) k ∧ b = !x.testBit k then 1000 else i0 t x k v b) := fun v b => i0_succ (by rw [← HM.out]; exact hlt)
        clear hcl G l2 l3
        generalize vA (lvsL t n) k = u at *
        have hba := bit_and hx k
        cases hb : x.testBit k
        · rw [hb] at hba HSN
          have hT2 := hT.out.setW u 1000 (g := i0 t x (k + 1)) (fun i hi => by rw [HSN.out]; by_cases e : i = u <;> simp [e]) (fun i hi => by rw [HSN.out]; simp)
          have HT2 := Lib.hid hT2
          have HB2 := Lib.hid (bl_set hB.out gw u none (.int .i64 1000) hgw)
          have f4 := hT.out.wi.free u
          have c4 := hT.out.wi.getF u l1
          clear hb hT2 hT hB
          go_wp2_with fail
          go_roundw
          case rel => exact ⟨k + 1, by omega, by go_num, HT2, HB2⟩
          case measure => simp [intOf]; omega
        · rw [hb] at hba HSN
          have hT2 := hT.out.setO u 1000 (g := i0 t x (k + 1)) (fun i hi => by rw [HSN.out]; by_cases e : i = u <;> simp [e]) (fun i hi => by rw [HSN.out]; simp)
          have HT2 := Lib.hid hT2
          have HB2 := Lib.hid (bl_set hB.out go u none (.int .i64 1000) hgo)
          have f4 := hT.out.wo.free u
          have c4 := hT.out.wo.getF u l1
          clear hb hT2 hT hB
          go_wp2_with fail
          go_roundw
          case rel => exact ⟨k + 1, by omega, by go_num, HT2, HB2⟩
          case measure => simp [intOf]; omega
      · obtain rfl : k = m := by omega
        have HT1 : Hid (TwoB wr gw go n (fun v b => upC 1000 t x 0 v b)) := by
          have h := hT.out
          rw [HM.out] at h
          refine ⟨h.ne, ?_, ?_⟩
          · have h2 := h.wi
            rw [ofF_congr (g' := fun i => .int .i64 (upC 1000 t x 0 i true : Nat)) (fun i hi => by rw [i0_all hi])] at h2
            exact h2
          · have h2 := h.wo
            rw [ofF_congr (g' := fun i => .int .i64 (upC 1000 t x 0 i false : Nat)) (fun i hi => by rw [i0_all hi])] at h2
            exact h2
        clear hT
        go_wp2_with fail
        obtain ⟨wo2, rfl⟩ : ∃ wo2 : World, wo2 = wr := ⟨_, rfl⟩
        go_loopw [10] (fun y wr => ∃ j : Nat, j ≤ n - 1 ∧ y = .int .i64 ((n - 1 - j : Nat) : Int) ∧ Hid (TwoB wr gw go n (fun v b => upC 1000 t x j v b)) ∧ Hid (Below w1.heap.size w1 wr)) (fun y _ => (intOf y).toNat)
        case atStart => exact ⟨0, by omega, by go_num, HT1, hB⟩
        case round =>
          clear HT1 hB
          obtain ⟨j, hj, rfl, hT, hB⟩ := hrel
          by_cases hlt2 : 0 < n - 1 - j
          · obtain ⟨bb, ob, rfl, hbb, hcb⟩ := rdNd (HA.out.bl HB.out) (by rw [HN.out]; omega)
            obtain ⟨G0, _⟩ := hcb (n - 1 - j) (by rw [HN.out]; omega)
            have G0' := (hB.out.cell (p := ⟨bb, ob + (n - 1 - j) * 2, none⟩) hbb).trans G0
            obtain ⟨p0, p1⟩ := HP.out (n - 1 - j) hlt2 (by omega)
            have HSC : Hid (∀ i b, upC 1000 t x (j + 1) i b = upC 1000 t x j i b + if nP t (n - 1 - j) = (i : Int) then min (upC 1000 t x j (n - 1 - j) b) (upC 1000 t x j (n - 1 - j) (!b) + 1) else 0) := fun i b => by
              show upC 1000 t x j i b + (if nP t (t.length - 1 - j) = (i : Int) then _ else 0) = _
              rw [HN.out]
            have HLE : Hid (∀ i b, i < n - j → upC 1000 t x j i b ≤ 1000 + n) := fun i b hi => up_le (by omega) HN.out HP.out (by omega) hi
            obtain ⟨p, hp⟩ : ∃ p : Nat, nP t (n - 1 - j) = p := ⟨(nP t (n - 1 - j)).toNat, by omega⟩
            rw [hp] at G0' p1 HSC
            obtain ⟨v, hv⟩ : ∃ v, v = n - 1 - j := ⟨_, rfl⟩
            rw [← hv] at hlt2 G0' p1 HSC ⊢
            have HV := Lib.hid hv
            have hvn : v < n := by omega
            have hpv : p < v := by omega
            have hpn : p < n := by omega
            have dv : decide (0 < (v : Int)) = true := by simp; omega
            have q1 := HLE.out p true (by omega)
            have q2 := HLE.out p false (by omega)
            have q3 := HLE.out v true (by omega)
            have q4 := HLE.out v false (by omega)
            obtain ⟨f, hf⟩ : ∃ f : Nat → Bool → Nat, f = fun v b => upC 1000 t x j v b := ⟨_, rfl⟩
            rw [show (fun v b => upC 1000 t x j v b) = f from hf.symm] at hT
            have HF1 : Hid (∀ i b, upC 1000 t x (j + 1) i b = f i b + if p = i then min (f v b) (f v (!b) + 1) else 0) := fun i b => by
              rw [HSC.out, hf]
              by_cases e : p = i
              · rw [if_pos e, if_pos (by omega)]
              · rw [if_neg e, if_neg (by omega)]
            rw [show upC 1000 t x j p true = f p true by rw [hf]] at q1
            rw [show upC 1000 t x j p false = f p false by rw [hf]] at q2
            rw [show upC 1000 t x j v true = f v true by rw [hf]] at q3
            rw [show upC 1000 t x j v false = f v false by rw [hf]] at q4
            clear hcb G0 p0 hp hv p1 HSC HLE hf
            have a1 : wr.cell? ⟨gw, p, none⟩ = some (.int .i64 (f p true : Nat)) := hT.out.wi.getF p hpn
            have a2 : wr.cell? ⟨gw, v, none⟩ = some (.int .i64 (f v true : Nat)) := hT.out.wi.getF v hvn
            have a3 : wr.cell? ⟨go, v, none⟩ = some (.int .i64 (f v false : Nat)) := hT.out.wo.getF v hvn
            have F4 : Hid (∀ nq, (wr.drewN nq).frozen? ⟨gw, p, none⟩ = false) := fun nq => (hT.out.wi.drewN nq).free _
            have C4 : Hid (∀ nq, (wr.drewN nq).cell? ⟨gw, p, none⟩ = some (.int .i64 (f p true : Nat))) := fun nq => a1
            obtain ⟨A1, hA1⟩ : ∃ y, y = f p true := ⟨_, rfl⟩
            obtain ⟨A0, hA0⟩ : ∃ y, y = f p false := ⟨_, rfl⟩
            obtain ⟨B1, hB1⟩ : ∃ y, y = f v true := ⟨_, rfl⟩
            obtain ⟨B0, hB0⟩ : ∃ y, y = f v false := ⟨_, rfl⟩
            rw [← hA1] at a1 C4 q1
            rw [← hA0] at q2
            rw [← hB1] at a2 q3
            rw [← hB0] at a3 q4
            have HA1 := Lib.hid hA1
            have HA0 := Lib.hid hA0
            have HB1 := Lib.hid hB1
            have HB0 := Lib.hid hB0
            clear hA1 hA0 hB1 hB0
            go_upto_region 13 with fail
            refine wp_quiet_tail_lit 18 (by kernel_rfl) (by kernel_rfl) ?_
            simp only [List.take_succ_cons, List.take_zero, List.drop_succ_cons, List.drop_zero]
            repeat (go_big_quiet_step (fail))
            refine wpQuiet_nil ?_
            intro _ hw'
            obtain ⟨nq, hw''⟩ := hw'
            subst hw''
            try simp only [Act.put, List.setIfInBounds_toArray, List.set_cons_zero, List.set_cons_succ]
            have f4 := F4.out nq
            have c4 := C4.out nq
            obtain ⟨S1, hS1⟩ : ∃ y : Nat, y = A1 + min B1 (B0 + 1) := ⟨_, rfl⟩
            have hmn : ((A1 : Int) + if (B0 : Int) + 1 < (B1 : Int) then (B0 : Int) + 1 else (B1 : Int)) = (S1 : Int) := by
              rw [hS1]
              by_cases e : B0 + 1 < B1
              · rw [if_pos (by omega), Nat.min_eq_right (by omega)]; omega
              · rw [if_neg (by omega), Nat.min_eq_left (by omega)]; omega
            have hmm : ((A1 : Int) + min (B1 : Int) ((B0 : Int) + 1)) = (S1 : Int) := by rw [hS1]; omega
            first
              | rw [hmn]
              | rw [hmm]
            have hT1 := (hT.out.drewN nq).setW p S1 (g := fun i b => if i = p ∧ b = true then S1 else f i b) (fun i _ => by by_cases e : i = p <;> simp [e]) (fun i _ => by simp)
            have hb1 := bl_set (bl_drewN hB.out nq) gw p none (.int .i64 (S1 : Nat)) hgw
            have HS1 := Lib.hid hS1
            clear F4 C4 hmn hmm a1 a2 a3 hS1
            go_upto_region 14 with fail
            obtain ⟨wx, hwx⟩ : ∃ y, y = (wr.drewN nq).setCell ⟨gw, p, none⟩ (.int .i64 (S1 : Nat)) := ⟨_, rfl⟩
            rw [← hwx] at hT1 hb1 ⊢
            have HT1 := Lib.hid hT1
            have HBX := Lib.hid hb1
            have a1 : wx.cell? ⟨go, p, none⟩ = some (.int .i64 A0) := by
              have h := hT1.wo.getF p hpn
              simp only [Bool.false_eq_true, and_false, if_false] at h
              rw [h, HA0.out]
            have a2 : wx.cell? ⟨go, v, none⟩ = some (.int .i64 B0) := by
              have h := hT1.wo.getF v hvn
              simp only [Bool.false_eq_true, and_false, if_false] at h
              rw [h, HB0.out]
            have a3 : wx.cell? ⟨gw, v, none⟩ = some (.int .i64 B1) := by
              have h := hT1.wi.getF v hvn
              rw [if_neg (by omega)] at h
              rw [h, HB1.out]
            have F4 : Hid (∀ nq, (wx.drewN nq).frozen? ⟨go, p, none⟩ = false) := fun nq => (HT1.out.wo.drewN nq).free _
            have C4 : Hid (∀ nq, (wx.drewN nq).cell? ⟨go, p, none⟩ = some (.int .i64 A0)) := fun nq => a1
            clear hwx hT1 hb1 f4 c4 hT hB
            generalize nq = nq0 at *
            refine wp_quiet_tail_lit 18 (by kernel_rfl) (by kernel_rfl) ?_
            simp only [List.take_succ_cons, List.take_zero, List.drop_succ_cons, List.drop_zero]
            repeat (go_big_quiet_step (fail))
            refine wpQuiet_nil ?_
            intro _ hw'
            obtain ⟨nq, hw''⟩ := hw'
            subst hw''
            try simp only [Act.put, List.setIfInBounds_toArray, List.set_cons_zero, List.set_cons_succ]
            have f4 := F4.out nq
            have c4 := C4.out nq
            obtain ⟨S0, hS0⟩ : ∃ y : Nat, y = A0 + min B0 (B1 + 1) := ⟨_, rfl⟩
            have hmn : ((A0 : Int) + if (B1 : Int) + 1 < (B0 : Int) then (B1 : Int) + 1 else (B0 : Int)) = (S0 : Int) := by
              rw [hS0]
              by_cases e : B1 + 1 < B0
              · rw [if_pos (by omega), Nat.min_eq_right (by omega)]; omega
              · rw [if_neg (by omega), Nat.min_eq_left (by omega)]; omega
            have hmm : ((A0 : Int) + min (B0 : Int) ((B1 : Int) + 1)) = (S0 : Int) := by rw [hS0]; omega
            first
              | rw [hmn]
              | rw [hmm]
            have HT2 := Lib.hid ((HT1.out.drewN nq).setO p S0 (g := fun i b => upC 1000 t x (j + 1) i b) (fun i _ => by
              show upC 1000 t x (j + 1) i false = _
              rw [HF1.out]
              by_cases e : p = i
              · subst e
                rw [if_pos rfl, if_pos rfl, hS0, HA0.out, HB0.out, HB1.out]; rfl
              · rw [if_neg e, if_neg (fun h => e h.symm)]; simp) (fun i _ => by
              show upC 1000 t x (j + 1) i true = _
              rw [HF1.out]
              by_cases e : p = i
              · subst e
                rw [if_pos rfl, if_pos ⟨rfl, rfl⟩, HS1.out, HA1.out, HB0.out, HB1.out]; rfl
              · rw [if_neg e, if_neg (fun h => e h.1.symm)]; rfl))
            have HB2 := Lib.hid (bl_set (bl_drewN HBX.out nq) go p none (.int .i64 (S0 : Nat)) hgo)
            clear F4 C4 hmn hmm a1 a2 a3 HT1 HBX HF1 hS0
            have HVV := HV.out
            go_wp2_with fail
            go_roundw
            case rel => exact ⟨j + 1, by omega, by go_num, HT2, HB2⟩
            case measure => simp [intOf]; omega
          · obtain rfl : j = n - 1 := by omega
            have c1 : wr.cell? ⟨gw, 0, none⟩ = some (.int .i64 (upC 1000 t x (n - 1) 0 true : Nat)) := hT.out.wi.getF 0 (by omega)
            have c2 : wr.cell? ⟨go, 0, none⟩ = some (.int .i64 (upC 1000 t x (n - 1) 0 false : Nat)) := hT.out.wo.getF 0 (by omega)
            have HE2 := HE
            generalize upC 1000 t x (n - 1) 0 true = A1 at *
            generalize upC 1000 t x (n - 1) 0 false = A0 at *
            clear hT
            go_upto_region 15 with fail
            refine wp_quiet_tail_lit 7 (by kernel_rfl) (by kernel_rfl) ?_
            simp only [List.take_succ_cons, List.take_zero, List.drop_succ_cons, List.drop_zero]
            repeat (go_big_quiet_step (fail))
            refine wpQuiet_nil ?_
            intro _ hw'
            obtain ⟨nq, hw''⟩ := hw'
            subst hw''
            try simp only [Act.put, List.setIfInBounds_toArray, List.set_cons_zero, List.set_cons_succ]
            go_wp2_with fail
            all_goals
              go_ret
              exact ⟨ret_i (by rw [← HE2.out]; omega), bl_trans HB.out (bl_drewN hB.out nq)⟩
end Go.Proofs.YtjmnakkkimgifaaGreatDoor
namespace Go.Proofs.YtjmnakkkimgifaaGreatDoor
open Go Go.RowKit Go.Shelf
set_option maxRecDepth 100000 in
set_option maxHeartbeats 4000000 in
theorem rlengths_any (L : Int) (a : Option Addr) (N c : Nat) (l : List Nat) (b : Option Addr) (n d : Nat) (t : List Nd) (w : World) (hl : l.length = N) (hN : N ≤ 1152921504606846976) (hA : Rd w a (fl encV l)) (hF : FitV l)
    (ht : t.length = n) (hn : n ≤ 1152921504606846976) (hB : Rd w b (fl encNd t)) (hS : ∀ v, v < n → (nS t v).size ≤ 9223372036854775807) :
    Calls Tryz.prog 11 #[.agg #[.int .i64 L, .slice a N c], .slice b n d] w fun e w' => ∃ v, e = .returned (.tuple #[v, .int .i64 (chkP L l t)]) ∧ w'.ownsRow w.heap.size 3 1 v (lenL L l t).length (fl encI (iN (lenL L l t))) ∧ Below w.heap.size w w' := by
  have hb0 := bl_alloc (Below.refl _ w) (.cells #[.int .i64 L, .slice a N c] 28)
  have hX := Blk.new w #[.int .i64 L, .slice a N c] 28
  have HC := Lib.hid (rboth_any L a N c l b n d t (w.alloc (.cells #[.int .i64 L, .slice a N c] 28)) hl hN (hA.bl hb0) hF ht hn (hB.bl hb0) hS)
  have HL := Lib.hid hl
  have HF := Lib.hid hF
  have HT := Lib.hid ht
  have HS := Lib.hid hS
  have HA := Lib.hid (hA.bl hb0)
  have HB := Lib.hid (hB.bl hb0)
  clear hl hA hF ht hB hS
  go_enter Tryz.func11, Tryz.ntmps11
  go_wp2_with fail
  refine HC.out.mono ?_
  rintro e w2 ⟨rfl, hb2⟩
  have HB2 := Lib.hid (bl_trans hb0 hb2)
  have HX2 := Lib.hid (hX.below hb2)
  have HRA := Lib.hid (HA.out.bl hb2)
  have HRB := Lib.hid (HB.out.bl hb2)
  obtain ⟨X, hXe⟩ : ∃ x, x = w.heap.size := ⟨_, rfl⟩
  rw [← hXe] at HX2 ⊢
  have HXE := Lib.hid hXe
  clear hb0 hb2 hX HC HA HB hXe
  by_cases h0 : chkP L l t = 0
  · have hLL : Hid (lenL L l t = l.map (chg t)) := if_pos h0
    have HE := Lib.hid h0
    obtain ⟨k0, k1, k2⟩ := chkP_ok h0
    have HOK := Lib.hid k1
    have hn1 : 1 ≤ n := by have := k1.1; have := HT.out; omega
    have hn63 : n ≤ 63 := by have := k1.2.1; have := HT.out; omega
    have HP : Hid (∀ v, 0 < v → v < n → 0 ≤ nP t v ∧ nP t v < v) := fun v h1 h2 => tree_par k1 v h1 (by rw [HT.out]; exact h2)
    have hN64 : N ≤ 64 := by
      obtain ⟨M, hM⟩ : ∃ M : Nat, L = M := ⟨(lvT t).length, k2.symm⟩
      rw [hM] at k0
      have := (chk_lt k0).2.1; have := HL.out; omega
    have HLV : Hid (lvT t = lvsL t n) := tok_lv HT.out k1
    have HCE : Hid (chkE t = 0) := chkE_good k1
    rw [h0]
    clear k0 k1 k2 h0
    go_wp2_with fail
    go_loopw [8, 7] (fun x y wr => ∃ k : Nat, k ≤ N ∧ x = .int .i64 k ∧ Hid (wr.ownsRow w2.heap.size 3 1 y k (fl encI (iN ((l.take k).map (chg t))))) ∧ Hid (Below w2.heap.size w2 wr)) (fun x _ _ => N - (intOf x).toNat)
    case atStart => exact ⟨0, by omega, rfl, World.ownsRow_nil _ _ _ _, Below.refl _ _⟩
    case round =>
      obtain ⟨k, hk, rfl, how, hbl⟩ := hrel
      have e1 : wr.cell? ⟨X, 1, none⟩ = some (.slice a N c) := (HX2.out.below hbl.out).cell 1
      by_cases hlt : k < N
      · obtain ⟨ba, oa, rfl, _, hca⟩ := rdV (HRA.out.bl hbl.out) (by rw [HL.out]; omega)
        have G := hca k (by rw [HL.out]; exact hlt)
        have hx : vA l k < 18446744073709551616 := HF.out k (by rw [HL.out]; exact hlt)
        have HTK : Hid ((l.take (k + 1)).map (chg t) = (l.take k).map (chg t) ++ [chg t (vA l k)]) := by
          show _ = _
          rw [List.take_succ_eq_append_getElem (by rw [HL.out]; exact hlt), List.map_append, vA_get (by rw [HL.out]; exact hlt)]; rfl
        have HLN : Hid (k = ((l.take k).map (chg t)).length) := by show _ = _; rw [List.length_map, List.length_take, HL.out]; omega
        obtain ⟨A7, c7, rfl, _⟩ := owns_slice how.out
        clear hca
        generalize vA l k = x at *
        go_wp2_with fail
        refine (rchanges_any x b n d t wr hx HT.out HOK.out (HRB.out.bl hbl.out) HS.out).mono ?_
        rintro e w6 ⟨rfl, hb6⟩
        have HOW := Lib.hid (owns_below how.out hb6)
        have HB6 := Lib.hid (bl_trans hbl.out hb6)
        have hbase : w2.heap.size ≤ (w6.alloc (.cells #[.int .i64 (chg t x : Nat)] 3)).heap.size := (bl_alloc HB6.out _).size
        clear hb6
        generalize chg t x = y at *
        go_wp2_with (at_builtin; refine push_I rfl (.tmp 22) (.tmp 30) rfl w2.heap.size (.slice A7 k c7) (iN ((l.take k).map (chg t))) k (by rw [iN_len]; exact HLN.out) rfl (HOW.out.alloc _) _ _ (y : Int) rfl (Blk.new _ _ _) (by omega) hbase ?_; intro g2 cap w8 h81 h82 h83 h84; rw [← iN_snoc, ← HTK.out] at h81; have H81 := Lib.hid h81; have H82 := Lib.hid h82; clear h81 h82 h83)
        have HB8 := Lib.hid (bl_grown (bl_alloc HB6.out (.cells #[.int .i64 (y : Nat)] 3)) H82.out (fun x e => (HOW.out.lt x e).1))
        go_roundw
        case rel => exact ⟨k + 1, by omega, by go_num, H81, HB8⟩
        case measure => simp [intOf]; omega
      · obtain rfl : k = N := by omega
        obtain ⟨A7, c7, rfl, _⟩ := owns_slice how.out
        go_wp2_with fail
        refine bodyPost_ret (v := .tuple #[.slice A7 k c7, .int .i64 0]) (by simp [results, Tryz.results11, go_sem]) rfl ⟨_, by rw [HE.out], ?_, bl_trans HB2.out hbl.out⟩
        have h := how.out
        rw [List.take_of_length_le (by rw [HL.out]; exact Nat.le_refl _)] at h
        rw [hLL.out]
        have e : (l.map (chg t)).length = k := by rw [List.length_map, HL.out]
        rw [e]
        exact owns_mono h HB2.out.size
  · have hE : Hid (lenL L l t = []) := if_neg h0
    obtain ⟨E, hEE⟩ : ∃ E, chkP L l t = E := ⟨_, rfl⟩
    have HEE := Lib.hid hEE
    rw [hEE] at h0 ⊢
    have d0 : (E == 0) = false := by simp [h0]
    have d1 : (E != 0) = true := by simp [h0]
    clear hEE h0
    go_wp2_with fail
    exact bodyPost_ret (v := .tuple #[.slice none 0 0, .int .i64 E]) (by simp [results, Tryz.results11, go_sem]) rfl ⟨_, by rw [HEE.out], by rw [hE.out]; exact World.ownsRow_nil _ _ _ _, HB2.out⟩
set_option maxRecDepth 100000 in
set_option maxHeartbeats 4000000 in
theorem rlength_any (L : Int) (a : Option Addr) (N c : Nat) (l : List Nat) (b : Option Addr) (n d : Nat) (t : List Nd) (w : World) (hl : l.length = N) (hN : N ≤ 1152921504606846976) (hA : Rd w a (fl encV l)) (hF : FitV l)
    (ht : t.length = n) (hn : n ≤ 1152921504606846976) (hB : Rd w b (fl encNd t)) (hS : ∀ v, v < n → (nS t v).size ≤ 9223372036854775807) :
    Calls Tryz.prog 13 #[.agg #[.int .i64 L, .slice a N c], .slice b n d] w fun e w' => e = .returned (.tuple #[.int .i64 (lenS L l t : Nat), .int .i64 (chkP L l t)]) ∧ Below w.heap.size w w' := by
  have hb0 := bl_alloc (Below.refl _ w) (.cells #[.int .i64 L, .slice a N c] 28)
  have HC := Lib.hid (rlengths_any L a N c l b n d t (w.alloc (.cells #[.int .i64 L, .slice a N c] 28)) hl hN (hA.bl hb0) hF ht hn (hB.bl hb0) hS)
  obtain ⟨hl64, hx32⟩ := lenL_le L l t
  clear hl hA hF ht hB hS
  obtain ⟨m, hm⟩ : ∃ m, m = lenL L l t := ⟨_, rfl⟩
  have hsum : lenS L l t = m.sum := by unfold lenS; rw [hm]
  rw [← hm] at HC hl64 hx32
  have hsb : ∀ k, (m.take k).sum ≤ 2048 := fun k => by
    have h1 := sum_le (l := m.take k) (c := 32) fun x hx => hx32 x (List.mem_of_mem_take hx)
    rw [List.length_take] at h1
    omega
  have HSB := Lib.hid hsb
  have HX := Lib.hid hx32
  have HSUM := Lib.hid hsum
  obtain ⟨q, hq⟩ : ∃ q, q = m.length := ⟨_, rfl⟩
  rw [← hq] at HC hl64
  have HQ := Lib.hid hq
  obtain ⟨E, hE⟩ : ∃ E, E = chkP L l t := ⟨_, rfl⟩
  rw [← hE] at HC ⊢
  have HB0 := Lib.hid hb0
  clear hm hsum hsb hx32 hq hE hb0
  go_enter Tryz.func13, Tryz.ntmps13
  go_wp2_with fail
  refine HC.out.mono ?_
  rintro e w2 ⟨v, rfl, ho, hb2⟩
  obtain ⟨A, cp, rfl, _⟩ := owns_slice ho
  have HR := Lib.hid (rd_of_owns ho)
  have HB2 := Lib.hid (bl_trans HB0.out hb2)
  clear ho hb2 HB0 HC
  go_wp2_with fail
  go_loop [9, 8] (fun x y => ∃ k : Nat, k ≤ q ∧ x = .int .i64 k ∧ y = .int .i64 ((m.take k).sum : Nat)) (fun x _ => q - (intOf x).toNat)
  case atStart => exact ⟨0, by omega, rfl, rfl⟩
  case round =>
    obtain ⟨k, hk, rfl, rfl⟩ := hrel
    by_cases hlt : k < q
    · obtain ⟨b1, o1, rfl, _, hc⟩ := rdI HR.out (by rw [iN_len, ← HQ.out]; omega)
      have G := hc k (by rw [iN_len, ← HQ.out]; exact hlt)
      rw [iN_get] at G
      have HST := Lib.hid (sum_take_succ (l := m) (k := k) (by rw [← HQ.out]; exact hlt))
      have s1 := HSB.out k
      have s2 := HSB.out (k + 1)
      have s3 : vA m k ≤ 32 := HX.out _ (by rw [vA_get (by rw [← HQ.out]; exact hlt)]; exact List.getElem_mem _)
      clear hc
      generalize vA m k = y at *
      obtain ⟨S, hS⟩ : ∃ S, S = (m.take k).sum := ⟨_, rfl⟩
      rw [← hS] at HST s1 ⊢
      clear hS
      go_wp2_with fail
      go_round
      case rel => exact ⟨k + 1, by omega, by go_num, by rw [HST.out]; go_num⟩
      case measure => simp [intOf]; omega
    · obtain rfl : k = q := by omega
      have HF : Hid ((m.take k).sum = lenS L l t) := by show _ = _; rw [HSUM.out, List.take_of_length_le (by rw [HQ.out]; exact Nat.le_refl _)]
      obtain ⟨S, hS⟩ : ∃ S, S = (m.take k).sum := ⟨_, rfl⟩
      rw [← hS] at HF ⊢
      clear hS
      go_wp2_with fail
      go_ret2
      exact ⟨by rw [← HF.out]; rfl, HB2.out⟩
set_option maxRecDepth 100000 in
set_option maxHeartbeats 2000000 in
theorem rbin_any (a : Option Addr) (n c : Nat) (t : List Nd) (w : World) (hn : t.length = n) (hok : TreeOk t) (hA : Rd w a (fl encNd t)) (hS : ∀ v, v < n → (nS t v).size ≤ 9223372036854775807) :
    Calls Tryz.prog 41 #[.slice a n c] w fun e w' => e = .returned (.bool (binB t n)) ∧ Below w.heap.size w w' := by
  have hn63 : n ≤ 63 := by have := hok.2.1; omega
  have HC := Lib.hid (fun (v : Nat) (hv : v < n) (W : World) (hW : Below w.heap.size w W) => rChildren_any a n c v t W hn hok hv (hA.bl hW) hS)
  have HL : Hid (∀ v, v < n → (famL t n v).length ≤ 63) := fun v _ => by have := famL_le t n v; omega
  clear hn hok hA hS
  go_enter Tryz.func41, Tryz.ntmps41
  go_wp2_with fail
  go_loopw [3] (fun x wr => ∃ k : Nat, k ≤ n ∧ x = .int .i64 k ∧ Hid (∀ v, v < k → (famL t n v).length = 0 ∨ (famL t n v).length = 2) ∧ Hid (Below w.heap.size w wr)) (fun x _ => n - (intOf x).toNat)
  case atStart => exact ⟨0, by omega, rfl, fun v h => absurd h (by omega), Below.refl _ _⟩
  case round =>
    obtain ⟨k, hk, rfl, hE, hB⟩ := hrel
    by_cases hlt : k < n
    · have HC1 := HC.out k hlt wr hB.out
      have hle := HL.out k hlt
      obtain ⟨q, hq⟩ : ∃ q, q = (famL t n k).length := ⟨_, rfl⟩
      rw [← hq] at HC1 hle
      have HC1 := Lib.hid HC1
      have HQ := Lib.hid hq
      clear hq
      go_wp2_with fail
      refine HC1.out.mono ?_
      rintro e w1 ⟨x, rfl, ho, hb⟩
      obtain ⟨A, cp, rfl, _⟩ := owns_slice ho
      have HB1 := Lib.hid (bl_trans hB.out hb)
      clear ho hb HC1 hB
      by_cases h : q = 0 ∨ q = 2
      · have HE2 : Hid (∀ v, v < k + 1 → (famL t n v).length = 0 ∨ (famL t n v).length = 2) := fun v hv => by
          by_cases e : v = k
          · subst e; rw [← HQ.out]; exact h
          · exact hE.out v (by omega)
        clear hE
        rcases h with rfl | rfl
        · go_wp2_with fail
          go_roundw
          case rel => exact ⟨k + 1, by omega, by go_num, HE2, HB1⟩
          case measure => simp [intOf]; omega
        · go_wp2_with fail
          go_roundw
          case rel => exact ⟨k + 1, by omega, by go_num, HE2, HB1⟩
          case measure => simp [intOf]; omega
      · have h1 : ¬ q = 0 := fun e => h (.inl e)
        have h2 : ¬ q = 2 := fun e => h (.inr e)
        have t1 : ((q : Int) != 0) = true := by simp; omega
        have t2 : ((q : Int) != 2) = true := by simp; omega
        have HF : Hid (binB t n = false) := by
          show _ = _
          cases hb : binB t n
          · rfl
          · have := binB_iff.1 hb k hlt
            rw [← HQ.out] at this
            exact absurd this h
        clear h h1 h2 hE
        go_wp2_with fail
        go_ret
        exact ⟨ret_b HF.out.symm, HB1.out⟩
    · obtain rfl : k = n := by omega
      have HF : Hid (binB t k = true) := binB_iff.2 hE.out
      clear hE
      go_wp2_with fail
      go_ret
      exact ⟨ret_b HF.out.symm, hB.out⟩
set_option maxHeartbeats 1000000 in
theorem rbinary_any (a : Option Addr) (n c : Nat) (t : List Nd) (w : World) (hn : t.length = n) (hN : n ≤ 1152921504606846976) (hA : Rd w a (fl encNd t)) (hS : ∀ v, v < n → (nS t v).size ≤ 9223372036854775807) :
    Calls Tryz.prog 15 #[.slice a n c] w fun e w' => e = .returned (.tuple #[.bool (binP t), .int .i64 (chkE t)]) ∧ Below w.heap.size w w' := by
  have HC := Lib.hid (rcheck_any a n c t w hn hN hA hS)
  by_cases h : chkE t = 0
  · have hok : TreeOk t := chk_tree h
    have HB := Lib.hid (fun m => rbin_any a n c t (w.drewN m) hn hok (hA.drewN m) hS)
    have HP : Hid (binP t = binB t n) := by show _ = _; unfold binP; rw [h, hn]; simp
    rw [h] at HC ⊢
    clear hn hA hS h hok
    go_enter Tryz.func15, Tryz.ntmps15
    go_wp2_with fail
    refine HC.out.mono ?_
    rintro e w1 ⟨rfl, m, rfl⟩
    have HB1 := Lib.hid (HB.out m)
    clear HB HC
    go_wp2_with fail
    refine HB1.out.mono ?_
    rintro e w2 ⟨rfl, hb⟩
    have HB2 := Lib.hid (bl_trans (bl_drewN (Below.refl _ w) m) hb)
    clear hb HB1
    go_wp2_with fail
    go_ret2
    exact ⟨by rw [HP.out]; rfl, HB2.out⟩
  · have h16 := (chk_tree' h).1
    have HP : Hid (binP t = false) := by show _ = _; unfold binP; rw [decide_eq_false h]; rfl
    rw [h16] at HC ⊢
    clear hn hA hS h h16
    go_enter Tryz.func15, Tryz.ntmps15
    go_wp2_with fail
    refine HC.out.mono ?_
    rintro e w1 ⟨rfl, m, rfl⟩
    clear HC
    go_wp2_with fail
    go_ret2
    exact ⟨by rw [HP.out]; rfl, bl_drewN (Below.refl _ w) m⟩
end Go.Proofs.YtjmnakkkimgifaaGreatDoor
