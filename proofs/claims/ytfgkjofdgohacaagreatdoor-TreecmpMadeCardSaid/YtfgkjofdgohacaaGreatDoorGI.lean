/- ablautlaw34's example: works. Law TreecmpPairs: the walk. The document's way in which three leaves stand. The document's Triples. Law TreecmpTriples: the walk. From a walk to a row: a statement's post; arguments that came in read as tables and trees. From a walk to a row: the table of TrailingZeros64; lists of trees that came in. -/
import Derived.Test.YtfgkjofdgohacaaGreatDoorGF
import Derived.Test.YtfgkjofdgohacaaGreatDoorGH
import Derived.Test.YtfgkjofdgohacaaGreatDoorGE
import Derived.Test.YtfgkjofdgohacaaGreatDoorGA
import Derived.ChangeSame
import Derived.OpenShut
import Derived.ProofKit
import Derived.Deep.Slices
import Derived.Test.YtfgkjofdgohacaaGreatDoorCards
import Derived.Test.YtfgkjofdgohacaaGreatDoorTie
import Derived.Deep.DeepHandedRow
import Derived.Lib.LaidTab
import Derived.Lib.SmallJoins
import Derived.Test.YtfgkjofdgohacaaGreatDoorGD
import Derived.Test.YtfgkjofdgohacaaGreatDoorGG
namespace Go.Proofs.YtfgkjofdgohacaaGreatDoor
open Go Go.RowKit Go.Shelf Go.Maps
def ndsC4 (nm : List ByteArray) (t : List Nd) : List Nat := (List.range t.length).map fun v => upX t (botC4 nm t) (t.length - 1) v
theorem ndsC4_eq {nm : List ByteArray} {t : List Nd} (h : nmsL t = nm) : ndsU t = ndsC4 nm t := by
  subst h; rfl
theorem exA_nds : ndsU exA = [7, 3, 1, 2, 4] := by
  rw [ndsC4_eq exA_nms]
  decide +kernel
theorem ex_suV : ((List.range 5).map fun v => ((suV 3 exT exA v : Nat) : Int)) = [3, 2, 3, 3, 3] := by
  have h : ∀ v, suV 3 exT exA v = (if vA [7, 3, 1, 2, 4] v ∈ [1, 2, 3, 4, 7] then 1 else 0) + (if vA [7, 3, 1, 2, 4] v ∈ [1, 2, 3, 4, 7] then 1 else 0) + (if vA [7, 3, 1, 2, 4] v ∈ [1, 2, 4, 5, 7] then 1 else 0) := fun v => by
    unfold suV
    rw [ex_vtC, exA_nds]
  simp only [h]
  decide
theorem ex_clsE : clsE exA = [1, 2, 3, 4, 7] := by
  unfold clsE
  rw [if_pos ex_ok.1, exA_cls]
theorem one_any (w : World) : Calls Tryz.prog 42 #[] w fun e w' => e = .returned (.slice (some ⟨w.heap.size, 0, none⟩) 5 5) ∧ w' = w.alloc (.cells (fl encNd exA).toArray 56) := by
  go_enter Tryz.func42, Tryz.ntmps42
  go_wp2_with fail
  go_ret
  exact ⟨rfl, rfl⟩
theorem two_any (w : World) : Calls Tryz.prog 43 #[] w fun e w' => e = .returned (.slice (some ⟨w.heap.size, 0, none⟩) 5 5) ∧ w' = w.alloc (.cells (fl encNd exB).toArray 56) := by
  go_enter Tryz.func43, Tryz.ntmps43
  go_wp2_with fail
  go_ret
  exact ⟨rfl, rfl⟩
theorem ex_sz : (∀ v, v < 5 → (nS exA v).size ≤ 9223372036854775807) ∧ ∀ v, v < 5 → (nS exB v).size ≤ 9223372036854775807 := by
  constructor <;> · intro v hv
                    have : v = 0 ∨ v = 1 ∨ v = 2 ∨ v = 3 ∨ v = 4 := by omega
                    rcases this with rfl | rfl | rfl | rfl | rfl <;> decide
/-- The three trees in a row. -/
theorem exT_in {w : World} {A B R : Nat} (hA : Rd w (some ⟨A, 0, none⟩) (fl encNd exA)) (hB : Rd w (some ⟨B, 0, none⟩) (fl encNd exB)) (hR : Rd w (some ⟨R, 0, none⟩) (fl encR [(some ⟨A, 0, none⟩, 5, 5), (some ⟨A, 0, none⟩, 5, 5), (some ⟨B, 0, none⟩, 5, 5)])) : TrsIn w (some ⟨R, 0, none⟩) 3 exT [(some ⟨A, 0, none⟩, 5, 5), (some ⟨A, 0, none⟩, 5, 5), (some ⟨B, 0, none⟩, 5, 5)] := by
  refine ⟨rfl, hR, fun i hi => ?_, fun i hi => ?_, fun i hi => ?_⟩
  · have : i = 0 ∨ i = 1 ∨ i = 2 := by omega
    rcases this with rfl | rfl | rfl <;> exact ⟨rfl, by decide⟩
  · have : i = 0 ∨ i = 1 ∨ i = 2 := by omega
    rcases this with rfl | rfl | rfl
    · exact hA
    · exact hA
    · exact hB
  · have : i = 0 ∨ i = 1 ∨ i = 2 := by omega
    rcases this with rfl | rfl | rfl
    · exact ex_sz.1
    · exact ex_sz.1
    · exact ex_sz.2
set_option maxRecDepth 100000 in
set_option maxHeartbeats 4000000 in
theorem works_any (w : World) (hT : TzG w) : Calls Tryz.prog 14 #[] w fun e w' => e = .returned (.bool true) ∧ Below w.heap.size w w' := by
  have HT := Lib.hid hT
  clear hT
  go_enter Tryz.func14, Tryz.ntmps14
  go_wp2_with fail
  refine (one_any _).mono ?_
  rintro e w1 ⟨rfl, hw1⟩
  subst w1
  go_wp2_with fail
  refine (two_any _).mono ?_
  rintro e w2 ⟨rfl, hw2⟩
  obtain ⟨A, hA⟩ : ∃ A, A = w.heap.size := ⟨_, rfl⟩
  have HB2 : Hid (Below w.heap.size w w2) := by
    show Below _ _ _
    rw [hw2]; exact bl_alloc (bl_alloc (Below.refl _ _) _) _
  have HRA : Hid (Rd w2 (some ⟨A, 0, none⟩) (fl encNd exA)) := by
    show Rd _ _ _
    rw [hw2, hA]; exact rd_of_blk4 ((Blk.new w (fl encNd exA).toArray 56).alloc _)
  have HRB : Hid (Rd w2 (some ⟨A + 1, 0, none⟩) (fl encNd exB)) := by
    show Rd _ _ _
    rw [hw2, hA]; exact rd_of_blk4 (Blk.new2 w _ (fl encNd exB).toArray 56)
  simp only [World.size_alloc]
  rw [← hA]
  clear hw2 hA
  go_wp2_with fail
  refine (clades_any _ _ _ exA _ rfl (by decide) HRA.out ex_sz.1).mono ?_
  rintro e w3 ⟨v3, rfl, ho3, hb3⟩
  have HB3 := Lib.hid (bl_trans HB2.out hb3)
  have HO3 := Lib.hid ho3
  have HRA := Lib.hid (HRA.out.bl hb3)
  have HRB := Lib.hid (HRB.out.bl hb3)
  clear ho3 hb3 HB2
  rw [show chkE exA = 0 from chkE_good ex_ok.1]
  go_wp2_with fail
  refine (dist_any _ _ _ _ _ _ exA exB _ rfl rfl (by decide) (by decide) HRA.out HRB.out ex_sz.1 ex_sz.2).mono ?_
  rintro e w4 ⟨rfl, hb4⟩
  have HB4 := Lib.hid (bl_trans HB3.out hb4)
  have HO4 := Lib.hid (owns_below HO3.out hb4)
  have HRA := Lib.hid (HRA.out.bl hb4)
  have HRB := Lib.hid (HRB.out.bl hb4)
  clear hb4 HB3 HO3
  rw [ex_two, ex_dst]
  go_wp2_with fail
  refine (triples_any _ _ _ _ _ _ exA exB _ rfl rfl (by decide) (by decide) HRA.out HRB.out ex_sz.1 ex_sz.2).mono ?_
  rintro e w5 ⟨rfl, hb5⟩
  have HB5 := Lib.hid (bl_trans HB4.out hb5)
  have HO5 := Lib.hid (owns_below HO4.out hb5)
  have HRA := Lib.hid (HRA.out.bl hb5)
  have HRB := Lib.hid (HRB.out.bl hb5)
  clear hb5 HB4 HO4
  rw [ex_two, ex_tri]
  go_wp2_with fail
  have HB6 := Lib.hid (bl_alloc (Below.refl _ w5) (.cells #[.slice (some ⟨A, 0, none⟩) 5 5, .slice (some ⟨A, 0, none⟩) 5 5, .slice (some ⟨A + 1, 0, none⟩) 5 5] 22))
  have HR6 := Lib.hid (rd_of_blk4 (cs := fl encR [(some ⟨A, 0, none⟩, 5, 5), (some ⟨A, 0, none⟩, 5, 5), (some ⟨A + 1, 0, none⟩, 5, 5)]) (Blk.new w5 #[.slice (some ⟨A, 0, none⟩) 5 5, .slice (some ⟨A, 0, none⟩) 5 5, .slice (some ⟨A + 1, 0, none⟩) 5 5] 22))
  refine (majority_any _ 3 3 exT _ [1, 2, 3, 4, 7] _ (by omega) (exT_in (HRA.out.bl HB6.out) (HRB.out.bl HB6.out) HR6.out) ex_cnH (HT.out.bl (bl_trans HB5.out HB6.out))).mono ?_
  rintro e w7 ⟨hb7, ⟨hz, _⟩ | ⟨_, v7, rfl, ho7⟩⟩
  · exact absurd ex_cnE hz
  rw [show exT 0 = exA from rfl, ex_cnT] at ho7
  have HB57 := Lib.hid (bl_trans HB6.out hb7)
  have HB7 := Lib.hid (bl_trans HB5.out HB57.out)
  have HO7 := Lib.hid ho7
  have HO57 := Lib.hid (owns_below HO5.out HB57.out)
  have HRA := Lib.hid (HRA.out.bl HB57.out)
  have HRB := Lib.hid (HRB.out.bl HB57.out)
  clear hb7 ho7 HB6 HR6 HB57
  go_wp2_with fail
  have HB8 := Lib.hid (bl_alloc (Below.refl _ w7) (.cells #[.slice (some ⟨A, 0, none⟩) 5 5, .slice (some ⟨A, 0, none⟩) 5 5, .slice (some ⟨A + 1, 0, none⟩) 5 5] 22))
  have HR8 := Lib.hid (rd_of_blk4 (cs := fl encR [(some ⟨A, 0, none⟩, 5, 5), (some ⟨A, 0, none⟩, 5, 5), (some ⟨A + 1, 0, none⟩, 5, 5)]) (Blk.new w7 #[.slice (some ⟨A, 0, none⟩) 5 5, .slice (some ⟨A, 0, none⟩) 5 5, .slice (some ⟨A + 1, 0, none⟩) 5 5] 22))
  refine (support_any _ 3 3 exT _ _ 5 5 exA _ (by omega) (exT_in (HRA.out.bl HB8.out) (HRB.out.bl HB8.out) HR8.out) (fun e => by cases e) rfl (by omega) (HRA.out.bl HB8.out) ex_sz.1).mono ?_
  rintro e w9 ⟨hb9, ⟨hz, _⟩ | ⟨_, R, rfl, hR1, hR2⟩⟩
  · exact absurd ex_suE hz
  have HB79 := Lib.hid (bl_trans HB8.out hb9)
  have HB9 := Lib.hid (bl_trans HB7.out HB79.out)
  have HO79 := Lib.hid (owns_below HO7.out HB79.out)
  have HO59 := Lib.hid (owns_below HO57.out HB79.out)
  have HR9 : Hid (Rd w9 (some ⟨R, 0, none⟩) (fl encI [3, 2, 3, 3, 3])) := by
    have h := rd_ofF4 hR2
    rw [← ex_suV]
    have e : fl encI ((List.range 5).map fun v => ((suV 3 exT exA v : Nat) : Int)) = (List.range 5).map fun v => Value.int .i64 ((suV 3 exT exA v : Nat) : Int) := by
      simp [fl, encI, List.range_succ]
    rw [e]; exact h
  clear hb9 hR1 hR2 HB8 HR8 HB79 HRA HRB
  rw [ex_clsE] at HO59
  obtain ⟨A3, c3, rfl⟩ := owns_sl HO59.out
  obtain ⟨A7, c7, rfl⟩ := owns_sl HO79.out
  go_wp2_with fail
  have b1 := bl_alloc (Below.refl _ w9) (.cells (fl encV [1, 2, 3, 4, 7]).toArray 41)
  refine (wsets_any A3 (some ⟨w9.heap.size, 0, none⟩) 5 c3 5 5 [1, 2, 3, 4, 7] [1, 2, 3, 4, 7] _ rfl rfl (by omega) (by omega) ((rd_of_owns HO59.out).bl b1) (rd_of_blk4 (Blk.new w9 (fl encV [1, 2, 3, 4, 7]).toArray 41))).mono ?_
  rintro e w10 ⟨rfl, q1, hw10⟩
  have HB10 : Hid (Below w9.heap.size w9 w10) := by
    show Below _ _ _
    rw [hw10]; exact bl_drewN b1 _
  clear hw10 b1
  rw [show decide (([1, 2, 3, 4, 7] : List Nat) = [1, 2, 3, 4, 7]) = true from rfl]
  go_wp2_with fail
  have b2 := bl_alloc (Below.refl _ w10) (.cells (fl encNd exM).toArray 56)
  refine (same2_any A7 (some ⟨w10.heap.size, 0, none⟩) 5 5 c7 5 exM exM _ rfl rfl (by omega) (by omega) ((rd_of_owns HO79.out).bl (bl_trans HB10.out b2)) (rd_of_blk4 (Blk.new w10 (fl encNd exM).toArray 56))).mono ?_
  rintro e w11 ⟨rfl, q2, hw11⟩
  have HB11 : Hid (Below w9.heap.size w9 w11) := by
    show Below _ _ _
    rw [hw11]; exact bl_drewN (bl_trans HB10.out b2) _
  clear hw11 b2
  rw [decide_eq_true rfl]
  go_wp2_with fail
  have b3 := bl_alloc (Below.refl _ w11) (.cells (fl encI [3, 2, 3, 3, 3]).toArray 3)
  refine (wnums_any (some ⟨R, 0, none⟩) (some ⟨w11.heap.size, 0, none⟩) 5 5 5 5 [3, 2, 3, 3, 3] [3, 2, 3, 3, 3] _ rfl rfl (by omega) (by omega) (HR9.out.bl (bl_trans HB11.out b3)) (rd_of_blk4 (Blk.new w11 (fl encI [3, 2, 3, 3, 3]).toArray 3))).mono ?_
  rintro e w12 ⟨rfl, q3, hw12⟩
  have HB12 : Hid (Below w9.heap.size w9 w12) := by
    show Below _ _ _
    rw [hw12]; exact bl_drewN (bl_trans HB11.out b3) _
  clear hw12 b3
  rw [show decide (([3, 2, 3, 3, 3] : List Int) = [3, 2, 3, 3, 3]) = true from rfl]
  go_wp2_with fail
  go_ret
  exact ⟨rfl, bl_trans HB9.out HB12.out⟩
end Go.Proofs.YtfgkjofdgohacaaGreatDoor
namespace Go.Proofs.YtfgkjofdgohacaaGreatDoor
open Go Go.RowKit Go.Shelf Go.Maps
set_option maxRecDepth 100000 in
set_option maxHeartbeats 4000000 in
theorem pairs_any (a b : Option Addr) (n c m d : Nat) (s t : List Nd) (w : World) (hn : s.length = n) (hm : t.length = m) (hN : n ≤ 1152921504606846976) (hM : m ≤ 1152921504606846976) (hA : Rd w a (fl encNd s)) (hB : Rd w b (fl encNd t)) (hS : ∀ v, v < n → (nS s v).size ≤ 9223372036854775807) (hT : ∀ v, v < m → (nS t v).size ≤ 9223372036854775807) (hZ : TzG w) :
    Calls Tryz.prog 7 #[.slice a n c, .slice b m d] w fun e w' => e = .returned (.bool true) ∧ Below w.heap.size w w' := by
  have ENDW : Hid (∀ W, Below w.heap.size w W → Calls Tryz.prog 14 #[] W fun e w' => e = .returned (.bool true) ∧ Below w.heap.size w w') := fun W hb => (works_any W (hZ.bl hb)).mono fun e w' h => ⟨h.1, bl_trans hb h.2⟩
  have H1 : Hid (∀ W, Below w.heap.size w W → _) := fun W hb => clades_any a n c s W hn hN (hA.bl hb) hS
  have H2 : Hid (∀ W, Below w.heap.size w W → _) := fun W hb => rClades_any a n c s W hn hN (hA.bl hb) hS
  have H3 : Hid (∀ W, Below w.heap.size w W → _) := fun W hb => dist_any a b n c m d s t W hn hm hN hM (hA.bl hb) (hB.bl hb) hS hT
  have H4 : Hid (∀ W, Below w.heap.size w W → _) := fun W hb => rdist_any a b n c m d s t W hn hm hN hM (hA.bl hb) (hB.bl hb) hS hT
  have H5 : Hid (∀ W, Below w.heap.size w W → _) := fun W hb => same_any a b n c m d s t W hn hm hN hM (hA.bl hb) (hB.bl hb) hS hT
  have H6 : Hid (∀ W, Below w.heap.size w W → _) := fun W hb => rSame_any a b n c m d s t W hn hm hN hM (hA.bl hb) (hB.bl hb) hS hT
  have HLS := Lib.hid hn
  clear hA hB hS hT hZ hn hm
  go_enter Tryz.func7, Tryz.ntmps7
  by_cases q1 : 100 < n
  · have d1 : decide (100 < (n : Int)) = true := decide_eq_true (by omega)
    clear q1 H1 H2 H3 H4 H5 H6
    go_wp2_with fail
    refine (ENDW.out _ (Below.refl _ _)).mono ?_
    rintro e w3 ⟨rfl, hb3⟩
    go_wp2_with fail
    go_ret
    exact ⟨rfl, hb3⟩
  · have d1 : decide (100 < (n : Int)) = false := decide_eq_false (by omega)
    by_cases q2 : 100 < m
    · have d2 : decide (100 < (m : Int)) = true := decide_eq_true (by omega)
      clear q1 q2 H1 H2 H3 H4 H5 H6
      go_wp2_with fail
      refine (ENDW.out _ (Below.refl _ _)).mono ?_
      rintro e w3 ⟨rfl, hb3⟩
      go_wp2_with fail
      go_ret
      exact ⟨rfl, hb3⟩
    · have d2 : decide (100 < (m : Int)) = false := decide_eq_false (by omega)
      have HCL : Hid ((clsE s).length ≤ 100) := by
        have h := HLS.out
        show _ ≤ _
        unfold clsE
        split
        · unfold clsL
          exact Nat.le_trans (sdU_le _) (by rw [List.length_map, List.length_range]; omega)
        · simp
      clear q1 q2
      go_wp2_with fail
      refine (H1.out _ (Below.refl _ _)).mono ?_
      rintro e w1 ⟨v1, rfl, ho1, hb1⟩
      have HB1 := Lib.hid hb1
      have HO1 := Lib.hid ho1
      clear hb1 ho1
      go_wp2_with fail
      refine (H2.out _ HB1.out).mono ?_
      rintro e w2 ⟨v2, rfl, ho2, hb2⟩
      have HB2 := Lib.hid (bl_trans HB1.out hb2)
      have HO1 := Lib.hid (owns_below HO1.out hb2)
      have HO2 := Lib.hid ho2
      clear hb2 ho2
      go_wp2_with fail
      refine (H3.out _ HB2.out).mono ?_
      rintro e w3 ⟨rfl, hb3⟩
      have HB3 := Lib.hid (bl_trans HB2.out hb3)
      have HO1 := Lib.hid (owns_below HO1.out hb3)
      have HO2 := Lib.hid (owns_below HO2.out hb3)
      clear hb3
      go_wp2_with fail
      refine (H4.out _ HB3.out).mono ?_
      rintro e w4 ⟨rfl, hb4⟩
      have HB4 := Lib.hid (bl_trans HB3.out hb4)
      have HO1 := Lib.hid (owns_below HO1.out hb4)
      have HO2 := Lib.hid (owns_below HO2.out hb4)
      clear hb4
      go_wp2_with fail
      refine (H5.out _ HB4.out).mono ?_
      rintro e w5 ⟨rfl, hb5⟩
      have HB5 := Lib.hid (bl_trans HB4.out hb5)
      have HO1 := Lib.hid (owns_below HO1.out hb5)
      have HO2 := Lib.hid (owns_below HO2.out hb5)
      clear hb5
      go_wp2_with fail
      refine (H6.out _ HB5.out).mono ?_
      rintro e w6 ⟨rfl, hb6⟩
      have HB6 := Lib.hid (bl_trans HB5.out hb6)
      have HO1 := Lib.hid (owns_below HO1.out hb6)
      have HO2 := Lib.hid (owns_below HO2.out hb6)
      obtain ⟨A1, c1, rfl⟩ := owns_sl HO1.out
      obtain ⟨A2, c2, rfl⟩ := owns_sl HO2.out
      clear hb6 H1 H2 H3 H4 H5 H6
      go_wp2_with fail
      refine (wsets_any A1 A2 _ c1 _ c2 (clsE s) (clsE s) _ rfl rfl (by have := HCL.out; omega) (by have := HCL.out; omega) (rd_of_owns HO1.out) (rd_of_owns HO2.out)).mono ?_
      rintro e w7 ⟨rfl, q7, hw7⟩
      have HB7 : Hid (Below w.heap.size w w7) := by
        show Below _ _ _
        rw [hw7]; exact bl_drewN HB6.out _
      clear hw7
      rw [decide_eq_true rfl]
      go_wp2_with fail
      refine (ENDW.out _ HB7.out).mono ?_
      rintro e w8 ⟨rfl, hb8⟩
      go_wp2_with fail
      go_ret
      exact ⟨rfl, hb8⟩
end Go.Proofs.YtfgkjofdgohacaaGreatDoor
namespace Go.Proofs.YtfgkjofdgohacaaGreatDoor
open Go Go.RowKit Go.Shelf Go.Maps
theorem std_cons (i j k x : Nat) (l : List Nat) : stdL i j k (x :: l) = if (!x.testBit i && x.testBit j) && x.testBit k then 0 else if (!x.testBit j && x.testBit k) && x.testBit i then 1 else if (!x.testBit k && x.testBit i) && x.testBit j then 2 else stdL i j k l := rfl
theorem drewN_two (w : World) (x y z : Nat) : ((w.drewN x).drewN y).drewN z = w.drewN (x + y + z) := by simp [Nat.add_assoc]
set_option maxRecDepth 100000 in
set_option maxHeartbeats 8000000 in
theorem stand_any (a : Option Addr) (n c q r s : Nat) (S : List Nat) (w : World) (hn : S.length = n) (hN : n ≤ 1048576) (hA : Rd w a (fl encV S)) (hF : ∀ x, x ∈ S → x < 18446744073709551616) (hq : q ≤ 63) (hr : r ≤ 63) (hs : s ≤ 63) :
    Calls Tryz.prog 51 #[.slice a n c, .agg #[.int .i64 q, .int .i64 r, .int .i64 s]] w fun e w' => e = .returned (.int .i64 (stdL q r s S)) ∧ Below w.heap.size w w' := by
  have HN := Lib.hid hn
  have HA := Lib.hid hA
  have HF := Lib.hid hF
  clear hn hA hF
  have HB1 := Lib.hid (bl_alloc (Below.refl _ w) (.cells #[.int .i64 q, .int .i64 r, .int .i64 s] 74))
  have HR1 := Lib.hid (Blk.new w #[.int .i64 q, .int .i64 r, .int .i64 s] 74)
  have HA1 := Lib.hid (HA.out.bl HB1.out)
  go_enter Tryz.func51, Tryz.ntmps51
  obtain ⟨R, hR⟩ : ∃ R, R = w.heap.size := ⟨_, rfl⟩
  rw [← hR] at HR1
  have HRE := Lib.hid hR
  go_upto_region 1 with fail
  rw [← hR]
  clear hR
  generalize hw1 : w.alloc (.cells #[.int .i64 q, .int .i64 r, .int .i64 s] 74) = w1 at *
  clear hw1
  have D0 : Hid (stdL q r s S = stdL q r s (S.drop 0)) := rfl
  go_wp2_with fail
  go_loopw [5] (fun x wr => ∃ i : Nat, i ≤ n ∧ x = .int .i64 i ∧ Hid (stdL q r s S = stdL q r s (S.drop i)) ∧ ∃ z, wr = w1.drewN z) (fun x _ => n - (intOf x).toNat)
  case atStart => exact ⟨0, by omega, rfl, D0, 0, rfl⟩
  case round =>
    obtain ⟨i, hi, rfl, HD, z, rfl⟩ := hrel
    by_cases hlt : i < n
    · obtain ⟨b, o, rfl, _, hc⟩ := rdV HA1.out (by rw [HN.out]; omega)
      have c9 := hc i (by rw [HN.out]; exact hlt)
      have hil : i < S.length := by rw [HN.out]; exact hlt
      have HX : Hid (vA S i < 18446744073709551616) := HF.out _ (by rw [vA_get hil]; exact List.getElem_mem hil)
      have HNX : Hid (stdL q r s S = stdL q r s (vA S i :: S.drop (i + 1))) := by
        show _ = _
        rw [HD.out, List.drop_eq_getElem_cons hil, vA_get hil]
      rw [std_cons] at HNX
      clear hc hil HD
      generalize vA S i = x at *
      have hx := HX.out
      have c0 : w1.cell? ⟨R, 0, none⟩ = some (.int .i64 q) := HR1.out.cell 0
      have c1 : w1.cell? ⟨R, 1, none⟩ = some (.int .i64 r) := HR1.out.cell 1
      have c2 : w1.cell? ⟨R, 2, none⟩ = some (.int .i64 s) := HR1.out.cell 2
      go_wp2_with fail
      go_loopw [6] (fun y wr => ∃ k : Nat, k ≤ 3 ∧ y = .int .i64 k ∧ Hid ((0 < k → ((!x.testBit q && x.testBit r) && x.testBit s) = false) ∧ (1 < k → ((!x.testBit r && x.testBit s) && x.testBit q) = false) ∧ (2 < k → ((!x.testBit s && x.testBit q) && x.testBit r) = false)) ∧ ∃ z, wr = w1.drewN z) (fun y _ => 3 - (intOf y).toNat)
      case atStart => exact ⟨0, by omega, rfl, ⟨fun h => absurd h (by omega), fun h => absurd h (by omega), fun h => absurd h (by omega)⟩, z, rfl⟩
      case round =>
        obtain ⟨k, hk, rfl, HE, z, rfl⟩ := hrel
        obtain rfl | rfl | rfl | rfl : k = 0 ∨ k = 1 ∨ k = 2 ∨ k = 3 := by omega
        · by_cases h0 : x.testBit q = true
          · have t0 : (bits .and .u64 ((x : Int) / 2 ^ q) 1 == 0) = false := by rw [tb_eq0 hx, h0]; rfl
            have HCF : Hid (((!x.testBit q && x.testBit r) && x.testBit s) = false) := by show _ = _; rw [h0]; rfl
            have HE2 : Hid ((0 < 1 → ((!x.testBit q && x.testBit r) && x.testBit s) = false) ∧ (1 < 1 → ((!x.testBit r && x.testBit s) && x.testBit q) = false) ∧ (2 < 1 → ((!x.testBit s && x.testBit q) && x.testBit r) = false)) := ⟨fun _ => HCF.out, fun h => absurd h (by omega), fun h => absurd h (by omega)⟩
            clear HE HCF h0
            go_wp2_with fail
            go_quiet (fail)
            go_wp2_with fail
            generalize nq = nq0
            go_quiet (fail)
            go_wp2_with fail
            exact ⟨⟨1, by omega, by go_num, HE2, _, rfl⟩, by simp [intOf]⟩
          · have h0 : x.testBit q = false := by simpa using h0
            have t0 : (bits .and .u64 ((x : Int) / 2 ^ q) 1 == 0) = true := by rw [tb_eq0 hx, h0]; rfl
            by_cases h1 : x.testBit r = true
            · have t1 : (bits .and .u64 ((x : Int) / 2 ^ r) 1 == 1) = true := by rw [tb_eq1 hx, h1]
              by_cases h2 : x.testBit s = true
              · have t2 : (bits .and .u64 ((x : Int) / 2 ^ s) 1 == 1) = true := by rw [tb_eq1 hx, h2]
                have HV : Hid (stdL q r s S = 0) := by
                  show _ = _
                  rw [HNX.out, if_pos (by rw [h0, h1, h2]; rfl)]
                clear HE HNX h0 h1 h2
                go_wp2_with fail
                go_quiet (fail)
                go_wp2_with fail
                generalize nq = nq0
                go_quiet (fail)
                go_wp2_with fail
                go_ret
                exact ⟨by rw [HV.out]; rfl, by exact bl_drewN (bl_drewN (bl_drewN HB1.out z) nq0) nq⟩
              · have h2 : x.testBit s = false := by simpa using h2
                have t2 : (bits .and .u64 ((x : Int) / 2 ^ s) 1 == 1) = false := by rw [tb_eq1 hx, h2]
                have HCF : Hid (((!x.testBit q && x.testBit r) && x.testBit s) = false) := by show _ = _; rw [h2, Bool.and_false]
                have HE2 : Hid ((0 < 1 → ((!x.testBit q && x.testBit r) && x.testBit s) = false) ∧ (1 < 1 → ((!x.testBit r && x.testBit s) && x.testBit q) = false) ∧ (2 < 1 → ((!x.testBit s && x.testBit q) && x.testBit r) = false)) := ⟨fun _ => HCF.out, fun h => absurd h (by omega), fun h => absurd h (by omega)⟩
                clear HE HCF h0 h1 h2
                go_wp2_with fail
                go_quiet (fail)
                go_wp2_with fail
                generalize nq = nq0
                go_quiet (fail)
                go_wp2_with fail
                exact ⟨⟨1, by omega, by go_num, HE2, _, rfl⟩, by simp [intOf]⟩
            · have h1 : x.testBit r = false := by simpa using h1
              have t1 : (bits .and .u64 ((x : Int) / 2 ^ r) 1 == 1) = false := by rw [tb_eq1 hx, h1]
              have HCF : Hid (((!x.testBit q && x.testBit r) && x.testBit s) = false) := by show _ = _; rw [h1, Bool.and_false, Bool.false_and]
              have HE2 : Hid ((0 < 1 → ((!x.testBit q && x.testBit r) && x.testBit s) = false) ∧ (1 < 1 → ((!x.testBit r && x.testBit s) && x.testBit q) = false) ∧ (2 < 1 → ((!x.testBit s && x.testBit q) && x.testBit r) = false)) := ⟨fun _ => HCF.out, fun h => absurd h (by omega), fun h => absurd h (by omega)⟩
              clear HE HCF h0 h1
              go_wp2_with fail
              go_quiet (fail)
              go_wp2_with fail
              generalize nq = nq0
              go_quiet (fail)
              go_wp2_with fail
              exact ⟨⟨1, by omega, by go_num, HE2, _, rfl⟩, by simp [intOf]⟩
        · by_cases h0 : x.testBit r = true
          · have t0 : (bits .and .u64 ((x : Int) / 2 ^ r) 1 == 0) = false := by rw [tb_eq0 hx, h0]; rfl
            have HCF : Hid (((!x.testBit r && x.testBit s) && x.testBit q) = false) := by show _ = _; rw [h0]; rfl
            have HE2 : Hid ((0 < 2 → ((!x.testBit q && x.testBit r) && x.testBit s) = false) ∧ (1 < 2 → ((!x.testBit r && x.testBit s) && x.testBit q) = false) ∧ (2 < 2 → ((!x.testBit s && x.testBit q) && x.testBit r) = false)) := ⟨fun _ => HE.out.1 (by omega), fun _ => HCF.out, fun h => absurd h (by omega)⟩
            clear HE HCF h0
            go_wp2_with fail
            go_quiet (fail)
            go_wp2_with fail
            generalize nq = nq0
            go_quiet (fail)
            go_wp2_with fail
            exact ⟨⟨2, by omega, by go_num, HE2, _, rfl⟩, by simp [intOf]⟩
          · have h0 : x.testBit r = false := by simpa using h0
            have t0 : (bits .and .u64 ((x : Int) / 2 ^ r) 1 == 0) = true := by rw [tb_eq0 hx, h0]; rfl
            by_cases h1 : x.testBit s = true
            · have t1 : (bits .and .u64 ((x : Int) / 2 ^ s) 1 == 1) = true := by rw [tb_eq1 hx, h1]
              by_cases h2 : x.testBit q = true
              · have t2 : (bits .and .u64 ((x : Int) / 2 ^ q) 1 == 1) = true := by rw [tb_eq1 hx, h2]
                have HV : Hid (stdL q r s S = 1) := by
                  show _ = _
                  rw [HNX.out, if_neg (by rw [HE.out.1 (by omega)]; simp), if_pos (by rw [h0, h1, h2]; rfl)]
                clear HE HNX h0 h1 h2
                go_wp2_with fail
                go_quiet (fail)
                go_wp2_with fail
                generalize nq = nq0
                go_quiet (fail)
                go_wp2_with fail
                go_ret
                exact ⟨by rw [HV.out]; rfl, by exact bl_drewN (bl_drewN (bl_drewN HB1.out z) nq0) nq⟩
              · have h2 : x.testBit q = false := by simpa using h2
                have t2 : (bits .and .u64 ((x : Int) / 2 ^ q) 1 == 1) = false := by rw [tb_eq1 hx, h2]
                have HCF : Hid (((!x.testBit r && x.testBit s) && x.testBit q) = false) := by show _ = _; rw [h2, Bool.and_false]
                have HE2 : Hid ((0 < 2 → ((!x.testBit q && x.testBit r) && x.testBit s) = false) ∧ (1 < 2 → ((!x.testBit r && x.testBit s) && x.testBit q) = false) ∧ (2 < 2 → ((!x.testBit s && x.testBit q) && x.testBit r) = false)) := ⟨fun _ => HE.out.1 (by omega), fun _ => HCF.out, fun h => absurd h (by omega)⟩
                clear HE HCF h0 h1 h2
                go_wp2_with fail
                go_quiet (fail)
                go_wp2_with fail
                generalize nq = nq0
                go_quiet (fail)
                go_wp2_with fail
                exact ⟨⟨2, by omega, by go_num, HE2, _, rfl⟩, by simp [intOf]⟩
            · have h1 : x.testBit s = false := by simpa using h1
              have t1 : (bits .and .u64 ((x : Int) / 2 ^ s) 1 == 1) = false := by rw [tb_eq1 hx, h1]
              have HCF : Hid (((!x.testBit r && x.testBit s) && x.testBit q) = false) := by show _ = _; rw [h1, Bool.and_false, Bool.false_and]
              have HE2 : Hid ((0 < 2 → ((!x.testBit q && x.testBit r) && x.testBit s) = false) ∧ (1 < 2 → ((!x.testBit r && x.testBit s) && x.testBit q) = false) ∧ (2 < 2 → ((!x.testBit s && x.testBit q) && x.testBit r) = false)) := ⟨fun _ => HE.out.1 (by omega), fun _ => HCF.out, fun h => absurd h (by omega)⟩
              clear HE HCF h0 h1
              go_wp2_with fail
              go_quiet (fail)
              go_wp2_with fail
              generalize nq = nq0
              go_quiet (fail)
              go_wp2_with fail
              exact ⟨⟨2, by omega, by go_num, HE2, _, rfl⟩, by simp [intOf]⟩
        · by_cases h0 : x.testBit s = true
          · have t0 : (bits .and .u64 ((x : Int) / 2 ^ s) 1 == 0) = false := by rw [tb_eq0 hx, h0]; rfl
            have HCF : Hid (((!x.testBit s && x.testBit q) && x.testBit r) = false) := by show _ = _; rw [h0]; rfl
            have HE2 : Hid ((0 < 3 → ((!x.testBit q && x.testBit r) && x.testBit s) = false) ∧ (1 < 3 → ((!x.testBit r && x.testBit s) && x.testBit q) = false) ∧ (2 < 3 → ((!x.testBit s && x.testBit q) && x.testBit r) = false)) := ⟨fun _ => HE.out.1 (by omega), fun _ => HE.out.2.1 (by omega), fun _ => HCF.out⟩
            clear HE HCF h0
            go_wp2_with fail
            go_quiet (fail)
            go_wp2_with fail
            generalize nq = nq0
            go_quiet (fail)
            go_wp2_with fail
            exact ⟨⟨3, by omega, by go_num, HE2, _, rfl⟩, by simp [intOf]⟩
          · have h0 : x.testBit s = false := by simpa using h0
            have t0 : (bits .and .u64 ((x : Int) / 2 ^ s) 1 == 0) = true := by rw [tb_eq0 hx, h0]; rfl
            by_cases h1 : x.testBit q = true
            · have t1 : (bits .and .u64 ((x : Int) / 2 ^ q) 1 == 1) = true := by rw [tb_eq1 hx, h1]
              by_cases h2 : x.testBit r = true
              · have t2 : (bits .and .u64 ((x : Int) / 2 ^ r) 1 == 1) = true := by rw [tb_eq1 hx, h2]
                have HV : Hid (stdL q r s S = 2) := by
                  show _ = _
                  rw [HNX.out, if_neg (by rw [HE.out.1 (by omega)]; simp), if_neg (by rw [HE.out.2.1 (by omega)]; simp), if_pos (by rw [h0, h1, h2]; rfl)]
                clear HE HNX h0 h1 h2
                go_wp2_with fail
                go_quiet (fail)
                go_wp2_with fail
                generalize nq = nq0
                go_quiet (fail)
                go_wp2_with fail
                go_ret
                exact ⟨by rw [HV.out]; rfl, by exact bl_drewN (bl_drewN (bl_drewN HB1.out z) nq0) nq⟩
              · have h2 : x.testBit r = false := by simpa using h2
                have t2 : (bits .and .u64 ((x : Int) / 2 ^ r) 1 == 1) = false := by rw [tb_eq1 hx, h2]
                have HCF : Hid (((!x.testBit s && x.testBit q) && x.testBit r) = false) := by show _ = _; rw [h2, Bool.and_false]
                have HE2 : Hid ((0 < 3 → ((!x.testBit q && x.testBit r) && x.testBit s) = false) ∧ (1 < 3 → ((!x.testBit r && x.testBit s) && x.testBit q) = false) ∧ (2 < 3 → ((!x.testBit s && x.testBit q) && x.testBit r) = false)) := ⟨fun _ => HE.out.1 (by omega), fun _ => HE.out.2.1 (by omega), fun _ => HCF.out⟩
                clear HE HCF h0 h1 h2
                go_wp2_with fail
                go_quiet (fail)
                go_wp2_with fail
                generalize nq = nq0
                go_quiet (fail)
                go_wp2_with fail
                exact ⟨⟨3, by omega, by go_num, HE2, _, rfl⟩, by simp [intOf]⟩
            · have h1 : x.testBit q = false := by simpa using h1
              have t1 : (bits .and .u64 ((x : Int) / 2 ^ q) 1 == 1) = false := by rw [tb_eq1 hx, h1]
              have HCF : Hid (((!x.testBit s && x.testBit q) && x.testBit r) = false) := by show _ = _; rw [h1, Bool.and_false, Bool.false_and]
              have HE2 : Hid ((0 < 3 → ((!x.testBit q && x.testBit r) && x.testBit s) = false) ∧ (1 < 3 → ((!x.testBit r && x.testBit s) && x.testBit q) = false) ∧ (2 < 3 → ((!x.testBit s && x.testBit q) && x.testBit r) = false)) := ⟨fun _ => HE.out.1 (by omega), fun _ => HE.out.2.1 (by omega), fun _ => HCF.out⟩
              clear HE HCF h0 h1
              go_wp2_with fail
              go_quiet (fail)
              go_wp2_with fail
              generalize nq = nq0
              go_quiet (fail)
              go_wp2_with fail
              exact ⟨⟨3, by omega, by go_num, HE2, _, rfl⟩, by simp [intOf]⟩
        · have HD2 : Hid (stdL q r s S = stdL q r s (S.drop (i + 1))) := by
            show _ = _
            rw [HNX.out, if_neg (by rw [HE.out.1 (by omega)]; simp), if_neg (by rw [HE.out.2.1 (by omega)]; simp), if_neg (by rw [HE.out.2.2 (by omega)]; simp)]
          clear HE HNX
          go_wp2_with fail
          exact ⟨⟨i + 1, by omega, by go_num, HD2, z, rfl⟩, by simp [intOf]; omega⟩
    · obtain rfl : i = n := by omega
      have HV : Hid (stdL q r s S = 3) := by
        show _ = _
        rw [HD.out, List.drop_eq_nil_of_le (by rw [HN.out]; exact Nat.le_refl _)]
        rfl
      go_wp2_with fail
      go_ret
      exact ⟨by rw [HV.out]; rfl, bl_drewN HB1.out z⟩
end Go.Proofs.YtfgkjofdgohacaaGreatDoor
namespace Go.Proofs.YtfgkjofdgohacaaGreatDoor
open Go Go.RowKit Go.Shelf Go.Maps
def td0 (A B : List Nat) (i j k : Nat) : Nat := if difT A B i j k then 1 else 0
def td1 (A B : List Nat) (L i j : Nat) : Nat := smN (fun k => if j < k then td0 A B i j k else 0) L
def td2 (A B : List Nat) (L i : Nat) : Nat := smN (fun j => if i < j then td1 A B L i j else 0) L
theorem tri_td (A B : List Nat) (L : Nat) : triN A B L = smN (td2 A B L) L := tri_eq A B L
/-- The sums under way. -/
def ts1 (A B : List Nat) (i j : Nat) : Nat → Nat := smN fun k => if j < k then td0 A B i j k else 0
def ts2 (A B : List Nat) (L i : Nat) : Nat → Nat := smN fun j => if i < j then td1 A B L i j else 0
theorem ts1_zero (A B : List Nat) (i j : Nat) : ts1 A B i j (j + 1) = 0 := (smN_eq_zero _).2 fun k hk => if_neg (by omega)
theorem ts2_zero (A B : List Nat) (L i : Nat) : ts2 A B L i (i + 1) = 0 := (smN_eq_zero _).2 fun k hk => if_neg (by omega)
theorem ts1_succ (A B : List Nat) {i j k : Nat} (h : j < k) : ts1 A B i j (k + 1) = ts1 A B i j k + td0 A B i j k := by
  show ts1 A B i j k + (if j < k then td0 A B i j k else 0) = _
  rw [if_pos h]
theorem ts2_succ (A B : List Nat) (L : Nat) {i j : Nat} (h : i < j) : ts2 A B L i (j + 1) = ts2 A B L i j + td1 A B L i j := by
  show ts2 A B L i j + (if i < j then td1 A B L i j else 0) = _
  rw [if_pos h]
theorem td0_le (A B : List Nat) (i j k : Nat) : td0 A B i j k ≤ 1 := by unfold td0; split <;> omega
theorem ts1_le (A B : List Nat) (i j k : Nat) : ts1 A B i j k ≤ k := by
  have := smN_le (f := fun k => if j < k then td0 A B i j k else 0) (b := 1) (fun k => by
    show (if j < k then td0 A B i j k else 0) ≤ 1
    have := td0_le A B i j k
    split <;> omega) k
  show smN _ k ≤ k
  omega
theorem ts2_le (A B : List Nat) {L : Nat} (hL : L ≤ 63) (i j : Nat) (hj : j ≤ 63) : ts2 A B L i j ≤ 3969 := by
  have h1 := smN_le (f := fun j => if i < j then td1 A B L i j else 0) (b := 63) (fun j => by
    show (if i < j then td1 A B L i j else 0) ≤ 63
    have : td1 A B L i j ≤ L := ts1_le A B i j L
    split <;> omega) j
  have h2 : j * 63 ≤ 63 * 63 := Nat.mul_le_mul_right _ hj
  show smN _ j ≤ _
  omega
theorem ts3_le (A B : List Nat) {L : Nat} (hL : L ≤ 63) (i : Nat) (hi : i ≤ 63) : smN (td2 A B L) i ≤ 250047 := by
  have h1 := smN_le (f := td2 A B L) (b := 3969) (fun i => ts2_le A B hL i L hL) i
  have h2 : i * 3969 ≤ 63 * 3969 := Nat.mul_le_mul_right _ hi
  omega
set_option maxRecDepth 100000 in
set_option maxHeartbeats 8000000 in
theorem rtriples_any (a b : Option Addr) (n c m d : Nat) (s t : List Nd) (w : World) (hn : s.length = n) (hm : t.length = m) (hN : n ≤ 1152921504606846976) (hM : m ≤ 1152921504606846976) (hA : Rd w a (fl encNd s)) (hB : Rd w b (fl encNd t)) (hS : ∀ v, v < n → (nS s v).size ≤ 9223372036854775807) (hT : ∀ v, v < m → (nS t v).size ≤ 9223372036854775807) :
    Calls Tryz.prog 16 #[.slice a n c, .slice b m d] w fun e w' => e = .returned (.tuple #[.int .i64 (triV s t), .int .i64 (twoE s t)]) ∧ Below w.heap.size w w' := by
  have H0 := Lib.hid (rtwo_any a b n c m d s t w hn hm hN hM hA hB hS hT)
  have H1 := Lib.hid (fun W (hb : Below w.heap.size w W) (h : TreeOk s) => rclades_any a n c s W hn h (hA.bl hb) hS)
  have H2 := Lib.hid (fun W (hb : Below w.heap.size w W) (h : TreeOk t) => rclades_any b m d t W hm h (hB.bl hb) hT)
  have H3 := Lib.hid (fun W (hb : Below w.heap.size w W) (h : TreeOk s) => rnames_any a n c s W hn (hA.bl hb) hS h)
  clear hn hm hA hB hS hT hN hM
  go_enter Tryz.func16, Tryz.ntmps16
  go_wp2_with fail
  refine H0.out.mono ?_
  rintro e w1 ⟨rfl, hb1⟩
  have HB1 := Lib.hid hb1
  clear hb1 H0
  by_cases hE : twoE s t = 0
  · have HV := Lib.hid (triV_ok hE)
    have hok : TreeOk s ∧ TreeOk t ∧ nmsL s = nmsL t := by
      rcases twoE_cases s t with ⟨_, h⟩ | ⟨_, _, _, h⟩ | ⟨_, _, _, _, _, h⟩ | ⟨h1, h2, _, _, h3, _⟩
      · omega
      · omega
      · omega
      · exact ⟨h1, h2, h3⟩
    have H1 := Lib.hid (fun W hb => H1.out W hb hok.1)
    have H2 := Lib.hid (fun W hb => H2.out W hb hok.2.1)
    have H3 := Lib.hid (fun W hb => H3.out W hb hok.1)
    have l1 := cls_le63 hok.1
    have l2 := cls_le63 hok.2.1
    have HH1 := Lib.hid (cls_hier rfl hok.1)
    have HH2 := Lib.hid (cls_hier rfl hok.2.1)
    have l3 := lvT_le63 hok.1
    have hlz : (lvT t).length = (lvT s).length := by
      have h1 := congrArg List.length hok.2.2
      rw [nmsL_len, nmsL_len] at h1
      exact h1.symm
    rw [hlz] at HH2
    rw [hE]
    have HE := Lib.hid hE
    clear hE hok hlz
    rw [tri_td] at HV
    obtain ⟨A, hAe⟩ : ∃ A, A = clsL s := ⟨_, rfl⟩
    obtain ⟨B, hBe⟩ : ∃ B, B = clsL t := ⟨_, rfl⟩
    obtain ⟨L, hLe⟩ : ∃ L, L = (lvT s).length := ⟨_, rfl⟩
    rw [← hAe, ← hLe] at HH1
    rw [← hBe, ← hLe] at HH2
    rw [← hLe] at H3 l3
    rw [← hAe, ← hBe, ← hLe] at HV
    rw [← hAe] at H1 l1
    rw [← hBe] at H2 l2
    obtain ⟨p, hp⟩ : ∃ p, p = A.length := ⟨_, rfl⟩
    obtain ⟨q, hq⟩ : ∃ q, q = B.length := ⟨_, rfl⟩
    rw [← hp] at H1 l1
    rw [← hq] at H2 l2
    have HP := Lib.hid hp
    have HQ := Lib.hid hq
    clear hAe hBe hp hq hLe
    go_wp2_with fail
    refine (H1.out _ HB1.out).mono ?_
    rintro e w2 ⟨v2, rfl, ho2, hb2⟩
    obtain ⟨a2, c2, rfl⟩ := owns_sl ho2
    have HB2 := Lib.hid (bl_trans HB1.out hb2)
    have HO2 := Lib.hid (rd_of_owns ho2)
    clear ho2 hb2
    go_wp2_with fail
    refine (H2.out _ HB2.out).mono ?_
    rintro e w3 ⟨v3, rfl, ho3, hb3⟩
    obtain ⟨a3, c3, rfl⟩ := owns_sl ho3
    have HB3 := Lib.hid (bl_trans HB2.out hb3)
    have HA3 := Lib.hid (HO2.out.bl hb3)
    have HB3r := Lib.hid (rd_of_owns ho3)
    clear ho3 hb3 HB2 HO2 HB1 H1 H2
    go_wp2_with fail
    refine (H3.out _ HB3.out).mono ?_
    rintro e w4 ⟨v4, rfl, ho4, hb4⟩
    obtain ⟨a4, c4, rfl⟩ := owns_sl ho4
    have HB4 := Lib.hid (bl_trans HB3.out hb4)
    have HA := Lib.hid (HA3.out.bl hb4)
    have HB := Lib.hid (HB3r.out.bl hb4)
    clear ho4 hb4 HB3 HA3 HB3r H3
    have HST1 := Lib.hid (fun (x y z : Nat) W (hb : Below w4.heap.size w4 W) (hx : x ≤ 63) (hy : y ≤ 63) (hz : z ≤ 63) => stand_any a2 p c2 x y z A W HP.out.symm (by omega) (HA.out.bl hb) (fun u hu => HH1.out.b64 (by omega) hu) hx hy hz)
    have HST2 := Lib.hid (fun (x y z : Nat) W (hb : Below w4.heap.size w4 W) (hx : x ≤ 63) (hy : y ≤ 63) (hz : z ≤ 63) => stand_any a3 q c3 x y z B W HQ.out.symm (by omega) (HB.out.bl hb) (fun u hu => HH2.out.b64 (by omega) hu) hx hy hz)
    have HDF := Lib.hid (fun i j k => difT_std HH1.out HH2.out i j k)
    have T0 : Hid (smN (td2 A B L) 0 = 0) := rfl
    have HC0 := Lib.hid (Below.refl w4.heap.size w4)
    clear HA HB HH1 HH2
    go_wp2_with fail
    go_loopw [9, 11] (fun y x wr => ∃ i : Nat, i ≤ L ∧ x = .int .i64 i ∧ y = .int .i64 (smN (td2 A B L) i : Nat) ∧ Hid (Below w4.heap.size w4 wr)) (fun _ x _ => L - (intOf x).toNat)
    case atStart => exact ⟨0, by omega, rfl, by rw [T0.out]; rfl, HC0⟩
    case round =>
      clear HC0 T0
      obtain ⟨i, hi, rfl, rfl, HBW⟩ := hrel
      have b1 := ts3_le A B l3 i (by omega)
      by_cases hlt : i < L
      · have Z2 := Lib.hid (ts2_zero A B L i)
        have HN2 : Hid (smN (td2 A B L) (i + 1) = smN (td2 A B L) i + ts2 A B L i L) := rfl
        obtain ⟨U, hU⟩ : ∃ U, U = smN (td2 A B L) i := ⟨_, rfl⟩
        rw [← hU] at HN2 b1 ⊢
        clear hU
        go_wp2_with fail
        go_loopw [9, 12] (fun y x wr => ∃ j : Nat, i < j ∧ j ≤ L ∧ x = .int .i64 j ∧ y = .int .i64 (U + ts2 A B L i j : Nat) ∧ Hid (Below w4.heap.size w4 wr)) (fun _ x _ => L - (intOf x).toNat)
        case atStart => exact ⟨i + 1, by omega, by omega, by go_num, by rw [Z2.out]; rfl, HBW⟩
        case round =>
          clear HBW Z2
          obtain ⟨j, hij, hj, rfl, rfl, HBW⟩ := hrel
          have b2 := ts2_le A B l3 i j (by omega)
          by_cases hlj : j < L
          · have Z1 := Lib.hid (ts1_zero A B i j)
            have HN1 : Hid (ts2 A B L i (j + 1) = ts2 A B L i j + ts1 A B i j L) := ts2_succ A B L hij
            obtain ⟨V, hV⟩ : ∃ V, V = ts2 A B L i j := ⟨_, rfl⟩
            rw [← hV] at HN1 b2 ⊢
            clear hV
            go_wp2_with fail
            go_loopw [9, 13] (fun y x wr => ∃ k : Nat, j < k ∧ k ≤ L ∧ x = .int .i64 k ∧ y = .int .i64 (U + V + ts1 A B i j k : Nat) ∧ Hid (Below w4.heap.size w4 wr)) (fun _ x _ => L - (intOf x).toNat)
            case atStart => exact ⟨j + 1, by omega, by omega, by go_num, by rw [Z1.out]; rfl, HBW⟩
            case round =>
              clear HBW Z1
              obtain ⟨k, hjk, hk, rfl, rfl, HBW⟩ := hrel
              have b3 := ts1_le A B i j k
              by_cases hlk : k < L
              · have HN0 := Lib.hid (ts1_succ A B (i := i) hjk)
                obtain ⟨R, hR⟩ : ∃ R, R = ts1 A B i j k := ⟨_, rfl⟩
                rw [← hR] at HN0 b3 ⊢
                clear hR
                have HD := Lib.hid (HDF.out i j k)
                go_wp2_with fail
                refine (HST1.out i j k _ HBW.out (by omega) (by omega) (by omega)).mono ?_
                rintro e w5 ⟨rfl, hb5⟩
                have HB5 := Lib.hid (bl_trans HBW.out hb5)
                clear hb5
                go_wp2_with fail
                refine (HST2.out i j k _ HB5.out (by omega) (by omega) (by omega)).mono ?_
                rintro e w6 ⟨rfl, hb6⟩
                have HB6 := Lib.hid (bl_trans HB5.out hb6)
                clear hb6
                generalize stdL i j k A = x1 at *
                generalize stdL i j k B = x2 at *
                by_cases hx : x1 = x2
                · have e1 : (x1 == x2) = true := by simp [hx]
                  have e2 : (x1 != x2) = false := by simp [hx]
                  have HT : Hid (td0 A B i j k = 0) := by
                    show _ = _
                    have h := HD.out
                    rw [decide_eq_true hx] at h
                    unfold td0
                    cases hd : difT A B i j k
                    · rfl
                    · rw [hd] at h; cases h
                  clear hx HD
                  go_wp2_with fail
                  exact ⟨⟨k + 1, by omega, by omega, by go_num, by rw [HN0.out, HT.out, Nat.add_zero]; go_num, HB6⟩, by simp [intOf]; omega⟩
                · have e1 : (x1 == x2) = false := by simp [hx]
                  have e2 : (x1 != x2) = true := by simp [hx]
                  have HT : Hid (td0 A B i j k = 1) := by
                    show _ = _
                    have h := HD.out
                    rw [decide_eq_false hx] at h
                    unfold td0
                    cases hd : difT A B i j k
                    · rw [hd] at h; cases h
                    · rfl
                  clear hx HD
                  go_wp2_with fail
                  exact ⟨⟨k + 1, by omega, by omega, by go_num, by rw [HN0.out, HT.out]; go_num, HB6⟩, by simp [intOf]; omega⟩
              · obtain rfl : k = L := by omega
                go_wp2_with fail
                exact ⟨⟨j + 1, by omega, by omega, by go_num, by rw [HN1.out, Nat.add_assoc], HBW⟩, by simp [intOf]; omega⟩
          · obtain rfl : j = L := by omega
            go_wp2_with fail
            exact ⟨⟨i + 1, by omega, by go_num, by rw [HN2.out], HBW⟩, by simp [intOf]; omega⟩
      · obtain rfl : i = L := by omega
        go_wp2_with fail
        go_ret2
        exact ⟨by rw [HV.out, HE.out]; rfl, bl_trans HB4.out HBW.out⟩
  · have HV := Lib.hid (triV_bad hE)
    obtain ⟨E, hEE⟩ : ∃ E, E = twoE s t := ⟨_, rfl⟩
    rw [← hEE] at hE ⊢
    have t1 : (E != 0) = true := by simp [hE]
    have t2 : (E == 0) = false := by simp [hE]
    have HE := Lib.hid hEE
    clear hE hEE
    go_wp2_with fail
    go_ret2
    exact ⟨by rw [HV.out, ← HE.out]; rfl, HB1.out⟩
end Go.Proofs.YtfgkjofdgohacaaGreatDoor
namespace Go.Proofs.YtfgkjofdgohacaaGreatDoor
open Go Go.RowKit Go.Shelf Go.Maps
set_option maxRecDepth 100000 in
set_option maxHeartbeats 4000000 in
theorem trips_any (a b : Option Addr) (n c m d : Nat) (s t : List Nd) (w : World) (hn : s.length = n) (hm : t.length = m) (hN : n ≤ 1152921504606846976) (hM : m ≤ 1152921504606846976) (hA : Rd w a (fl encNd s)) (hB : Rd w b (fl encNd t)) (hS : ∀ v, v < n → (nS s v).size ≤ 9223372036854775807) (hT : ∀ v, v < m → (nS t v).size ≤ 9223372036854775807) (hZ : TzG w) :
    Calls Tryz.prog 3 #[.slice a n c, .slice b m d] w fun e w' => e = .returned (.bool true) ∧ Below w.heap.size w w' := by
  have ENDW : Hid (∀ W, Below w.heap.size w W → Calls Tryz.prog 14 #[] W fun e w' => e = .returned (.bool true) ∧ Below w.heap.size w w') := fun W hb => (works_any W (hZ.bl hb)).mono fun e w' h => ⟨h.1, bl_trans hb h.2⟩
  have H1 : Hid (∀ W, Below w.heap.size w W → _) := fun W hb => triples_any a b n c m d s t W hn hm hN hM (hA.bl hb) (hB.bl hb) hS hT
  have H2 : Hid (∀ W, Below w.heap.size w W → _) := fun W hb => rtriples_any a b n c m d s t W hn hm hN hM (hA.bl hb) (hB.bl hb) hS hT
  have KEY : Hid (∀ q1 q2 q3 q4 q5 q6 : Bool, decide (24 < (n : Int)) = q1 → decide ((n : Int) ≤ 63) = q2 → decide (24 < (m : Int)) = q3 → decide ((m : Int) ≤ 63) = q4 → decide (100 < (n : Int)) = q5 → decide (100 < (m : Int)) = q6 → Calls Tryz.prog 3 #[.slice a n c, .slice b m d] w fun e w' => e = .returned (.bool true) ∧ Below w.heap.size w w') := by
    clear hA hB hS hT hZ hn hm
    intro q1 q2 q3 q4 q5 q6 d1 d2 d3 d4 d5 d6
    go_enter Tryz.func3, Tryz.ntmps3
    cases q1 <;> cases q2 <;> cases q3 <;> cases q4 <;> cases q5 <;> cases q6 <;> first
      | (exfalso; simp only [decide_eq_true_eq, decide_eq_false_iff_not] at d1 d2 d3 d4 d5 d6; omega)
      | (go_wp2_with fail
         refine (ENDW.out _ (Below.refl _ _)).mono ?_
         rintro e w3 ⟨rfl, hb3⟩
         go_wp2_with fail
         go_ret
         exact ⟨rfl, hb3⟩)
      | (go_wp2_with fail
         refine (H1.out _ (Below.refl _ _)).mono ?_
         rintro e w1 ⟨rfl, hb1⟩
         have HB1 := Lib.hid hb1
         clear hb1
         go_wp2_with fail
         refine (H2.out _ HB1.out).mono ?_
         rintro e w2 ⟨rfl, hb2⟩
         have HB2 := Lib.hid (bl_trans HB1.out hb2)
         clear hb2
         go_wp2_with fail
         refine (ENDW.out _ HB2.out).mono ?_
         rintro e w8 ⟨rfl, hb8⟩
         go_wp2_with fail
         go_ret
         exact ⟨rfl, hb8⟩)
  exact KEY.out _ _ _ _ _ _ rfl rfl rfl rfl rfl rfl
end Go.Proofs.YtfgkjofdgohacaaGreatDoor
namespace Go.Proofs.YtfgkjofdgohacaaGreatDoor
open Go.ChangeShapes Go.WideShapes Go.RowKit Go.Deep
section
variable {H : Type} {enc : TypeId × Value → H} {P : Program}
/-- Arguments read as they did, in a world that keeps all that lay there. -/
theorem trodAll_stays (hl : laidOutB P = true) {W W' : World} {sp : Nat → Bool} (hb : Below W.heap.size W W') : ∀ {ts : List TypeId} {vs : List Value} {ds : List (DataW H)} {ps : List MemPlace}, (∀ t ∈ ts, P.readableRec t = true ∧ t < P.types.size) →
    DataW.TrodAll enc P W 0 (fun _ => true) true ts vs ds ps → (∀ p ∈ ps, p.block < W.heap.size) → (∀ p ∈ ps, sp p.block = true) → DataW.TrodAll enc P W' 0 sp true ts vs ds ps
  | [], vs, ds, ps, _, h, _, _ => by
    obtain ⟨rfl, rfl, rfl⟩ := trodAll_nil h
    exact trodAll_mk0
  | t :: ts, vs, ds, ps, ht, h, hlt, hsp => by
    obtain ⟨v, vs', d, ds', p, q, rfl, rfl, rfl, h1, h2⟩ := trodAll_cons h
    obtain ⟨hr, hrow⟩ := ht t (by simp)
    exact trodAll_cons_mk (WideElems.Trod_stays hl hr hrow h1 (fun x hx => hb.same (hlt x (List.mem_append_left _ hx))) (fun x hx => hsp x (List.mem_append_left _ hx)))
      (trodAll_stays hl hb (fun t' ht' => ht t' (by simp [ht'])) h2 (fun x hx => hlt x (List.mem_append_right _ hx)) (fun x hx => hsp x (List.mem_append_right _ hx)))
/-- What a statement's row asks of a call that returns true and keeps all that lay there. -/
theorem post_law {f : Func} {s : ChangeSpec} {W W' : World} {args : Array Value} {ds : List (DataW H)} {before : List MemPlace} {tb : TypeId} (hsv : s.vars = []) (hfn : s.fn H (ds ++ []) = { results := [.lit (.bool true)], args := ds })
    (hl : laidOutB P = true) (hpt : ∀ t ∈ f.params.toList, P.readableRec t = true ∧ t < P.types.size) (hrt : f.resultTypes = #[tb]) (htb : P.underlying tb = some .bool)
    (hW : DataW.Whole enc P f.params.toList s.vars false W args.toList ds [] before) (hb : Below W.heap.size W W') : s.post enc P f false true false false W args (.bool true) W' := by
  have hlt : ∀ p ∈ before, p.block < W.heap.size := fun p hp => hW.lt p hp
  have hW2 := hW
  obtain ⟨p, q, hA, hV, rfl, _, _⟩ := hW
  rw [hsv] at hV
  obtain ⟨_, rfl⟩ := trodVars_none hV
  rw [List.append_nil] at hlt
  refine ⟨ds, [], _, [], p, [], hW2, ?_, ?_, ?_, ?_, fun h => by cases h⟩
  · rw [hfn, hrt]
    exact trodAll_cons_mk (p := []) (p' := []) (shut_bool htb _) trodAll_mk0
  · rw [hfn]
    exact trodAll_stays hl hb hpt hA hlt (fun x hx => by simpa using hlt x hx)
  · rw [hsv, hfn]
    rfl
  · exact World.keptBut_mono (fun x hx => ⟨by simpa using hx, .inr (.inl (by simpa using hx))⟩) (hb.frame (· ∈ p))
end
end Go.Proofs.YtfgkjofdgohacaaGreatDoor
namespace Go.Proofs.YtfgkjofdgohacaaGreatDoor
open Go.ChangeShapes Go.WideShapes Go.ChangeAt Go.RowKit Go.Deep
theorem own : ownKnob Tryz.prog.godebug = none := by kernel_rfl
theorem laidOut : laidOutB Tryz.prog = true := by kernel_rfl
/-- The cells of a table. -/
def tabCells (d : DataW Unit) : Array Value :=
  match d with
  | .agg ps => (ps.map fun x => match x with
    | .lit (.int k n) => Value.int k n
    | _ => undef).toArray
  | _ => #[]
def laidOn (P : Program) : List (String × DataW Unit) → World → World
  | [], w => w
  | (n, d) :: r, w => laidOn P r { w with heap := w.heap.modify ((P.globalNamed n).getD 0) fun
      | .cells _ t frozen => .cells (tabCells d) t frozen
      | o => o }
/-- A world that holds the tables. -/
noncomputable def laidWorld (os : Os) : World := laidOn Tryz.prog Rows.treecmpTriplesRow.laid (World.holding Tryz.prog os ⟨#[], #[], []⟩)
theorem list_two {α : Type} : ∀ {l : List α}, l.length = 2 → ∃ a b, l = [a, b]
  | [a, b], _ => ⟨a, b, rfl⟩
def IntOk (x : Int) : Prop := -9223372036854775808 ≤ x ∧ x ≤ 9223372036854775807
end Go.Proofs.YtfgkjofdgohacaaGreatDoor
namespace Go.Proofs.YtfgkjofdgohacaaGreatDoor
open Go.ChangeShapes Go.WideShapes Go.RowKit Go.Deep
theorem weightsAll_mem {H : Type} {P : Program} {e : TypeId} {d : DataW H} : ∀ {l : List (DataW H)}, d ∈ l → ∀ n ∈ d.weights P e, n ∈ DataW.weightsAll P e l
  | x :: l, h, n, hn => by
    simp only [DataW.weightsAll, List.mem_append]
    rcases List.mem_cons.1 h with rfl | h
    · exact .inl hn
    · exact .inr (weightsAll_mem h n hn)
/-- Each argument's weights are bounded. -/
theorem sized_arg {H : Type} {P : Program} {ts : List TypeId} {ds : List (DataW H)} (h : (DataW.weightsEach P ts ds).all (· ≤ reachBytes) = true) {j : Nat} {t : TypeId} {d : DataW H} (ht : ts[j]? = some t) (hd : ds[j]? = some d) : ∀ y ∈ d.weights P t, y ≤ reachBytes :=
  fun y hy => of_decide_eq_true (List.all_eq_true.1 h _ (DataW.weights_mem_each ht hd y hy))
section
variable {H : Type} {enc : TypeId × Value → H} {P : Program}
/-- The cells of a slice that came in: read as a list; its elements' sizes bounded. -/
theorem rd_cellsS {α : Type} {encα : α → List Value} {k : Nat} (hk : ∀ x, (encα x).length = k) (hk0 : 0 < k) {good : α → Prop} {W : World} {t e : TypeId} (ht : P.underlying t = some (.slice e)) (hC : P.cellsOf e = k)
    (hel : ∀ (n : Nat) (cs : List Value) (x : DataW H × List MemPlace), DataW.trod enc P W 0 (fun _ => true) true n e cs = some x → (∀ y ∈ x.1.weights P e, y ≤ reachBytes) → ∃ a : α, cs = encα a ∧ good a) {fuel : Nat} {cs : List Value} {x : DataW H × List MemPlace}
    (hf : DataW.trod enc P W 0 (fun _ => true) true fuel t cs = some x) (hsz : ∀ y ∈ x.1.weights P t, y ≤ reachBytes) :
    ∃ (a : Option Addr) (n c : Nat) (l : List α), cs = [.slice a n c] ∧ l.length = n ∧ n ≤ 9223372036854775807 ∧ (n ≤ c ∧ c ≤ 9223372036854775807) ∧ n * P.bytesOf e ≤ reachBytes ∧ (a = none → n = 0 ∧ c = 0) ∧ Rd W a (fl encα l) ∧ ∀ i (hi : i < l.length), good l[i] := by
  rcases open_slice ht hf with ⟨rfl, _⟩ | ⟨a', len, cap, m, n, D, Pl, rfl, hb, hlc, hcm, hm, hx, hi⟩
  · exact ⟨none, 0, 0, [], rfl, rfl, by omega, ⟨by omega, by omega⟩, by simp, fun _ => ⟨rfl, rfl⟩, Rd.nil _ _, fun i hi => absurd hi (by simp)⟩
  · have hwt : ∀ i, i < len → ∀ y ∈ (D i).weights P e, y ≤ reachBytes := by
      intro i hil y hy
      refine hsz y ?_
      rw [hx]
      simp only [DataW.weights, ht, List.mem_cons, List.mem_append]
      exact .inr (.inl (weightsAll_mem (List.mem_map.2 ⟨i, List.mem_range.2 hil, rfl⟩) y hy))
    have hlen : len * P.bytesOf e ≤ reachBytes := by
      have h1 := hsz ((((List.range len).map D).length + ((List.range (m - len)).map fun j => D (len + j)).length) * P.bytesOf e) (by rw [hx]; simp only [DataW.weights, ht, List.mem_cons, true_or])
      refine Nat.le_trans (Nat.mul_le_mul_right _ ?_) h1
      simp
    simp only [if_true] at hm
    subst hm
    rw [hC] at hi
    have hex : ∀ i, i < len → ∃ x : α, good x ∧ ∀ j, j < k → W.cell? (a'.add (i * k + j)) = (encα x)[j]? := by
      intro i hil
      obtain ⟨cs', h1, h2⟩ := hi i (by omega)
      obtain ⟨x, rfl, hg⟩ := hel _ _ _ h2 (hwt i hil)
      obtain ⟨_, _, hat⟩ := World.cells?_some h1
      refine ⟨x, hg, fun j hj => ?_⟩
      rw [← Go.Deep.add_add]
      exact hat j hj
    have hls : ∀ n, n ≤ len → ∃ l : List α, l.length = n ∧ ∀ i (hi : i < l.length), good l[i] ∧ ∀ j, j < k → W.cell? (a'.add (i * k + j)) = (encα l[i])[j]? := by
      intro n
      induction n with
      | zero => intro _; exact ⟨[], rfl, fun i hi => absurd hi (by simp)⟩
      | succ n ih =>
        intro hn
        obtain ⟨l, hl, hg⟩ := ih (by omega)
        obtain ⟨x, hx1, hx2⟩ := hex n (by omega)
        refine ⟨l ++ [x], by simp [hl], fun i hi => ?_⟩
        by_cases e3 : i < l.length
        · rw [List.getElem_append_left e3]; exact hg i e3
        · obtain rfl : i = n := by simp at hi; omega
          rw [List.getElem_append_right (by omega)]
          simpa [hl] using ⟨hx1, hx2⟩
    obtain ⟨l, hl, hg⟩ := hls len (Nat.le_refl _)
    refine ⟨some a', len, _, l, rfl, hl, by unfold maxLen at hcm; omega, ⟨hlc, by unfold maxLen at hcm; omega⟩, hlen, (fun e => by cases e), ?_, fun i hi => (hg i hi).1⟩
    intro h0
    rw [fl_length hk, hl] at h0
    have hlen0 : 0 < len := by
      rcases Nat.eq_zero_or_pos len with e4 | e4
      · rw [e4] at h0; simp at h0
      · exact e4
    have hcell : ∀ i, i < len * k → W.cell? (a'.add i) = (fl encα l)[i]? := by
      intro i hi
      have hq : i / k < len := (Nat.div_lt_iff_lt_mul hk0).2 hi
      have hr : i % k < k := Nat.mod_lt _ hk0
      have e5 : i / k * k + i % k = i := by rw [Nat.mul_comm]; exact Nat.div_add_mod i k
      have h1 := (hg (i / k) (by rw [hl]; exact hq)).2 (i % k) hr
      have h2 := fl_getElem? hk l (i / k) (i % k) hr
      have hq2 : i / k < l.length := by rw [hl]; exact hq
      rw [List.getElem?_eq_getElem hq2] at h2
      simp only [Option.bind_some] at h2
      rw [e5] at h1 h2
      rw [h1, h2]
    obtain ⟨bb, off, sub⟩ := a'
    have hs0 := hcell 0 h0
    have hne : (fl encα l)[0]? = some ((fl encα l)[0]'(by rw [fl_length hk, hl]; exact h0)) := List.getElem?_eq_getElem _
    rw [hne] at hs0
    have hsub : sub = none := by
      cases sub with
      | none => rfl
      | some z =>
        simp only [Addr.add, if_true, World.cell?, Option.isSome_some] at hs0
        split at hs0 <;> cases hs0
    subst hsub
    refine ⟨bb, off, rfl, World.block_lt_of_cell? W _ hs0, fun i hi => ?_⟩
    rw [fl_length hk, hl] at hi
    have h1 := hcell i hi
    rw [List.getElem?_eq_getElem (by rw [fl_length hk, hl]; exact hi)] at h1
    rw [List.getD_eq_getElem?_getD, List.getElem?_eq_getElem (by rw [fl_length hk, hl]; exact hi)]
    refine Eq.trans ?_ h1
    by_cases hi0 : i = 0
    · subst hi0; rfl
    · simp only [Addr.add, if_neg hi0]
/-- A slice that came in: read as a list; its elements' sizes bounded. -/
theorem rd_openS {α : Type} {encα : α → List Value} {k : Nat} (hk : ∀ x, (encα x).length = k) (hk0 : 0 < k) {good : α → Prop} {W : World} {t e : TypeId} (ht : P.underlying t = some (.slice e)) (hC : P.cellsOf e = k)
    (hel : ∀ (n : Nat) (cs : List Value) (x : DataW H × List MemPlace), DataW.trod enc P W 0 (fun _ => true) true n e cs = some x → (∀ y ∈ x.1.weights P e, y ≤ reachBytes) → ∃ a : α, cs = encα a ∧ good a) {r : Reach} {b0 : Nat} {v : Value} {d : DataW H} {ps : List MemPlace}
    (hv : Value.okWide P W r b0 t v) (h : DataW.Trod enc P W 0 (fun _ => true) true t v d ps) (hsz : ∀ y ∈ d.weights P t, y ≤ reachBytes) :
    ∃ (a : Option Addr) (n c : Nat) (l : List α), v = .slice a n c ∧ l.length = n ∧ n ≤ 9223372036854775807 ∧ (n ≤ c ∧ c ≤ 9223372036854775807) ∧ n * P.bytesOf e ≤ reachBytes ∧ (a = none → n = 0 ∧ c = 0) ∧ Rd W a (fl encα l) ∧ ∀ i (hi : i < l.length), good l[i] := by
  obtain ⟨a, len, cap, rfl⟩ := okWide_slice ht hv
  obtain ⟨fuel, hf⟩ := h
  obtain ⟨a', n, c, l, hcs, h1⟩ := rd_cellsS hk hk0 ht hC hel hf hsz
  have e2 : (Value.slice a len cap) = .slice a' n c := by simpa [Value.cells] using hcs
  exact ⟨a', n, c, l, e2, h1⟩
end
theorem cellsInt : Tryz.prog.cellsOf 3 = 1 := by kernel_rfl
theorem cellsStr : Tryz.prog.cellsOf 9 = 1 := by kernel_rfl
theorem cellsU64 : Tryz.prog.cellsOf 41 = 1 := by kernel_rfl
theorem cellsNd : Tryz.prog.cellsOf 56 = 2 := by kernel_rfl
theorem cellsVs : Tryz.prog.cellsOf 37 = 1 := by kernel_rfl
theorem bytesU64 : Tryz.prog.bytesOf 41 = 8 := by kernel_rfl
theorem bytesNd : Tryz.prog.bytesOf 56 = 24 := by kernel_rfl
def VOk (x : Nat) : Prop := x < 18446744073709551616
def NdOk (x : Nd) : Prop := IntOk x.1 ∧ x.2.size ≤ 140737488355328
theorem rd_u64s {H : Type} {enc : TypeId × Value → H} {W : World} (n : Nat) (cs : List Value) (x : DataW H × List MemPlace) (h : DataW.trod enc Tryz.prog W 0 (fun _ => true) true n 41 cs = some x) (_ : ∀ y ∈ x.1.weights Tryz.prog 41, y ≤ reachBytes) : ∃ a : Nat, cs = encV a ∧ VOk a := by
  obtain ⟨z, rfl, _, hw⟩ := DataW.trod_int Tryz.underlying41 h
  have hb := bounds_u64 hw
  refine ⟨z.toNat, ?_, by unfold VOk; omega⟩
  show _ = [Value.int .u64 ((z.toNat : Nat) : Int)]
  rw [Int.toNat_of_nonneg hb.1]
theorem rd_nds {H : Type} {enc : TypeId × Value → H} {W : World} (n : Nat) (cs : List Value) (x : DataW H × List MemPlace) (h : DataW.trod enc Tryz.prog W 0 (fun _ => true) true n 56 cs = some x) (hsz : ∀ y ∈ x.1.weights Tryz.prog 56, y ≤ reachBytes) : ∃ a : Nd, cs = encNd a ∧ NdOk a := by
  obtain ⟨y0, y1, m, rfl, hlen, h0, h1⟩ := trod_struct2 Tryz.underlying56 h
  rw [cellsNd] at hlen
  obtain ⟨c0, c1, rfl⟩ := list_two hlen
  simp only [cellsInt, cellsStr] at h0 h1
  obtain ⟨z0, e0, e00, w0⟩ := DataW.trod_int Tryz.underlying3 h0
  obtain ⟨z1, e1, e11, w1⟩ := DataW.trod_string Tryz.underlying9 h1
  refine ⟨(z0, z1), ?_, bounds_i64 w0, ?_⟩
  · simp at e0 e1
    rw [e0, e1]
    rfl
  · have h2 : z1.data.toList.length ≤ reachBytes := hsz z1.data.toList.length (by
      rw [e00, e11]
      simp only [DataW.weights, Tryz.underlying56]
      show _ ∈ DataW.weightsEach Tryz.prog [_, _] [_, _]
      simp only [DataW.weightsEach, DataW.weights]
      simp)
    have h3 : z1.data.toList.length = z1.size := Array.length_toList
    rw [h3] at h2
    unfold reachBytes at h2
    have h4 : z1.size ≤ 140737488351232 := h2
    show z1.size ≤ _
    omega
set_option maxRecDepth 100000 in
/-- A tree that came in. -/
theorem open_nds {H : Type} {enc : TypeId × Value → H} {W : World} {r : Reach} {b0 : Nat} {v : Value} {d : DataW H} {ps : List MemPlace} (hv : Value.okWide Tryz.prog W r b0 22 v) (h : DataW.Trod enc Tryz.prog W 0 (fun _ => true) true 22 v d ps) (hsz : ∀ y ∈ d.weights Tryz.prog 22, y ≤ reachBytes) :
    ∃ (a : Option Addr) (n c : Nat) (l : List Nd), v = .slice a n c ∧ l.length = n ∧ n ≤ 1152921504606846976 ∧ n ≤ c ∧ c ≤ 9223372036854775807 ∧ Rd W a (fl encNd l) ∧ (∀ i, i < n → (nS l i).size ≤ 9223372036854775807) ∧ ∀ i, i < n → IntOk (nP l i) := by
  obtain ⟨a, n, c, l, h1, h2, h3, ⟨h4a, h4b⟩, h4, h5, h6, h7⟩ := rd_openS encNd_len (by omega) (good := NdOk) Tryz.underlying22 cellsNd rd_nds hv h hsz
  rw [bytesNd] at h4
  have hg : ∀ i, i < n → NdOk (nP l i, nS l i) := fun i hi => by
    have h8 := h7 i (by omega)
    have e : (nP l i, nS l i) = l[i]'(by omega) := by simp [nP, nS, h2 ▸ hi]
    rw [e]; exact h8
  refine ⟨a, n, c, l, h1, h2, by unfold reachBytes at h4; omega, h4a, h4b, h6, fun i hi => ?_, fun i hi => (hg i hi).1⟩
  have h9 : (nS l i).size ≤ 140737488355328 := (hg i hi).2
  omega
end Go.Proofs.YtfgkjofdgohacaaGreatDoor
namespace Go.Proofs.YtfgkjofdgohacaaGreatDoor
open Go.ChangeShapes Go.WideShapes Go.RowKit Go.Deep
set_option maxRecDepth 100000 in
theorem tzG_laid {W : World} (hL : laidMet Tryz.prog Rows.treecmpTriplesRow.laid W) : TzG W := by
  obtain ⟨ps, ⟨_, _, _, _, _, q1, _, _, _, _, ⟨g', t', cs, fuel, p, q, hg', ht', hvar, hd, _, _⟩, _⟩, _, _⟩ := hL
  obtain rfl := Option.some.inj ((show Tryz.prog.globalNamed "math/bits.deBruijn64tab" = some 0 by kernel_rfl).symm.trans hg')
  obtain rfl := Option.some.inj ((show (Tryz.prog.globals[0]?).map (·.type) = some 157 by kernel_rfl).symm.trans ht')
  have e := Lib.cells_of_tab (zs := Lib.deBruijn64tab.map Int.ofNat) Tryz.underlying157 Tryz.underlying5 (by kernel_rfl) (by kernel_rfl) (show DataW.trod _ Tryz.prog W 0 _ false fuel 157 cs.toList = some (Lib.tabData .u8 (Lib.deBruijn64tab.map Int.ofNat), p) from hd)
  intro j hj
  rw [World.var?_cell (show Tryz.prog.globalNamed "math/bits.deBruijn64tab" = some 0 by kernel_rfl) hvar j, ← Array.getElem?_toList, e]
  rw [List.getElem?_map, List.getElem?_map, List.getElem?_eq_getElem hj, List.getD_eq_getElem?_getD, List.getElem?_eq_getElem hj]
  rfl
theorem cellsTr : Tryz.prog.cellsOf 22 = 1 := by kernel_rfl
theorem bytesTr : Tryz.prog.bytesOf 22 = 24 := by kernel_rfl
/-- A row's tree. -/
def TrOk (W : World) (r : Rw) : Prop := ∃ l : List Nd, r.2.1 = l.length ∧ l.length ≤ 1152921504606846976 ∧ Rd W r.1 (fl encNd l) ∧ ∀ v, v < l.length → (nS l v).size ≤ 9223372036854775807
theorem rd_trs {H : Type} {enc : TypeId × Value → H} {W : World} (n : Nat) (cs : List Value) (x : DataW H × List MemPlace) (h : DataW.trod enc Tryz.prog W 0 (fun _ => true) true n 22 cs = some x) (hsz : ∀ y ∈ x.1.weights Tryz.prog 22, y ≤ reachBytes) : ∃ a : Rw, cs = encR a ∧ TrOk W a := by
  obtain ⟨a, n', c, l, rfl, h2, h3, h4, h5, h6, h7, h8⟩ := rd_cellsS encNd_len (by omega) (good := NdOk) Tryz.underlying22 cellsNd rd_nds h hsz
  rw [bytesNd] at h5
  refine ⟨(a, n', c), rfl, l, h2.symm, by unfold reachBytes at h5; omega, h7, fun v hv => ?_⟩
  have h9 : NdOk (l[v]'hv) := h8 v hv
  have e : nS l v = (l[v]'hv).2 := by simp [nS, hv]
  rw [e]
  have := h9.2
  omega
set_option maxRecDepth 100000 in
/-- A list of trees that came in. -/
theorem open_trs {H : Type} {enc : TypeId × Value → H} {W : World} {r : Reach} {b0 : Nat} {v : Value} {d : DataW H} {ps : List MemPlace} (hv : Value.okWide Tryz.prog W r b0 28 v) (h : DataW.Trod enc Tryz.prog W 0 (fun _ => true) true 28 v d ps) (hsz : ∀ y ∈ d.weights Tryz.prog 28, y ≤ reachBytes) :
    ∃ (a : Option Addr) (n c : Nat) (T : Nat → List Nd) (rs : List Rw), v = .slice a n c ∧ n ≤ 1152921504606846976 ∧ (a = none → n = 0) ∧ TrsIn W a n T rs := by
  obtain ⟨a, n, c, rs, h1, h2, h3, h4, h5, h6, h7, h8⟩ := rd_openS encR_len (by omega) (good := TrOk W) Tryz.underlying28 cellsTr rd_trs hv h hsz
  rw [bytesTr] at h5
  have hex : ∀ i, ∃ l : List Nd, i < n → (rN rs i = l.length ∧ l.length ≤ 1152921504606846976) ∧ Rd W (rA rs i) (fl encNd l) ∧ ∀ v, v < l.length → (nS l v).size ≤ 9223372036854775807 := fun i => by
    by_cases hi : i < n
    · obtain ⟨l, g1, g2, g3, g4⟩ := h8 i (by omega)
      have e : rs.getD i (none, 0, 0) = rs[i]'(by omega) := by simp [h2 ▸ hi]
      refine ⟨l, fun _ => ⟨⟨?_, g2⟩, ?_, g4⟩⟩
      · unfold rN; rw [e]; exact g1
      · unfold rA; rw [e]; exact g3
    · exact ⟨[], fun h => absurd h hi⟩
  refine ⟨a, n, c, fun i => Classical.choose (hex i), rs, h1, by unfold reachBytes at h5; omega, fun e => (h6 e).1, h2, h7, fun i hi => (Classical.choose_spec (hex i) hi).1, fun i hi => (Classical.choose_spec (hex i) hi).2.1, fun i hi => (Classical.choose_spec (hex i) hi).2.2⟩
end Go.Proofs.YtfgkjofdgohacaaGreatDoor
