/- TopPerfect: the example, and the walk of the statement. From a walk to a row: a statement's post; arguments that came in read as tables and trees. -/
import Derived.Test.YtkdehkkkbfackaaGreatDoorZC
import Derived.Test.YtkdehkkkbfackaaGreatDoorZG
import Derived.Test.YtkdehkkkbfackaaGreatDoorZF
import Derived.Test.YtkdehkkkbfackaaGreatDoorZA
import Derived.ChangeSame
import Derived.OpenShut
import Derived.ProofKit
import Derived.Deep.Slices
import Derived.Test.YtkdehkkkbfackaaGreatDoorCards
import Derived.Test.YtkdehkkkbfackaaGreatDoorTie
import Derived.Deep.DeepHandedRow
import Derived.Lib.LaidTab
import Derived.Lib.SmallJoins
namespace Go.Proofs.YtkdehkkkbfackaaGreatDoor
open Go Go.RowKit Go.Shelf Go.Maps
def ex34a : List Nd := [(-1, ⟨#[114]⟩), (0, ⟨#[120]⟩), (0, ⟨#[121]⟩)]
def ex34b : List Nd := [(-1, ⟨#[113]⟩), (0, ⟨#[121]⟩), (0, ⟨#[120]⟩)]
theorem ex34a_nms : nmsL ex34a = [⟨#[120]⟩, ⟨#[121]⟩] := by
  have h : (lvT ex34a).map (nS ex34a) = [⟨#[120]⟩, ⟨#[121]⟩] := by decide +kernel
  unfold nmsL
  rw [h]
  exact srtB_ext (srtB_pw (by decide)) (by rw [List.pairwise_cons]; exact ⟨fun y hy => by rw [List.mem_singleton.1 hy]; show _ < _; decide, List.pairwise_singleton _ _⟩) fun x => srtB_mem x _
theorem ex34b_nms : nmsL ex34b = [⟨#[120]⟩, ⟨#[121]⟩] := by
  have h : (lvT ex34b).map (nS ex34b) = [⟨#[121]⟩, ⟨#[120]⟩] := by decide +kernel
  unfold nmsL
  rw [h]
  exact srtB_ext (srtB_pw (by decide)) (by rw [List.pairwise_cons]; exact ⟨fun y hy => by rw [List.mem_singleton.1 hy]; show _ < _; decide, List.pairwise_singleton _ _⟩) fun x => by rw [srtB_mem]; simp; exact Or.comm
def botC (nm : List ByteArray) (t : List Nd) (v : Nat) : Nat := if leafB t v then 2 ^ plN nm (nS t v) else 0
def clsC (nm : List ByteArray) (t : List Nd) : List Nat := sdU ((List.range t.length).map fun v => upX t (botC nm t) (t.length - 1) v)
theorem clsC_eq {nm : List ByteArray} {t : List Nd} (h : nmsL t = nm) : clsL t = clsC nm t := by
  subst h; rfl
theorem ex34_cls : clsL ex34a = [1, 2, 3] ∧ clsL ex34b = [1, 2, 3] := by
  rw [clsC_eq ex34a_nms, clsC_eq ex34b_nms]
  decide +kernel
theorem ex34_ok : TreeOk ex34a ∧ TreeOk ex34b := by decide +kernel
theorem ex34_two : twoE ex34a ex34b = 0 := by
  unfold twoE
  rw [if_pos ex34_ok, ex34a_nms, ex34b_nms, if_pos rfl]
theorem ex34_sm : smV ex34a ex34b = true := by
  unfold smV dstV
  rw [ex34_two, ex34_cls.1, ex34_cls.2]
  decide +kernel
theorem ex34_size : (∀ v, v < 3 → (nS ex34a v).size ≤ 9223372036854775807) ∧ ∀ v, v < 3 → (nS ex34b v).size ≤ 9223372036854775807 := by
  constructor <;> · intro v hv
                    have : v = 0 ∨ v = 1 ∨ v = 2 := by omega
                    rcases this with rfl | rfl | rfl <;> decide
set_option maxRecDepth 100000 in
set_option maxHeartbeats 2000000 in
theorem works34_any (w : World) : Calls Tryz.prog 5 #[] w fun e w' => e = .returned (.bool true) ∧ Below w.heap.size w w' := by
  go_enter Tryz.func5, Tryz.ntmps5
  go_wp2_with fail
  have HA : Rd ((w.alloc (.cells (fl encNd ex34a).toArray 40)).alloc (.cells (fl encNd ex34b).toArray 40)) (some ⟨w.heap.size, 0, none⟩) (fl encNd ex34a) := Rd.of_blk ((Blk.new w (fl encNd ex34a).toArray 40).alloc _)
  have HB : Rd ((w.alloc (.cells (fl encNd ex34a).toArray 40)).alloc (.cells (fl encNd ex34b).toArray 40)) (some ⟨w.heap.size + 1, 0, none⟩) (fl encNd ex34b) := Rd.of_blk (Blk.new2 w _ _ _)
  refine (same_any _ _ 3 3 3 3 ex34a ex34b _ rfl rfl (by omega) (by omega) HA HB ex34_size.1 ex34_size.2).mono ?_
  rintro e w2 ⟨rfl, hb⟩
  rw [ex34_two, ex34_sm]
  clear HA HB
  go_wp2_with fail
  go_ret
  exact ⟨rfl, bl_trans (bl_alloc (bl_alloc (Below.refl _ _) _) _) hb⟩
set_option maxRecDepth 100000 in
set_option maxHeartbeats 4000000 in
theorem tplaw34_any (L : Int) (a : Option Addr) (N c : Nat) (l : List Nat) (b : Option Addr) (n d : Nat) (t : List Nd) (w : World) (hl : l.length = N) (hN : N ≤ 1152921504606846976) (hNc : N ≤ c) (hc : c ≤ 9223372036854775807) (hA : Rd w a (fl encV l)) (hF : FitV l)
    (ht : t.length = n) (hn : n ≤ 1152921504606846976) (hB : Rd w b (fl encNd t)) (hS : ∀ v, v < n → (nS t v).size ≤ 9223372036854775807) :
    Calls Tryz.prog 3 #[.agg #[.int .i64 L, .slice a N c], .slice b n d] w fun e w' => e = .returned (.bool true) ∧ Below w.heap.size w w' := by
  have hb0 := bl_alloc (Below.refl _ w) (.cells #[.int .i64 L, .slice a N c] 24)
  have hX := Blk.new w #[.int .i64 L, .slice a N c] 24
  have HL := Lib.hid hl
  have HF := Lib.hid hF
  have HA := Lib.hid (hA.bl hb0)
  have HBT := Lib.hid (hB.bl hb0)
  have HS := Lib.hid hS
  have HTN := Lib.hid ht
  have HB0 := Lib.hid hb0
  have HBX := Lib.hid hX
  have HW := Lib.hid works34_any
  have HNC := Lib.hid hNc
  have HCC := Lib.hid hc
  clear hl hA hF hb0 hX hNc hc hB hS ht
  obtain ⟨X, hX⟩ : ∃ x, x = w.heap.size := ⟨_, rfl⟩
  rw [← hX] at HBX
  go_enter Tryz.func3, Tryz.ntmps3
  go_wp2_with fail
  refine (build_any L a N c l _ HL.out hN HNC.out HCC.out HA.out HF.out).mono ?_
  rintro e w1 ⟨x1, rfl, ho1, hb1⟩
  have HB1 := Lib.hid (bl_trans HB0.out hb1)
  have HA1 := Lib.hid (HA.out.bl hb1)
  have HT1 := Lib.hid (HBT.out.bl hb1)
  have HBX1 := Lib.hid (HBX.out.below hb1)
  obtain ⟨A1, c1, rfl, _⟩ := owns_slice ho1
  have HO1 := Lib.hid ho1
  rw [← hX]
  have HX := Lib.hid hX
  clear hb1 hX HB0 HA HBX ho1 HBT
  have e0 : w1.cell? ⟨X, 0, none⟩ = some (.int .i64 L) := HBX1.out.cell 0
  have e1 : w1.cell? ⟨X, 1, none⟩ = some (.slice a N c) := HBX1.out.cell 1
  obtain ⟨T, hT⟩ : ∃ T, bdT L l = T := ⟨_, rfl⟩
  have HTT := Lib.hid hT
  rw [hT] at HO1 ⊢
  obtain ⟨m, hm⟩ : ∃ m, T.length = m := ⟨_, rfl⟩
  have HNN := Lib.hid hm
  rw [hm] at HO1 ⊢
  clear hT hm
  have ENDW : Hid (∀ W, Below w.heap.size w W → Calls Tryz.prog 5 #[] W fun e w' => e = .returned (.bool true) ∧ Below w.heap.size w w') := fun W hb => (HW.out W).mono fun e w' h => ⟨h.1, bl_trans hb h.2⟩
  clear HW
  by_cases q1 : 12 < L
  · have d1 : decide (12 < L) = true := decide_eq_true q1
    clear q1
    go_wp2_with fail
    refine (ENDW.out _ HB1.out).mono ?_
    rintro e w3 ⟨rfl, hb3⟩
    go_wp2_with fail
    go_ret
    exact ⟨rfl, hb3⟩
  · have d1 : decide (12 < L) = false := decide_eq_false q1
    by_cases q2 : 12 < N
    · have d2 : decide (12 < (N : Int)) = true := decide_eq_true (by omega)
      have d2n : decide (12 < N) = true := decide_eq_true q2
      clear q1 q2
      go_wp2_with fail
      refine (ENDW.out _ HB1.out).mono ?_
      rintro e w3 ⟨rfl, hb3⟩
      go_wp2_with fail
      go_ret
      exact ⟨rfl, hb3⟩
    · have d2 : decide (12 < (N : Int)) = false := decide_eq_false (by omega)
      have d2n : decide (12 < N) = false := decide_eq_false q2
      by_cases q3 : 63 < n
      · have d3 : decide (63 < (n : Int)) = true := decide_eq_true (by omega)
        have d3n : decide (63 < n) = true := decide_eq_true q3
        clear q1 q2 q3
        go_wp2_with fail
        refine (ENDW.out _ HB1.out).mono ?_
        rintro e w3 ⟨rfl, hb3⟩
        go_wp2_with fail
        go_ret
        exact ⟨rfl, hb3⟩
      · have d3 : decide (63 < (n : Int)) = false := decide_eq_false (by omega)
        have d3n : decide (63 < n) = false := decide_eq_false q3
        by_cases h0 : bdE L l = 0
        · obtain ⟨k1, k2⟩ := bdE_zero h0
          have hbb := bdB_of h0
          rw [h0, hbb]
          obtain ⟨M, rfl⟩ : ∃ M : Nat, L = M := by
            refine ⟨L.toNat, ?_⟩
            unfold chkT at k1
            by_cases q : L < 0 ∨ 32 < L
            · rw [if_pos q] at k1; omega
            · omega
          have hM1 : 1 ≤ M := by omega
          have hM12 : M ≤ 12 := by omega
          cases hce : confE l with
          | some p =>
            simp only [Option.isNone_some]
            clear h0 k1 k2 hbb hce q1 q2 q3
            go_wp2_with fail
            refine (ENDW.out _ HB1.out).mono ?_
            rintro e w3 ⟨rfl, hb3⟩
            go_wp2_with fail
            go_ret
            exact ⟨rfl, hb3⟩
          | none =>
            have hbt : bdB (M : Int) l = true := by rw [hbb, hce]; rfl
            have ht0 : T = bdN M l := by rw [← HTT.out]; unfold bdT; rw [hbt]; rfl
            simp only [Option.isNone_none]
            obtain ⟨t1, t2, t3⟩ := bd_lenL HF.out k1 hM1 hce
            obtain ⟨t4, _, _⟩ := bd_tree HF.out k1 hM1
            rw [← ht0] at t1 t2 t3 t4
            have t6 := tok_size HNN.out t4
            have hlt := (chk_lt k1).2.2
            have HT2 := Lib.hid t2
            have HT1c := Lib.hid t1
            have HT3 := Lib.hid t3
            have HT6 := Lib.hid t6
            have t7 : m ≤ 63 := by have := t4.2.1; have := HNN.out; omega
            have HR1 := Lib.hid (rd_of_owns HO1.out)
            have HLT := Lib.hid hlt
            have HLEN : Hid ((lenL (M : Int) l T).length = N) := by show _ = _; rw [t2, List.length_map, HL.out]
            clear h0 k1 k2 hbb hce q1 q3 t1 t2 t3 t4 t6 hbt ht0 hlt HTT HO1
            go_wp2_with fail
            refine (lengths_any M a N c l A1 m c1 T w1 HL.out hN HA1.out HF.out HNN.out (by omega) HR1.out HT6.out).mono ?_
            rintro e w2 ⟨x2, rfl, ho2, hb2⟩
            rw [HLEN.out] at ho2
            obtain ⟨A2, c2, rfl, _⟩ := owns_slice ho2
            rw [HT1c.out]
            have HR2 := Lib.hid (rd_of_owns ho2)
            have HB2 := Lib.hid (bl_trans HB1.out hb2)
            have HA2 := Lib.hid (HA1.out.bl hb2)
            have HT2r := Lib.hid (HT1.out.bl hb2)
            have HRT := Lib.hid (HR1.out.bl hb2)
            have HBX2 := Lib.hid (HBX1.out.below hb2)
            clear e0 e1 ho2 hb2 HB1 HA1 HT1 HR1 HBX1
            have e0 : w2.cell? ⟨X, 0, none⟩ = some (.int .i64 M) := HBX2.out.cell 0
            have e1 : w2.cell? ⟨X, 1, none⟩ = some (.slice a N c) := HBX2.out.cell 1
            go_wp2_with fail
            refine (length_any M a N c l A1 m c1 T w2 HL.out hN HA2.out HF.out HNN.out (by omega) HRT.out HT6.out).mono ?_
            rintro e w3 ⟨rfl, hb3⟩
            rw [HT1c.out, HT3.out]
            have HR3 := Lib.hid (HR2.out.bl hb3)
            have HB3 := Lib.hid (bl_trans HB2.out hb3)
            have HA3 := Lib.hid (HA2.out.bl hb3)
            have HT3r := Lib.hid (HT2r.out.bl hb3)
            have HBX3 := Lib.hid (HBX2.out.below hb3)
            clear e0 e1 hb3 HB2 HA2 HT2r HRT HBX2 HR2
            have e0 : w3.cell? ⟨X, 0, none⟩ = some (.int .i64 M) := HBX3.out.cell 0
            have e1 : w3.cell? ⟨X, 1, none⟩ = some (.slice a N c) := HBX3.out.cell 1
            have HWR := wrap_all (show M ≤ 32 by omega)
            obtain ⟨A, hA⟩ : ∃ A, 2 ^ M - 1 = A := ⟨_, rfl⟩
            rw [hA] at HWR
            have HAE := Lib.hid hA
            have HR3 : Hid (Rd w3 A2 (fl encI (iN (l.map (wnt M))))) := by
              show Rd _ _ _
              rw [← HT2.out]; exact HR3.out
            have HLL : Hid ((iN (l.map (wnt M))).length = N) := by show _ = _; simp [iN, HL.out]
            have HZS : Hid (wntK M l 0 = 0) := rfl
            have HSN : Hid (wntK M l N = wntS M l) := by show _ = _; rw [← HL.out]; exact wntK_all M l
            have HSL : Hid (∀ k, k ≤ N → wntK M l k ≤ N) := fun k hk => Nat.le_trans (wntK_le M l k (by rw [HL.out]; exact hk)) hk
            obtain ⟨Z, hZ⟩ : ∃ Z, wntS M l = Z := ⟨_, rfl⟩
            rw [hZ] at HSN ⊢
            have HZ := Lib.hid hZ
            clear hA hZ HT2
            go_wp2_with fail
            clear e0 e1
            go_loopw [12, 13] (fun y x wr => ∃ k : Nat, k ≤ N ∧ x = .int .i64 k ∧ y = .int .i64 (wntK M l k : Nat) ∧ ∃ q, wr = w3.drewN q) (fun _ x _ => N - (intOf x).toNat)
            case atStart => exact ⟨0, by omega, rfl, by rw [HZS.out]; rfl, 0, rfl⟩
            case round =>
              obtain ⟨k, hk, rfl, rfl, q, rfl⟩ := hrel
              have e1 : w3.cell? ⟨X, 1, none⟩ = some (.slice a N c) := HBX3.out.cell 1
              have e0 : w3.cell? ⟨X, 0, none⟩ = some (.int .i64 M) := HBX3.out.cell 0
              by_cases hkN : k < N
              · obtain ⟨b1, o1, rfl, _, hc1⟩ := rdI HR3.out (by rw [HLL.out]; omega)
                obtain ⟨ba, oa, rfl, _, hca⟩ := rdV HA3.out (by rw [HL.out]; omega)
                have G1 := hc1 k (by rw [HLL.out]; exact hkN)
                have G3 := hca k (by rw [HL.out]; exact hkN)
                have hkl : k < l.length := by rw [HL.out]; exact hkN
                have g1 : iA (iN (l.map (wnt M))) k = (wnt M (vA l k) : Nat) := by
                  simp [iA, iN, List.getD_eq_getElem?_getD, hkl, vA]
                rw [g1] at G1
                have HNX := Lib.hid (wntK_succ M l hkl)
                have HSB := HSL.out k hk
                clear hc1 hca g1 hkl
                obtain ⟨x, hx⟩ : ∃ x, x = vA l k := ⟨_, rfl⟩
                rw [← hx] at G1 G3 HNX
                obtain ⟨S, hS⟩ : ∃ S, S = wntK M l k := ⟨_, rfl⟩
                rw [← hS] at HNX HSB ⊢
                clear hx hS
                by_cases hx0 : x = 0
                · have s1 : ((x : Int) == 0) = true := by simp [hx0]
                  have hw := wnt_zero (L := M) (Or.inl hx0)
                  rw [hw] at G1 HNX
                  have G2 : w3.cell? ⟨b1, o1 + k, none⟩ = some (.int .i64 0) := G1
                  clear hx0 hw G1
                  go_wp2_with fail
                  go_quiet (fail)
                  go_wp2_with fail
                  go_roundw
                  case rel => exact ⟨k + 1, by omega, by go_num, by rw [HNX.out, Nat.add_zero], q + nq, by simp⟩
                  case measure => simp [intOf]; omega
                · have s1 : ((x : Int) == 0) = false := by simp [hx0]
                  by_cases hxA : x = A
                  · have s2 : ((x : Int) == (A : Int)) = true := by simp [hxA]
                    have hw := wnt_zero (L := M) (x := x) (Or.inr (hxA.trans HAE.out.symm))
                    rw [hw] at G1 HNX
                    have G2 : w3.cell? ⟨b1, o1 + k, none⟩ = some (.int .i64 0) := G1
                    clear hx0 hxA hw G1
                    go_wp2_with fail
                    go_quiet (fail)
                    go_wp2_with fail
                    go_roundw
                    case rel => exact ⟨k + 1, by omega, by go_num, by rw [HNX.out, Nat.add_zero], q + nq, by simp⟩
                    case measure => simp [intOf]; omega
                  · have s2 : ((x : Int) == (A : Int)) = false := beq_eq_false_iff_ne.2 fun e => hxA (by omega)
                    have hw := wnt_one (L := M) hx0 (by rw [HAE.out]; exact hxA)
                    rw [hw] at G1 HNX
                    have G2 : w3.cell? ⟨b1, o1 + k, none⟩ = some (.int .i64 1) := G1
                    clear hx0 hxA hw G1
                    go_wp2_with fail
                    go_quiet (fail)
                    go_wp2_with fail
                    go_roundw
                    case rel => exact ⟨k + 1, by omega, by go_num, by rw [HNX.out]; go_num, q + nq, by simp⟩
                    case measure => simp [intOf]; omega
              · obtain rfl : k = N := by omega
                rw [HSN.out]
                have HE : Hid (chkP (M : Int) l t = 0 → Z ≤ lenS (M : Int) l t) := fun h => by rw [← HZ.out]; exact oth_len h
                go_wp2_with fail
                refine (length_any M a k c l b n d t _ HL.out hN (HA3.out.bl (bl_drewN (Below.refl _ _) q)) HF.out HTN.out hn (HT3r.out.bl (bl_drewN (Below.refl _ _) q)) HS.out).mono ?_
                rintro e w5 ⟨rfl, hb5⟩
                have HB5 := Lib.hid (bl_trans (bl_drewN HB3.out q) hb5)
                clear e0 e1 hb5
                obtain ⟨E, hE⟩ : ∃ E, chkP (M : Int) l t = E := ⟨_, rfl⟩
                obtain ⟨Y, hY⟩ : ∃ Y, lenS (M : Int) l t = Y := ⟨_, rfl⟩
                rw [hE, hY] at HE ⊢
                have z1 : ((Z : Int) == (Z : Int)) = true := by simp
                clear hE hY
                by_cases hE0 : E = 0
                · subst hE0
                  have z2 : decide ((Z : Int) ≤ (Y : Int)) = true := decide_eq_true (by have := HE.out rfl; omega)
                  have z2n : decide (Z ≤ Y) = true := decide_eq_true (HE.out rfl)
                  go_wp2_with fail
                  refine (ENDW.out _ HB5.out).mono ?_
                  rintro e w6 ⟨rfl, hb6⟩
                  go_wp2_with fail
                  go_ret
                  exact ⟨rfl, hb6⟩
                · have z2 : (E != 0) = true := by simp [hE0]
                  have z3 : (E == 0) = false := by simp [hE0]
                  clear hE0
                  go_wp2_with fail
                  refine (ENDW.out _ HB5.out).mono ?_
                  rintro e w6 ⟨rfl, hb6⟩
                  go_wp2_with fail
                  go_ret
                  exact ⟨rfl, hb6⟩
        · have hbf := bdB_bad h0
          rw [hbf]
          obtain ⟨E, hE⟩ : ∃ E, bdE L l = E := ⟨_, rfl⟩
          rw [hE] at h0 ⊢
          have r1 : (E == 0) = false := by simp [h0]
          have r2 : (E != 0) = true := by simp [h0]
          clear h0 hE hbf q1 q2 q3
          go_wp2_with fail
          refine (ENDW.out _ HB1.out).mono ?_
          rintro e w3 ⟨rfl, hb3⟩
          go_wp2_with fail
          go_ret
          exact ⟨rfl, hb3⟩
end Go.Proofs.YtkdehkkkbfackaaGreatDoor
namespace Go.Proofs.YtkdehkkkbfackaaGreatDoor
open Go.ChangeShapes Go.WideShapes Go.RowKit Go.Deep
section
variable {H : Type} {enc : TypeId × Value → H} {P : Program}
/-- Arguments read as they did, in a world that keeps all that lay there. -/
theorem trodAll_stays (hl : laidOutB P = true) {W W' : World} {sp : Nat → Bool} (hb : Below W.heap.size W W') : ∀ {ts : List TypeId} {vs : List Value} {ds : List (DataW H)} {ps : List MemPlace}, (∀ t ∈ ts, P.readableRec t = true ∧ t < P.types.size) →
    DataW.TrodAll enc P W 0 (fun _ => true) true ts vs ds ps → (∀ p ∈ ps, p.block < W.heap.size) → (∀ p ∈ ps, sp p.block = true) → DataW.TrodAll enc P W' 0 sp true ts vs ds ps
  | [], vs, ds, ps, _, h, _, _ => by
    obtain ⟨rfl, rfl, rfl⟩ := trodAll_nil h
    exact trodAll_mk0
  | t :: ts, vs, ds, ps, ht, h, hlt, hsp => by
    obtain ⟨v, vs', d, ds', p, q, rfl, rfl, rfl, h1, h2⟩ := trodAll_cons h
    obtain ⟨hr, hrow⟩ := ht t (by simp)
    exact trodAll_cons_mk (WideElems.Trod_stays hl hr hrow h1 (fun x hx => hb.same (hlt x (List.mem_append_left _ hx))) (fun x hx => hsp x (List.mem_append_left _ hx)))
      (trodAll_stays hl hb (fun t' ht' => ht t' (by simp [ht'])) h2 (fun x hx => hlt x (List.mem_append_right _ hx)) (fun x hx => hsp x (List.mem_append_right _ hx)))
/-- What a statement's row asks of a call that returns true and keeps all that lay there. -/
theorem post_law {f : Func} {s : ChangeSpec} {W W' : World} {args : Array Value} {ds : List (DataW H)} {before : List MemPlace} {tb : TypeId} (hsv : s.vars = []) (hfn : s.fn H (ds ++ []) = { results := [.lit (.bool true)], args := ds })
    (hl : laidOutB P = true) (hpt : ∀ t ∈ f.params.toList, P.readableRec t = true ∧ t < P.types.size) (hrt : f.resultTypes = #[tb]) (htb : P.underlying tb = some .bool)
    (hW : DataW.Whole enc P f.params.toList s.vars false W args.toList ds [] before) (hb : Below W.heap.size W W') : s.post enc P f false true false false W args (.bool true) W' := by
  have hlt : ∀ p ∈ before, p.block < W.heap.size := fun p hp => hW.lt p hp
  have hW2 := hW
  obtain ⟨p, q, hA, hV, rfl, _, _⟩ := hW
  rw [hsv] at hV
  obtain ⟨_, rfl⟩ := trodVars_none hV
  rw [List.append_nil] at hlt
  refine ⟨ds, [], _, [], p, [], hW2, ?_, ?_, ?_, ?_, fun h => by cases h⟩
  · rw [hfn, hrt]
    exact trodAll_cons_mk (p := []) (p' := []) (shut_bool htb _) trodAll_mk0
  · rw [hfn]
    exact trodAll_stays hl hb hpt hA hlt (fun x hx => by simpa using hlt x hx)
  · rw [hsv, hfn]
    rfl
  · exact World.keptBut_mono (fun x hx => ⟨by simpa using hx, .inr (.inl (by simpa using hx))⟩) (hb.frame (· ∈ p))
end
end Go.Proofs.YtkdehkkkbfackaaGreatDoor
namespace Go.Proofs.YtkdehkkkbfackaaGreatDoor
open Go.ChangeShapes Go.WideShapes Go.ChangeAt Go.RowKit Go.Deep
theorem own : ownKnob Tryz.prog.godebug = none := by kernel_rfl
theorem laidOut : laidOutB Tryz.prog = true := by kernel_rfl
/-- The cells of a table. -/
def tabCells (d : DataW Unit) : Array Value :=
  match d with
  | .agg ps => (ps.map fun x => match x with
    | .lit (.int k n) => Value.int k n
    | _ => undef).toArray
  | _ => #[]
def laidOn (P : Program) : List (String × DataW Unit) → World → World
  | [], w => w
  | (n, d) :: r, w => laidOn P r { w with heap := w.heap.modify ((P.globalNamed n).getD 0) fun
      | .cells _ t frozen => .cells (tabCells d) t frozen
      | o => o }
/-- A world that holds the tables. -/
noncomputable def laidWorld (os : Os) : World := laidOn Tryz.prog Rows.topPerfectRow.laid (World.holding Tryz.prog os ⟨#[], #[], []⟩)
theorem list_two {α : Type} : ∀ {l : List α}, l.length = 2 → ∃ a b, l = [a, b]
  | [a, b], _ => ⟨a, b, rfl⟩
def IntOk (x : Int) : Prop := -9223372036854775808 ≤ x ∧ x ≤ 9223372036854775807
end Go.Proofs.YtkdehkkkbfackaaGreatDoor
namespace Go.Proofs.YtkdehkkkbfackaaGreatDoor
open Go.ChangeShapes Go.WideShapes Go.RowKit Go.Deep
theorem weightsAll_mem {H : Type} {P : Program} {e : TypeId} {d : DataW H} : ∀ {l : List (DataW H)}, d ∈ l → ∀ n ∈ d.weights P e, n ∈ DataW.weightsAll P e l
  | x :: l, h, n, hn => by
    simp only [DataW.weightsAll, List.mem_append]
    rcases List.mem_cons.1 h with rfl | h
    · exact .inl hn
    · exact .inr (weightsAll_mem h n hn)
/-- Each argument's weights are bounded. -/
theorem sized_arg {H : Type} {P : Program} {ts : List TypeId} {ds : List (DataW H)} (h : (DataW.weightsEach P ts ds).all (· ≤ reachBytes) = true) {j : Nat} {t : TypeId} {d : DataW H} (ht : ts[j]? = some t) (hd : ds[j]? = some d) : ∀ y ∈ d.weights P t, y ≤ reachBytes :=
  fun y hy => of_decide_eq_true (List.all_eq_true.1 h _ (DataW.weights_mem_each ht hd y hy))
section
variable {H : Type} {enc : TypeId × Value → H} {P : Program}
/-- The cells of a slice that came in: read as a list; its elements' sizes bounded. -/
theorem rd_cellsS {α : Type} {encα : α → List Value} {k : Nat} (hk : ∀ x, (encα x).length = k) (hk0 : 0 < k) {good : α → Prop} {W : World} {t e : TypeId} (ht : P.underlying t = some (.slice e)) (hC : P.cellsOf e = k)
    (hel : ∀ (n : Nat) (cs : List Value) (x : DataW H × List MemPlace), DataW.trod enc P W 0 (fun _ => true) true n e cs = some x → (∀ y ∈ x.1.weights P e, y ≤ reachBytes) → ∃ a : α, cs = encα a ∧ good a) {fuel : Nat} {cs : List Value} {x : DataW H × List MemPlace}
    (hf : DataW.trod enc P W 0 (fun _ => true) true fuel t cs = some x) (hsz : ∀ y ∈ x.1.weights P t, y ≤ reachBytes) :
    ∃ (a : Option Addr) (n c : Nat) (l : List α), cs = [.slice a n c] ∧ l.length = n ∧ n ≤ 9223372036854775807 ∧ (n ≤ c ∧ c ≤ 9223372036854775807) ∧ n * P.bytesOf e ≤ reachBytes ∧ (a = none → n = 0 ∧ c = 0) ∧ Rd W a (fl encα l) ∧ ∀ i (hi : i < l.length), good l[i] := by
  rcases open_slice ht hf with ⟨rfl, _⟩ | ⟨a', len, cap, m, n, D, Pl, rfl, hb, hlc, hcm, hm, hx, hi⟩
  · exact ⟨none, 0, 0, [], rfl, rfl, by omega, ⟨by omega, by omega⟩, by simp, fun _ => ⟨rfl, rfl⟩, Rd.nil _ _, fun i hi => absurd hi (by simp)⟩
  · have hwt : ∀ i, i < len → ∀ y ∈ (D i).weights P e, y ≤ reachBytes := by
      intro i hil y hy
      refine hsz y ?_
      rw [hx]
      simp only [DataW.weights, ht, List.mem_cons, List.mem_append]
      exact .inr (.inl (weightsAll_mem (List.mem_map.2 ⟨i, List.mem_range.2 hil, rfl⟩) y hy))
    have hlen : len * P.bytesOf e ≤ reachBytes := by
      have h1 := hsz ((((List.range len).map D).length + ((List.range (m - len)).map fun j => D (len + j)).length) * P.bytesOf e) (by rw [hx]; simp only [DataW.weights, ht, List.mem_cons, true_or])
      refine Nat.le_trans (Nat.mul_le_mul_right _ ?_) h1
      simp
    simp only [if_true] at hm
    subst hm
    rw [hC] at hi
    have hex : ∀ i, i < len → ∃ x : α, good x ∧ ∀ j, j < k → W.cell? (a'.add (i * k + j)) = (encα x)[j]? := by
      intro i hil
      obtain ⟨cs', h1, h2⟩ := hi i (by omega)
      obtain ⟨x, rfl, hg⟩ := hel _ _ _ h2 (hwt i hil)
      obtain ⟨_, _, hat⟩ := World.cells?_some h1
      refine ⟨x, hg, fun j hj => ?_⟩
      rw [← Go.Deep.add_add]
      exact hat j hj
    have hls : ∀ n, n ≤ len → ∃ l : List α, l.length = n ∧ ∀ i (hi : i < l.length), good l[i] ∧ ∀ j, j < k → W.cell? (a'.add (i * k + j)) = (encα l[i])[j]? := by
      intro n
      induction n with
      | zero => intro _; exact ⟨[], rfl, fun i hi => absurd hi (by simp)⟩
      | succ n ih =>
        intro hn
        obtain ⟨l, hl, hg⟩ := ih (by omega)
        obtain ⟨x, hx1, hx2⟩ := hex n (by omega)
        refine ⟨l ++ [x], by simp [hl], fun i hi => ?_⟩
        by_cases e3 : i < l.length
        · rw [List.getElem_append_left e3]; exact hg i e3
        · obtain rfl : i = n := by simp at hi; omega
          rw [List.getElem_append_right (by omega)]
          simpa [hl] using ⟨hx1, hx2⟩
    obtain ⟨l, hl, hg⟩ := hls len (Nat.le_refl _)
    refine ⟨some a', len, _, l, rfl, hl, by unfold maxLen at hcm; omega, ⟨hlc, by unfold maxLen at hcm; omega⟩, hlen, (fun e => by cases e), ?_, fun i hi => (hg i hi).1⟩
    intro h0
    rw [fl_length hk, hl] at h0
    have hlen0 : 0 < len := by
      rcases Nat.eq_zero_or_pos len with e4 | e4
      · rw [e4] at h0; simp at h0
      · exact e4
    have hcell : ∀ i, i < len * k → W.cell? (a'.add i) = (fl encα l)[i]? := by
      intro i hi
      have hq : i / k < len := (Nat.div_lt_iff_lt_mul hk0).2 hi
      have hr : i % k < k := Nat.mod_lt _ hk0
      have e5 : i / k * k + i % k = i := by rw [Nat.mul_comm]; exact Nat.div_add_mod i k
      have h1 := (hg (i / k) (by rw [hl]; exact hq)).2 (i % k) hr
      have h2 := fl_getElem? hk l (i / k) (i % k) hr
      have hq2 : i / k < l.length := by rw [hl]; exact hq
      rw [List.getElem?_eq_getElem hq2] at h2
      simp only [Option.bind_some] at h2
      rw [e5] at h1 h2
      rw [h1, h2]
    obtain ⟨bb, off, sub⟩ := a'
    have hs0 := hcell 0 h0
    have hne : (fl encα l)[0]? = some ((fl encα l)[0]'(by rw [fl_length hk, hl]; exact h0)) := List.getElem?_eq_getElem _
    rw [hne] at hs0
    have hsub : sub = none := by
      cases sub with
      | none => rfl
      | some z =>
        simp only [Addr.add, if_true, World.cell?, Option.isSome_some] at hs0
        split at hs0 <;> cases hs0
    subst hsub
    refine ⟨bb, off, rfl, World.block_lt_of_cell? W _ hs0, fun i hi => ?_⟩
    rw [fl_length hk, hl] at hi
    have h1 := hcell i hi
    rw [List.getElem?_eq_getElem (by rw [fl_length hk, hl]; exact hi)] at h1
    rw [List.getD_eq_getElem?_getD, List.getElem?_eq_getElem (by rw [fl_length hk, hl]; exact hi)]
    refine Eq.trans ?_ h1
    by_cases hi0 : i = 0
    · subst hi0; rfl
    · simp only [Addr.add, if_neg hi0]
/-- A slice that came in: read as a list; its elements' sizes bounded. -/
theorem rd_openS {α : Type} {encα : α → List Value} {k : Nat} (hk : ∀ x, (encα x).length = k) (hk0 : 0 < k) {good : α → Prop} {W : World} {t e : TypeId} (ht : P.underlying t = some (.slice e)) (hC : P.cellsOf e = k)
    (hel : ∀ (n : Nat) (cs : List Value) (x : DataW H × List MemPlace), DataW.trod enc P W 0 (fun _ => true) true n e cs = some x → (∀ y ∈ x.1.weights P e, y ≤ reachBytes) → ∃ a : α, cs = encα a ∧ good a) {r : Reach} {b0 : Nat} {v : Value} {d : DataW H} {ps : List MemPlace}
    (hv : Value.okWide P W r b0 t v) (h : DataW.Trod enc P W 0 (fun _ => true) true t v d ps) (hsz : ∀ y ∈ d.weights P t, y ≤ reachBytes) :
    ∃ (a : Option Addr) (n c : Nat) (l : List α), v = .slice a n c ∧ l.length = n ∧ n ≤ 9223372036854775807 ∧ (n ≤ c ∧ c ≤ 9223372036854775807) ∧ n * P.bytesOf e ≤ reachBytes ∧ (a = none → n = 0 ∧ c = 0) ∧ Rd W a (fl encα l) ∧ ∀ i (hi : i < l.length), good l[i] := by
  obtain ⟨a, len, cap, rfl⟩ := okWide_slice ht hv
  obtain ⟨fuel, hf⟩ := h
  obtain ⟨a', n, c, l, hcs, h1⟩ := rd_cellsS hk hk0 ht hC hel hf hsz
  have e2 : (Value.slice a len cap) = .slice a' n c := by simpa [Value.cells] using hcs
  exact ⟨a', n, c, l, e2, h1⟩
end
theorem cellsInt : Tryz.prog.cellsOf 3 = 1 := by kernel_rfl
theorem cellsStr : Tryz.prog.cellsOf 9 = 1 := by kernel_rfl
theorem cellsU64 : Tryz.prog.cellsOf 35 = 1 := by kernel_rfl
theorem cellsNd : Tryz.prog.cellsOf 40 = 2 := by kernel_rfl
theorem cellsVs : Tryz.prog.cellsOf 22 = 1 := by kernel_rfl
theorem cellsTab : Tryz.prog.cellsOf 24 = 2 := by kernel_rfl
theorem bytesU64 : Tryz.prog.bytesOf 35 = 8 := by kernel_rfl
theorem bytesNd : Tryz.prog.bytesOf 40 = 24 := by kernel_rfl
def VOk (x : Nat) : Prop := x < 18446744073709551616
def NdOk (x : Nd) : Prop := IntOk x.1 ∧ x.2.size ≤ 140737488355328
theorem rd_u64s {H : Type} {enc : TypeId × Value → H} {W : World} (n : Nat) (cs : List Value) (x : DataW H × List MemPlace) (h : DataW.trod enc Tryz.prog W 0 (fun _ => true) true n 35 cs = some x) (_ : ∀ y ∈ x.1.weights Tryz.prog 35, y ≤ reachBytes) : ∃ a : Nat, cs = encV a ∧ VOk a := by
  obtain ⟨z, rfl, _, hw⟩ := DataW.trod_int Tryz.underlying35 h
  have hb := bounds_u64 hw
  refine ⟨z.toNat, ?_, by unfold VOk; omega⟩
  show _ = [Value.int .u64 ((z.toNat : Nat) : Int)]
  rw [Int.toNat_of_nonneg hb.1]
theorem rd_nds {H : Type} {enc : TypeId × Value → H} {W : World} (n : Nat) (cs : List Value) (x : DataW H × List MemPlace) (h : DataW.trod enc Tryz.prog W 0 (fun _ => true) true n 40 cs = some x) (hsz : ∀ y ∈ x.1.weights Tryz.prog 40, y ≤ reachBytes) : ∃ a : Nd, cs = encNd a ∧ NdOk a := by
  obtain ⟨y0, y1, m, rfl, hlen, h0, h1⟩ := trod_struct2 Tryz.underlying40 h
  rw [cellsNd] at hlen
  obtain ⟨c0, c1, rfl⟩ := list_two hlen
  simp only [cellsInt, cellsStr] at h0 h1
  obtain ⟨z0, e0, e00, w0⟩ := DataW.trod_int Tryz.underlying3 h0
  obtain ⟨z1, e1, e11, w1⟩ := DataW.trod_string Tryz.underlying9 h1
  refine ⟨(z0, z1), ?_, bounds_i64 w0, ?_⟩
  · simp at e0 e1
    rw [e0, e1]
    rfl
  · have h2 : z1.data.toList.length ≤ reachBytes := hsz z1.data.toList.length (by
      rw [e00, e11]
      simp only [DataW.weights, Tryz.underlying40]
      show _ ∈ DataW.weightsEach Tryz.prog [_, _] [_, _]
      simp only [DataW.weightsEach, DataW.weights]
      simp)
    have h3 : z1.data.toList.length = z1.size := Array.length_toList
    rw [h3] at h2
    unfold reachBytes at h2
    have h4 : z1.size ≤ 140737488351232 := h2
    show z1.size ≤ _
    omega
set_option maxRecDepth 100000 in
/-- A tree that came in. -/
theorem open_nds {H : Type} {enc : TypeId × Value → H} {W : World} {r : Reach} {b0 : Nat} {v : Value} {d : DataW H} {ps : List MemPlace} (hv : Value.okWide Tryz.prog W r b0 25 v) (h : DataW.Trod enc Tryz.prog W 0 (fun _ => true) true 25 v d ps) (hsz : ∀ y ∈ d.weights Tryz.prog 25, y ≤ reachBytes) :
    ∃ (a : Option Addr) (n c : Nat) (l : List Nd), v = .slice a n c ∧ l.length = n ∧ n ≤ 1152921504606846976 ∧ n ≤ c ∧ c ≤ 9223372036854775807 ∧ Rd W a (fl encNd l) ∧ (∀ i, i < n → (nS l i).size ≤ 9223372036854775807) ∧ ∀ i, i < n → IntOk (nP l i) := by
  obtain ⟨a, n, c, l, h1, h2, h3, ⟨h4a, h4b⟩, h4, h5, h6, h7⟩ := rd_openS encNd_len (by omega) (good := NdOk) Tryz.underlying25 cellsNd rd_nds hv h hsz
  rw [bytesNd] at h4
  have hg : ∀ i, i < n → NdOk (nP l i, nS l i) := fun i hi => by
    have h8 := h7 i (by omega)
    have e : (nP l i, nS l i) = l[i]'(by omega) := by simp [nP, nS, h2 ▸ hi]
    rw [e]; exact h8
  refine ⟨a, n, c, l, h1, h2, by unfold reachBytes at h4; omega, h4a, h4b, h6, fun i hi => ?_, fun i hi => (hg i hi).1⟩
  have h9 : (nS l i).size ≤ 140737488355328 := (hg i hi).2
  omega
set_option maxRecDepth 100000 in
/-- A table that came in. -/
theorem open_tab {H : Type} {enc : TypeId × Value → H} {W : World} {r : Reach} {b0 : Nat} {v : Value} {d : DataW H} {ps : List MemPlace} (hv : Value.okWide Tryz.prog W r b0 24 v) (h : DataW.Trod enc Tryz.prog W 0 (fun _ => true) true 24 v d ps) (hsz : ∀ y ∈ d.weights Tryz.prog 24, y ≤ reachBytes) :
    ∃ (L : Int) (a : Option Addr) (n c : Nat) (l : List Nat), v = .agg #[.int .i64 L, .slice a n c] ∧ IntOk L ∧ l.length = n ∧ n ≤ 1152921504606846976 ∧ n ≤ c ∧ c ≤ 9223372036854775807 ∧ Rd W a (fl encV l) ∧ FitV l := by
  obtain ⟨cs, rfl, hcs⟩ := okWide_struct Tryz.underlying24 hv
  obtain ⟨fuel, hf⟩ := h
  obtain ⟨y0, y1, m, hdp, hlen, h0, h1⟩ := trod_struct2 Tryz.underlying24 hf
  obtain ⟨rfl, rfl⟩ := Prod.mk.inj hdp
  have hlen2 : cs.toList.length = 2 := by rw [Array.length_toList, hcs, cellsTab]
  obtain ⟨c0, c1, hc⟩ := list_two hlen2
  have hc2 : cs = #[c0, c1] := by rw [← Array.toList_inj]; exact hc
  subst hc2
  simp only [cellsInt, cellsVs, Value.cells] at h0 h1
  obtain ⟨z0, e0, e00, w0⟩ := DataW.trod_int Tryz.underlying3 h0
  have hsz1 : ∀ y ∈ y1.1.weights Tryz.prog 22, y ≤ reachBytes := fun y hy => hsz y (by
    simp only [DataW.weights, Tryz.underlying24]
    show _ ∈ DataW.weightsEach Tryz.prog [_, _] [_, _]
    simp only [DataW.weightsEach, List.mem_append]
    exact .inr (.inl hy))
  obtain ⟨a, n, c, l, g1, g2, g3, ⟨g4a, g4b⟩, g4, g5, g6, g7⟩ := rd_cellsS encV_len (by omega) (good := VOk) Tryz.underlying22 cellsU64 rd_u64s h1 hsz1
  rw [bytesU64] at g4
  refine ⟨z0, a, n, c, l, ?_, bounds_i64 w0, g2, by unfold reachBytes at g4; omega, g4a, g4b, g6, fun i hi => ?_⟩
  · simp at e0 g1
    rw [e0, g1]
  · rw [vA_get hi]; exact g7 i hi
end Go.Proofs.YtkdehkkkbfackaaGreatDoor
