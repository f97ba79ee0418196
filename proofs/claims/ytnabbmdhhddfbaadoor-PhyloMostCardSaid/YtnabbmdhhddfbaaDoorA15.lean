/- phylo.Groups. -/
import Derived.Test.YtnabbmdhhddfbaaDoorA11
namespace Go.Proofs.YtnabbmdhhddfbaaDoor
open Go.RowKit Go.Shelf Go.Sort
/-- The groups as numbers. -/
def grpsN (L : Nat) (l : List Nat) : List Nat := (grpsU L l).map Fin.val
theorem grpsN_enc (L : Nat) (l : List Nat) : (grpsU L l).map encU = fl encV (grpsN L l) := by
  unfold grpsN fl
  induction grpsU L l with
  | nil => rfl
  | cons x l ih => simp only [List.map_cons, List.flatMap_cons, ih]; rfl
theorem grpsN_len (L : Nat) (l : List Nat) : (grpsN L l).length = (grpsU L l).length := by simp [grpsN]
theorem grpsU_le (L : Nat) (l : List Nat) : (grpsU L l).length ≤ l.length := by
  unfold grpsU
  refine Nat.le_trans (cmpU_le _) ?_
  rw [srtU_size]
  have : (grpL L l l.length).length ≤ (l.take l.length).length := List.length_filter_le _ _
  rw [List.take_length] at this
  simpa [toU] using this
set_option maxRecDepth 100000 in
set_option maxHeartbeats 2000000 in
theorem grp_any (L : Int) (a : Option Addr) (N c : Nat) (l : List Nat) (w : World) (hl : l.length = N) (hN : N ≤ 1152921504606846976) (hA : Rd w a (fl encV l)) (hF : FitV l) :
    Calls Tryd.prog 28 #[.agg #[.int .i64 L, .slice a N c]] w fun e w' => ∃ v', e = .returned (.tuple #[v', .int .i64 (chkT L l)]) ∧ (chkT L l ≠ 0 → v' = .slice none 0 0) ∧ (chkT L l = 0 → w'.ownsRow w.heap.size 44 1 v' (grpsN L.toNat l).length (fl encV (grpsN L.toNat l))) ∧ Below w.heap.size w w' := by
  have hb0 := bl_alloc (Below.refl _ w) (.cells #[.int .i64 L, .slice a N c] 24)
  have hB := Blk.new w #[.int .i64 L, .slice a N c] 24
  have HL := Lib.hid hl
  have HF := Lib.hid hF
  have HC := Lib.hid (tchk_any L a N c l (w.alloc (.cells #[.int .i64 L, .slice a N c] 24)) hl hN (hA.bl hb0) hF)
  have HA := Lib.hid (hA.bl hb0)
  clear hl hA hF
  go_enter Tryd.func28, Tryd.ntmps28
  go_wp2_with fail
  refine HC.out.mono ?_
  rintro e w2 ⟨rfl, hb2⟩
  have hb3 := bl_trans hb0 hb2
  have hB2 := hB.below hb2
  have HA2 := Lib.hid (HA.out.bl hb2)
  obtain ⟨E, hE⟩ : ∃ E, chkT L l = E := ⟨_, rfl⟩
  rw [hE]
  have HE := Lib.hid hE
  clear hE HC HA hB hb0 hb2
  by_cases h0 : E = 0
  · have d0 : (E == 0) = true := by simp [h0]
    subst h0
    obtain ⟨X, hX⟩ : ∃ X, X = w.heap.size := ⟨_, rfl⟩
    rw [← hX] at hB2 ⊢
    have HB3 := Lib.hid hb3
    have e0 : w2.cell? ⟨X, 0, none⟩ = some (.int .i64 L) := hB2.cell 0
    have e1 : w2.cell? ⟨X, 1, none⟩ = some (.slice a N c) := hB2.cell 1
    clear hX hB2 hb3
    have hk : 0 ≤ L ∧ L ≤ 32 ∧ l.length ≤ 64 := by
      have h := HE.out
      unfold chkT at h
      by_cases q : L < 0 ∨ 32 < L
      · rw [if_pos q] at h; omega
      · rw [if_neg q] at h
        by_cases q2 : 64 < l.length
        · rw [if_pos q2] at h; omega
        · exact ⟨by omega, by omega, by omega⟩
    obtain ⟨M, rfl⟩ : ∃ M : Nat, L = M := ⟨L.toNat, by omega⟩
    have HG := Lib.hid (groups_any M a N c l w2 HL.out (by have := HL.out; omega) (by omega) HA2.out HF.out)
    have hgl := grpsU_le M l
    have hgl2 : (grpsN M l).length ≤ 64 := by rw [grpsN_len]; omega
    have hn64 : N ≤ 64 := by have := HL.out; omega
    clear hk hgl
    rw [grpsN_enc, ← grpsN_len] at HG
    obtain ⟨zs, hzs⟩ : ∃ zs, grpsN M l = zs := ⟨_, rfl⟩
    rw [hzs] at HG hgl2
    have HZ := Lib.hid hzs
    clear hzs
    go_wp2_with fail
    refine HG.out.mono ?_
    rintro e w3 ⟨v, rfl, ho, hb⟩
    obtain ⟨G, cap, rfl, _⟩ := owns_slice ho
    have HR := Lib.hid (rd_of_owns ho)
    have HB4 := Lib.hid (bl_trans HB3.out hb)
    obtain ⟨K, hK⟩ : ∃ K, K = zs.length := ⟨_, rfl⟩
    rw [← hK] at hgl2 ⊢
    have HK := Lib.hid hK
    clear ho hb hK HG e0 e1 d0
    go_wp2_with fail
    go_loopw [16, 5] (fun x v wr => ∃ k : Nat, k ≤ K ∧ x = .int .i64 k ∧ wr.ownsRow w3.heap.size 44 1 v k (fl encV (zs.take k)) ∧ Below w3.heap.size w3 wr) (fun x _ _ => K - (intOf x).toNat)
    case atStart => exact ⟨0, by omega, rfl, World.ownsRow_nil _ _ _ _, Below.refl _ _⟩
    case round =>
      obtain ⟨k, hk, rfl, how, hbw⟩ := hrel
      by_cases hlt : k < K
      · obtain ⟨b, o, rfl, hb, hc⟩ := rdV (HR.out.bl hbw) (by rw [← HK.out]; omega)
        have hkl : k < zs.length := by rw [← HK.out]; exact hlt
        have G1 := hc k hkl
        have hsn : Hid (zs.take (k + 1) = zs.take k ++ [vA zs k]) := by show _ = _; rw [List.take_succ_eq_append_getElem hkl, vA_get hkl]
        have hn : Hid (k = (zs.take k).length) := by show _ = _; rw [List.length_take]; omega
        have HOW := Lib.hid how
        have HBW := Lib.hid hbw
        have hbase : w3.heap.size ≤ (wr.alloc (.cells #[.int .u64 (vA zs k)] 44)).heap.size := (bl_alloc hbw _).size
        clear hc hkl how hbw
        generalize vA zs k = z at *
        go_wp2_with (at_builtin; refine push_V rfl (.tmp 20) (.tmp 22) rfl w3.heap.size u5 (zs.take k) k hn.out rfl (HOW.out.alloc _) _ _ z rfl (Blk.new _ _ _) (by omega) hbase ?_; intro g cap2 w8 h81 h82 h83 h84; rw [← hsn.out] at h81; have H81 := Lib.hid h81; have H82 := Lib.hid h82; clear h81 h82 h83)
        have HB8 := Lib.hid (bl_grown (bl_alloc HBW.out (.cells #[.int .u64 z] 44)) H82.out (fun x e => (HOW.out.lt x e).1))
        go_roundw
        case rel => exact ⟨k + 1, by omega, by go_num, H81.out, HB8.out⟩
        case measure => simp [intOf]; omega
      · have e : k = K := by omega
        subst e
        have h9 : wr.ownsRow w.heap.size 44 1 u5 zs.length (fl encV zs) := by
          have h := owns_mono how HB4.out.size
          rw [List.take_of_length_le (by rw [← HK.out]; exact Nat.le_refl _), HK.out] at h
          exact h
        have H9 := Lib.hid h9
        have HB9 := Lib.hid (bl_trans HB4.out hbw)
        clear h9 how hbw
        go_wp2_with fail
        exact bodyPost_ret (v := .tuple #[u5, .int .i64 0]) (by simp [results, Tryd.results28, go_sem]) rfl ⟨_, by rw [HE.out], fun h => absurd HE.out h, fun _ => by rw [Int.toNat_natCast, HZ.out]; exact H9.out, HB9.out⟩
  · have d0 : (E == 0) = false := by simp [h0]
    have HB3 := Lib.hid hb3
    clear hB2 hb3
    go_wp2_with fail
    exact bodyPost_ret (v := .tuple #[.slice none 0 0, .int .i64 E]) (by simp [results, Tryd.results28, go_sem]) rfl ⟨_, by rw [HE.out], fun _ => rfl, fun h => absurd (HE.out.symm.trans h) h0, HB3.out⟩
end Go.Proofs.YtnabbmdhhddfbaaDoor
