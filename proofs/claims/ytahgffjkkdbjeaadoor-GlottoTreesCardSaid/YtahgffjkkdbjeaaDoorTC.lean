/- The document's Tree at every input. -/
import Derived.Test.YtahgffjkkdbjeaaDoorTB
import Derived.Test.YtahgffjkkdbjeaaDoorJC
namespace Go.Proofs.YtahgffjkkdbjeaaDoor
open Go.RowKit
/-- Parents lie within the tree. -/
def WfT (t : List Nd) : Prop := 0 < t.length ∧ ∀ i, 0 < i → i < t.length → 0 ≤ nP t i ∧ nP t i < t.length
theorem WfT.undr {t Pt : List Nd} (h : WfT t) (k : WfT Pt) : WfT (undr t Pt) := by
  refine ⟨by rw [undr_len]; have := h.1; omega, fun i h0 hi => ?_⟩
  rw [undr_len] at hi ⊢
  by_cases e : i < t.length
  · have e2 : nP (Go.Proofs.YtahgffjkkdbjeaaDoor.undr t Pt) i = nP t i := by
      unfold nP Go.Proofs.YtahgffjkkdbjeaaDoor.undr
      rw [List.getD_eq_getElem?_getD, List.getElem?_append_left e, ← List.getD_eq_getElem?_getD]
    rw [e2]
    have := h.2 i h0 e
    omega
  · obtain ⟨j, rfl⟩ : ∃ j, i = t.length + j := ⟨i - t.length, by omega⟩
    have hj : j < Pt.length := by omega
    have e2 : nP (Go.Proofs.YtahgffjkkdbjeaaDoor.undr t Pt) (t.length + j) = if j = 0 then 0 else nP Pt j + (t.length : Int) := by
      unfold nP Go.Proofs.YtahgffjkkdbjeaaDoor.undr
      rw [List.getD_eq_getElem?_getD, List.getElem?_append_right (by omega), Nat.add_sub_cancel_left, shf_at 0 t.length Pt hj]
      split <;> rfl
    rw [e2]
    by_cases ej : j = 0
    · rw [if_pos ej]; have := h.1; omega
    · rw [if_neg ej]
      have := k.2 j (by omega) hj
      omega
theorem wfT_one (s : ByteArray) : WfT [(-1, s)] := ⟨by simp, fun i h0 hi => by simp at hi; omega⟩
theorem ptK_wf (names : List ByteArray) (l : List Mg) : ∀ k a, WfT (ptK names l k a)
  | 0, a => wfT_one _
  | k + 1, a => by
    show WfT (if a = (mA l k).toNat then _ else _)
    split
    · exact ((wfT_one _).undr (ptK_wf names l k _)).undr (ptK_wf names l k _)
    · exact ptK_wf names l k a
theorem ptK_len {n : Nat} {names : List ByteArray} {l : List Mg} : ∀ k, (∀ i, i < k → StepOk n l i) → ∀ a, stS n l k a ≠ 0 → (ptK names l k a).length + 1 = 2 * stS n l k a
  | 0, _, a, h => by
    show 1 + 1 = 2 * aloneS n a
    have h2 : aloneS n a ≠ 0 := h
    unfold aloneS at h2 ⊢
    split at h2
    · rename_i e; rw [if_pos e]
    · exact absurd rfl h2
  | k + 1, hok, a, h => by
    have ih := ptK_len (names := names) k (fun i hi => hok i (by omega))
    obtain ⟨h1, h2, h3, h4, h5, _⟩ := hok k (by omega)
    show (if a = (mA l k).toNat then undr (undr [(-1, innS k)] (ptK names l k (mA l k).toNat)) (ptK names l k (mB l k).toNat) else ptK names l k a).length + 1 = 2 * joinS (stS n l k) (mA l k).toNat (mB l k).toNat a
    have h6 : joinS (stS n l k) (mA l k).toNat (mB l k).toNat a ≠ 0 := h
    unfold joinS updN at h6 ⊢
    have hab : (mA l k).toNat ≠ (mB l k).toNat := by omega
    by_cases eb : a = (mB l k).toNat
    · rw [if_pos eb] at h6; exact absurd rfl h6
    · rw [if_neg eb] at h6 ⊢
      by_cases ea : a = (mA l k).toNat
      · rw [if_pos ea, if_pos ea, undr_len, undr_len]
        have i1 := ih _ h4
        have i2 := ih _ h5
        simp only [List.length_singleton]
        omega
      · rw [if_neg ea] at h6 ⊢
        rw [if_neg ea]
        exact ih a h6
/-- The parts of the tree in memory. -/
structure PtI (W : World) (g m : Nat) (names : List ByteArray) (l : List Mg) (k : Nat) (ra : Nat → Option Addr) (rc : Nat → Nat) : Prop where
  blk : Blk W g (ofF m fun a => .slice (ra a) (ptK names l k a).length (rc a)) 60
  rd : ∀ a, a < m → Rd W (ra a) (fl encNd (ptK names l k a))
  off : ∀ a, a < m → ∀ b off, ra a = some ⟨b, off, none⟩ → b ≠ g
def RtPost (w : World) (n : Int) (names : List ByteArray) (l : List Mg) (e : Ending) (w' : World) : Prop :=
  ∃ a c, e = .returned (.tuple #[.slice a (treeL n names l).length c, .int .i64 (treeE n names l)]) ∧ Rd w' a (fl encNd (treeL n names l)) ∧ Below w.heap.size w w'
theorem RtPost.err {w w' : World} {n x : Int} {names : List ByteArray} {l : List Mg} (hx : treeE n names l = x) (h0 : x ≠ 0) (hb : Below w.heap.size w w') : RtPost w n names l (.returned (.tuple #[.slice none 0 0, .int .i64 x])) w' := by
  have e : treeL n names l = [] := by rw [treeL, if_neg (by rw [hx]; exact h0)]
  exact ⟨none, 0, by rw [hx, e]; rfl, by rw [e]; exact Rd.nil _ _, hb⟩
theorem RtPost.of {w w' : World} {n : Int} {names : List ByteArray} {l : List Mg} {e : Ending} (h : TrPost w n names l e w') : RtPost w n names l e w' := by
  obtain ⟨v, rfl, h2, h3⟩ := h
  obtain ⟨a, c, rfl, _⟩ := owns_slice h2
  exact ⟨a, c, rfl, rd_of_owns h2, h3⟩
theorem info_RN : (Tryd.prog.info? 60).map (fun i => (i.zero, i.size, i.bytes)) = some (some (.slice none 0 0), 1, 24) := by kernel_rfl
theorem PtI.below {W W' : World} {g m : Nat} {names : List ByteArray} {l : List Mg} {k : Nat} {ra : Nat → Option Addr} {rc : Nat → Nat} (h : PtI W g m names l k ra rc) (hb : Below W.heap.size W W') : PtI W' g m names l k ra rc :=
  ⟨h.blk.below hb, fun a ha => (h.rd a ha).bl hb, h.off⟩
theorem encNd_fl (t : List Nd) : (fl encNd t).length = t.length * 2 := fl_length encNd_len t
theorem rd_set {W : World} {a : Option Addr} {cs : List Value} {g i : Nat} {v : Value} (h : Rd W a cs) (ho : ∀ b off, a = some ⟨b, off, none⟩ → b ≠ g) : Rd (W.setCell ⟨g, i, none⟩ v) a cs := fun h0 => by
  obtain ⟨b, off, e, hb, hc⟩ := h h0
  exact ⟨b, off, e, by simpa [World.setCell] using hb, fun j hj => ((World.cell?_of_block (w := W) (Below.heap_setCell W ⟨g, i, none⟩ v b (ho b off e)))).trans (hc j hj)⟩
theorem PtI.set {W : World} {g m : Nat} {names : List ByteArray} {l : List Mg} {k : Nat} {ra : Nat → Option Addr} {rc : Nat → Nat} (h : PtI W g m names l k ra rc) {A : Nat} (hA : A = (mA l k).toNat) {a3 : Option Addr} {c3 : Nat} (hr : Rd W a3 (fl encNd (ptK names l (k + 1) A))) (ho : ∀ b off, a3 = some ⟨b, off, none⟩ → b ≠ g) :
    PtI (W.setCell ⟨g, A, none⟩ (.slice a3 (ptK names l (k + 1) A).length c3)) g m names l (k + 1) (fun a => if a = A then a3 else ra a) (fun a => if a = A then c3 else rc a) := by
  have hpt : ∀ a, a ≠ A → ptK names l (k + 1) a = ptK names l k a := fun a e => if_neg (by rw [← hA]; exact e)
  refine ⟨?_, fun a ha => ?_, fun a ha b off e => ?_⟩
  · have h1 := h.blk.setF A (.slice a3 (ptK names l (k + 1) A).length c3)
    have e : (fun j => if j = A then Value.slice a3 (ptK names l (k + 1) A).length c3 else .slice (ra j) (ptK names l k j).length (rc j)) = fun a => .slice (if a = A then a3 else ra a) (ptK names l (k + 1) a).length (if a = A then c3 else rc a) := by
      funext j
      by_cases e : j = A
      · rw [if_pos e, if_pos e, if_pos e, e]
      · rw [if_neg e, if_neg e, if_neg e, hpt j e]
    rw [← e]; exact h1
  · by_cases e : a = A
    · simp only [e, if_true]
      exact rd_set hr ho
    · simp only [if_neg e]
      rw [hpt a e]
      exact rd_set (h.rd a ha) (h.off a ha)
  · by_cases e2 : a = A
    · rw [if_pos e2] at e; exact ho b off e
    · rw [if_neg e2] at e; exact h.off a ha b off e
set_option maxRecDepth 100000 in
set_option maxHeartbeats 8000000 in
theorem rtree_any (n : Int) (m c1 N c2 : Nat) (na la : Option Addr) (names : List ByteArray) (l : List Mg) (w : World) (hm : names.length = m) (hN : l.length = N) (hn : Rd w na (fl encS names)) (hl : Rd w la (fl encMg l)) (hmx : m ≤ 1152921504606846976) (hNx : N ≤ 1152921504606846976) (hsz : ∀ i, i < m → (sA names i).size ≤ 9223372036854775807) :
    Calls Tryd.prog 39 #[.int .i64 n, .slice na m c1, .slice la N c2] w (RtPost w n names l) := by
  have HM := Lib.hid hm
  have HN := Lib.hid hN
  have HNA := Lib.hid hn
  have HLA := Lib.hid hl
  have HSZ := Lib.hid hsz
  clear hm hN hn hl hsz
  by_cases q1 : n < 1
  · have he := Lib.hid (show treeE n names l = 3 from if_pos (.inl q1))
    go_enter Tryd.func39, Tryd.ntmps39
    go_wp2_with fail
    go_ret2
    exact RtPost.err he.out (by decide) (Below.refl _ _)
  · by_cases q2 : 24 < n
    · have he := Lib.hid (show treeE n names l = 3 from if_pos (.inr q2))
      go_enter Tryd.func39, Tryd.ntmps39
      go_wp2_with fail
      go_ret2
      exact RtPost.err he.out (by decide) (Below.refl _ _)
    · obtain ⟨M, rfl⟩ : ∃ M : Nat, n = M := ⟨n.toNat, by omega⟩
      have hm1 : 1 ≤ M := by omega
      have hm2 : M ≤ 24 := by omega
      have d1 : decide ((M : Int) < 1) = false := by simp; omega
      have d2 : decide (24 < (M : Int)) = false := by simp; omega
      have HR : Hid (¬ ((M : Int) < 1 ∨ 24 < (M : Int))) := by show ¬ _; omega
      clear q1 q2
      by_cases q3 : m = M
      · by_cases q4 : StepsOk M l
        · have t1 : ((m : Int) != (M : Int)) = false := by simp; omega
          have hd : Hid (decide (StepsOk M l) = true) := decide_eq_true q4
          have HOK := Lib.hid q4
          have HMM := Lib.hid q3
          have HE3 : Hid (∀ i, i < M → nmB (sA names i) = false → treeE (M : Int) names l = 15) := fun i hi h => by
            rw [treeE, if_neg HR.out, if_neg (fun h => h ⟨by rw [HM.out, HMM.out], by simpa using HOK.out⟩), if_pos (fun h2 => by have := h2 i (by rw [HM.out]; omega); rw [h] at this; cases this)]
          have HE4 : Hid ((∀ i, i < M → nmB (sA names i) = true) → ¬ HaveR names N → treeE (M : Int) names l = 6) := fun h1 h => by
            rw [treeE, if_neg HR.out, if_neg (fun h => h ⟨by rw [HM.out, HMM.out], by simpa using HOK.out⟩), if_neg (fun h2 => h2 fun i hi => h1 i (by rw [HM.out] at hi; omega)), if_pos (by rw [HN.out, have_iff]; exact h)]
          have HE5 : Hid ((∀ i, i < M → nmB (sA names i) = true) → HaveR names N → treeE (M : Int) names l = 0) := fun h1 h => by
            rw [treeE, if_neg HR.out, if_neg (fun h => h ⟨by rw [HM.out, HMM.out], by simpa using HOK.out⟩), if_neg (fun h2 => h2 fun i hi => h1 i (by rw [HM.out] at hi; omega)), if_neg (fun h2 => h2 (by rw [HN.out, have_iff]; exact h))]
          subst q3
          clear q4 HMM
          go_enter Tryd.func39, Tryd.ntmps39
          go_upto_region 5 with (go_at_call 74; refine (clustering_any la m N c2 l _ hm1 hm2 HN.out hNx HLA.out).mono ?_; rintro e w1 ⟨rfl, hb1⟩; rw [hd.out])
          have HB1 := Lib.hid hb1
          have hbz := Below.refl w1.heap.size w1
          clear hb1
          go_wp2_with fail
          go_loopw [8] (fun x wr => ∃ i : Nat, i ≤ m ∧ x = .int .i64 i ∧ Hid (∀ j, j < i → nmB (sA names j) = true) ∧ Below w1.heap.size w1 wr) (fun x _ => m - (intOf x).toNat)
          case atStart => exact ⟨0, by omega, rfl, fun j h => absurd h (by omega), hbz⟩
          case round =>
            clear hbz
            obtain ⟨i, hi, rfl, hnm, hbl⟩ := hrel
            by_cases hlt : i < m
            · obtain ⟨b, o, rfl, _, hc⟩ := rdS ((HNA.out.bl HB1.out).bl hbl) (by rw [HM.out]; omega)
              have G := hc i (by rw [HM.out]; exact hlt)
              have hs := HSZ.out i hlt
              have HNX : Hid (nmB (sA names i) = true → ∀ j, j < i + 1 → nmB (sA names j) = true) := fun h j hj => by
                by_cases e : j = i
                · rw [e]; exact h
                · exact hnm.out j (by omega)
              have HNO := Lib.hid (HE3.out i hlt)
              have hcs : (((sA names i).extract 0 (min (sA names i).size 25))).size ≤ 9223372036854775807 := by rw [ByteArray.size_extract]; omega
              have HCUT := Lib.hid (nmB_cut (sA names i))
              clear hc
              generalize sA names i = s at *
              rcases Bool.eq_false_or_eq_true (nmB s) with hp | hp
              · have HP := Lib.hid hp
                have hnx2 := Lib.hid (HNX.out hp)
                clear hp
                go_wp2_with (first
                  | (go_at_call 76; refine (cut_any s _ hs).mono ?_; rintro e w2 ⟨rfl, rfl⟩)
                  | (go_at_call 75; refine (rnamed_any _ _ hcs).mono ?_; rintro e w3 ⟨rfl, rfl⟩; rw [HCUT.out, HP.out]))
                go_roundw
                case rel => exact ⟨i + 1, by omega, by go_num, hnx2, hbl⟩
                case measure => simp [intOf]; omega
              · have HP := Lib.hid hp
                have hno := Lib.hid (HNO.out hp)
                clear hp
                go_wp2_with (first
                  | (go_at_call 76; refine (cut_any s _ hs).mono ?_; rintro e w2 ⟨rfl, rfl⟩)
                  | (go_at_call 75; refine (rnamed_any _ _ hcs).mono ?_; rintro e w3 ⟨rfl, rfl⟩; rw [HCUT.out, HP.out]))
                go_ret2
                exact RtPost.err hno.out (by decide) (bl_trans HB1.out hbl)
            · have HNM : Hid (∀ i, i < m → nmB (sA names i) = true) := fun i' hi' => hnm.out i' (by omega)
              have HB2 := Lib.hid (bl_trans HB1.out hbl)
              have hN23 : N ≤ 23 := by have := HOK.out.1; have := HN.out; omega
              have hw0 := Below.refl wr.heap.size wr
              clear hnm hbl
              obtain ⟨w2, rfl⟩ : ∃ w2 : World, w2 = wr := ⟨_, rfl⟩
              go_wp2_with fail
              go_loopw [9, 10, 11] (fun x _ _ wr => ∃ i : Nat, i ≤ m ∧ x = .int .i64 i ∧ Hid (∀ i', i' < i → (∀ k, k < i' → sA names i' ≠ sA names k) ∧ ∀ k, k < N → sA names i' ≠ innS k) ∧ Below w2.heap.size w2 wr) (fun x _ _ _ => m - (intOf x).toNat)
              case atStart => exact ⟨0, by omega, rfl, fun i h => absurd h (by omega), hw0⟩
              case round =>
                clear hw0
                obtain ⟨i, hi, rfl, hhv, hbl⟩ := hrel
                by_cases hlt : i < m
                · obtain ⟨w3, rfl⟩ : ∃ w3 : World, w3 = wr := ⟨_, rfl⟩
                  have hNA3 := Lib.hid ((HNA.out.bl HB2.out).bl hbl)
                  have hx0 : ∃ nq, w3 = w3.drewN nq := ⟨0, rfl⟩
                  go_wp2_with fail
                  go_loopw [10] (fun x wr => ∃ k : Nat, k ≤ i ∧ x = .int .i64 k ∧ Hid (∀ k', k' < k → sA names i ≠ sA names k') ∧ ∃ nq, wr = w3.drewN nq) (fun x _ => i - (intOf x).toNat)
                  case atStart => exact ⟨0, by omega, rfl, fun k h => absurd h (by omega), 0, rfl⟩
                  case round =>
                    clear hx0
                    obtain ⟨k, hk, rfl, hne, nq0, rfl⟩ := hrel
                    by_cases hki : k < i
                    · obtain ⟨b, o, rfl, _, hc⟩ := rdS hNA3.out (by rw [HM.out]; omega)
                      have G1 := hc i (by rw [HM.out]; exact hlt)
                      have G2 := hc k (by rw [HM.out]; omega)
                      have HYES : Hid (sA names i = sA names k → treeE (m : Int) names l = 6) := fun h => HE4.out HNM.out (fun h2 => (h2 i (by rw [HM.out]; exact hlt)).1 k hki h)
                      have HNX : Hid (¬ (sA names i = sA names k) → ∀ k', k' < k + 1 → sA names i ≠ sA names k') := fun h k' hk' => by
                        by_cases e : k' = k
                        · rw [e]; exact h
                        · exact hne.out k' (by omega)
                      clear hc
                      generalize sA names i = s1 at *
                      generalize sA names k = s2 at *
                      by_cases hs : s1 = s2
                      · have t2 : (s1.toList == s2.toList) = true := by rw [hs]; exact beq_self_eq_true _
                        have he := Lib.hid (HYES.out hs)
                        clear hs
                        go_upto_region 16 with fail
                        go_quiet (fail)
                        go_wp2_with fail
                        go_ret2
                        exact RtPost.err he.out (by decide) (bl_drewN (bl_drewN (bl_trans HB2.out hbl) _) _)
                      · have t2 : (s1.toList == s2.toList) = false := beq_eq_false_iff_ne.2 fun e => hs (ba_inj.1 e)
                        have he := Lib.hid (HNX.out hs)
                        clear hs
                        go_upto_region 16 with fail
                        go_quiet (fail)
                        go_wp2_with fail
                        go_roundw
                        case rel => exact ⟨k + 1, by omega, by go_num, he, nq0 + nq, by simp⟩
                        case measure => simp [intOf]; omega
                    · have HN1 : Hid (∀ k', k' < i → sA names i ≠ sA names k') := fun k' hk' => hne.out k' (by omega)
                      obtain ⟨w4, hw4⟩ : ∃ w4, w4 = w3.drewN nq0 := ⟨_, rfl⟩
                      have hb4 : Below w2.heap.size w2 w4 := by rw [hw4]; exact bl_drewN hbl nq0
                      have hNA4 : Hid (Rd w4 na (fl encS names)) := by rw [hw4]; exact hNA3.out.drewN nq0
                      rw [← hw4]
                      have hz := Below.refl w4.heap.size w4
                      clear hw4 hne hbl
                      go_wp2_with fail
                      go_loopw [11] (fun x wr => ∃ k : Nat, k ≤ N ∧ x = .int .i64 k ∧ Hid (∀ k', k' < k → sA names i ≠ innS k') ∧ Below w4.heap.size w4 wr) (fun x _ => N - (intOf x).toNat)
                      case atStart => exact ⟨0, by omega, rfl, fun k h => absurd h (by omega), hz⟩
                      case round =>
                        clear hz
                        obtain ⟨k, hk, rfl, hne, hbl⟩ := hrel
                        by_cases hkN : k < N
                        · obtain ⟨b, o, rfl, hbb, hc⟩ := rdS (hNA4.out.bl hbl) (by rw [HM.out]; omega)
                          have G1 := wb_cell (hc i (by rw [HM.out]; exact hlt)) hbb
                          have HYES : Hid (sA names i = innS k → treeE (m : Int) names l = 6) := fun h => HE4.out HNM.out (fun h2 => (h2 i (by rw [HM.out]; exact hlt)).2 k hkN h)
                          have HNX : Hid (¬ (sA names i = innS k) → ∀ k', k' < k + 1 → sA names i ≠ innS k') := fun h k' hk' => by
                            by_cases e : k' = k
                            · rw [e]; exact h
                            · exact hne.out k' (by omega)
                          have HIN : Hid (∀ w, Calls Tryd.prog 77 #[.int .i64 k] w fun e w' => e = .returned (.string (innS k)) ∧ Below w.heap.size w w') := fun w => rinner_any k w (by omega)
                          clear hc hbb
                          generalize sA names i = s1 at *
                          generalize innS k = s2 at *
                          by_cases hs : s1 = s2
                          · have t2 : (s1.toList == s2.toList) = true := by rw [hs]; exact beq_self_eq_true _
                            have he := Lib.hid (HYES.out hs)
                            clear hs
                            go_upto_region 21 with fail
                            refine wp_quiet_wb (by kernel_rfl) (by kernel_rfl) ?_
                            repeat (go_big_quiet_step ((go_at_call 77; exact quiet_of_wb (HIN.out _))))
                            refine wpQuiet_nil ?_
                            rintro _ ⟨⟨wq, hbq⟩, rfl⟩
                            go_wp2_with fail
                            go_ret2
                            exact RtPost.err he.out (by decide) (bl_trans (bl_trans (bl_trans HB2.out hb4) hbl) hbq)
                          · have t2 : (s1.toList == s2.toList) = false := beq_eq_false_iff_ne.2 fun e => hs (ba_inj.1 e)
                            have he := Lib.hid (HNX.out hs)
                            clear hs
                            go_upto_region 21 with fail
                            refine wp_quiet_wb (by kernel_rfl) (by kernel_rfl) ?_
                            repeat (go_big_quiet_step ((go_at_call 77; exact quiet_of_wb (HIN.out _))))
                            refine wpQuiet_nil ?_
                            rintro _ ⟨⟨wq, hbq⟩, rfl⟩
                            have hb5 := bl_trans hbl hbq
                            go_wp2_with fail
                            go_roundw
                            case rel => exact ⟨k + 1, by omega, by go_num, he, hb5⟩
                            case measure => simp [intOf]; omega
                        · have HH2 : Hid (∀ i', i' < i + 1 → (∀ k, k < i' → sA names i' ≠ sA names k) ∧ ∀ k, k < N → sA names i' ≠ innS k) := fun i' hi' => by
                            by_cases e : i' = i
                            · rw [e]; exact ⟨HN1.out, fun k' hk' => hne.out k' (by omega)⟩
                            · exact hhv.out i' (by omega)
                          have hb5 := bl_trans hb4 hbl
                          go_wp2_with fail
                          go_roundw
                          case rel => exact ⟨i + 1, by omega, by go_num, HH2, hb5⟩
                          case measure => simp [intOf]; omega
                · have HE := Lib.hid (HE5.out HNM.out (fun i' hi' => hhv.out i' (by rw [HM.out] at hi'; omega)))
                  have hbw3 := bl_trans HB2.out hbl
                  have HB3 := Lib.hid hbw3
                  obtain ⟨w3, rfl⟩ : ∃ w3 : World, w3 = wr := ⟨_, rfl⟩
                  obtain ⟨i0, hi0, hz0, hz1, hz2⟩ := info_parts info_RN
                  have hmk := run_make (P := Tryd.prog) w3 129 60 i0 _ Tryd.underlying129 hi0 hz0 .i64 .i64 (m : Int) (m : Int) (by omega) (by omega) (by rw [hz2]; omega) (by omega)
                  simp only [hz1, Int.toNat_natCast, Nat.mul_one] at hmk
                  clear hi0 hz0 hz1 hz2
                  have hblk0 : Blk (w3.alloc (.cells (madeCells #[Value.slice none 0 0] m) 60)) w3.heap.size (ofF m fun a => if a < 0 then .slice none 1 1 else .slice none 0 0) 60 := by
                    have e : madeCells #[Value.slice none 0 0] m = ofF m (fun a => if a < 0 then .slice none 1 1 else .slice none 0 0) := by
                      apply Array.ext
                      · simp [madeCells, ofF]
                      · intro i h1 h2
                        simp [madeCells, ofF, Nat.mod_one]
                    rw [e]; exact Blk.new w3 _ 60
                  have HBLK0 := Lib.hid hblk0
                  have HBA := Lib.hid (bl_alloc (Below.refl w3.heap.size w3) (.cells (madeCells #[Value.slice none 0 0] m) 60))
                  clear hblk0 hbl hhv hbw3
                  go_upto_region 24 with fail
                  obtain ⟨w4, hw4⟩ : ∃ w4, w4 = w3.alloc (.cells (madeCells #[Value.slice none 0 0] m) 60) := ⟨_, rfl⟩
                  obtain ⟨g, hg⟩ : ∃ g, g = w3.heap.size := ⟨_, rfl⟩
                  rw [← hw4] at HBLK0 HBA ⊢
                  rw [← hg] at HBLK0 ⊢
                  have hgw : w.heap.size ≤ g := by rw [hg]; exact HB3.out.size
                  have HB4 := Lib.hid (bl_trans HB3.out HBA.out)
                  clear hw4 hg hmk
                  have hbt := But.refl g w4
                  have hbk := HBLK0.out
                  go_wp2_with fail
                  go_loopw [13] (fun x wr => ∃ (i : Nat) (ra : Nat → Option Addr) (rc : Nat → Nat), i ≤ m ∧ x = .int .i64 i ∧ But g w4 wr ∧ Blk wr g (ofF m fun a => if a < i then .slice (ra a) 1 (rc a) else .slice none 0 0) 60 ∧ Hid (∀ a, a < i → Rd wr (ra a) (fl encNd (ptK names l 0 a)) ∧ ∀ b off, ra a = some ⟨b, off, none⟩ → b ≠ g)) (fun x _ => m - (intOf x).toNat)
                  case atStart => exact ⟨0, fun _ => none, fun _ => 1, by omega, rfl, hbt, hbk, fun a h => absurd h (by omega)⟩
                  case round =>
                    clear hbt hbk
                    obtain ⟨i2, ra, rc, hi2, rfl, hbt, hbk, hrs⟩ := hrel
                    by_cases hlt2 : i2 < m
                    · have hbw : Below w.heap.size w wr := HB4.out.trans (hbt.below HB4.out.size hgw)
                      obtain ⟨b, o, rfl, hbb, hc⟩ := rdS (HNA.out.bl hbw) (by rw [HM.out]; omega)
                      have G1 := hc i2 (by rw [HM.out]; exact hlt2)
                      have hX := Blk.new wr #[.int .i64 (-1), .string (sA names i2)] 66
                      have hba := bl_alloc (Below.refl wr.heap.size wr) (.cells #[.int .i64 (-1), .string (sA names i2)] 66)
                      have hbk2 := hbk.alloc (.cells #[.int .i64 (-1), .string (sA names i2)] 66)
                      have G2 : (wr.alloc (.cells #[.int .i64 (-1), .string (sA names i2)] 66)).cell? ⟨g, i2, none⟩ = some (.slice none 0 0) := by
                        have := hbk2.getF i2 hlt2
                        rw [if_neg (Nat.lt_irrefl _)] at this
                        exact this
                      have f2 := hbk2.free i2
                      have hgX : g < wr.heap.size := hbk.lt
                      have HSET : Hid (Blk ((wr.alloc (.cells #[.int .i64 (-1), .string (sA names i2)] 66)).setCell ⟨g, i2, none⟩ (.slice (some ⟨wr.heap.size, 0, none⟩) 1 1)) g (ofF m fun a => if a < i2 + 1 then .slice (if a = i2 then some ⟨wr.heap.size, 0, none⟩ else ra a) 1 (if a = i2 then 1 else rc a) else .slice none 0 0) 60) := by
                        have h1 := hbk2.setF i2 (.slice (some ⟨wr.heap.size, 0, none⟩) 1 1)
                        have e : (fun j => if j = i2 then Value.slice (some ⟨wr.heap.size, 0, none⟩) 1 1 else if j < i2 then .slice (ra j) 1 (rc j) else .slice none 0 0) = fun a => if a < i2 + 1 then .slice (if a = i2 then some ⟨wr.heap.size, 0, none⟩ else ra a) 1 (if a = i2 then 1 else rc a) else .slice none 0 0 := by
                          funext j
                          by_cases e : j = i2
                          · have h3 : j < i2 + 1 := by omega
                            rw [if_pos e, if_pos h3, if_pos e, if_pos e]
                          · rw [if_neg e]
                            by_cases h2 : j < i2
                            · have h3 : j < i2 + 1 := by omega
                              rw [if_pos h2, if_pos h3, if_neg e, if_neg e]
                            · have h3 : ¬ j < i2 + 1 := by omega
                              rw [if_neg h2, if_neg h3]
                        rw [← e]; exact h1
                      have HRS : Hid (∀ a, a < i2 + 1 → Rd ((wr.alloc (.cells #[.int .i64 (-1), .string (sA names i2)] 66)).setCell ⟨g, i2, none⟩ (.slice (some ⟨wr.heap.size, 0, none⟩) 1 1)) (if a = i2 then some ⟨wr.heap.size, 0, none⟩ else ra a) (fl encNd (ptK names l 0 a)) ∧ ∀ b off, (if a = i2 then some ⟨wr.heap.size, 0, none⟩ else ra a) = some ⟨b, off, none⟩ → b ≠ g) := fun a ha => by
                        by_cases e : a = i2
                        · rw [if_pos e, e]
                          exact ⟨rd_set (rd_of_blk hX (by simp [fl, encNd, ptK])) (fun b off e2 => by simp at e2; omega), fun b off e2 => by simp at e2; omega⟩
                        · rw [if_neg e]
                          obtain ⟨h1, h2⟩ := hrs.out a (by omega)
                          exact ⟨rd_set (h1.bl hba) h2, h2⟩
                      have HBT := Lib.hid ((hbt.trans (But.of_below hba)).set i2 (.slice (some ⟨wr.heap.size, 0, none⟩) 1 1))
                      rw [World.setCell_alloc_past _ g i2 _ hgX] at HSET HRS HBT
                      clear hc hX hba hbk hbk2 hbt hrs hbw
                      generalize sA names i2 = sx at *
                      go_wp2_with fail
                      go_roundw
                      case rel => exact ⟨i2 + 1, _, _, by omega, by go_num, HBT.out, HSET.out, HRS⟩
                      case measure => simp [intOf]; omega
                    · have hpt : PtI wr g m names l 0 ra rc := by
                        refine ⟨?_, fun a ha => (hrs.out a (by omega)).1, fun a ha => (hrs.out a (by omega)).2⟩
                        have e : (ofF m fun a => Value.slice (ra a) (ptK names l 0 a).length (rc a)) = ofF m fun a => if a < i2 then .slice (ra a) 1 (rc a) else .slice none 0 0 := ofF_congr fun a ha => by
                          rw [if_pos (by omega)]; rfl
                        rw [e]; exact hbk
                      clear hbk hrs
                      go_wp2_with fail
                      go_loopw [14] (fun x wr => ∃ (k : Nat) (ra : Nat → Option Addr) (rc : Nat → Nat), k ≤ N ∧ x = .int .i64 k ∧ But g w4 wr ∧ PtI wr g m names l k ra rc) (fun x _ => N - (intOf x).toNat)
                      case atStart => exact ⟨0, ra, rc, by omega, rfl, hbt, hpt⟩
                      case round =>
                        clear hbt hpt
                        obtain ⟨k, ra, rc, hk, rfl, hbt, hpt⟩ := hrel
                        have hbw : Below w.heap.size w wr := HB4.out.trans (hbt.below HB4.out.size hgw)
                        have HPT := Lib.hid hpt
                        have HBT := Lib.hid hbt
                        have HBW := Lib.hid hbw
                        clear hpt hbt hbw
                        by_cases hkN : k < N
                        · have hst := HOK.out.2 k (by rw [HN.out]; exact hkN)
                          have hall : ∀ i', i' < k → StepOk m l i' := fun i' hi' => HOK.out.2 i' (by rw [HN.out]; omega)
                          have hl1 := ptK_len (names := names) k hall
                          have hinv := stS_inv k hall
                          obtain ⟨h1, h2, h3, h4, h5, _⟩ := hst
                          obtain ⟨A, hA⟩ : ∃ A : Nat, mA l k = A := ⟨(mA l k).toNat, by omega⟩
                          obtain ⟨B, hB⟩ : ∃ B : Nat, mB l k = B := ⟨(mB l k).toNat, by omega⟩
                          have hA2 : (mA l k).toNat = A := by rw [hA]; rfl
                          have hB2 : (mB l k).toNat = B := by rw [hB]; rfl
                          rw [hA2] at h4
                          rw [hB2] at h5
                          rw [hA, hB] at h2
                          rw [hB] at h3
                          have lA := hl1 A h4
                          have lB := hl1 B h5
                          have sA' := hinv.le A
                          have sB' := hinv.le B
                          have wfA := ptK_wf names l k A
                          have wfB := ptK_wf names l k B
                          have HNX : Hid (ptK names l (k + 1) A = undr (undr [(-1, innS k)] (ptK names l k A)) (ptK names l k B)) := by
                            show (if A = (mA l k).toNat then _ else _) = _
                            rw [hA2, if_pos rfl, hB2]
                          obtain ⟨b, o, rfl, hbb, hcm⟩ := rdMg HLA.out (by rw [HN.out]; omega)
                          obtain ⟨G0, G1, _, _, _⟩ := hcm k (by rw [HN.out]; exact hkN)
                          rw [hA] at G0
                          rw [hB] at G1
                          obtain ⟨TA, hTA⟩ : ∃ T, T = ptK names l k A := ⟨_, rfl⟩
                          obtain ⟨TB, hTB⟩ : ∃ T, T = ptK names l k B := ⟨_, rfl⟩
                          have GA := HPT.out.blk.getF A (by omega)
                          have GB := HPT.out.blk.getF B (by omega)
                          have rdA := HPT.out.rd A (by omega)
                          have rdB := HPT.out.rd B (by omega)
                          rw [← hTA] at lA wfA HNX GA rdA
                          rw [← hTB] at lB wfB HNX GB rdB
                          have hblA : ∀ b off, ra A = some ⟨b, off, none⟩ → b < wr.heap.size := fun b off e => by
                            obtain ⟨b', o', e2, hb', _⟩ := rdA (by rw [encNd_fl]; have := wfA.1; omega)
                            rw [e] at e2; simp at e2; omega
                          have hblB : ∀ b off, ra B = some ⟨b, off, none⟩ → b < wr.heap.size := fun b off e => by
                            obtain ⟨b', o', e2, hb', _⟩ := rdB (by rw [encNd_fl]; have := wfB.1; omega)
                            rw [e] at e2; simp at e2; omega
                          have hgl : g < wr.heap.size := HPT.out.blk.lt
                          have HKW : Hid (∀ W, Below wr.heap.size wr W → W.cell? ⟨b, o + k * 5, none⟩ = some (.int .i64 A) ∧ W.cell? ⟨b, o + k * 5 + 1, none⟩ = some (.int .i64 B) ∧ W.cell? ⟨g, A, none⟩ = some (.slice (ra A) TA.length (rc A)) ∧ W.cell? ⟨g, B, none⟩ = some (.slice (ra B) TB.length (rc B)) ∧ Rd W (ra A) (fl encNd TA) ∧ Rd W (ra B) (fl encNd TB) ∧ W.frozen? ⟨g, A, none⟩ = false ∧ PtI W g m names l k ra rc) := fun W hW =>
                            ⟨((HBW.out.trans (hW.mono HBW.out.size)).cell (p := ⟨b, o + k * 5, none⟩) hbb).trans G0, ((HBW.out.trans (hW.mono HBW.out.size)).cell (p := ⟨b, o + k * 5 + 1, none⟩) hbb).trans G1, (hW.cell (p := ⟨g, A, none⟩) hgl).trans GA, (hW.cell (p := ⟨g, B, none⟩) hgl).trans GB, rdA.bl hW, rdB.bl hW, (HPT.out.below hW).blk.free A, HPT.out.below hW⟩
                          have HWA := Lib.hid wfA
                          have HWB := Lib.hid wfB
                          have HBA2 := Lib.hid (And.intro hblA hblB)
                          have HMA := Lib.hid hA2
                          clear hall hl1 hinv hA hB hA2 hB2 h4 h5 wfA wfB hcm G0 G1 hTA hTB GA GB rdA rdB hblA hblB
                          go_upto_region 32 with (go_at_call 77; refine (rinner_any k _ (by omega)).mono ?_; rintro e w5 ⟨rfl, hb5⟩)
                          have hX := Blk.new w5 #[.int .i64 (-1), .string (innS k)] 66
                          have hb6 := bl_alloc hb5 (.cells #[.int .i64 (-1), .string (innS k)] 66)
                          have hown6 : (w5.alloc (.cells #[.int .i64 (-1), .string (innS k)] 66)).ownsRow wr.heap.size 66 2 (.slice (some ⟨w5.heap.size, 0, none⟩) 1 1) 1 (fl encNd [(-1, innS k)]) := by
                            have := owns_made (w := w5) (base := wr.heap.size) (e := 66) (k := 2) (n := 1) (cs := #[.int .i64 (-1), .string (innS k)]) hb5.size rfl (by unfold maxLen; omega)
                            exact this
                          obtain ⟨w6, hw6⟩ : ∃ w6, w6 = w5.alloc (.cells #[.int .i64 (-1), .string (innS k)] 66) := ⟨_, rfl⟩
                          obtain ⟨X, hXe⟩ : ∃ X, X = w5.heap.size := ⟨_, rfl⟩
                          rw [← hw6] at hb6 hown6 ⊢
                          rw [← hXe] at hown6 ⊢
                          have hXl : wr.heap.size ≤ X := by rw [hXe]; exact hb5.size
                          obtain ⟨c0, c1', c2', c3', r2, r3, _, _⟩ := HKW.out w6 hb6
                          have HB6 := Lib.hid hb6
                          have HOW6 := Lib.hid hown6
                          have HR2 := Lib.hid r2
                          clear hw6 hXe hX hb5 hb6 hown6 r2 r3
                          have H78 : Hid (Calls Tryd.prog 78 #[.slice (some ⟨X, 0, none⟩) 1 1, .slice (ra A) TA.length (rc A)] w6 fun e w' => ∃ v', e = .returned v' ∧ w'.ownsRow wr.heap.size 66 2 v' (1 + TA.length) (fl encNd (undr [(-1, innS k)] TA)) ∧ w6.grownBy w' (some X)) :=
                            (under_any wr.heap.size (some ⟨X, 0, none⟩) (ra A) 1 1 TA.length (rc A) [(-1, innS k)] TA w6 HB6.out.size rfl rfl (by omega) (by omega) HOW6.out HR2.out (fun b off e e2 => by simp [Value.ownBlock] at e2; have := HBA2.out.1 b off e; omega) (fun i h0 hi => by have := HWA.out.2 i h0 hi; omega)).mono fun e w' ⟨v', k1, k2, k3, _⟩ => ⟨v', k1, k2, k3⟩
                          go_upto_region 33 with (go_at_call 78; refine H78.out.mono ?_; rintro e w7 ⟨v7, rfl, hown7, hg7⟩; obtain ⟨a7, c7, rfl, hac7⟩ := owns_slice hown7)
                          have hb7 := Below.grown HB6.out hg7 HB6.out.size (fun r hr => by have := Option.some.inj hr; omega)
                          have HB7 := Lib.hid hb7
                          obtain ⟨c4, c5, c6, c7', r4, r5, f6, _⟩ := HKW.out w7 hb7
                          have HR5 := Lib.hid r5
                          have HOW7 := Lib.hid hown7
                          have hv7 : ∀ r, (Value.slice a7 (1 + TA.length) c7).ownBlock = some r → wr.heap.size ≤ r := fun r hr => (hown7.lt r hr).1
                          have HV7 := Lib.hid hv7
                          have h7 : (undr [(-1, innS k)] TA).length = 1 + TA.length := by rw [undr_len]; rfl
                          have H79 : Hid (∀ nq, Calls Tryd.prog 78 #[.slice a7 (1 + TA.length) c7, .slice (ra B) TB.length (rc B)] (w7.drewN nq) fun e w' => ∃ v', e = .returned v' ∧ w'.ownsRow wr.heap.size 66 2 v' (1 + TA.length + TB.length) (fl encNd (undr (undr [(-1, innS k)] TA) TB)) ∧ Below wr.heap.size wr w') := fun nq =>
                            (under_any wr.heap.size a7 (ra B) (1 + TA.length) c7 TB.length (rc B) (undr [(-1, innS k)] TA) TB (w7.drewN nq) HB7.out.size h7 rfl (by omega) (by omega) (HOW7.out.drewNo nq) (HR5.out.drewN nq) (fun b off e e2 => by have h8 := HV7.out b e2.symm; have := HBA2.out.2 b off e; omega) (fun i h0 hi => by have := HWB.out.2 i h0 hi; omega)).mono fun e w' ⟨v', k1, k2, k3, _⟩ => ⟨v', k1, k2, Below.grown (bl_drewN HB7.out nq) k3 HB7.out.size (fun r hr => HV7.out r hr)⟩
                          clear hg7 hb7 r4 r5 hown7 hv7 c0 c1' c2' c3' h7 H78
                          have hbg : ¬ (b = g) := by omega
                          have hgb : ¬ (g = b) := by omega
                          have hBA : ¬ (B = A) := by omega
                          have hAB : ¬ (A = B) := by omega
                          have iA1 : (0 : Int) ≤ A := by omega
                          have iA2 : (A : Int) < m := by omega
                          have iB2 : (B : Int) < m := by omega
                          have HLN : Hid ((ptK names l (k + 1) A).length = 1 + TA.length + TB.length) := by show _ = _; rw [HNX.out, undr_len, undr_len]; rfl
                          have HSTO : Hid (∀ w8 a8 c8, w8.ownsRow wr.heap.size 66 2 (.slice a8 (1 + TA.length + TB.length) c8) (1 + TA.length + TB.length) (fl encNd (undr (undr [(-1, innS k)] TA) TB)) → Below wr.heap.size wr w8 → PtI (w8.setCell ⟨g, A, none⟩ (.slice a8 (1 + TA.length + TB.length) c8)) g m names l (k + 1) (fun a => if a = A then a8 else ra a) (fun a => if a = A then c8 else rc a) ∧ But g w4 (w8.setCell ⟨g, A, none⟩ (.slice a8 (1 + TA.length + TB.length) c8))) := fun w8 a8 c8 hown8 hb8 => by
                            obtain ⟨_, _, _, _, _, _, _, hp8⟩ := HKW.out w8 hb8
                            refine ⟨?_, (HBT.out.trans (But.of_below hb8)).set A _⟩
                            have h1 := hp8.set HMA.out.symm (a3 := a8) (c3 := c8) (by rw [HNX.out]; exact rd_of_owns hown8) (fun b off e => by
                              have := hown8.lt b (by rw [e]; rfl)
                              omega)
                            rw [HLN.out] at h1
                            exact h1
                          go_region_held3 (fun w' => w'.cell? ⟨b, o + k * 5, none⟩ = some (.int .i64 A) ∧ w'.cell? ⟨b, o + k * 5 + 1, none⟩ = some (.int .i64 B) ∧ w'.cell? ⟨g, B, none⟩ = some (.slice (ra B) TB.length (rc B))) (go_keep) ((go_at_call 78; refine (H79.out 1).mono ?_; rintro e w8 ⟨v8, rfl, hown8, hb8⟩; obtain ⟨a8, c8, rfl, hac8⟩ := owns_slice hown8; obtain ⟨s0, s1, s2, s3, _, _, f8, _⟩ := HKW.out w8 hb8; have HST8 := Lib.hid (HSTO.out w8 a8 c8 hown8 hb8); have s4 : (w8.setCell ⟨g, A, none⟩ (.slice a8 (1 + TA.length + TB.length) c8)).cell? ⟨g, B, none⟩ = some (.slice (ra B) TB.length (rc B)) := (World.cell?_setCell_other _ _ _ _ (fun e => hAB (congrArg Addr.off e))).trans s3; clear hown8 hb8))
                          go_wp2_with fail
                          go_roundw
                          case rel => exact ⟨k + 1, _, _, by omega, by go_num, HST8.out.2, HST8.out.1⟩
                          case measure => simp [intOf]; omega
                        · have ek : k = l.length := by rw [HN.out]; omega
                          have HTL := Lib.hid (treeL_pt HE.out hm1 hm2 HOK.out)
                          have G0 := HPT.out.blk.getF 0 (by omega)
                          have HR0 := Lib.hid (HPT.out.rd 0 (by omega))
                          rw [ek, ← HTL.out] at G0 HR0
                          clear ek
                          go_wp2_with fail
                          go_ret2
                          exact ⟨_, _, by rw [HE.out]; rfl, HR0.out, HBW.out⟩
        · have t1 : ((m : Int) != (M : Int)) = false := by simp; omega
          have he := Lib.hid (show treeE (M : Int) names l = 2 by rw [treeE, if_neg HR.out, if_pos (fun h => q4 (by simpa using h.2))])
          have hd : Hid (decide (StepsOk M l) = false) := decide_eq_false q4
          clear q3 q4
          go_enter Tryd.func39, Tryd.ntmps39
          go_wp2_with (go_at_call 74; refine (clustering_any la M N c2 l _ hm1 hm2 HN.out hNx HLA.out).mono ?_; rintro e w1 ⟨rfl, hb1⟩; rw [hd.out])
          go_ret2
          exact RtPost.err he.out (by decide) hb1
      · have t1 : ((m : Int) != (M : Int)) = true := by simp; omega
        have he := Lib.hid (show treeE (M : Int) names l = 2 by rw [treeE, if_neg HR.out, if_pos (fun h => q3 (by have := h.1; rw [HM.out] at this; omega))])
        clear q3
        go_enter Tryd.func39, Tryd.ntmps39
        go_wp2_with fail
        go_ret2
        exact RtPost.err he.out (by decide) (Below.refl _ _)
end Go.Proofs.YtahgffjkkdbjeaaDoor
